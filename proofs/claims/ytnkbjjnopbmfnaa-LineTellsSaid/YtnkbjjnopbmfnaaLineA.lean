/- What the helpers of the line readers answer: none, told, the document's line. Conditions: those in each theorem. -/
import Derived.Test.YtnkbjjnopbmfnaaOutS
namespace Go.Proofs.Ytnkbjjnopbmfnaa
open Go.RowKit Go.As
set_option linter.unusedVariables false

/-- is it a byte of a fine line? -/
def fineB (c : UInt8) : Bool := !(decide ((c.toNat : Int) < 32) || decide (126 < (c.toNat : Int)))
/-- a line that has ended: its kind and text -/
def toldL (l : List UInt8) : Int × List UInt8 := if l.all fineB then (0, l) else (2, [])

theorem all_take {l : List UInt8} {k : Nat} (hk : k < l.length) (h : (l.take k).all fineB = true) (hx : fineB l[k] = true) : (l.take (k + 1)).all fineB = true := by
  rw [List.take_succ_eq_append_getElem hk]
  simp only [List.all_append, List.all_cons, List.all_nil, Bool.and_true, Bool.and_eq_true]
  exact ⟨h, hx⟩
theorem all_no {l : List UInt8} {k : Nat} (hk : k < l.length) (hx : fineB l[k] = false) : l.all fineB = false := by
  simp only [List.all_eq_false]
  exact ⟨l[k], List.getElem_mem _, by simp [hx]⟩


set_option maxHeartbeats 800000 in
theorem told_any (A : Option Addr) (n c : Nat) (l : List UInt8) (w : World) (ha : Sl w 1 A n (byt l)) (hn : n ≤ maxLen) :
    Calls Try.prog 43 #[.slice A n c] w fun e w' => e = .returned (.agg #[.int .i64 (toldL l).1, .string (str (toldL l).2)]) ∧ Below w.heap.size w w' := by
  have hl : l.length = n := by have := ha.len1; simpa [byt] using this
  have hrun := run_strB (P := Try.prog) 33 9 5 A n c l (ha.below ((Below.refl w.heap.size w).alloc (Nat.le_refl _) (.cells #[.int .i64 0, .string (str [])] 74))) Try.underlying33 Try.underlying5 Try.underlying9
  have HA := Lib.hid (ha.below ((Below.refl w.heap.size w).alloc (Nat.le_refl _) (.cells #[.int .i64 0, .string (str [])] 74)))
  have HL := Lib.hid hl
  have hb : ∀ o, Below w.heap.size w (w.alloc o) := fun o => (Below.refl _ _).alloc (Nat.le_refl _) _
  have HB := Lib.hid hb
  clear ha hb
  unfold maxLen at hn
  go_enter Try.func43, Try.ntmps43
  go_wp2_with fail
  go_loop [4, 7] (fun _ i => ∃ k : Nat, k ≤ n ∧ i = .int .i64 k ∧ (l.take k).all fineB = true) (fun _ i => n - (intOf i).toNat)
  case atStart => exact ⟨0, by omega, rfl, by simp⟩
  case round =>
    obtain ⟨k, hk, rfl, he⟩ := hrel
    have HE := Lib.hid he
    clear he
    by_cases hlt : k < n
    · obtain ⟨ad, u, hA, -, hu, hc⟩ := HA.out.at1 hlt
      subst hA
      obtain ⟨x, hx, rfl⟩ := byt_get hu
      have hkl : k < l.length := by omega
      have hxk : x = l[k] := by rw [List.getElem?_eq_getElem hkl] at hx; exact (Option.some.inj hx).symm
      clear hu hx
      by_cases h1 : (x.toNat : Int) < 32
      · have HF := Lib.hid (all_no hkl (by rw [← hxk]; simp [fineB]; omega))
        clear hxk
        go_wp2_with fail
        (try simp only [Exit.inBlock, Exit.then])
        refine bodyPost_ret (v := .agg #[.int .i64 2, .string (str [])]) (results_cell_row rfl _ _ w.heap.size 74 _ _ _ rfl (heap_alloc_new _ _) Try.underlying74 rfl (by kernel_rfl)) rfl ?_
        refine ⟨?_, HB.out _⟩
        simp [toldL, HF.out]
      by_cases h2 : 126 < (x.toNat : Int)
      · have HF := Lib.hid (all_no hkl (by rw [← hxk]; simp [fineB]; omega))
        clear hxk
        go_wp2_with fail
        (try simp only [Exit.inBlock, Exit.then])
        refine bodyPost_ret (v := .agg #[.int .i64 2, .string (str [])]) (results_cell_row rfl _ _ w.heap.size 74 _ _ _ rfl (heap_alloc_new _ _) Try.underlying74 rfl (by kernel_rfl)) rfl ?_
        refine ⟨?_, HB.out _⟩
        simp [toldL, HF.out]
      · have HF := Lib.hid (all_take hkl HE.out (by rw [← hxk]; simp [fineB]; omega))
        clear hxk
        go_wp2_with fail
        go_round
        case rel => exact ⟨k + 1, by omega, by go_num, HF.out⟩
        case measure => simp [intOf]; omega
    · go_wp2_with fail
      (try simp only [Exit.inBlock, Exit.then])
      refine bodyPost_ret (v := .agg #[.int .i64 0, .string (str l)]) (results_cell_row rfl _ _ w.heap.size 74 _ _ _ rfl (heap_alloc_new _ _) Try.underlying74 rfl (by kernel_rfl)) rfl ?_
      refine ⟨?_, HB.out _⟩
      have := HE.out
      rw [List.take_of_length_le (by rw [HL.out]; omega)] at this
      simp [toldL, this]

set_option maxHeartbeats 800000 in
theorem rline_any (A : Option Addr) (n c : Nat) (l : List UInt8) (w : World) (ha : Sl w 1 A n (byt l)) (hn : n ≤ maxLen) :
    Calls Try.prog 44 #[.slice A n c] w fun e w' => e = .returned (.agg #[.int .i64 (toldL l).1, .string (str (toldL l).2)]) ∧ Below w.heap.size w w' := by
  have hl : l.length = n := by have := ha.len1; simpa [byt] using this
  have hrun := run_strB (P := Try.prog) 33 9 5 A n c l (ha.below ((Below.refl w.heap.size w).alloc (Nat.le_refl _) (.cells #[.int .i64 0, .string (str [])] 74))) Try.underlying33 Try.underlying5 Try.underlying9
  have HA := Lib.hid (ha.below ((Below.refl w.heap.size w).alloc (Nat.le_refl _) (.cells #[.int .i64 0, .string (str [])] 74)))
  have HL := Lib.hid hl
  have hb : ∀ o, Below w.heap.size w (w.alloc o) := fun o => (Below.refl _ _).alloc (Nat.le_refl _) _
  have HB := Lib.hid hb
  clear ha hb
  unfold maxLen at hn
  go_enter Try.func44, Try.ntmps44
  go_wp2_with fail
  go_loop [3] (fun i => ∃ k : Nat, k ≤ n ∧ i = .int .i64 k ∧ (l.take k).all fineB = true) (fun i => n - (intOf i).toNat)
  case atStart => exact ⟨0, by omega, rfl, by simp⟩
  case round =>
    obtain ⟨k, hk, rfl, he⟩ := hrel
    have HE := Lib.hid he
    clear he
    by_cases hlt : k < n
    · obtain ⟨ad, u, hA, -, hu, hc⟩ := HA.out.at1 hlt
      subst hA
      obtain ⟨x, hx, rfl⟩ := byt_get hu
      have hkl : k < l.length := by omega
      have hxk : x = l[k] := by rw [List.getElem?_eq_getElem hkl] at hx; exact (Option.some.inj hx).symm
      clear hu hx
      by_cases h1 : (x.toNat : Int) < 32
      · have HF := Lib.hid (all_no hkl (by rw [← hxk]; simp [fineB]; omega))
        clear hxk
        go_wp2_with fail
        (try simp only [Exit.inBlock, Exit.then])
        refine bodyPost_ret (v := .agg #[.int .i64 2, .string (str [])]) (results_cell_row rfl _ _ w.heap.size 74 _ _ _ rfl (heap_alloc_new _ _) Try.underlying74 rfl (by kernel_rfl)) rfl ?_
        refine ⟨?_, HB.out _⟩
        simp [toldL, HF.out]
      by_cases h2 : 126 < (x.toNat : Int)
      · have HF := Lib.hid (all_no hkl (by rw [← hxk]; simp [fineB]; omega))
        clear hxk
        go_wp2_with fail
        (try simp only [Exit.inBlock, Exit.then])
        refine bodyPost_ret (v := .agg #[.int .i64 2, .string (str [])]) (results_cell_row rfl _ _ w.heap.size 74 _ _ _ rfl (heap_alloc_new _ _) Try.underlying74 rfl (by kernel_rfl)) rfl ?_
        refine ⟨?_, HB.out _⟩
        simp [toldL, HF.out]
      · have HF := Lib.hid (all_take hkl HE.out (by rw [← hxk]; simp [fineB]; omega))
        clear hxk
        go_wp2_with fail
        go_round
        case rel => exact ⟨k + 1, by omega, by go_num, HF.out⟩
        case measure => simp [intOf]; omega
    · go_wp2_with fail
      (try simp only [Exit.inBlock, Exit.then])
      refine bodyPost_ret (v := .agg #[.int .i64 0, .string (str l)]) (results_cell_row rfl _ _ w.heap.size 74 _ _ _ rfl (heap_alloc_new _ _) Try.underlying74 rfl (by kernel_rfl)) rfl ?_
      refine ⟨?_, HB.out _⟩
      have := HE.out
      rw [List.take_of_length_le (by rw [HL.out]; omega)] at this
      simp [toldL, this]
end Go.Proofs.Ytnkbjjnopbmfnaa
