/- What LentBytes and KeptBytes answer. Conditions: at most 2^20 bytes. -/
import Derived.Test.YtldkcfhigcmoaaaDoorBytFn
import Derived.Test.YtldkcfhigcmoaaaDoorPlan
import Derived.Laws.CopyOwn
import Derived.Laws.OwnMore
namespace Go.Proofs.YtldkcfhigcmoaaaDoor
open Go.RowKit Go.As
set_option linter.unusedVariables false

def markB (n : Nat) : UInt8 := UInt8.ofNat (160 + n % 90)
def marksL (n : Nat) : List UInt8 := [markB n, markB (n + 1), markB (n + 2)]
theorem markB_nat (n : Nat) : ((markB n).toNat : Int) = 160 + (n : Int) % 90 := by
  unfold markB
  rw [UInt8.toNat_ofNat']
  omega
def lentL (l : List UInt8) (n j : Nat) : List UInt8 := l ++ ((marksL n).take j ++ List.replicate (3 - j) 0)
theorem lentL_set {l : List UInt8} {n j : Nat} (hl : l.length = n) (hj : j < 3) : (lentL l n j).set (n + j) (markB (n + j)) = lentL l n (j + 1) := by
  unfold lentL
  rw [List.set_append_right _ _ (by omega), show n + j - l.length = j by omega]
  congr 1
  rcases (show j = 0 ∨ j = 1 ∨ j = 2 by omega) with rfl | rfl | rfl <;> rfl
theorem lentL_len (l : List UInt8) (n j : Nat) (hj : j ≤ 3) : (lentL l n j).length = l.length + 3 := by
  unfold lentL
  rw [List.length_append, List.length_append, List.length_take, List.length_replicate]
  simp [marksL]; omega
theorem made_byt (n : Nat) : madeCells (Value.int .u8 0).cells (n * 1) = (byt (List.replicate n 0)).toArray := by
  apply Array.ext'
  rw [show (Value.int .u8 0).cells = #[.int .u8 0] from rfl, toList_madeCells_one, Nat.mul_one]
  simp [byt]
theorem splice_lent {l : List UInt8} {n : Nat} (hl : l.length = n) : splice (byt (List.replicate (n + 3) 0)) 0 (byt l) = byt (lentL l n 0) := by
  simp only [splice, List.take_zero, List.nil_append, Nat.zero_add, byt_len, byt_drop, ← byt_app]
  congr 1
  unfold lentL
  simp [hl]

set_option maxRecDepth 100000 in
set_option maxHeartbeats 1600000 in
theorem lent_any (A : Option Addr) (n c : Nat) (l : List UInt8) (w : World) (ha : Sl w 1 A n (byt l)) (hn : n ≤ 1048576) :
    Calls Tryd.prog 13 #[.slice A n c] w fun e w' => e = .returned (.slice (some ⟨w.heap.size, 0, none⟩) n (n + 3)) ∧ RowB w' w.heap.size 5 (.slice (some ⟨w.heap.size, 0, none⟩) n (n + 3)) l (marksL n) ∧ Below w.heap.size w w' := by
  have hl : l.length = n := by have := ha.len1; simpa [byt] using this
  have hmk : ∀ W, (Instr.makeSlice 23 (.int .i64 ((n : Int) + 3)) (.int .i64 ((n : Int) + 3))).run Tryd.prog W = .ok (.slice (some ⟨W.heap.size, 0, none⟩) (n + 3) (n + 3)) (W.alloc (.cells (byt (List.replicate (n + 3) 0)).toArray 5)) := by
    intro W
    have := run_make_zero (P := Tryd.prog) 23 5 _ 1 1 Tryd.underlying23 byteInfo .i64 .i64 (n + 3) (by omega) (by omega) W
    rw [made_byt] at this
    exact this
  have HA := Lib.hid ha
  have HL := Lib.hid hl
  have hsz1 : (Tryd.prog.info? 5).map (·.size) = some 1 := by kernel_rfl
  have HZ := Lib.hid hsz1
  clear ha hl hsz1
  have hrun := run_slice_hi (P := Tryd.prog) 23 5 _ 1 1 Tryd.underlying23 byteInfo (some ⟨w.heap.size, 0, none⟩) (n + 3) (n + 3) .i64 (n : Int) (by omega) (by omega)
  rw [show ((n : Int)).toNat = n by omega] at hrun
  go_enter Tryd.func13, Tryd.ntmps13
  go_wp2_with (first
    | (refine wpList_copy_splice rfl _ _ _ _ rfl 5 Tryd.underlying23 HZ.out (some ⟨w.heap.size, 0, none⟩) A (n + 3) (n + 3) n c rfl rfl w.heap.size 0 (byt (List.replicate (n + 3) 0)) 5 (heap_alloc_new w _) (byt l) (by rw [byt_len, HL.out]; exact (Nat.min_eq_left (by omega)).symm) (fun h0 => ⟨rfl, by
        rw [byt_len, HL.out] at h0
        obtain ⟨ad, e, -, hc⟩ := (HA.out.below ((Below.refl w.heap.size w).alloc (Nat.le_refl _) (.cells (byt (List.replicate (n + 3) 0)).toArray 5))).2 h0
        exact ⟨ad, e, hc⟩⟩) (by rw [byt_len, byt_len, HL.out, List.length_replicate]; omega) (byt_one l) w.heap.size w ((Below.refl w.heap.size w).alloc (Nat.le_refl _) _) (Nat.le_refl _) ?_
       intro w2 hg2 hb2
       have HG2 := Lib.hid (show Blk w2 w.heap.size 5 (byt (lentL l n 0)).toArray ∧ Below w.heap.size w w2 from ⟨by have := hg2.out; rw [splice_lent HL.out] at this; exact this, hb2⟩)
       clear hg2 hb2))
  go_loopw [4] (fun i wr => ∃ j : Nat, j ≤ 3 ∧ i = .int .i64 (n + j : Nat) ∧ Blk wr w.heap.size 5 (byt (lentL l n j)).toArray ∧ Below w.heap.size w wr) (fun i _ => n + 3 - (intOf i).toNat)
  case atStart => exact ⟨0, by omega, by simp, HG2.out.1, HG2.out.2⟩
  case round =>
    clear HG2
    obtain ⟨j, hj, rfl, hblk, hb⟩ := hrel
    have HB := Lib.hid (And.intro hblk hb)
    clear hblk hb
    by_cases hlt : j < 3
    · have hc : (wr.cell? ⟨w.heap.size, n + j, none⟩).isSome = true := by
        rw [HB.out.1.cell]
        simp [byt, lentL_len l n j hj, HL.out]; omega
      obtain ⟨u, hu⟩ := Option.isSome_iff_exists.1 hc
      have hf := HB.out.1.frozen (n + j)
      have hm : IntKind.u8.wrap (160 + IntKind.i64.wrap (((n : Int) + (j : Int)).tmod 90)) = ((markB (n + j)).toNat : Int) := by
        rw [markB_nat, IntKind.wrap_i64, IntKind.wrap_u8, Int.tmod_eq_emod_of_nonneg (by omega)]
        omega
      clear hc
      go_wp2_with fail
      have he : (160 + ((n : Int) + (j : Int)) % 90) = ((markB (n + j)).toNat : Int) := by rw [markB_nat]; omega
      rw [he]
      have hset := HB.out.1.set_ (n + j) (.int .u8 (markB (n + j)).toNat)
      rw [byt_set, lentL_set HL.out hlt] at hset
      exact ⟨⟨j + 1, by omega, by go_num, hset, HB.out.2.setCell (p := ⟨w.heap.size, n + j, none⟩) (Nat.le_refl _) _⟩, by simp [intOf]; omega⟩
    · obtain rfl : j = 3 := by omega
      go_wp2_with fail
      go_ret
      refine ⟨rfl, .inr ⟨w.heap.size, ?_, Nat.le_refl _, HB.out.1, ?_⟩, HB.out.2⟩
      · rw [HL.out]; rfl
      · rw [HL.out]; simp [marksL, maxLen]; omega

set_option maxRecDepth 100000 in
set_option maxHeartbeats 1600000 in
theorem kept_ok (A B : Option Addr) (n d base : Nat) (l : List UInt8) (w : World) (ha : RowB w base 5 (.slice A n (n + 3)) l (marksL n)) (hb : Sl w 1 B n (byt l)) (hn : n ≤ 1048576) :
    Calls Tryd.prog 18 #[.slice A n (n + 3), .slice B n d] w fun e w' => e = .returned (.bool true) ∧ Below w.heap.size w w' := by
  have hl : l.length = n := by have := hb.len1; simpa [byt] using this
  have hcut := fun (A : Option Addr) => run_slice_hi (P := Tryd.prog) 23 5 _ 1 1 Tryd.underlying23 byteInfo A n (n + 3) .i64 ((n : Int) + 3) (by omega) (by omega)
  rw [show ((n : Int) + 3).toNat = n + 3 by omega] at hcut
  have hsA : Sl w 1 A (n + 3) (byt (l ++ marksL n)) := by
    have := ha.sl_all
    rw [hl] at this
    exact this
  have hwr : IntKind.i64.wrap ((n : Int) + 3) = (n : Int) + 3 := by rw [IntKind.wrap_i64]; omega
  have HA := Lib.hid (And.intro hsA hb)
  clear ha hb hsA
  go_enter Tryd.func18, Tryd.ntmps18
  go_wp2_with fail
  refine wp_region_plan (.take 0 <| .take 1 <| .take 2 <| .take 3 <| .take 4 <| .take 5 <| .take 6 <| .take 7 <| .take 8 <| .take 9 <| .take 10 <| .take 12 <| .take 13 <| .take 14 <| .run 11 <| .take 15 <| .run 16 <| .take 17 <| .take 18 <| .done) (by kernel_rfl) (by kernel_rfl) (by kernel_rfl) (by kernel_rfl) ?_
  go_wp2_with (first
    | (go_at_call 13
       refine (lent_any B n d l _ (by exact HA.out.2) hn).mono ?_
       rintro e w3 ⟨rfl, hr, hb3⟩
       have hs3 := hr.sl_all
       rw [hl] at hs3
       have hbw : Below w.heap.size w w3 := below_then (Below.refl _ _).drew hb3
       have H3 := Lib.hid (And.intro (show Sl w3 1 _ (n + 3) (byt (l ++ marksL n)) from hs3) hbw)
       clear hr hb3 hs3 hbw)
    | (go_at_call 19
       refine (sameBytes_any _ _ (n + 3) (n + 3) _ _ (l ++ marksL n) (l ++ marksL n) _ (HA.out.1.below H3.out.2) H3.out.1).mono ?_
       rintro e w' ⟨rfl, rfl⟩)
    | ((with_reducible refine wpPlan_isTake ?_); refine wpPlan_take (v := ?_) rfl ?_ (fun w => ?_) ?_; rotate_left 1; (focus rfl); (focus (first | (go_simp; done) | (go_simp; with_reducible rfl))); simp only [Act.put, List.setIfInBounds_toArray, List.set_cons_zero, List.set_cons_succ]) | ((with_reducible refine wpPlan_isTake ?_); refine wpPlan_skip rfl ?_ ?_; (focus rfl); simp only [Act.put, List.setIfInBounds_toArray, List.set_cons_zero, List.set_cons_succ]) | ((with_reducible refine wpPlan_isRun ?_); refine wpPlan_run rfl (fun K hK => ?_); go_simp) | ((with_reducible refine wpPlan_alt ?_ ?_)) | ((with_reducible refine wpPlan_done ?_)))
  go_ret
  exact ⟨rfl, H3.out.2⟩
end Go.Proofs.YtldkcfhigcmoaaaDoor
