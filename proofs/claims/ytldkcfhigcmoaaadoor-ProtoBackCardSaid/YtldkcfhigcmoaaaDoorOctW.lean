/- What Words answers, the program's. Conditions: those in the theorem. -/
import Derived.Test.YtldkcfhigcmoaaaDoorOctB
namespace Go.Proofs.YtldkcfhigcmoaaaDoor
open Go.RowKit Go.As
set_option linter.unusedVariables false

theorem strInfo : (Tryd.prog.info? 9).map (fun i => (i.zero, i.size, i.bytes)) = some (some (.string (str [])), 1, 16) := by kernel_rfl
theorem txC_one (l : List UInt8) : ∀ u ∈ txC l, u.oneCell' = true := by
  intro u hu
  simp only [txC, List.mem_singleton] at hu
  subst hu; rfl
/-- a row of texts of the call's own -/
def TxRow (w w0 : World) (v : Value) (l : List (List UInt8)) : Prop := w.ownsRow w0.heap.size 9 1 v l.length (l.flatMap txC)

/-- where the splitting stands, k bytes gone through, the piece in hand from 'f' on -/
def WAt (s : List UInt8) (k f : Nat) (out : List (List UInt8)) : Prop :=
  (k ≤ s.length ∧ f ≤ k ∧ splitW (s.take k) = out ++ [(s.take k).drop f] ∧ (s.take k).all okB = true ∧ ∀ x ∈ out, x ≠ []) ∨ (k = s.length + 1 ∧ splitW s = out ∧ s.all okB = true ∧ ∀ x ∈ out, x ≠ [])
theorem okB_iff (c : UInt8) : okB c = false ↔ (c.toNat : Int) < 32 ∨ 126 < (c.toNat : Int) := by
  simp only [okB, decide_eq_false_iff_not]; omega
theorem ok_take {s : List UInt8} {k : Nat} (hk : k < s.length) (h : (s.take k).all okB = true) (hx : okB s[k] = true) : (s.take (k + 1)).all okB = true := by
  rw [List.take_succ_eq_append_getElem hk]
  simp only [List.all_append, List.all_cons, List.all_nil, Bool.and_true, Bool.and_eq_true]
  exact ⟨h, hx⟩
theorem drop_take_succ {s : List UInt8} {k f : Nat} (hk : k < s.length) (hf : f ≤ k) : (s.take (k + 1)).drop f = (s.take k).drop f ++ [s[k]] := by
  rw [List.take_succ_eq_append_getElem hk, List.drop_append]
  rw [show f - (s.take k).length = 0 by rw [List.length_take]; omega]
  rfl
theorem WAt.byte {s : List UInt8} {k f : Nat} {out : List (List UInt8)} (h : WAt s k f out) (hk : k < s.length) (hx : okB s[k] = true) (h32 : s[k] ≠ 32) : WAt s (k + 1) f out := by
  rcases h with ⟨h1, h2, h3, h4, h5⟩ | ⟨h1, -⟩
  · left
    refine ⟨by omega, by omega, ?_, ok_take hk h4 hx, h5⟩
    have := splitW_snoc (s.take k) s[k] out _ h3
    rw [if_neg h32] at this
    rw [drop_take_succ hk h2, ← this, List.take_succ_eq_append_getElem hk]
  · omega
theorem WAt.blank {s : List UInt8} {k f : Nat} {out : List (List UInt8)} (h : WAt s k f out) (hk : k < s.length) (h32 : s[k] = 32) (hf : k ≠ f) : WAt s (k + 1) (k + 1) (out ++ [(s.take k).drop f]) := by
  rcases h with ⟨h1, h2, h3, h4, h5⟩ | ⟨h1, -⟩
  · left
    refine ⟨by omega, by omega, ?_, ok_take hk h4 (by rw [h32]; decide), ?_⟩
    · have := splitW_snoc (s.take k) s[k] out _ h3
      rw [if_pos h32] at this
      have hd : (s.take k ++ [s[k]]).drop (k + 1) = [] := List.drop_of_length_le (by simp; omega)
      rw [List.take_succ_eq_append_getElem hk, this, hd]
    · intro x hx
      rcases List.mem_append.1 hx with h | h
      · exact h5 x h
      · rw [List.mem_singleton] at h
        subst h
        intro e
        have := congrArg List.length e
        rw [List.length_drop, List.length_take] at this
        simp at this; omega
  · omega
theorem WAt.stop {s : List UInt8} {k f : Nat} {out : List (List UInt8)} (h : WAt s k f out) (hk : k = s.length) (hf : k ≠ f) : WAt s (k + 1) (k + 1) (out ++ [(s.take k).drop f]) := by
  subst hk
  rcases h with ⟨h1, h2, h3, h4, h5⟩ | ⟨h1, -⟩
  · right
    rw [List.take_of_length_le (Nat.le_refl _)] at h3 h4 ⊢
    refine ⟨rfl, h3, h4, ?_⟩
    intro x hx
    rcases List.mem_append.1 hx with h | h
    · exact h5 x h
    · rw [List.mem_singleton] at h
      subst h
      intro e
      have := congrArg List.length e
      rw [List.length_drop] at this
      simp at this; omega
  · omega
/-- an empty piece -/
theorem WAt.empty {s : List UInt8} {k f : Nat} {out : List (List UInt8)} (h : WAt s k f out) (hk : k ≤ s.length) (hf : k = f) (hb : k = s.length ∨ ∃ h : k < s.length, s[k] = 32) : wordsE s = (4, []) := by
  rcases h with ⟨h1, h2, h3, h4, h5⟩ | ⟨h1, -⟩
  · rw [← hf, List.drop_of_length_le (by rw [List.length_take]; omega)] at h3
    rcases hb with hb | ⟨hk, h32⟩
    · rw [List.take_of_length_le (by omega)] at h3
      exact wordsE_empty (by rw [h3]; simp)
    · have h6 := splitW_snoc (s.take k) s[k] out [] h3
      rw [if_pos h32, ← List.take_succ_eq_append_getElem hk] at h6
      obtain ⟨c', o', h7⟩ := splitW_mem (s.take (k + 1)) (s.drop (k + 1)) _ _ h6
      rw [List.take_append_drop] at h7
      exact wordsE_empty (by rw [h7]; simp)
  · omega
theorem WAt.done {s : List UInt8} {f : Nat} {out : List (List UInt8)} (h : WAt s (s.length + 1) f out) : wordsE s = if 64 < out.length then (3, []) else (0, out) := by
  rcases h with ⟨h1, -⟩ | ⟨-, h2, h3, h4⟩
  · omega
  · subst h2
    exact wordsE_ok h3 h4
theorem WAt.len {s : List UInt8} {k f : Nat} {out : List (List UInt8)} (h : WAt s k f out) : out.length ≤ s.length + 1 := by
  have key : ∀ l : List UInt8, (splitW l).length ≤ l.length + 1 := by
    intro l
    induction l with
    | nil => simp [splitW]
    | cons c r ih =>
      simp only [splitW]
      split
      · simp; omega
      · split
        · simp
        · rename_i h; rw [h] at ih; simp at ih ⊢; omega
  rcases h with ⟨h1, -, h3, -⟩ | ⟨-, h3, -⟩
  · have := key (s.take k)
    rw [h3] at this
    simp at this; omega
  · rw [← h3]; exact key s

theorem last32 {s : List UInt8} (hp : 0 < s.length) (h : s[s.length - 1] = 32) : wordsE s = (4, []) := by
  have h1 := List.dropLast_concat_getLast (splitW_ne (s.take (s.length - 1)))
  have h2 := splitW_snoc (s.take (s.length - 1)) s[s.length - 1] _ _ h1.symm
  rw [if_pos h, ← List.take_succ_eq_append_getElem (by omega), List.take_of_length_le (by omega)] at h2
  exact wordsE_empty (by rw [h2]; simp)
theorem WAt.start (s : List UInt8) : WAt s 0 0 [] := .inl ⟨by omega, by omega, rfl, rfl, by simp⟩
theorem eq32 (c : UInt8) : ((c.toNat : Int) == 32) = decide (c = 32) := by
  by_cases h : c = 32
  · subst h; rfl
  · have : c.toNat ≠ 32 := fun e => h (UInt8.toNat_inj.1 e)
    simp [h]; omega

set_option maxRecDepth 100000 in
set_option maxHeartbeats 3200000 in
theorem owords_any (s : List UInt8) (w : World) (hs : s.length ≤ 1048576) :
    Calls Tryd.prog 47 #[.string (str s)] w fun e w' => ∃ v, e = .returned (.tuple #[v, .int .i64 (wordsE s).1]) ∧ TxRow w' w v (wordsE s).2 ∧ Below w.heap.size w w' := by
  have bad : ∀ W, Below w.heap.size w W → wordsE s = (4, []) → ∃ v, Ending.returned (.tuple #[.slice none 0 0, .int .i64 4]) = .returned (.tuple #[v, .int .i64 (wordsE s).1]) ∧ TxRow W w v (wordsE s).2 ∧ Below w.heap.size w W := by
    intro W hW he
    rw [he]
    exact ⟨_, rfl, World.ownsRow_nil _ _ _ _, hW⟩
  have HBAD := Lib.hid bad
  clear bad
  cases s with
  | nil =>
    have HN := Lib.hid (show wordsE [] = (4, []) from rfl)
    go_enter Tryd.func47, Tryd.ntmps47
    go_wp2_with fail
    go_ret2
    exact HBAD.out _ (Below.refl _ _) HN.out
  | cons c0 r0 =>
    obtain ⟨s, hsd⟩ : ∃ s, s = c0 :: r0 := ⟨_, rfl⟩
    rw [← hsd] at HBAD hs ⊢
    have hpos : 0 < s.length := by rw [hsd]; simp
    clear hsd
    have hne : (s == []) = false := by cases s <;> simp_all
    have hi0 := run_idx s 0 0 rfl hpos
    have hi1 := run_idx s ((s.length : Int) - 1) (s.length - 1) (by omega) (by omega)
    by_cases h0 : s[0] = 32
    · have HN := Lib.hid ((WAt.start s).empty (by omega) rfl (.inr ⟨hpos, h0⟩))
      have hb : ((s[0].toNat : Int) == 32) = true := by rw [eq32]; simpa using h0
      clear h0
      go_enter Tryd.func47, Tryd.ntmps47
      go_wp2_with fail
      go_ret2
      exact HBAD.out _ (Below.refl _ _) HN.out
    have hb0 : ((s[0].toNat : Int) == 32) = false := by rw [eq32]; simpa using h0
    by_cases h1 : s[s.length - 1] = 32
    · have HN := Lib.hid (last32 hpos h1)
      have hb : ((s[s.length - 1].toNat : Int) == 32) = true := by rw [eq32]; simpa using h1
      clear h0 h1
      go_enter Tryd.func47, Tryd.ntmps47
      go_wp2_with fail
      go_ret2
      exact HBAD.out _ (Below.refl _ _) HN.out
    have hb1 : ((s[s.length - 1].toNat : Int) == 32) = false := by rw [eq32]; simpa using h1
    clear h0 h1
    go_enter Tryd.func47, Tryd.ntmps47
    go_wp2_with fail
    clear hi0 hi1
    go_loopw [4, 5, 6] (fun ov fv i wr => ∃ (k f : Nat) (out : List (List UInt8)) (v : Value), k ≤ s.length + 1 ∧ f ≤ k ∧ i = .int .i64 k ∧ fv = .int .i64 f ∧ ov = v ∧ WAt s k f out ∧ TxRow wr w v out ∧ Below w.heap.size w wr) (fun _ _ i _ => s.length + 1 - (intOf i).toNat)
    case atStart => exact ⟨0, 0, [], _, by omega, by omega, rfl, rfl, rfl, WAt.start s, World.ownsRow_nil _ _ _ _, Below.refl _ _⟩
    case round =>
      obtain ⟨k, f, out, v, hk, hf, rfl, rfl, hv, hat, hrow, hbel⟩ := hrel
      have hv' := hv.symm
      subst hv'
      have hol := hat.len
      have hsz := hbel.size
      have HR := Lib.hid (And.intro hat (And.intro hrow hbel))
      clear hat hrow hbel
      by_cases hlt : k < s.length
      · by_cases h32 : s[k] = 32
        · have hb : ((s[k].toNat : Int) == 32) = true := by rw [eq32]; simpa using h32
          have hbn : ((s[k].toNat : Int) != 32) = false := by rw [bne, hb]; rfl
          by_cases hkf : k = f
          · have HN := Lib.hid (HR.out.1.empty (by omega) hkf (.inr ⟨hlt, h32⟩))
            subst hkf
            clear h32
            go_wp2_with fail
            go_ret2
            exact HBAD.out _ HR.out.2.2 HN.out
          · have HN := Lib.hid (HR.out.1.blank hlt h32 hkf)
            have hkb : ((k : Int) == (f : Int)) = false := by simp; omega
            clear h32 hkf
            rw [List.drop_take] at HN
            go_wp2_with (first
              | (at_builtin
                 refine wpl_app1 rfl _ _ _ rfl w.heap.size 9 _ 1 16 Tryd.underlying62 strInfo rfl (by omega) (by omega) _ _ _ (txC (List.take (k - f) (List.drop f s))) rfl HR.out.2.1 rfl rfl (txC_one _) (by omega) hsz ?_
                 intro v5 w5 hown5 hg5 hs5
                 have hrow5 : TxRow w5 w v5 (out ++ [List.take (k - f) (List.drop f s)]) := by
                   unfold TxRow
                   rw [List.flatMap_append, List.length_append]
                   simpa using hown5
                 have H5 := Lib.hid (And.intro hrow5 (HR.out.2.2.grown hg5 hsz (fun j hj => (HR.out.2.1.lt j hj).1)))
                 clear hown5 hg5 hs5 hrow5))
            go_roundw
            case rel => exact ⟨k + 1, k + 1, _, _, by omega, by omega, by go_num, by go_num, rfl, HN.out, H5.out.1, H5.out.2⟩
            case measure => simp [intOf]; omega
        · have hb : ((s[k].toNat : Int) == 32) = false := by rw [eq32]; simpa using h32
          have hbn : ((s[k].toNat : Int) != 32) = true := by rw [bne, hb]; rfl
          cases hok : okB s[k]
          · have HN := Lib.hid (wordsE_bad hlt hok)
            have hlo := (okB_iff _).1 hok
            clear hok h32
            rcases hlo with h1 | h1
            · go_wp2_with fail
              go_ret2
              exact HBAD.out _ HR.out.2.2 HN.out
            · have h2 : ¬ (s[k].toNat : Int) < 32 := by omega
              go_wp2_with fail
              go_ret2
              exact HBAD.out _ HR.out.2.2 HN.out
          · have HN := Lib.hid (HR.out.1.byte hlt hok h32)
            have hlo : ¬ ((s[k].toNat : Int) < 32) ∧ ¬ (126 < (s[k].toNat : Int)) := by
              have := mt (okB_iff s[k]).2 (by rw [hok]; simp)
              omega
            obtain ⟨h1, h2⟩ := hlo
            clear hok h32
            go_wp2_with fail
            go_roundw
            case rel => exact ⟨k + 1, f, out, v, by omega, by omega, by go_num, rfl, rfl, HN.out, HR.out.2.1, HR.out.2.2⟩
            case measure => simp [intOf]; omega
      · by_cases hend : k = s.length
        · by_cases hkf : k = f
          · have HN := Lib.hid (HR.out.1.empty (by omega) hkf (.inl hend))
            have hle : k ≤ s.length := by omega
            subst hkf
            clear hend
            go_wp2_with fail
            go_ret2
            exact HBAD.out _ HR.out.2.2 HN.out
          · have HN := Lib.hid (HR.out.1.stop hend hkf)
            have hkb : ((k : Int) == (f : Int)) = false := by simp; omega
            have hle : k ≤ s.length := by omega
            clear hkf hend
            rw [List.drop_take] at HN
            go_wp2_with (first
              | (at_builtin
                 refine wpl_app1 rfl _ _ _ rfl w.heap.size 9 _ 1 16 Tryd.underlying62 strInfo rfl (by omega) (by omega) _ _ _ (txC (List.take (k - f) (List.drop f s))) rfl HR.out.2.1 rfl rfl (txC_one _) (by omega) hsz ?_
                 intro v5 w5 hown5 hg5 hs5
                 have hrow5 : TxRow w5 w v5 (out ++ [List.take (k - f) (List.drop f s)]) := by
                   unfold TxRow
                   rw [List.flatMap_append, List.length_append]
                   simpa using hown5
                 have H5 := Lib.hid (And.intro hrow5 (HR.out.2.2.grown hg5 hsz (fun j hj => (HR.out.2.1.lt j hj).1)))
                 clear hown5 hg5 hs5 hrow5))
            go_roundw
            case rel => exact ⟨k + 1, k + 1, _, _, by omega, by omega, by go_num, by go_num, rfl, HN.out, H5.out.1, H5.out.2⟩
            case measure => simp [intOf]; omega
        · have hk1 : k = s.length + 1 := by omega
          have hD := HR.out.1
          rw [hk1] at hD
          have HN := Lib.hid hD.done
          clear hD
          have hgt : ¬ k ≤ s.length := by omega
          obtain ⟨va, vc, hv, -, -⟩ := own_form HR.out.2.1
          subst hv
          by_cases hbig : 64 < out.length
          · rw [if_pos hbig] at HN
            go_wp2_with fail
            go_ret2
            rw [HN.out]
            exact ⟨_, rfl, World.ownsRow_nil _ _ _ _, HR.out.2.2⟩
          · rw [if_neg hbig] at HN
            go_wp2_with fail
            go_ret2
            rw [HN.out]
            exact ⟨_, rfl, HR.out.2.1, HR.out.2.2⟩
end Go.Proofs.YtldkcfhigcmoaaaDoor
