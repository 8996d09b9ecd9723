/- What Words answers, the document's. Conditions: those in the theorem. -/
import Derived.Test.YtldkcfhigcmoaaaDoorOctW
namespace Go.Proofs.YtldkcfhigcmoaaaDoor
open Go.RowKit Go.As
set_option linter.unusedVariables false

set_option maxRecDepth 100000 in
set_option maxHeartbeats 3200000 in
theorem rwords_any (s : List UInt8) (w : World) (hs : s.length ≤ 1048576) :
    Calls Tryd.prog 63 #[.string (str s)] w fun e w' => ∃ v, e = .returned (.tuple #[v, .int .i64 (wordsE s).1]) ∧ TxRow w' w v (wordsE s).2 ∧ Below w.heap.size w w' := by
  have bad : ∀ W, Below w.heap.size w W → wordsE s = (4, []) → ∃ v, Ending.returned (.tuple #[.slice none 0 0, .int .i64 4]) = .returned (.tuple #[v, .int .i64 (wordsE s).1]) ∧ TxRow W w v (wordsE s).2 ∧ Below w.heap.size w W := by
    intro W hW he
    rw [he]
    exact ⟨_, rfl, World.ownsRow_nil _ _ _ _, hW⟩
  have HBAD := Lib.hid bad
  clear bad
  go_enter Tryd.func63, Tryd.ntmps63
  go_wp2_with fail
  go_loop [4] (fun i => ∃ k : Nat, k ≤ s.length ∧ i = .int .i64 k ∧ (s.take k).all okB = true) (fun i => s.length - (intOf i).toNat)
  case atStart => exact ⟨0, by omega, rfl, rfl⟩
  case round =>
    obtain ⟨k, hk, rfl, he⟩ := hrel
    have HE := Lib.hid he
    clear he
    by_cases hlt : k < s.length
    · cases hok : okB s[k]
      · have HN := Lib.hid (wordsE_bad hlt hok)
        have hlo := (okB_iff _).1 hok
        clear hok
        rcases hlo with h1 | h1
        · go_wp2_with fail
          go_ret2
          exact HBAD.out _ (Below.refl _ _) HN.out
        · have h2 : ¬ (s[k].toNat : Int) < 32 := by omega
          go_wp2_with fail
          go_ret2
          exact HBAD.out _ (Below.refl _ _) HN.out
      · have HN := Lib.hid (ok_take hlt HE.out hok)
        have hlo : ¬ ((s[k].toNat : Int) < 32) ∧ ¬ (126 < (s[k].toNat : Int)) := by
          have := mt (okB_iff s[k]).2 (by rw [hok]; simp)
          omega
        obtain ⟨h1, h2⟩ := hlo
        clear hok
        go_wp2_with fail
        go_round
        case rel => exact ⟨k + 1, by omega, by go_num, HN.out⟩
        case measure => simp [intOf]; omega
    · have HALL := Lib.hid (show s.all okB = true by have := HE.out; rwa [List.take_of_length_le (by omega)] at this)
      have hkl : k = s.length := by omega
      clear HE
      go_wp2_with fail
      go_loopw [5, 6, 7] (fun ov wv i wr => ∃ (k f : Nat) (out : List (List UInt8)) (v : Value), k ≤ s.length + 1 ∧ f ≤ k ∧ i = .int .i64 k ∧ wv = .string (str ((s.drop f).take (k - f))) ∧ ov = v ∧ WAt s k f out ∧ TxRow wr w v out ∧ Below w.heap.size w wr) (fun _ _ i _ => s.length + 1 - (intOf i).toNat)
      case atStart => exact ⟨0, 0, [], _, by omega, by omega, rfl, by simp, rfl, WAt.start s, World.ownsRow_nil _ _ _ _, Below.refl _ _⟩
      case round =>
        clear hlt hkl hk
        rename_i k0 wr
        obtain ⟨k, f, out, v, hk, hf, rfl, rfl, hv, hat, hrow, hbel⟩ := hrel
        have hv' := hv.symm
        subst hv'
        have hol := hat.len
        have hsz := hbel.size
        have HR := Lib.hid (And.intro hat (And.intro hrow hbel))
        clear hat hrow hbel
        obtain ⟨P, hP⟩ : ∃ P, P = List.take (k - f) (List.drop f s) := ⟨_, rfl⟩
        rw [← hP]
        have hPe : k ≤ s.length → (P = [] ↔ k = f) := by
          intro h
          rw [hP]
          constructor
          · intro e
            have := congrArg List.length e
            rw [List.length_take, List.length_drop] at this
            simp at this; omega
          · intro e; subst e; simp
        have hPl : P.length ≤ s.length := by rw [hP, List.length_take, List.length_drop]; omega
        have HP := Lib.hid (And.intro hP hPe)
        clear hP hPe
        by_cases hlt : k < s.length
        · have hok : okB s[k] = true := List.all_eq_true.1 HALL.out _ (List.getElem_mem hlt)
          have hle : k ≤ s.length := by omega
          by_cases h32 : s[k] = 32
          · have hb : ((s[k].toNat : Int) == 32) = true := by rw [eq32]; simpa using h32
            have hbn : ((s[k].toNat : Int) != 32) = false := by rw [bne, hb]; rfl
            by_cases hkf : k = f
            · have HN := Lib.hid (HR.out.1.empty (by omega) hkf (.inr ⟨hlt, h32⟩))
              have hPn : P = [] := (HP.out.2 hle).2 hkf
              subst hPn
              clear hkf h32 hok
              go_wp2_with fail
              go_ret2
              exact HBAD.out _ HR.out.2.2 HN.out
            · have HN := Lib.hid (HR.out.1.blank hlt h32 hkf)
              rw [List.drop_take, ← HP.out.1] at HN
              have hPn : (P == []) = false := by
                have : P ≠ [] := fun e => hkf ((HP.out.2 hle).1 e)
                simpa using this
              clear h32 hkf hok
              go_wp2_with (first
                | (at_builtin
                   refine wpl_app1 rfl _ _ _ rfl w.heap.size 9 _ 1 16 Tryd.underlying62 strInfo rfl (by omega) (by omega) _ _ _ (txC P) rfl HR.out.2.1 rfl rfl (txC_one _) (by omega) hsz ?_
                   intro v5 w5 hown5 hg5 hs5
                   have hrow5 : TxRow w5 w v5 (out ++ [P]) := by
                     unfold TxRow
                     rw [List.flatMap_append, List.length_append]
                     simpa using hown5
                   have H5 := Lib.hid (And.intro hrow5 (HR.out.2.2.grown hg5 hsz (fun j hj => (HR.out.2.1.lt j hj).1)))
                   clear hown5 hg5 hs5 hrow5))
              go_roundw
              case rel => exact ⟨k + 1, k + 1, _, _, by omega, by omega, by go_num, by simp, rfl, HN.out, H5.out.1, H5.out.2⟩
              case measure => simp [intOf]; omega
          · have hb : ((s[k].toNat : Int) == 32) = false := by rw [eq32]; simpa using h32
            have hbn : ((s[k].toNat : Int) != 32) = true := by rw [bne, hb]; rfl
            have HN := Lib.hid (HR.out.1.byte hlt hok h32)
            have HPP := Lib.hid (show P ++ List.take 1 (List.drop k s) = List.take (k + 1 - f) (List.drop f s) by
              rw [HP.out.1, show k + 1 - f = (k - f) + 1 by omega, List.take_add, List.drop_drop, show f + (k - f) = k by omega])
            clear h32 hok
            go_wp2_with fail
            go_roundw
            case rel => exact ⟨k + 1, f, out, v, by omega, by omega, by go_num, by rw [← HPP.out], rfl, HN.out, HR.out.2.1, HR.out.2.2⟩
            case measure => simp [intOf]; omega
        · by_cases hend : k = s.length
          · have hle : k ≤ s.length := by omega
            by_cases hkf : k = f
            · have HN := Lib.hid (HR.out.1.empty (by omega) hkf (.inl hend))
              have hPn : P = [] := (HP.out.2 hle).2 hkf
              subst hPn
              clear hkf hend
              go_wp2_with fail
              go_ret2
              exact HBAD.out _ HR.out.2.2 HN.out
            · have HN := Lib.hid (HR.out.1.stop hend hkf)
              rw [List.drop_take, ← HP.out.1] at HN
              have hPn : (P == []) = false := by
                have : P ≠ [] := fun e => hkf ((HP.out.2 hle).1 e)
                simpa using this
              clear hkf hend
              go_wp2_with (first
                | (at_builtin
                   refine wpl_app1 rfl _ _ _ rfl w.heap.size 9 _ 1 16 Tryd.underlying62 strInfo rfl (by omega) (by omega) _ _ _ (txC P) rfl HR.out.2.1 rfl rfl (txC_one _) (by omega) hsz ?_
                   intro v5 w5 hown5 hg5 hs5
                   have hrow5 : TxRow w5 w v5 (out ++ [P]) := by
                     unfold TxRow
                     rw [List.flatMap_append, List.length_append]
                     simpa using hown5
                   have H5 := Lib.hid (And.intro hrow5 (HR.out.2.2.grown hg5 hsz (fun j hj => (HR.out.2.1.lt j hj).1)))
                   clear hown5 hg5 hs5 hrow5))
              go_roundw
              case rel => exact ⟨k + 1, k + 1, _, _, by omega, by omega, by go_num, by simp, rfl, HN.out, H5.out.1, H5.out.2⟩
              case measure => simp [intOf]; omega
          · have hk1 : k = s.length + 1 := by omega
            have hD := HR.out.1
            rw [hk1] at hD
            have HN := Lib.hid hD.done
            clear hD
            have hgt : ¬ k ≤ s.length := by omega
            obtain ⟨va, vc, hv, -, -⟩ := own_form HR.out.2.1
            subst hv
            by_cases hbig : 64 < out.length
            · rw [if_pos hbig] at HN
              go_wp2_with fail
              go_ret2
              rw [HN.out]
              exact ⟨_, rfl, World.ownsRow_nil _ _ _ _, HR.out.2.2⟩
            · rw [if_neg hbig] at HN
              go_wp2_with fail
              go_ret2
              rw [HN.out]
              exact ⟨_, rfl, HR.out.2.1, HR.out.2.2⟩
end Go.Proofs.YtldkcfhigcmoaaaDoor
