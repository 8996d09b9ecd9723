/- What the document's ReadHex answers. Conditions: those in the theorem. -/
import Derived.Test.YtldkcfhigcmoaaaOctB
namespace Go.Proofs.Ytldkcfhigcmoaaa
open Go.RowKit Go.As
set_option linter.unusedVariables false

set_option maxRecDepth 100000 in
set_option maxHeartbeats 1600000 in
theorem rreadhex_any (s : List UInt8) (w : World) (hs : s.length ≤ 1048576) :
    Calls Try.prog 11 #[.string (str s)] w fun e w' => ∃ v rm, e = .returned (.tuple #[v, .bool (decide (hexE s = 0))]) ∧ RowB w' w.heap.size 5 v ((unhexL s).getD []) rm ∧ Below w.heap.size w w' := by
  by_cases hodd : s.length % 2 = 1
  · have hn := unhexL_odd _ s (Nat.le_refl _) hodd
    have HN := Lib.hid (hexE_none hn)
    have hb : (((s.length : Int).tmod 2) == 0) = false := by
      rw [Int.tmod_eq_emod_of_nonneg (by omega)]; simp; omega
    have hb2 : ((s.length : Int) % 2 == 0) = false := by simp; omega
    have hb3 : ((s.length : Int) % 2 != 0) = true := by simp; omega
    clear hn hodd
    go_enter Try.func11, Try.ntmps11
    go_wp2_with fail
    go_ret2
    rw [HN.out.1, HN.out.2]
    first | exact ⟨_, [], rfl, RowB.nil _ _ _, Below.refl _ _⟩ | exact ⟨_, rfl, ⟨[], RowB.nil _ _ _⟩, Below.refl _ _⟩
  have hb : (((s.length : Int).tmod 2) == 0) = true := by
    rw [Int.tmod_eq_emod_of_nonneg (by omega)]; simp; omega
  have hb2 : ((s.length : Int) % 2 == 0) = true := by simp; omega
  have hb3 : ((s.length : Int) % 2 != 0) = false := by simp; omega
  go_enter Try.func11, Try.ntmps11
  go_wp2_with fail
  go_loopw [4, 5] (fun ov i wr => ∃ (k : Nat) (out rm : List UInt8) (v : Value), k ≤ s.length ∧ k % 2 = 0 ∧ i = .int .i64 k ∧ ov = v ∧ unhexL (s.take k) = some out ∧ RowB wr w.heap.size 5 v out rm ∧ Below w.heap.size w wr) (fun _ i _ => s.length - (intOf i).toNat)
  case atStart => exact ⟨0, [], [], _, by omega, rfl, rfl, rfl, rfl, RowB.nil _ _ _, Below.refl _ _⟩
  case round =>
    obtain ⟨k, out, rm, v, hk, hev, rfl, hv, hun, hrow, hbel⟩ := hrel
    have hv' := hv.symm
    subst hv'
    have hol : s.length ≤ 1048576 → out.length ≤ 1048576 := fun _ => by have := unhexL_len _ _ (Nat.le_refl _) _ hun; rw [List.length_take] at this; omega
    have hol' := hol hs
    have HR := Lib.hid (And.intro hrow (And.intro hbel hun))
    have hsz := hbel.size
    clear hrow hbel hun hol
    by_cases hlt : k < s.length
    · have hlt2 : k + 1 < s.length := by omega
      have HS := Lib.hid (unhexL_snoc _ _ (Nat.le_refl _) _ s[k] s[k + 1] HR.out.2.2)
      rw [← take_two hlt2] at HS
      have hix := run_idx s ((k : Int) + 1) (k + 1) (by omega) hlt2
      have hwr : IntKind.i64.wrap ((k : Int) + 1) = (k : Int) + 1 := by rw [IntKind.wrap_i64]; omega
      have htn : ((k : Int) + 1).toNat = k + 1 := by omega
      go_wp2_with fail
      go_quiet (first | (go_at_call 21; exact Calls.quiet_of (rdigit_q _ _)))
      obtain ⟨e1, he1⟩ : ∃ e1 : Int, e1 = (if digV s[k] = 16 then -1 else (digV s[k] : Int)) := ⟨_, rfl⟩
      obtain ⟨e2, he2⟩ : ∃ e2 : Int, e2 = (if digV s[k + 1] = 16 then -1 else (digV s[k + 1] : Int)) := ⟨_, rfl⟩
      rw [← he1, ← he2]
      by_cases hbad : 15 < digV s[k] ∨ 15 < digV s[k + 1]
      · rw [if_pos hbad] at HS
        have hnone : unhexL s = none := by
          have := unhexL_none _ (s.take (k + 2)) (Nat.le_refl _) (by rw [List.length_take]; omega) (s.drop (k + 2)) HS.out
          rwa [List.take_append_drop] at this
        have HN := Lib.hid (hexE_none hnone)
        clear hnone
        have hneg : e1 < 0 ∨ e2 < 0 := by
          rcases hbad with h | h
          · left; rw [he1, if_pos ((digV_16 _).1 h)]; omega
          · right; rw [he2, if_pos ((digV_16 _).1 h)]; omega
        clear hbad he1 he2
        rcases hneg with hb1 | hb1
        · go_wp2_with fail
          go_ret2
          rw [HN.out.1, HN.out.2]
          first | exact ⟨_, [], rfl, RowB.nil _ _ _, below_drewN HR.out.2.1 _⟩ | exact ⟨_, rfl, ⟨[], RowB.nil _ _ _⟩, below_drewN HR.out.2.1 _⟩
        · by_cases hb0 : e1 < 0
          · go_wp2_with fail
            go_ret2
            rw [HN.out.1, HN.out.2]
            first | exact ⟨_, [], rfl, RowB.nil _ _ _, below_drewN HR.out.2.1 _⟩ | exact ⟨_, rfl, ⟨[], RowB.nil _ _ _⟩, below_drewN HR.out.2.1 _⟩
          · go_wp2_with fail
            go_ret2
            rw [HN.out.1, HN.out.2]
            first | exact ⟨_, [], rfl, RowB.nil _ _ _, below_drewN HR.out.2.1 _⟩ | exact ⟨_, rfl, ⟨[], RowB.nil _ _ _⟩, below_drewN HR.out.2.1 _⟩
      · rw [if_neg hbad] at HS
        have hd1 : ¬ 15 < digV s[k] := fun h => hbad (.inl h)
        have hd2 : ¬ 15 < digV s[k + 1] := fun h => hbad (.inr h)
        rw [if_neg (fun h => hd1 ((digV_16 _).2 h))] at he1
        rw [if_neg (fun h => hd2 ((digV_16 _).2 h))] at he2
        subst he1 he2
        clear hbad
        generalize digV s[k] = d1 at *
        generalize digV s[k + 1] = d2 at *
        have hbits : IntKind.u8.wrap (16 * (d1 : Int) + (d2 : Int)) = ((UInt8.ofNat (16 * d1 + d2)).toNat : Int) := by
          rw [IntKind.wrap_u8, UInt8.toNat_ofNat']; omega
        have hbits2 : (16 * (d1 : Int) + (d2 : Int)) % 256 = ((UInt8.ofNat (16 * d1 + d2)).toNat : Int) := by
          rw [UInt8.toNat_ofNat']; omega
        generalize UInt8.ofNat (16 * d1 + d2) = B at *
        go_wp2_with (first
          | (at_builtin
             refine wpl_appB1 rfl _ _ _ rfl w.heap.size 5 Try.underlying22 byteInfo v out rm (show RowB (wr.drewN nq) _ _ _ _ _ from HR.out.1) rfl B _ rfl rfl (by omega) hsz ?_
             intro v5 rm5 w5 hown5 hg5 hs5
             have H5 := Lib.hid (And.intro hown5 ((below_drewN HR.out.2.1 nq).grown hg5 hsz (fun j hj => (HR.out.1.lt j hj).1)))
             clear hown5 hg5 hs5))
        go_roundw
        case rel =>
          exact ⟨k + 2, out ++ [B], rm5, v5, by omega, by omega, by go_num, rfl, HS.out, H5.out.1, H5.out.2⟩
        case measure => simp [intOf]; omega
    · have hfull : s.take k = s := List.take_of_length_le (by omega)
      have hun := HR.out.2.2
      rw [hfull] at hun
      have HN := Lib.hid (hexE_some hun)
      clear hfull hun
      go_wp2_with fail
      go_ret2
      rw [HN.out.1, HN.out.2]
      first | exact ⟨_, rfl, ⟨rm, HR.out.1⟩, HR.out.2.1⟩ | exact ⟨_, rm, rfl, HR.out.1, HR.out.2.1⟩
end Go.Proofs.Ytldkcfhigcmoaaa
