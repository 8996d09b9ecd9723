/- What ReadHex answers, the program's and the document's. Conditions: those in each theorem. -/
import Derived.Test.YtldkcfhigcmoaaaDoorOctA
namespace Go.Proofs.YtldkcfhigcmoaaaDoor
open Go.RowKit Go.As
set_option linter.unusedVariables false

theorem odigit_q (c : UInt8) (w : World) : Calls Tryd.prog 61 #[.int .u8 c.toNat] w fun e w' => e = .returned (.int .u8 (digV c)) ∧ ∃ k, w' = w.drewN k :=
  (odigit_any c w).mono fun e w' ⟨h1, h2⟩ => ⟨h1, 0, h2.symm⟩
theorem rdigit_q (c : UInt8) (w : World) : Calls Tryd.prog 84 #[.int .u8 c.toNat] w fun e w' => e = .returned (.int .i64 (if digV c = 16 then -1 else (digV c : Int))) ∧ ∃ k, w' = w.drewN k :=
  (rdigit_any c w).mono fun e w' ⟨h1, h2⟩ => ⟨h1, 0, h2.symm⟩
theorem run_idx (s : List UInt8) (i : Int) (j : Nat) (hij : i = j) (hj : j < s.length) (W : World) : (Instr.index 9 (.string (str s)) (.int .i64 i)).run Tryd.prog W = .ok (.int .u8 (s[j].toNat : Nat)) W := by
  subst hij
  rw [run_index_string W 9 (str s) .i64 _ Tryd.underlying9, dif_pos ⟨by omega, by rw [str_size]; omega⟩]
  simp only [Int.toNat_natCast, str_get]
/-- the error's number, and the bytes -/
def hexE (s : List UInt8) : Int := match unhexL s with | some _ => 0 | none => 4
theorem hexE_none {s : List UInt8} (h : unhexL s = none) : hexE s = 4 ∧ (unhexL s).getD [] = [] := by simp [hexE, h]
theorem hexE_some {s out : List UInt8} (h : unhexL s = some out) : hexE s = 0 ∧ (unhexL s).getD [] = out := by simp [hexE, h]
theorem bits_or_digits {a b : Nat} (ha : ¬ 15 < a) (hb : ¬ 15 < b) : bits .or .u8 ((a : Int) * 16) (b : Int) = ((UInt8.ofNat (16 * a + b)).toNat : Int) := by
  have key : ∀ a : Fin 16, ∀ b : Fin 16, bits .or .u8 ((a.val : Int) * 16) (b.val : Int) = ((UInt8.ofNat (16 * a.val + b.val)).toNat : Int) := by decide
  exact key ⟨a, by omega⟩ ⟨b, by omega⟩
theorem digV_le (c : UInt8) : digV c ≤ 16 := by unfold digV; split <;> (try split) <;> omega
theorem digV_16 (c : UInt8) : 15 < digV c ↔ digV c = 16 := by have := digV_le c; omega

set_option maxRecDepth 100000 in
set_option maxHeartbeats 1600000 in
theorem oreadhex_any (s : List UInt8) (w : World) (hs : s.length ≤ 1048576) :
    Calls Tryd.prog 30 #[.string (str s)] w fun e w' => ∃ v rm, e = .returned (.tuple #[v, .int .i64 (hexE s)]) ∧ RowB w' w.heap.size 5 v ((unhexL s).getD []) rm ∧ Below w.heap.size w w' := by
  by_cases hodd : s.length % 2 = 1
  · have hn := unhexL_odd _ s (Nat.le_refl _) hodd
    have HN := Lib.hid (hexE_none hn)
    have hb : (((s.length : Int).tmod 2) == 1) = true := by
      rw [Int.tmod_eq_emod_of_nonneg (by omega)]; simp; omega
    have hb2 : ((s.length : Int) % 2 == 1) = true := by simp; omega
    clear hn hodd
    go_enter Tryd.func30, Tryd.ntmps30
    go_wp2_with fail
    go_ret2
    rw [HN.out.1, HN.out.2]
    first | exact ⟨_, [], rfl, RowB.nil _ _ _, Below.refl _ _⟩ | exact ⟨_, rfl, ⟨[], RowB.nil _ _ _⟩, Below.refl _ _⟩
  have hb : (((s.length : Int).tmod 2) == 1) = false := by
    rw [Int.tmod_eq_emod_of_nonneg (by omega)]; simp; omega
  have hb2 : ((s.length : Int) % 2 == 1) = false := by simp; omega
  go_enter Tryd.func30, Tryd.ntmps30
  go_wp2_with fail
  go_loopw [4, 5] (fun ov i wr => ∃ (k : Nat) (out rm : List UInt8) (v : Value), k ≤ s.length ∧ k % 2 = 0 ∧ i = .int .i64 k ∧ ov = v ∧ unhexL (s.take k) = some out ∧ RowB wr w.heap.size 5 v out rm ∧ Below w.heap.size w wr) (fun _ i _ => s.length - (intOf i).toNat)
  case atStart => exact ⟨0, [], [], _, by omega, rfl, rfl, rfl, rfl, RowB.nil _ _ _, Below.refl _ _⟩
  case round =>
    obtain ⟨k, out, rm, v, hk, hev, rfl, hv, hun, hrow, hbel⟩ := hrel
    have hv' := hv.symm
    subst hv'
    have hol : s.length ≤ 1048576 → out.length ≤ 1048576 := fun _ => by have := unhexL_len _ _ (Nat.le_refl _) _ hun; rw [List.length_take] at this; omega
    have hol' := hol hs
    have HR := Lib.hid (And.intro hrow (And.intro hbel hun))
    have hsz := hbel.size
    clear hrow hbel hun hol
    by_cases hlt : k < s.length
    · have hlt2 : k + 1 < s.length := by omega
      have HS := Lib.hid (unhexL_snoc _ _ (Nat.le_refl _) _ s[k] s[k + 1] HR.out.2.2)
      rw [← take_two hlt2] at HS
      have hix := run_idx s ((k : Int) + 1) (k + 1) (by omega) hlt2
      have hwr : IntKind.i64.wrap ((k : Int) + 1) = (k : Int) + 1 := by rw [IntKind.wrap_i64]; omega
      have htn : ((k : Int) + 1).toNat = k + 1 := by omega
      go_wp2_with fail
      go_quiet (first | (go_at_call 61; exact Calls.quiet_of (odigit_q _ _)))
      by_cases hbad : 15 < digV s[k] ∨ 15 < digV s[k + 1]
      · rw [if_pos hbad] at HS
        have hnone : unhexL s = none := by
          have := unhexL_none _ (s.take (k + 2)) (Nat.le_refl _) (by rw [List.length_take]; omega) (s.drop (k + 2)) HS.out
          rwa [List.take_append_drop] at this
        have HN := Lib.hid (hexE_none hnone)
        clear hnone
        rcases hbad with hb1 | hb1
        · go_wp2_with fail
          go_ret2
          rw [HN.out.1, HN.out.2]
          first | exact ⟨_, [], rfl, RowB.nil _ _ _, below_drewN HR.out.2.1 _⟩ | exact ⟨_, rfl, ⟨[], RowB.nil _ _ _⟩, below_drewN HR.out.2.1 _⟩
        · by_cases hb0 : 15 < digV s[k]
          · go_wp2_with fail
            go_ret2
            rw [HN.out.1, HN.out.2]
            first | exact ⟨_, [], rfl, RowB.nil _ _ _, below_drewN HR.out.2.1 _⟩ | exact ⟨_, rfl, ⟨[], RowB.nil _ _ _⟩, below_drewN HR.out.2.1 _⟩
          · go_wp2_with fail
            go_ret2
            rw [HN.out.1, HN.out.2]
            first | exact ⟨_, [], rfl, RowB.nil _ _ _, below_drewN HR.out.2.1 _⟩ | exact ⟨_, rfl, ⟨[], RowB.nil _ _ _⟩, below_drewN HR.out.2.1 _⟩
      · rw [if_neg hbad] at HS
        have hd1 : ¬ 15 < digV s[k] := fun h => hbad (.inl h)
        have hd2 : ¬ 15 < digV s[k + 1] := fun h => hbad (.inr h)
        clear hbad
        generalize digV s[k] = d1 at *
        generalize digV s[k + 1] = d2 at *
        have hbits := bits_or_digits hd1 hd2
        generalize UInt8.ofNat (16 * d1 + d2) = B at *
        go_wp2_with (first
          | (at_builtin
             refine wpl_appB1 rfl _ _ _ rfl w.heap.size 5 Tryd.underlying23 byteInfo v out rm (show RowB (wr.drewN nq) _ _ _ _ _ from HR.out.1) rfl B _ rfl rfl (by omega) hsz ?_
             intro v5 rm5 w5 hown5 hg5 hs5
             have H5 := Lib.hid (And.intro hown5 ((below_drewN HR.out.2.1 nq).grown hg5 hsz (fun j hj => (HR.out.1.lt j hj).1)))
             clear hown5 hg5 hs5))
        go_roundw
        case rel => exact ⟨k + 2, out ++ [B], rm5, v5, by omega, by omega, by go_num, rfl, HS.out, H5.out.1, H5.out.2⟩
        case measure => simp [intOf]; omega
    · have hfull : s.take k = s := List.take_of_length_le (by omega)
      have hun := HR.out.2.2
      rw [hfull] at hun
      have HN := Lib.hid (hexE_some hun)
      clear hfull hun
      go_wp2_with fail
      go_ret2
      rw [HN.out.1, HN.out.2]
      first | exact ⟨_, rfl, ⟨rm, HR.out.1⟩, HR.out.2.1⟩ | exact ⟨_, rm, rfl, HR.out.1, HR.out.2.1⟩
end Go.Proofs.YtldkcfhigcmoaaaDoor
