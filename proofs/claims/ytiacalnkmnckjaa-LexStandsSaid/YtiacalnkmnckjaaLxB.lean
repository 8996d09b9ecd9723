/- What next and sign of lex answer, on any text. No conditions but those in each theorem. -/
import Derived.Test.YtiacalnkmnckjaaLxA
import Derived.Test.YtiacalnkmnckjaaRealD
namespace Go.Proofs.Ytiacalnkmnckjaa
open Go.RowKit Go.As
set_option linter.unusedVariables false

def signOf (T : List UInt8) (c : UInt8) : Nat :=
  if (T == [61, 61]) = true then 2 else
  if (T == [33, 61]) = true then 2 else
  if (T == [60, 61]) = true then 2 else
  if (T == [62, 61]) = true then 2 else
  if (T == [38, 38]) = true then 2 else
  if (T == [124, 124]) = true then 2 else
  if (((c.toNat : Nat) : Int) == 59) = true then 1 else
  if (((c.toNat : Nat) : Int) == 123) = true then 1 else
  if (((c.toNat : Nat) : Int) == 125) = true then 1 else
  if (((c.toNat : Nat) : Int) == 40) = true then 1 else
  if (((c.toNat : Nat) : Int) == 41) = true then 1 else
  if (((c.toNat : Nat) : Int) == 61) = true then 1 else
  if (((c.toNat : Nat) : Int) == 60) = true then 1 else
  if (((c.toNat : Nat) : Int) == 62) = true then 1 else
  if (((c.toNat : Nat) : Int) == 43) = true then 1 else
  if (((c.toNat : Nat) : Int) == 45) = true then 1 else
  if (((c.toNat : Nat) : Int) == 42) = true then 1 else
  if (((c.toNat : Nat) : Int) == 47) = true then 1 else
  if (((c.toNat : Nat) : Int) == 37) = true then 1 else
  if (((c.toNat : Nat) : Int) == 33) = true then 1 else
  0
/-- how long the sign at a text's beginning is -/
def signN (r : List UInt8) : Nat := match r with
  | [] => 0
  | c :: t => signOf (r.take 2) c
set_option maxHeartbeats 3200000 in
theorem sign_any (s : List UInt8) (k : Nat) (hs : s.length ≤ 1048576) (hk : k < s.length) (w : World) : Calls Try.prog 18 #[.string (str s), .int .i64 (k : Int)] w fun e w' => e = .returned (.int .i64 (signN (s.drop k) : Nat)) ∧ w = w' := by
  have hd : s.drop k = s[k] :: s.drop (k + 1) := List.drop_eq_getElem_cons hk
  obtain ⟨c, hc⟩ : ∃ c, c = s[k] := ⟨_, rfl⟩
  have hix := fun W => run_idx0 s k hk W
  rw [← hc] at hix hd
  have w1 : IntKind.i64.wrap ((k : Int) + 1) = (k : Int) + 1 := by rw [IntKind.wrap_i64]; omega
  have w2 : IntKind.i64.wrap ((k : Int) + 2) = (k : Int) + 2 := by rw [IntKind.wrap_i64]; omega
  by_cases h2 : k + 1 < s.length
  · obtain ⟨T, hT⟩ : ∃ T, List.take 2 (List.drop k s) = T := ⟨_, rfl⟩
    have hr : signN (s.drop k) = signOf T c := by
      rw [← hT, hd]
      rfl
    rw [hr]
    have i2 : (k : Int) + 1 < s.length := by omega
    have b1 : (k : Int) + 2 ≤ s.length := by omega
    have b2 : k + 2 ≤ s.length := by omega
    clear hd hr hc hk h2
    go_enter Try.func18, Try.ntmps18
    go_wp2
    all_goals
      go_ret
      refine ⟨ret_int ?_, rfl⟩
      first
        | (simp only [signOf, if_true, if_false, Bool.false_eq_true, *]; rfl)
        | (exfalso; simp_all; done)
  · have hr : signN (s.drop k) = signOf [] c := by
      have hl : (s.drop (k + 1)) = [] := List.drop_eq_nil_of_le (by omega)
      rw [hd, hl]
      show signOf [c] c = _
      unfold signOf
      simp
    rw [hr]
    have i2 : ¬ (k : Int) + 1 < s.length := by omega
    clear hd hr hc hk h2
    go_enter Try.func18, Try.ntmps18
    go_wp2
    all_goals
      go_ret
      refine ⟨ret_int ?_, rfl⟩
      first
        | (simp only [signOf, if_true, if_false, Bool.false_eq_true, *]; rfl)
        | (exfalso; simp_all; done)
end Go.Proofs.Ytiacalnkmnckjaa
