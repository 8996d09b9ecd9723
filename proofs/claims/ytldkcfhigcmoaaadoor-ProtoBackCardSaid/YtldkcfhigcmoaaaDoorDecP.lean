/- Numbers as digits: plain laws. No program is named; the conditions are in each theorem. -/
import Derived.Test.YtldkcfhigcmoaaaDoorNumP
namespace Go.As
open Go
set_option linter.unusedVariables false

def isDig (c : UInt8) : Bool := decide (48 ≤ c.toNat ∧ c.toNat ≤ 57)
def dnum (l : List UInt8) : Nat := l.foldl (fun n b => n * 10 + (b.toNat - 48)) 0
theorem dnum_snoc (l : List UInt8) (b : UInt8) : dnum (l ++ [b]) = dnum l * 10 + (b.toNat - 48) := by simp [dnum]
/-- the number, the error's number -/
def rdE (s : List UInt8) (most : Int) : Int × Int :=
  if most < 0 then (0, 2) else if s = [] ∨ 19 < s.length ∨ (s.head? = some 48 ∧ 1 < s.length) then (0, 4) else if s.all isDig = false then (0, 4)
  else if 9223372036854775807 < dnum s then (0, 4) else if most < dnum s then (0, 3) else (dnum s, 0)
theorem rdE_arg {s : List UInt8} {most : Int} (h : most < 0) : rdE s most = (0, 2) := by simp [rdE, h]
theorem rdE_form {s : List UInt8} {most : Int} (h : ¬ most < 0) (hf : s = [] ∨ 19 < s.length ∨ (s.head? = some 48 ∧ 1 < s.length)) : rdE s most = (0, 4) := by
  unfold rdE; rw [if_neg h, if_pos hf]
theorem rdE_bad {s : List UInt8} {most : Int} (h : ¬ most < 0) {k : Nat} (hk : k < s.length) (hx : isDig s[k] = false) : rdE s most = (0, 4) := by
  have : s.all isDig = false := by
    rw [List.all_eq_false]
    exact ⟨s[k], List.getElem_mem _, by simp [hx]⟩
  unfold rdE
  rw [if_neg h, if_pos this]
  split <;> rfl
theorem rdE_ok {s : List UInt8} {most : Int} (h : ¬ most < 0) (hf : ¬ (s = [] ∨ 19 < s.length ∨ (s.head? = some 48 ∧ 1 < s.length))) (ha : s.all isDig = true) :
    rdE s most = if 9223372036854775807 < dnum s then (0, 4) else if most < dnum s then (0, 3) else ((dnum s : Int), 0) := by
  unfold rdE; rw [if_neg h, if_neg hf, if_neg (by rw [ha]; decide)]
theorem dnum_step {l : List UInt8} {k : Nat} {b : UInt8} (hk : k < l.length) (hb : l[k] = b) : dnum (l.take (k + 1)) = dnum (l.take k) * 10 + (b.toNat - 48) := by
  rw [List.take_succ_eq_append_getElem hk, hb, dnum_snoc]
theorem dig_step {l : List UInt8} {k : Nat} {b : UInt8} (hk : k < l.length) (hb : l[k] = b) (ha : (l.take k).all isDig = true) (hx : isDig b = true) : (l.take (k + 1)).all isDig = true := by
  rw [List.take_succ_eq_append_getElem hk, hb, List.all_append, ha]
  simp [hx]
theorem dnum_lt (l : List UInt8) : ∀ k, k ≤ l.length → (l.take k).all isDig = true → dnum (l.take k) < 10 ^ k
  | 0, _, _ => by simp [dnum]
  | k + 1, hk, h => by
    have hk' : k < l.length := hk
    rw [List.take_succ_eq_append_getElem hk', List.all_append, Bool.and_eq_true] at h
    have h1 := dnum_lt l k (by omega) h.1
    have h2 : isDig l[k] = true := by simpa using h.2
    simp only [isDig, decide_eq_true_eq] at h2
    rw [dnum_step hk' rfl, Nat.pow_succ]
    omega
theorem dnum_lt18 {l : List UInt8} {k : Nat} (hk : k ≤ l.length) (h18 : k ≤ 18) (h : (l.take k).all isDig = true) : dnum (l.take k) < 1000000000000000000 := by
  have h1 := dnum_lt l k hk h
  have h2 : 10 ^ k ≤ 10 ^ 18 := Nat.pow_le_pow_right (by decide) h18
  omega
theorem dnum_lt19 {l : List UInt8} (h19 : l.length ≤ 19) (h : l.all isDig = true) : dnum l < 10000000000000000000 := by
  have h1 := dnum_lt l l.length (Nat.le_refl _) (by rwa [List.take_length])
  rw [List.take_length] at h1
  have h2 : 10 ^ l.length ≤ 10 ^ 19 := Nat.pow_le_pow_right (by decide) h19
  omega
end Go.As
