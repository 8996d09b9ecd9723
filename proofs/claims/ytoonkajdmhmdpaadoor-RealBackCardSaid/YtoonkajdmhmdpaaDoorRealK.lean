/- What the functions on reals answer, of words that are natural numbers. Conditions: those in each theorem. -/
import Derived.Test.YtoonkajdmhmdpaaDoorRealE
import Derived.Test.YtoonkajdmhmdpaaDoorRealO
namespace Go.Proofs.YtoonkajdmhmdpaaDoor
open Go.RowKit Go.As
set_option linter.unusedVariables false

theorem u64_nat {a : Int} (h : (Lit.int .u64 a).wf = true) : ∃ n : Nat, a = (n : Int) ∧ n < 18446744073709551616 := by
  have e1 : IntKind.u64.min = 0 := by decide
  have e2 : IntKind.u64.max = 18446744073709551615 := by decide
  simp only [Lit.wf, e1, e2, Bool.and_eq_true, decide_eq_true_eq] at h
  exact ⟨a.toNat, by omega, by omega⟩
theorem wrap_in {n : Int} (h1 : -9223372036854775808 ≤ n) (h2 : n ≤ 9223372036854775807) : IntKind.i64.wrap n = n := by rw [IntKind.wrap_i64]; omega
theorem i64_bounds {a : Int} (h : (Lit.int .i64 a).wf = true) : -9223372036854775808 ≤ a ∧ a ≤ 9223372036854775807 := by
  have e1 : IntKind.i64.min = -9223372036854775808 := by decide
  have e2 : IntKind.i64.max = 9223372036854775807 := by decide
  simpa only [Lit.wf, e1, e2, Bool.and_eq_true, decide_eq_true_eq] using h
theorem ngN_ngW {a : Nat} (h : a < 18446744073709551616) : ngN (a : Int) = (ngW a : Int) := by
  unfold ngN ngW
  rw [Int.toNat_natCast, nanW_iff a]
  cases nanW a with
  | true =>
    have e : (if true = true then none else some Ordering.eq) = none := by decide
    rw [e, if_neg (by decide), if_pos rfl]
    rfl
  | false =>
    have e : (if false = true then none else some Ordering.eq) = some Ordering.eq := by decide
    rw [e, if_pos rfl, if_neg (by decide)]
    exact bits_neg h
section
variable {a b r : Nat} (w : World)
theorem kadd (h : arN .add a b = r) : Calls Tryd.prog 17 #[.int .u64 (a : Int), .int .u64 (b : Int)] w fun e w' => e = .returned (.int .u64 (r : Int)) ∧ ∃ q, w' = w.drewN q := by
  have := padd_any (a : Int) (b : Int) w
  rw [Int.toNat_natCast, Int.toNat_natCast, h] at this
  exact this
theorem ksub (h : arN .sub a b = r) : Calls Tryd.prog 19 #[.int .u64 (a : Int), .int .u64 (b : Int)] w fun e w' => e = .returned (.int .u64 (r : Int)) ∧ ∃ q, w' = w.drewN q := by
  have := psub_any (a : Int) (b : Int) w
  rw [Int.toNat_natCast, Int.toNat_natCast, h] at this
  exact this
theorem kmul (h : arN .mul a b = r) : Calls Tryd.prog 18 #[.int .u64 (a : Int), .int .u64 (b : Int)] w fun e w' => e = .returned (.int .u64 (r : Int)) ∧ ∃ q, w' = w.drewN q := by
  have := pmul_any (a : Int) (b : Int) w
  rw [Int.toNat_natCast, Int.toNat_natCast, h] at this
  exact this
theorem kquo (h : arN .quo a b = r) : Calls Tryd.prog 20 #[.int .u64 (a : Int), .int .u64 (b : Int)] w fun e w' => e = .returned (.int .u64 (r : Int)) ∧ ∃ q, w' = w.drewN q := by
  have := pquo_any (a : Int) (b : Int) w
  rw [Int.toNat_natCast, Int.toNat_natCast, h] at this
  exact this
theorem kneg (hl : a < 18446744073709551616) (h : ngW a = r) : Calls Tryd.prog 16 #[.int .u64 (a : Int)] w fun e w' => e = .returned (.int .u64 (r : Int)) ∧ w = w' := by
  have := pneg_any (a : Int) w
  rw [ngN_ngW hl, h] at this
  exact this
theorem kcanon (h : toN a = r) : Calls Tryd.prog 13 #[.int .u64 (a : Int)] w fun e w' => e = .returned (.int .u64 (r : Int)) ∧ w = w' := by
  have := pcanon_any (a : Int) w
  rw [Int.toNat_natCast, h] at this
  exact this
theorem kmay (h : toN a = a) : Calls Tryd.prog 21 #[.int .u64 (a : Int)] w fun e w' => e = .returned (.bool true) ∧ w = w' := by
  have := pmay_any (a : Int) w
  rw [Int.toNat_natCast, h] at this
  simpa using this
theorem kequal {c : Bool} (h : (FloatKind.f64.format.order a b == some .eq) = c) : Calls Tryd.prog 15 #[.int .u64 (a : Int), .int .u64 (b : Int)] w fun e w' => e = .returned (.bool c) ∧ w = w' := by
  have := pequal_any (a : Int) (b : Int) w
  rw [Int.toNat_natCast, Int.toNat_natCast, h] at this
  exact this
theorem kless {c : Bool} (h : (FloatKind.f64.format.order a b == some .lt) = c) : Calls Tryd.prog 14 #[.int .u64 (a : Int), .int .u64 (b : Int)] w fun e w' => e = .returned (.bool c) ∧ w = w' := by
  have := pless_any (a : Int) (b : Int) w
  rw [Int.toNat_natCast, Int.toNat_natCast, h] at this
  exact this
theorem kfromint {n : Int} (h : toN (floatOfInt .f64 n) = r) : Calls Tryd.prog 12 #[.int .i64 n] w fun e w' => e = .returned (.int .u64 (r : Int)) ∧ w = w' := by
  have := pfromint_any n w
  rw [h] at this
  exact this
theorem ktoint {n : Int} {c : Bool} (h : tiN a = (n, c)) : Calls Tryd.prog 11 #[.int .u64 (a : Int)] w fun e w' => e = .returned (.tuple #[.int .i64 n, .bool c]) ∧ w = w' := by
  have := ptoint_any (a : Int) w
  rw [Int.toNat_natCast, h] at this
  exact this
end
end Go.Proofs.YtoonkajdmhmdpaaDoor
