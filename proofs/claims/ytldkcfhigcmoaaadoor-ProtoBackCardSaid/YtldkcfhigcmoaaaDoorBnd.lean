/- Bounds of arguments that are numbers. No conditions. -/
import Derived.Test.YtldkcfhigcmoaaaDoorBase
namespace Go.As
open Go
theorem u64_nat {n : Int} (h : (Lit.int .u64 n).wf = true) : ∃ N : Nat, n = N ∧ N < 18446744073709551616 := by
  have := h
  simp only [Lit.wf, decide_eq_true_eq, Bool.and_eq_true] at this
  have h1 : IntKind.u64.min = 0 := by decide
  have h2 : IntKind.u64.max = 18446744073709551615 := by decide
  exact ⟨n.toNat, by omega, by omega⟩
theorem i64_bnd {n : Int} (h : (Lit.int .i64 n).wf = true) : -9223372036854775808 ≤ n ∧ n ≤ 9223372036854775807 := by
  have := h
  simp only [Lit.wf, decide_eq_true_eq, Bool.and_eq_true] at this
  have h1 : IntKind.i64.min = -9223372036854775808 := by decide
  have h2 : IntKind.i64.max = 9223372036854775807 := by decide
  omega
end Go.As
