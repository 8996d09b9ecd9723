/- The cells of a list of things, one behind the other. Any program; no conditions. -/
import Derived.Test.YtldkcfhigcmoaaaDoorBase
namespace Go.As
open Go
theorem flat_at {α : Type} (cells : α → List Value) (sz : Nat) (hc : ∀ x, (cells x).length = sz) {l : List α} {k : Nat} {x : α} (h : l[k]? = some x) (j : Nat) (hj : j < sz) : (l.flatMap cells)[k * sz + j]? = (cells x)[j]? := by
  induction l generalizing k with
  | nil => simp at h
  | cons q r ih =>
    rw [List.flatMap_cons]
    cases k with
    | zero =>
      simp at h; subst h
      rw [Nat.zero_mul, Nat.zero_add, List.getElem?_append_left (by rw [hc]; exact hj)]
    | succ k =>
      have := ih (k := k) (by simpa using h)
      rw [show (k + 1) * sz + j = sz + (k * sz + j) by rw [Nat.add_mul]; omega, List.getElem?_append_right (by rw [hc]; omega), hc, Nat.add_sub_cancel_left]
      exact this
end Go.As
