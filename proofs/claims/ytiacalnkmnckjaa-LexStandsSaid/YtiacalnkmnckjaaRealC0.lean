/- What the small functions on reals answer, the program's: the words of a float. No conditions. -/
import Derived.Test.YtiacalnkmnckjaaRealP
import Derived.Test.YtiacalnkmnckjaaRows
import Derived.Handy
import Derived.WalkLawsBesides
namespace Go.Proofs.Ytiacalnkmnckjaa
open Go.RowKit Go.As
set_option linter.unusedVariables false

theorem tobits (b : Nat) (w : World) : (callFunc 27 #[.float .f64 b]).run Try.prog w = .ok (.value (.int .u64 b)) w := by
  rw [run_callFunc_extern (P := Try.prog) Try.func27 (by kernel_rfl) (by kernel_rfl) (e := Extern.MathFloatBits.float64bits) (by kernel_rfl) (by kernel_rfl)]
  rfl
theorem pto_any (b : Nat) (w : World) : Calls Try.prog 22 #[.float .f64 b] w fun e w' => e = .returned (.int .u64 (toN b)) ∧ w = w' := by
  have h1 := tobits
  rcases toN_cases b with ⟨h2, h3⟩ | ⟨h2, h3⟩
  · rw [h3]
    clear h3
    go_enter Try.func22, Try.ntmps22
    go_wp2
    go_ret
    exact ⟨rfl, rfl⟩
  · rw [h3]
    clear h3
    go_enter Try.func22, Try.ntmps22
    go_wp2
    go_ret
    exact ⟨rfl, rfl⟩
end Go.Proofs.Ytiacalnkmnckjaa
