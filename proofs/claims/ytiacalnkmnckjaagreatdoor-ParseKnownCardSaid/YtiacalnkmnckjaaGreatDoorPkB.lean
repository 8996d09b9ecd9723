/- The example of a sum that is too high. A closed run, reckoned; no conditions. -/
import Derived.Test.YtiacalnkmnckjaaGreatDoorEvT
namespace Go.Proofs.YtiacalnkmnckjaaGreatDoor
open Go.RowKit Go.As
set_option linter.unusedVariables false

def pkArgs4 : List Value := [.string ⟨#[49, 32, 43, 32, 49, 32, 43, 32, 49, 32, 43, 32, 49, 32, 43, 32, 49, 32, 43, 32, 49, 32, 43, 32, 49, 32, 43, 32, 49, 32, 43, 32, 49, 32, 43, 32, 49, 32, 43, 32, 49, 32, 43, 32, 49, 32, 43, 32, 49, 32, 43, 32, 49, 32, 43, 32, 49, 32, 43, 32, 49, 32, 43, 32, 49, 32, 43, 32, 49, 32, 43, 32, 49, 32, 43, 32, 49, 32, 43, 32, 49, 32, 43, 32, 49, 32, 43, 32, 49, 32, 43, 32, 49, 32, 43, 32, 49, 32, 43, 32, 49, 32, 43, 32, 49, 32, 43, 32, 49, 32, 43, 32, 49, 32, 43, 32, 49, 32, 43, 32, 49, 32, 43, 32, 49, 32, 43, 32, 49]⟩, .bool false, .int .i64 160, .int .i64 126]
set_option maxRecDepth 100000 in
theorem pkRun4 : Ev.okTrue (Ev.reckonT Tryz.prog evA 20000 1 evTab 36 (pkArgs4.map .v)) = true := by kernel_rfl
theorem pk4 (w : World) (ht : Tab w) : Calls Tryz.prog 36 pkArgs4.toArray w fun e w' => e = .returned (.bool true) ∧ Below w.heap.size w w' :=
  Ev.reckonT_known ev_mixed ev_fine ev_glob Tryz.func36 (by kernel_rfl) pkArgs4 pkRun4 w (tab_at ht) ht
end Go.Proofs.YtiacalnkmnckjaaGreatDoor
