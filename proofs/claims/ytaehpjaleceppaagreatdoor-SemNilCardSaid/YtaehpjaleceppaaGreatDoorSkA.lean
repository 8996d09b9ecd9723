/- One of the chapter's examples of a run. A closed run, reckoned; no conditions. -/
import Derived.Test.YtaehpjaleceppaaGreatDoorEvT
namespace Go.Proofs.YtaehpjaleceppaaGreatDoor
open Go.RowKit Go.As
set_option linter.unusedVariables false

set_option maxRecDepth 100000 in
theorem awake08Run : Ev.okTrue (Ev.reckonT Tryz.prog evA 20000 1 evTab 19 (([] : List Value).map .v)) = true := by kernel_rfl
theorem awake08 (w : World) (ht : Tab w) : Calls Tryz.prog 19 #[] w fun e w' => e = .returned (.bool true) ∧ Below w.heap.size w w' :=
  Ev.reckonT_known ev_mixed ev_fine ev_glob Tryz.func19 (by kernel_rfl) [] awake08Run w (tab_at ht) ht
end Go.Proofs.YtaehpjaleceppaaGreatDoor
