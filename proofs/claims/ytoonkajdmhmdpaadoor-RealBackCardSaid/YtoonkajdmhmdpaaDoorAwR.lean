/- The chapter on reals: its first examples. A closed run, reckoned; no conditions. -/
import Derived.Test.YtoonkajdmhmdpaaDoorEvT
namespace Go.Proofs.YtoonkajdmhmdpaaDoor
open Go.RowKit Go.As
set_option linter.unusedVariables false

set_option maxRecDepth 100000 in
theorem awake03Run : Ev.okTrue (Ev.reckonT Tryd.prog evA 20000 2 evTab 10 (([] : List Value).map .v)) = true := by kernel_rfl
theorem awake03 (w : World) (ht : Tab w) : Calls Tryd.prog 10 #[] w fun e w' => e = .returned (.bool true) ∧ Below w.heap.size w w' :=
  Ev.reckonT_known ev_mixed ev_fine ev_glob Tryd.func10 (by kernel_rfl) [] awake03Run w (tab_at ht) ht
end Go.Proofs.YtoonkajdmhmdpaaDoor
