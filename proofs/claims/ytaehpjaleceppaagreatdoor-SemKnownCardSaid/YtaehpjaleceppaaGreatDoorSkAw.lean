/- A closed run by the machine: one of the chapter's examples. Closed; condition: strconv's table lies as it is laid. -/
import Derived.Test.YtaehpjaleceppaaGreatDoorSkT
namespace Go.Proofs.YtaehpjaleceppaaGreatDoor
open Go.RowKit Go.As
set_option linter.unusedVariables false

set_option maxRecDepth 100000 in
theorem awake08S : Sy.okTrue (Sy.reckonT Tryz.prog syIT 20000 1 evTab 19 []) = true := by kernel_rfl
theorem awake08_any (w : World) (ht : Tab w) : Calls Tryz.prog 19 #[] w fun e w' => e = .returned (.bool true) ∧ Below w.heap.size w w' :=
  Sy.reckonT_true sy_mixed sy_fineT sy_glob Tryz.func19 (by kernel_rfl) awake08S w (tab_at ht) ht
end Go.Proofs.YtaehpjaleceppaaGreatDoor
