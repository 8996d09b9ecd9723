/- One closed fact of the row SemKnown. -/
import Derived.Test.YtaehpjaleceppaaGreatDoorRows
import Derived.Test.YtaehpjaleceppaaGreatDoorFrame
namespace Go.Proofs.YtaehpjaleceppaaGreatDoor
open Go.RowKit Go.As
set_option linter.unusedVariables false
set_option maxRecDepth 100000 in
theorem semKnown_named : (Rows.semKnownRow.named == Tryz.prog.varsNamed 5) = true := by kernel_rfl
end Go.Proofs.YtaehpjaleceppaaGreatDoor
