/- One closed fact of the row SemNil. -/
import Derived.Test.YtaehpjaleceppaaGreatDoorRows
import Derived.Test.YtaehpjaleceppaaGreatDoorFrame
import Derived.Test.YtaehpjaleceppaaGreatDoorEvT
namespace Go.Proofs.YtaehpjaleceppaaGreatDoor
open Go.RowKit Go.As
set_option linter.unusedVariables false
set_option maxRecDepth 100000 in
theorem semNil_recurses : (Rows.semNilRow.recurses == Tryz.prog.recurses 3) = true := by kernel_rfl
end Go.Proofs.YtaehpjaleceppaaGreatDoor
