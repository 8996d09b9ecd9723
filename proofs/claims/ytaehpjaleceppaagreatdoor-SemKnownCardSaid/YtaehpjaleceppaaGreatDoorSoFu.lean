/- One closed fact of the row SemKnown. -/
import Derived.Test.YtaehpjaleceppaaGreatDoorRows
import Derived.Test.YtaehpjaleceppaaGreatDoorFrame
namespace Go.Proofs.YtaehpjaleceppaaGreatDoor
open Go.RowKit Go.As
set_option linter.unusedVariables false
set_option maxRecDepth 100000 in
theorem semKnown_unfollowed : (Rows.semKnownRow.unfollowed == Tryz.prog.unfollowed 5) = true := by kernel_rfl
end Go.Proofs.YtaehpjaleceppaaGreatDoor
