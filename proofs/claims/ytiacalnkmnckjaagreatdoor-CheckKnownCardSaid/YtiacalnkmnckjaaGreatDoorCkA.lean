/- Some of the chapter's examples of a program's spot. Closed runs, reckoned; no conditions. -/
import Derived.Test.YtiacalnkmnckjaaGreatDoorEvT
namespace Go.Proofs.YtiacalnkmnckjaaGreatDoor
open Go.RowKit Go.As
set_option linter.unusedVariables false

def ckArgs0 : List Value := [.string ⟨#[115, 104, 97, 114, 101, 100, 32, 120, 32, 105, 110, 116, 59, 32, 116, 104, 114, 101, 97, 100, 32, 116, 32, 123, 32, 120, 32, 61, 32, 49, 59, 32, 125]⟩, .int .i64 0, .int .i64 (-1), .int .i64 (-1)]
set_option maxRecDepth 100000 in
theorem ckRun0 : Ev.okTrue (Ev.reckonT Tryz.prog evA 20000 1 evTab 40 (ckArgs0.map .v)) = true := by kernel_rfl
theorem ck0 (w : World) (ht : Tab w) : Calls Tryz.prog 40 ckArgs0.toArray w fun e w' => e = .returned (.bool true) ∧ Below w.heap.size w w' :=
  Ev.reckonT_known ev_mixed ev_fine ev_glob Tryz.func40 (by kernel_rfl) ckArgs0 ckRun0 w (tab_at ht) ht
def ckArgs1 : List Value := [.string ⟨#[115, 104, 97, 114, 101, 100, 32, 120, 32, 105, 110, 116, 59, 32, 116, 104, 114, 101, 97, 100, 32, 116, 32, 123, 32, 120, 32, 61, 32, 120, 32, 43, 32, 49, 59, 32, 125]⟩, .int .i64 170, .int .i64 0, .int .i64 0]
set_option maxRecDepth 100000 in
theorem ckRun1 : Ev.okTrue (Ev.reckonT Tryz.prog evA 20000 1 evTab 40 (ckArgs1.map .v)) = true := by kernel_rfl
theorem ck1 (w : World) (ht : Tab w) : Calls Tryz.prog 40 ckArgs1.toArray w fun e w' => e = .returned (.bool true) ∧ Below w.heap.size w w' :=
  Ev.reckonT_known ev_mixed ev_fine ev_glob Tryz.func40 (by kernel_rfl) ckArgs1 ckRun1 w (tab_at ht) ht
end Go.Proofs.YtiacalnkmnckjaaGreatDoor
