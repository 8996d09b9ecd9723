/- Some of the chapter's examples of a program's spot. Closed runs, reckoned; no conditions. -/
import Derived.Test.YtiacalnkmnckjaaGreatDoorEvT
namespace Go.Proofs.YtiacalnkmnckjaaGreatDoor
open Go.RowKit Go.As
set_option linter.unusedVariables false

def ckArgs2 : List Value := [.string ⟨#[116, 104, 114, 101, 97, 100, 32, 116, 32, 123, 32, 108, 111, 99, 97, 108, 32, 105, 32, 105, 110, 116, 59, 32, 105, 102, 32, 116, 114, 117, 101, 32, 123, 32, 105, 32, 61, 32, 49, 46, 53, 59, 32, 125, 32, 125]⟩, .int .i64 9, .int .i64 0, .int .i64 1]
set_option maxRecDepth 100000 in
theorem ckRun2 : Ev.okTrue (Ev.reckonT Tryz.prog evA 20000 1 evTab 40 (ckArgs2.map .v)) = true := by kernel_rfl
theorem ck2 (w : World) (ht : Tab w) : Calls Tryz.prog 40 ckArgs2.toArray w fun e w' => e = .returned (.bool true) ∧ Below w.heap.size w w' :=
  Ev.reckonT_known ev_mixed ev_fine ev_glob Tryz.func40 (by kernel_rfl) ckArgs2 ckRun2 w (tab_at ht) ht
def ckArgs3 : List Value := [.string ⟨#[116, 104, 114, 101, 97, 100, 32, 116, 32, 123, 32, 108, 111, 99, 107, 32, 109, 59, 32, 121, 32, 61, 32, 49, 59, 32, 125]⟩, .int .i64 6, .int .i64 0, .int .i64 0]
set_option maxRecDepth 100000 in
theorem ckRun3 : Ev.okTrue (Ev.reckonT Tryz.prog evA 20000 1 evTab 40 (ckArgs3.map .v)) = true := by kernel_rfl
theorem ck3 (w : World) (ht : Tab w) : Calls Tryz.prog 40 ckArgs3.toArray w fun e w' => e = .returned (.bool true) ∧ Below w.heap.size w w' :=
  Ev.reckonT_known ev_mixed ev_fine ev_glob Tryz.func40 (by kernel_rfl) ckArgs3 ckRun3 w (tab_at ht) ht
end Go.Proofs.YtiacalnkmnckjaaGreatDoor
