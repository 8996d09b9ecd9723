/- Some of the chapter's examples of a program's spot. Closed runs, reckoned; no conditions. -/
import Derived.Test.YtiacalnkmnckjaaGreatDoorEvT
namespace Go.Proofs.YtiacalnkmnckjaaGreatDoor
open Go.RowKit Go.As
set_option linter.unusedVariables false

def ckArgs4 : List Value := [.string ⟨#[109, 117, 116, 101, 120, 32, 97, 59, 32, 109, 117, 116, 101, 120, 32, 97, 59, 32, 116, 104, 114, 101, 97, 100, 32, 116, 32, 123, 32, 115, 107, 105, 112, 59, 32, 125]⟩, .int .i64 7, .int .i64 (-1), .int .i64 (-1)]
set_option maxRecDepth 100000 in
theorem ckRun4 : Ev.okTrue (Ev.reckonT Tryz.prog evA 20000 1 evTab 40 (ckArgs4.map .v)) = true := by kernel_rfl
theorem ck4 (w : World) (ht : Tab w) : Calls Tryz.prog 40 ckArgs4.toArray w fun e w' => e = .returned (.bool true) ∧ Below w.heap.size w w' :=
  Ev.reckonT_known ev_mixed ev_fine ev_glob Tryz.func40 (by kernel_rfl) ckArgs4 ckRun4 w (tab_at ht) ht
def ckArgs5 : List Value := [.string ⟨#[115, 104, 97, 114, 101, 100, 32, 120, 32, 105, 110, 116, 59, 32, 116, 104, 114, 101, 97, 100, 32, 116, 32, 123, 32, 108, 111, 99, 97, 108, 32, 120, 32, 105, 110, 116, 59, 32, 125]⟩, .int .i64 7, .int .i64 0, .int .i64 (-1)]
set_option maxRecDepth 100000 in
theorem ckRun5 : Ev.okTrue (Ev.reckonT Tryz.prog evA 20000 1 evTab 40 (ckArgs5.map .v)) = true := by kernel_rfl
theorem ck5 (w : World) (ht : Tab w) : Calls Tryz.prog 40 ckArgs5.toArray w fun e w' => e = .returned (.bool true) ∧ Below w.heap.size w w' :=
  Ev.reckonT_known ev_mixed ev_fine ev_glob Tryz.func40 (by kernel_rfl) ckArgs5 ckRun5 w (tab_at ht) ht
def ckArgs6 : List Value := [.string ⟨#[]⟩, .int .i64 3, .int .i64 (-1), .int .i64 (-1)]
set_option maxRecDepth 100000 in
theorem ckRun6 : Ev.okTrue (Ev.reckonT Tryz.prog evA 20000 1 evTab 40 (ckArgs6.map .v)) = true := by kernel_rfl
theorem ck6 (w : World) (ht : Tab w) : Calls Tryz.prog 40 ckArgs6.toArray w fun e w' => e = .returned (.bool true) ∧ Below w.heap.size w w' :=
  Ev.reckonT_known ev_mixed ev_fine ev_glob Tryz.func40 (by kernel_rfl) ckArgs6 ckRun6 w (tab_at ht) ht
end Go.Proofs.YtiacalnkmnckjaaGreatDoor
