/- The chapter's first examples. A closed run, reckoned; no conditions. -/
import Derived.Test.YtiacalnkmnckjaaGreatDoorEvT
namespace Go.Proofs.YtiacalnkmnckjaaGreatDoor
open Go.RowKit Go.As
set_option linter.unusedVariables false

set_option maxRecDepth 100000 in
theorem awake06Run : Ev.okTrue (Ev.reckonT Tryz.prog evA 20000 1 evTab 35 (([] : List Value).map .v)) = true := by kernel_rfl
theorem awake06 (w : World) (ht : Tab w) : Calls Tryz.prog 35 #[] w fun e w' => e = .returned (.bool true) ∧ Below w.heap.size w w' :=
  Ev.reckonT_known ev_mixed ev_fine ev_glob Tryz.func35 (by kernel_rfl) [] awake06Run w (tab_at ht) ht
def pkArgs0 : List Value := [.string ⟨#[40, 97]⟩, .bool false, .int .i64 4, .int .i64 2]
set_option maxRecDepth 100000 in
theorem pkRun0 : Ev.okTrue (Ev.reckonT Tryz.prog evA 20000 1 evTab 36 (pkArgs0.map .v)) = true := by kernel_rfl
theorem pk0 (w : World) (ht : Tab w) : Calls Tryz.prog 36 pkArgs0.toArray w fun e w' => e = .returned (.bool true) ∧ Below w.heap.size w w' :=
  Ev.reckonT_known ev_mixed ev_fine ev_glob Tryz.func36 (by kernel_rfl) pkArgs0 pkRun0 w (tab_at ht) ht
def pkArgs1 : List Value := [.string ⟨#[105, 110, 116, 32, 97]⟩, .bool false, .int .i64 4, .int .i64 4]
set_option maxRecDepth 100000 in
theorem pkRun1 : Ev.okTrue (Ev.reckonT Tryz.prog evA 20000 1 evTab 36 (pkArgs1.map .v)) = true := by kernel_rfl
theorem pk1 (w : World) (ht : Tab w) : Calls Tryz.prog 36 pkArgs1.toArray w fun e w' => e = .returned (.bool true) ∧ Below w.heap.size w w' :=
  Ev.reckonT_known ev_mixed ev_fine ev_glob Tryz.func36 (by kernel_rfl) pkArgs1 pkRun1 w (tab_at ht) ht
def pkArgs2 : List Value := [.string ⟨#[115, 104, 97, 114, 101, 100, 32, 120, 32, 105, 110, 116, 32, 61, 32, 116, 114, 117, 101, 59]⟩, .bool true, .int .i64 9, .int .i64 15]
set_option maxRecDepth 100000 in
theorem pkRun2 : Ev.okTrue (Ev.reckonT Tryz.prog evA 20000 1 evTab 36 (pkArgs2.map .v)) = true := by kernel_rfl
theorem pk2 (w : World) (ht : Tab w) : Calls Tryz.prog 36 pkArgs2.toArray w fun e w' => e = .returned (.bool true) ∧ Below w.heap.size w w' :=
  Ev.reckonT_known ev_mixed ev_fine ev_glob Tryz.func36 (by kernel_rfl) pkArgs2 pkRun2 w (tab_at ht) ht
def pkArgs3 : List Value := [.string ⟨#[116, 104, 114, 101, 97, 100, 32, 116, 32, 123, 32, 120, 32, 61, 32, 49, 32, 125]⟩, .bool true, .int .i64 4, .int .i64 17]
set_option maxRecDepth 100000 in
theorem pkRun3 : Ev.okTrue (Ev.reckonT Tryz.prog evA 20000 1 evTab 36 (pkArgs3.map .v)) = true := by kernel_rfl
theorem pk3 (w : World) (ht : Tab w) : Calls Tryz.prog 36 pkArgs3.toArray w fun e w' => e = .returned (.bool true) ∧ Below w.heap.size w w' :=
  Ev.reckonT_known ev_mixed ev_fine ev_glob Tryz.func36 (by kernel_rfl) pkArgs3 pkRun3 w (tab_at ht) ht
def pkArgs5 : List Value := [.string ⟨#[40, 40, 40, 40, 40, 40, 40, 40, 40, 40, 40, 40, 40, 40, 40, 40, 40, 40, 40, 40, 40, 40, 40, 40, 40, 40, 40, 40, 40, 40, 40, 40, 40]⟩, .bool false, .int .i64 160, .int .i64 32]
set_option maxRecDepth 100000 in
theorem pkRun5 : Ev.okTrue (Ev.reckonT Tryz.prog evA 20000 1 evTab 36 (pkArgs5.map .v)) = true := by kernel_rfl
theorem pk5 (w : World) (ht : Tab w) : Calls Tryz.prog 36 pkArgs5.toArray w fun e w' => e = .returned (.bool true) ∧ Below w.heap.size w w' :=
  Ev.reckonT_known ev_mixed ev_fine ev_glob Tryz.func36 (by kernel_rfl) pkArgs5 pkRun5 w (tab_at ht) ht
end Go.Proofs.YtiacalnkmnckjaaGreatDoor
