/- A run that is none answers nothing: the law's run, reckoned; nothing looks at the number that is handed in. -/
import Derived.Test.YtaehpjaleceppaaGreatDoorSkA
namespace Go.Proofs.YtaehpjaleceppaaGreatDoor
open Go.RowKit Go.As
set_option linter.unusedVariables false

def snE : List (FuncId × List Value) := [(19, [])]
theorem snE_ok (f : FuncId) (vs : List Value) (h : (f, vs) ∈ snE) (w : World) (ht : Tab w) : Calls Tryz.prog f vs.toArray w fun e w' => e = .returned (.bool true) ∧ Below w.heap.size w w' := by
  unfold snE at h
  have h := List.mem_singleton.1 h
  injection h with h1 h2
  subst h1 h2
  exact awake08 w ht
set_option maxRecDepth 100000 in
theorem semNil_reckoned (a : Int) : Ev.okTrue (Ev.reckonT Tryz.prog (evAK snE) 20000 1 evTab 3 (([.int .i64 a] : List Value).map .v)) = true := by kernel_rfl
theorem semNil_walk (a : Int) (wa : (Lit.int .i64 a).wf = true) (w : World) (ht : Tab w) : Calls Tryz.prog 3 #[.int .i64 a] w fun e w' => e = .returned (.bool true) ∧ Below w.heap.size w w' :=
  Ev.reckonT_known ev_mixed (ev_fineK snE_ok) ev_glob Tryz.func3 (by kernel_rfl) [.int .i64 a] (semNil_reckoned a) w (tab_at ht) ht

end Go.Proofs.YtaehpjaleceppaaGreatDoor
