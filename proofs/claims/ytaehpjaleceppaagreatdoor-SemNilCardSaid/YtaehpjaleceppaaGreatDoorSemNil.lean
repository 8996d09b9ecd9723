/- The law SemNil: a run that is none answers nothing; every input. -/
import Derived.Test.YtaehpjaleceppaaGreatDoorSnL
import Derived.Test.YtaehpjaleceppaaGreatDoorSnFi
import Derived.Test.YtaehpjaleceppaaGreatDoorSnFu
import Derived.Test.YtaehpjaleceppaaGreatDoorSnFr
import Derived.Test.YtaehpjaleceppaaGreatDoorSnFn
namespace Go.Proofs.YtaehpjaleceppaaGreatDoor
open Go.RowKit Go.As
set_option linter.unusedVariables false

namespace semNil
set_option linter.unusedVariables false
open Go.ChangeShapes Go.WideShapes Go.ChangeAt Go.RowKit Go.As
theorem closed : joinedFacts Tryz.prog 3 Tryz.f3 Rows.semNilSpec Rows.semNilRow = true := by
  unfold joinedFacts
  rw [semNil_inPlace, semNil_unfollowed, semNil_recurses, semNil_named]
  kernel_rfl
theorem over : Rows.semNilRow.holds Tryz.pinned (OpenSpec.ofChange Rows.semNilSpec) :=
  OpenClaim.holds_of_wide 3 Tryz.f3 rfl rfl rfl rfl rfl rfl rfl ⟨rfl, rfl, rfl, rfl, rfl⟩ rfl rfl rfl rfl rfl (by kernel_rfl) Tryz.func3 closed
    (of_decide_eq_true (by kernel_rfl)) (by unfold Func.isWrapper; rw [if_neg (of_decide_eq_false (by kernel_rfl))]; exact ⟨rfl, rfl⟩)
    (fun os started H enc _ => lifted os started H enc)
/-- the statement -/
theorem proved : Rows.SemNilCardSaid :=
  Claim7.holds_tied_plain_at .later [] [.data, .data, .data] true (true, "3511cfb8ae2a7f6d68251adcbf61d87085101bd1e20d9130c3c12230e8c9dc78") true over (fun _ h => by cases h) (by kernel_rfl) (fun _ h => by cases h) semNil_row_tie rfl ⟨rfl, rfl⟩ (by kernel_rfl) rfl
    (fun f fn hf hfn => by
      obtain rfl : f = 3 := Option.some.inj ((show Tryz.prog.funcNamed "assize/assizelaw08.SemNil" = some 3 by kernel_rfl).symm.trans hf) |>.symm
      obtain rfl : fn = Tryz.f3 := (Option.some.inj (Tryz.func3.symm.trans hfn)).symm
      exact ⟨by kernel_rfl, fun j t ht => by
        rw [Tryz.params3] at ht
        have hm : t ∈ [3] := by simpa using Array.mem_of_getElem? ht
        have hall : ([3].all fun u => !Tryz.prog.wantsStandIn u) = true := by kernel_rfl
        exact (show Tryz.prog.wantsStandIn t = false by simpa using List.all_eq_true.1 hall t hm)⟩)
    (by kernel_rfl)
#print axioms proved
end semNil
end Go.Proofs.YtaehpjaleceppaaGreatDoor
