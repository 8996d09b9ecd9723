/- The law SemKnown: the chapter's examples are answered as it says. A closed run, reckoned in pieces; no conditions. -/
import Derived.Test.YtaehpjaleceppaaGreatDoorSoL
import Derived.Test.YtaehpjaleceppaaGreatDoorSoFi
import Derived.Test.YtaehpjaleceppaaGreatDoorSoFu
import Derived.Test.YtaehpjaleceppaaGreatDoorSoFr
import Derived.Test.YtaehpjaleceppaaGreatDoorSoFn
namespace Go.Proofs.YtaehpjaleceppaaGreatDoor
open Go.RowKit Go.As
set_option linter.unusedVariables false

namespace semKnown
set_option linter.unusedVariables false
open Go.ChangeShapes Go.WideShapes Go.ChangeAt Go.RowKit Go.As
theorem closed : joinedFacts Tryz.prog 5 Tryz.f5 Rows.semKnownSpec Rows.semKnownRow = true := by
  unfold joinedFacts
  rw [semKnown_inPlace, semKnown_unfollowed, semKnown_recurses, semKnown_named]
  kernel_rfl
theorem over : Rows.semKnownRow.holds Tryz.pinned (OpenSpec.ofChange Rows.semKnownSpec) :=
  OpenClaim.holds_of_wide 5 Tryz.f5 rfl rfl rfl rfl rfl rfl rfl ⟨rfl, rfl, rfl, rfl, rfl⟩ rfl rfl rfl rfl rfl (by kernel_rfl) Tryz.func5 closed
    (of_decide_eq_true (by kernel_rfl)) (by unfold Func.isWrapper; rw [if_neg (of_decide_eq_false (by kernel_rfl))]; exact ⟨rfl, rfl⟩)
    (fun os started H enc _ => lifted os started H enc)
/-- the statement -/
theorem proved : Rows.SemKnownCardSaid :=
  Claim7.holds_tied_plain_at .later [] [.data, .data, .data] true (true, "3511cfb8ae2a7f6d68251adcbf61d87085101bd1e20d9130c3c12230e8c9dc78") true over (fun _ h => by cases h) (by kernel_rfl) (fun _ h => by cases h) semKnown_row_tie rfl ⟨rfl, rfl⟩ (by kernel_rfl) rfl
    (fun f fn hf hfn => by
      obtain rfl : f = 5 := Option.some.inj ((show Tryz.prog.funcNamed "assize/assizelaw08.SemKnown" = some 5 by kernel_rfl).symm.trans hf) |>.symm
      obtain rfl : fn = Tryz.f5 := (Option.some.inj (Tryz.func5.symm.trans hfn)).symm
      exact ⟨by kernel_rfl, fun j t ht => by
        rw [Tryz.params5] at ht
        simp at ht⟩)
    (by kernel_rfl)
#print axioms proved
end semKnown
end Go.Proofs.YtaehpjaleceppaaGreatDoor
