/-
  DERIVED. GIVEN WITH THE SEED: THE CARDS: each row of YtinjiigdijbjeaaGreatDoorRows.lean that lists a variable, with what it lists TIED to the program's text (the seventh form; the later family's looks); each row that meets fmt, with fmt's text TOLD by the authors' own Lean function (tested against real Go, not proved from fmt's source: count such statements apart). THE CARD IS WHAT COUNTS. Prove the row's statement (the work); the ties are given (YtinjiigdijbjeaaGreatDoorTie.lean); close each card by the builder's one call (the guide's Derived/Test/ToyasCard.lean, 'card_holds'). Laid BY PROGRAM, IN A SANDBOX (cutbox-door.mjs). By AI agents, Wed Nov 11 2026. No macro, syntax, notation, axiom, sorry.
-/
import Derived.Test.YtinjiigdijbjeaaGreatDoorRows
import GoSem.ClaimSeven
namespace Go.Proofs.YtinjiigdijbjeaaGreatDoor
namespace Rows

/-- THE TIED CARD OF 'assizelaw08.SemValues'. -/
def semValuesCard : Claim7 := { stood := { row := semValuesRow, standIns := [], harness := (true, "364921c9d917feb0d8a064dd93df5ff1acfa16d23a4fd0b977f396a4b6209138"), looks := true }, kinds := [], alts := [], laidByText := true, laidKinds := [.data, .data, .data], laidTests := true, laidLooks := .later }
def SemValuesCardSaid : Prop := Claim7.holds Tryz.pinned (.plain (OpenSpec.ofChange semValuesSpec)) semValuesCard

/-- THE SECOND FORM's CARD OF 'assizelaw08.SemValues'. -/
def semValuesUptoCard : Claim7 := { stood := { row := semValuesUptoRow, standIns := [], harness := (true, "364921c9d917feb0d8a064dd93df5ff1acfa16d23a4fd0b977f396a4b6209138"), looks := true }, kinds := [], alts := [], laidByText := true, laidKinds := [.data, .data, .data], laidTests := true, laidLooks := .later }
def SemValuesUptoCardSaid : Prop := Claim7.holds Tryz.pinned (.plain (OpenSpec.upto semValuesSpec)) semValuesUptoCard
end Rows
end Go.Proofs.YtinjiigdijbjeaaGreatDoor
