/-
  DERIVED. GIVEN WITH THE SEED: THE CARDS: each row of YtaehpjaleceppaaGreatDoorRows.lean that lists a variable, with what it lists TIED to the program's text (the seventh form; the later family's looks); each row that meets fmt, with fmt's text TOLD by the authors' own Lean function (tested against real Go, not proved from fmt's source: count such statements apart). THE CARD IS WHAT COUNTS. Prove the row's statement (the work); the ties are given (YtaehpjaleceppaaGreatDoorTie.lean); close each card by the builder's one call (the guide's Derived/Test/ToyasCard.lean, 'card_holds'). Laid BY PROGRAM, IN A SANDBOX (cutbox-door.mjs). By AI agents, Wed Nov 11 2026. No macro, syntax, notation, axiom, sorry.
-/
import Derived.Test.YtaehpjaleceppaaGreatDoorRows
import GoSem.ClaimSeven
namespace Go.Proofs.YtaehpjaleceppaaGreatDoor
namespace Rows

/-- THE TIED CARD OF 'assizelaw08.SemNil'. -/
def semNilCard : Claim7 := { stood := { row := semNilRow, standIns := [], harness := (true, "3511cfb8ae2a7f6d68251adcbf61d87085101bd1e20d9130c3c12230e8c9dc78"), looks := true }, kinds := [], alts := [], laidByText := true, laidKinds := [.data, .data, .data], laidTests := true, laidLooks := .later }
def SemNilCardSaid : Prop := Claim7.holds Tryz.pinned (.plain (OpenSpec.ofChange semNilSpec)) semNilCard

/-- THE TIED CARD OF 'assizelaw08.SemValues'. -/
def semValuesCard : Claim7 := { stood := { row := semValuesRow, standIns := [], harness := (true, "3511cfb8ae2a7f6d68251adcbf61d87085101bd1e20d9130c3c12230e8c9dc78"), looks := true }, kinds := [], alts := [], laidByText := true, laidKinds := [.data, .data, .data], laidTests := true, laidLooks := .later }
def SemValuesCardSaid : Prop := Claim7.holds Tryz.pinned (.plain (OpenSpec.ofChange semValuesSpec)) semValuesCard

/-- THE TIED CARD OF 'assizelaw08.SemKnown'. -/
def semKnownCard : Claim7 := { stood := { row := semKnownRow, standIns := [], harness := (true, "3511cfb8ae2a7f6d68251adcbf61d87085101bd1e20d9130c3c12230e8c9dc78"), looks := true }, kinds := [], alts := [], laidByText := true, laidKinds := [.data, .data, .data], laidTests := true, laidLooks := .later }
def SemKnownCardSaid : Prop := Claim7.holds Tryz.pinned (.plain (OpenSpec.ofChange semKnownSpec)) semKnownCard

/-- THE TIED CARD OF 'assizelaw08.SemSteps'. -/
def semStepsCard : Claim7 := { stood := { row := semStepsRow, standIns := [], harness := (true, "3511cfb8ae2a7f6d68251adcbf61d87085101bd1e20d9130c3c12230e8c9dc78"), looks := true }, kinds := [], alts := [], laidByText := true, laidKinds := [.data, .data, .data], laidTests := true, laidLooks := .later }
def SemStepsCardSaid : Prop := Claim7.holds Tryz.pinned (.plain (OpenSpec.ofChange semStepsSpec)) semStepsCard

/-- THE TIED CARD OF 'assizelaw08.SemScript'. -/
def semScriptCard : Claim7 := { stood := { row := semScriptRow, standIns := [], harness := (true, "3511cfb8ae2a7f6d68251adcbf61d87085101bd1e20d9130c3c12230e8c9dc78"), looks := true }, kinds := [], alts := [], laidByText := true, laidKinds := [.data, .data, .data], laidTests := true, laidLooks := .later }
def SemScriptCardSaid : Prop := Claim7.holds Tryz.pinned (.plain (OpenSpec.ofChange semScriptSpec)) semScriptCard

/-- THE TIED CARD OF 'assizelaw08.SemClones'. -/
def semClonesCard : Claim7 := { stood := { row := semClonesRow, standIns := [], harness := (true, "3511cfb8ae2a7f6d68251adcbf61d87085101bd1e20d9130c3c12230e8c9dc78"), looks := true }, kinds := [], alts := [], laidByText := true, laidKinds := [.data, .data, .data], laidTests := true, laidLooks := .later }
def SemClonesCardSaid : Prop := Claim7.holds Tryz.pinned (.plain (OpenSpec.ofChange semClonesSpec)) semClonesCard

/-- THE SECOND FORM's CARD OF 'assizelaw08.SemNil'. -/
def semNilUptoCard : Claim7 := { stood := { row := semNilUptoRow, standIns := [], harness := (true, "3511cfb8ae2a7f6d68251adcbf61d87085101bd1e20d9130c3c12230e8c9dc78"), looks := true }, kinds := [], alts := [], laidByText := true, laidKinds := [.data, .data, .data], laidTests := true, laidLooks := .later }
def SemNilUptoCardSaid : Prop := Claim7.holds Tryz.pinned (.plain (OpenSpec.upto semNilSpec)) semNilUptoCard

/-- THE SECOND FORM's CARD OF 'assizelaw08.SemValues'. -/
def semValuesUptoCard : Claim7 := { stood := { row := semValuesUptoRow, standIns := [], harness := (true, "3511cfb8ae2a7f6d68251adcbf61d87085101bd1e20d9130c3c12230e8c9dc78"), looks := true }, kinds := [], alts := [], laidByText := true, laidKinds := [.data, .data, .data], laidTests := true, laidLooks := .later }
def SemValuesUptoCardSaid : Prop := Claim7.holds Tryz.pinned (.plain (OpenSpec.upto semValuesSpec)) semValuesUptoCard

/-- THE SECOND FORM's CARD OF 'assizelaw08.SemKnown'. -/
def semKnownUptoCard : Claim7 := { stood := { row := semKnownUptoRow, standIns := [], harness := (true, "3511cfb8ae2a7f6d68251adcbf61d87085101bd1e20d9130c3c12230e8c9dc78"), looks := true }, kinds := [], alts := [], laidByText := true, laidKinds := [.data, .data, .data], laidTests := true, laidLooks := .later }
def SemKnownUptoCardSaid : Prop := Claim7.holds Tryz.pinned (.plain (OpenSpec.upto semKnownSpec)) semKnownUptoCard

/-- THE SECOND FORM's CARD OF 'assizelaw08.SemSteps'. -/
def semStepsUptoCard : Claim7 := { stood := { row := semStepsUptoRow, standIns := [], harness := (true, "3511cfb8ae2a7f6d68251adcbf61d87085101bd1e20d9130c3c12230e8c9dc78"), looks := true }, kinds := [], alts := [], laidByText := true, laidKinds := [.data, .data, .data], laidTests := true, laidLooks := .later }
def SemStepsUptoCardSaid : Prop := Claim7.holds Tryz.pinned (.plain (OpenSpec.upto semStepsSpec)) semStepsUptoCard

/-- THE SECOND FORM's CARD OF 'assizelaw08.SemScript'. -/
def semScriptUptoCard : Claim7 := { stood := { row := semScriptUptoRow, standIns := [], harness := (true, "3511cfb8ae2a7f6d68251adcbf61d87085101bd1e20d9130c3c12230e8c9dc78"), looks := true }, kinds := [], alts := [], laidByText := true, laidKinds := [.data, .data, .data], laidTests := true, laidLooks := .later }
def SemScriptUptoCardSaid : Prop := Claim7.holds Tryz.pinned (.plain (OpenSpec.upto semScriptSpec)) semScriptUptoCard

/-- THE SECOND FORM's CARD OF 'assizelaw08.SemClones'. -/
def semClonesUptoCard : Claim7 := { stood := { row := semClonesUptoRow, standIns := [], harness := (true, "3511cfb8ae2a7f6d68251adcbf61d87085101bd1e20d9130c3c12230e8c9dc78"), looks := true }, kinds := [], alts := [], laidByText := true, laidKinds := [.data, .data, .data], laidTests := true, laidLooks := .later }
def SemClonesUptoCardSaid : Prop := Claim7.holds Tryz.pinned (.plain (OpenSpec.upto semClonesSpec)) semClonesUptoCard
end Rows
end Go.Proofs.YtaehpjaleceppaaGreatDoor
