/-
  DERIVED. GIVEN WITH THE SEED: THE CARDS: each row of YtldkcfhigcmoaaaDoorRows.lean that lists a variable, with what it lists TIED to the program's text (the seventh form; the later family's looks); each row that meets fmt, with fmt's text TOLD by the authors' own Lean function (tested against real Go, not proved from fmt's source: count such statements apart). THE CARD IS WHAT COUNTS. Prove the row's statement (the work); the ties are given (YtldkcfhigcmoaaaDoorTie.lean); close each card by the builder's one call (the guide's Derived/Test/ToyasCard.lean, 'card_holds'). Laid BY PROGRAM, IN A SANDBOX (cutbox-door.mjs). By AI agents, Wed Nov 11 2026. No macro, syntax, notation, axiom, sorry.
-/
import Derived.Test.YtldkcfhigcmoaaaDoorRows
import GoSem.ClaimSeven
namespace Go.Proofs.YtldkcfhigcmoaaaDoor
namespace Rows

/-- THE TIED CARD OF 'assizelaw01.OctetNumbers'. -/
def octetNumbersCard : Claim7 := { stood := { row := octetNumbersRow, standIns := [], harness := (true, "c5dbe156eb60a59730607763013cde13550478e2496cc4cac80feebce387f0b5"), looks := false }, kinds := [], alts := [], laidByText := true, laidKinds := [.data, .data, .data], laidTests := true, laidLooks := .later }
def OctetNumbersCardSaid : Prop := Claim7.holds Tryd.pinned (.plain (OpenSpec.ofChange octetNumbersSpec)) octetNumbersCard

/-- THE TIED CARD OF 'assizelaw01.OctetDigits'. -/
def octetDigitsCard : Claim7 := { stood := { row := octetDigitsRow, standIns := [], harness := (true, "c5dbe156eb60a59730607763013cde13550478e2496cc4cac80feebce387f0b5"), looks := false }, kinds := [], alts := [], laidByText := true, laidKinds := [.data, .data, .data], laidTests := true, laidLooks := .later }
def OctetDigitsCardSaid : Prop := Claim7.holds Tryd.pinned (.plain (OpenSpec.ofChange octetDigitsSpec)) octetDigitsCard

/-- THE TIED CARD OF 'assizelaw01.OctetBack'. -/
def octetBackCard : Claim7 := { stood := { row := octetBackRow, standIns := [], harness := (true, "c5dbe156eb60a59730607763013cde13550478e2496cc4cac80feebce387f0b5"), looks := false }, kinds := [], alts := [], laidByText := true, laidKinds := [.data, .data, .data], laidTests := true, laidLooks := .later }
def OctetBackCardSaid : Prop := Claim7.holds Tryd.pinned (.plain (OpenSpec.ofChange octetBackSpec)) octetBackCard

/-- THE TIED CARD OF 'assizelaw28.ProtoReplies'. -/
def protoRepliesCard : Claim7 := { stood := { row := protoRepliesRow, standIns := [], harness := (true, "c5dbe156eb60a59730607763013cde13550478e2496cc4cac80feebce387f0b5"), looks := false }, kinds := [], alts := [], laidByText := true, laidKinds := [.data, .data, .data], laidTests := true, laidLooks := .later }
def ProtoRepliesCardSaid : Prop := Claim7.holds Tryd.pinned (.plain (OpenSpec.ofChange protoRepliesSpec)) protoRepliesCard

/-- THE TIED CARD OF 'assizelaw01.OctetWords'. -/
def octetWordsCard : Claim7 := { stood := { row := octetWordsRow, standIns := [], harness := (true, "c5dbe156eb60a59730607763013cde13550478e2496cc4cac80feebce387f0b5"), looks := false }, kinds := [], alts := [], laidByText := true, laidKinds := [.data, .data, .data], laidTests := true, laidLooks := .later }
def OctetWordsCardSaid : Prop := Claim7.holds Tryd.pinned (.plain (OpenSpec.ofChange octetWordsSpec)) octetWordsCard

/-- THE TIED CARD OF 'assizelaw28.ProtoRequests'. -/
def protoRequestsCard : Claim7 := { stood := { row := protoRequestsRow, standIns := [], harness := (true, "c5dbe156eb60a59730607763013cde13550478e2496cc4cac80feebce387f0b5"), looks := false }, kinds := [], alts := [], laidByText := true, laidKinds := [.data, .data, .data], laidTests := true, laidLooks := .later }
def ProtoRequestsCardSaid : Prop := Claim7.holds Tryd.pinned (.plain (OpenSpec.ofChange protoRequestsSpec)) protoRequestsCard

/-- THE TIED CARD OF 'assizelaw28.ProtoBack'. -/
def protoBackCard : Claim7 := { stood := { row := protoBackRow, standIns := [], harness := (true, "c5dbe156eb60a59730607763013cde13550478e2496cc4cac80feebce387f0b5"), looks := false }, kinds := [], alts := [], laidByText := true, laidKinds := [.data, .data, .data], laidTests := true, laidLooks := .later }
def ProtoBackCardSaid : Prop := Claim7.holds Tryd.pinned (.plain (OpenSpec.ofChange protoBackSpec)) protoBackCard

/-- THE TIED CARD OF 'assizelaw28.ProtoJobs'. -/
def protoJobsCard : Claim7 := { stood := { row := protoJobsRow, standIns := [], harness := (true, "c5dbe156eb60a59730607763013cde13550478e2496cc4cac80feebce387f0b5"), looks := false }, kinds := [], alts := [], laidByText := true, laidKinds := [.data, .data, .data], laidTests := true, laidLooks := .later }
def ProtoJobsCardSaid : Prop := Claim7.holds Tryd.pinned (.plain (OpenSpec.ofChange protoJobsSpec)) protoJobsCard

/-- THE TIED CARD OF 'assizelaw28.ProtoKnown'. -/
def protoKnownCard : Claim7 := { stood := { row := protoKnownRow, standIns := [], harness := (true, "c5dbe156eb60a59730607763013cde13550478e2496cc4cac80feebce387f0b5"), looks := false }, kinds := [], alts := [], laidByText := true, laidKinds := [.data, .data, .data], laidTests := true, laidLooks := .later }
def ProtoKnownCardSaid : Prop := Claim7.holds Tryd.pinned (.plain (OpenSpec.ofChange protoKnownSpec)) protoKnownCard

/-- THE TIED CARD OF 'assizelaw01.OctetKnown'. -/
def octetKnownCard : Claim7 := { stood := { row := octetKnownRow, standIns := [], harness := (true, "c5dbe156eb60a59730607763013cde13550478e2496cc4cac80feebce387f0b5"), looks := false }, kinds := [], alts := [], laidByText := true, laidKinds := [.data, .data, .data], laidTests := true, laidLooks := .later }
def OctetKnownCardSaid : Prop := Claim7.holds Tryd.pinned (.plain (OpenSpec.ofChange octetKnownSpec)) octetKnownCard

/-- THE SECOND FORM's CARD OF 'assizelaw01.OctetNumbers'. -/
def octetNumbersUptoCard : Claim7 := { stood := { row := octetNumbersUptoRow, standIns := [], harness := (true, "c5dbe156eb60a59730607763013cde13550478e2496cc4cac80feebce387f0b5"), looks := false }, kinds := [], alts := [], laidByText := true, laidKinds := [.data, .data, .data], laidTests := true, laidLooks := .later }
def OctetNumbersUptoCardSaid : Prop := Claim7.holds Tryd.pinned (.plain (OpenSpec.upto octetNumbersSpec)) octetNumbersUptoCard

/-- THE SECOND FORM's CARD OF 'assizelaw01.OctetDigits'. -/
def octetDigitsUptoCard : Claim7 := { stood := { row := octetDigitsUptoRow, standIns := [], harness := (true, "c5dbe156eb60a59730607763013cde13550478e2496cc4cac80feebce387f0b5"), looks := false }, kinds := [], alts := [], laidByText := true, laidKinds := [.data, .data, .data], laidTests := true, laidLooks := .later }
def OctetDigitsUptoCardSaid : Prop := Claim7.holds Tryd.pinned (.plain (OpenSpec.upto octetDigitsSpec)) octetDigitsUptoCard

/-- THE SECOND FORM's CARD OF 'assizelaw01.OctetBack'. -/
def octetBackUptoCard : Claim7 := { stood := { row := octetBackUptoRow, standIns := [], harness := (true, "c5dbe156eb60a59730607763013cde13550478e2496cc4cac80feebce387f0b5"), looks := false }, kinds := [], alts := [], laidByText := true, laidKinds := [.data, .data, .data], laidTests := true, laidLooks := .later }
def OctetBackUptoCardSaid : Prop := Claim7.holds Tryd.pinned (.plain (OpenSpec.upto octetBackSpec)) octetBackUptoCard

/-- THE SECOND FORM's CARD OF 'assizelaw28.ProtoReplies'. -/
def protoRepliesUptoCard : Claim7 := { stood := { row := protoRepliesUptoRow, standIns := [], harness := (true, "c5dbe156eb60a59730607763013cde13550478e2496cc4cac80feebce387f0b5"), looks := false }, kinds := [], alts := [], laidByText := true, laidKinds := [.data, .data, .data], laidTests := true, laidLooks := .later }
def ProtoRepliesUptoCardSaid : Prop := Claim7.holds Tryd.pinned (.plain (OpenSpec.upto protoRepliesSpec)) protoRepliesUptoCard

/-- THE SECOND FORM's CARD OF 'assizelaw01.OctetWords'. -/
def octetWordsUptoCard : Claim7 := { stood := { row := octetWordsUptoRow, standIns := [], harness := (true, "c5dbe156eb60a59730607763013cde13550478e2496cc4cac80feebce387f0b5"), looks := false }, kinds := [], alts := [], laidByText := true, laidKinds := [.data, .data, .data], laidTests := true, laidLooks := .later }
def OctetWordsUptoCardSaid : Prop := Claim7.holds Tryd.pinned (.plain (OpenSpec.upto octetWordsSpec)) octetWordsUptoCard

/-- THE SECOND FORM's CARD OF 'assizelaw28.ProtoRequests'. -/
def protoRequestsUptoCard : Claim7 := { stood := { row := protoRequestsUptoRow, standIns := [], harness := (true, "c5dbe156eb60a59730607763013cde13550478e2496cc4cac80feebce387f0b5"), looks := false }, kinds := [], alts := [], laidByText := true, laidKinds := [.data, .data, .data], laidTests := true, laidLooks := .later }
def ProtoRequestsUptoCardSaid : Prop := Claim7.holds Tryd.pinned (.plain (OpenSpec.upto protoRequestsSpec)) protoRequestsUptoCard

/-- THE SECOND FORM's CARD OF 'assizelaw28.ProtoBack'. -/
def protoBackUptoCard : Claim7 := { stood := { row := protoBackUptoRow, standIns := [], harness := (true, "c5dbe156eb60a59730607763013cde13550478e2496cc4cac80feebce387f0b5"), looks := false }, kinds := [], alts := [], laidByText := true, laidKinds := [.data, .data, .data], laidTests := true, laidLooks := .later }
def ProtoBackUptoCardSaid : Prop := Claim7.holds Tryd.pinned (.plain (OpenSpec.upto protoBackSpec)) protoBackUptoCard

/-- THE SECOND FORM's CARD OF 'assizelaw28.ProtoJobs'. -/
def protoJobsUptoCard : Claim7 := { stood := { row := protoJobsUptoRow, standIns := [], harness := (true, "c5dbe156eb60a59730607763013cde13550478e2496cc4cac80feebce387f0b5"), looks := false }, kinds := [], alts := [], laidByText := true, laidKinds := [.data, .data, .data], laidTests := true, laidLooks := .later }
def ProtoJobsUptoCardSaid : Prop := Claim7.holds Tryd.pinned (.plain (OpenSpec.upto protoJobsSpec)) protoJobsUptoCard

/-- THE SECOND FORM's CARD OF 'assizelaw28.ProtoKnown'. -/
def protoKnownUptoCard : Claim7 := { stood := { row := protoKnownUptoRow, standIns := [], harness := (true, "c5dbe156eb60a59730607763013cde13550478e2496cc4cac80feebce387f0b5"), looks := false }, kinds := [], alts := [], laidByText := true, laidKinds := [.data, .data, .data], laidTests := true, laidLooks := .later }
def ProtoKnownUptoCardSaid : Prop := Claim7.holds Tryd.pinned (.plain (OpenSpec.upto protoKnownSpec)) protoKnownUptoCard

/-- THE SECOND FORM's CARD OF 'assizelaw01.OctetKnown'. -/
def octetKnownUptoCard : Claim7 := { stood := { row := octetKnownUptoRow, standIns := [], harness := (true, "c5dbe156eb60a59730607763013cde13550478e2496cc4cac80feebce387f0b5"), looks := false }, kinds := [], alts := [], laidByText := true, laidKinds := [.data, .data, .data], laidTests := true, laidLooks := .later }
def OctetKnownUptoCardSaid : Prop := Claim7.holds Tryd.pinned (.plain (OpenSpec.upto octetKnownSpec)) octetKnownUptoCard
end Rows
end Go.Proofs.YtldkcfhigcmoaaaDoor
