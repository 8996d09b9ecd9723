/-
  DERIVED. GIVEN WITH THE SEED: THE CARDS: each row of YtoonkajdmhmdpaaDoorRows.lean that lists a variable, with what it lists TIED to the program's text (the seventh form; the later family's looks); each row that meets fmt, with fmt's text TOLD by the authors' own Lean function (tested against real Go, not proved from fmt's source: count such statements apart). THE CARD IS WHAT COUNTS. Prove the row's statement (the work); the ties are given (YtoonkajdmhmdpaaDoorTie.lean); close each card by the builder's one call (the guide's Derived/Test/ToyasCard.lean, 'card_holds'). Laid BY PROGRAM, IN A SANDBOX (cutbox-door.mjs). By AI agents, Wed Nov 11 2026. No macro, syntax, notation, axiom, sorry.
-/
import Derived.Test.YtoonkajdmhmdpaaDoorRows
import GoSem.ClaimSeven
namespace Go.Proofs.YtoonkajdmhmdpaaDoor
namespace Rows

/-- THE TIED CARD OF 'assizelaw03.RealNearest'. -/
def realNearestCard : Claim7 := { stood := { row := realNearestRow, standIns := [], harness := (true, "7e8a5e3ef04c6f126ea9b2dcb9de6630f871d33b2f365b3a025e1e7c8e672a72"), looks := false }, kinds := [], alts := [], laidByText := true, laidKinds := [.data, .data, .data], laidTests := true, laidLooks := .later }
def RealNearestCardSaid : Prop := Claim7.holds Tryd.pinned (.plain (OpenSpec.ofChange realNearestSpec)) realNearestCard

/-- THE TIED CARD OF 'assizelaw03.RealOrder'. -/
def realOrderCard : Claim7 := { stood := { row := realOrderRow, standIns := [], harness := (true, "7e8a5e3ef04c6f126ea9b2dcb9de6630f871d33b2f365b3a025e1e7c8e672a72"), looks := false }, kinds := [], alts := [], laidByText := true, laidKinds := [.data, .data, .data], laidTests := true, laidLooks := .later }
def RealOrderCardSaid : Prop := Claim7.holds Tryd.pinned (.plain (OpenSpec.ofChange realOrderSpec)) realOrderCard

/-- THE TIED CARD OF 'assizelaw03.RealRing'. -/
def realRingCard : Claim7 := { stood := { row := realRingRow, standIns := [], harness := (true, "7e8a5e3ef04c6f126ea9b2dcb9de6630f871d33b2f365b3a025e1e7c8e672a72"), looks := false }, kinds := [], alts := [], laidByText := true, laidKinds := [.data, .data, .data], laidTests := true, laidLooks := .later }
def RealRingCardSaid : Prop := Claim7.holds Tryd.pinned (.plain (OpenSpec.ofChange realRingSpec)) realRingCard

/-- THE TIED CARD OF 'assizelaw03.RealWhole'. -/
def realWholeCard : Claim7 := { stood := { row := realWholeRow, standIns := [], harness := (true, "7e8a5e3ef04c6f126ea9b2dcb9de6630f871d33b2f365b3a025e1e7c8e672a72"), looks := false }, kinds := [], alts := [], laidByText := true, laidKinds := [.data, .data, .data], laidTests := true, laidLooks := .later }
def RealWholeCardSaid : Prop := Claim7.holds Tryd.pinned (.plain (OpenSpec.ofChange realWholeSpec)) realWholeCard

/-- THE TIED CARD OF 'assizelaw03.RealTexts'. -/
def realTextsCard : Claim7 := { stood := { row := realTextsRow, standIns := [], harness := (true, "7e8a5e3ef04c6f126ea9b2dcb9de6630f871d33b2f365b3a025e1e7c8e672a72"), looks := false }, kinds := [], alts := [], laidByText := true, laidKinds := [.data, .data, .data], laidTests := true, laidLooks := .later }
def RealTextsCardSaid : Prop := Claim7.holds Tryd.pinned (.plain (OpenSpec.ofChange realTextsSpec)) realTextsCard

/-- THE TIED CARD OF 'assizelaw03.RealBack'. -/
def realBackCard : Claim7 := { stood := { row := realBackRow, standIns := [], harness := (true, "7e8a5e3ef04c6f126ea9b2dcb9de6630f871d33b2f365b3a025e1e7c8e672a72"), looks := false }, kinds := [], alts := [], laidByText := true, laidKinds := [.data, .data, .data], laidTests := true, laidLooks := .later }
def RealBackCardSaid : Prop := Claim7.holds Tryd.pinned (.plain (OpenSpec.ofChange realBackSpec)) realBackCard

/-- THE TIED CARD OF 'assizelaw03.RealKnown'. -/
def realKnownCard : Claim7 := { stood := { row := realKnownRow, standIns := [], harness := (true, "7e8a5e3ef04c6f126ea9b2dcb9de6630f871d33b2f365b3a025e1e7c8e672a72"), looks := false }, kinds := [], alts := [], laidByText := true, laidKinds := [.data, .data, .data], laidTests := true, laidLooks := .later }
def RealKnownCardSaid : Prop := Claim7.holds Tryd.pinned (.plain (OpenSpec.ofChange realKnownSpec)) realKnownCard

/-- THE SECOND FORM's CARD OF 'assizelaw03.RealNearest'. -/
def realNearestUptoCard : Claim7 := { stood := { row := realNearestUptoRow, standIns := [], harness := (true, "7e8a5e3ef04c6f126ea9b2dcb9de6630f871d33b2f365b3a025e1e7c8e672a72"), looks := false }, kinds := [], alts := [], laidByText := true, laidKinds := [.data, .data, .data], laidTests := true, laidLooks := .later }
def RealNearestUptoCardSaid : Prop := Claim7.holds Tryd.pinned (.plain (OpenSpec.upto realNearestSpec)) realNearestUptoCard

/-- THE SECOND FORM's CARD OF 'assizelaw03.RealOrder'. -/
def realOrderUptoCard : Claim7 := { stood := { row := realOrderUptoRow, standIns := [], harness := (true, "7e8a5e3ef04c6f126ea9b2dcb9de6630f871d33b2f365b3a025e1e7c8e672a72"), looks := false }, kinds := [], alts := [], laidByText := true, laidKinds := [.data, .data, .data], laidTests := true, laidLooks := .later }
def RealOrderUptoCardSaid : Prop := Claim7.holds Tryd.pinned (.plain (OpenSpec.upto realOrderSpec)) realOrderUptoCard

/-- THE SECOND FORM's CARD OF 'assizelaw03.RealRing'. -/
def realRingUptoCard : Claim7 := { stood := { row := realRingUptoRow, standIns := [], harness := (true, "7e8a5e3ef04c6f126ea9b2dcb9de6630f871d33b2f365b3a025e1e7c8e672a72"), looks := false }, kinds := [], alts := [], laidByText := true, laidKinds := [.data, .data, .data], laidTests := true, laidLooks := .later }
def RealRingUptoCardSaid : Prop := Claim7.holds Tryd.pinned (.plain (OpenSpec.upto realRingSpec)) realRingUptoCard

/-- THE SECOND FORM's CARD OF 'assizelaw03.RealWhole'. -/
def realWholeUptoCard : Claim7 := { stood := { row := realWholeUptoRow, standIns := [], harness := (true, "7e8a5e3ef04c6f126ea9b2dcb9de6630f871d33b2f365b3a025e1e7c8e672a72"), looks := false }, kinds := [], alts := [], laidByText := true, laidKinds := [.data, .data, .data], laidTests := true, laidLooks := .later }
def RealWholeUptoCardSaid : Prop := Claim7.holds Tryd.pinned (.plain (OpenSpec.upto realWholeSpec)) realWholeUptoCard

/-- THE SECOND FORM's CARD OF 'assizelaw03.RealTexts'. -/
def realTextsUptoCard : Claim7 := { stood := { row := realTextsUptoRow, standIns := [], harness := (true, "7e8a5e3ef04c6f126ea9b2dcb9de6630f871d33b2f365b3a025e1e7c8e672a72"), looks := false }, kinds := [], alts := [], laidByText := true, laidKinds := [.data, .data, .data], laidTests := true, laidLooks := .later }
def RealTextsUptoCardSaid : Prop := Claim7.holds Tryd.pinned (.plain (OpenSpec.upto realTextsSpec)) realTextsUptoCard

/-- THE SECOND FORM's CARD OF 'assizelaw03.RealBack'. -/
def realBackUptoCard : Claim7 := { stood := { row := realBackUptoRow, standIns := [], harness := (true, "7e8a5e3ef04c6f126ea9b2dcb9de6630f871d33b2f365b3a025e1e7c8e672a72"), looks := false }, kinds := [], alts := [], laidByText := true, laidKinds := [.data, .data, .data], laidTests := true, laidLooks := .later }
def RealBackUptoCardSaid : Prop := Claim7.holds Tryd.pinned (.plain (OpenSpec.upto realBackSpec)) realBackUptoCard

/-- THE SECOND FORM's CARD OF 'assizelaw03.RealKnown'. -/
def realKnownUptoCard : Claim7 := { stood := { row := realKnownUptoRow, standIns := [], harness := (true, "7e8a5e3ef04c6f126ea9b2dcb9de6630f871d33b2f365b3a025e1e7c8e672a72"), looks := false }, kinds := [], alts := [], laidByText := true, laidKinds := [.data, .data, .data], laidTests := true, laidLooks := .later }
def RealKnownUptoCardSaid : Prop := Claim7.holds Tryd.pinned (.plain (OpenSpec.upto realKnownSpec)) realKnownUptoCard
end Rows
end Go.Proofs.YtoonkajdmhmdpaaDoor
