/-
  No cell of these rows narrows 'for every input' (looked for: loops, veiled, ifaces, maps, wideKeys, modest, calm, conditions, laid).
  DERIVED. THE GIVEN ROWS OF THIS SEAT. 8 by the template 'for every input the law returns true; each argument reads behind the call as it read before'; 0 by the template 'total and deterministic' (their statements: YtlfpkepgamnidaaTotals.lean).
  GIVEN WITH THE SEED: the statements are not yours to turn. If you find one false, say at which input.
  Laid BY PROGRAM, IN A SANDBOX (cutbox-rows.mjs): the forced cells as the released guide's own fill.sh prints them over the translation 1b464ab2020ba7fd… (all of the seat's roots in one cut). By AI agents, Wed Nov 11 2026. No macro, syntax, notation, axiom, sorry.
-/
import Derived.Test.YtlfpkepgamnidaaChecked
import GoSem.Claim
import GoSem.ClaimJoined
import GoSem.ClaimMapViews
import Derived.JoinedTies
import Derived.KernelRfl
namespace Go.Proofs.Ytlfpkepgamnidaa
/- THE CELL 'sum', in the pinned program and in every row, IS THE sha256 OF THE DUMP (.gsa) THAT YtlfpkepgamnidaaProg.lean LOADS. Nothing in Lean hashes anything: it is a label: what it is worth is what the hold of that sum in a sandbox is worth. -/
noncomputable def Try.pinned : Pinned := { name := "ytlfpkepgamnidaa", sum := "1b464ab2020ba7fd2e846607b3f52341fa40ae3ad22b2c9f0bb4adcc1e66086e", checked := Try.checked }
namespace Rows
def none {H : Type} : Left H := { results := [], args := [] }

/-- 'assizelaw04.LexNames': WHATEVER THE INPUT: true; the input reads as it did. -/
def lexNamesSpec : ChangeSpec := { name := "lexNames", fn := fun _ => fun
  | [d] => { results := [.lit (.bool true)], args := [d] }
  | _ => none }
def lexNamesRow : OpenClaim := { program := "ytlfpkepgamnidaa", sum := "1b464ab2020ba7fd2e846607b3f52341fa40ae3ad22b2c9f0bb4adcc1e66086e", func := "assize/assizelaw04.LexNames", spec := "lexNames", unfollowed := true, recurses := true, apart := false }
def LexNamesSaid : Prop := lexNamesRow.holds Try.pinned (OpenSpec.ofChange lexNamesSpec)

/-- ITS FALSE NEIGHBOUR: 'it returns false'. Refute it at one input. -/
def lexNamesWrong : ChangeSpec := { name := "lexNames", fn := fun _ => fun
  | [d] => { results := [.lit (.bool false)], args := [d] }
  | _ => none }
def LexNamesWrongFalsely : Prop := lexNamesRow.holds Try.pinned (OpenSpec.ofChange lexNamesWrong)

/-- 'assizelaw25.SlotFair': WHATEVER THE INPUT: true; the input reads as it did. -/
def slotFairSpec : ChangeSpec := { name := "slotFair", fn := fun _ => fun
  | [d1, d2] => { results := [.lit (.bool true)], args := [d1, d2] }
  | _ => none }
def slotFairRow : OpenClaim := { program := "ytlfpkepgamnidaa", sum := "1b464ab2020ba7fd2e846607b3f52341fa40ae3ad22b2c9f0bb4adcc1e66086e", func := "assize/assizelaw25.SlotFair", spec := "slotFair", apart := false }
def SlotFairSaid : Prop := slotFairRow.holds Try.pinned (OpenSpec.ofChange slotFairSpec)

/-- ITS FALSE NEIGHBOUR: 'it returns false'. Refute it at one input. -/
def slotFairWrong : ChangeSpec := { name := "slotFair", fn := fun _ => fun
  | [d1, d2] => { results := [.lit (.bool false)], args := [d1, d2] }
  | _ => none }
def SlotFairWrongFalsely : Prop := slotFairRow.holds Try.pinned (OpenSpec.ofChange slotFairWrong)

/-- 'assizelaw25.SlotWheel': WHATEVER THE INPUT: true; the input reads as it did. -/
def slotWheelSpec : ChangeSpec := { name := "slotWheel", fn := fun _ => fun
  | [d1, d2, d3] => { results := [.lit (.bool true)], args := [d1, d2, d3] }
  | _ => none }
def slotWheelRow : OpenClaim := { program := "ytlfpkepgamnidaa", sum := "1b464ab2020ba7fd2e846607b3f52341fa40ae3ad22b2c9f0bb4adcc1e66086e", func := "assize/assizelaw25.SlotWheel", spec := "slotWheel", apart := false }
def SlotWheelSaid : Prop := slotWheelRow.holds Try.pinned (OpenSpec.ofChange slotWheelSpec)

/-- ITS FALSE NEIGHBOUR: 'it returns false'. Refute it at one input. -/
def slotWheelWrong : ChangeSpec := { name := "slotWheel", fn := fun _ => fun
  | [d1, d2, d3] => { results := [.lit (.bool false)], args := [d1, d2, d3] }
  | _ => none }
def SlotWheelWrongFalsely : Prop := slotWheelRow.holds Try.pinned (OpenSpec.ofChange slotWheelWrong)

/-- 'assizelaw25.SlotNeeds': WHATEVER THE INPUT: true; the input reads as it did. -/
def slotNeedsSpec : ChangeSpec := { name := "slotNeeds", fn := fun _ => fun
  | [d1, d2] => { results := [.lit (.bool true)], args := [d1, d2] }
  | _ => none }
def slotNeedsRow : OpenClaim := { program := "ytlfpkepgamnidaa", sum := "1b464ab2020ba7fd2e846607b3f52341fa40ae3ad22b2c9f0bb4adcc1e66086e", func := "assize/assizelaw25.SlotNeeds", spec := "slotNeeds", apart := false }
def SlotNeedsSaid : Prop := slotNeedsRow.holds Try.pinned (OpenSpec.ofChange slotNeedsSpec)

/-- ITS FALSE NEIGHBOUR: 'it returns false'. Refute it at one input. -/
def slotNeedsWrong : ChangeSpec := { name := "slotNeeds", fn := fun _ => fun
  | [d1, d2] => { results := [.lit (.bool false)], args := [d1, d2] }
  | _ => none }
def SlotNeedsWrongFalsely : Prop := slotNeedsRow.holds Try.pinned (OpenSpec.ofChange slotNeedsWrong)

/-- 'assizelaw25.SlotScript': WHATEVER THE INPUT: true; the input reads as it did. -/
def slotScriptSpec : ChangeSpec := { name := "slotScript", fn := fun _ => fun
  | [d1, d2, d3] => { results := [.lit (.bool true)], args := [d1, d2, d3] }
  | _ => none }
def slotScriptRow : OpenClaim := { program := "ytlfpkepgamnidaa", sum := "1b464ab2020ba7fd2e846607b3f52341fa40ae3ad22b2c9f0bb4adcc1e66086e", func := "assize/assizelaw25.SlotScript", spec := "slotScript", apart := false }
def SlotScriptSaid : Prop := slotScriptRow.holds Try.pinned (OpenSpec.ofChange slotScriptSpec)

/-- ITS FALSE NEIGHBOUR: 'it returns false'. Refute it at one input. -/
def slotScriptWrong : ChangeSpec := { name := "slotScript", fn := fun _ => fun
  | [d1, d2, d3] => { results := [.lit (.bool false)], args := [d1, d2, d3] }
  | _ => none }
def SlotScriptWrongFalsely : Prop := slotScriptRow.holds Try.pinned (OpenSpec.ofChange slotScriptWrong)

/-- 'assizelaw25.SlotTurns': WHATEVER THE INPUT: true; the input reads as it did. -/
def slotTurnsSpec : ChangeSpec := { name := "slotTurns", fn := fun _ => fun
  | [d1, d2] => { results := [.lit (.bool true)], args := [d1, d2] }
  | _ => none }
def slotTurnsRow : OpenClaim := { program := "ytlfpkepgamnidaa", sum := "1b464ab2020ba7fd2e846607b3f52341fa40ae3ad22b2c9f0bb4adcc1e66086e", func := "assize/assizelaw25.SlotTurns", spec := "slotTurns", apart := false }
def SlotTurnsSaid : Prop := slotTurnsRow.holds Try.pinned (OpenSpec.ofChange slotTurnsSpec)

/-- ITS FALSE NEIGHBOUR: 'it returns false'. Refute it at one input. -/
def slotTurnsWrong : ChangeSpec := { name := "slotTurns", fn := fun _ => fun
  | [d1, d2] => { results := [.lit (.bool false)], args := [d1, d2] }
  | _ => none }
def SlotTurnsWrongFalsely : Prop := slotTurnsRow.holds Try.pinned (OpenSpec.ofChange slotTurnsWrong)

/-- 'assizelaw25.SlotNone': WHATEVER THE INPUT: true; the input reads as it did. -/
def slotNoneSpec : ChangeSpec := { name := "slotNone", fn := fun _ => fun
  | [d] => { results := [.lit (.bool true)], args := [d] }
  | _ => none }
def slotNoneRow : OpenClaim := { program := "ytlfpkepgamnidaa", sum := "1b464ab2020ba7fd2e846607b3f52341fa40ae3ad22b2c9f0bb4adcc1e66086e", func := "assize/assizelaw25.SlotNone", spec := "slotNone", apart := false }
def SlotNoneSaid : Prop := slotNoneRow.holds Try.pinned (OpenSpec.ofChange slotNoneSpec)

/-- ITS FALSE NEIGHBOUR: 'it returns false'. Refute it at one input. -/
def slotNoneWrong : ChangeSpec := { name := "slotNone", fn := fun _ => fun
  | [d] => { results := [.lit (.bool false)], args := [d] }
  | _ => none }
def SlotNoneWrongFalsely : Prop := slotNoneRow.holds Try.pinned (OpenSpec.ofChange slotNoneWrong)

/-- 'assizelaw25.SlotKnown': WHATEVER THE INPUT: true; the input reads as it did. -/
def slotKnownSpec : ChangeSpec := { name := "slotKnown", fn := fun _ => fun
  | [] => { results := [.lit (.bool true)], args := [] }
  | _ => none }
def slotKnownRow : OpenClaim := { program := "ytlfpkepgamnidaa", sum := "1b464ab2020ba7fd2e846607b3f52341fa40ae3ad22b2c9f0bb4adcc1e66086e", func := "assize/assizelaw25.SlotKnown", spec := "slotKnown", apart := false }
def SlotKnownSaid : Prop := slotKnownRow.holds Try.pinned (OpenSpec.ofChange slotKnownSpec)

/-- ITS FALSE NEIGHBOUR: 'it returns false'. Refute it at one input. -/
def slotKnownWrong : ChangeSpec := { name := "slotKnown", fn := fun _ => fun
  | [] => { results := [.lit (.bool false)], args := [] }
  | _ => none }
def SlotKnownWrongFalsely : Prop := slotKnownRow.holds Try.pinned (OpenSpec.ofChange slotKnownWrong)

/- THE SECOND FORM. 'bulk': how many values and letters a reading holds, each counted each time it is reached (what is shared counts as often as it is met; a slice's spare places count too). A statement '..UptoSaid' is the law's where the arguments, and the package variables that the reading takes, are together of bulk at most 1048576: NARROWER than '..Said'. Prove '..Said' where nothing that the law and all that it calls make is longer than what came in: it says more and counts as full. Else prove '..UptoSaid'. A law counts once. -/
mutual
def uptoBulk {H : Type} : DataW H → Nat
  | .lit (.string bytes) => bytes.length + 1
  | .lit _ => 1
  | .nil => 1
  | .ptr d => uptoBulk d + 1
  | .slice elems spare => uptoBulkAll elems + uptoBulkAll spare + 1
  | .agg parts => uptoBulkAll parts + 1
  | .iface _ d => uptoBulk d + 1
  | .map entries => uptoBulkEntries entries + 1
  | .held _ => 1
def uptoBulkAll {H : Type} : List (DataW H) → Nat
  | [] => 0
  | d :: r => uptoBulk d + uptoBulkAll r
def uptoBulkEntries {H : Type} : List (Lit × DataW H) → Nat
  | [] => 0
  | x :: r => uptoBulkEntry x + uptoBulkEntries r
def uptoBulkEntry {H : Type} : Lit × DataW H → Nat
  | (.string bytes, d) => bytes.length + uptoBulk d + 1
  | (_, d) => uptoBulk d + 1
 end
def uptoSmall : (H : Type) → List (DataW H) → Bool := fun _ ds => decide (uptoBulkAll ds ≤ 1048576)
def OpenSpec.upto (s : _root_.Go.ChangeSpec) : _root_.Go.OpenSpec := { _root_.Go.OpenSpec.ofChange s with cond := some uptoSmall }

/-- 'assizelaw04.LexNames', WHERE WHAT IT READS IS OF BULK AT MOST 1048576: true; the input reads as it did. -/
def lexNamesUptoRow : OpenClaim := { program := "ytlfpkepgamnidaa", sum := "1b464ab2020ba7fd2e846607b3f52341fa40ae3ad22b2c9f0bb4adcc1e66086e", func := "assize/assizelaw04.LexNames", spec := "lexNames", unfollowed := true, recurses := true, apart := false, narrowed := true }
def LexNamesUptoSaid : Prop := lexNamesUptoRow.holds Try.pinned (OpenSpec.upto lexNamesSpec)

/-- 'assizelaw25.SlotFair', WHERE WHAT IT READS IS OF BULK AT MOST 1048576: true; the input reads as it did. -/
def slotFairUptoRow : OpenClaim := { program := "ytlfpkepgamnidaa", sum := "1b464ab2020ba7fd2e846607b3f52341fa40ae3ad22b2c9f0bb4adcc1e66086e", func := "assize/assizelaw25.SlotFair", spec := "slotFair", apart := false, narrowed := true }
def SlotFairUptoSaid : Prop := slotFairUptoRow.holds Try.pinned (OpenSpec.upto slotFairSpec)

/-- 'assizelaw25.SlotWheel', WHERE WHAT IT READS IS OF BULK AT MOST 1048576: true; the input reads as it did. -/
def slotWheelUptoRow : OpenClaim := { program := "ytlfpkepgamnidaa", sum := "1b464ab2020ba7fd2e846607b3f52341fa40ae3ad22b2c9f0bb4adcc1e66086e", func := "assize/assizelaw25.SlotWheel", spec := "slotWheel", apart := false, narrowed := true }
def SlotWheelUptoSaid : Prop := slotWheelUptoRow.holds Try.pinned (OpenSpec.upto slotWheelSpec)

/-- 'assizelaw25.SlotNeeds', WHERE WHAT IT READS IS OF BULK AT MOST 1048576: true; the input reads as it did. -/
def slotNeedsUptoRow : OpenClaim := { program := "ytlfpkepgamnidaa", sum := "1b464ab2020ba7fd2e846607b3f52341fa40ae3ad22b2c9f0bb4adcc1e66086e", func := "assize/assizelaw25.SlotNeeds", spec := "slotNeeds", apart := false, narrowed := true }
def SlotNeedsUptoSaid : Prop := slotNeedsUptoRow.holds Try.pinned (OpenSpec.upto slotNeedsSpec)

/-- 'assizelaw25.SlotScript', WHERE WHAT IT READS IS OF BULK AT MOST 1048576: true; the input reads as it did. -/
def slotScriptUptoRow : OpenClaim := { program := "ytlfpkepgamnidaa", sum := "1b464ab2020ba7fd2e846607b3f52341fa40ae3ad22b2c9f0bb4adcc1e66086e", func := "assize/assizelaw25.SlotScript", spec := "slotScript", apart := false, narrowed := true }
def SlotScriptUptoSaid : Prop := slotScriptUptoRow.holds Try.pinned (OpenSpec.upto slotScriptSpec)

/-- 'assizelaw25.SlotTurns', WHERE WHAT IT READS IS OF BULK AT MOST 1048576: true; the input reads as it did. -/
def slotTurnsUptoRow : OpenClaim := { program := "ytlfpkepgamnidaa", sum := "1b464ab2020ba7fd2e846607b3f52341fa40ae3ad22b2c9f0bb4adcc1e66086e", func := "assize/assizelaw25.SlotTurns", spec := "slotTurns", apart := false, narrowed := true }
def SlotTurnsUptoSaid : Prop := slotTurnsUptoRow.holds Try.pinned (OpenSpec.upto slotTurnsSpec)

/-- 'assizelaw25.SlotNone', WHERE WHAT IT READS IS OF BULK AT MOST 1048576: true; the input reads as it did. -/
def slotNoneUptoRow : OpenClaim := { program := "ytlfpkepgamnidaa", sum := "1b464ab2020ba7fd2e846607b3f52341fa40ae3ad22b2c9f0bb4adcc1e66086e", func := "assize/assizelaw25.SlotNone", spec := "slotNone", apart := false, narrowed := true }
def SlotNoneUptoSaid : Prop := slotNoneUptoRow.holds Try.pinned (OpenSpec.upto slotNoneSpec)

/-- 'assizelaw25.SlotKnown', WHERE WHAT IT READS IS OF BULK AT MOST 1048576: true; the input reads as it did. -/
def slotKnownUptoRow : OpenClaim := { program := "ytlfpkepgamnidaa", sum := "1b464ab2020ba7fd2e846607b3f52341fa40ae3ad22b2c9f0bb4adcc1e66086e", func := "assize/assizelaw25.SlotKnown", spec := "slotKnown", apart := false, narrowed := true }
def SlotKnownUptoSaid : Prop := slotKnownUptoRow.holds Try.pinned (OpenSpec.upto slotKnownSpec)

end Rows
end Go.Proofs.Ytlfpkepgamnidaa
