/-
  No cell of these rows narrows 'for every input' (looked for: loops, veiled, ifaces, maps, wideKeys, modest, calm, conditions, laid).
  DERIVED. THE GIVEN ROWS OF THIS SEAT. 9 by the template 'for every input the law returns true; each argument reads behind the call as it read before'; 0 by the template 'total and deterministic' (their statements: YtnkbjjnopbmfnaaTotals.lean).
  GIVEN WITH THE SEED: the statements are not yours to turn. If you find one false, say at which input.
  Laid BY PROGRAM, IN A SANDBOX (cutbox-rows.mjs): the forced cells as the released guide's own fill.sh prints them over the translation 4d17f3ed33223faf… (all of the seat's roots in one cut). By AI agents, Wed Nov 11 2026. No macro, syntax, notation, axiom, sorry.
-/
import Derived.Test.YtnkbjjnopbmfnaaChecked
import GoSem.Claim
import GoSem.ClaimJoined
import GoSem.ClaimMapViews
import Derived.JoinedTies
import Derived.KernelRfl
namespace Go.Proofs.Ytnkbjjnopbmfnaa
/- THE CELL 'sum', in the pinned program and in every row, IS THE sha256 OF THE DUMP (.gsa) THAT YtnkbjjnopbmfnaaProg.lean LOADS. Nothing in Lean hashes anything: it is a label: what it is worth is what the hold of that sum in a sandbox is worth. -/
noncomputable def Try.pinned : Pinned := { name := "ytnkbjjnopbmfnaa", sum := "4d17f3ed33223faf0da85ae67602feccf9ae6c4b4808c980b821f2830ede0c1b", checked := Try.checked }
namespace Rows
def none {H : Type} : Left H := { results := [], args := [] }

/-- 'assizelaw26.OutScript': WHATEVER THE INPUT: true; the input reads as it did. -/
def outScriptSpec : ChangeSpec := { name := "outScript", fn := fun _ => fun
  | [d1, d2] => { results := [.lit (.bool true)], args := [d1, d2] }
  | _ => none }
def outScriptRow : OpenClaim := { program := "ytnkbjjnopbmfnaa", sum := "4d17f3ed33223faf0da85ae67602feccf9ae6c4b4808c980b821f2830ede0c1b", func := "assize/assizelaw26.OutScript", spec := "outScript", inPlace := ["internal/bytealg.IndexByteString", "internal/bytealg.IndexString"], named := ["internal/bytealg.MaxLen"], apart := false }
def OutScriptSaid : Prop := outScriptRow.holds Try.pinned (OpenSpec.ofChange outScriptSpec)

/-- ITS FALSE NEIGHBOUR: 'it returns false'. Refute it at one input. -/
def outScriptWrong : ChangeSpec := { name := "outScript", fn := fun _ => fun
  | [d1, d2] => { results := [.lit (.bool false)], args := [d1, d2] }
  | _ => none }
def OutScriptWrongFalsely : Prop := outScriptRow.holds Try.pinned (OpenSpec.ofChange outScriptWrong)

/-- 'assizelaw26.OutNone': WHATEVER THE INPUT: true; the input reads as it did. -/
def outNoneSpec : ChangeSpec := { name := "outNone", fn := fun _ => fun
  | [d1, d2] => { results := [.lit (.bool true)], args := [d1, d2] }
  | _ => none }
def outNoneRow : OpenClaim := { program := "ytnkbjjnopbmfnaa", sum := "4d17f3ed33223faf0da85ae67602feccf9ae6c4b4808c980b821f2830ede0c1b", func := "assize/assizelaw26.OutNone", spec := "outNone", inPlace := ["internal/bytealg.IndexByteString", "internal/bytealg.IndexString"], named := ["internal/bytealg.MaxLen"], apart := false }
def OutNoneSaid : Prop := outNoneRow.holds Try.pinned (OpenSpec.ofChange outNoneSpec)

/-- ITS FALSE NEIGHBOUR: 'it returns false'. Refute it at one input. -/
def outNoneWrong : ChangeSpec := { name := "outNone", fn := fun _ => fun
  | [d1, d2] => { results := [.lit (.bool false)], args := [d1, d2] }
  | _ => none }
def OutNoneWrongFalsely : Prop := outNoneRow.holds Try.pinned (OpenSpec.ofChange outNoneWrong)

/-- 'assizelaw26.OutDrains': WHATEVER THE INPUT: true; the input reads as it did. -/
def outDrainsSpec : ChangeSpec := { name := "outDrains", fn := fun _ => fun
  | [d1, d2] => { results := [.lit (.bool true)], args := [d1, d2] }
  | _ => none }
def outDrainsRow : OpenClaim := { program := "ytnkbjjnopbmfnaa", sum := "4d17f3ed33223faf0da85ae67602feccf9ae6c4b4808c980b821f2830ede0c1b", func := "assize/assizelaw26.OutDrains", spec := "outDrains", inPlace := ["internal/bytealg.IndexByteString", "internal/bytealg.IndexString"], named := ["internal/bytealg.MaxLen"], apart := false }
def OutDrainsSaid : Prop := outDrainsRow.holds Try.pinned (OpenSpec.ofChange outDrainsSpec)

/-- ITS FALSE NEIGHBOUR: 'it returns false'. Refute it at one input. -/
def outDrainsWrong : ChangeSpec := { name := "outDrains", fn := fun _ => fun
  | [d1, d2] => { results := [.lit (.bool false)], args := [d1, d2] }
  | _ => none }
def OutDrainsWrongFalsely : Prop := outDrainsRow.holds Try.pinned (OpenSpec.ofChange outDrainsWrong)

/-- 'assizelaw27.LineCuts': WHATEVER THE INPUT: true; the input reads as it did. -/
def lineCutsSpec : ChangeSpec := { name := "lineCuts", fn := fun _ => fun
  | [d1, d2, d3] => { results := [.lit (.bool true)], args := [d1, d2, d3] }
  | _ => none }
def lineCutsRow : OpenClaim := { program := "ytnkbjjnopbmfnaa", sum := "4d17f3ed33223faf0da85ae67602feccf9ae6c4b4808c980b821f2830ede0c1b", func := "assize/assizelaw27.LineCuts", spec := "lineCuts", inPlace := ["internal/bytealg.IndexByte", "internal/bytealg.Index"], named := ["internal/bytealg.MaxLen"], apart := false }
def LineCutsSaid : Prop := lineCutsRow.holds Try.pinned (OpenSpec.ofChange lineCutsSpec)

/-- ITS FALSE NEIGHBOUR: 'it returns false'. Refute it at one input. -/
def lineCutsWrong : ChangeSpec := { name := "lineCuts", fn := fun _ => fun
  | [d1, d2, d3] => { results := [.lit (.bool false)], args := [d1, d2, d3] }
  | _ => none }
def LineCutsWrongFalsely : Prop := lineCutsRow.holds Try.pinned (OpenSpec.ofChange lineCutsWrong)

/-- 'assizelaw27.LineScript': WHATEVER THE INPUT: true; the input reads as it did. -/
def lineScriptSpec : ChangeSpec := { name := "lineScript", fn := fun _ => fun
  | [d1, d2, d3] => { results := [.lit (.bool true)], args := [d1, d2, d3] }
  | _ => none }
def lineScriptRow : OpenClaim := { program := "ytnkbjjnopbmfnaa", sum := "4d17f3ed33223faf0da85ae67602feccf9ae6c4b4808c980b821f2830ede0c1b", func := "assize/assizelaw27.LineScript", spec := "lineScript", inPlace := ["internal/bytealg.IndexByte", "internal/bytealg.Index"], named := ["internal/bytealg.MaxLen"], apart := false }
def LineScriptSaid : Prop := lineScriptRow.holds Try.pinned (OpenSpec.ofChange lineScriptSpec)

/-- ITS FALSE NEIGHBOUR: 'it returns false'. Refute it at one input. -/
def lineScriptWrong : ChangeSpec := { name := "lineScript", fn := fun _ => fun
  | [d1, d2, d3] => { results := [.lit (.bool false)], args := [d1, d2, d3] }
  | _ => none }
def LineScriptWrongFalsely : Prop := lineScriptRow.holds Try.pinned (OpenSpec.ofChange lineScriptWrong)

/-- 'assizelaw27.LineNone': WHATEVER THE INPUT: true; the input reads as it did. -/
def lineNoneSpec : ChangeSpec := { name := "lineNone", fn := fun _ => fun
  | [d] => { results := [.lit (.bool true)], args := [d] }
  | _ => none }
def lineNoneRow : OpenClaim := { program := "ytnkbjjnopbmfnaa", sum := "4d17f3ed33223faf0da85ae67602feccf9ae6c4b4808c980b821f2830ede0c1b", func := "assize/assizelaw27.LineNone", spec := "lineNone", inPlace := ["internal/bytealg.IndexByte", "internal/bytealg.Index"], named := ["internal/bytealg.MaxLen"], apart := false }
def LineNoneSaid : Prop := lineNoneRow.holds Try.pinned (OpenSpec.ofChange lineNoneSpec)

/-- ITS FALSE NEIGHBOUR: 'it returns false'. Refute it at one input. -/
def lineNoneWrong : ChangeSpec := { name := "lineNone", fn := fun _ => fun
  | [d] => { results := [.lit (.bool false)], args := [d] }
  | _ => none }
def LineNoneWrongFalsely : Prop := lineNoneRow.holds Try.pinned (OpenSpec.ofChange lineNoneWrong)

/-- 'assizelaw27.LineTells': WHATEVER THE INPUT: true; the input reads as it did. -/
def lineTellsSpec : ChangeSpec := { name := "lineTells", fn := fun _ => fun
  | [d1, d2] => { results := [.lit (.bool true)], args := [d1, d2] }
  | _ => none }
def lineTellsRow : OpenClaim := { program := "ytnkbjjnopbmfnaa", sum := "4d17f3ed33223faf0da85ae67602feccf9ae6c4b4808c980b821f2830ede0c1b", func := "assize/assizelaw27.LineTells", spec := "lineTells", inPlace := ["internal/bytealg.IndexByte", "internal/bytealg.Index", "internal/abi.NoEscape", "internal/bytealg.MakeNoZero"], named := ["internal/bytealg.MaxLen"], apart := false }
def LineTellsSaid : Prop := lineTellsRow.holds Try.pinned (OpenSpec.ofChange lineTellsSpec)

/-- ITS FALSE NEIGHBOUR: 'it returns false'. Refute it at one input. -/
def lineTellsWrong : ChangeSpec := { name := "lineTells", fn := fun _ => fun
  | [d1, d2] => { results := [.lit (.bool false)], args := [d1, d2] }
  | _ => none }
def LineTellsWrongFalsely : Prop := lineTellsRow.holds Try.pinned (OpenSpec.ofChange lineTellsWrong)

/-- 'assizelaw26.OutKnown': WHATEVER THE INPUT: true; the input reads as it did. -/
def outKnownSpec : ChangeSpec := { name := "outKnown", fn := fun _ => fun
  | [] => { results := [.lit (.bool true)], args := [] }
  | _ => none }
def outKnownRow : OpenClaim := { program := "ytnkbjjnopbmfnaa", sum := "4d17f3ed33223faf0da85ae67602feccf9ae6c4b4808c980b821f2830ede0c1b", func := "assize/assizelaw26.OutKnown", spec := "outKnown", inPlace := ["internal/bytealg.IndexByteString", "internal/bytealg.IndexString", "internal/abi.NoEscape", "internal/bytealg.MakeNoZero"], named := ["internal/bytealg.MaxLen"], apart := false }
def OutKnownSaid : Prop := outKnownRow.holds Try.pinned (OpenSpec.ofChange outKnownSpec)

/-- ITS FALSE NEIGHBOUR: 'it returns false'. Refute it at one input. -/
def outKnownWrong : ChangeSpec := { name := "outKnown", fn := fun _ => fun
  | [] => { results := [.lit (.bool false)], args := [] }
  | _ => none }
def OutKnownWrongFalsely : Prop := outKnownRow.holds Try.pinned (OpenSpec.ofChange outKnownWrong)

/-- 'assizelaw27.LineKnown': WHATEVER THE INPUT: true; the input reads as it did. -/
def lineKnownSpec : ChangeSpec := { name := "lineKnown", fn := fun _ => fun
  | [] => { results := [.lit (.bool true)], args := [] }
  | _ => none }
def lineKnownRow : OpenClaim := { program := "ytnkbjjnopbmfnaa", sum := "4d17f3ed33223faf0da85ae67602feccf9ae6c4b4808c980b821f2830ede0c1b", func := "assize/assizelaw27.LineKnown", spec := "lineKnown", inPlace := ["internal/bytealg.IndexByte", "internal/bytealg.Index", "internal/abi.NoEscape", "internal/bytealg.MakeNoZero"], named := ["internal/bytealg.MaxLen"], apart := false }
def LineKnownSaid : Prop := lineKnownRow.holds Try.pinned (OpenSpec.ofChange lineKnownSpec)

/-- ITS FALSE NEIGHBOUR: 'it returns false'. Refute it at one input. -/
def lineKnownWrong : ChangeSpec := { name := "lineKnown", fn := fun _ => fun
  | [] => { results := [.lit (.bool false)], args := [] }
  | _ => none }
def LineKnownWrongFalsely : Prop := lineKnownRow.holds Try.pinned (OpenSpec.ofChange lineKnownWrong)

/- THE SECOND FORM. 'bulk': how many values and letters a reading holds, each counted each time it is reached (what is shared counts as often as it is met; a slice's spare places count too). A statement '..UptoSaid' is the law's where the arguments, and the package variables that the reading takes, are together of bulk at most 1048576: NARROWER than '..Said'. Prove '..Said' where nothing that the law and all that it calls make is longer than what came in: it says more and counts as full. Else prove '..UptoSaid'. A law counts once. -/
mutual
def uptoBulk {H : Type} : DataW H → Nat
  | .lit (.string bytes) => bytes.length + 1
  | .lit _ => 1
  | .nil => 1
  | .ptr d => uptoBulk d + 1
  | .slice elems spare => uptoBulkAll elems + uptoBulkAll spare + 1
  | .agg parts => uptoBulkAll parts + 1
  | .iface _ d => uptoBulk d + 1
  | .map entries => uptoBulkEntries entries + 1
  | .held _ => 1
def uptoBulkAll {H : Type} : List (DataW H) → Nat
  | [] => 0
  | d :: r => uptoBulk d + uptoBulkAll r
def uptoBulkEntries {H : Type} : List (Lit × DataW H) → Nat
  | [] => 0
  | x :: r => uptoBulkEntry x + uptoBulkEntries r
def uptoBulkEntry {H : Type} : Lit × DataW H → Nat
  | (.string bytes, d) => bytes.length + uptoBulk d + 1
  | (_, d) => uptoBulk d + 1
 end
def uptoSmall : (H : Type) → List (DataW H) → Bool := fun _ ds => decide (uptoBulkAll ds ≤ 1048576)
def OpenSpec.upto (s : _root_.Go.ChangeSpec) : _root_.Go.OpenSpec := { _root_.Go.OpenSpec.ofChange s with cond := some uptoSmall }

/-- 'assizelaw26.OutScript', WHERE WHAT IT READS IS OF BULK AT MOST 1048576: true; the input reads as it did. -/
def outScriptUptoRow : OpenClaim := { program := "ytnkbjjnopbmfnaa", sum := "4d17f3ed33223faf0da85ae67602feccf9ae6c4b4808c980b821f2830ede0c1b", func := "assize/assizelaw26.OutScript", spec := "outScript", inPlace := ["internal/bytealg.IndexByteString", "internal/bytealg.IndexString"], named := ["internal/bytealg.MaxLen"], apart := false, narrowed := true }
def OutScriptUptoSaid : Prop := outScriptUptoRow.holds Try.pinned (OpenSpec.upto outScriptSpec)

/-- 'assizelaw26.OutNone', WHERE WHAT IT READS IS OF BULK AT MOST 1048576: true; the input reads as it did. -/
def outNoneUptoRow : OpenClaim := { program := "ytnkbjjnopbmfnaa", sum := "4d17f3ed33223faf0da85ae67602feccf9ae6c4b4808c980b821f2830ede0c1b", func := "assize/assizelaw26.OutNone", spec := "outNone", inPlace := ["internal/bytealg.IndexByteString", "internal/bytealg.IndexString"], named := ["internal/bytealg.MaxLen"], apart := false, narrowed := true }
def OutNoneUptoSaid : Prop := outNoneUptoRow.holds Try.pinned (OpenSpec.upto outNoneSpec)

/-- 'assizelaw26.OutDrains', WHERE WHAT IT READS IS OF BULK AT MOST 1048576: true; the input reads as it did. -/
def outDrainsUptoRow : OpenClaim := { program := "ytnkbjjnopbmfnaa", sum := "4d17f3ed33223faf0da85ae67602feccf9ae6c4b4808c980b821f2830ede0c1b", func := "assize/assizelaw26.OutDrains", spec := "outDrains", inPlace := ["internal/bytealg.IndexByteString", "internal/bytealg.IndexString"], named := ["internal/bytealg.MaxLen"], apart := false, narrowed := true }
def OutDrainsUptoSaid : Prop := outDrainsUptoRow.holds Try.pinned (OpenSpec.upto outDrainsSpec)

/-- 'assizelaw27.LineCuts', WHERE WHAT IT READS IS OF BULK AT MOST 1048576: true; the input reads as it did. -/
def lineCutsUptoRow : OpenClaim := { program := "ytnkbjjnopbmfnaa", sum := "4d17f3ed33223faf0da85ae67602feccf9ae6c4b4808c980b821f2830ede0c1b", func := "assize/assizelaw27.LineCuts", spec := "lineCuts", inPlace := ["internal/bytealg.IndexByte", "internal/bytealg.Index"], named := ["internal/bytealg.MaxLen"], apart := false, narrowed := true }
def LineCutsUptoSaid : Prop := lineCutsUptoRow.holds Try.pinned (OpenSpec.upto lineCutsSpec)

/-- 'assizelaw27.LineScript', WHERE WHAT IT READS IS OF BULK AT MOST 1048576: true; the input reads as it did. -/
def lineScriptUptoRow : OpenClaim := { program := "ytnkbjjnopbmfnaa", sum := "4d17f3ed33223faf0da85ae67602feccf9ae6c4b4808c980b821f2830ede0c1b", func := "assize/assizelaw27.LineScript", spec := "lineScript", inPlace := ["internal/bytealg.IndexByte", "internal/bytealg.Index"], named := ["internal/bytealg.MaxLen"], apart := false, narrowed := true }
def LineScriptUptoSaid : Prop := lineScriptUptoRow.holds Try.pinned (OpenSpec.upto lineScriptSpec)

/-- 'assizelaw27.LineNone', WHERE WHAT IT READS IS OF BULK AT MOST 1048576: true; the input reads as it did. -/
def lineNoneUptoRow : OpenClaim := { program := "ytnkbjjnopbmfnaa", sum := "4d17f3ed33223faf0da85ae67602feccf9ae6c4b4808c980b821f2830ede0c1b", func := "assize/assizelaw27.LineNone", spec := "lineNone", inPlace := ["internal/bytealg.IndexByte", "internal/bytealg.Index"], named := ["internal/bytealg.MaxLen"], apart := false, narrowed := true }
def LineNoneUptoSaid : Prop := lineNoneUptoRow.holds Try.pinned (OpenSpec.upto lineNoneSpec)

/-- 'assizelaw27.LineTells', WHERE WHAT IT READS IS OF BULK AT MOST 1048576: true; the input reads as it did. -/
def lineTellsUptoRow : OpenClaim := { program := "ytnkbjjnopbmfnaa", sum := "4d17f3ed33223faf0da85ae67602feccf9ae6c4b4808c980b821f2830ede0c1b", func := "assize/assizelaw27.LineTells", spec := "lineTells", inPlace := ["internal/bytealg.IndexByte", "internal/bytealg.Index", "internal/abi.NoEscape", "internal/bytealg.MakeNoZero"], named := ["internal/bytealg.MaxLen"], apart := false, narrowed := true }
def LineTellsUptoSaid : Prop := lineTellsUptoRow.holds Try.pinned (OpenSpec.upto lineTellsSpec)

/-- 'assizelaw26.OutKnown', WHERE WHAT IT READS IS OF BULK AT MOST 1048576: true; the input reads as it did. -/
def outKnownUptoRow : OpenClaim := { program := "ytnkbjjnopbmfnaa", sum := "4d17f3ed33223faf0da85ae67602feccf9ae6c4b4808c980b821f2830ede0c1b", func := "assize/assizelaw26.OutKnown", spec := "outKnown", inPlace := ["internal/bytealg.IndexByteString", "internal/bytealg.IndexString", "internal/abi.NoEscape", "internal/bytealg.MakeNoZero"], named := ["internal/bytealg.MaxLen"], apart := false, narrowed := true }
def OutKnownUptoSaid : Prop := outKnownUptoRow.holds Try.pinned (OpenSpec.upto outKnownSpec)

/-- 'assizelaw27.LineKnown', WHERE WHAT IT READS IS OF BULK AT MOST 1048576: true; the input reads as it did. -/
def lineKnownUptoRow : OpenClaim := { program := "ytnkbjjnopbmfnaa", sum := "4d17f3ed33223faf0da85ae67602feccf9ae6c4b4808c980b821f2830ede0c1b", func := "assize/assizelaw27.LineKnown", spec := "lineKnown", inPlace := ["internal/bytealg.IndexByte", "internal/bytealg.Index", "internal/abi.NoEscape", "internal/bytealg.MakeNoZero"], named := ["internal/bytealg.MaxLen"], apart := false, narrowed := true }
def LineKnownUptoSaid : Prop := lineKnownUptoRow.holds Try.pinned (OpenSpec.upto lineKnownSpec)

end Rows
end Go.Proofs.Ytnkbjjnopbmfnaa
