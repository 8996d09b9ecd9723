/- What closed runs by the machine need: strconv's table. No conditions but those in each theorem. -/
import Derived.Test.YtaehpjaleceppaaGreatDoorSyTz
import Derived.Test.YtaehpjaleceppaaGreatDoorTab
import Derived.Test.YtaehpjaleceppaaGreatDoorSy23
namespace Go.Proofs.YtaehpjaleceppaaGreatDoor
open Go.RowKit Go.As
set_option linter.unusedVariables false

def evTab : List Nat := [1, 10, 100, 1000, 10000, 100000, 1000000, 10000000, 100000000, 1000000000, 10000000000, 100000000000, 1000000000000, 10000000000000, 100000000000000, 1000000000000000, 10000000000000000, 100000000000000000, 1000000000000000000, 10000000000000000000]
theorem tab_at {w : World} (h : Tab w) : Sy.TabAt 1 evTab w := by
  unfold Tab Lib.TabIs World.var? at h
  have hg : Tryz.prog.globalNamed "internal/strconv.uint64pow10" = some 1 := by kernel_rfl
  simp only [hg, Option.bind_some] at h
  have e : (Lib.pow10Tab.map fun z => Value.int .u64 z).toArray = (evTab.map fun (n : Nat) => Value.int .u64 (n : Int)).toArray := by kernel_rfl
  rw [e] at h
  split at h
  · rename_i cs ty fz hh
    injection h with h
    subst h
    exact ⟨ty, fz, hh⟩
  · cases h
def syIT : Sy.Aux := ⟨evId, fun _ _ => none, Tab⟩
theorem sy_fineT : Sy.Fine Tryz.prog syIT := Sy.fine_of evId_ok (fun f args av h => by cases h) (fun w w' h hb => h.below hb) (by kernel_rfl)
theorem sy_glob : 1 < Tryz.prog.globals.size := of_decide_eq_true (by kernel_rfl)
noncomputable def gz : Nat := Tryz.prog.globals.size
def seqR : Code → Code
  | .seq _ b => b
  | c => c
theorem cxT {w : World} (ht : Tab w) : Sy.Cx Tryz.prog syIT (· < w.heap.size) w := ⟨sy_mixed, sy_fineT, fun w' hk => ht.below hk.below⟩
noncomputable def tabB : Sy.Blk := .cells 0 false false false 20 (Sy.putL .leaf 0 (Sy.natAVs evTab))
end Go.Proofs.YtaehpjaleceppaaGreatDoor
