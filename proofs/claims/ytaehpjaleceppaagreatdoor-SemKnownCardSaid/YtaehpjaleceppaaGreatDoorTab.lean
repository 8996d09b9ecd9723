/- strconv's table of powers, as the row lays it. Conditions: those in each theorem. -/
import Derived.Test.YtaehpjaleceppaaGreatDoorBase
import Derived.Test.YtaehpjaleceppaaGreatDoorRows
import Derived.Handy
import Derived.LaidSub
import Derived.Lib.LaidTab
import Derived.Lib.ItoaNum
import Derived.Laws.Externs
namespace Go.Proofs.YtaehpjaleceppaaGreatDoor
open Go.RowKit Go.As
set_option linter.unusedVariables false

/-- strconv's table of powers lies as its initialiser lays it -/
def Tab (W : World) : Prop := Lib.TabIs Tryz.prog W "internal/strconv.uint64pow10" .u64 Lib.pow10Tab
theorem Tab.below {w w' : World} (h : Tab w) (hb : Below w.heap.size w w') : Tab w' := by
  unfold Tab Lib.TabIs World.var? at *
  cases hg : Tryz.prog.globalNamed "internal/strconv.uint64pow10" with
  | none => simp [hg] at h
  | some g =>
    simp only [hg, Option.bind_some] at h ⊢
    have hlt : g < w.heap.size := by
      rcases Nat.lt_or_ge g w.heap.size with h' | h'
      · exact h'
      · rw [Array.getElem?_eq_none h'] at h; simp at h
    rw [hb.block g hlt]
    exact h
theorem Tab.drew {w : World} (h : Tab w) : Tab w.drew := h
theorem tab_of_laid {laid : List (String × DataW Unit)} {W : World} (hl : laid.filter (fun x => x.1 == "internal/strconv.uint64pow10") = [("internal/strconv.uint64pow10", Lib.tabData .u64 Lib.pow10Tab)]) (h : laidMetH Tryz.prog laid W) : Tab W := by
  have h2 := h.filter (fun x => x.1 == "internal/strconv.uint64pow10")
  rw [hl] at h2
  have h2 : laidMet Tryz.prog [("internal/strconv.uint64pow10", Lib.tabData .u64 Lib.pow10Tab)] W := h2
  exact Lib.tabIs_of_head (P := Tryz.prog) (g := 1) (t := 336) (e := 50) (n := 20) (by kernel_rfl) (by kernel_rfl) Tryz.underlying336 Tryz.underlying50 (by kernel_rfl) (by kernel_rfl) h2
end Go.Proofs.YtaehpjaleceppaaGreatDoor
