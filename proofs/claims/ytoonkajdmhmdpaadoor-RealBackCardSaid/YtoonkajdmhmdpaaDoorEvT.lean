/- What the reckoner asks of this program: its functions' names, the one function that hands back what it is handed; strconv's table. Conditions: those in each theorem. -/
import Derived.Test.YtoonkajdmhmdpaaDoorEv11
import Derived.Test.YtoonkajdmhmdpaaDoorBase
import Derived.Test.YtoonkajdmhmdpaaDoorRows
import Derived.Handy
import Derived.LaidSub
import Derived.Lib.LaidTab
import Derived.Lib.ItoaNum
import Derived.Laws.Externs
namespace Go.Proofs.YtoonkajdmhmdpaaDoor
open Go.RowKit Go.As
set_option linter.unusedVariables false

/-- strconv's table of powers lies as its initialiser lays it -/
def Tab (W : World) : Prop := Lib.TabIs Tryd.prog W "internal/strconv.uint64pow10" .u64 Lib.pow10Tab
theorem Tab.below {w w' : World} (h : Tab w) (hb : Below w.heap.size w w') : Tab w' := by
  unfold Tab Lib.TabIs World.var? at *
  cases hg : Tryd.prog.globalNamed "internal/strconv.uint64pow10" with
  | none => simp [hg] at h
  | some g =>
    simp only [hg, Option.bind_some] at h ⊢
    have hlt : g < w.heap.size := by
      rcases Nat.lt_or_ge g w.heap.size with h' | h'
      · exact h'
      · rw [Array.getElem?_eq_none h'] at h; simp at h
    rw [hb.block g hlt]
    exact h
theorem Tab.drew {w : World} (h : Tab w) : Tab w.drew := h
theorem tab_of_laid {laid : List (String × DataW Unit)} {W : World} (hl : laid.filter (fun x => x.1 == "internal/strconv.uint64pow10") = [("internal/strconv.uint64pow10", Lib.tabData .u64 Lib.pow10Tab)]) (h : laidMetH Tryd.prog laid W) : Tab W := by
  have h2 := h.filter (fun x => x.1 == "internal/strconv.uint64pow10")
  rw [hl] at h2
  have h2 : laidMet Tryd.prog [("internal/strconv.uint64pow10", Lib.tabData .u64 Lib.pow10Tab)] W := h2
  exact Lib.tabIs_of_head (P := Tryd.prog) (g := 2) (t := 93) (e := 25) (n := 20) (by kernel_rfl) (by kernel_rfl) Tryd.underlying93 Tryd.underlying25 (by kernel_rfl) (by kernel_rfl) h2

def evTab : List Nat := [1, 10, 100, 1000, 10000, 100000, 1000000, 10000000, 100000000, 1000000000, 10000000000, 100000000000, 1000000000000, 10000000000000, 100000000000000, 1000000000000000, 10000000000000000, 100000000000000000, 1000000000000000000, 10000000000000000000]
theorem tab_at {w : World} (h : Tab w) : Ev.TabAt 2 evTab w := by
  unfold Tab Lib.TabIs World.var? at h
  have hg : Tryd.prog.globalNamed "internal/strconv.uint64pow10" = some 2 := by kernel_rfl
  simp only [hg, Option.bind_some] at h
  have e : (Lib.pow10Tab.map fun z => Value.int .u64 z).toArray = (evTab.map fun (n : Nat) => Value.int .u64 (n : Int)).toArray := by kernel_rfl
  rw [e] at h
  split at h
  · rename_i cs ty fz hh
    injection h with h
    subst h
    exact ⟨ty, fz, hh⟩
  · cases h
def evId (f : Nat) : Bool := Nat.beq f 82
theorem noEscape (x : Value) (w : World) : (callFunc 82 #[x]).run Tryd.prog w = .ok (.value x) w := by
  rw [run_callFunc_extern (P := Tryd.prog) Tryd.func82 (by kernel_rfl) (by kernel_rfl) (e := Extern.AbiNoEscape.same) (by kernel_rfl) (by kernel_rfl)]
  rfl
def evA : Ev.Aux := ⟨evId, fun _ _ => none, Tab⟩
theorem evId_ok (f : Nat) (hf : evId f = true) (x : Value) (w : World) : (callFunc f #[x]).run Tryd.prog w = .ok (.value x) w := by
  have := Nat.eq_of_beq_eq_true hf
  subst this
  exact noEscape x w
theorem ev_fine : Ev.Fine Tryd.prog evA := Ev.fine_of evId_ok (fun f args av h => by cases h) (fun w w' h hb => h.below hb) (by kernel_rfl)
/-- with calls that are known -/
def evAK (E : List (FuncId × List Value)) : Ev.Aux := ⟨evId, Ev.anyE E, Tab⟩
theorem ev_fineK {E : List (FuncId × List Value)} (h : ∀ f vs, (f, vs) ∈ E → ∀ w, Tab w → Calls Tryd.prog f vs.toArray w fun e w' => e = .returned (.bool true) ∧ Below w.heap.size w w') : Ev.Fine Tryd.prog (evAK E) :=
  Ev.fine_of evId_ok (Ev.anyE_ok h) (fun w w' h hb => h.below hb) (by kernel_rfl)
/-- with calls of which the value is known -/
def evAV (E : List (FuncId × List Value × Value)) : Ev.Aux := ⟨evId, Ev.anyV E, Tab⟩
theorem ev_fineV {E : List (FuncId × List Value × Value)} (h : ∀ f vs r, (f, vs, r) ∈ E → ∀ w, Tab w → Calls Tryd.prog f vs.toArray w fun e w' => e = .returned r ∧ Below w.heap.size w w') : Ev.Fine Tryd.prog (evAV E) :=
  Ev.fine_of evId_ok (Ev.anyV_ok h) (fun w w' h hb => h.below hb) (by kernel_rfl)
theorem ev_mixed : Tryd.prog.follows .mixedOrders = true := by kernel_rfl
theorem ev_glob : 2 < Tryd.prog.globals.size := of_decide_eq_true (by kernel_rfl)
end Go.Proofs.YtoonkajdmhmdpaaDoor
