/- The library's table of bits, as its initialiser lays it, and how many zeros stand behind 16. Conditions: those in each theorem. -/
import Derived.Test.YtoonkajdmhmdpaaDoorEvT
import Derived.Lib.TrailingZeros
import Derived.WalkKit
import Derived.Laws.Bits64b
namespace Go.Proofs.YtoonkajdmhmdpaaDoor
open Go.RowKit Go.As
set_option linter.unusedVariables false

def tabBL : List Int := Lib.deBruijn64tab.map (fun (n : Nat) => (n : Int))
/-- the table of bits lies as its initialiser lays it -/
def TabB (W : World) : Prop := Lib.TabIs Tryd.prog W "math/bits.deBruijn64tab" .u8 tabBL
theorem TabB.below {w w' : World} (h : TabB w) (hb : Below w.heap.size w w') : TabB w' := by
  unfold TabB Lib.TabIs World.var? at *
  cases hg : Tryd.prog.globalNamed "math/bits.deBruijn64tab" with
  | none => simp [hg] at h
  | some g =>
    simp only [hg, Option.bind_some] at h ⊢
    have hlt : g < w.heap.size := by
      rcases Nat.lt_or_ge g w.heap.size with h' | h'
      · exact h'
      · rw [Array.getElem?_eq_none h'] at h; simp at h
    rw [hb.block g hlt]
    exact h
theorem tabB_of_laid {laid : List (String × DataW Unit)} {W : World} (hl : laid.filter (fun x => x.1 == "math/bits.deBruijn64tab") = [("math/bits.deBruijn64tab", Lib.tabData .u8 tabBL)]) (h : laidMetH Tryd.prog laid W) : TabB W := by
  have h2 := h.filter (fun x => x.1 == "math/bits.deBruijn64tab")
  rw [hl] at h2
  have h2 : laidMet Tryd.prog [("math/bits.deBruijn64tab", Lib.tabData .u8 tabBL)] W := h2
  exact Lib.tabIs_of_head (P := Tryd.prog) (g := 4) (t := 103) (e := 5) (n := 64) (by kernel_rfl) (by kernel_rfl) Tryd.underlying103 Tryd.underlying5 (by kernel_rfl) (by kernel_rfl) h2
theorem tz16b (w : World) (h : TabB w) : Calls Tryd.prog 89 #[.int .u64 16] w fun e w' => e = .returned (.int .i64 4) ∧ w = w' := by
  have hcell := Lib.TabIs.cell h (g := 4) (by kernel_rfl) 15 (by decide)
  have e4 : tabBL.getD 15 0 = 4 := by decide
  rw [e4] at hcell
  have key : IntKind.u64.wrap (bits BinOp.and IntKind.u64 16 (IntKind.u64.wrap (-16)) * 285870213051353865) / 288230376151711744 = 15 := by decide
  clear h
  go_enter Tryd.func89, Tryd.ntmps89
  go_wp2_with (simp only [key])
  go_ret
  exact ⟨rfl, rfl⟩
theorem tz16 (w : World) (h : TabB w) : Calls Tryd.prog 81 #[.int .u64 16] w fun e w' => e = .returned (.int .i64 4) ∧ w = w' := by
  go_enter Tryd.func81, Tryd.ntmps81
  go_wp2_with (go_at_call 89; refine (tz16b _ h).mono ?_; rintro e w' ⟨rfl, rfl⟩)
  go_ret
  exact ⟨rfl, rfl⟩
/-- both tables -/
def TabAB (W : World) : Prop := Tab W ∧ TabB W
theorem TabAB.below {w w' : World} (h : TabAB w) (hb : Below w.heap.size w w') : TabAB w' := ⟨h.1.below hb, h.2.below hb⟩
def evAVB (E : List (FuncId × List Value × Value)) : Ev.Aux := ⟨evId, Ev.anyV E, TabAB⟩
theorem ev_fineVB {E : List (FuncId × List Value × Value)} (h : ∀ f vs r, (f, vs, r) ∈ E → ∀ w, TabAB w → Calls Tryd.prog f vs.toArray w fun e w' => e = .returned r ∧ Below w.heap.size w w') : Ev.Fine Tryd.prog (evAVB E) :=
  Ev.fine_of evId_ok (Ev.anyV_ok h) (fun w w' h hb => h.below hb) (by kernel_rfl)
end Go.Proofs.YtoonkajdmhmdpaaDoor
