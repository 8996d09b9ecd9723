/- The reckoner: calls that are known already. Any program; no conditions beyond those in each theorem. -/
import Derived.Test.YtoonkajdmhmdpaaDoorEv10
noncomputable section
namespace Go.Ev
open Go Go.RowKit
set_option linter.unusedVariables false
set_option linter.unusedSimpArgs false

/-- the calls that are known to come back with true -/
def anyE : List (FuncId × List Value) → FuncId → List AV → Option AV
  | [], _, _ => none
  | e :: l, f, args => match Nat.beq e.1 f with
    | true => match sameL same args (e.2.map .v) with
      | true => some (.v (.bool true))
      | false => anyE l f args
    | false => anyE l f args
theorem anyE_mem : ∀ {E : List (FuncId × List Value)} {f : FuncId} {args : List AV} {av : AV}, anyE E f args = some av → ∃ vs, (f, vs) ∈ E ∧ args = vs.map .v ∧ av = .v (.bool true)
  | [], f, args, av, h => by cases h
  | e :: l, f, args, av, h => by
    simp only [anyE] at h
    split at h
    · rename_i hf
      have hf := Nat.eq_of_beq_eq_true hf
      split at h
      · rename_i hs
        injection h with h
        have hs := sameL_eq (fun _ _ => same_eq) hs
        refine ⟨e.2, ?_, hs, h.symm⟩
        rw [← hf]
        simp
      · obtain ⟨vs, h1, h2⟩ := anyE_mem h
        exact ⟨vs, List.mem_cons_of_mem _ h1, h2⟩
    · obtain ⟨vs, h1, h2⟩ := anyE_mem h
      exact ⟨vs, List.mem_cons_of_mem _ h1, h2⟩
/-- the calls of which it is known with what value they come back -/
def anyV : List (FuncId × List Value × Value) → FuncId → List AV → Option AV
  | [], _, _ => none
  | e :: l, f, args => match Nat.beq e.1 f with
    | true => match sameL same args (e.2.1.map .v) with
      | true => some (.v e.2.2)
      | false => anyV l f args
    | false => anyV l f args
theorem anyV_mem : ∀ {E : List (FuncId × List Value × Value)} {f : FuncId} {args : List AV} {av : AV}, anyV E f args = some av → ∃ vs r, (f, vs, r) ∈ E ∧ args = vs.map .v ∧ av = .v r
  | [], f, args, av, h => by cases h
  | e :: l, f, args, av, h => by
    simp only [anyV] at h
    split at h
    · rename_i hf
      have hf := Nat.eq_of_beq_eq_true hf
      split at h
      · rename_i hs
        injection h with h
        have hs := sameL_eq (fun _ _ => same_eq) hs
        refine ⟨e.2.1, e.2.2, ?_, hs, h.symm⟩
        rw [← hf]
        simp
      · obtain ⟨vs, r, h1, h2⟩ := anyV_mem h
        exact ⟨vs, r, List.mem_cons_of_mem _ h1, h2⟩
    · obtain ⟨vs, r, h1, h2⟩ := anyV_mem h
      exact ⟨vs, r, List.mem_cons_of_mem _ h1, h2⟩
theorem LR_v (γ : Gm) (vs : List Value) : LR γ (vs.map .v) vs := ⟨by simp, fun i a x h1 h2 => by
  simp [h2] at h1
  subst h1
  exact .v x⟩
theorem VR_v_eq {γ : Gm} {x y : Value} (h : VR γ (.v x) y) : y = x := by
  cases h
  rfl
theorem LR_v_eq {γ : Gm} {vs ws : List Value} (h : LR γ (vs.map .v) ws) : ws = vs := by
  apply List.ext_getElem?
  intro i
  rcases Nat.lt_or_ge i vs.length with hi | hi
  · have hl := h.1
    simp at hl
    have h1 : vs[i]? = some vs[i] := List.getElem?_eq_getElem hi
    have h2 : ws[i]? = some (ws[i]'(by omega)) := List.getElem?_eq_getElem (by omega)
    have := h.2 i (.v vs[i]) _ (by simp [h1]) h2
    rw [h1, h2, VR_v_eq this]
  · have hl := h.1
    simp at hl
    rw [List.getElem?_eq_none hi, List.getElem?_eq_none (by omega)]
section
variable {P : Program} {I : Aux}
/-- what is known, as the reckoner asks for it -/
theorem anyE_ok {W : World → Prop} {E : List (FuncId × List Value)} (h : ∀ f vs, (f, vs) ∈ E → ∀ w, W w → Calls P f vs.toArray w fun e w' => e = .returned (.bool true) ∧ Below w.heap.size w w') :
    ∀ (f : Nat) (args : List AV) (av : AV), anyE E f args = some av → ∀ (γ : Gm) (vs : List Value) (w : World), LR γ args vs → W w → Calls P f vs.toArray w fun e w' => ∃ v, e = .returned v ∧ VR γ av v ∧ Below w.heap.size w w' := by
  intro f args av ha γ vs w hl hW
  obtain ⟨ws, h1, h2, h3⟩ := anyE_mem ha
  subst h2 h3
  have e := LR_v_eq hl
  subst e
  exact (h f vs h1 w hW).mono fun e w' hh => ⟨_, hh.1, .v _, hh.2⟩
theorem anyV_ok {W : World → Prop} {E : List (FuncId × List Value × Value)} (h : ∀ f vs r, (f, vs, r) ∈ E → ∀ w, W w → Calls P f vs.toArray w fun e w' => e = .returned r ∧ Below w.heap.size w w') :
    ∀ (f : Nat) (args : List AV) (av : AV), anyV E f args = some av → ∀ (γ : Gm) (vs : List Value) (w : World), LR γ args vs → W w → Calls P f vs.toArray w fun e w' => ∃ v, e = .returned v ∧ VR γ av v ∧ Below w.heap.size w w' := by
  intro f args av ha γ vs w hl hW
  obtain ⟨ws, r, h1, h2, h3⟩ := anyV_mem ha
  subst h2 h3
  have e := LR_v_eq hl
  subst e
  exact (h f vs r h1 w hW).mono fun e w' hh => ⟨_, hh.1, .v _, hh.2⟩
/-- a run of a call that is known then -/
theorem reckonT_known (hm : P.follows .mixedOrders = true) (hn : Fine P I) {n g : Nat} {zs : List Nat} (hg : g < P.globals.size) {f : FuncId} {fn : Func} (hf : P.funcs[f]? = some fn) (hb : fn.body.isSome = true) (vs : List Value)
    (h : okTrue (reckonT P I n g zs f (vs.map .v)) = true) (w : World) (ht : TabAt g zs w) (hW : I.W w) :
    Calls P f vs.toArray w fun e w' => e = .returned (.bool true) ∧ Below w.heap.size w w' := by
  obtain ⟨γ, hc⟩ := reckonT_ret hm hn hg hf hb w (fun γ => LR_v γ vs) (fun e => by rw [e] at h; cases h) ht hW
  exact hc.mono fun e w' hR => ret_true h hR
end
end Go.Ev
