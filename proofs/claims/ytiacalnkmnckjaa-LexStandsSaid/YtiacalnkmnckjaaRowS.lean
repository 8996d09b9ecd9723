/- A whole row of cells stored, and results of which the middle one lies in a cell. Any program; conditions: those in each theorem. -/
import Derived.Test.YtiacalnkmnckjaaBase
import Derived.Test.YtiacalnkmnckjaaPlan
import Derived.Deep.MidRow
import Derived.Laws.Rows
import Derived.Deep.Draws
import Derived.Tactics
namespace Go.As
open Go
set_option linter.unusedVariables false

/-- an operation that yields a value and leaves the world -/
theorem wpList_val {P : Program} {ops : Array Oper} {Q : Exit → Act → World → Prop} {o : Oper} {rest : List Oper} {a : Act} {w : World} (v : Value) (hg : o.guard = none) (hv : (execOp a.eval o).run P w = .ok (.value v) w)
    (h : wpList P ops Q rest (a.put o.dst v) w) : wpList P ops Q (o :: rest) a w :=
  wpList_plain hg fun K hK => by
    unfold Oper.wp
    rw [hv]
    exact hK _ _ h
/-- a struct that is stored as one operation of a plan -/
theorem PlanS_store {P : Program} {ops : Array Oper} {Q : Exit → Act → World → Prop} {S : World → Prop} {i : Nat} {p : Plan} {a : Act} {w : World} {o : Oper} (hi : ops.toList[i]? = some o) (hg : o.guard = none) (ty : TypeId) (x y : Operand) (ho : o.op = .store ty x y)
    (b : Nat) (cells : Array Value) (hx : a.eval x = .pointer (some ⟨b, 0, none⟩)) (hy : a.eval y = .agg cells) (ht : w.there b 0 cells.size) (hn : (P.info? ty).map (·.size) = some cells.size) (h1 : cells.all (·.oneCell') = true)
    (hS : S (w.setCells b 0 cells.toList)) (h : PlanS P ops Q S p (a.put o.dst undef) (w.setCells b 0 cells.toList)) : PlanS P ops Q S (.run i p) a w :=
  PlanS_run hi fun K hK => by
    have hw : Region.wanted o (yielded ops a.tmps) = true := by unfold Region.wanted; rw [hg]
    rw [if_pos hw]
    exact wp_store_mid ty x y ho b 0 cells hx hy ht hn h1 (hK _ _ ⟨hS, h⟩)
theorem results_tct {P : Program} {fn : Func} {x p y : Tmp} {ty : TypeId} {tmps : Array Value} {w : World} {u v : Value} (g : Nat) (t : TypeId) (cs : Array Value) (fr : Nat × Nat) (d : TypeDesc) (h : fn.results = #[.tmp x, .cell p ty, .tmp y])
    (hx : tmps.getD x undef = u) (hy : tmps.getD y undef = v) (hp : tmps.getD p undef = .pointer (some ⟨g, 0, none⟩)) (hg : w.heap[g]? = some (.cells cs t fr))
    (hu : P.underlying ty = some d) (hd : (match d with | .struct _ | .array _ _ => true | _ => false) = true) (hi : (P.info? ty).map (·.size) = some cs.size) :
    (results fn tmps).run P w = .ok (.tuple #[u, .agg cs, v]) w := by
  have hp' : tmps[p]?.getD undef = .pointer (some ⟨g, 0, none⟩) := by simpa using hp
  have hx' : tmps[x]?.getD undef = u := by simpa using hx
  have hy' : tmps[y]?.getD undef = v := by simpa using hy
  simp [results, h, hp', hx', hy', asAddr, run_loadVar_row w g t ty cs fr d hg hu hd hi]
theorem results_ct {P : Program} {fn : Func} {p y : Tmp} {ty : TypeId} {tmps : Array Value} {w : World} {v : Value} (g : Nat) (t : TypeId) (cs : Array Value) (fr : Nat × Nat) (d : TypeDesc) (h : fn.results = #[.cell p ty, .tmp y])
    (hy : tmps.getD y undef = v) (hp : tmps.getD p undef = .pointer (some ⟨g, 0, none⟩)) (hg : w.heap[g]? = some (.cells cs t fr))
    (hu : P.underlying ty = some d) (hd : (match d with | .struct _ | .array _ _ => true | _ => false) = true) (hi : (P.info? ty).map (·.size) = some cs.size) :
    (results fn tmps).run P w = .ok (.tuple #[.agg cs, v]) w := by
  have hp' : tmps[p]?.getD undef = .pointer (some ⟨g, 0, none⟩) := by simpa using hp
  have hy' : tmps[y]?.getD undef = v := by simpa using hy
  simp [results, h, hp', hy', asAddr, run_loadVar_row w g t ty cs fr d hg hu hd hi]

theorem Blk.there {w : World} {g : Nat} {t : TypeId} {cs : Array Value} (h : Blk w g t cs) {n : Nat} (hn : n ≤ cs.size) : w.there g 0 n := fun j hj =>
  ⟨by rw [h.cell, Array.getElem?_eq_getElem (by omega)]; simp, h.frozen _⟩
theorem Blk.setCells_ {g : Nat} {t : TypeId} : ∀ (vs : List Value) (o : Nat) (w : World) (cs : Array Value), Blk w g t cs → ∃ cs', Blk (w.setCells g o vs) g t cs' ∧ cs'.size = cs.size ∧ ∀ j, j < cs.size → cs'[j]? = if o ≤ j ∧ j < o + vs.length then vs[j - o]? else cs[j]?
  | [], o, w, cs, h => ⟨cs, h, rfl, fun j hj => by rw [if_neg (by simp)]⟩
  | v :: r, o, w, cs, h => by
    obtain ⟨cs', h1, h2, h3⟩ := Blk.setCells_ r (o + 1) _ _ (h.set_ o v)
    refine ⟨cs', h1, by rw [h2]; simp, fun j hj => ?_⟩
    rw [h3 j (by simpa using hj)]
    by_cases hj1 : o + 1 ≤ j ∧ j < o + 1 + r.length
    · rw [if_pos hj1, if_pos (by simp; omega), show j - o = (j - (o + 1)) + 1 by omega, List.getElem?_cons_succ]
    · rw [if_neg hj1]
      by_cases hjo : j = o
      · subst hjo
        rw [if_pos (by simp)]
        simp [hj]
      · rw [if_neg (by simp; simp at hj1; omega), Array.getElem?_setIfInBounds_ne (by omega)]
/-- a block that is stored anew as a whole -/
theorem Blk.setCells {w : World} {g : Nat} {t : TypeId} {cs : Array Value} (h : Blk w g t cs) (vs : List Value) (hn : vs.length = cs.size) : Blk (w.setCells g 0 vs) g t vs.toArray := by
  obtain ⟨cs', h1, h2, h3⟩ := Blk.setCells_ vs 0 w cs h
  have : cs' = vs.toArray := by
    apply Array.ext_getElem?
    intro j
    by_cases hj : j < cs.size
    · rw [h3 j hj, if_pos (by omega)]; simp
    · rw [Array.getElem?_eq_none (by omega), Array.getElem?_eq_none (by simp; omega)]
  rw [← this]; exact h1
theorem Only.setCells {F : Nat → Prop} {w : World} {g : Nat} : ∀ (vs : List Value) (o : Nat) {w' : World}, Only F w w' → (F g ∨ w.heap.size ≤ g) → Only F w (w'.setCells g o vs)
  | [], _, _, h, _ => h
  | v :: r, o, _, h, hg => Only.setCells r (o + 1) (h.set (p := ⟨g, o, none⟩) hg v) hg
theorem Only.drewN {F : Nat → Prop} {w w' : World} (h : Only F w w') (n : Nat) : Only F w (w'.drewN n) := ⟨h.os, h.tape, h.output, h.size, h.block⟩
theorem Blk.drewN {w : World} {g : Nat} {t : TypeId} {cs : Array Value} (h : Blk w g t cs) (n : Nat) : Blk (w.drewN n) g t cs := h
theorem Blk.farCells {w : World} {g : Nat} {t : TypeId} {cs : Array Value} (h : Blk w g t cs) {b : Nat} (hb : g ≠ b) (vs : List Value) (o : Nat) : Blk (w.setCells b o vs) g t cs :=
  h.only ((Only.refl (fun x => x = b) w).setCells vs o (.inl rfl)) hb
end Go.As
