/- The machine's entry where a table of numbers lies in the memory. Any program; the conditions are in the theorem. -/
import Derived.Test.YtaehpjaleceppaaGreatDoorSy12
namespace Go.Sy
set_option linter.unusedVariables false
open Go Go.RowKit Go.As
section
variable {P : Program} {I : Aux}
theorem enterT (hn : Fine P I) {g : Nat} {zs : List Nat} (hg : g < P.globals.size) {f : FuncId} {fn : Func} (hf : P.funcs[f]? = some fn) (hb' : fn.body.isSome = true) {args : List AV} {vs : List Value} (hl : ∀ γ, LR γ args vs) (hle : Nat.ble args.length fn.ntmps = true) {w : World} (ht : TabAt g zs w) {R : Ending → World → Prop}
    (hgd : ∀ γ0, (∀ b, P.globals.size ≤ b → γ0 b = none) → Good P (· < w.heap.size) w γ0 fn.ntmps (bodyPostD P fn R) ⟨[.code (fn.body.getD .skip)], ⟨putL .leaf 0 args, tabHp g zs, P.globals.size, []⟩⟩) : Calls P f vs.toArray w R := by
  obtain ⟨code, hb⟩ := Option.isSome_iff_exists.1 hb'
  have hle : args.length ≤ fn.ntmps := Nat.le_of_ble_eq_true hle
  obtain ⟨ty, fz, hheap⟩ := ht
  have hget : ∀ b blk, (tabHp g zs).get b = some blk → b = g ∧ blk = .cells 0 false false false zs.length (putL .leaf 0 (natAVs zs)) := by
    intro b blk hb'
    unfold tabHp at hb'
    rw [Tr.get_put] at hb'
    split at hb'
    · rename_i e
      injection hb' with hb'
      exact ⟨e, hb'.symm⟩
    · rw [Tr.get_leaf] at hb'; cases hb'
  have hr : HR (· < w.heap.size) P.globals.size (fun x => if x < P.globals.size then some (x, if x = g then zs.length else 0) else none) (tabHp g zs) P.globals.size w := by
    refine ⟨fun b blk hb' => ?_, fun b b' blk blk' p p' h1 h2 _ _ _ => (hget _ _ h1).1.trans (hget _ _ h2).1.symm, fun b hb => by show (if b < P.globals.size then _ else _) = _; rw [if_neg (by omega)],
      fun x hx => ⟨_, by show (if x < P.globals.size then _ else _) = _; rw [if_pos hx]⟩, fun k hk => hk⟩
    obtain ⟨rfl, rfl⟩ := hget b blk hb'
    refine ⟨(b, zs.length), by show (if b < P.globals.size then _ else _) = _; rw [if_pos hg, if_pos rfl], fun e => (by cases e), _, ty, fz, hheap, by simp, ⟨fun e => (by cases e), fun e => (by cases e)⟩, fun i av hlt hi => ?_⟩
    have hl := natAVs_LR (γ := fun x => if x < P.globals.size then some (x, if x = b then zs.length else 0) else none) zs
    have hll := hl.1
    simp only [List.length_map] at hll
    rw [putL_get, if_pos ⟨by omega, by omega⟩] at hi
    obtain ⟨v, h1, h2⟩ := hl.get (by simpa using hi)
    exact ⟨v, by simpa using h1, h2⟩
  refine calls_of_wp_defers hf hb ?_
  have hγ0 : ∀ b, P.globals.size ≤ b → (fun x => if x < P.globals.size then some (x, if x = g then zs.length else 0) else none : Gm) b = none := fun b hb => by
    show (if b < P.globals.size then _ else _) = _; rw [if_neg (by omega)]
  have hfr : FR (fun x => if x < P.globals.size then some (x, if x = g then zs.length else 0) else none) fn.ntmps (putL .leaf 0 args) [] { tmps := vs.toArray ++ Array.replicate (fn.ntmps - vs.toArray.size) undef, defers := [] } := by
    refine ⟨?_, putL_TR (by simpa using hl _) _, trivial⟩
    have := (hl (fun _ => none)).1
    simp
    omega
  have := (hgd _ hγ0).out _ _ w (Gm.le.refl _) hfr hr (Keep.refl _ _)
  simp only [after, hb, Option.getD_some] at this
  exact wp_mono this fun e a w h => by cases e <;> exact h
end
end Go.Sy
