/- A region whose order Go leaves open, walked along a plan: operations that look at no memory are taken when they come up, the others in the order that the edges leave; where two may come up, both ways. Any program. -/
import Derived.Test.YtaehpjaleceppaaGreatDoorBase
import Derived.RegionTactic
import Derived.OrdersHeld
namespace Go.As
open Go

inductive Plan where
  | done
  | take (i : Nat) (p : Plan)
  | run (i : Nat) (p : Plan)
  | alt (p q : Plan)

def Plan.heads : Plan → List Nat
  | .run i _ => [i]
  | .alt p q => p.heads ++ q.heads
  | _ => []
def Plan.depth : Plan → Nat
  | .done => 0
  | .take _ p => p.depth + 1
  | .run _ p => p.depth + 1
  | .alt p q => max p.depth q.depth

/-- does the plan cover all orders that the edges allow? (the flag: all that may come up must be among the heads) -/
def Plan.fits (md : Region.Mode) (ops : Array Oper) : Bool → Plan → Array Bool → Bool
  | true, .done, l => (Region.ready md ops l).isEmpty
  | true, .take i p, l => (ops[i]?).isSome && Region.free md ops l i && (Region.ready md ops l).contains i && p.fits md ops true (l.setIfInBounds i true)
  | true, .run i p, l => (Region.ready md ops l == [i]) && p.fits md ops true (l.setIfInBounds i true)
  | true, .alt p q, l => !(Region.ready md ops l).isEmpty && ((Region.ready md ops l).all fun i => p.heads.contains i || q.heads.contains i) && p.fits md ops false l && q.fits md ops false l
  | false, .run i p, l => p.fits md ops true (l.setIfInBounds i true)
  | false, .alt p q, l => p.fits md ops false l && q.fits md ops false l
  | false, _, _ => false

section
variable {P : Program} {ops : Array Oper} {Q : Exit → Act → World → Prop} {md : Region.Mode}

def wpPlan (P : Program) (ops : Array Oper) (Q : Exit → Act → World → Prop) : Plan → Act → World → Prop
  | .done, a, w => Q .normal a w
  | .take i p, a, w => ∃ o v, ops[i]? = some o ∧ Yields P ops o v a ∧ wpPlan P ops Q p (a.put o.dst v) w
  | .run i p, a, w => wpOp P ops Q i (wpPlan P ops Q p) a w
  | .alt p q, a, w => wpPlan P ops Q p a w ∧ wpPlan P ops Q q a w

theorem wpPlan_sound (hs : Region.noSelect ops = true) (hQ : ∀ c a w, ¬ Q (.panic c) a w) : ∀ (p : Plan) (fuel : Nat) (l : Array Bool) (a : Act) (w : World),
    p.depth ≤ fuel →
    (p.fits md ops true l = true → wpPlan P ops Q p a w → wpAny P md ops Q fuel l a w) ∧
    (p.fits md ops false l = true → wpPlan P ops Q p a w → ∀ fuel', fuel = fuel' + 1 → ∀ i ∈ p.heads, wpOp P ops Q i (wpAny P md ops Q fuel' (l.setIfInBounds i true)) a w) := by
  intro p
  induction p with
  | done =>
    intro fuel l a w _
    refine ⟨fun hf h => ?_, fun hf => by simp [Plan.fits] at hf⟩
    exact wpAny_done (by simpa [Plan.fits] using hf) h fuel
  | take i p ih =>
    intro fuel l a w hd
    refine ⟨fun hf h => ?_, fun hf => by simp [Plan.fits] at hf⟩
    simp only [Plan.fits, Bool.and_eq_true] at hf
    obtain ⟨o, v, hi, hy, h⟩ := h
    cases fuel with
    | zero => simp [Plan.depth] at hd
    | succ fuel =>
      exact wpAny_take hi hs hf.1.1.2 hf.1.2 (fun c a w hq => (hQ _ _ _ hq).elim) hy (((ih fuel _ _ _ (by simp [Plan.depth] at hd; omega)).1) hf.2 h)
  | run i p ih =>
    intro fuel l a w hd
    cases fuel with
    | zero => simp [Plan.depth] at hd
    | succ fuel =>
      have hp : p.depth ≤ fuel := by simp [Plan.depth] at hd; omega
      refine ⟨fun hf h => ?_, fun hf h fuel' hfu j hj => ?_⟩
      · simp only [Plan.fits, Bool.and_eq_true, beq_iff_eq] at hf
        refine wpAny_all hf.1 (by simp) ?_
        intro j hj
        simp only [List.mem_singleton] at hj
        subst hj
        exact wpOp_mono (fun a w => (ih fuel _ a w hp).1 hf.2) h
      · simp only [Plan.heads, List.mem_singleton] at hj
        subst hj
        simp only [Plan.fits] at hf
        obtain rfl : fuel = fuel' := by omega
        exact wpOp_mono (fun a w => (ih fuel _ a w hp).1 hf) h
  | alt p q ihp ihq =>
    intro fuel l a w hd
    have h1 : p.depth ≤ fuel := by simp [Plan.depth] at hd; omega
    have h2 : q.depth ≤ fuel := by simp [Plan.depth] at hd; omega
    have key : p.fits md ops false l = true → q.fits md ops false l = true → wpPlan P ops Q (.alt p q) a w → ∀ fuel', fuel = fuel' + 1 → ∀ i, i ∈ p.heads ∨ i ∈ q.heads → wpOp P ops Q i (wpAny P md ops Q fuel' (l.setIfInBounds i true)) a w := by
      intro f1 f2 h fuel' hfu i hi
      rcases hi with hi | hi
      · exact (ihp fuel l a w h1).2 f1 h.1 fuel' hfu i hi
      · exact (ihq fuel l a w h2).2 f2 h.2 fuel' hfu i hi
    refine ⟨fun hf h => ?_, fun hf h fuel' hfu i hi => ?_⟩
    · simp only [Plan.fits, Bool.and_eq_true, List.all_eq_true, Bool.or_eq_true] at hf
      have hne : Region.ready md ops l ≠ [] := by
        intro e; rw [e] at hf; simp at hf
      cases fuel with
      | zero =>
        exfalso
        obtain ⟨i, hi⟩ := List.exists_mem_of_ne_nil _ hne
        have hh : ∀ r : Plan, r.depth = 0 → r.heads = [] := by
          intro r
          induction r with
          | done => intro _; rfl
          | take i p _ => intro _; rfl
          | run i p _ => intro h; simp [Plan.depth] at h
          | alt p q ip iq => intro h; simp only [Plan.depth] at h; simp only [Plan.heads, ip (by omega), iq (by omega), List.append_nil]
        have := hf.1.1.2 i hi
        rw [hh p (by omega), hh q (by omega)] at this
        simp at this
      | succ fuel =>
        refine wpAny_all rfl hne ?_
        intro i hi
        have := hf.1.1.2 i hi
        exact key hf.1.2 hf.2 h fuel rfl i (by simpa using this)
    · simp only [Plan.fits, Bool.and_eq_true] at hf
      exact key hf.1 hf.2 h fuel' hfu i (by simpa [Plan.heads] using hi)

/-- Q, but 'False' at a panic. -/
def NoPan (Q : Exit → Act → World → Prop) : Exit → Act → World → Prop
  | .panic _, _, _ => False
  | e, a, w => Q e a w
theorem NoPan.imp {Q : Exit → Act → World → Prop} : ∀ (e : Exit) (a : Act) (w : World), NoPan Q e a w → Q e a w := fun e a w h => by
  cases e <;> first | exact h | exact (h : False).elim
theorem NoPan.normal {Q : Exit → Act → World → Prop} {a : Act} {w : World} (h : Q .normal a w) : NoPan Q .normal a w := h

/-- the region along a plan -/
theorem wp_region_plan {id : Nat} {a : Act} {w : World} (p : Plan) (hm : P.follows .mixedOrders = true) (hs : Region.noSelect ops = true)
    (hd : decide (p.depth ≤ ops.size) = true) (hf : p.fits .any ops true (Array.replicate ops.size false) = true)
    (h : wpPlan P ops (NoPan Q) p a w.drew) : (Code.region id ops true).wp P Q a w := by
  refine Code.wp_mono NoPan.imp (wp_region_any hm ?_)
  exact ((wpPlan_sound (md := .any) hs (fun _ _ _ h => h) p ops.size _ a w.drew (of_decide_eq_true hd)).1) hf h

section
variable {i : Nat} {p q : Plan} {a : Act} {w : World} {o : Oper} {v : Value}
theorem wpPlan_isTake (h : wpPlan P ops Q (.take i p) a w) : wpPlan P ops Q (.take i p) a w := h
theorem wpPlan_isRun (h : wpPlan P ops Q (.run i p) a w) : wpPlan P ops Q (.run i p) a w := h
theorem wpPlan_done (h : Q .normal a w) : wpPlan P ops (NoPan Q) .done a w := h
theorem wpPlan_alt (h1 : wpPlan P ops Q p a w) (h2 : wpPlan P ops Q q a w) : wpPlan P ops Q (.alt p q) a w := ⟨h1, h2⟩
theorem at_list (hi : ops.toList[i]? = some o) : ops[i]? = some o := by rw [← hi]; simp
theorem wpPlan_skip (hi : ops.toList[i]? = some o) (hw : Region.wanted o (yielded ops a.tmps) = false) (h : wpPlan P ops Q p (a.put o.dst undef) w) : wpPlan P ops Q (.take i p) a w :=
  ⟨o, undef, at_list hi, .inr ⟨hw, rfl⟩, h⟩
theorem wpPlan_take (hi : ops.toList[i]? = some o) (hw : Region.wanted o (yielded ops a.tmps) = true) (hv : ∀ w, (execOp a.eval o).run P w = .ok (.value v) w) (h : wpPlan P ops Q p (a.put o.dst v) w) : wpPlan P ops Q (.take i p) a w :=
  ⟨o, v, at_list hi, .inl ⟨hw, hv⟩, h⟩
theorem wpPlan_run (hi : ops.toList[i]? = some o)
    (h : ∀ K : Act → World → Prop, (∀ a w, wpPlan P ops Q p a w → K a w) → if Region.wanted o (yielded ops a.tmps) then o.wp P a w K Q else K (a.put o.dst undef) w) : wpPlan P ops Q (.run i p) a w := by
  have := h _ (fun _ _ h => h)
  show wpOp P ops Q i _ a w
  unfold wpOp
  simp only [at_list hi]
  split
  · rename_i hw; rw [if_pos hw] at this; exact .inl this
  · rename_i hw; rw [if_neg hw] at this; exact this
end
end


/-! the same, with a fact 'S' of the world that holds all along: loads that 'S' decides are taken when they come up -/
section
variable {P : Program} {ops : Array Oper} {Q : Exit → Act → World → Prop} {md : Region.Mode} {S : World → Prop}

def wpPlanH (P : Program) (ops : Array Oper) (Q : Exit → Act → World → Prop) (S : World → Prop) : Plan → Act → World → Prop
  | .done, a, w => Q .normal a w
  | .take i p, a, w => S w ∧ ∃ o v, ops[i]? = some o ∧ YieldsIf P ops S o v a ∧ wpPlanH P ops Q S p (a.put o.dst v) w
  | .run i p, a, w => wpOp P ops Q i (fun a' w' => S w' ∧ wpPlanH P ops Q S p a' w') a w
  | .alt p q, a, w => wpPlanH P ops Q S p a w ∧ wpPlanH P ops Q S q a w

theorem wpPlanH_sound (hs : Region.noSelect ops = true) (hQ : ∀ c a w, ¬ Q (.panic c) a w) : ∀ (p : Plan) (fuel : Nat) (l : Array Bool) (a : Act) (w : World),
    p.depth ≤ fuel →
    (p.fits md ops true l = true → wpPlanH P ops Q S p a w → wpAnyH P md ops Q S fuel l a w) ∧
    (p.fits md ops false l = true → wpPlanH P ops Q S p a w → ∀ fuel', fuel = fuel' + 1 → ∀ i ∈ p.heads, wpOp P ops Q i (fun a' w' => S w' ∧ wpAnyH P md ops Q S fuel' (l.setIfInBounds i true) a' w') a w) := by
  intro p
  induction p with
  | done =>
    intro fuel l a w _
    refine ⟨fun hf h => ?_, fun hf => by simp [Plan.fits] at hf⟩
    exact wpAnyH_done (by simpa [Plan.fits] using hf) h fuel
  | take i p ih =>
    intro fuel l a w hd
    refine ⟨fun hf h => ?_, fun hf => by simp [Plan.fits] at hf⟩
    simp only [Plan.fits, Bool.and_eq_true] at hf
    obtain ⟨hS, o, v, hi, hy, h⟩ := h
    cases fuel with
    | zero => simp [Plan.depth] at hd
    | succ fuel =>
      exact wpAnyH_take hi hs hf.1.1.2 hf.1.2 (fun c a w hq => (hQ _ _ _ hq).elim) hy hS (((ih fuel _ _ _ (by simp [Plan.depth] at hd; omega)).1) hf.2 h)
  | run i p ih =>
    intro fuel l a w hd
    cases fuel with
    | zero => simp [Plan.depth] at hd
    | succ fuel =>
      have hp : p.depth ≤ fuel := by simp [Plan.depth] at hd; omega
      refine ⟨fun hf h => ?_, fun hf h fuel' hfu j hj => ?_⟩
      · simp only [Plan.fits, Bool.and_eq_true, beq_iff_eq] at hf
        refine wpAnyH_all hf.1 (by simp) ?_
        intro j hj
        simp only [List.mem_singleton] at hj
        subst hj
        exact wpOp_mono (fun a w h => ⟨h.1, (ih fuel _ a w hp).1 hf.2 h.2⟩) h
      · simp only [Plan.heads, List.mem_singleton] at hj
        subst hj
        simp only [Plan.fits] at hf
        obtain rfl : fuel = fuel' := by omega
        exact wpOp_mono (fun a w h => ⟨h.1, (ih fuel _ a w hp).1 hf h.2⟩) h
  | alt p q ihp ihq =>
    intro fuel l a w hd
    have h1 : p.depth ≤ fuel := by simp [Plan.depth] at hd; omega
    have h2 : q.depth ≤ fuel := by simp [Plan.depth] at hd; omega
    have key : p.fits md ops false l = true → q.fits md ops false l = true → wpPlanH P ops Q S (.alt p q) a w → ∀ fuel', fuel = fuel' + 1 → ∀ i, i ∈ p.heads ∨ i ∈ q.heads → wpOp P ops Q i (fun a' w' => S w' ∧ wpAnyH P md ops Q S fuel' (l.setIfInBounds i true) a' w') a w := by
      intro f1 f2 h fuel' hfu i hi
      rcases hi with hi | hi
      · exact (ihp fuel l a w h1).2 f1 h.1 fuel' hfu i hi
      · exact (ihq fuel l a w h2).2 f2 h.2 fuel' hfu i hi
    refine ⟨fun hf h => ?_, fun hf h fuel' hfu i hi => ?_⟩
    · simp only [Plan.fits, Bool.and_eq_true, List.all_eq_true, Bool.or_eq_true] at hf
      have hne : Region.ready md ops l ≠ [] := by
        intro e; rw [e] at hf; simp at hf
      cases fuel with
      | zero =>
        exfalso
        obtain ⟨i, hi⟩ := List.exists_mem_of_ne_nil _ hne
        have hh : ∀ r : Plan, r.depth = 0 → r.heads = [] := by
          intro r
          induction r with
          | done => intro _; rfl
          | take i p _ => intro _; rfl
          | run i p _ => intro h; simp [Plan.depth] at h
          | alt p q ip iq => intro h; simp only [Plan.depth] at h; simp only [Plan.heads, ip (by omega), iq (by omega), List.append_nil]
        have := hf.1.1.2 i hi
        rw [hh p (by omega), hh q (by omega)] at this
        simp at this
      | succ fuel =>
        refine wpAnyH_all rfl hne ?_
        intro i hi
        have := hf.1.1.2 i hi
        exact key hf.1.2 hf.2 h fuel rfl i (by simpa using this)
    · simp only [Plan.fits, Bool.and_eq_true] at hf
      exact key hf.1 hf.2 h fuel' hfu i (by simpa [Plan.heads] using hi)

/-- along the plan, from a world in which S holds -/
def PlanS (P : Program) (ops : Array Oper) (Q : Exit → Act → World → Prop) (S : World → Prop) (p : Plan) (a : Act) (w : World) : Prop := S w → wpPlanH P ops Q S p a w

/-- the region along a plan, under a fact that holds all along -/
theorem wp_region_planS {id : Nat} {a : Act} {w : World} (S : World → Prop) (p : Plan) (hm : P.follows .mixedOrders = true) (hs : Region.noSelect ops = true)
    (hd : decide (p.depth ≤ ops.size) = true) (hf : p.fits .any ops true (Array.replicate ops.size false) = true) (hS : S w.drew)
    (h : PlanS P ops (NoPan Q) S p a w.drew) : (Code.region id ops true).wp P Q a w := by
  refine Code.wp_mono NoPan.imp (wp_region_held (S := S) hm ?_)
  exact ((wpPlanH_sound (md := .any) hs (fun _ _ _ h => h) p ops.size _ a w.drew (of_decide_eq_true hd)).1) hf (h hS)

section
variable {i : Nat} {p q : Plan} {a : Act} {w : World} {o : Oper} {v : Value}
theorem PlanS_isTake (h : PlanS P ops Q S (.take i p) a w) : PlanS P ops Q S (.take i p) a w := h
theorem PlanS_is (h : PlanS P ops Q S p a w) : PlanS P ops Q S p a w := h
theorem PlanS_isRun (h : PlanS P ops Q S (.run i p) a w) : PlanS P ops Q S (.run i p) a w := h
theorem PlanS_done (h : Q .normal a w) : PlanS P ops (NoPan Q) S .done a w := fun _ => h
theorem PlanS_alt (h1 : PlanS P ops Q S p a w) (h2 : PlanS P ops Q S q a w) : PlanS P ops Q S (.alt p q) a w := fun hS => ⟨h1 hS, h2 hS⟩
theorem PlanS_skip (hi : ops.toList[i]? = some o) (hw : Region.wanted o (yielded ops a.tmps) = false) (h : PlanS P ops Q S p (a.put o.dst undef) w) : PlanS P ops Q S (.take i p) a w :=
  fun hS => ⟨hS, o, undef, at_list hi, .inr ⟨hw, rfl⟩, h hS⟩
theorem PlanS_take (hi : ops.toList[i]? = some o) (hw : Region.wanted o (yielded ops a.tmps) = true) (hv : ∀ w, S w → (execOp a.eval o).run P w = .ok (.value v) w) (h : PlanS P ops Q S p (a.put o.dst v) w) : PlanS P ops Q S (.take i p) a w :=
  fun hS => ⟨hS, o, v, at_list hi, .inl ⟨hw, hv⟩, h hS⟩
theorem PlanS_keep (hS : S w) (h : PlanS P ops Q S p a w) : S w ∧ PlanS P ops Q S p a w := ⟨hS, h⟩
theorem PlanS_run (hi : ops.toList[i]? = some o)
    (h : ∀ K : Act → World → Prop, (∀ a w, (S w ∧ PlanS P ops Q S p a w) → K a w) → if Region.wanted o (yielded ops a.tmps) then o.wp P a w K Q else K (a.put o.dst undef) w) : PlanS P ops Q S (.run i p) a w := by
  intro _
  have := h (fun a w => S w ∧ wpPlanH P ops Q S p a w) (fun _ _ h => ⟨h.1, h.2 h.1⟩)
  show wpOp P ops Q i _ a w
  unfold wpOp
  simp only [at_list hi]
  split
  · rename_i hw; rw [if_pos hw] at this; exact .inl this
  · rename_i hw; rw [if_neg hw] at this; exact this
end
end
end Go.As
