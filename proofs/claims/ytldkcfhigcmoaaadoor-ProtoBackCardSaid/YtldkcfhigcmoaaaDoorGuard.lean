/- append where a guard stands ahead of it and lets it by, and along a plan. Any program; no conditions but the sizes that the model asks for. -/
import Derived.Test.YtldkcfhigcmoaaaDoorRowB
import Derived.Test.YtldkcfhigcmoaaaDoorPlan
namespace Go.As
open Go Go.RowKit
section
variable {P : Program} {w : World} {ops : Array Oper} {rest : List Oper} {o : Oper} {a : Act} {Q : Exit → Act → World → Prop}
theorem wpl_appRunG (hw : Region.wanted o (yielded ops a.tmps) = true) (s x : Operand) (t u : TypeId)
    (ho : o.op = .call { callee := .builtin .append, args := #[s, x], argTypes := #[t, u] }) {vs vx v' : Value} {w' : World}
    (hrun : (Builtin.append_ #[t, u] o.type #[vs, vx]).run P w = .ok v' w') (hs : a.eval s = vs) (hx : a.eval x = vx)
    (h : wpList P ops Q rest (a.put o.dst v') w') : wpList P ops Q (o :: rest) a w :=
  wpList_step fun K hK => by
    rw [if_pos hw]
    unfold Oper.wp execOp
    simp only [ho, resolve, invoke, builtin, Sem.run_bind, Sem.run_pure, Result.andThen_ok, List.map_toArray, List.map_cons, List.map_nil, hs, hx, hrun]
    exact hK _ _ h
theorem wpl_appBG (hw : Region.wanted o (yielded ops a.tmps) = true) (s x : Operand) (t : TypeId)
    (ho : o.op = .call { callee := .builtin .append, args := #[s, x], argTypes := #[t, t] })
    (base : Nat) (e : TypeId) (ht : P.underlying t = some (.slice e))
    (hinf : (P.info? e).map (fun i => (i.zero, i.size, i.bytes)) = some (some (.int .u8 0), 1, 1))
    (v : Value) (l rm : List UInt8) (hown : RowB w base e v l rm) (hs : a.eval s = v) (A : Option Addr) (m c : Nat) (news : List UInt8) (hx : a.eval x = .slice A m c) (hr : Sl w 1 A m (byt news))
    (hbytes : l.length + m ≤ 140737488355328) (hbase : base ≤ w.heap.size)
    (h : ∀ v' rm' w', RowB w' base e v' (l ++ news) rm' → w.grownBy w' v.ownBlock → SameOrNew w v v' → wpList P ops Q rest (a.put o.dst v') w') : wpList P ops Q (o :: rest) a w := by
  obtain ⟨v', rm', w', hrun, h2, h3, h4⟩ := run_appB (P := P) base t o.type e ht hinf v l rm hown A m c news hr hbytes hbase
  exact wpl_appRunG hw s x t t ho hrun hs hx (h v' rm' w' h2 h3 h4)

/-- append(v, c) along a plan -/
theorem plan_appB1 {i : Nat} {p : Plan} (hi : ops.toList[i]? = some o) (hgd : o.guard = none) (s x : Operand) (t : TypeId)
    (ho : o.op = .call { callee := .builtin .append, args := #[s, x], argTypes := #[t, t] })
    (base : Nat) (e : TypeId) (ht : P.underlying t = some (.slice e))
    (hinf : (P.info? e).map (fun i => (i.zero, i.size, i.bytes)) = some (some (.int .u8 0), 1, 1))
    (v : Value) (l rm : List UInt8) (hown : RowB w base e v l rm) (hs : a.eval s = v) (b : UInt8) (us : Array Value) (hus : us = #[.int .u8 b.toNat])
    (hx : a.eval x = .slice (some ⟨w.heap.size, 0, none⟩) 1 1)
    (hbytes : l.length + 1 ≤ 140737488355328) (hbase : base ≤ w.heap.size)
    (h : ∀ v' rm' w', RowB w' base e v' (l ++ [b]) rm' → w.grownBy w' v.ownBlock → SameOrNew w v v' → wpPlan P ops Q p (a.put o.dst v') w') : wpPlan P ops Q (.run i p) a (w.alloc (.cells us e)) := by
  refine wpPlan_run hi (fun K hK => ?_)
  have hw : Region.wanted o (yielded ops a.tmps) = true := by simp [Region.wanted, hgd]
  rw [if_pos hw]
  subst hus
  have hSl : Sl (w.alloc (.cells #[.int .u8 b.toNat] e)) 1 (some ⟨w.heap.size, 0, none⟩) 1 (byt [b]) := by
    refine ⟨by simp [byt], fun _ => ⟨_, rfl, by simp, fun j u hu => ?_⟩⟩
    have : (⟨w.heap.size, 0, none⟩ : Addr).add j = ⟨w.heap.size, j, none⟩ := by unfold Addr.add; split <;> simp_all
    rw [this, World.cell?_alloc_at _ _ _ _ rfl]
    simpa [byt] using hu
  obtain ⟨v', rm', w', hrun, h2, h3, h4⟩ := run_appB (P := P) base t o.type e ht hinf v l rm (hown.alloc _) (some ⟨w.heap.size, 0, none⟩) 1 1 [b] hSl hbytes (by simp; omega)
  unfold Oper.wp execOp
  simp only [ho, resolve, invoke, builtin, Sem.run_bind, Sem.run_pure, Result.andThen_ok, List.map_toArray, List.map_cons, List.map_nil, hs, hx, hrun]
  refine hK _ _ (h v' rm' w' h2 ⟨h3.os, h3.tape, h3.output, ?_, fun k hk hne => ?_⟩ ?_)
  · have := h3.size; simp at this; omega
  · rw [h3.block k (by simp; omega) hne]
    exact Below.heap_alloc _ _ _ hk
  · intro k hk
    rcases h4 k hk with h5 | h5
    · exact .inl h5
    · exact .inr (by simp at h5; omega)
/-- append(v, c, ..) along a plan -/
theorem plan_appBn {i : Nat} {p : Plan} (hi : ops.toList[i]? = some o) (hgd : o.guard = none) (s x : Operand) (t : TypeId)
    (ho : o.op = .call { callee := .builtin .append, args := #[s, x], argTypes := #[t, t] })
    (base : Nat) (e : TypeId) (ht : P.underlying t = some (.slice e))
    (hinf : (P.info? e).map (fun i => (i.zero, i.size, i.bytes)) = some (some (.int .u8 0), 1, 1))
    (v : Value) (l rm : List UInt8) (hown : RowB w base e v l rm) (hs : a.eval s = v) (news : List UInt8) (us : Array Value) (hus : us = (byt news).toArray)
    (hx : a.eval x = .slice (some ⟨w.heap.size, 0, none⟩) news.length news.length)
    (hbytes : l.length + news.length ≤ 140737488355328) (hbase : base ≤ w.heap.size)
    (h : ∀ v' rm' w', RowB w' base e v' (l ++ news) rm' → w.grownBy w' v.ownBlock → SameOrNew w v v' → wpPlan P ops Q p (a.put o.dst v') w') : wpPlan P ops Q (.run i p) a (w.alloc (.cells us e)) := by
  refine wpPlan_run hi (fun K hK => ?_)
  have hw : Region.wanted o (yielded ops a.tmps) = true := by simp [Region.wanted, hgd]
  rw [if_pos hw]
  subst hus
  have hSl : Sl (w.alloc (.cells (byt news).toArray e)) 1 (some ⟨w.heap.size, 0, none⟩) news.length (byt news) := by
    refine ⟨by simp [byt], fun _ => ⟨_, rfl, by simp, fun j u hu => ?_⟩⟩
    have : (⟨w.heap.size, 0, none⟩ : Addr).add j = ⟨w.heap.size, j, none⟩ := by unfold Addr.add; split <;> simp_all
    rw [this, World.cell?_alloc_at _ _ _ _ rfl]
    simpa using hu
  obtain ⟨v', rm', w', hrun, h2, h3, h4⟩ := run_appB (P := P) base t o.type e ht hinf v l rm (hown.alloc _) (some ⟨w.heap.size, 0, none⟩) news.length news.length news hSl hbytes (by simp; omega)
  unfold Oper.wp execOp
  simp only [ho, resolve, invoke, builtin, Sem.run_bind, Sem.run_pure, Result.andThen_ok, List.map_toArray, List.map_cons, List.map_nil, hs, hx, hrun]
  refine hK _ _ (h v' rm' w' h2 ⟨h3.os, h3.tape, h3.output, ?_, fun k hk hne => ?_⟩ ?_)
  · have := h3.size; simp at this; omega
  · rw [h3.block k (by simp; omega) hne]
    exact Below.heap_alloc _ _ _ hk
  · intro k hk
    rcases h4 k hk with h5 | h5
    · exact .inl h5
    · exact .inr (by simp at h5; omega)
end
end Go.As
