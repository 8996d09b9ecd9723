/- Bytes as cells; append of a string's bytes and of one byte onto a row of the call's own. Any program; no conditions but the sizes that the model asks for. -/
import Derived.Test.YtiacalnkmnckjaaOps
import Derived.Lib.AppendStr
namespace Go.As
open Go Go.RowKit

/-- bytes, a cell each -/
def byt (l : List UInt8) : List Value := l.map fun b => Value.int .u8 b.toNat
theorem byt_len (l : List UInt8) : (byt l).length = l.length := by simp [byt]
theorem byt_app (a b : List UInt8) : byt (a ++ b) = byt a ++ byt b := by simp [byt]
theorem byt_take (l : List UInt8) (k : Nat) : (byt l).take k = byt (l.take k) := by simp [byt]
theorem byt_drop (l : List UInt8) (k : Nat) : (byt l).drop k = byt (l.drop k) := by simp [byt]
theorem byt_one (l : List UInt8) : ∀ u ∈ byt l, u.oneCell' = true := by
  intro u hu
  simp only [byt, List.mem_map] at hu
  obtain ⟨b, _, rfl⟩ := hu
  rfl
theorem byt_get {l : List UInt8} {k : Nat} {u : Value} (h : (byt l)[k]? = some u) : ∃ x, l[k]? = some x ∧ u = .int .u8 x.toNat := by
  simp only [byt, List.getElem?_map, Option.map_eq_some_iff] at h
  obtain ⟨x, hx, rfl⟩ := h
  exact ⟨x, hx, rfl⟩
theorem byt_str (l : List UInt8) : Lib.strCells (str l) = byt l := by simp [Lib.strCells, byt, str]
theorem byt_inj {a b : List UInt8} (h : byt a = byt b) : a = b := by
  have hf : Function.Injective (fun b : UInt8 => Value.int .u8 (b.toNat : Int)) := by
    intro x y e
    injection e with _ e
    exact UInt8.toNat_inj.1 (by omega)
  exact (List.map_inj_right (fun _ _ e => hf e)).1 h

section
variable {P : Program} {w : World}
theorem run_app_str (base : Nat) (t u ty e : TypeId) (ht : P.underlying t = some (.slice e)) (hu : P.underlying u = some .string)
    (hinf : (P.info? e).map (fun i => (i.zero, i.size, i.bytes)) = some (some (.int .u8 0), 1, 1))
    (v : Value) (n : Nat) (xs : List Value) (hown : w.ownsRow base e 1 v n xs) (l : List UInt8)
    (hbytes : n + l.length ≤ 140737488355328) (hbase : base ≤ w.heap.size) :
    ∃ v' w', (Builtin.append_ #[t, u] ty #[v, .string (str l)]).run P w = .ok v' w' ∧ w'.ownsRow base e 1 v' (n + l.length) (xs ++ byt l) ∧ w.grownBy w' v.ownBlock ∧ SameOrNew w v v' := by
  obtain ⟨i, hi, hz, hs, hb⟩ := info_parts hinf
  have hsz := str_size l
  have h63 : n + (str l).size ≤ maxLen := by simp only [maxLen]; omega
  obtain ⟨v', w', hr, h2, h3, -⟩ := Lib.run_append_own_string (P := P) w base t u ty e i ht hu hi hz hs hb v n xs hown (str l) h63 (by omega) hbase
  rw [hsz, byt_str] at h2
  refine ⟨v', w', hr, h2, h3, ?_⟩
  rcases hown.2 with ⟨rfl, rfl⟩ | ⟨g, cap, cur, rfl, hbg, hg, hnc, hcm, hcs, htake⟩
  · obtain ⟨v2, w2, hr2, h4, -, -⟩ := Lib.run_append_own_string (P := P) w w.heap.size t u ty e i ht hu hi hz hs hb _ 0 [] (World.ownsRow_nil _ _ _ _) (str l) (by omega) (by omega) (Nat.le_refl _)
    rw [hr] at hr2
    injection hr2 with hv _
    subst hv
    exact fun k hk => .inr (h4.lt k hk).1
  · by_cases hroom : n + (str l).size ≤ cap
    · have hr2 := Lib.run_append_room_string (P := P) w t u ty e i ht hu hi hs g n cap cur hg (str l) hroom (by have := hcs; simp at this; omega)
      rw [hr] at hr2
      injection hr2 with hv _
      subst hv
      exact fun k hk => .inl hk
    · have hxl : xs.length = n := by simpa using hown.1
      have holds : ∀ j u, xs[j]? = some u → w.cell? ((⟨g, 0, none⟩ : Addr).add j) = some u := hown.cells (g := g) rfl
      have hr2 := Lib.run_append_grow_string (P := P) w t u ty e i (.int .u8 0) ht hu hi hz ⟨g, 0, none⟩ n cap xs (by rw [hs]; simpa using hxl) holds (str l) (by omega) (by omega) (by rw [hb]; exact growslice_fits (by omega) (by omega))
      rw [hr] at hr2
      injection hr2 with hv _
      subst hv
      intro k hk
      simp [Value.ownBlock] at hk
      exact .inr (by omega)

section
variable {ops : Array Oper} {rest : List Oper} {o : Oper} {a : Act} {Q : Exit → Act → World → Prop}
/-- append(v, s...), s a string -/
theorem wpl_appStr (hgd : o.guard = none) (s x : Operand) (t u : TypeId)
    (ho : o.op = .call { callee := .builtin .append, args := #[s, x], argTypes := #[t, u] })
    (base : Nat) (e : TypeId) (ht : P.underlying t = some (.slice e)) (hu : P.underlying u = some .string)
    (hinf : (P.info? e).map (fun i => (i.zero, i.size, i.bytes)) = some (some (.int .u8 0), 1, 1))
    (v : Value) (n : Nat) (xs : List Value) (hown : w.ownsRow base e 1 v n xs) (hs : a.eval s = v) (l : List UInt8) (hx : a.eval x = .string (str l))
    (hbytes : n + l.length ≤ 140737488355328) (hbase : base ≤ w.heap.size)
    (h : ∀ v' w', w'.ownsRow base e 1 v' (n + l.length) (xs ++ byt l) → w.grownBy w' v.ownBlock → SameOrNew w v v' → wpList P ops Q rest (a.put o.dst v') w') : wpList P ops Q (o :: rest) a w := by
  obtain ⟨v', w', hrun, h2, h3, h4⟩ := run_app_str (P := P) base t u o.type e ht hu hinf v n xs hown l hbytes hbase
  exact wpl_appRun hgd s x t u ho hrun hs hx (h v' w' h2 h3 h4)
end
end
end Go.As
