/- A row of bytes of the call's own, known whole: what it holds and the room behind it; append keeps it. Any program; no conditions but the sizes that the model asks for. -/
import Derived.Test.YtldkcfhigcmoaaaDoorBytes
namespace Go.As
open Go Go.RowKit

/-- a row of the call's own: the bytes l, and the bytes rm in the room behind them -/
def RowB (w : World) (base : Nat) (e : TypeId) (v : Value) (l rm : List UInt8) : Prop :=
  (v = .slice none 0 0 ∧ l = [] ∧ rm = []) ∨ ∃ g, v = .slice (some ⟨g, 0, none⟩) l.length (l.length + rm.length) ∧ base ≤ g ∧ Blk w g e (byt (l ++ rm)).toArray ∧ l.length + rm.length ≤ maxLen

section
variable {w w' : World} {base base' : Nat} {e : TypeId} {v : Value} {l rm : List UInt8} {F : Nat → Prop}
theorem RowB.nil (w : World) (base : Nat) (e : TypeId) : RowB w base e (.slice none 0 0) [] [] := .inl ⟨rfl, rfl, rfl⟩
theorem RowB.form (h : RowB w base e v l rm) : ∃ a, v = .slice a l.length (l.length + rm.length) ∧ l.length + rm.length ≤ maxLen := by
  rcases h with ⟨rfl, rfl, rfl⟩ | ⟨g, rfl, _, _, hm⟩
  · exact ⟨none, rfl, by simp [maxLen]⟩
  · exact ⟨_, rfl, hm⟩
/-- the same, in numbers of their own -/
theorem RowB.form2 (h : RowB w base e v l rm) : ∃ a n c, v = .slice a n c ∧ n = l.length ∧ c = l.length + rm.length ∧ c ≤ maxLen := by
  obtain ⟨a, hv, hm⟩ := h.form
  exact ⟨a, _, _, hv, rfl, rfl, hm⟩
theorem RowB.lt (h : RowB w base e v l rm) : ∀ k, v.ownBlock = some k → base ≤ k ∧ k < w.heap.size := by
  rcases h with ⟨rfl, rfl, rfl⟩ | ⟨g, rfl, hb, hg, _⟩
  · intro k hk; simp [Value.ownBlock] at hk
  · intro k hk
    have : g = k := by simpa [Value.ownBlock] using hk
    subst this
    exact ⟨hb, hg.lt⟩
theorem RowB.blk (h : RowB w base e v l rm) {g : Nat} (hg : v.ownBlock = some g) : Blk w g e (byt (l ++ rm)).toArray := by
  rcases h with ⟨rfl, rfl, rfl⟩ | ⟨g', rfl, _, hh, _⟩
  · simp [Value.ownBlock] at hg
  · have : g' = g := by simpa [Value.ownBlock] using hg
    subst this
    exact hh
theorem RowB.sl_all {a : Option Addr} {n c : Nat} (h : RowB w base e (.slice a n c) l rm) : Sl w 1 a (l.length + rm.length) (byt (l ++ rm)) := by
  refine ⟨by simp [byt], fun hn => ?_⟩
  rcases h with ⟨_, rfl, rfl⟩ | ⟨g, hv, _, hg, _⟩
  · simp at hn
  · injection hv with ha _ _
    subst ha
    refine ⟨_, rfl, hg.lt, fun j u hu => ?_⟩
    have : (⟨g, 0, none⟩ : Addr).add j = ⟨g, j, none⟩ := by unfold Addr.add; split <;> simp_all
    rw [this, hg.cell]
    simpa using hu
theorem RowB.sl {a : Option Addr} {n c : Nat} (h : RowB w base e (.slice a n c) l rm) : Sl w 1 a l.length (byt l) := by
  have := h.sl_all.take (k := l.length) (by omega)
  simpa [byt_take] using this
theorem RowB.only (h : RowB w base e v l rm) (ho : Only F w w') (hg : ∀ k, v.ownBlock = some k → ¬ F k) : RowB w' base e v l rm := by
  rcases h with h | ⟨g, rfl, hb, hh, hm⟩
  · exact .inl h
  · exact .inr ⟨g, rfl, hb, hh.only ho (hg g rfl), hm⟩
theorem RowB.below (h : RowB w base e v l rm) (hb : Below w.heap.size w w') : RowB w' base e v l rm := h.only (Only.of_below hb (fun _ => False)) (fun _ _ => id)
theorem RowB.alloc (h : RowB w base e v l rm) (o : Obj) : RowB (w.alloc o) base e v l rm := h.below ((Below.refl _ _).alloc (Nat.le_refl _) o)
theorem RowB.mono (h : RowB w base e v l rm) (hb : base' ≤ base) : RowB w base' e v l rm := by
  rcases h with h | ⟨g, rfl, hb', r⟩
  · exact .inl h
  · exact .inr ⟨g, rfl, by omega, r⟩
theorem RowB.grown {row : Option Nat} (h : RowB w base e v l rm) (hb : w.grownBy w' row) (hne : ∀ k, v.ownBlock = some k → row ≠ some k) : RowB w' base e v l rm := by
  rcases h with h | ⟨g, rfl, hb', hh, hm⟩
  · exact .inl h
  · exact .inr ⟨g, rfl, hb', hh.grown hb (fun e => hne g rfl e.symm), hm⟩
theorem RowB.ne_ {g : Nat} {t : TypeId} {cs : Array Value} (h : RowB w base e v l rm) (hg : Blk w g t cs) (hne : e ≠ t) : v.ownBlock ≠ some g :=
  fun he => Blk.ne_ (h.blk he) hg hne rfl
theorem RowB.made (w : World) (base : Nat) (e : TypeId) (l : List UInt8) (hb : base ≤ w.heap.size) (hl : l.length ≤ maxLen) : RowB (w.alloc (.cells (byt l).toArray e)) base e (.slice (some ⟨w.heap.size, 0, none⟩) l.length l.length) l [] :=
  .inr ⟨w.heap.size, by simp, hb, by simpa using Blk.new w e (byt l).toArray, by simpa using hl⟩
theorem RowB.own (h : RowB w base e v l rm) : w.ownsRow base e 1 v l.length (byt l) := by
  refine ⟨by simp [byt], ?_⟩
  rcases h with ⟨rfl, rfl, rfl⟩ | ⟨g, rfl, hb, hg, hm⟩
  · exact .inl ⟨rfl, rfl⟩
  · exact .inr ⟨g, _, _, rfl, hb, hg, by omega, hm, by simp [byt], by simp [byt]⟩
end

theorem zeros_byt (k : Nat) : Builtin.zeroCells (Value.int .u8 0).cells k = (byt (List.replicate k 0)).toArray := by
  apply Array.ext'
  have h : (Value.int .u8 0).cells = #[.int .u8 0] := rfl
  simp [Builtin.zeroCells, h, byt, Nat.mod_one, List.map_const']

section
variable {P : Program} {w : World}

theorem grownB (w : World) (base : Nat) (e : TypeId) (l news : List UInt8) (cap : Nat) (hc : l.length + news.length ≤ cap) (hm : cap ≤ maxLen) (hbase : base ≤ w.heap.size) (row : Option Nat) :
    (∃ rm', RowB (w.drew.alloc (.cells ((byt l).toArray ++ (byt news).toArray ++ Builtin.zeroCells (Value.int .u8 0).cells (cap - (l.length + news.length))) e)) base e (.slice (some ⟨w.heap.size, 0, none⟩) (l.length + news.length) cap) (l ++ news) rm') ∧
    w.grownBy (w.drew.alloc (.cells ((byt l).toArray ++ (byt news).toArray ++ Builtin.zeroCells (Value.int .u8 0).cells (cap - (l.length + news.length))) e)) row := by
  refine ⟨⟨List.replicate (cap - (l.length + news.length)) 0, .inr ⟨w.heap.size, ?_, hbase, ?_, ?_⟩⟩, ⟨rfl, rfl, rfl, by simp, fun k hk _ => heap_alloc_old w.drew _ hk⟩⟩
  · simp only [List.length_append, List.length_replicate]
    congr 1
    omega
  · rw [zeros_byt]
    have e1 : (byt l).toArray ++ (byt news).toArray ++ (byt (List.replicate (cap - (l.length + news.length)) 0)).toArray = (byt (l ++ news ++ List.replicate (cap - (l.length + news.length)) 0)).toArray := by
      simp [byt]
    rw [e1]
    exact Blk.new w.drew e _
  · simp only [List.length_append, List.length_replicate]
    omega

theorem roomB {g : Nat} {base : Nat} {e : TypeId} {l rm news : List UInt8} (hb : base ≤ g) (hg : Blk w g e (byt (l ++ rm)).toArray) (hm : l.length + rm.length ≤ maxLen) (hroom : news.length ≤ rm.length) :
    RowB (w.setRow g ((byt (l ++ rm)).toArray.toList.take l.length ++ byt news ++ (byt (l ++ rm)).toArray.toList.drop (l.length + news.length)).toArray) base e (.slice (some ⟨g, 0, none⟩) (l.length + news.length) (l.length + rm.length)) (l ++ news) (rm.drop news.length) ∧
    w.grownBy (w.setRow g ((byt (l ++ rm)).toArray.toList.take l.length ++ byt news ++ (byt (l ++ rm)).toArray.toList.drop (l.length + news.length)).toArray) (some g) := by
  have e1 : (byt (l ++ rm)).toArray.toList.take l.length ++ byt news ++ (byt (l ++ rm)).toArray.toList.drop (l.length + news.length) = byt (l ++ news ++ rm.drop news.length) := by
    simp [byt, List.drop_append]
  rw [e1]
  refine ⟨.inr ⟨g, ?_, hb, setRow_heap w g _ _ e _ hg, ?_⟩, ⟨rfl, rfl, rfl, by simp, fun k _ hk => setRow_other w g k _ (fun e => hk (by simp [e]))⟩⟩
  · simp only [List.length_append, List.length_drop]
    congr 1
    omega
  · simp only [List.length_append, List.length_drop]
    omega

theorem run_appB (base : Nat) (t ty e : TypeId) (ht : P.underlying t = some (.slice e))
    (hinf : (P.info? e).map (fun i => (i.zero, i.size, i.bytes)) = some (some (.int .u8 0), 1, 1))
    (v : Value) (l rm : List UInt8) (hown : RowB w base e v l rm) (A : Option Addr) (m c : Nat) (news : List UInt8) (hr : Sl w 1 A m (byt news))
    (hbytes : l.length + m ≤ 140737488355328) (hbase : base ≤ w.heap.size) :
    ∃ v' rm' w', (Builtin.append_ #[t, t] ty #[v, .slice A m c]).run P w = .ok v' w' ∧ RowB w' base e v' (l ++ news) rm' ∧ w.grownBy w' v.ownBlock ∧ SameOrNew w v v' := by
  obtain ⟨i, hi, hz, hs, hb⟩ := info_parts hinf
  have hml : news.length = m := by have := hr.len1; simpa [byt] using this
  have hlen : (byt news).length = m * i.size := by rw [hs, byt_len]; omega
  rcases A with _ | ad
  · have hm : m = 0 := by
      rcases Nat.eq_zero_or_pos m with h0 | h0
      · exact h0
      · obtain ⟨ad, h, _⟩ := hr.2 h0; cases h
    subst hm
    obtain rfl : news = [] := List.eq_nil_of_length_eq_zero hml
    exact ⟨v, rm, w, run_app_nil base t ty e i 1 ht hi v l.length (byt l) hown.own c, by simpa using hown, ⟨rfl, rfl, rfl, Nat.le_refl _, fun _ _ _ => rfl⟩, SameOrNew.rfl _ _⟩
  · rcases Nat.eq_zero_or_pos m with h0 | h0
    · subst h0
      obtain rfl : news = [] := List.eq_nil_of_length_eq_zero hml
      have hrn : (Builtin.append_ #[t, t] ty #[v, .slice (some ad) 0 c]).run P w = .ok v w := by
        rcases hown with ⟨rfl, rfl, rfl⟩ | ⟨g, rfl, hbg, hg, hm⟩
        · simp [Builtin.append_, run_underlying ht, sizeOf, typeInfo, hi, Builtin.lenOf, Builtin.firstCells, loadCells, loadCellsFrom]
        · simp [Builtin.append_, run_underlying ht, sizeOf, typeInfo, hi, Builtin.lenOf, Builtin.firstCells, loadCells, loadCellsFrom, storeCells]
      exact ⟨v, rm, w, hrn, by simpa using hown, ⟨rfl, rfl, rfl, Nat.le_refl _, fun _ _ _ => rfl⟩, SameOrNew.rfl _ _⟩
    obtain ⟨ad', hA, _, hcells⟩ := hr.2 h0
    injection hA with hA
    subst hA
    rcases hown with ⟨rfl, rfl, rfl⟩ | ⟨g, rfl, hbg, hg, hm⟩
    · have hrr := run_append_nil (P := P) w t ty e i _ ht hi hz ad m c (byt news) hlen hcells h0 (by simp at hbytes; omega) (by rw [hb]; simp at hbytes; omega)
      have hge := grownCap_ge w m 0 e
      have hcm : grownCap w m 0 e ≤ maxLen := grownCap_le_maxLen w m 0 e (by simp only [maxLen]; simp at hbytes; omega)
      have hgr := grownB w base e [] news (grownCap w m 0 e) (by simpa [hml] using hge) hcm hbase (Value.ownBlock (.slice none 0 0))
      simp only [List.length_nil, Nat.zero_add, hml] at hgr
      have e0 : (byt []).toArray ++ (byt news).toArray = (byt news).toArray := by simp [byt]
      rw [e0] at hgr
      obtain ⟨⟨rm', h1⟩, h2⟩ := hgr
      exact ⟨_, rm', _, hrr, h1, h2, fun k hk => .inr (by simp [Value.ownBlock] at hk; omega)⟩
    · by_cases hroom : l.length + m ≤ l.length + rm.length
      · have hfit : l.length * i.size + (byt news).length ≤ (byt (l ++ rm)).toArray.size := by simp [byt, hs, hml]; omega
        have hrr := run_append_room (P := P) w t ty e i ht hi g l.length (l.length + rm.length) _ hg ad m c (byt news) hlen hcells (byt_one news) hroom hfit
        have hgr := roomB hbg hg hm (news := news) (by omega)
        rw [hs, Nat.mul_one, byt_len] at hrr
        rw [hml] at hgr hrr
        exact ⟨_, _, _, hrr, hgr.1, hgr.2, fun k hk => .inl hk⟩
      · have holds : ∀ j u, (byt l)[j]? = some u → w.cell? ((⟨g, 0, none⟩ : Addr).add j) = some u := by
          intro j u hu
          have : (⟨g, 0, none⟩ : Addr).add j = ⟨g, j, none⟩ := by unfold Addr.add; split <;> simp_all
          rw [this, hg.cell]
          have hj : j < (byt l).length := by
            rcases Nat.lt_or_ge j (byt l).length with h | h
            · exact h
            · rw [List.getElem?_eq_none h] at hu; cases hu
          rw [byt_app]
          simpa [List.getElem?_append_left hj] using hu
        have hrr := run_append_grow (P := P) w t ty e i _ ht hi hz ⟨g, 0, none⟩ l.length (l.length + rm.length) (byt l) (by rw [hs, byt_len]; omega) holds ad m c (byt news) hlen hcells (by omega) (by omega) (by rw [hb]; exact growslice_fits (by omega) (by omega))
        have hge := grownCap_ge w (l.length + m) (l.length + rm.length) e
        have hcm : grownCap w (l.length + m) (l.length + rm.length) e ≤ maxLen := grownCap_le_maxLen w _ _ e (by simp only [maxLen]; omega)
        have hgr := grownB w base e l news (grownCap w (l.length + m) (l.length + rm.length) e) (by omega) hcm hbase (Value.ownBlock (.slice (some ⟨g, 0, none⟩) l.length (l.length + rm.length)))
        rw [hml] at hgr
        obtain ⟨⟨rm', h1⟩, h2⟩ := hgr
        exact ⟨_, rm', _, hrr, h1, h2, fun k hk => .inr (by simp [Value.ownBlock] at hk; omega)⟩

theorem run_appBS (base : Nat) (t u ty e : TypeId) (ht : P.underlying t = some (.slice e)) (hu : P.underlying u = some .string)
    (hinf : (P.info? e).map (fun i => (i.zero, i.size, i.bytes)) = some (some (.int .u8 0), 1, 1))
    (v : Value) (l rm : List UInt8) (hown : RowB w base e v l rm) (news : List UInt8)
    (hbytes : l.length + news.length ≤ 140737488355328) (hbase : base ≤ w.heap.size) :
    ∃ v' rm' w', (Builtin.append_ #[t, u] ty #[v, .string (str news)]).run P w = .ok v' w' ∧ RowB w' base e v' (l ++ news) rm' ∧ w.grownBy w' v.ownBlock ∧ SameOrNew w v v' := by
  obtain ⟨i, hi, hz, hs, hb⟩ := info_parts hinf
  have hsz := str_size news
  rcases hown with ⟨rfl, rfl, rfl⟩ | ⟨g, rfl, hbg, hg, hm⟩
  · rcases Nat.eq_zero_or_pos news.length with h0 | h0
    · obtain rfl : news = [] := List.eq_nil_of_length_eq_zero h0
      have hf := Lib.run_firstCells_string (P := P) w 1 (str [])
      refine ⟨_, [], w, ?_, RowB.nil w base e, ⟨rfl, rfl, rfl, Nat.le_refl _, fun _ _ _ => rfl⟩, SameOrNew.rfl _ _⟩
      rw [hsz] at hf
      simp at hf
      simp [Builtin.append_, run_underlying ht, run_underlying hu, sizeOf, typeInfo, hi, hs, Builtin.lenOf, hsz, hf]
    · simp only [List.length_nil, Nat.zero_add] at hbytes
      have hrr := run_append_nil_string (P := P) w t u ty e i _ ht hu hi hz (str news) (by omega) (by omega) (by rw [hb]; omega)
      have e1 : ((str news).data.map fun b => Value.int .u8 b.toNat) = (byt news).toArray := by
        apply Array.ext'
        simp [byt, str]
      rw [e1, hsz] at hrr
      have hge := grownCap_ge w news.length 0 e
      have hcm : grownCap w news.length 0 e ≤ maxLen := grownCap_le_maxLen w _ 0 e (by simp only [maxLen]; omega)
      have hgr := grownB w base e [] news (grownCap w news.length 0 e) (by simpa using hge) hcm hbase (Value.ownBlock (.slice none 0 0))
      simp only [List.length_nil, Nat.zero_add] at hgr
      have e0 : (byt []).toArray ++ (byt news).toArray = (byt news).toArray := by simp [byt]
      rw [e0] at hgr
      obtain ⟨⟨rm', h1⟩, h2⟩ := hgr
      exact ⟨_, rm', _, hrr, h1, h2, fun k hk => .inr (by simp [Value.ownBlock] at hk; omega)⟩
  · by_cases hroom : l.length + news.length ≤ l.length + rm.length
    · have hrr := Lib.run_append_room_string (P := P) w t u ty e i ht hu hi hs g l.length (l.length + rm.length) _ hg (str news) (by rw [hsz]; exact hroom) (by rw [hsz]; simp [byt]; omega)
      have hgr := roomB hbg hg hm (news := news) (by omega)
      rw [hsz, byt_str] at hrr
      exact ⟨_, _, _, hrr, hgr.1, hgr.2, fun k hk => .inl hk⟩
    · have holds : ∀ j u, (byt l)[j]? = some u → w.cell? ((⟨g, 0, none⟩ : Addr).add j) = some u := by
        intro j u hu
        have : (⟨g, 0, none⟩ : Addr).add j = ⟨g, j, none⟩ := by unfold Addr.add; split <;> simp_all
        rw [this, hg.cell]
        have hj : j < (byt l).length := by
          rcases Nat.lt_or_ge j (byt l).length with h | h
          · exact h
          · rw [List.getElem?_eq_none h] at hu; cases hu
        rw [byt_app]
        simpa [List.getElem?_append_left hj] using hu
      have hrr := Lib.run_append_grow_string (P := P) w t u ty e i _ ht hu hi hz ⟨g, 0, none⟩ l.length (l.length + rm.length) (byt l) (by rw [hs, byt_len]; omega) holds (str news) (by rw [hsz]; omega) (by rw [hsz]; omega) (by rw [hb, hsz]; exact growslice_fits (by omega) (by omega))
      rw [hsz, byt_str] at hrr
      have hge := grownCap_ge w (l.length + news.length) (l.length + rm.length) e
      have hcm : grownCap w (l.length + news.length) (l.length + rm.length) e ≤ maxLen := grownCap_le_maxLen w _ _ e (by simp only [maxLen]; omega)
      have hgr := grownB w base e l news (grownCap w (l.length + news.length) (l.length + rm.length) e) (by omega) hcm hbase (Value.ownBlock (.slice (some ⟨g, 0, none⟩) l.length (l.length + rm.length)))
      obtain ⟨⟨rm', h1⟩, h2⟩ := hgr
      exact ⟨_, rm', _, hrr, h1, h2, fun k hk => .inr (by simp [Value.ownBlock] at hk; omega)⟩

section
variable {ops : Array Oper} {rest : List Oper} {o : Oper} {a : Act} {Q : Exit → Act → World → Prop}
/-- append(v, xs...), rows of bytes -/
theorem wpl_appB (hgd : o.guard = none) (s x : Operand) (t : TypeId)
    (ho : o.op = .call { callee := .builtin .append, args := #[s, x], argTypes := #[t, t] })
    (base : Nat) (e : TypeId) (ht : P.underlying t = some (.slice e))
    (hinf : (P.info? e).map (fun i => (i.zero, i.size, i.bytes)) = some (some (.int .u8 0), 1, 1))
    (v : Value) (l rm : List UInt8) (hown : RowB w base e v l rm) (hs : a.eval s = v) (A : Option Addr) (m c : Nat) (news : List UInt8) (hx : a.eval x = .slice A m c) (hr : Sl w 1 A m (byt news))
    (hbytes : l.length + m ≤ 140737488355328) (hbase : base ≤ w.heap.size)
    (h : ∀ v' rm' w', RowB w' base e v' (l ++ news) rm' → w.grownBy w' v.ownBlock → SameOrNew w v v' → wpList P ops Q rest (a.put o.dst v') w') : wpList P ops Q (o :: rest) a w := by
  obtain ⟨v', rm', w', hrun, h2, h3, h4⟩ := run_appB (P := P) base t o.type e ht hinf v l rm hown A m c news hr hbytes hbase
  exact wpl_appRun hgd s x t t ho hrun hs hx (h v' rm' w' h2 h3 h4)
/-- append(v, s...), s a string -/
theorem wpl_appBS (hgd : o.guard = none) (s x : Operand) (t u : TypeId)
    (ho : o.op = .call { callee := .builtin .append, args := #[s, x], argTypes := #[t, u] })
    (base : Nat) (e : TypeId) (ht : P.underlying t = some (.slice e)) (hu : P.underlying u = some .string)
    (hinf : (P.info? e).map (fun i => (i.zero, i.size, i.bytes)) = some (some (.int .u8 0), 1, 1))
    (v : Value) (l rm : List UInt8) (hown : RowB w base e v l rm) (hs : a.eval s = v) (news : List UInt8) (hx : a.eval x = .string (str news))
    (hbytes : l.length + news.length ≤ 140737488355328) (hbase : base ≤ w.heap.size)
    (h : ∀ v' rm' w', RowB w' base e v' (l ++ news) rm' → w.grownBy w' v.ownBlock → SameOrNew w v v' → wpList P ops Q rest (a.put o.dst v') w') : wpList P ops Q (o :: rest) a w := by
  obtain ⟨v', rm', w', hrun, h2, h3, h4⟩ := run_appBS (P := P) base t u o.type e ht hu hinf v l rm hown news hbytes hbase
  exact wpl_appRun hgd s x t u ho hrun hs hx (h v' rm' w' h2 h3 h4)
/-- append(v, c): the walk has laid the byte in a block of its own, just now -/
theorem wpl_appB1 (hgd : o.guard = none) (s x : Operand) (t : TypeId)
    (ho : o.op = .call { callee := .builtin .append, args := #[s, x], argTypes := #[t, t] })
    (base : Nat) (e : TypeId) (ht : P.underlying t = some (.slice e))
    (hinf : (P.info? e).map (fun i => (i.zero, i.size, i.bytes)) = some (some (.int .u8 0), 1, 1))
    (v : Value) (l rm : List UInt8) (hown : RowB w base e v l rm) (hs : a.eval s = v) (b : UInt8) (us : Array Value) (hus : us = #[.int .u8 b.toNat])
    (hx : a.eval x = .slice (some ⟨w.heap.size, 0, none⟩) 1 1)
    (hbytes : l.length + 1 ≤ 140737488355328) (hbase : base ≤ w.heap.size)
    (h : ∀ v' rm' w', RowB w' base e v' (l ++ [b]) rm' → w.grownBy w' v.ownBlock → SameOrNew w v v' → wpList P ops Q rest (a.put o.dst v') w') : wpList P ops Q (o :: rest) a (w.alloc (.cells us e)) := by
  subst hus
  refine wpl_appB hgd s x t ho base e ht hinf v l rm (hown.alloc _) hs (some ⟨w.heap.size, 0, none⟩) 1 1 [b] hx ?_ hbytes (by simp; omega) ?_
  · refine ⟨by simp [byt], fun _ => ⟨_, rfl, by simp, fun j u hu => ?_⟩⟩
    have : (⟨w.heap.size, 0, none⟩ : Addr).add j = ⟨w.heap.size, j, none⟩ := by unfold Addr.add; split <;> simp_all
    rw [this, World.cell?_alloc_at _ _ _ _ rfl]
    simpa [byt] using hu
  · intro v' rm' w' h2 h3 h4
    refine h v' rm' w' h2 ⟨h3.os, h3.tape, h3.output, ?_, fun k hk hne => ?_⟩ ?_
    · have := h3.size; simp at this; omega
    · rw [h3.block k (by simp; omega) hne]
      exact Below.heap_alloc _ _ _ hk
    · intro k hk
      rcases h4 k hk with h5 | h5
      · exact .inl h5
      · exact .inr (by simp at h5; omega)
end

/-- 's[i:j]' of a slice -/
theorem run_slice_both (t e : TypeId) (z : Value) (sz bytes : Nat) (ht : P.underlying t = some (.slice e))
    (hinf : (P.info? e).map (fun i => (i.zero, i.size, i.bytes)) = some (some z, sz, bytes)) (A : Option Addr) (n c : Nat) (kd kd' : IntKind) (i j : Int) (h0 : 0 ≤ i) (h1 : i ≤ j) (h2 : j ≤ c) (w : World) :
    (Instr.slice t (.slice A n c) (some (.int kd i)) (some (.int kd' j)) none).run P w = .ok (.slice (if c = i.toNat then A else A.map (·.add (i.toNat * sz))) (j.toNat - i.toNat) (c - i.toNat)) w := by
  obtain ⟨q, hi, -, rfl, -⟩ := info_parts hinf
  have hj : 0 ≤ i ∧ i ≤ j := ⟨h0, h1⟩
  have hj2 : 0 ≤ j ∧ j ≤ (c : Int) := ⟨by omega, h2⟩
  have hle : i.toNat ≤ j.toNat := by omega
  simp [Instr.slice, Instr.sliceBounds, Instr.sliceBound, asIntOf, run_underlying ht, sizeOf, typeInfo, hi, hj, hj2]
  omega
theorem Sl.part {w : World} {a : Option Addr} {n c : Nat} {l : List UInt8} (h : Sl w 1 a n (byt l)) {i j : Nat} (hij : i ≤ j) (hj : j ≤ n) (hc : n ≤ c) :
    Sl w 1 (if c = i then a else a.map (·.add (i * 1))) (j - i) (byt ((l.take j).drop i)) := by
  have h1 := (h.take (k := j) hj).cut (k := i) (cap := c) hij (by omega)
  simpa [byt_take, byt_drop] using h1

/-- string(b) of bytes -/
theorem run_strB (src dst e : TypeId) (A : Option Addr) (n c : Nat) (l : List UInt8) (h : Sl w 1 A n (byt l))
    (hs : P.underlying src = some (.slice e)) (he : P.underlying e = some (.int .u8)) (hd : P.underlying dst = some .string) :
    (convert src dst (.slice A n c)).run P w = .ok (.string (str l)) w := by
  have hl : l.length = n := by have := h.len1; simpa [byt] using this
  rw [run_convert_bytes_string w src dst e A n c hs he hd]
  rcases A with _ | ad
  · have hn : n = 0 := by
      rcases Nat.eq_zero_or_pos n with h0 | h0
      · exact h0
      · obtain ⟨ad, e, _⟩ := h.2 h0; cases e
    subst hn
    obtain rfl : l = [] := List.eq_nil_of_length_eq_zero hl
    simp [Conv.bytesToString, Sem.run_pure]; rfl
  · have hload : (loadCells ad n).run P w = .ok ((l.map fun b => (b.toNat : Int)).map (Value.int .u8)).toArray w := by
      have e1 : (l.map fun b => (b.toNat : Int)).map (Value.int .u8) = byt l := by simp [byt]
      rw [e1]
      rcases Nat.eq_zero_or_pos n with h0 | h0
      · subst h0
        obtain rfl : l = [] := List.eq_nil_of_length_eq_zero hl
        simp [loadCells, loadCellsFrom, byt]
      · obtain ⟨ad', hA, _, hc⟩ := h.2 h0
        injection hA with hA
        subst hA
        have := run_loadCells_list (P := P) w ad (byt l) (by simpa [byt] using hc)
        rw [byt_len, hl] at this
        exact this
    rw [run_bytesToString w ad n c _ hload]
    congr 2
    have key : ∀ (l : List UInt8) (s : List UInt8), (l.map fun b => (b.toNat : Int)).foldl (fun r n => r.push (UInt8.ofNat n.toNat)) (str s) = str (s ++ l) := by
      intro l
      induction l with
      | nil => intro s; simp
      | cons b l ih =>
        intro s
        simp only [List.map_cons, List.foldl_cons]
        have : (str s).push (UInt8.ofNat (b.toNat : Int).toNat) = str (s ++ [b]) := by
          apply ByteArray.ext
          simp [str, ByteArray.push]
        rw [this, ih]
        simp
    exact (key l []).trans (by simp)
end
end Go.As
