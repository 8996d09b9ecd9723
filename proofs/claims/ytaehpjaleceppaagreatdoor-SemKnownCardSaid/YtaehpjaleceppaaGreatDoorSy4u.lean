/- The reckoner's operations: append onto nothing, methods of interfaces. Any program; no conditions. -/
import Derived.Test.YtaehpjaleceppaaGreatDoorSy4t
noncomputable section
namespace Go.Sy
open Go Go.RowKit
set_option linter.unusedVariables false
set_option linter.unusedSimpArgs false

section
variable {P : Program} {B : Nat → Prop} {G : Nat} {γ : Gm} {h : Hp} {c : Nat} {w w0 : World} {o : Oper} {a : Act} {K : Act → World → Prop} {Q : Exit → Act → World → Prop}

/-- a new block behind a draw -/
theorem HR.allocDrew (hr : HR B G γ h c w) (ob : Obj) (N : Nat) (blk : Blk) (hb : BR B (γ.upd c (w.heap.size, N)) blk (w.heap.size, N) (w.drew.alloc ob)) :
    HR B G (γ.upd c (w.heap.size, N)) (h.put c (some blk)) (c + 1) (w.drew.alloc ob) :=
  hr.add _ blk (by show w.heap.size ≤ (w.heap.push ob).size; rw [Array.size_push]; omega) (fun b blk' p h1 h2 => by
    obtain ⟨q, hq, hbr⟩ := hr.live b blk' h1
    obtain rfl : q = p := by rw [hq] at h2; injection h2
    have := hbr.lt
    exact ⟨heap_alloc_old w.drew ob q.1 hbr.lt, by simp; omega⟩) hb

/-! append(s[:0:0], x..) -/
def aAppend0 (P : Program) (ts : List TypeId) (s x : AV) (h : Hp) (c : Nat) : R1 := match ts with
  | [t, t2] => match Nat.beq t t2, P.underlying t with
    | true, some (.slice e) => match P.info? e with
      | some i => match i.zero with
        | some z => match Nat.beq z.cells.size i.size, Nat.blt 0 i.size, Nat.blt 0 i.bytes with
          | true, true, true => match s, aSource h i.size x with
            | .sl b off 0 0, some (m, l) => match Nat.ble (Nat.mul m i.bytes) 140737488355328, m with
              | true, Nat.succ k => .val (.slg c 0 (Nat.succ k) i.size) (h.put c (some (.cells e true true false (Nat.mul (Nat.succ k) i.size) (putL .leaf 0 l)))) (Nat.succ c)
              | true, 0 => .val (.sl b off 0 0) h c
              | _, _ => .fail
            | _, _ => .fail
          | _, _, _ => .fail
        | none => .fail
      | none => .fail
    | _, _ => .fail
  | _ => .fail
theorem aAppend0_ok (hr : HR B G γ h c w) (hb : Keep B w0 w) {s x : Operand} {ts : Array TypeId} {as ax : AV} (ho : o.op = .call { callee := .builtin .append, args := #[s, x], argTypes := ts })
    (hs : VR γ as (a.eval s)) (hx : VR γ ax (a.eval x)) (hk : KOk B G γ w0 a o.dst K Q (aAppend0 P ts.toList as ax h c)) : o.wp P a w K Q := by
  unfold aAppend0 at hk
  split at hk <;> first | exact hk.elim | skip
  rename_i t t2 hts
  split at hk <;> first | exact hk.elim | skip
  rename_i e htt hu
  have htt : t = t2 := by simpa using htt
  subst htt
  have hts' : ts = #[t, t] := by apply Array.ext'; simpa using hts
  subst hts'
  split at hk <;> first | exact hk.elim | skip
  rename_i i hi
  split at hk <;> first | exact hk.elim | skip
  rename_i z hz
  split at hk <;> first | exact hk.elim | skip
  rename_i e1 e2 e3
  have e1 : z.cells.size = i.size := by simpa using e1
  have e2 := blt_lt e2
  have e3 := blt_lt e3
  split at hk <;> first | exact hk.elim | skip
  rename_i b off m l hsrc
  have hml : maxLen = 9223372036854775807 := rfl
  have hop : ∀ {v' : Value} {w' : World}, (Builtin.append_ #[t, t] o.type #[a.eval s, a.eval x]).run P w = .ok v' w' → (execOp a.eval o).run P w = .ok (.value v') w' := by
    intro v' w' hrun
    unfold execOp
    simp only [ho, resolve, invoke, builtin, Sem.run_bind, Sem.run_pure, Result.andThen_ok, List.map_toArray, List.map_cons, List.map_nil, hrun]
  generalize hvs : a.eval s = vs at hs
  rw [hvs] at hop
  cases hs with
  | sl hbp hlc =>
    rename_i n N
    split at hk <;> first | exact hk.elim | skip
    · rename_i k e4
      have e4 : (k + 1) * i.bytes ≤ 140737488355328 := Nat.le_of_ble_eq_true e4
      obtain ⟨A, k2, news, ⟨hxe, hl, hln, hA⟩ | ⟨_, _, hm0, _⟩⟩ := aSource_ok hr hx hsrc
      case inr => omega
      have hln' : news.length = (k + 1) * i.size := hln
      have hpos : 0 < (k + 1) * i.size := Nat.mul_pos (by omega) e2
      obtain ⟨ad, rfl, hcell⟩ := hA hpos
      have hk63 : k + 1 ≤ 140737488355328 := by
        have : (k + 1) * 1 ≤ (k + 1) * i.bytes := Nat.mul_le_mul_left _ e3
        omega
      have hrun := run_append_grow (P := P) (w := w) t o.type e i z hu hi hz ⟨n, off, none⟩ 0 0 [] (by simp) (fun j v hj => by simp at hj) ad (k + 1) k2 news hln' hcell (by omega) (by omega) (by
        rw [Nat.zero_add, nextslicecap_zero (by omega)]; omega)
      simp only [Nat.zero_add] at hrun
      rw [hxe] at hop
      have hge := grownCap_ge w (k + 1) 0 e
      have hcm : grownCap w (k + 1) 0 e ≤ maxLen := grownCap_le_maxLen w (k + 1) 0 e (by omega)
      generalize grownCap w (k + 1) 0 e = cap at hrun hge hcm
      have hle := Gm.upd_le (hr.fresh c (Nat.le_refl _)) (w.heap.size, cap * i.size)
      refine wp_val (hop hrun) (hk (γ.upd c (w.heap.size, cap * i.size)) _ _ hle (.slg (Gm.upd_same _ _ _) hge hcm (fun _ => ⟨rfl, by simp⟩)) ?_ (hb.drew.alloc (by exact hr.base) _))
      have hcsz : (([] : List Value).toArray ++ news.toArray ++ Builtin.zeroCells z.cells (cap - (k + 1))).size = cap * i.size := by
        simp only [Array.size_append, List.size_toArray, List.length_nil, size_zeroCells, e1, hln']
        rw [Nat.zero_add, ← Nat.add_mul]
        congr 1
        omega
      refine hr.allocDrew _ _ _ ⟨fun _ => hr.new, _, _, (0, 0), heap_alloc_new w.drew _, hcsz, ⟨fun _ => ⟨rfl, rfl⟩, fun e => (by cases e)⟩, fun j av hj hav => ?_⟩
      have hll := hl.1
      have hj' : j < (k + 1) * i.size := hj
      rw [putL_get, if_pos ⟨by omega, by omega⟩] at hav
      obtain ⟨u, h5, h6⟩ := hl.get (by simpa using hav)
      refine ⟨u, ?_, h6.mono hle⟩
      rw [Array.getElem?_append_left (by simp; omega)]
      simpa using h5
    · obtain ⟨A, k, news, ⟨hxe, _⟩ | ⟨k1, hxe, _⟩⟩ := aSource_ok hr hx hsrc
      all_goals
        rw [hxe] at hop
        have hld : ∀ a : Addr, (loadCells a 0).run P w = .ok #[] w := fun a => rfl
        refine wp_val (hop (v' := .slice (some ⟨n, off, none⟩) 0 0) (w' := w) ?_) (hk γ _ w (Gm.le.refl _) (.sl hbp (Nat.le_refl _)) hr hb)
      · cases A <;> simp [Builtin.append_, run_underlying hu, sizeOf, typeInfo, hi, Builtin.lenOf, Builtin.firstCells, storeCells, hld]
      · simp [Builtin.append_, run_underlying hu, sizeOf, typeInfo, hi, Builtin.lenOf, Builtin.firstCells, storeCells, hld]

/-! append(nil, make(.., n)..) -/
theorem run_app_zs (t u ty e : TypeId) (k : IntKind) (z : Value) (i : TypeInfo) (ht : P.underlying t = some (.slice e)) (hu : P.underlying u = some (.int k))
    (hi : P.info? e = some i) (hz : i.zero = some z) (hzs : z.cells.size = i.size) (hsz : 0 < i.size) (hby : 0 < i.bytes) (n : Nat) (h0 : 0 < n) (hb : n * i.bytes ≤ 140737488355328) :
    ∃ cs : Array Value, ∃ cap, (Builtin.append_ #[t, u] ty #[.slice none 0 0, .int .i64 (n : Int)]).run P w = .ok (.slice (some ⟨w.heap.size, 0, none⟩) n cap) (w.drew.alloc (.cells cs e)) ∧ n ≤ cap ∧ cap ≤ maxLen ∧ cs.size = cap * i.size := by
  have h1 : n * 1 ≤ n * i.bytes := Nat.mul_le_mul_left _ hby
  have hml : maxLen = 9223372036854775807 := rfl
  have hn : n ≠ 0 := by omega
  have hw : IntKind.i64.wrap (n : Int) = n := by rw [IntKind.wrap_i64]; omega
  have h63' : ¬ (9223372036854775807 < (n : Int)) := by omega
  have h48' : ¬ (281474976710656 < Builtin.nextslicecap n 0 * i.bytes) := by rw [nextslicecap_zero h0]; omega
  have hneg : ¬ ((n : Int) < 0) := by omega
  have hbig : ¬ (281474976710656 < (n : Int) * i.bytes) := by
    have : ((n * i.bytes : Nat) : Int) ≤ 140737488355328 := by omega
    rw [Int.natCast_mul] at this; omega
  have hns : n * i.size ≠ 0 := by
    intro e
    rcases Nat.mul_eq_zero.1 e with e | e <;> omega
  have hge := grownCap_ge w n 0 e
  have hcm : grownCap w n 0 e ≤ maxLen := grownCap_le_maxLen w n 0 e (by omega)
  refine ⟨Builtin.zeroCells z.cells n ++ Builtin.zeroCells z.cells (grownCap w n 0 e - n), grownCap w n 0 e, ?_, hge, hcm, ?_⟩
  · simp [Builtin.append_, run_underlying ht, run_underlying hu, asInt, asIntOf, sizeOf, typeInfo, zeroValue, hi, hz, Builtin.lenOf, hn, hw, h63', h48', hneg, hbig, hns, Question.forced, run_firstCells_none, newRow, grownCap]
  · simp only [Array.size_append, size_zeroCells, hzs, ← Nat.add_mul]
    congr 1
    omega
def aAppendZ (P : Program) (ts : List TypeId) (s x : AV) (h : Hp) (c : Nat) : R1 := match ts with
  | [t, u] => match P.underlying u, P.underlying t with
    | some (.int _), some (.slice e) => match P.info? e with
      | some i => match i.zero with
        | some z => match Nat.beq z.cells.size i.size, Nat.blt 0 i.size, Nat.blt 0 i.bytes with
          | true, true, true => match s, x with
            | .v (.slice none 0 0), .v (.int .i64 (.ofNat n)) => match Nat.blt 0 n, Nat.ble (Nat.mul n i.bytes) 140737488355328 with
              | true, true => .val (.slg c 0 n i.size) (h.put c (some (.cells e true true false 0 .leaf))) (Nat.succ c)
              | _, _ => .fail
            | _, _ => .fail
          | _, _, _ => .fail
        | none => .fail
      | none => .fail
    | _, _ => .fail
  | _ => .fail
theorem aAppendZ_ok (hr : HR B G γ h c w) (hb : Keep B w0 w) {s x : Operand} {ts : Array TypeId} {as ax : AV} (ho : o.op = .call { callee := .builtin .append, args := #[s, x], argTypes := ts })
    (hs : VR γ as (a.eval s)) (hx : VR γ ax (a.eval x)) (hk : KOk B G γ w0 a o.dst K Q (aAppendZ P ts.toList as ax h c)) : o.wp P a w K Q := by
  unfold aAppendZ at hk
  split at hk <;> first | exact hk.elim | skip
  rename_i t u hts
  have hts' : ts = #[t, u] := by apply Array.ext'; simpa using hts
  subst hts'
  split at hk <;> first | exact hk.elim | skip
  rename_i kk e huu hu
  split at hk <;> first | exact hk.elim | skip
  rename_i i hi
  split at hk <;> first | exact hk.elim | skip
  rename_i z hz
  split at hk <;> first | exact hk.elim | skip
  rename_i e1 e2 e3
  have e1 : z.cells.size = i.size := by simpa using e1
  split at hk <;> first | exact hk.elim | skip
  rename_i n
  split at hk <;> first | exact hk.elim | skip
  rename_i e4 e5
  have e5 : n * i.bytes ≤ 140737488355328 := Nat.le_of_ble_eq_true e5
  generalize hvs : a.eval s = vs at hs
  generalize hvx : a.eval x = vx at hx
  cases hs
  cases hx
  obtain ⟨cs, cap, hrun, h1, h2, h3⟩ := run_app_zs (P := P) (w := w) t u o.type e kk z i hu huu hi hz e1 (blt_lt e2) (blt_lt e3) n (blt_lt e4) e5
  have hle := Gm.upd_le (hr.fresh c (Nat.le_refl _)) (w.heap.size, cap * i.size)
  refine wp_val ?_ (hk (γ.upd c (w.heap.size, cap * i.size)) _ _ hle (.slg (Gm.upd_same _ _ _) h1 h2 (fun _ => ⟨rfl, by simp⟩)) (hr.allocDrew _ _ _ ⟨fun _ => hr.new, cs, _, (0, 0), heap_alloc_new w.drew _, h3, ⟨fun _ => ⟨rfl, rfl⟩, fun e => (by cases e)⟩, fun j av hj => absurd hj (by omega)⟩) (hb.drew.alloc (by exact hr.base) _))
  unfold execOp
  simp only [ho, resolve, invoke, builtin, Sem.run_bind, Sem.run_pure, Result.andThen_ok, List.map_toArray, List.map_cons, List.map_nil, hvs, hvx]
  have hrun' : (Builtin.append_ #[t, u] o.type #[.slice none 0 0, .int .i64 (Int.ofNat n)]).run P w = _ := hrun
  rw [hrun']
  rfl
end

/-! a method of an interface -/
def aMethod (P : Program) (t : TypeId) (name : String) : Option FuncId := match P.info? t with
  | none => none
  | some i => match i.methods.find? (·.name == name) with
    | none => none
    | some m => match m.func, m.path.toList, P.underlying t with
      | some (f, true), [], some (.pointer _) => some f
      | some (_, false), [], some (.pointer _) => none
      | some (f, false), [], some _ => some f
      | _, _, _ => none
theorem aMethod_ok {P : Program} {t : TypeId} {name : String} {f : FuncId} (h : aMethod P t name = some f) (v : Value) (args : Array Value) (w : World) :
    (callMethod (.iface t v) name args).run P w = (callFunc f (#[v] ++ args)).run P w := by
  unfold aMethod at h
  split at h
  · cases h
  rename_i i hi
  split at h
  · cases h
  rename_i m hm
  have hmeth : (method (P.types.size + 99 + 1) t v name).run P w = .ok (f, v) w := by
    unfold method
    rw [Sem.run_bind]
    have hti : (typeInfo t).run P w = .ok i w := by simp [typeInfo, hi]
    rw [hti, Result.andThen_ok]
    simp only [hm]
    split at h <;> first | (cases h; done) | skip
    · rename_i f' e' h1 h2 h3
      injection h with h
      subst h
      simp [h1, h2, follow, receiverAt, run_underlying h3, Place.get]
    · rename_i f' d hnp h1 h2 h3
      injection h with h
      subst h
      simp only [h1, h2, follow, Sem.run_bind, Sem.run_pure, Result.andThen_ok, receiverAt, run_underlying h3]
      cases d <;> first | rfl | (exact (hnp _ rfl).elim)
  unfold callMethod
  have e : P.types.size + Made.depth = P.types.size + 99 + 1 := rfl
  simp only [Sem.run_bind, run_program, Result.andThen_ok, e, hmeth]
end Go.Sy
