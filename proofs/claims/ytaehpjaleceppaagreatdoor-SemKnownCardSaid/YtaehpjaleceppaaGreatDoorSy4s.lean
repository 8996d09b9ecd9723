/- The reckoner's operations on strings and their bytes. Any program; no conditions. -/
import Derived.Test.YtaehpjaleceppaaGreatDoorSy4
import Derived.Lib.ConvBytes
import Derived.Lib.AppendStr
import Derived.Lib.UnsafeStr
import Derived.Lib.Builder
noncomputable section
namespace Go.Sy
open Go Go.RowKit
set_option linter.unusedVariables false
set_option linter.unusedSimpArgs false

def byteAVs : List UInt8 → List AV
  | [] => []
  | b :: l => .v (.int .u8 (.ofNat b.toNat)) :: byteAVs l
theorem byteAVs_LR {γ : Gm} : ∀ (l : List UInt8), LR γ (byteAVs l) (l.map fun b => Value.int .u8 b.toNat)
  | [] => LR.nil
  | b :: l => LR.cons (.v _) (byteAVs_LR l)

section
variable {P : Program} {B : Nat → Prop} {G : Nat} {γ : Gm} {h : Hp} {c : Nat} {w w0 : World} {o : Oper} {a : Act} {K : Act → World → Prop} {Q : Exit → Act → World → Prop}

/-! a string turned into bytes -/
def u8B (P : Program) (e : TypeId) : Bool := match P.underlying e with
  | some (.int .u8) => true
  | _ => false
theorem u8B_ok {e : TypeId} (hh : u8B P e = true) : P.underlying e = some (.int .u8) := by
  unfold u8B at hh
  split at hh
  · assumption
  · cases hh
def aStrBytes (P : Program) (src dst : TypeId) (x : AV) (h : Hp) (c : Nat) : R1 := match x with
  | .v (.string s) => match P.underlying src, P.underlying dst with
    | some _, some (.slice e) => match u8B P e, Nat.ble s.data.toList.length 140737488355328 with
      | true, true => .val (.slg c 0 s.data.toList.length 1) (h.put c (some (.cells e true false false s.data.toList.length (putL .leaf 0 (byteAVs s.data.toList))))) (Nat.succ c)
      | _, _ => .fail
    | _, _ => .fail
  | _ => .fail
theorem aStrBytes_ok (hr : HR B G γ h c w) (hb : Keep B w0 w) {src dst : TypeId} {x : Operand} {ax : AV} (ho : o.op = .convert src dst x) (hx : VR γ ax (a.eval x)) (hk : KOk B G γ w0 a o.dst K Q (aStrBytes P src dst ax h c)) : o.wp P a w K Q := by
  unfold aStrBytes at hk
  split at hk <;> first | exact hk.elim | skip
  rename_i s
  split at hk <;> first | exact hk.elim | skip
  rename_i u e hu hd
  split at hk <;> first | exact hk.elim | skip
  rename_i he hle
  have he := u8B_ok he
  have hle := Nat.le_of_ble_eq_true hle
  have hsz : s.data.toList.length = s.size := Array.length_toList
  generalize hvx : a.eval x = vx at hx
  cases hx
  have hge := grownCap_ge w s.size 0 e
  have hml : maxLen = 9223372036854775807 := rfl
  have hcm : grownCap w s.size 0 e ≤ maxLen := grownCap_le_maxLen w s.size 0 e (by rw [hml]; omega)
  have hrun := Lib.run_convert_string_bytes (P := P) w src dst e s hu hd he
  have hle2 := Gm.upd_le (hr.fresh c (Nat.le_refl _)) (w.heap.size, (Lib.bytesCells w e s).size)
  have hcs : (Lib.bytesCells w e s).size = grownCap w s.size 0 e := by
    simp only [Lib.bytesCells, Array.size_append, Array.size_map, Array.size_replicate]
    have : s.data.size = s.size := rfl
    omega
  refine wp_val (v := .slice (some ⟨w.heap.size, 0, none⟩) s.data.toList.length (grownCap w s.size 0 e)) (w' := Lib.bytesWorld w e s) ?_
    (hk _ _ _ hle2 (.slg (Gm.upd_same _ _ _) (by omega) hcm (fun _ => ⟨rfl, by rw [hcs]; omega⟩)) ?_ ?_)
  · unfold execOp
    rw [ho]
    simp only [hvx, Sem.run_bind, hrun, Result.andThen_ok, hsz]
    rfl
  · refine hr.add (w.heap.size, (Lib.bytesCells w e s).size) (.cells e true false false s.data.toList.length (putL .leaf 0 (byteAVs s.data.toList))) (by rw [Lib.bytesWorld_size]; omega) (fun b blk p h1 h2 => ?_) ⟨fun _ => hr.new, Lib.bytesCells w e s, _, _, Lib.bytesWorld_at_new w e s, rfl, ⟨fun e => (by cases e), fun e => (by cases e)⟩, fun i av hlt hi => ?_⟩
    · obtain ⟨q, hq, hbr⟩ := hr.live b blk h1
      obtain rfl : q = p := by rw [hq] at h2; injection h2
      have := hbr.lt
      exact ⟨Lib.bytesWorld_at_old w e s _ hbr.lt, by simp; omega⟩
    · have hl := byteAVs_LR (γ := γ) s.data.toList
      have hll := hl.1
      simp only [List.length_map] at hll
      rw [putL_get, if_pos ⟨by omega, by omega⟩] at hi
      obtain ⟨v, h1, h2⟩ := hl.get (by simpa using hi)
      refine ⟨v, ?_, h2.mono hle2⟩
      unfold Lib.bytesCells
      have hlt' : i < s.data.size := by simpa using hlt
      rw [Array.getElem?_append_left (by simpa using hlt')]
      simpa using h1
  · exact ⟨hb.os, hb.tape, hb.output, by rw [Lib.bytesWorld_size]; have := hb.size; omega, fun k hk' => by rw [Lib.bytesWorld_at_old w e s k (hr.base k hk')]; exact hb.block k hk'⟩


/-! append(bytes, string..) -/
def aAppendStr (P : Program) (ts : List TypeId) (s x : AV) (h : Hp) (c : Nat) : R1 := match x with
  | .v (.string y) => match ts with
    | [t, u] => match P.underlying t, P.underlying u with
      | some (.slice e), some .string => match P.info? e with
        | some i => match i.zero with
          | some (.int .u8 (.ofNat 0)) => match Nat.beq i.size 1, Nat.beq i.bytes 1 with
            | true, true => match aRow h e 1 s with
              | some (n, cs, ob) => match Nat.ble (Nat.add n y.data.toList.length) 140737488355328, y.data.toList.length with
                | true, Nat.succ m => .val (.slg c 0 (Nat.add n (Nat.succ m)) 1) ((hpDrop h ob).put c (some (.cells e true true false (Nat.add n (Nat.succ m)) (putL cs n (byteAVs y.data.toList))))) (Nat.succ c)
                | true, 0 => .val s h c
                | _, _ => .fail
              | none => .fail
            | _, _ => .fail
          | _ => .fail
        | none => .fail
      | _, _ => .fail
    | _ => .fail
  | _ => .fail
theorem run_app_nostr {e sz base n : Nat} {t u ty : TypeId} {i : TypeInfo} (ht : P.underlying t = some (.slice e)) (hu : P.underlying u = some .string) (hi : P.info? e = some i) {v : Value} {xs : List Value} (hown : w.ownsRow base e sz v n xs) (y : ByteArray) (hy : y.size = 0) :
    (Builtin.append_ #[t, u] ty #[v, .string y]).run P w = .ok v w := by
  have hf : ∀ size, (Builtin.firstCells size 0 (.string y)).run P w = .ok #[] w := by
    intro size
    have := Lib.run_firstCells_string (P := P) w size y
    rw [hy] at this
    rw [this]
    congr 1
    apply Array.ext'
    have h2 : (Lib.strCells y).length = 0 := by rw [Lib.strCells_length, hy]
    simpa using List.eq_nil_of_length_eq_zero h2
  rcases hown.2 with ⟨rfl, rfl⟩ | ⟨g, cap, cur, rfl, _, _, hnc, _⟩
  · simp [Builtin.append_, run_underlying ht, run_underlying hu, sizeOf, typeInfo, hi, Builtin.lenOf, hy, hf]
  · simp [Builtin.append_, run_underlying ht, run_underlying hu, sizeOf, typeInfo, hi, Builtin.lenOf, hnc, storeCells, hy, hf]
theorem run_append_str (base : Nat) (t u ty e : TypeId) (i : TypeInfo) (ht : P.underlying t = some (.slice e)) (hu : P.underlying u = some .string) (hi : P.info? e = some i) (hz : i.zero = some (.int .u8 0))
    (hsize : i.size = 1) (hby : i.bytes = 1) (v : Value) (n : Nat) (xs : List Value) (hown : w.ownsRow base e 1 v n xs) (s : ByteArray) (hpos : 0 < s.size) (hbytes : n + s.size ≤ 140737488355328) (hbase : base ≤ w.heap.size) :
    ∃ v' w', (Builtin.append_ #[t, u] ty #[v, .string s]).run P w = .ok v' w' ∧ w'.ownsRow base e 1 v' (n + s.size) (xs ++ Lib.strCells s) ∧ w.grownBy w' v.ownBlock ∧ (v'.ownBlock = v.ownBlock ∨ v'.ownBlock = some w.heap.size) := by
  have hml : maxLen = 9223372036854775807 := rfl
  obtain ⟨v', w', hrun, h1, h2, _⟩ := Lib.run_append_own_string (P := P) w base t u ty e i ht hu hi hz hsize hby v n xs hown s (by omega) hbytes hbase
  refine ⟨v', w', hrun, h1, h2, ?_⟩
  rcases hown.2 with ⟨rfl, rfl⟩ | ⟨g, cap, cur, rfl, hbg, hg, hnc, hcm, hcs, htake⟩
  · have hr := run_append_nil_string (P := P) w t u ty e i (.int .u8 0) ht hu hi hz s (by omega) (by omega) (by rw [hby]; omega)
    rw [hr] at hrun
    injection hrun with e1 e2
    subst e1
    exact .inr rfl
  · by_cases hroom : n + s.size ≤ cap
    · have hcs' : cur.size = cap := by simpa using hcs
      have hr := Lib.run_append_room_string (P := P) w t u ty e i ht hu hi hsize g n cap cur hg s hroom (by omega)
      rw [hr] at hrun
      injection hrun with e1 e2
      subst e1
      exact .inl rfl
    · have hxl : xs.length = n := by simpa using hown.1
      have holds : ∀ j u, xs[j]? = some u → w.cell? ((⟨g, 0, none⟩ : Addr).add j) = some u := hown.cells (g := g) rfl
      have hr := Lib.run_append_grow_string (P := P) w t u ty e i (.int .u8 0) ht hu hi hz ⟨g, 0, none⟩ n cap xs (by rw [hsize]; simpa using hxl) holds s (by omega) (by omega) (by rw [hby]; exact growslice_fits (by omega) (by omega))
      rw [hr] at hrun
      injection hrun with e1 e2
      subst e1
      exact .inr rfl
theorem aAppendStr_ok (hr : HR B G γ h c w) (hb : Keep B w0 w) {s x : Operand} {ts : Array TypeId} {as ax : AV} (ho : o.op = .call { callee := .builtin .append, args := #[s, x], argTypes := ts })
    (hs : VR γ as (a.eval s)) (hx : VR γ ax (a.eval x)) (hk : KOk B G γ w0 a o.dst K Q (aAppendStr P ts.toList as ax h c)) : o.wp P a w K Q := by
  unfold aAppendStr at hk
  split at hk <;> first | exact hk.elim | skip
  rename_i y
  split at hk <;> first | exact hk.elim | skip
  rename_i t u hts
  have hts' : ts = #[t, u] := by apply Array.ext'; simpa using hts
  subst hts'
  split at hk <;> first | exact hk.elim | skip
  rename_i e ht hu
  split at hk <;> first | exact hk.elim | skip
  rename_i i hi
  split at hk <;> first | exact hk.elim | skip
  rename_i hz
  split at hk <;> first | exact hk.elim | skip
  rename_i e1 e2
  have e1 : i.size = 1 := by simpa using e1
  have e2 : i.bytes = 1 := by simpa using e2
  split at hk <;> first | exact hk.elim | skip
  rename_i n cs ob hrow
  obtain ⟨xs, hown, hnB, hxs, hdrop⟩ := aRow_ok hr hs hrow
  have hsz : y.data.toList.length = y.size := Array.length_toList
  generalize hvx : a.eval x = vx at hx
  cases hx
  have hop : ∀ {v' : Value} {w' : World}, (Builtin.append_ #[t, u] o.type #[a.eval s, .string y]).run P w = .ok v' w' → (execOp a.eval o).run P w = .ok (.value v') w' := by
    intro v' w' hrun
    unfold execOp
    simp only [ho, resolve, invoke, builtin, Sem.run_bind, Sem.run_pure, Result.andThen_ok, List.map_toArray, List.map_cons, List.map_nil, hvx, hrun]
  split at hk <;> first | exact hk.elim | skip
  · rename_i m e4 e5
    have e4 : n + y.data.toList.length ≤ 140737488355328 := Nat.le_of_ble_eq_true e4
    have hym : y.size = m + 1 := by omega
    obtain ⟨v', w', hrun, hown', hgr, hsame⟩ := run_append_str (P := P) 0 t u o.type e i ht hu hi hz e1 e2 (a.eval s) n xs hown y (by omega) (by omega) (Nat.zero_le _)
    rw [hym] at hown'
    rcases hown'.2 with ⟨_, h0⟩ | ⟨g, cap, cur, rfl, hBg, hheap, hnc, hcm, hcs, htake⟩
    · omega
    have hown0 := hown.1
    have hBg' : ¬ B g := by
      have hsame' : some g = (a.eval s).ownBlock ∨ some g = some w.heap.size := hsame
      rcases hsame' with h5 | h5
      · exact hnB g h5.symm
      · injection h5 with h5; rw [h5]; exact hr.new
    have hd0 : HR B G γ (hpDrop h ob) c w := by
      cases ob with
      | none => exact hr
      | some b => exact hr.drop b
    have hle := Gm.upd_le (hr.fresh c (Nat.le_refl _)) (g, cap * 1)
    refine wp_val (hop hrun) (hk (γ.upd c (g, cap * 1)) _ w' hle (.slg (Gm.upd_same _ _ _) hnc hcm (fun _ => ⟨rfl, by simp⟩)) ?_ (hb.grown hgr hr.base hnB))
    refine hd0.add (g, cap * 1) _ hgr.size (fun b blk p h1 h2 => ?_) ⟨fun _ => hBg', cur, _, (0, 0), hheap, hcs, ⟨fun _ => ⟨rfl, rfl⟩, fun e => (by cases e)⟩, fun j av hj hav => ?_⟩
    · obtain ⟨h3, h4⟩ := hdrop b blk p h1
      have hne := h4 h2
      obtain ⟨q, hq, hbr⟩ := hr.live b _ h3
      obtain rfl : q = p := by rw [hq] at h2; injection h2
      refine ⟨hgr.block _ hbr.lt (fun e => hne e.symm), fun e => ?_⟩
      have hsame' : some g = (a.eval s).ownBlock ∨ some g = some w.heap.size := hsame
      simp only at e
      subst e
      rcases hsame' with h5 | h5
      · exact hne h5.symm
      · injection h5 with h5
        have := hbr.lt
        omega
    · simp only [Nat.add_eq] at hj hav
      have hget : ∀ u, (xs ++ Lib.strCells y)[j]? = some u → cur[j]? = some u := by
        intro u hu'
        rw [← htake] at hu'
        have hj2 := (List.getElem?_eq_some_iff.1 hu').1
        rw [List.length_take] at hj2
        rw [List.getElem?_take, if_pos (by omega)] at hu'
        simpa using hu'
      have hl : LR γ (byteAVs y.data.toList) (Lib.strCells y) := byteAVs_LR (γ := γ) y.data.toList
      have hll := hl.1
      rw [Lib.strCells_length] at hll
      rw [putL_get] at hav
      split at hav
      · rename_i hin
        obtain ⟨u, h5, h6⟩ := hl.get hav
        exact ⟨u, hget u (by rw [List.getElem?_append_right (by omega), hown0, Nat.mul_one]; exact h5), h6.mono hle⟩
      · rename_i hout
        have hjn : j < n * 1 := by
          have hout' : ¬ (n ≤ j ∧ j < n + (byteAVs y.data.toList).length) := hout
          rw [hll] at hout'
          have : j < n + (m + 1) := hj
          omega
        obtain ⟨u, h5, h6⟩ := hxs j av hjn hav
        exact ⟨u, hget u (by rw [List.getElem?_append_left (by omega)]; exact h5), h6.mono hle⟩
  · rename_i e4 e5
    exact wp_val (hop (run_app_nostr ht hu hi hown y (by omega))) (hk γ _ w (Gm.le.refl _) hs hr hb)

/-! a string of a row's bytes -/
def avBytes : List AV → Option (List UInt8)
  | [] => some []
  | .v (.int .u8 (.ofNat k)) :: l => match Nat.blt k 256 with
    | true => match avBytes l with
      | some r => some (UInt8.ofNat k :: r)
      | none => none
    | false => none
  | _ :: _ => none
theorem avBytes_ok {γ : Gm} : ∀ {as : List AV} {vs : List Value} {l : List UInt8}, avBytes as = some l → LR γ as vs → vs = l.map fun b => Value.int .u8 b.toNat
  | [], vs, l, hh, hl => by
    simp [avBytes] at hh
    subst hh
    exact List.eq_nil_of_length_eq_zero hl.1.symm
  | x :: as, vs, l, hh, hl => by
    unfold avBytes at hh
    split at hh <;> first | (cases hh; done) | skip
    · rename_i heq; cases heq
    · rename_i k l' heq
      injection heq with q1 q2
      subst q1 q2
      split at hh <;> first | (cases hh; done) | skip
      rename_i hk
      have hk := blt_lt hk
      split at hh <;> first | (cases hh; done) | skip
      rename_i r hr
      injection hh with hh
      subst hh
      cases vs with
      | nil => have := hl.1; simp at this
      | cons y vs =>
        have h0 := hl.2 0 _ y rfl rfl
        have ht : LR γ as vs := ⟨by have := hl.1; simpa using this, fun i b z h1 h2 => hl.2 (i + 1) b z (by simpa using h1) (by simpa using h2)⟩
        cases h0
        rw [avBytes_ok hr ht]
        simp only [List.map_cons, List.cons.injEq, and_true]
        have : (UInt8.ofNat k).toNat = k := by simp; omega
        rw [this]
        rfl
theorem Keep.freeze {F : Nat → Prop} {a w : World} (h : Keep F a w) {p : Addr} (hp : ¬ F p.block) (n : Nat) : Keep F a (w.freeze p n) := by
  refine h.trans ?_
  unfold World.freeze
  split
  · exact Keep.refl F w
  · exact ⟨rfl, rfl, rfl, by simp, fun k hk => by
      simp only [Array.getElem?_modify]
      rw [if_neg (show p.block ≠ k from fun e => hp (e ▸ hk))]⟩
theorem HR.dropTurn (hr : HR B G γ h c w) {w' : World} {b : Nat} {p : Nat × Nat} {blk0 : Blk} (h0 : h.get b = some blk0) (hp : γ b = some p) (hs : w.heap.size ≤ w'.heap.size) (hk : ∀ k, k ≠ p.1 → k < w.heap.size → w'.heap[k]? = w.heap[k]?) : HR B G γ (h.put b none) c w' := by
  have key : ∀ x blkx, (h.put b none).get x = some blkx → h.get x = some blkx ∧ x ≠ b := by
    intro x blkx hx
    rw [Tr.get_put] at hx
    split at hx
    · cases hx
    · exact ⟨hx, by assumption⟩
  refine ⟨fun b1 blk1 h1 => ?_, fun b1 b2 _ _ p1 p2 h1 h2 => hr.inj b1 b2 _ _ p1 p2 (key _ _ h1).1 (key _ _ h2).1, hr.fresh, hr.glob, fun k hk => Nat.lt_of_lt_of_le (hr.base k hk) hs⟩
  obtain ⟨h2, h3⟩ := key _ _ h1
  obtain ⟨q, hq, hbr⟩ := hr.live b1 blk1 h2
  exact ⟨q, hq, hbr.kept (hk _ (fun e => h3 (hr.inj _ _ _ _ _ _ h2 h0 hq hp e)) hbr.lt)⟩
def aUnsafeString (P : Program) (ts : List TypeId) (x n : AV) (h : Hp) (c : Nat) : R1 := match ts with
  | [pt, _] => match n with
    | .v (.int .i64 (.ofNat 0)) => match x with
      | .ptr _ _ => .val (.v (.string ⟨#[]⟩)) h c
      | .v (.pointer none) => .val (.v (.string ⟨#[]⟩)) h c
      | _ => .fail
    | .v (.int .i64 (.ofNat (k + 1))) => match x with
      | .ptr b 0 => match P.underlying pt with
        | some (.pointer e) => match Nat.beq (P.cellsOf e) 1, h.get b with
          | true, some (.cells ty true true _ lim cs) => match Nat.beq ty e, Nat.ble (k + 1) lim, Nat.ble (k + 1) 9223372036854775807, cellsAt cs 0 (k + 1) with
            | true, true, true, some l => match avBytes l with
              | some bs => .val (.v (.string ⟨bs.toArray⟩)) (h.put b none) c
              | none => .fail
            | _, _, _, _ => .fail
          | _, _ => .fail
        | _ => .fail
      | _ => .fail
    | _ => .fail
  | _ => .fail
theorem aUnsafeString_ok (hr : HR B G γ h c w) (hb : Keep B w0 w) {s x : Operand} {ts : Array TypeId} {as ax : AV} (ho : o.op = .call { callee := .builtin .unsafeString, args := #[s, x], argTypes := ts })
    (hs : VR γ as (a.eval s)) (hx : VR γ ax (a.eval x)) (hk : KOk B G γ w0 a o.dst K Q (aUnsafeString P ts.toList as ax h c)) : o.wp P a w K Q := by
  unfold aUnsafeString at hk
  split at hk <;> first | exact hk.elim | skip
  rename_i pt it hts
  have hts' : ts = #[pt, it] := by apply Array.ext'; simpa using hts
  subst hts'
  generalize hvx : a.eval x = vx at hx
  generalize hvs : a.eval s = vs at hs
  have hop : ∀ {v' : Value} {w' : World}, (Builtin.unsafeString_ #[pt, it] o.type #[vs, vx]).run P w = .ok v' w' → (execOp a.eval o).run P w = .ok (.value v') w' := by
    intro v' w' hrun
    unfold execOp
    simp only [ho, resolve, invoke, builtin, Sem.run_bind, Sem.run_pure, Result.andThen_ok, List.map_toArray, List.map_cons, List.map_nil, hvx, hvs, hrun]
  split at hk <;> first | exact hk.elim | skip
  · cases hx
    split at hk <;> first | exact hk.elim | skip
    · cases hs with
      | ptr hbp => exact wp_val (hop (Lib.run_unsafeString_none (P := P) w pt it o.type _)) (hk γ _ w (Gm.le.refl _) (.v _) hr hb)
    · cases hs
      exact wp_val (hop (Lib.run_unsafeString_none (P := P) w pt it o.type _)) (hk γ _ w (Gm.le.refl _) (.v _) hr hb)
  · rename_i k
    cases hx
    split at hk <;> first | exact hk.elim | skip
    rename_i b
    split at hk <;> first | exact hk.elim | skip
    rename_i e hp
    split at hk <;> first | exact hk.elim | skip
    rename_i ty ex lim cs hce hg
    have hce : P.cellsOf e = 1 := by simpa using hce
    split at hk <;> first | exact hk.elim | skip
    rename_i l e1 e2 e3 hc
    have e1 : ty = e := by simpa using e1
    have e2 : k + 1 ≤ lim := Nat.le_of_ble_eq_true e2
    have e3 : k + 1 ≤ 9223372036854775807 := Nat.le_of_ble_eq_true e3
    subst e1
    split at hk <;> first | exact hk.elim | skip
    rename_i bs hbs
    cases hs with
    | ptr hbp =>
      rename_i n N
      obtain ⟨vs', ⟨h1, h2, h3, h4⟩ | ⟨h1, _⟩⟩ := hr.cellsAt hbp hg hc (by omega)
      case inr => omega
      have hvb := avBytes_ok hbs h1
      have hbl : bs.length = k + 1 := by rw [← h2, hvb]; simp
      obtain ⟨p, hp', hbr⟩ := hr.live b _ hg
      rw [hbp] at hp'
      injection hp' with hp'
      subst hp'
      obtain ⟨h0, cc, ty', fz, k1, k2, k3, k4⟩ := hbr
      obtain ⟨rfl, rfl⟩ := k3.1 rfl
      have hsh : w.shape? n = some (ty, cc.size) := by simp [World.shape?, k1]
      have hrun := Lib.run_unsafeString_row (P := P) w pt it o.type ty hp hce n cc.size hsh bs (by intro e; rw [e] at hbl; simp at hbl) (by simp only at k2; omega) (by omega) (fun j x hj => by
        rw [Addr.add_mid]
        exact h3 j _ (by rw [hvb]; simp [hj]))
      rw [hbl] at hrun
      refine wp_val (hop hrun) (hk γ _ _ (Gm.le.refl _) (.v _) ?_ (Keep.freeze hb (h0 rfl) _))
      refine hr.dropTurn hg hbp ?_ (fun k' hk' _ => ?_)
      · unfold World.freeze; split <;> simp
      · unfold World.freeze
        split
        · rfl
        · simp only [Array.getElem?_modify]
          rw [if_neg (fun e => hk' e.symm)]
end

/-! the first byte of a row; pointers that are one; pointers of another kind -/
def aSliceData (x : AV) : Option AV := match x with
  | .slg b 0 (_ + 1) _ => some (.ptr b 0)
  | _ => none
theorem aSliceData_ok {P : Program} {γ : Gm} {ts : Array TypeId} {ty : TypeId} {a : AV} {x : Value} {r : AV} (hx : VR γ a x) (h : aSliceData a = some r) :
    ∃ v, VR γ r v ∧ ∀ w, (Builtin.unsafeSliceData_ ts ty #[x]).run P w = .ok v w := by
  unfold aSliceData at h
  split at h <;> first | (cases h; done) | skip
  injection h with h
  subst h
  cases hx with
  | slg hb hl hm ho =>
    obtain ⟨rfl, _⟩ := ho (.inl rfl)
    exact ⟨_, .ptr hb, fun w => Lib.run_unsafeSliceData_row (P := P) w ts ty _ _ _ (by omega)⟩
def aPtrEq (P : Program) (op : BinOp) (t : TypeId) (x y : AV) : Option AV := match x, y with
  | .ptr b o, .ptr b' o' => match Nat.beq b b', Nat.beq o o', P.underlying t with
    | true, true, some (.pointer te) => match P.info? te with
      | some _ => match op with
        | .eql => some (.v (.bool true))
        | .neq => some (.v (.bool false))
        | _ => none
      | none => none
    | _, _, _ => none
  | _, _ => none
theorem aPtrEq_ok {P : Program} {γ : Gm} {op : BinOp} {t : TypeId} {a b : AV} {x y : Value} {r : AV} (hx : VR γ a x) (hy : VR γ b y) (h : aPtrEq P op t a b = some r) (ox oy : Operand) :
    ∃ v, VR γ r v ∧ ∀ w, (do eqGuard op t ox oy x y; binOp op t x y : Sem Value).run P w = .ok v w := by
  unfold aPtrEq at h
  split at h <;> first | (cases h; done) | skip
  split at h <;> first | (cases h; done) | skip
  rename_i te e1 e2 hu
  have e1 := Nat.eq_of_beq_eq_true e1
  have e2 := Nat.eq_of_beq_eq_true e2
  subst e1 e2
  split at h <;> first | (cases h; done) | skip
  rename_i i hi
  cases hx with
  | ptr h1 =>
    cases hy with
    | ptr h2 =>
      rw [h1] at h2
      injection h2 with h2
      injection h2 with h2 h3
      subst h2 h3
      have heq : ∀ (w : World) (d : Nat) (q : Addr), (Op.equalIn (d + 1) t (.pointer (some q)) (.pointer (some q))).run P w = .ok true w := fun w d q => by
        simp [Op.equalIn, run_underlying hu, sizeOf, typeInfo, hi, run_sameAddr_same]
      split at h <;> first | (cases h; done) | skip
      all_goals
        injection h with h
        subst h
        refine ⟨_, .v _, fun w => eqG rfl ?_⟩
        first
          | exact eqE (b := true) rfl (heq w 9999 _)
          | exact neE (b := true) rfl (heq w 9999 _)
def aUnsafePtr (P : Program) (src dst : TypeId) (x : AV) (h : Hp) : Option AV := match x with
  | .ptr b off => match h.get b with
    | some (.cells ty _ _ ex lim cs) => match P.underlying src, P.underlying dst with
      | some (.pointer t), some .unsafePointer => match szB P t, Nat.blt off lim, cs.get off with
        | some (_ + 1), true, some _ => some (.ptr b off)
        | _, _, _ => none
      | some .unsafePointer, some (.pointer u) => match ex, P.info? u with
        | true, some _ => match liesAt P P.depth ty (lim / P.cellsOf ty) off u 1 with
          | true => some (.ptr b off)
          | false => none
        | _, _ => none
      | _, _ => none
    | _ => none
  | _ => none
theorem aUnsafePtr_ok {P : Program} {B : Nat → Prop} {G : Nat} {γ : Gm} {h : Hp} {c : Nat} {w : World} {src dst : TypeId} {a : AV} {x : Value} {r : AV} (hr : HR B G γ h c w) (hx : VR γ a x) (hh : aUnsafePtr P src dst a h = some r) :
    ∃ v, VR γ r v ∧ (convert src dst x).run P w = .ok v w := by
  unfold aUnsafePtr at hh
  split at hh <;> first | (cases hh; done) | skip
  split at hh <;> first | (cases hh; done) | skip
  rename_i ty own clean ex lim cs hg
  cases hx with
  | ptr hb =>
    rename_i n N
    obtain ⟨p, hp, hbr⟩ := hr.live _ _ hg
    rw [hb] at hp
    injection hp with hp
    subst hp
    obtain ⟨h0, cc, ty', fz, k1, k2, k3, k4⟩ := hbr
    have hsh : w.shape? n = some (ty', cc.size) := by simp [World.shape?, k1]
    split at hh <;> first | (cases hh; done) | skip
    · rename_i t hs hd
      split at hh <;> first | (cases hh; done) | skip
      rename_i z av e1 e2 e3
      injection hh with hh
      subst hh
      obtain ⟨y, h5, _⟩ := k4 _ av (blt_lt e2) e3
      have hlt := (Array.getElem?_eq_some_iff.1 h5).1
      unfold szB at e1
      split at e1 <;> first | (cases e1; done) | skip
      rename_i i hi
      injection e1 with e1
      exact ⟨_, .ptr hb, Lib.run_to_unsafe (P := P) w _ hs hd hi (by omega) hsh hlt⟩
    · rename_i u hs hd
      split at hh <;> first | (cases hh; done) | skip
      rename_i i hi
      split at hh <;> first | (cases hh; done) | skip
      rename_i hl
      injection hh with hh
      subst hh
      obtain ⟨this, rfl⟩ := k3.2 rfl
      exact ⟨_, .ptr hb, Lib.run_from_unsafe (P := P) w _ hs hd hi hsh (by rw [this]; exact hl)⟩
end Go.Sy
