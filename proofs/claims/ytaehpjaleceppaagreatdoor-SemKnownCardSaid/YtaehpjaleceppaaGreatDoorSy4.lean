/- The reckoner's operations on memory. Any program; no conditions. -/
import Derived.Test.YtaehpjaleceppaaGreatDoorSy3
import Derived.Great.BuildSlice
import Derived.Laws.MakeOwn
noncomputable section
namespace Go.Sy
open Go Go.RowKit
set_option linter.unusedVariables false
set_option linter.unusedSimpArgs false

/-! rows of cells -/
def cellsAt (cs : Tr AV) : Nat → Nat → Option (List AV)
  | _, 0 => some []
  | off, n + 1 => match cs.get off with
    | none => none
    | some a => match cellsAt cs (Nat.succ off) n with
      | none => none
      | some r => some (a :: r)
def putL (cs : Tr AV) (off : Nat) (l : List AV) : Tr AV := List.rec (motive := fun _ => Tr AV → Nat → Tr AV) (fun cs _ => cs) (fun a _ ih cs off => ih (cs.put off (some a)) (Nat.succ off)) l cs off
theorem putL_cons (cs : Tr AV) (off : Nat) (a : AV) (l : List AV) : putL cs off (a :: l) = putL (cs.put off (some a)) (Nat.succ off) l := rfl
theorem putL_nil (cs : Tr AV) (off : Nat) : putL cs off [] = cs := rfl
theorem putL_get : ∀ (l : List AV) (cs : Tr AV) (off i : Nat), (putL cs off l).get i = if off ≤ i ∧ i < off + l.length then l[i - off]? else cs.get i
  | [], cs, off, i => by rw [if_neg (by simp <;> omega)]; rfl
  | a :: l, cs, off, i => by
    rw [putL_cons, putL_get l, Tr.get_put, show Nat.succ off = off + 1 from rfl]
    by_cases h1 : i = off
    · subst h1
      rw [if_neg (by omega), if_pos rfl, if_pos (by simp)]
      simp
    · by_cases h2 : off + 1 ≤ i ∧ i < off + 1 + l.length
      · rw [if_pos h2, if_pos (by simp; omega), show i - off = (i - (off + 1)) + 1 by omega, List.getElem?_cons_succ]
      · rw [if_neg (by simpa using h2), if_neg h1, if_neg (by simp; omega)]
theorem cellsAt_len {cs : Tr AV} : ∀ {n off : Nat} {l : List AV}, cellsAt cs off n = some l → l.length = n ∧ ∀ i, i < n → cs.get (off + i) = l[i]?
  | 0, off, l, h => by simp [cellsAt] at h; subst h; exact ⟨rfl, fun i hi => by omega⟩
  | n + 1, off, l, h => by
    simp only [cellsAt] at h
    cases h1 : cs.get off with
    | none => rw [h1] at h; cases h
    | some a =>
      rw [h1] at h
      cases h2 : cellsAt cs (Nat.succ off) n with
      | none => rw [h2] at h; cases h
      | some r =>
        rw [h2] at h
        injection h with h
        subst h
        obtain ⟨h3, h4⟩ := cellsAt_len h2
        refine ⟨by simp [h3], fun i hi => ?_⟩
        cases i with
        | zero => simpa using h1
        | succ i =>
          have := h4 i (by omega)
          rw [show off + (i + 1) = Nat.succ off + i by omega, this]
          rfl

section
variable {P : Program} {B : Nat → Prop} {G : Nat} {γ : Gm} {h : Hp} {c : Nat} {w : World}

/-- the block's cells, read one behind the other -/
theorem HR.cellsAt (hr : HR B G γ h c w) {b n N : Nat} (hb : γ b = some (n, N)) {ty : Nat} {own clean ex : Bool} {lim : Nat} {cs : Tr AV} (hg : h.get b = some (.cells ty own clean ex lim cs))
    {off k : Nat} {l : List AV} (hl : Sy.cellsAt cs off k = some l) (hlim : off + k ≤ lim) : ∃ vs, LR γ l vs ∧ vs.length = k ∧ w.rangeAt n off vs ∧ off + k ≤ N ∨ k = 0 ∧ l = [] := by
  rcases Nat.eq_zero_or_pos k with h0 | hpos
  · subst h0
    exact ⟨[], .inr ⟨rfl, by simpa [Sy.cellsAt] using hl.symm⟩⟩
  obtain ⟨p, hp, hbr⟩ := hr.live b _ hg
  rw [hb] at hp
  injection hp with hp
  subst hp
  obtain ⟨h0, cc, ty', fz, h1, h2, h3, h4⟩ := hbr
  obtain ⟨h5, h6⟩ := cellsAt_len hl
  have hex : ∀ i, i < k → ∃ x, cc[off + i]? = some x ∧ ∀ a, l[i]? = some a → VR γ a x := by
    intro i hi
    obtain ⟨a, ha⟩ : ∃ a, l[i]? = some a := ⟨l[i], List.getElem?_eq_getElem (by omega)⟩
    obtain ⟨x, h7, h8⟩ := h4 (off + i) a (by omega) (by rw [h6 i hi, ha])
    exact ⟨x, h7, fun a' ha' => by rw [ha] at ha'; injection ha' with ha'; subst ha'; exact h8⟩
  have hbd : off + k ≤ N := by
    obtain ⟨x, hx, _⟩ := hex (k - 1) (by omega)
    have := (Array.getElem?_eq_some_iff.1 hx).1
    simp only at h2
    omega
  refine ⟨(cc.toList.drop off).take k, .inl ⟨⟨by simp [h5, h2]; omega, fun i a x ha hx => ?_⟩, by simp [h2]; omega, fun j v hv => ?_, hbd⟩⟩
  · rw [List.getElem?_take] at hx
    split at hx
    · rename_i hi
      obtain ⟨y, h7, h8⟩ := hex i hi
      simp at hx
      rw [h7] at hx
      injection hx with hx
      subst hx
      exact h8 a ha
    · cases hx
  · rw [List.getElem?_take] at hv
    split at hv
    · rename_i hi
      simp at hv
      rw [cell_of_row w n (off + j) cc ty' fz h1]
      exact hv
    · cases hv
end

/-! looking -/
def aLoad (P : Program) (t : TypeId) (x : AV) (h : Hp) : Option AV := match x with
  | .ptr b off => match h.get b with
    | some (.cells _ _ _ _ lim cs) => match aggB P t with
      | some true => match szB P t with
        | none => none
        | some n => match Nat.ble (Nat.add off n) lim with
          | true => match cellsAt cs off n with
            | none => none
            | some l => some (.agg l)
          | false => none
      | some false => match Nat.blt off lim with
        | true => cs.get off
        | false => none
      | none => none
    | _ => none
  | _ => none
theorem aLoad_ok {P : Program} {B : Nat → Prop} {G : Nat} {γ : Gm} {h : Hp} {c : Nat} {w : World} {t : TypeId} {a : AV} {x : Value} {r : AV} (hr : HR B G γ h c w) (hx : VR γ a x) (hh : aLoad P t a h = some r) :
    ∃ v, VR γ r v ∧ (Instr.loadAt t x).run P w = .ok v w := by
  unfold aLoad at hh
  split at hh <;> first | (cases hh; done) | skip
  rename_i b off
  split at hh <;> first | (cases hh; done) | skip
  rename_i ty own clean ex lim cs hg
  cases hx with
  | ptr hb =>
    rename_i n N
    split at hh
    · rename_i ha
      split at hh
      · cases hh
      rename_i k hk
      split at hh <;> first | (cases hh; done) | skip
      rename_i hle
      have hle : off + k ≤ lim := Nat.le_of_ble_eq_true hle
      split at hh
      · cases hh
      rename_i l hl
      injection hh with hh
      subst hh
      obtain ⟨d, hd, hrow⟩ : ∃ d, P.underlying t = some d ∧ d.isRow = true := by
        unfold aggB at ha
        split at ha <;> first | (cases ha; done) | exact ⟨_, by assumption, rfl⟩
      have hsz : (P.info? t).map (·.size) = some k := by
        unfold szB at hk
        split at hk
        · rename_i i hi; injection hk with hk; rw [hi]; simp [hk]
        · cases hk
      obtain ⟨vs, ⟨h1, h2, h3, _⟩ | ⟨h1, h2⟩⟩ := hr.cellsAt hb hg hl hle
      · refine ⟨_, VR.aggL h1, run_loadAt_mid w n off t vs d h3 hd hrow (by rw [h2]; exact hsz)⟩
      · subst h1 h2
        refine ⟨_, VR.aggL LR.nil, run_loadAt_mid w n off t [] d (fun j v hv => by simp at hv) hd hrow (by simpa using hsz)⟩
    · rename_i ha
      split at hh <;> first | (cases hh; done) | skip
      rename_i hlt
      have hlt := blt_lt hlt
      obtain ⟨p, hp, hbr⟩ := hr.live b _ hg
      rw [hb] at hp
      injection hp with hp
      subst hp
      obtain ⟨h0, cc, ty', fz, h1, h2, h3, h4⟩ := hbr
      obtain ⟨v, h5, h6⟩ := h4 off r hlt hh
      have hc : w.cell? ⟨n, off, none⟩ = some v := by rw [cell_of_row w n off cc ty' fz h1]; exact h5
      refine ⟨v, h6, ?_⟩
      simp [Instr.loadAt, Instr.sureAddr, loadVar, aggB_ok ha, hc]
    · cases hh

/-! what an operation comes to -/
inductive R1 where
  | fail
  | val (a : AV) (h : Hp) (c : Nat)
  | pan (a : AV) (h : Hp) (c : Nat)

/-- the way on, whatever the blocks are -/
def KOk (B : Nat → Prop) (G : Nat) (γ : Gm) (w0 : World) (a : Act) (dst : Option Tmp) (K : Act → World → Prop) (Q : Exit → Act → World → Prop) : R1 → Prop
  | .fail => False
  | .val av h c => ∀ γ' v w', Gm.le γ γ' → VR γ' av v → HR B G γ' h c w' → Keep B w0 w' → K (a.put dst v) w'
  | .pan av h c => ∀ γ' v w', Gm.le γ γ' → VR γ' av v → HR B G γ' h c w' → Keep B w0 w' → Q (.panic [{ v, recovered := false }]) a w'

/-- one block more, and its address -/
def newBlk (ty : Nat) (l : List AV) (h : Hp) (c : Nat) : Hp := h.put c (some (.cells ty true true true l.length (putL .leaf 0 l)))
theorem newBlk_ok {B : Nat → Prop} {G : Nat} {γ : Gm} {h : Hp} {c : Nat} {w w0 : World} (hr : HR B G γ h c w) (hb : Keep B w0 w) {l : List AV} {vs : List Value} (hl : LR γ l vs) (ty : Nat) :
    Gm.le γ (γ.upd c (w.heap.size, vs.length)) ∧ (γ.upd c (w.heap.size, vs.length)) c = some (w.heap.size, vs.length) ∧
      HR B G (γ.upd c (w.heap.size, vs.length)) (newBlk ty l h c) (c + 1) (w.alloc (.cells vs.toArray ty)) ∧ Keep B w0 (w.alloc (.cells vs.toArray ty)) := by
  have hle := Gm.upd_le (hr.fresh c (Nat.le_refl _)) (w.heap.size, vs.length)
  refine ⟨hle, Gm.upd_same _ _ _, hr.alloc _ _ _ ⟨fun _ => hr.new, vs.toArray, _, (0, 0), heap_alloc_new w _, by simp, ⟨fun _ => ⟨rfl, rfl⟩, fun _ => ⟨by simp [hl.1], rfl⟩⟩, fun i a hlt hi => ?_⟩, hb.alloc hr.base _⟩
  rw [putL_get, if_pos ⟨by omega, by omega⟩] at hi
  obtain ⟨x, h1, h2⟩ := hl.get (by simpa using hi)
  exact ⟨x, by simpa using h1, h2.mono hle⟩

def aAlloc (P : Program) (e : TypeId) (h : Hp) (c : Nat) : R1 := match zeroB P e with
  | none => .fail
  | some z => .val (.ptr c 0) (newBlk e (z.cells.toList.map .v) h c) (Nat.succ c)
def aBox (e : TypeId) (x : AV) (h : Hp) (c : Nat) : R1 := .val (.ptr c 0) (newBlk e x.cells h c) (Nat.succ c)

section
variable {P : Program} {B : Nat → Prop} {G : Nat} {γ : Gm} {h : Hp} {c : Nat} {w w0 : World} {o : Oper} {a : Act} {K : Act → World → Prop} {Q : Exit → Act → World → Prop}

theorem wp_val {v : Value} {w' : World} (hrun : (execOp a.eval o).run P w = .ok (.value v) w') (hK : K (a.put o.dst v) w') : o.wp P a w K Q := by
  unfold Oper.wp
  rw [hrun]
  exact hK
theorem wp_skip' {w' : World} (hrun : (execOp a.eval o).run P w = .ok .skip w') (hK : K (a.put o.dst undef) w') : o.wp P a w K Q := by
  unfold Oper.wp
  rw [hrun]
  exact hK

theorem aAlloc_ok (hr : HR B G γ h c w) (hb : Keep B w0 w) {e : TypeId} (ho : o.op = .alloc e) (hk : KOk B G γ w0 a o.dst K Q (aAlloc P e h c)) : o.wp P a w K Q := by
  unfold aAlloc at hk
  split at hk
  · exact hk.elim
  rename_i z hz
  obtain ⟨h1, h2, h3, h4⟩ := newBlk_ok hr hb (LR.vs (γ := γ) z.cells.toList) e
  refine wp_val ?_ (hk _ _ _ h1 (.ptr h2) h3 h4)
  unfold execOp
  rw [ho]
  simp only [Sem.run_bind, Sem.run_pure, Instr.alloc, zeroB_ok hz, Result.andThen_ok, newVar, newRow, run_newObj, Array.toArray_toList]
  rfl
theorem aBox_ok (hr : HR B G γ h c w) (hb : Keep B w0 w) {e : TypeId} {x : Operand} {ax : AV} (ho : o.op = .box e x) (hx : VR γ ax (a.eval x)) (hk : KOk B G γ w0 a o.dst K Q (aBox e ax h c)) : o.wp P a w K Q := by
  unfold aBox at hk
  obtain ⟨h1, h2, h3, h4⟩ := newBlk_ok hr hb hx.cells e
  refine wp_val ?_ (hk _ _ _ h1 (.ptr h2) h3 h4)
  unfold execOp
  rw [ho]
  simp only [Sem.run_bind, Sem.run_pure, Instr.box, Result.andThen_ok, newVar, newRow, run_newObj, Array.toArray_toList]
  rfl

/-! a literal of a slice, a made slice -/
def zeros (z : List AV) (n : Nat) : List AV := match n with
  | 0 => []
  | n + 1 => z ++ zeros z n
theorem zeros_LR {zs : List AV} {vs : List Value} (hz : LR γ zs vs) : ∀ n, LR γ (zeros zs n) ((List.replicate n vs).flatten)
  | 0 => LR.nil
  | n + 1 => by rw [List.replicate_succ, List.flatten_cons]; exact hz.append (zeros_LR hz n)
theorem flatten_range (vs : Array Value) (n : Nat) (hn : 0 < vs.size) : ((Array.range (n * vs.size)).map (vs[· % vs.size]!)).toList = (List.replicate n vs.toList).flatten := by
  simp only [Array.toList_map, Array.toList_range]
  induction n with
  | zero => simp
  | succ n ih =>
    rw [List.replicate_succ', List.flatten_append, ← ih, Nat.add_mul, Nat.one_mul, List.range_add, List.map_append]
    congr 1
    simp only [List.map_map, List.flatten_cons, List.flatten_nil, List.append_nil]
    apply List.ext_getElem?
    intro i
    simp only [List.getElem?_map, Function.comp_apply]
    by_cases hi : i < vs.size
    · rw [List.getElem?_range hi]
      have : (n * vs.size + i) % vs.size = i := by rw [Nat.add_comm, Nat.add_mul_mod_self_right, Nat.mod_eq_of_lt hi]
      simp [this, hi]
    · rw [List.getElem?_eq_none (by simp; omega), List.getElem?_eq_none (by simp; omega)]
      rfl
def aBuildSlice (P : Program) (t : TypeId) (len : Nat) (ps : List (Nat × AV)) (h : Hp) (c : Nat) : R1 := match P.underlying t with
  | some (.slice e) => match szB P e, zeroB P e with
    | some n, some z => match Nat.beq z.cells.size n, Nat.ble (Nat.mul len n) 16777216, Nat.blt 0 n with
      | true, true, true => match afill (fun i => some (Nat.mul i n, n)) (zeros (z.cells.toList.map .v) len) ps with
        | none => .fail
        | some r => match Nat.beq r.length (Nat.mul len n), Nat.ble len 9223372036854775807 with
          | true, true => .val (.slg c 0 len n) (newBlk e r h c) (Nat.succ c)
          | _, _ => .fail
      | _, _, _ => .fail
    | _, _ => .fail
  | _ => .fail
theorem aBuildSlice_ok (hr : HR B G γ h c w) (hb : Keep B w0 w) {t : TypeId} {len : Nat} {parts : Array (Nat × Operand)} {ps : List (Nat × AV)} (ho : o.op = .buildSlice t len parts)
    (h1 : ps.map (·.1) = (parts.toList.map fun p => (p.1, a.eval p.2)).map (·.1)) (h2 : LR γ (ps.map (·.2)) ((parts.toList.map fun p => (p.1, a.eval p.2)).map (·.2)))
    (hk : KOk B G γ w0 a o.dst K Q (aBuildSlice P t len ps h c)) : o.wp P a w K Q := by
  unfold aBuildSlice at hk
  split at hk <;> first | exact hk.elim | skip
  rename_i e hu
  split at hk <;> first | exact hk.elim | skip
  rename_i n z hn hz
  split at hk <;> first | exact hk.elim | skip
  rename_i e1 e2 e3
  have e1 : z.cells.size = n := by simpa using e1
  have e2 : len * n ≤ 16777216 := Nat.le_of_ble_eq_true e2
  have e3 := blt_lt e3
  split at hk <;> first | exact hk.elim | skip
  rename_i r hf
  split at hk <;> first | exact hk.elim | skip
  rename_i e4 e5
  have e4 : r.length = len * n := by simpa using e4
  have e5 : len ≤ 9223372036854775807 := Nat.le_of_ble_eq_true e5
  have hzl : LR γ (zeros (z.cells.toList.map .v) len) ((Array.range (len * n)).map (z.cells[· % z.cells.size]!)).toList := by
    rw [← e1, flatten_range z.cells len (by omega)]
    exact zeros_LR (LR.vs _) len
  obtain ⟨cells, h3, h4⟩ := afill_ok _ hzl h1 h2 hf
  obtain ⟨k1, k2, k3, k4⟩ := newBlk_ok hr hb h4 e
  have hln : cells.toList.length = len * n := by rw [← h4.1, e4]
  refine wp_val ?_ (hk _ _ _ k1 (.slg k2 (Nat.le_refl _) (by simp only [maxLen]; omega) (fun _ => ⟨rfl, by rw [hln]; omega⟩)) k3 k4)
  unfold szB at hn
  split at hn <;> first | (cases hn; done) | skip
  rename_i ie hie
  injection hn with hn
  subst hn
  unfold zeroB at hz
  rw [hie] at hz
  unfold execOp
  rw [ho]
  have hpm : (parts.map fun (i, x) => (i, a.eval x)).toList = parts.toList.map fun p => (p.1, a.eval p.2) := by simp
  rcases Nat.eq_zero_or_pos len with hl0 | hlpos
  · subst hl0
    simp only [Nat.zero_mul] at h3 e4
    have hr0 : cells = #[] := Array.eq_empty_of_size_eq_zero (by simpa using hln)
    subst hr0
    have hp0 : (parts.map fun (i, x) => (i, a.eval x)).toList = [] := by
      rw [hpm]
      cases hpp : parts.toList with
      | nil => rfl
      | cons p l =>
        exfalso
        cases ps with
        | nil => rw [hpp] at h1; simp at h1
        | cons q l' =>
          simp only [afill, zeros, List.length_nil] at hf
          split at hf
          · rename_i _ e6
            have := Nat.le_of_ble_eq_true e6
            simp only [Nat.add_eq] at this
            omega
          · cases hf
    have hp0' : (parts.map fun (x : Nat × Operand) => match x with | (i, x) => (i, a.eval x)) = #[] := by
      apply Array.ext'
      simpa using hp0
    simp only [Sem.run_bind, Sem.run_pure, Instr.buildSlice, run_underlying hu, Result.andThen_ok, sizeOf, typeInfo, run_program, hie, hp0']
    have hra : Array.range 0 = #[] := rfl
    simp [Instr.fill, newRow, hie, hra]
  · have hpos : ¬ len * ie.size = 0 := by
      intro e0
      rcases Nat.mul_eq_zero.1 e0 with e | e <;> omega
    simp only [Sem.run_bind, run_buildSlice w t e len _ cells ie z hu hie hz (by omega) hpos (by rw [hpm]; exact h3), Result.andThen_ok, Array.toArray_toList]
    rfl

def aMakeSlice (P : Program) (t : TypeId) (l m : AV) (h : Hp) (c : Nat) : R1 := match P.underlying t with
  | some (.slice e) => match P.info? e with
    | some i => match i.zero, aNat l, aNat m with
      | some z, some (_, l), some (_, m) => match Nat.beq z.cells.size i.size, Nat.ble l m, Nat.ble (Nat.mul i.bytes m) 281474976710656, Nat.ble m 9223372036854775807, Nat.blt 0 i.size, Nat.ble (Nat.mul m i.size) 16777216 with
        | true, true, true, true, true, true => .val (.slg c 0 l i.size) (newBlk e (zeros (z.cells.toList.map .v) m) h c) (Nat.succ c)
        | _, _, _, _, _, _ => .fail
      | _, _, _ => .fail
    | _ => .fail
  | _ => .fail
theorem aMakeSlice_ok (hr : HR B G γ h c w) (hb : Keep B w0 w) {t : TypeId} {l m : Operand} {al am : AV} (ho : o.op = .makeSlice t l m) (hl : VR γ al (a.eval l)) (hm : VR γ am (a.eval m))
    (hk : KOk B G γ w0 a o.dst K Q (aMakeSlice P t al am h c)) : o.wp P a w K Q := by
  unfold aMakeSlice at hk
  split at hk <;> first | exact hk.elim | skip
  rename_i e hu
  split at hk <;> first | exact hk.elim | skip
  rename_i i hi
  split at hk <;> first | exact hk.elim | skip
  rename_i z k1 nl k2 nm hz hl' hm'
  split at hk <;> first | exact hk.elim | skip
  rename_i e1 e2 e3 e4 e5 e6
  have e1 : z.cells.size = i.size := by simpa using e1
  have e2 : nl ≤ nm := Nat.le_of_ble_eq_true e2
  have e3 : i.bytes * nm ≤ 281474976710656 := Nat.le_of_ble_eq_true e3
  have e4 : nm ≤ 9223372036854775807 := Nat.le_of_ble_eq_true e4
  have e5 := blt_lt e5
  have e6 : nm * i.size ≤ 16777216 := Nat.le_of_ble_eq_true e6
  have hzl : LR γ (zeros (z.cells.toList.map .v) nm) ((Array.range (nm * i.size)).map (z.cells[· % z.cells.size]!)).toList := by
    rw [← e1, flatten_range z.cells nm (by omega)]
    exact zeros_LR (LR.vs _) nm
  obtain ⟨q1, q2, q3, q4⟩ := newBlk_ok hr hb hzl e
  refine wp_val ?_ (hk _ _ _ q1 (.slg q2 e2 (by simp only [maxLen]; omega) (fun _ => ⟨rfl, by simp⟩)) q3 q4)
  unfold execOp
  rw [ho]
  have := run_makeSlice (P := P) (w := w) t e i z hu hi hz k1 k2 (nl : Int) (nm : Int) (by omega) (by omega) (by simpa using e6) (by rw [← Int.natCast_mul]; omega) (by omega)
  simp only [aNat_ok hl hl', aNat_ok hm hm', Sem.run_bind, this, Result.andThen_ok, Array.toArray_toList, Int.toNat_natCast]
  rfl

/-! a store -/
/-- cells are written into a block of the run's own -/
theorem HR.write (hr : HR B G γ h c w) (hb : Keep B w0 w) {b n N ty lim off : Nat} {ex : Bool} {cs : Tr AV} (hbp : γ b = some (n, N)) (hg : h.get b = some (.cells ty true true ex lim cs))
    {l : List AV} {vs : List Value} (hl : LR γ l vs) (h1 : l.all AV.one = true) (hlim : off + l.length ≤ lim) {l0 : List AV} (hc : Sy.cellsAt cs off l.length = some l0) :
    ∃ w', (storeCells ⟨n, off, none⟩ vs).run P w = .ok () w' ∧ HR B G γ (h.put b (some (.cells ty true true ex lim (putL cs off l)))) c w' ∧ Keep B w0 w' := by
  obtain ⟨p, hp, hbr⟩ := hr.live b _ hg
  rw [hbp] at hp
  injection hp with hp
  subst hp
  obtain ⟨h0, cc, ty', fz, k1, k2, k3, k4⟩ := hbr
  obtain ⟨rfl, rfl⟩ := k3.1 rfl
  simp only at k1 k2
  have hBn : ¬ B n := h0 rfl
  obtain ⟨h5, h6⟩ := cellsAt_len hc
  have hex : ∀ i, i < l.length → ∃ x, cc[off + i]? = some x := by
    intro i hi
    obtain ⟨a, ha⟩ : ∃ a, l0[i]? = some a := ⟨l0[i], List.getElem?_eq_getElem (by omega)⟩
    obtain ⟨x, h7, _⟩ := k4 (off + i) a (by omega) (by rw [h6 i hi, ha])
    exact ⟨x, h7⟩
  have hbd : l.length = 0 ∨ off + l.length ≤ cc.size := by
    rcases Nat.eq_zero_or_pos l.length with h0 | hpos
    · exact .inl h0
    · right
      obtain ⟨x, hx⟩ := hex (l.length - 1) (by omega)
      have := (Array.getElem?_eq_some_iff.1 hx).1
      omega
  rcases hbd with hz | hbd
  · have hl0 : l = [] := List.eq_nil_of_length_eq_zero hz
    subst hl0
    have hv0 : vs = [] := List.eq_nil_of_length_eq_zero hl.1.symm
    subst hv0
    refine ⟨w, rfl, hr.turn hg hbp (Nat.le_refl _) (fun _ _ _ => rfl) ⟨h0, cc, _, (0, 0), k1, k2, ⟨fun _ => ⟨rfl, rfl⟩, k3.2⟩, k4⟩, hb⟩
  have hst := run_storeCells_at (P := P) n off ty vs 0 cc w k1 (by rw [← hl.1]; omega) (hl.one h1)
  refine ⟨_, hst, hr.turn hg hbp (by simp) (fun k hk _ => setRow_other _ _ _ _ hk) ⟨h0, _, _, (0, 0), setRow_heap w n cc _ ty (0, 0) k1, ?_, ⟨fun _ => ⟨rfl, rfl⟩, fun he => ⟨?_, rfl⟩⟩, fun i a hlt hi => ?_⟩,
    ⟨hb.os, hb.tape, hb.output, by simpa using hb.size, fun k hk => by rw [setRow_other _ _ _ _ (show k ≠ n from fun e => hBn (e ▸ hk))]; exact hb.block k hk⟩⟩
  · simp only [List.size_toArray, List.length_append, List.length_take, List.length_drop, Array.length_toList]
    have := hl.1
    omega
  · simp only [List.size_toArray, List.length_append, List.length_take, List.length_drop, Array.length_toList]
    have := hl.1
    have := (k3.2 he).1
    omega
  · rw [putL_get] at hi
    have hlen := hl.1
    simp only [Nat.add_zero, List.getElem?_toArray]
    split at hi
    · rename_i hin
      obtain ⟨x, h7, h8⟩ := hl.get hi
      refine ⟨x, ?_, h8⟩
      rw [List.append_assoc, List.getElem?_append_right (by simp; omega), List.getElem?_append_left (by simp; omega)]
      simp only [List.length_take, Array.length_toList]
      rw [show i - min off cc.size = i - off by omega]
      exact h7
    · rename_i hout
      obtain ⟨x, h7, h8⟩ := k4 i a hlt hi
      refine ⟨x, ?_, h8⟩
      have hi2 := (Array.getElem?_eq_some_iff.1 h7).1
      rcases Nat.lt_or_ge i off with hlo | hhi
      · rw [List.append_assoc, List.getElem?_append_left (by simp; omega), List.getElem?_take, if_pos hlo]
        simpa using h7
      · rw [List.append_assoc, List.getElem?_append_right (by simp; omega), List.getElem?_append_right (by simp; omega), List.getElem?_drop]
        simp only [List.length_take, Array.length_toList]
        rw [show off + vs.length + (i - min off cc.size - vs.length) = i by omega]
        simpa using h7
def aStore (P : Program) (t : TypeId) (x y : AV) (h : Hp) (c : Nat) : R1 := match x with
  | .ptr b off => match h.get b with
    | some (.cells ty true true ex lim cs) => match szB P t with
      | none => .fail
      | some n => match Nat.beq y.cells.length n, y.cells.all AV.one, Nat.ble (Nat.add off y.cells.length) lim, cellsAt cs off y.cells.length with
        | true, true, true, some _ => .val (.tup []) (h.put b (some (.cells ty true true ex lim (putL cs off y.cells)))) c
        | _, _, _, _ => .fail
    | _ => .fail
  | _ => .fail
theorem aStore_ok (hr : HR B G γ h c w) (hb : Keep B w0 w) {t : TypeId} {x y : Operand} {ax ay : AV} (ho : o.op = .store t x y) (hx : VR γ ax (a.eval x)) (hy : VR γ ay (a.eval y))
    (hk : KOk B G γ w0 a o.dst K Q (aStore P t ax ay h c)) : o.wp P a w K Q := by
  unfold aStore at hk
  split at hk <;> first | exact hk.elim | skip
  rename_i b off
  split at hk <;> first | exact hk.elim | skip
  rename_i ty ex lim cs hg
  split at hk <;> first | exact hk.elim | skip
  rename_i sz hsz
  split at hk <;> first | exact hk.elim | skip
  rename_i l0 e1 e2 e3 hc
  have e1 : ay.cells.length = sz := by simpa using e1
  have e3 : off + ay.cells.length ≤ lim := Nat.le_of_ble_eq_true e3
  have hyc := hy.cells
  generalize hvx : a.eval x = vx at hx
  cases hx with
  | ptr hbp =>
    rename_i n N
    obtain ⟨w', hst, h2, h3⟩ := hr.write (P := P) hb hbp hg hyc e2 e3 hc
    refine wp_skip' ?_ (hk γ undef w' (Gm.le.refl _) (VR.tupL LR.nil) h2 h3)
    unfold execOp
    rw [ho]
    have hns : ¬ (a.eval y).cells.size ≠ sz := by
      have := hyc.1
      simp at this
      omega
    simp only [hvx, Sem.run_bind, Instr.storeAt, Instr.sureAddr, Sem.run_pure, Result.andThen_ok, storeVar, szB_ok hsz, if_neg hns, hst]

/-! append -/
def aSource (h : Hp) (esz : Nat) (x : AV) : Option (Nat × List AV) := match x with
  | .v (.slice none 0 _) => some (0, [])
  | .sl b off m _ => match h.get b with
    | some (.cells _ _ _ _ lim cs) => match Nat.ble (Nat.add off (Nat.mul m esz)) lim with
      | true => match cellsAt cs off (Nat.mul m esz) with
        | some l => some (m, l)
        | none => none
      | false => none
    | _ => none
  | .slg b off m _ => match h.get b with
    | some (.cells _ _ _ _ lim cs) => match Nat.ble (Nat.add off (Nat.mul m esz)) lim with
      | true => match cellsAt cs off (Nat.mul m esz) with
        | some l => some (m, l)
        | none => none
      | false => none
    | _ => none
  | _ => none
theorem aSource_ok (hr : HR B G γ h c w) {esz : Nat} {ax : AV} {x : Value} (hx : VR γ ax x) {m : Nat} {l : List AV} (hh : aSource h esz ax = some (m, l)) :
    ∃ A k vs, x = .slice A m k ∧ LR γ l vs ∧ vs.length = m * esz ∧ (0 < m * esz → ∃ ad, A = some ad ∧ ∀ j u, vs[j]? = some u → w.cell? (ad.add j) = some u) ∨ ∃ k', x = .slice none 0 k' ∧ m = 0 ∧ l = [] := by
  unfold aSource at hh
  split at hh <;> first | (cases hh; done) | skip
  · injection hh with hh
    injection hh with e1 e2
    subst e1 e2
    cases hx
    exact ⟨none, 0, [], .inr ⟨_, rfl, rfl, rfl⟩⟩
  · rename_i b off m' cap
    split at hh <;> first | (cases hh; done) | skip
    rename_i ty own clean ex lim cs hg
    split at hh <;> first | (cases hh; done) | skip
    rename_i hle
    have hle : off + m' * esz ≤ lim := Nat.le_of_ble_eq_true hle
    split at hh <;> first | (cases hh; done) | skip
    rename_i l' hc
    injection hh with hh
    injection hh with e1 e2
    subst e1 e2
    cases hx with
    | sl hbp hl =>
      rename_i n N
      obtain ⟨vs, ⟨h1, h2, h3, _⟩ | ⟨h1, h2⟩⟩ := hr.cellsAt hbp hg hc hle
      · exact ⟨_, _, vs, .inl ⟨rfl, h1, h2, fun _ => ⟨_, rfl, fun j u hj => by rw [Addr.add_mid]; exact h3 j u hj⟩⟩⟩
      · subst h2
        exact ⟨_, _, [], .inl ⟨rfl, LR.nil, by simp only [Nat.mul_eq] at h1; simp [h1], fun hp => by simp only [Nat.mul_eq] at h1; omega⟩⟩
  · rename_i b off m' esz'
    split at hh <;> first | (cases hh; done) | skip
    rename_i ty own clean ex lim cs hg
    split at hh <;> first | (cases hh; done) | skip
    rename_i hle
    have hle : off + m' * esz ≤ lim := Nat.le_of_ble_eq_true hle
    split at hh <;> first | (cases hh; done) | skip
    rename_i l' hc
    injection hh with hh
    injection hh with e1 e2
    subst e1 e2
    cases hx with
    | slg hbp hl hm ho =>
      rename_i n N o' cap
      obtain ⟨vs, ⟨h1, h2, h3, _⟩ | ⟨h1, h2⟩⟩ := hr.cellsAt hbp hg hc hle
      · refine ⟨_, _, vs, .inl ⟨rfl, h1, h2, fun hp => ?_⟩⟩
        have hm0 : 0 < m' := by
          rcases Nat.eq_zero_or_pos m' with e | e
          · subst e; simp at hp
          · exact e
        obtain ⟨rfl, _⟩ := ho (.inr hm0)
        exact ⟨_, rfl, fun j u hj => by rw [Addr.add_mid]; exact h3 j u hj⟩
      · subst h2
        exact ⟨_, _, [], .inl ⟨rfl, LR.nil, by simp only [Nat.mul_eq] at h1; simp [h1], fun hp => by simp only [Nat.mul_eq] at h1; omega⟩⟩

/-- the row that an append goes on from: its length, its cells' store, the block that is let go -/
def aRow (h : Hp) (e esz : Nat) (s : AV) : Option (Nat × Tr AV × Option Nat) := match s with
  | .v (.slice none 0 0) => some (0, .leaf, none)
  | .slg b 0 n z => match h.get b with
    | some (.cells ty true true ex lim cs) => match Nat.beq ty e, Nat.beq z esz, Nat.ble (Nat.mul n esz) lim, cellsAt cs 0 (Nat.mul n esz) with
      | true, true, true, some _ => some (n, cs, some b)
      | _, _, _, _ => none
    | _ => none
  | _ => none
def hpDrop (h : Hp) : Option Nat → Hp
  | none => h
  | some b => h.put b none
def aAppend (P : Program) (ts : List TypeId) (s x : AV) (h : Hp) (c : Nat) : R1 := match ts with
  | [t, t2] => match Nat.beq t t2, P.underlying t with
    | true, some (.slice e) => match P.info? e with
      | some i => match i.zero with
        | some z => match Nat.beq z.cells.size i.size, Nat.blt 0 i.size, Nat.blt 0 i.bytes with
          | true, true, true => match aRow h e i.size s, aSource h i.size x with
            | some (n, cs, ob), some (m, l) => match l.all AV.one, Nat.ble (Nat.mul (Nat.add n m) i.bytes) 140737488355328, m with
              | true, true, Nat.succ _ => .val (.slg c 0 (Nat.add n m) i.size) ((hpDrop h ob).put c (some (.cells e true true false (Nat.mul (Nat.add n m) i.size) (putL cs (Nat.mul n i.size) l)))) (Nat.succ c)
              | true, true, 0 => .val s h c
              | _, _, _ => .fail
            | _, _ => .fail
          | _, _, _ => .fail
        | none => .fail
      | none => .fail
    | _, _ => .fail
  | _ => .fail
theorem aRow_ok (hr : HR B G γ h c w) {e esz n : Nat} {s : AV} {v : Value} {cs : Tr AV} {ob : Option Nat} (hv : VR γ s v) (hh : aRow h e esz s = some (n, cs, ob)) :
    ∃ xs, w.ownsRow 0 e esz v n xs ∧ (∀ k, v.ownBlock = some k → ¬ B k) ∧ (∀ (i : Nat) (a : AV), i < n * esz → cs.get i = some a → ∃ x, xs[i]? = some x ∧ VR γ a x) ∧
      (∀ b blk p, (hpDrop h ob).get b = some blk → h.get b = some blk ∧ (γ b = some p → v.ownBlock ≠ some p.1)) := by
  unfold aRow at hh
  split at hh <;> first | (cases hh; done) | skip
  · injection hh with hh
    injection hh with e1 hh
    injection hh with e2 e3
    subst e1 e2 e3
    cases hv
    exact ⟨[], World.ownsRow_nil w 0 e esz, fun k hk => by simp [Value.ownBlock] at hk, fun i a hi => by simp at hi, fun b blk p hb => ⟨hb, fun _ => by simp [Value.ownBlock]⟩⟩
  · rename_i b n' z
    split at hh <;> first | (cases hh; done) | skip
    rename_i ty ex lim cs' hg
    split at hh <;> first | (cases hh; done) | skip
    rename_i l0 e1 e2 e3 hc
    have e1 : ty = e := by simpa using e1
    have e2 : z = esz := by simpa using e2
    have e3 : n' * esz ≤ lim := Nat.le_of_ble_eq_true e3
    injection hh with hh
    injection hh with q1 hh
    injection hh with q2 q3
    subst q1 q2 q3 e1 e2
    cases hv with
    | slg hbp hl hm ho =>
      rename_i n1 N o1 cap
      obtain ⟨rfl, ho2⟩ := ho (.inl rfl)
      obtain ⟨p, hp, hbr⟩ := hr.live b _ hg
      rw [hbp] at hp
      injection hp with hp
      subst hp
      obtain ⟨h0, cc, ty', fz, k1, k2, k3, k4⟩ := hbr
      obtain ⟨rfl, rfl⟩ := k3.1 rfl
      simp only at k1 k2
      have hB : ¬ B n1 := h0 rfl
      have hle : n' * z ≤ cap * z := Nat.mul_le_mul_right _ hl
      refine ⟨cc.toList.take (n' * z), ⟨by simp; omega, .inr ⟨n1, cap, cc, rfl, Nat.zero_le _, k1, hl, hm, by omega, rfl⟩⟩, fun k hk => by simp only [Value.ownBlock, Option.some.injEq] at hk; exact hk ▸ hB, fun i a hi ha => ?_, fun b' blk p hb' => ?_⟩
      · obtain ⟨x, h1, h2⟩ := k4 i a (by omega) ha
        exact ⟨x, by rw [List.getElem?_take, if_pos hi]; simpa using h1, h2⟩
      · simp only [hpDrop, Tr.get_put] at hb'
        split at hb'
        · cases hb'
        · rename_i hne
          refine ⟨hb', fun hp he => hne ?_⟩
          simp only [Value.ownBlock, Option.some.injEq] at he
          exact hr.inj _ _ _ _ _ _ hb' hg hp hbp he.symm
theorem run_app_zero {e sz base n : Nat} {t ty : TypeId} {i : TypeInfo} (ht : P.underlying t = some (.slice e)) (hi : P.info? e = some i) {v : Value} {xs : List Value} (hown : w.ownsRow base e sz v n xs) (A : Option Addr) (k : Nat) :
    (Builtin.append_ #[t, t] ty #[v, .slice A 0 k]).run P w = .ok v w := by
  have hld : ∀ a : Addr, (loadCells a 0).run P w = .ok #[] w := fun a => rfl
  rcases hown.2 with ⟨rfl, rfl⟩ | ⟨g, cap, cur, rfl, _, _, hnc, _⟩
  · cases A <;> simp [Builtin.append_, run_underlying ht, sizeOf, typeInfo, hi, Builtin.lenOf, Builtin.firstCells, hld]
  · cases A <;> simp [Builtin.append_, run_underlying ht, sizeOf, typeInfo, hi, Builtin.lenOf, Builtin.firstCells, hnc, storeCells, hld]
theorem aAppend_ok (hr : HR B G γ h c w) (hb : Keep B w0 w) {s x : Operand} {ts : Array TypeId} {as ax : AV} (ho : o.op = .call { callee := .builtin .append, args := #[s, x], argTypes := ts })
    (hs : VR γ as (a.eval s)) (hx : VR γ ax (a.eval x)) (hk : KOk B G γ w0 a o.dst K Q (aAppend P ts.toList as ax h c)) : o.wp P a w K Q := by
  unfold aAppend at hk
  split at hk <;> first | exact hk.elim | skip
  rename_i t t2 hts
  split at hk <;> first | exact hk.elim | skip
  rename_i e htt hu
  have htt : t = t2 := by simpa using htt
  subst htt
  have hts' : ts = #[t, t] := by apply Array.ext'; simpa using hts
  subst hts'
  split at hk <;> first | exact hk.elim | skip
  rename_i i hi
  split at hk <;> first | exact hk.elim | skip
  rename_i z hz
  split at hk <;> first | exact hk.elim | skip
  rename_i e1 e2 e3
  have e1 : z.cells.size = i.size := by simpa using e1
  have e2 := blt_lt e2
  have e3 := blt_lt e3
  split at hk <;> first | exact hk.elim | skip
  rename_i n cs ob m l hrow hsrc
  obtain ⟨xs, hown, hnB, hxs, hdrop⟩ := aRow_ok hr hs hrow
  have hop : ∀ {v' : Value} {w' : World}, (Builtin.append_ #[t, t] o.type #[a.eval s, a.eval x]).run P w = .ok v' w' → (execOp a.eval o).run P w = .ok (.value v') w' := by
    intro v' w' hrun
    unfold execOp
    simp only [ho, resolve, invoke, builtin, Sem.run_bind, Sem.run_pure, Result.andThen_ok, List.map_toArray, List.map_cons, List.map_nil, hrun]
  split at hk <;> first | exact hk.elim | skip
  · rename_i m' e4 e5
    have e5 : (n + (m' + 1)) * i.bytes ≤ 140737488355328 := Nat.le_of_ble_eq_true e5
    rw [show Nat.succ m' = m' + 1 from rfl] at hk
    obtain ⟨A, k, news, ⟨hxe, hl, hln, hA⟩ | ⟨_, _, hm0, _⟩⟩ := aSource_ok hr hx hsrc
    case inr => omega
    have hpos : 0 < (m' + 1) * i.size := Nat.mul_pos (by omega) e2
    obtain ⟨ad, rfl, hcell⟩ := hA hpos
    have h63 : n + (m' + 1) ≤ maxLen := by
      have : (n + (m' + 1)) * 1 ≤ (n + (m' + 1)) * i.bytes := Nat.mul_le_mul_left _ e3
      simp only [maxLen]; omega
    obtain ⟨v', w', hrun, hown', hgr, _, hsame⟩ := run_append_own_at (P := P) w 0 t o.type e i z i.size i.bytes hu hi hz rfl rfl e1 e2 (a.eval s) n xs hown ad (m' + 1) k news hln hcell (hl.one e4) h63 e5 (Nat.zero_le _)
    rw [hxe] at hop
    have hnn : 0 < n + (m' + 1) := by omega
    rcases hown'.2 with ⟨_, h0⟩ | ⟨g, cap, cur, rfl, hBg, hheap, hnc, hcm, hcs, htake⟩
    · omega
    have hown0 := hown.1
    have hBg' : ¬ B g := by
      have hsame' : some g = (a.eval s).ownBlock ∨ some g = some w.heap.size := hsame
      rcases hsame' with h5 | h5
      · exact hnB g h5.symm
      · injection h5 with h5; rw [h5]; exact hr.new
    have hd0 : HR B G γ (hpDrop h ob) c w := by
      cases ob with
      | none => exact hr
      | some b => exact hr.drop b
    have hle := Gm.upd_le (hr.fresh c (Nat.le_refl _)) (g, cap * i.size)
    refine wp_val (hop hrun) (hk (γ.upd c (g, cap * i.size)) _ w' hle (.slg (Gm.upd_same _ _ _) hnc hcm (fun _ => ⟨rfl, by simp⟩)) ?_ (hb.grown hgr hr.base hnB))
    refine hd0.add (g, cap * i.size) _ hgr.size (fun b blk p h1 h2 => ?_) ⟨fun _ => hBg', cur, _, (0, 0), hheap, hcs, ⟨fun _ => ⟨rfl, rfl⟩, fun e => by cases e⟩, fun j av hj hav => ?_⟩
    · obtain ⟨h3, h4⟩ := hdrop b blk p h1
      have hne := h4 h2
      obtain ⟨q, hq, hbr⟩ := hr.live b _ h3
      obtain rfl : q = p := by rw [hq] at h2; injection h2
      refine ⟨hgr.block _ hbr.lt (fun e => hne e.symm), fun e => ?_⟩
      have hsame' : some g = (a.eval s).ownBlock ∨ some g = some w.heap.size := hsame
      simp only at e
      subst e
      rcases hsame' with h5 | h5
      · exact hne h5.symm
      · injection h5 with h5
        have := hbr.lt
        omega
    · simp only [Nat.mul_eq, Nat.add_eq] at hj hav
      have hget : ∀ u, (xs ++ news)[j]? = some u → cur[j]? = some u := by
        intro u hu'
        rw [← htake] at hu'
        have hj2 := (List.getElem?_eq_some_iff.1 hu').1
        rw [List.length_take] at hj2
        rw [List.getElem?_take, if_pos (by omega)] at hu'
        simpa using hu'
      have hll := hl.1
      rw [putL_get] at hav
      split at hav
      · rename_i hin
        obtain ⟨u, h5, h6⟩ := hl.get hav
        exact ⟨u, hget u (by rw [List.getElem?_append_right (by omega), hown0]; exact h5), h6.mono hle⟩
      · rename_i hout
        have hjn : j < n * i.size := by
          have hj' : j < (n + (m' + 1)) * i.size := hj
          rw [Nat.add_mul] at hj'
          have hout' : ¬ (n * i.size ≤ j ∧ j < n * i.size + l.length) := hout
          rw [hll, hln] at hout'
          have : Nat.succ m' = m' + 1 := rfl
          rw [this] at hout'
          omega
        obtain ⟨u, h5, h6⟩ := hxs j av hjn hav
        exact ⟨u, hget u (by rw [List.getElem?_append_left (by omega)]; exact h5), h6.mono hle⟩
  · obtain ⟨A, k, news, ⟨hxe, _⟩ | ⟨k1, hxe, _⟩⟩ := aSource_ok hr hx hsrc
    · rw [hxe] at hop
      exact wp_val (hop (run_app_zero hu hi hown A k)) (hk γ _ w (Gm.le.refl _) hs hr hb)
    · rw [hxe] at hop
      exact wp_val (hop (run_app_zero hu hi hown none k1)) (hk γ _ w (Gm.le.refl _) hs hr hb)
end
end Go.Sy
