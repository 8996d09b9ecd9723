/- The reckoner's operations on maps; bytes turned into strings; methods. Any program; no conditions. -/
import Derived.Test.YtaehpjaleceppaaGreatDoorSy4s
import Derived.Laws.IdiomStrings
noncomputable section
namespace Go.Sy
open Go Go.RowKit
set_option linter.unusedVariables false
set_option linter.unusedSimpArgs false

/-! string(bytes) -/
def aBytesStr (P : Program) (src dst : TypeId) (x : AV) (h : Hp) : Option AV := match P.underlying src, P.underlying dst with
  | some (.slice e), some .string => match u8B P e, aSource h 1 x with
    | true, some (_, l) => match avBytes l, x with
      | _, .v _ => none
      | some bs, _ => some (.v (.string ⟨bs.toArray⟩))
      | none, _ => none
    | _, _ => none
  | _, _ => none
theorem aBytesStr_ok {P : Program} {B : Nat → Prop} {G : Nat} {γ : Gm} {h : Hp} {c : Nat} {w : World} {src dst : TypeId} {a : AV} {x : Value} {r : AV} (hr : HR B G γ h c w) (hx : VR γ a x) (hh : aBytesStr P src dst a h = some r) :
    ∃ v, VR γ r v ∧ (convert src dst x).run P w = .ok v w := by
  unfold aBytesStr at hh
  split at hh <;> first | (cases hh; done) | skip
  rename_i e hs hd
  split at hh <;> first | (cases hh; done) | skip
  rename_i m l he hsrc
  split at hh <;> first | (cases hh; done) | skip
  rename_i bs hbs hnv
  injection hh with hh
  subst hh
  have he := u8B_ok he
  have hsome : ∃ ad m' k, x = .slice (some ad) m' k := by
    cases hx with
    | v x => exact (hnv x rfl).elim
    | sl _ _ => exact ⟨_, _, _, rfl⟩
    | slg _ _ _ _ => exact ⟨_, _, _, rfl⟩
    | _ => simp [aSource] at hsrc
  obtain ⟨A, k, vs, ⟨hxe, hl, hln, hA⟩ | ⟨k', hxe, _⟩⟩ := aSource_ok hr hx hsrc
  · obtain ⟨ad, m', k2, hxe2⟩ := hsome
    rw [hxe] at hxe2
    injection hxe2 with e1 e2 e3
    subst e1 e2 e3
    have hvb := avBytes_ok hbs hl
    have hbl : bs.length = m := by
      have : vs.length = bs.length := by rw [hvb]; simp
      omega
    refine ⟨_, .v _, ?_⟩
    rw [hxe, ← hbl]
    refine run_convert_bytes_back w src dst e ad k bs hs he hd (fun j hj => ?_)
    obtain ⟨ad', e1, hc⟩ := hA (by omega)
    injection e1 with e1
    subst e1
    exact hc j _ (by rw [hvb]; simp [hj])
  · obtain ⟨ad, m', k2, hxe2⟩ := hsome
    rw [hxe] at hxe2
    cases hxe2

/-! maps with strings as keys -/
def aFind (s : ByteArray) : List (AV × AV × Nat) → Nat → Option (Option (Nat × AV))
  | [], _ => some none
  | (.v (.string y), a, _) :: l, i => match decide (s.data.toList = y.data.toList) with
    | true => some (some (i, a))
    | false => aFind s l (Nat.succ i)
  | _ :: _, _ => none
theorem bytes_beq {a b : ByteArray} : (a == b) = decide (a.data.toList = b.data.toList) := by
  have e : (a == b) = (a.data == b.data) := rfl
  rw [e, Bool.eq_iff_iff, beq_iff_eq, decide_eq_true_iff]
  exact ⟨fun h => by rw [h], fun h => Array.ext' h⟩
theorem aFind_ok {P : Program} {γ : Gm} {s : ByteArray} : ∀ {es : List (AV × AV × Nat)} {l : List MapEntry} {i : Nat} {r : Option (Nat × AV)}, MapR γ es l → aFind s es i = some r →
    (r = none ∧ Instr.findNow .string (.string s) l i = some none) ∨ (∃ j a v, r = some (j, a) ∧ Instr.findNow .string (.string s) l i = some (some (j, v)) ∧ VR γ a v ∧ i ≤ j ∧ (∃ e m, es[j - i]? = some e ∧ l[j - i]? = some m ∧ m.key = .string s ∧ e.1 = .v (.string s)))
  | [], l, i, r, hm, h => by
    have : l = [] := List.eq_nil_of_length_eq_zero hm.1.symm
    subst this
    simp [aFind] at h
    subst h
    exact .inl ⟨rfl, rfl⟩
  | (k, a, n) :: es, l, i, r, hm, h => by
    cases l with
    | nil => have := hm.1; simp at this
    | cons m l =>
      obtain ⟨h1, h2, h3⟩ := hm.2 0 (k, a, n) m rfl rfl
      have hm' : MapR γ es l := ⟨by have := hm.1; simpa using this, fun i e m h1 h2 => hm.2 (i + 1) e m (by simpa using h1) (by simpa using h2)⟩
      unfold aFind at h
      split at h <;> first | (cases h; done) | skip
      · rename_i heq; cases heq
      · rename_i heq
        injection heq with q1 q2
        injection q1 with q1 q3
        injection q3 with q3 q4
        subst q1 q2 q3 q4
        rename_i i l9 n9 y
        have hk : m.key = .string y := by
          cases hmk : m.key with
          | string z => rw [hmk] at h1; cases h1; rfl
          | _ => rw [hmk] at h1; cases h1
        split at h
        · rename_i hd
          injection h with h
          subst h
          have hy : y = s := by
            have := of_decide_eq_true hd
            apply ByteArray.ext
            exact Array.ext' this.symm
          subst hy
          refine .inr ⟨i, _, m.val, rfl, ?_, h2, Nat.le_refl _, ?_⟩
          · have hyy : (y == y) = true := (bytes_beq (a := y)).trans (by simp)
            simp only [Instr.findNow, hk, Instr.sameNow, hyy]
          · rw [Nat.sub_self]; exact ⟨_, _, rfl, rfl, hk, rfl⟩
        · rename_i hd
          have hne : (s == _) = false := (bytes_beq (a := s)).trans hd
          have hstep : Instr.findNow .string (.string s) (m :: l) i = Instr.findNow .string (.string s) l (i + 1) := by
            simp only [Instr.findNow, hk, Instr.sameNow, hne]
          rcases aFind_ok (P := P) hm' h with ⟨e1, e2⟩ | ⟨j, a', v, e1, e2, e3, e4, e, m', g1, g2, g3, g4⟩
          · exact .inl ⟨e1, by rw [hstep]; exact e2⟩
          · refine .inr ⟨j, a', v, e1, by rw [hstep]; exact e2, e3, by omega, e, m', ?_, ?_, g3, g4⟩
            · rw [show j - i = (j - (i + 1)) + 1 by omega]; simpa using g1
            · rw [show j - i = (j - (i + 1)) + 1 by omega]; simpa using g2
def aMapGet (h : Hp) (x : AV) : Option (List (AV × AV × Nat)) := match x with
  | .v (.map none) => some []
  | .map b => match h.get b with
    | some (.map es _) => some es
    | _ => none
  | _ => none
def aLookup (P : Program) (t : TypeId) (x k : AV) (ok : Bool) (h : Hp) : Option AV := match P.underlying t with
  | some (.map kt et) => match P.underlying kt, k with
    | some .string, .v (.string s) => match aMapGet h x with
      | none => none
      | some es => match aFind s es 0 with
        | none => none
        | some (some (_, a)) => match ok with
          | true => some (.tup [a, .v (.bool true)])
          | false => some a
        | some none => match zeroB P et with
          | none => none
          | some z => match ok with
            | true => some (.tup [norm0 z, .v (.bool false)])
            | false => some (norm0 z)
    | _, _ => none
  | _ => none
theorem checkKey_str {P : Program} {kt : TypeId} (hu : P.underlying kt = some .string) (em : Bool) (s : ByteArray) (w : World) : (Instr.checkKey em (9999 + 1) kt (.string s)).run P w = .ok () w := by
  unfold Instr.checkKey
  rw [Sem.run_bind, run_underlying hu w, Result.andThen_ok]
  rfl
theorem findKey_now {P : Program} {kt : TypeId} (hu : P.underlying kt = some .string) {s : ByteArray} {l : List MapEntry} {r : Option (Nat × Value)} (h : Instr.findNow .string (.string s) l 0 = some r) (w : World) : (Instr.findKey kt (.string s) l).run P w = .ok r w := by
  unfold Instr.findKey
  rw [Sem.run_bind, run_underlying hu w, Result.andThen_ok, h]
  rfl
theorem run_getObj_map {P : Program} {w : World} {n : Nat} {l : Array MapEntry} {k : Nat} (h : w.heap[n]? = some (.map l k)) : (getObj n).run P w = .ok (.map l k) w := by
  simp only [getObj, Sem.run, h]
theorem aLookup_ok {P : Program} {B : Nat → Prop} {G : Nat} {γ : Gm} {h : Hp} {c : Nat} {w : World} {t : TypeId} {a ak : AV} {x k : Value} {ok : Bool} {r : AV} (hr : HR B G γ h c w) (hx : VR γ a x) (hk : VR γ ak k) (hh : aLookup P t a ak ok h = some r) :
    ∃ v, VR γ r v ∧ (Instr.lookup t x k ok).run P w = .ok v w := by
  unfold aLookup at hh
  split at hh <;> first | (cases hh; done) | skip
  rename_i kt et hu
  split at hh <;> first | (cases hh; done) | skip
  rename_i s hks
  cases hk
  split at hh <;> first | (cases hh; done) | skip
  rename_i es hes
  obtain ⟨l, hml, hrun⟩ : ∃ l : List MapEntry, MapR γ es l ∧ ∀ (K : Array MapEntry → Sem Value), (do
      let es ← match x with
        | .map none => pure #[]
        | .map (some r) => do
          let .map es _ ← getObj r | stuck "Lookup: map expected"
          pure es
        | _ => stuck "Lookup: map expected"
      K es : Sem Value).run P w = (K l.toArray).run P w := by
    unfold aMapGet at hes
    split at hes <;> first | (cases hes; done) | skip
    · injection hes with hes
      subst hes
      cases hx
      exact ⟨[], ⟨rfl, fun i e m h => by simp at h⟩, fun K => rfl⟩
    · split at hes <;> first | (cases hes; done) | skip
      rename_i b _ es' clock hg
      injection hes with hes
      subst hes
      cases hx with
      | map hb =>
        obtain ⟨p, hp, hbr⟩ := hr.live b _ hg
        rw [hb] at hp
        injection hp with hp
        subst hp
        obtain ⟨h0, l, h1, h2⟩ := hbr
        refine ⟨l.toList, h2, fun K => ?_⟩
        simp only [Sem.run_bind, run_getObj_map h1, Result.andThen_ok, Sem.run_pure, Array.toArray_toList]
  have hlk : (Instr.lookup t x (.string s) ok).run P w = (do
      Instr.checkKey l.toArray.isEmpty (9999 + 1) kt (.string s)
      let (v, k) ← match ← Instr.findKey kt (.string s) l with
        | some (_, v) => pure (v, true)
        | none => pure (← zeroValue et, false)
      pure (if ok then .tuple #[v, .bool k] else v) : Sem Value).run P w := by
    unfold Instr.lookup
    rw [Sem.run_bind, run_underlying hu w, Result.andThen_ok]
    exact hrun _
  rw [hlk]
  split at hh <;> first | (cases hh; done) | skip
  · rename_i j av hf
    rcases aFind_ok (P := P) hml hf with ⟨e, _⟩ | ⟨j', a', v, e1, e2, e3, _⟩
    · cases e
    · injection e1 with e1
      injection e1 with e1 e4
      subst e1 e4
      simp only [Sem.run_bind, checkKey_str hks, Result.andThen_ok, findKey_now hks e2, Sem.run_pure]
      split at hh
      · injection hh with hh
        subst hh
        exact ⟨_, .tup2 e3 (.v _), rfl⟩
      · injection hh with hh
        subst hh
        exact ⟨_, e3, rfl⟩
  · rename_i hf
    rcases aFind_ok (P := P) hml hf with ⟨_, e2⟩ | ⟨j', a', v, e1, _⟩
    · split at hh
      · cases hh
      rename_i z hz
      simp only [Sem.run_bind, checkKey_str hks, Result.andThen_ok, findKey_now hks e2, Sem.run_pure, zeroB_ok hz]
      split at hh
      · injection hh with hh
        subst hh
        exact ⟨_, .tup2 (norm0_VR z) (.v _), rfl⟩
      · injection hh with hh
        subst hh
        exact ⟨_, norm0_VR z, rfl⟩
    · cases e1

section
variable {P : Program} {B : Nat → Prop} {G : Nat} {γ : Gm} {h : Hp} {c : Nat} {w w0 : World} {o : Oper} {a : Act} {K : Act → World → Prop} {Q : Exit → Act → World → Prop}
def aMakeMap (h : Hp) (c : Nat) : R1 := .val (.map c) (h.put c (some (.map [] 0))) (Nat.succ c)
theorem aMakeMap_ok (hr : HR B G γ h c w) (hb : Keep B w0 w) {t : TypeId} (ho : o.op = .makeMap t none) (hk : KOk B G γ w0 a o.dst K Q (aMakeMap h c)) : o.wp P a w K Q := by
  have hle := Gm.upd_le (hr.fresh c (Nat.le_refl _)) (w.heap.size, 0)
  refine wp_val (v := .map (some w.heap.size)) (w' := w.alloc (.map #[] 0)) ?_ (hk _ _ _ hle (.map (Gm.upd_same _ _ _)) (hr.alloc _ 0 _ ⟨hr.new, #[], heap_alloc_new w _, rfl, fun i e m h => by simp at h⟩) (hb.alloc hr.base _))
  unfold execOp
  rw [ho]
  rfl
def aSetAt (l : List (AV × AV × Nat)) (i : Nat) (v : AV) : List (AV × AV × Nat) := match l, i with
  | [], _ => []
  | e :: r, 0 => (e.1, v, e.2.2) :: r
  | e :: r, n + 1 => e :: aSetAt r n v
def aMapUpdate (P : Program) (t : TypeId) (m k v : AV) (h : Hp) (c : Nat) : R1 := match P.underlying t with
  | some (.map kt _) => match P.underlying kt, k, m with
    | some .string, .v (.string s), .map b => match h.get b with
      | some (.map es clock) => match aFind s es 0 with
        | some none => .val (.tup []) (h.put b (some (.map (es ++ [(.v (.string s), v, clock)]) (Nat.succ clock)))) c
        | some (some (i, _)) => .val (.tup []) (h.put b (some (.map (aSetAt es i v) clock))) c
        | none => .fail
      | _ => .fail
    | _, _, _ => .fail
  | _ => .fail
theorem aSetAt_ok {γ : Gm} {s : ByteArray} {v : AV} {x : Value} (hv : VR γ v x) : ∀ {es : List (AV × AV × Nat)} {l : List MapEntry} {i : Nat}, MapR γ es l → (∃ m, l[i]? = some m ∧ m.key = .string s) →
    MapR γ (aSetAt es i v) (l.modify i fun e => { e with key := .string s, val := x })
  | [], l, i, hm, hex => by
    have : l = [] := List.eq_nil_of_length_eq_zero hm.1.symm
    subst this
    obtain ⟨m, h, _⟩ := hex
    simp at h
  | e :: es, [], i, hm, hex => by have := hm.1; simp at this
  | e :: es, m :: l, 0, hm, hex => by
    obtain ⟨m', h1, h2⟩ := hex
    simp at h1
    subst h1
    obtain ⟨g1, g2, g3⟩ := hm.2 0 e m rfl rfl
    refine ⟨by have := hm.1; simpa [aSetAt] using this, fun i e' m'' h3 h4 => ?_⟩
    cases i with
    | zero =>
      simp [aSetAt] at h3 h4
      subst h3 h4
      exact ⟨by simpa [h2] using g1, hv, g3⟩
    | succ i => exact hm.2 (i + 1) e' m'' (by simpa [aSetAt] using h3) (by simpa using h4)
  | e :: es, m :: l, i + 1, hm, hex => by
    have hm' : MapR γ es l := ⟨by have := hm.1; simpa using this, fun i e m h1 h2 => hm.2 (i + 1) e m (by simpa using h1) (by simpa using h2)⟩
    have ih := aSetAt_ok (s := s) hv hm' (i := i) (by simpa using hex)
    refine ⟨by have := ih.1; simpa [aSetAt] using this, fun j e' m'' h3 h4 => ?_⟩
    cases j with
    | zero => exact hm.2 0 e' m'' (by simpa [aSetAt] using h3) (by simpa using h4)
    | succ j => exact ih.2 j e' m'' (by simpa [aSetAt] using h3) (by simpa using h4)
theorem run_setObj_map {n : Nat} {l l' : Array MapEntry} {k k' : Nat} (h : w.heap[n]? = some (.map l k)) : (setObj n (.map l' k')).run P w = .ok () { w with heap := w.heap.setIfInBounds n (.map l' k') } := by
  simp only [setObj, Sem.run, h]
theorem aMapUpdate_ok (hr : HR B G γ h c w) (hb : Keep B w0 w) {t : TypeId} {m k v : Operand} {am ak av : AV} (ho : ∀ w, (execOp a.eval o).run P w = ((Instr.mapUpdate t (a.eval m) (a.eval k) (a.eval v)).run P w).andThen fun _ w' => .ok .skip w')
    (hm : VR γ am (a.eval m)) (hkk : VR γ ak (a.eval k)) (hv : VR γ av (a.eval v)) (hk : KOk B G γ w0 a o.dst K Q (aMapUpdate P t am ak av h c)) : o.wp P a w K Q := by
  unfold aMapUpdate at hk
  split at hk <;> first | exact hk.elim | skip
  rename_i kt et hu
  split at hk <;> first | exact hk.elim | skip
  rename_i s b hks
  split at hk <;> first | exact hk.elim | skip
  rename_i es clock hg
  generalize hvk : a.eval k = vk at hkk ho
  cases hkk
  generalize hvm : a.eval m = vm at hm ho
  cases hm with
  | map hbp =>
    rename_i n N
    obtain ⟨p, hp, hbr⟩ := hr.live b _ hg
    rw [hbp] at hp
    injection hp with hp
    subst hp
    obtain ⟨h0, l, h1, h2⟩ := hbr
    simp only at h0 h1
    have hturn : ∀ (l' : Array MapEntry) (k' : Nat), (∀ k, k ≠ n → k < w.heap.size → (w.heap.setIfInBounds n (.map l' k'))[k]? = w.heap[k]?) := fun l' k' k hne _ => by
      rw [Array.getElem?_setIfInBounds_ne (fun e => hne e.symm)]
    have hlt : n < w.heap.size := (Array.getElem?_eq_some_iff.1 h1).1
    have hbelow : ∀ (l' : Array MapEntry) (k' : Nat), Keep B w0 { w with heap := w.heap.setIfInBounds n (.map l' k') } := fun l' k' =>
      ⟨hb.os, hb.tape, hb.output, by simpa using hb.size, fun k hk' => by
        show (w.heap.setIfInBounds n (.map l' k'))[k]? = _
        rw [Array.getElem?_setIfInBounds_ne (show n ≠ k from fun e => h0 (e ▸ hk'))]
        exact hb.block k hk'⟩
    split at hk <;> first | exact hk.elim | skip
    · rename_i hf
      rcases aFind_ok (P := P) h2 hf with ⟨_, e2⟩ | ⟨j', a', v', e1, _⟩
      case inr => cases e1
      refine wp_skip' (w' := { w with heap := w.heap.setIfInBounds n (.map (l.push { key := .string s, val := a.eval v, born := clock }) (clock + 1)) }) ?_ (hk γ undef _ (Gm.le.refl _) (VR.tupL LR.nil) ?_ (hbelow _ _))
      · rw [ho]
        unfold Instr.mapUpdate
        have e2' := findKey_now (P := P) hks e2 w
        have hck := checkKey_str (P := P) hks false s w
        simp only [Sem.run_bind, run_underlying hu, Result.andThen_ok, run_getObj_map h1, e2', run_setObj_map h1]
        erw [hck]
        simp only [Result.andThen_ok, e2', run_setObj_map h1]
      · refine hr.turn hg hbp (by simp) (hturn _ _) ⟨h0, l.push { key := .string s, val := a.eval v, born := clock }, by show (w.heap.setIfInBounds n _)[n]? = _; rw [Array.getElem?_setIfInBounds_self_of_lt hlt], ?_⟩
        refine ⟨by simp [h2.1], fun i e m' g1 g2 => ?_⟩
        rw [Array.toList_push] at g2
        have hll := h2.1
        by_cases hi : i < es.length
        · rw [List.getElem?_append_left hi] at g1
          rw [List.getElem?_append_left (by omega)] at g2
          exact h2.2 i e m' g1 g2
        · rw [List.getElem?_append_right (by omega)] at g1
          rw [List.getElem?_append_right (by omega), ← hll] at g2
          generalize i - es.length = j at g1 g2
          cases j with
          | zero =>
            simp at g1 g2
            subst g1 g2
            exact ⟨.v _, hv, rfl⟩
          | succ j => simp at g1
    · rename_i i av' hf
      rcases aFind_ok (P := P) h2 hf with ⟨e1, _⟩ | ⟨j', a', v', e1, e2, e3, e4, e, m', g1, g2, g3, g4⟩
      · cases e1
      injection e1 with e1
      injection e1 with e1 e5
      subst e1 e5
      rw [Nat.sub_zero] at g1 g2
      have hli : l[i]? = some m' := by simpa using g2
      refine wp_skip' (w' := { w with heap := w.heap.setIfInBounds n (.map (l.modify i fun e => { e with key := .string s, val := a.eval v }) clock) }) ?_ (hk γ undef _ (Gm.le.refl _) (VR.tupL LR.nil) ?_ (hbelow _ _))
      · rw [ho]
        unfold Instr.mapUpdate
        have e2' := findKey_now (P := P) hks e2 w
        have hck := checkKey_str (P := P) hks false s w
        have hkeep : (Instr.keyThatStays (.string s) (.string s)).run P w = .ok (.string s) w := by
          unfold Instr.keyThatStays
          have : Instr.sameBits 10000 (.string s) (.string s) = true := by
            have e : Instr.sameBits 10000 (.string s) (.string s) = (s == s) := rfl
            rw [e, bytes_beq]
            simp
          rw [if_pos this]
          rfl
        simp only [Sem.run_bind, run_underlying hu, Result.andThen_ok, run_getObj_map h1, e2', hli, Option.map_some, Option.getD_some, g3, hkeep, run_setObj_map h1]
        erw [hck]
        simp only [Result.andThen_ok, e2', hli, Option.map_some, Option.getD_some, g3, Sem.run_bind, hkeep, run_setObj_map h1]
      · refine hr.turn hg hbp (by simp) (hturn _ _) ⟨h0, l.modify i fun e => { e with key := .string s, val := a.eval v }, by show (w.heap.setIfInBounds n _)[n]? = _; rw [Array.getElem?_setIfInBounds_self_of_lt hlt], ?_⟩
        rw [Array.toList_modify]
        exact aSetAt_ok hv h2 ⟨m', g2, g3⟩
end
end Go.Sy
