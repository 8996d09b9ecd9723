/- The reckoner's operations that look at no memory, the rest, and all of them together. Any program; no conditions. -/
import Derived.Test.YtaehpjaleceppaaGreatDoorSy2
import Derived.Laws.Tables
noncomputable section
namespace Go.Sy
open Go
set_option linter.unusedVariables false
set_option linter.unusedSimpArgs false

def aTypeAssert (P : Program) (x : AV) (asd : TypeId) (ok : Bool) : Option AV := match x with
  | .ifc t a => match P.underlying asd with
    | some (.interface want) => match P.info? t with
      | some i => match Instr.missingMethod want i.methods with
        | none => match ok with
          | true => some (.tup [.ifc t a, .v (.bool true)])
          | false => some (.ifc t a)
        | some _ => match ok with
          | true => match zeroB P asd with
            | some z => some (.tup [norm0 z, .v (.bool false)])
            | none => none
          | false => none
      | none => none
    | some _ => match Nat.beq t asd with
      | true => match ok with
        | true => some (.tup [a, .v (.bool true)])
        | false => some a
      | false => match ok with
        | true => match zeroB P asd with
          | some z => some (.tup [norm0 z, .v (.bool false)])
          | none => none
        | false => none
    | none => none
  | _ => none
theorem VR.tup2 {γ : Gm} {a b : AV} {x y : Value} (h : VR γ a x) (k : VR γ b y) : VR γ (.tup [a, b]) (.tuple #[x, y]) := VR.tupL (LR.cons h (LR.cons k LR.nil))
theorem aTypeAssert_ok {P : Program} {γ : Gm} {a : AV} {x : Value} {xT asd : TypeId} {ok : Bool} {r : AV} (hx : VR γ a x) (h : aTypeAssert P a asd ok = some r) :
    ∃ v, VR γ r v ∧ ∀ w, (Instr.typeAssert x xT asd ok).run P w = .ok v w := by
  unfold aTypeAssert at h
  split at h <;> first | (cases h; done) | skip
  rename_i t a
  cases hx with
  | ifc hx =>
    rename_i x
    split at h
    · rename_i want hu
      split at h <;> first | (cases h; done) | skip
      rename_i i hi
      split at h
      · rename_i hm
        split at h
        · injection h with h
          subst h
          exact ⟨_, .tup2 (.ifc hx) (.v _), fun w => by simp [Instr.typeAssert, run_underlying hu, typeInfo, hi, hm]⟩
        · injection h with h
          subst h
          exact ⟨_, .ifc hx, fun w => by simp [Instr.typeAssert, run_underlying hu, typeInfo, hi, hm]⟩
      · rename_i nm hm
        split at h <;> first | (cases h; done) | skip
        split at h <;> first | (cases h; done) | skip
        rename_i z hz
        injection h with h
        subst h
        exact ⟨_, .tup2 (norm0_VR z) (.v _), fun w => by simp [Instr.typeAssert, run_underlying hu, typeInfo, hi, hm, zeroB_ok hz]⟩
    · rename_i d hni hu
      have hrun : ∀ w, (Instr.typeAssert (.iface t x) xT asd ok).run P w = (if t = asd then (pure (if ok then .tuple #[x, .bool true] else x) : Sem Value) else (if ok then (do pure (.tuple #[← zeroValue asd, .bool false])) else runtimePanic (.typeAssertion (some xT) (some t) asd ""))).run P w := by
        intro w
        unfold Instr.typeAssert
        rw [Sem.run_bind, run_underlying hu w, Result.andThen_ok]
        cases d <;> first | rfl | exact (hni _ rfl).elim
      split at h
      · rename_i he
        have he : t = asd := by simpa using he
        split at h
        · injection h with h
          subst h
          exact ⟨_, .tup2 hx (.v _), fun w => by rw [hrun, if_pos he]; rfl⟩
        · injection h with h
          subst h
          exact ⟨_, hx, fun w => by rw [hrun, if_pos he]; rfl⟩
      · rename_i he
        have he : t ≠ asd := fun e => by rw [e] at he; simp at he
        split at h <;> first | (cases h; done) | skip
        split at h <;> first | (cases h; done) | skip
        rename_i z hz
        injection h with h
        subst h
        exact ⟨_, .tup2 (norm0_VR z) (.v _), fun w => by rw [hrun, if_neg he]; simp [zeroB_ok hz]⟩
    · cases h

def aMakeInterface (P : Program) (t : TypeId) (x : AV) : Option AV := match P.underlying t with
  | some (.interface _) => none
  | some _ => some (.ifc t x)
  | none => none
theorem aMakeInterface_ok {P : Program} {γ : Gm} {a : AV} {x : Value} {t : TypeId} {r : AV} (hx : VR γ a x) (h : aMakeInterface P t a = some r) :
    ∃ v, VR γ r v ∧ ∀ w, (Instr.makeInterface t x).run P w = .ok v w := by
  unfold aMakeInterface at h
  split at h <;> first | (cases h; done) | skip
  rename_i d hni hu
  injection h with h
  subst h
  refine ⟨_, .ifc hx, fun w => ?_⟩
  unfold Instr.makeInterface
  rw [Sem.run_bind, run_underlying hu w, Result.andThen_ok]
  cases d <;> first | rfl | exact (hni _ rfl).elim

/-! a struct or an array of parts -/
def splice {α : Type} (cs : List α) (off : Nat) (l : List α) : List α := cs.take off ++ (l ++ cs.drop (off + l.length))
theorem foldl_splice : ∀ (l : List Value) (off k : Nat) (cells : Array Value), off + k + l.length ≤ cells.size →
    ((l.zipIdx k).foldl (fun cs p => cs.setIfInBounds (off + p.2) p.1) cells).toList = splice cells.toList (off + k) l
  | [], off, k, cells, _ => by simp [splice]
  | v :: l, off, k, cells, h => by
    have hl : off + k + 1 + l.length ≤ cells.size := by simp at h; omega
    rw [List.zipIdx_cons, List.foldl_cons, foldl_splice l off (k + 1) _ (by simp; omega)]
    have := list_seg_step cells.toList (off + k) v l (by simp; omega)
    simp only [splice, Array.toList_setIfInBounds, List.append_assoc, List.length_cons] at this ⊢
    rw [show off + (k + 1) = off + k + 1 by omega, this]
theorem fill_step (l : List Value) (off : Nat) (cells : Array Value) (h : off + l.length ≤ cells.size) (v : Value) (hv : v.cells.toList = l) :
    (v.cells.zipIdx.foldl (fun cs (x : Value × Nat) => match x with | (c, j) => cs.setIfInBounds (off + j) c) cells).toList = splice cells.toList off l := by
  have := foldl_splice l off 0 cells (by omega)
  subst hv
  rw [Nat.add_zero] at this
  rw [← this]
  congr 1
  rw [← Array.foldl_toList]
  simp [Array.toList_zipIdx]
def afill (place : Nat → Option (Nat × Nat)) (cs : List AV) : List (Nat × AV) → Option (List AV)
  | [] => some cs
  | p :: rest => match place p.1 with
    | none => none
    | some q => match Nat.beq p.2.cells.length q.2, Nat.ble (Nat.add q.1 q.2) cs.length with
      | true, true => afill place (splice cs q.1 p.2.cells) rest
      | _, _ => none
theorem LR.splice {γ : Gm} {as bs : List AV} {vs ws : List Value} (h : LR γ as vs) (k : LR γ bs ws) (off : Nat) : LR γ (splice as off bs) (splice vs off ws) := by
  unfold Sy.splice
  rw [k.1]
  exact (h.take off).append (k.append (h.drop _))
theorem afill_ok {γ : Gm} (place : Nat → Option (Nat × Nat)) : ∀ {ps : List (Nat × AV)} {cs : List AV} {vs : Array Value} {qs : List (Nat × Value)} {r : List AV}, LR γ cs vs.toList →
    (ps.map (·.1) = qs.map (·.1)) → LR γ (ps.map (·.2)) (qs.map (·.2)) → afill place cs ps = some r → ∃ cells, Instr.fill place vs qs = some cells ∧ LR γ r cells.toList
  | [], cs, vs, qs, r, hc, h1, h2, h => by
    cases qs with
    | nil => simp [afill] at h; subst h; exact ⟨vs, rfl, hc⟩
    | cons q qs => simp at h1
  | p :: ps, cs, vs, qs, r, hc, h1, h2, h => by
    cases qs with
    | nil => simp at h1
    | cons q qs =>
      obtain ⟨i, a⟩ := p
      obtain ⟨j, x⟩ := q
      simp only [List.map_cons, List.cons.injEq] at h1
      obtain ⟨rfl, h1⟩ := h1
      have hax : VR γ a x := h2.2 0 a x rfl rfl
      have h2' : LR γ (ps.map (·.2)) (qs.map (·.2)) := ⟨by have := h2.1; simpa using this, fun i b y e1 e2 => h2.2 (i + 1) b y (by simpa using e1) (by simpa using e2)⟩
      simp only [afill] at h
      cases hp : place i with
      | none => rw [hp] at h; cases h
      | some q =>
        obtain ⟨off, size⟩ := q
        rw [hp] at h
        simp only at h
        split at h
        · rename_i e1 e2
          have e1 : a.cells.length = size := by simpa using e1
          have e2 : off + size ≤ cs.length := by simpa using Nat.le_of_ble_eq_true e2
          have hxc := hax.cells
          have hsz : x.cells.size = size := by rw [← e1, hxc.1]; simp
          have hcs : cs.length = vs.size := by rw [hc.1]; simp
          have hst := fill_step x.cells.toList off vs (by simp; omega) x rfl
          obtain ⟨cells, h3, h4⟩ := afill_ok place (vs := (x.cells.zipIdx.foldl (fun cs (x : Value × Nat) => match x with | (c, j) => cs.setIfInBounds (off + j) c) vs)) (by rw [hst]; exact hc.splice hxc off) h1 h2' h
          refine ⟨cells, ?_, h4⟩
          unfold Instr.fill
          simp only [hp]
          rw [if_neg (by simp [hsz]; omega)]
          exact h3
        · cases h
/-- the places of a struct's fields -/
def placesB (P : Program) : List Field → Option (List (Nat × Nat))
  | [] => some []
  | f :: l => match szB P f.type with
    | none => none
    | some n => match placesB P l with
      | none => none
      | some r => some ((f.offset, n) :: r)
theorem placesB_ok {P : Program} : ∀ {l : List Field} {r : List (Nat × Nat)}, placesB P l = some r → l.mapM (fun f => (P.info? f.type).map fun i => (f.offset, i.size)) = some r
  | [], r, h => by simp [placesB] at h; subst h; rfl
  | f :: l, r, h => by
    simp only [placesB] at h
    cases h1 : szB P f.type with
    | none => rw [h1] at h; cases h
    | some n =>
      rw [h1] at h
      cases h2 : placesB P l with
      | none => rw [h2] at h; cases h
      | some s =>
        rw [h2] at h
        injection h with h
        subst h
        unfold szB at h1
        split at h1 <;> first | (cases h1; done) | skip
        rename_i i hi
        injection h1 with h1
        subst h1
        simp [hi, placesB_ok h2]
def aparts (P : Program) (T : Tr AV) : List (Nat × Operand) → Option (List (Nat × AV))
  | [] => some []
  | p :: l => match aev P T p.2 with
    | none => none
    | some a => match aparts P T l with
      | none => none
      | some r => some ((p.1, a) :: r)
theorem aparts_ok {P : Program} {γ : Gm} {T : Tr AV} {a : Act} : ∀ {l : List (Nat × Operand)} {as : List (Nat × AV)}, Ok P γ T a (l.map (·.2)) → aparts P T l = some as →
    as.map (·.1) = (l.map fun p => (p.1, a.eval p.2)).map (·.1) ∧ LR γ (as.map (·.2)) ((l.map fun p => (p.1, a.eval p.2)).map (·.2))
  | [], as, _, h => by simp [aparts] at h; subst h; exact ⟨rfl, LR.nil⟩
  | p :: l, as, ho, h => by
    simp only [aparts] at h
    cases h1 : aev P T p.2 with
    | none => rw [h1] at h; cases h
    | some av =>
      rw [h1] at h
      cases h2 : aparts P T l with
      | none => rw [h2] at h; cases h
      | some r =>
        rw [h2] at h
        injection h with h
        subst h
        have := aparts_ok (fun y hy => ho y (List.mem_cons_of_mem _ hy)) h2
        exact ⟨by simp at this ⊢; exact this.1, LR.cons (ho p.2 (by simp) av h1) this.2⟩
def aBuild (P : Program) (t : TypeId) (ps : List (Nat × AV)) : Option AV := match zeroB P t with
  | none => none
  | some z => match P.underlying t with
    | some (.struct fs) => match placesB P fs.toList with
      | none => none
      | some pl => match afill (fun i => pl[i]?) (z.cells.toList.map .v) ps with
        | none => none
        | some r => some (.agg r)
    | some (.array _ e) => match szB P e with
      | none => none
      | some n => match afill (fun i => some (Nat.mul i n, n)) (z.cells.toList.map .v) ps with
        | none => none
        | some r => some (.agg r)
    | _ => none
theorem aBuild_ok {P : Program} {γ : Gm} {t : TypeId} {ps : List (Nat × AV)} {qs : Array (Nat × Value)} {r : AV} (h1 : ps.map (·.1) = qs.toList.map (·.1)) (h2 : LR γ (ps.map (·.2)) (qs.toList.map (·.2)))
    (h : aBuild P t ps = some r) : ∃ v, VR γ r v ∧ ∀ w, (Instr.build t qs).run P w = .ok v w := by
  unfold aBuild at h
  split at h
  · cases h
  rename_i z hz
  unfold zeroB at hz
  split at hz <;> first | (cases hz; done) | skip
  rename_i it hit
  split at h
  · rename_i fs hu
    split at h
    · cases h
    rename_i pl hpl
    split at h
    · cases h
    rename_i r hf
    injection h with h
    subst h
    obtain ⟨cells, h3, h4⟩ := afill_ok _ (vs := z.cells) (LR.vs _) h1 h2 hf
    refine ⟨.agg cells, by simpa using VR.aggL h4, fun w => run_build w t qs cells ?_⟩
    unfold Program.built
    simp only [hit, hu, hz, placesB_ok hpl]
    rw [← h3]
    congr 1
    funext i
    simp
  · rename_i n e hu
    split at h
    · cases h
    rename_i m hm
    split at h
    · cases h
    rename_i r hf
    injection h with h
    subst h
    obtain ⟨cells, h3, h4⟩ := afill_ok _ (vs := z.cells) (LR.vs _) h1 h2 hf
    refine ⟨.agg cells, by simpa using VR.aggL h4, fun w => run_build w t qs cells ?_⟩
    unfold szB at hm
    split at hm <;> first | (cases hm; done) | skip
    rename_i ie hie
    injection hm with hm
    subst hm
    unfold Program.built
    simp only [hit, hu, hz, hie]
    exact h3
  · cases h

/-! what is beside nil -/
def aNil (P : Program) (op : BinOp) (t : TypeId) (x y : AV) : Option AV :=
  match op with
  | .eql => match P.underlying t, x, y with
    | some (.pointer _), .ptr _ _, .v (.pointer none) => some (.v (.bool false))
    | some (.pointer _), .v (.pointer none), .ptr _ _ => some (.v (.bool false))
    | some (.slice _), .sl _ _ _ _, .v (.slice none _ _) => some (.v (.bool false))
    | some (.slice _), .slg _ _ _ _, .v (.slice none _ _) => some (.v (.bool false))
    | some (.func _ _ _), .fn _ _ _, .v .nilFunc => some (.v (.bool false))
    | some (.map _ _), .map _, .v (.map none) => some (.v (.bool false))
    | some (.interface _), .ifc _ _, .v .nilIface => some (.v (.bool false))
    | _, _, _ => none
  | .neq => match P.underlying t, x, y with
    | some (.pointer _), .ptr _ _, .v (.pointer none) => some (.v (.bool true))
    | some (.pointer _), .v (.pointer none), .ptr _ _ => some (.v (.bool true))
    | some (.slice _), .sl _ _ _ _, .v (.slice none _ _) => some (.v (.bool true))
    | some (.slice _), .slg _ _ _ _, .v (.slice none _ _) => some (.v (.bool true))
    | some (.func _ _ _), .fn _ _ _, .v .nilFunc => some (.v (.bool true))
    | some (.map _ _), .map _, .v (.map none) => some (.v (.bool true))
    | some (.interface _), .ifc _ _, .v .nilIface => some (.v (.bool true))
    | _, _, _ => none
  | _ => none
theorem eqG {P : Program} {op : BinOp} {t : TypeId} {x y : Value} {ox oy : Operand} {w : World} (h1 : eqGuard op t ox oy x y = pure ()) {r : Value} (h2 : (binOp op t x y).run P w = .ok r w) :
    (do eqGuard op t ox oy x y; binOp op t x y : Sem Value).run P w = .ok r w := by
  rw [h1, Sem.run_bind, Sem.run_pure, Result.andThen_ok]
  exact h2
theorem eqE {P : Program} {t : TypeId} {x y : Value} {w : World} {b : Bool} (h1 : binOp .eql t x y = (do pure (.bool (← Op.equal t x y)))) (h2 : (Op.equalIn (9999 + 1) t x y).run P w = .ok b w) :
    (binOp .eql t x y).run P w = .ok (.bool b) w := by
  rw [h1, Sem.run_bind]
  have : (Op.equal t x y).run P w = .ok b w := h2
  rw [this]
  rfl
theorem neE {P : Program} {t : TypeId} {x y : Value} {w : World} {b : Bool} (h1 : binOp .neq t x y = (do pure (.bool (!(← Op.equal t x y))))) (h2 : (Op.equalIn (9999 + 1) t x y).run P w = .ok b w) :
    (binOp .neq t x y).run P w = .ok (.bool !b) w := by
  rw [h1, Sem.run_bind]
  have : (Op.equal t x y).run P w = .ok b w := h2
  rw [this]
  rfl
theorem aNil_ok {P : Program} {γ : Gm} {op : BinOp} {t : TypeId} {a b : AV} {x y : Value} {r : AV} (hx : VR γ a x) (hy : VR γ b y) (h : aNil P op t a b = some r) (ox oy : Operand) :
    ∃ v, VR γ r v ∧ ∀ w, (do eqGuard op t ox oy x y; binOp op t x y : Sem Value).run P w = .ok v w := by
  unfold aNil at h
  split at h <;> first | (cases h; done) | skip
  all_goals
    split at h <;> first | (cases h; done) | skip
  all_goals
    rename_i hu
    injection h with h
    subst h
    refine ⟨_, .v _, fun w => ?_⟩
    cases hx
    cases hy
    refine eqG rfl ?_
    first
      | (refine eqE (b := false) rfl ?_; unfold Op.equalIn; rw [Sem.run_bind, run_underlying hu w, Result.andThen_ok]; rfl)
      | (refine neE (b := false) rfl ?_; unfold Op.equalIn; rw [Sem.run_bind, run_underlying hu w, Result.andThen_ok]; rfl)

def aLen (P : Program) (ts : Array TypeId) (x : AV) : Option AV := match ts[0]? with
  | none => none
  | some t => match P.underlying t with
    | some (.slice _) => match x with
      | .sl _ _ len _ => some (.v (.int .i64 (.ofNat len)))
      | .slg _ _ len _ => some (.v (.int .i64 (.ofNat len)))
      | _ => none
    | _ => none
theorem aLen_ok {P : Program} {γ : Gm} {ts : Array TypeId} {ty : TypeId} {a : AV} {x : Value} {r : AV} (hx : VR γ a x) (h : aLen P ts a = some r) :
    ∃ v, VR γ r v ∧ ∀ w, (Builtin.len_ ts ty #[x]).run P w = .ok v w := by
  unfold aLen at h
  split at h
  · cases h
  rename_i t ht
  split at h <;> first | (cases h; done) | skip
  rename_i e hu
  split at h <;> first | (cases h; done) | skip
  all_goals
    injection h with h
    subst h
    cases hx
    exact ⟨_, .v _, fun w => by simp [Builtin.len_, ht, run_underlying hu, goInt]⟩
def aCap (P : Program) (ts : Array TypeId) (x : AV) : Option AV := match ts[0]? with
  | none => none
  | some t => match P.underlying t with
    | some (.slice _) => match x with
      | .sl _ _ _ cap => some (.v (.int .i64 (.ofNat cap)))
      | _ => none
    | _ => none
theorem aCap_ok {P : Program} {γ : Gm} {ts : Array TypeId} {ty : TypeId} {a : AV} {x : Value} {r : AV} (hx : VR γ a x) (h : aCap P ts a = some r) :
    ∃ v, VR γ r v ∧ ∀ w, (Builtin.cap_ ts ty #[x]).run P w = .ok v w := by
  unfold aCap at h
  split at h
  · cases h
  rename_i t ht
  split at h <;> first | (cases h; done) | skip
  rename_i e hu
  split at h <;> first | (cases h; done) | skip
  injection h with h
  subst h
  cases hx
  exact ⟨_, .v _, fun w => by simp [Builtin.cap_, ht, run_underlying hu, goInt]⟩

def aNilCheck : AV → Option AV
  | .ptr b off => some (.ptr b off)
  | .fn (.func f) as bs => some (.fn (.func f) as bs)
  | .ifc t x => some (.ifc t x)
  | _ => none

end Go.Sy
