/- The reckoner: regions. Any program; no conditions. -/
import Derived.Test.YtaehpjaleceppaaGreatDoorSy5
noncomputable section
namespace Go.Sy
open Go Go.RowKit
set_option linter.unusedVariables false
set_option linter.unusedSimpArgs false

/-- a deferred call: function, arguments, what it holds -/
structure ADef where
  f : FuncId
  args : List AV
  cap : List AV
def DefR (γ : Gm) (x : ADef) (d : Deferred) : Prop := ∃ vs ws, d = { target := .fn (.func x.f) ws, args := vs } ∧ LR γ x.args vs.toList ∧ LR γ x.cap ws.toList
structure St where
  T : Tr AV
  h : Hp
  c : Nat
  ds : List ADef
inductive AExit where
  | normal
  | exit (id : Nat)
  | ret
  | pan (a : AV)
inductive R2 where
  | fail
  | ok (e : AExit) (s : St)

def TR (γ : Gm) (T : Tr AV) (tmps : Array Value) : Prop := ∀ t av, T.get t = some av → ∃ v, tmps[t]? = some v ∧ VR γ av v
def DR (γ : Gm) : List ADef → List Deferred → Prop
  | [], [] => True
  | x :: l, d :: r => DefR γ x d ∧ DR γ l r
  | _, _ => False
/-- the frame -/
structure FR (γ : Gm) (nt : Nat) (T : Tr AV) (ds : List ADef) (a : Act) : Prop where
  size : a.tmps.size = nt
  tmps : TR γ T a.tmps
  defs : DR γ ds a.defers
def ER (γ : Gm) : AExit → Exit → Prop
  | .normal, .normal => True
  | .exit id, .exit id' => id = id'
  | .ret, .ret => True
  | .pan av, .panic ch => ∃ v, VR γ av v ∧ ch = [{ v, recovered := false }]
  | _, _ => False
/-- the way on -/
def KOk2 (B : Nat → Prop) (G : Nat) (γ : Gm) (w0 : World) (nt : Nat) (Q : Exit → Act → World → Prop) : R2 → Prop
  | .fail => False
  | .ok e s => ∀ γ' e' a w, Gm.le γ γ' → ER γ' e e' → FR γ' nt s.T s.ds a → HR B G γ' s.h s.c w → Keep B w0 w → Q e' a w

theorem TR.mono {γ γ' : Gm} (hle : Gm.le γ γ') {T : Tr AV} {tmps : Array Value} (h : TR γ T tmps) : TR γ' T tmps := fun t av ht => let ⟨v, h1, h2⟩ := h t av ht; ⟨v, h1, h2.mono hle⟩
theorem DefR.mono {γ γ' : Gm} (hle : Gm.le γ γ') {x : ADef} {d : Deferred} (h : DefR γ x d) : DefR γ' x d := let ⟨vs, ws, h1, h2, h3⟩ := h; ⟨vs, ws, h1, h2.mono hle, h3.mono hle⟩
theorem DR.mono {γ γ' : Gm} (hle : Gm.le γ γ') : ∀ {l : List ADef} {r : List Deferred}, DR γ l r → DR γ' l r
  | [], [], _ => trivial
  | x :: l, d :: r, h => ⟨h.1.mono hle, h.2.mono hle⟩
  | [], _ :: _, h => h.elim
  | _ :: _, [], h => h.elim
theorem FR.mono {γ γ' : Gm} (hle : Gm.le γ γ') {nt : Nat} {T : Tr AV} {ds : List ADef} {a : Act} (h : FR γ nt T ds a) : FR γ' nt T ds a := ⟨h.size, h.tmps.mono hle, h.defs.mono hle⟩
theorem getD_of {tmps : Array Value} {t : Nat} {v : Value} (h : tmps[t]? = some v) : tmps.getD t undef = v := by
  rw [Array.getD_eq_getD_getElem?, h]
  rfl
/-- the frame's operands -/
theorem FR.ok {P : Program} {B : Nat → Prop} {G : Nat} {γ : Gm} {nt : Nat} {T : Tr AV} {ds : List ADef} {a : Act} (hf : FR γ nt T ds a) (hg : ∀ g, g < P.globals.size → ∃ N, γ g = some (g, N)) (l : List Operand) : Ok P γ T a l := by
  intro x _ av h
  cases x with
  | tmp t =>
    obtain ⟨v, h1, h2⟩ := hf.tmps t av h
    show VR γ av (a.tmps.getD t undef)
    rw [getD_of h1]
    exact h2
  | const v => injection h with h; subst h; exact norm_VR v
  | global g =>
    simp only [aev] at h
    split at h
    · rename_i hlt
      injection h with h
      subst h
      obtain ⟨N, hN⟩ := hg g (blt_lt hlt)
      exact .ptr hN
    · cases h
  | func f =>
    injection h with h
    subst h
    exact .fn rfl (fun i a x h => by simp at h) rfl (fun i a x h => by simp at h)

def tput (nt : Nat) (T : Tr AV) (dst : Option Tmp) (av : AV) : Option (Tr AV) := match dst with
  | none => some T
  | some d => match Nat.blt d nt with
    | true => some (T.put d (some av))
    | false => none
theorem FR.put {γ γ' : Gm} {nt : Nat} {T T' : Tr AV} {ds : List ADef} {a : Act} {dst : Option Tmp} {av : AV} {v : Value} (hf : FR γ nt T ds a) (hle : Gm.le γ γ') (hv : VR γ' av v) (h : tput nt T dst av = some T') :
    FR γ' nt T' ds (a.put dst v) := by
  unfold tput at h
  cases dst with
  | none => injection h with h; subst h; exact hf.mono hle
  | some d =>
    simp only at h
    split at h
    · rename_i hlt
      have hlt := blt_lt hlt
      injection h with h
      subst h
      refine ⟨by simp [Act.put, hf.size], fun t av' ht => ?_, hf.defs.mono hle⟩
      rw [Tr.get_put] at ht
      split at ht
      · rename_i e
        subst e
        injection ht with ht
        subst ht
        exact ⟨v, by simp [Act.put, hf.size, hlt], hv⟩
      · rename_i hne
        obtain ⟨x, h1, h2⟩ := hf.tmps t av' ht
        exact ⟨x, by simp only [Act.put]; rw [Array.getElem?_setIfInBounds_ne (fun e => hne e.symm)]; exact h1, h2.mono hle⟩
    · cases h

/-- is the operation wanted? -/
def awanted (ops : Array Oper) (T : Tr AV) (o : Oper) : Option Bool := match o.guard with
  | none => some true
  | some (j, want) => match ops[j]? with
    | none => none
    | some p => match p.dst with
      | none => none
      | some t => match T.get t with
        | some (.v (.bool b)) => some (match b, want with | true, true => true | false, false => true | _, _ => false)
        | some (.tup []) => some false
        | _ => none
theorem awanted_ok {γ : Gm} {ops : Array Oper} {T : Tr AV} {o : Oper} {a : Act} {b : Bool} (hT : ∀ j want p t av, o.guard = some (j, want) → ops[j]? = some p → p.dst = some t → T.get t = some av → ∃ v, a.tmps[t]? = some v ∧ VR γ av v)
    (h : awanted ops T o = some b) : Region.wanted o (yielded ops a.tmps) = b := by
  unfold awanted at h
  unfold Region.wanted
  split at h
  · rename_i hg
    rw [hg]
    simpa using h
  · rename_i j want hg
    rw [hg]
    simp only
    split at h
    · cases h
    rename_i p hp
    split at h
    · cases h
    rename_i t ht
    split at h <;> first | (cases h; done) | skip
    · rename_i b' hb
      obtain ⟨v, h1, h2⟩ := hT j want p t _ hg hp ht hb
      cases h2
      have : yielded ops a.tmps j = some b' := by simp [yielded, hp, ht, h1]
      rw [this]
      injection h with h
      subst h
      cases b' <;> cases want <;> rfl
    · rename_i hb
      obtain ⟨v, h1, h2⟩ := hT j want p t _ hg hp ht hb
      injection h with h
      subst h
      cases h2 with
      | tup hl hh =>
        have : yielded ops a.tmps j = none := by simp [yielded, hp, ht, h1]
        rw [this]
        cases want <;> rfl

/-! a region whose order is fixed -/
/-- a deferred call is laid up -/
def aDefer (P : Program) (T : Tr AV) (o : Oper) : Option ADef := match o.op with
  | .defer k => match k.callee with
    | .value x => match aev P T x, aevs P T k.args.toList with
      | some (.fn (.func f) first cap), some l => some ⟨f, first ++ l, cap⟩
      | _, _ => none
    | _ => none
  | _ => none
abbrev Seq := Tr AV → Hp → Nat → List ADef → R2
def seqStep (P : Program) (I : Aux) (call : CallF) (nt : Nat) (ops : Array Oper) (o : Oper) (ih : Seq) (T : Tr AV) (h : Hp) (c : Nat) (ds : List ADef) : R2 := match awanted ops T o with
  | none => .fail
  | some false => match tput nt T o.dst (.tup []) with
    | none => .fail
    | some T' => ih T' h c ds
  | some true => match evalOp P I call T h c o with
    | .val av h' c' => match tput nt T o.dst av with
      | none => .fail
      | some T' => ih T' h' c' ds
    | .pan av h' c' => .ok (.pan av) ⟨T, h', c', ds⟩
    | .fail => match aDefer P T o with
      | none => .fail
      | some d => match tput nt T o.dst (.tup []) with
        | none => .fail
        | some T' => ih T' h c (d :: ds)
def evalSeq (P : Program) (I : Aux) (call : CallF) (nt : Nat) (ops : Array Oper) (l : List Oper) : Seq :=
  List.rec (motive := fun _ => Seq) (fun T h c ds => .ok .normal ⟨T, h, c, ds⟩) (fun o _ ih => seqStep P I call nt ops o ih) l
theorem evalSeq_cons (P : Program) (I : Aux) (call : CallF) (nt : Nat) (ops : Array Oper) (o : Oper) (l : List Oper) (T : Tr AV) (h : Hp) (c : Nat) (ds : List ADef) :
    evalSeq P I call nt ops (o :: l) T h c ds = seqStep P I call nt ops o (evalSeq P I call nt ops l) T h c ds := rfl
section
variable {P : Program} {B : Nat → Prop} {w0 : World} {nt : Nat} {ops : Array Oper} {Q : Exit → Act → World → Prop} {call : CallF} {I : Aux}
theorem undef_VR (γ : Gm) : VR γ (.tup []) undef := VR.tupL LR.nil
theorem aDefer_ok {γ : Gm} {T : Tr AV} {a : Act} {o : Oper} {d : ADef} (ho : Ok P γ T a o.op.operands.toList) (h : aDefer P T o = some d) : ∃ x, DefR γ d x ∧ ∀ w, (execOp a.eval o).run P w = .ok (.defer x) w := by
  unfold aDefer at h
  split at h <;> first | (cases h; done) | skip
  rename_i k hop
  split at h <;> first | (cases h; done) | skip
  rename_i x hce
  split at h <;> first | (cases h; done) | skip
  rename_i f first cap l hx hl
  injection h with h
  subst h
  have hmem : o.op.operands.toList = x :: k.args.toList := by rw [hop]; simp [Op.operands, Call.operands, hce]
  have hxv := ho x (by rw [hmem]; simp) _ hx
  have hlv := aevs_ok (a := a) (fun y hy => ho y (by rw [hmem]; exact List.mem_cons_of_mem _ hy)) hl
  generalize hvx : a.eval x = vx at hxv
  cases hxv with
  | fn hl1 hh1 hl2 hh2 =>
    rename_i vs ws
    have r1 : LR γ first vs.toList := ⟨by simpa using hl1, fun i b y e1 e2 => hh1 i b y e1 (by simpa using e2)⟩
    have r2 : LR γ cap ws.toList := ⟨by simpa using hl2, fun i b y e1 e2 => hh2 i b y e1 (by simpa using e2)⟩
    refine ⟨_, ⟨vs ++ k.args.map a.eval, ws, rfl, by simpa using r1.append hlv, r2⟩, fun w => ?_⟩
    unfold execOp
    rw [hop]
    simp only [resolve, hce, hvx, Deferred.ofValue, Sem.run_bind, Sem.run_pure, Result.andThen_ok]
theorem evalSeq_ok (hn : Fine P I) (hcall : CallOk P B P.globals.size w0 call) : ∀ (l : List Oper) (k : Nat) (T : Tr AV) (h : Hp) (c : Nat) (ds : List ADef) (γ : Gm) (a : Act) (w : World),
    (∀ j o, l[j]? = some o → ops[k + j]? = some o) → FR γ nt T ds a → HR B P.globals.size γ h c w → Keep B w0 w →
    KOk2 B P.globals.size γ w0 nt Q (evalSeq P I call nt ops l T h c ds) → wpOps P ops Q (List.range' k l.length) a w
  | [], k, T, h, c, ds, γ, a, w, hl, hf, hr, hb, hk => hk γ .normal a w (Gm.le.refl _) trivial hf hr hb
  | o :: l, k, T, h, c, ds, γ, a, w, hl, hf, hr, hb, hk => by
    have ho : ops[k]? = some o := by simpa using hl 0 o rfl
    have hl' : ∀ j o', l[j]? = some o' → ops[k + 1 + j]? = some o' := fun j o' hj => by
      have := hl (j + 1) o' (by simpa using hj)
      rw [show k + 1 + j = k + (j + 1) by omega]; exact this
    have hok := hf.ok (P := P) (B := B) (G := 0) hr.glob o.op.operands.toList
    simp only [List.length_cons, List.range'_succ, wpOps, ho]
    rw [evalSeq_cons] at hk
    unfold seqStep at hk
    split at hk
    · exact hk.elim
    · rename_i hw
      have hw' := awanted_ok (a := a) (fun j want p t av _ _ _ ht => hf.tmps t av ht) hw
      rw [if_neg (by simp [hw'])]
      split at hk
      · exact hk.elim
      rename_i T' hT'
      exact evalSeq_ok hn hcall l (k + 1) T' h c ds γ _ w hl' (hf.put (Gm.le.refl _) (undef_VR γ) hT') hr hb hk
    · rename_i hw
      have hw' := awanted_ok (a := a) (fun j want p t av _ _ _ ht => hf.tmps t av ht) hw
      rw [if_pos hw']
      left
      cases hev : evalOp P I call T h c o with
      | val av h' c' =>
        rw [hev] at hk
        simp only at hk
        split at hk
        · exact hk.elim
        rename_i T' hT'
        refine evalOp_ok hn hcall hr hb hok ?_
        rw [hev]
        intro γ' v w' h1 h2 h3 h4
        refine evalSeq_ok hn hcall l (k + 1) T' h' c' ds γ' _ w' hl' (hf.put h1 h2 hT') h3 h4 ?_
        cases hes : evalSeq P I call nt ops l T' h' c' ds with
        | fail => rw [hes] at hk; exact hk.elim
        | ok e s =>
          rw [hes] at hk
          exact fun γ'' e' a' w'' k1 => hk γ'' e' a' w'' (h1.trans k1)
      | pan av h' c' =>
        rw [hev] at hk
        refine evalOp_ok hn hcall hr hb hok ?_
        rw [hev]
        intro γ' v w' h1 h2 h3 h4
        exact hk γ' _ a w' h1 ⟨v, h2, rfl⟩ (hf.mono h1) h3 h4
      | fail =>
        rw [hev] at hk
        simp only at hk
        split at hk
        · exact hk.elim
        rename_i d hd
        split at hk
        · exact hk.elim
        rename_i T' hT'
        obtain ⟨x, hx1, hx2⟩ := aDefer_ok hok hd
        unfold Oper.wp
        rw [hx2 w]
        simp only [Oper.upon]
        have hf2 : FR γ nt T (d :: ds) { a with defers := x :: a.defers } := ⟨hf.size, hf.tmps, hx1, hf.defs⟩
        exact evalSeq_ok hn hcall l (k + 1) T' h c (d :: ds) γ _ w hl' (hf2.put (Gm.le.refl _) (undef_VR γ) hT') hr hb hk
end
end Go.Sy
