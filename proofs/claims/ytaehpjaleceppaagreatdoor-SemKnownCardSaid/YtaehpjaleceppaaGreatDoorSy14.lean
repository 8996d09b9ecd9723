/- The reckoner: regions whose order is open and whose operations only read, or call what hands a known value back. Any program; the conditions are in each theorem. -/
import Derived.Test.YtaehpjaleceppaaGreatDoorSy13
import Derived.Deep.Quiet
noncomputable section
namespace Go.Sy
open Go Go.RowKit
set_option linter.unusedVariables false
set_option linter.unusedSimpArgs false

mutual
def avFun : AV → Bool
  | .v _ => true
  | .ptr _ _ => true
  | .sl _ _ _ _ => true
  | .slg _ off len esz => match esz with
    | 0 => false
    | _ + 1 => match off with
      | 0 => true
      | _ + 1 => match len with
        | 0 => false
        | _ + 1 => true
  | .agg l => avFunL l
  | .tup l => avFunL l
  | .ifc _ a => avFun a
  | .fn _ l r => match avFunL l with
    | true => avFunL r
    | false => false
  | .map _ => true
def avFunL : List AV → Bool
  | [] => true
  | a :: l => match avFun a with
    | true => avFunL l
    | false => false
end
theorem avFunL_get : ∀ {l : List AV}, avFunL l = true → ∀ (i : Nat) (a : AV), l[i]? = some a → avFun a = true
  | [], _, i, a, hi => by simp at hi
  | b :: l, h, i, a, hi => by
    simp only [avFunL] at h
    split at h
    · rename_i hb
      cases i with
      | zero => simp at hi; subst hi; exact hb
      | succ i => exact avFunL_get h i a (by simpa using hi)
    · cases h
theorem rows_eq {as : List AV} {vs ws : Array Value} (h1 : as.length = vs.size) (h2 : as.length = ws.size) (h : ∀ (i : Nat) (a : AV) (x y : Value), as[i]? = some a → vs[i]? = some x → ws[i]? = some y → x = y) : vs = ws := by
  apply Array.ext (h1.symm.trans h2)
  intro i hi hj
  have ha : as[i]? = some (as[i]'(by omega)) := List.getElem?_eq_getElem (by omega)
  exact h i _ _ _ ha (Array.getElem?_eq_getElem hi) (Array.getElem?_eq_getElem hj)
theorem VR_fun {γ : Gm} {a : AV} {x : Value} (h : VR γ a x) : ∀ {y : Value}, avFun a = true → VR γ a y → x = y := by
  induction h with
  | v x => intro y _ hy; cases hy; rfl
  | ptr h => intro y _ hy; cases hy with | ptr h' => rw [h] at h'; injection h' with h'; injection h' with e1 e2; subst e1; rfl
  | sl h hl => intro y _ hy; cases hy with | sl h' hl' => rw [h] at h'; injection h' with h'; injection h' with e1 e2; subst e1; rfl
  | slg h hl hm ho =>
    intro y hf hy
    cases hy with
    | slg h' hl' hm' ho' =>
      rename_i b off len esz n N o cap n' N' o' cap'
      rw [h] at h'; injection h' with h'; injection h' with e1 e2; subst e1 e2
      cases esz with
      | zero => cases hf
      | succ z =>
        have hk : off = 0 ∨ 0 < len := by
          cases off with
          | zero => exact .inl rfl
          | succ _ => cases len with
            | zero => cases hf
            | succ _ => exact .inr (by omega)
        obtain ⟨rfl, e3⟩ := ho hk
        obtain ⟨rfl, e4⟩ := ho' hk
        have : cap * (z + 1) = cap' * (z + 1) := by omega
        have := Nat.eq_of_mul_eq_mul_right (Nat.succ_pos z) this
        subst this
        rfl
  | agg hl hh ih =>
    intro y hf hy
    cases hy with
    | agg hl' hh' => exact congrArg Value.agg (rows_eq hl hl' (fun i a x y h1 h2 h3 => ih i a x h1 h2 (avFunL_get hf i a h1) (hh' i a y h1 h3)))
  | tup hl hh ih =>
    intro y hf hy
    cases hy with
    | tup hl' hh' => exact congrArg Value.tuple (rows_eq hl hl' (fun i a x y h1 h2 h3 => ih i a x h1 h2 (avFunL_get hf i a h1) (hh' i a y h1 h3)))
  | ifc _ ih =>
    intro y hf hy
    cases hy with
    | ifc hy => rw [ih hf hy]
  | fn hl hh hl2 hh2 ih ih2 =>
    intro y hf hy
    simp only [avFun] at hf
    split at hf <;> first | (cases hf; done) | skip
    rename_i hf1
    cases hy with
    | fn hl' hh' hl2' hh2' =>
      rw [rows_eq hl hl' (fun i a x y h1 h2 h3 => ih i a x h1 h2 (avFunL_get hf1 i a h1) (hh' i a y h1 h3)), rows_eq hl2 hl2' (fun i a x y h1 h2 h3 => ih2 i a x h1 h2 (avFunL_get hf i a h1) (hh2' i a y h1 h3))]
  | map h => intro y _ hy; cases hy with | map h' => rw [h] at h'; injection h' with h'; injection h' with e1 e2; subst e1; rfl

/-- in the middle of such a region -/
structure QCfg where
  arr : Array Oper
  l : List Oper
  k : List It
  s : St
def drawAt (g : Cfg) : Option QCfg := match g.k with
  | .code (.region _ ops true) :: k => match Region.lexB .any ops with
    | true => some ⟨ops, ops.toList, k, g.s⟩
    | false => none
  | _ => none
def isDraw (g : Cfg) : Bool := match drawAt g with
  | some _ => true
  | none => false
def drawQ (g : Cfg) : QCfg := match drawAt g with
  | some q => q
  | none => ⟨#[], [], [], g.s⟩
structure GoodQ (P : Program) (B : Nat → Prop) (w0 : World) (γ0 : Gm) (nt : Nat) (Q : Exit → Act → World → Prop) (q : QCfg) : Prop where
  out : ∀ γ a w, Gm.le γ0 γ → FR γ nt q.s.T q.s.ds a → HR B P.globals.size γ q.s.h q.s.c w → Keep B w0 w →
    wpQuiet P q.arr (fun w' => Below w.heap.size w w') (fun a' => ∀ w', Below w.heap.size w w' → after P Q q.k .normal a' w') q.l a
/-- an operation that reads -/
def qOp1 (P : Program) (nt : Nat) (arr : Array Oper) (o : Oper) (l : List Oper) (k : List It) (s : St) : Option QCfg := match awanted arr s.T o with
  | none => none
  | some false => match tput nt s.T o.dst (.tup []) with
    | none => none
    | some T' => some ⟨arr, l, k, ⟨T', s.h, s.c, s.ds⟩⟩
  | some true => match evalPure P s.T o with
    | some av => match tput nt s.T o.dst av with
      | none => none
      | some T' => some ⟨arr, l, k, ⟨T', s.h, s.c, s.ds⟩⟩
    | none => match evalLoad P s.T s.h o with
      | some av => match avFun av with
        | true => match tput nt s.T o.dst av with
          | none => none
          | some T' => some ⟨arr, l, k, ⟨T', s.h, s.c, s.ds⟩⟩
        | false => none
      | none => none
def qstep (P : Program) (nt : Nat) (stops : List Nat) (q : QCfg) : Option QCfg := match q.l with
  | [] => none
  | o :: l => match stopAt o.dst stops with
    | true => none
    | false => qOp1 P nt q.arr o l q.k q.s
noncomputable def qrun (P : Program) (nt : Nat) (stops : List Nat) (n : Nat) : QCfg → QCfg :=
  Nat.rec (motive := fun _ => QCfg → QCfg) (fun q => q) (fun _ ih q => match qstep P nt stops q with
    | some q' => ih q'
    | none => q) n
def qHd (P : Program) (nt : Nat) (q : QCfg) : Option Oper := match q.l with
  | o :: _ => match awanted q.arr q.s.T o with
    | some true => match o.dst with
      | none => some o
      | some d => match Nat.blt d nt with
        | true => some o
        | false => none
    | _ => none
  | _ => none
def qNx (q : QCfg) (av : AV) : QCfg := match q.l with
  | o :: l => ⟨q.arr, l, q.k, ⟨putD o.dst q.s.T av, q.s.h, q.s.c, q.s.ds⟩⟩
  | [] => q
def qSem (P : Program) (nt : Nat) (q : QCfg) : Option (Sem Value) := match qHd P nt q with
  | none => none
  | some o => match aclosed P q.s.T o.op.operands.toList with
    | true => semV (arho P q.s.T) o.op
    | false => none
def qCall (P : Program) (nt : Nat) (q : QCfg) : Option (FuncId × List AV) := match qHd P nt q with
  | none => none
  | some o => callOf P q.s.T o
def qSet (q : QCfg) (t : Nat) (av : AV) : QCfg := ⟨q.arr, q.l, q.k, ⟨q.s.T.put t (some av), q.s.h, q.s.c, q.s.ds⟩⟩
def qDone (q : QCfg) : Bool := match q.l with
  | [] => true
  | _ => false
def qOut (q : QCfg) : Cfg := ⟨q.k, q.s⟩

section
variable {P : Program} {I : Aux} {B : Nat → Prop} {w0 : World} {γ0 : Gm} {nt : Nat} {Q : Exit → Act → World → Prop} {g : Cfg} {q q' : QCfg}
theorem good_draw' (hm : P.follows .mixedOrders = true) (q : QCfg) (h : drawAt g = some q) (hg : GoodQ P B w0 γ0 nt Q q) : Good P B w0 γ0 nt Q g := by
  obtain ⟨k, s⟩ := g
  unfold drawAt at h
  simp only at h
  split at h <;> first | (cases h; done) | skip
  rename_i id ops k'
  split at h <;> first | (cases h; done) | skip
  rename_i hB
  injection h with h
  subst h
  refine ⟨fun γ a w hle hf hr hb => ?_⟩
  simp only [after, Exit.then]
  exact wp_region_quiet (C := fun w' => Below w.heap.size w w') hm hB ⟨rfl, rfl, rfl, Nat.le_refl _, fun _ _ => rfl⟩ (hg.out γ a w hle hf hr hb)
theorem good_draw (hm : P.follows .mixedOrders = true) (h : isDraw g = true) (hg : GoodQ P B w0 γ0 nt Q (drawQ g)) : Good P B w0 γ0 nt Q g := by
  unfold isDraw at h
  unfold drawQ at hg
  split at h
  · rename_i q hq
    rw [hq] at hg
    exact good_draw' hm q hq hg
  · cases h
/-- one operation that is quiet -/
theorem q_of {o : Oper} {l : List Oper} {T' : Tr AV} {γ : Gm} {a : Act} {w : World} (hl : q.l = o :: l) (hw : awanted q.arr q.s.T o = some true) (hle : Gm.le γ0 γ) (hf : FR γ nt q.s.T q.s.ds a) (hr : HR B P.globals.size γ q.s.h q.s.c w) (hb : Keep B w0 w)
    (v : Value) (av : AV) (hv : VR γ av v) (hT : tput nt q.s.T o.dst av = some T') (hq : ∀ w', Below w.heap.size w w' → o.quietAt P a (fun w' => Below w.heap.size w w') w' v) (hg : GoodQ P B w0 γ0 nt Q ⟨q.arr, l, q.k, ⟨T', q.s.h, q.s.c, q.s.ds⟩⟩) :
    wpQuiet P q.arr (fun w' => Below w.heap.size w w') (fun a' => ∀ w', Below w.heap.size w w' → after P Q q.k .normal a' w') q.l a := by
  have hw' := awanted_ok (a := a) (fun j want p t av _ _ _ ht => hf.tmps t av ht) hw
  rw [hl]
  unfold wpQuiet
  rw [if_pos hw']
  exact ⟨v, hq, hg.out γ _ w hle (hf.put (Gm.le.refl _) hv hT) hr hb⟩
theorem value_quiet {o : Oper} {a : Act} {C : World → Prop} {w : World} {v : Value} (h : (execOp a.eval o).run P w = .ok (.value v) w) : o.quietAt P a C w v := by
  unfold Oper.quietAt
  rw [h]
  exact ⟨rfl, rfl⟩
theorem HR.at_ {γ : Gm} {h : Hp} {c G : Nat} {w w' : World} (hr : HR B G γ h c w) (hbl : Below w.heap.size w w') : HR B G γ h c w' := hr.kept hbl.size hbl.block
theorem Keep.at_ {γ : Gm} {h : Hp} {c G : Nat} {w w' : World} (hb : Keep B w0 w) (hr : HR B G γ h c w) (hbl : Below w.heap.size w w') : Keep B w0 w' := hb.trans (Keep.of_below hbl hr.base)
theorem qstep_ok {stops : List Nat} (h : qstep P nt stops q = some q') (hg : GoodQ P B w0 γ0 nt Q q') : GoodQ P B w0 γ0 nt Q q := by
  unfold qstep at h
  split at h
  · cases h
  rename_i o l hl
  split at h
  · cases h
  refine ⟨fun γ a w hle hf hr hb => ?_⟩
  have hok := hf.ok (P := P) (B := B) (G := 0) hr.glob o.op.operands.toList
  unfold qOp1 at h
  split at h
  · cases h
  · rename_i hw
    have hw' := awanted_ok (a := a) (fun j want p t av _ _ _ ht => hf.tmps t av ht) hw
    split at h
    · cases h
    rename_i T' hT'
    injection h with h
    subst h
    rw [hl]
    unfold wpQuiet
    rw [if_neg (by simp [hw'])]
    exact hg.out γ _ w hle (hf.put (Gm.le.refl _) (undef_VR γ) hT') hr hb
  · rename_i hw
    split at h
    · rename_i av hav
      split at h
      · cases h
      rename_i T' hT'
      injection h with h
      subst h
      obtain ⟨v, h1, h2⟩ := evalPure_ok hok hav
      exact q_of hl hw hle hf hr hb v av h1 hT' (fun w' _ => value_quiet (h2 w')) hg
    · split at h
      · rename_i av hav
        split at h <;> first | (cases h; done) | skip
        rename_i hfun
        split at h
        · cases h
        rename_i T' hT'
        injection h with h
        subst h
        obtain ⟨v, h1, h2⟩ := evalLoad_ok hr hok hav
        refine q_of hl hw hle hf hr hb v av h1 hT' (fun w' hbl => ?_) hg
        obtain ⟨v', h3, h4⟩ := evalLoad_ok (hr.at_ hbl) hok hav
        rw [VR_fun h1 hfun h3]
        exact value_quiet h4
      · cases h
theorem qrun_succ (stops : List Nat) (n : Nat) (q : QCfg) : qrun P nt stops (n + 1) q = (match qstep P nt stops q with
    | some q' => qrun P nt stops n q'
    | none => q) := rfl
theorem qrun_ok {stops : List Nat} : ∀ (n : Nat) (q : QCfg), GoodQ P B w0 γ0 nt Q (qrun P nt stops n q) → GoodQ P B w0 γ0 nt Q q
  | 0, q, h => h
  | n + 1, q, h => by
    rw [qrun_succ] at h
    split at h
    · rename_i q' hq'
      exact qstep_ok hq' (qrun_ok n q' h)
    · exact h
theorem q_run (stops : List Nat) (n : Nat) (h : GoodQ P B w0 γ0 nt Q (qrun P nt stops n q)) : GoodQ P B w0 γ0 nt Q q := qrun_ok n q h
theorem qHd_spec {o : Oper} (h : qHd P nt q = some o) : ∃ l, q.l = o :: l ∧ awanted q.arr q.s.T o = some true ∧ ∀ av, tput nt q.s.T o.dst av = some (putD o.dst q.s.T av) := by
  unfold qHd at h
  split at h <;> first | (cases h; done) | skip
  rename_i o' l hl
  split at h <;> first | (cases h; done) | skip
  rename_i hw
  split at h
  · rename_i hd
    injection h with h
    subst h
    exact ⟨l, hl, hw, fun av => by unfold tput putD; rw [hd]⟩
  · rename_i d hd
    split at h <;> first | (cases h; done) | skip
    rename_i hlt
    injection h with h
    subst h
    exact ⟨l, hl, hw, fun av => by unfold tput putD; rw [hd]; simp only [hlt]⟩
theorem qNx_eq {o : Oper} {l : List Oper} (hl : q.l = o :: l) (av : AV) : qNx q av = ⟨q.arr, l, q.k, ⟨putD o.dst q.s.T av, q.s.h, q.s.c, q.s.ds⟩⟩ := by
  unfold qNx
  rw [hl]
theorem q_val {S : Sem Value} (x : Value) (h : qSem P nt q = some S) (hrun : ∀ w, Keep B w0 w → S.run P w = .ok x w) (hg : GoodQ P B w0 γ0 nt Q (qNx q (norm x))) : GoodQ P B w0 γ0 nt Q q := by
  unfold qSem at h
  split at h
  · cases h
  rename_i o ho
  split at h <;> first | (cases h; done) | skip
  rename_i hcl
  obtain ⟨l, hl, hw, hput⟩ := qHd_spec ho
  rw [qNx_eq hl] at hg
  refine ⟨fun γ a w hle hf hr hb => ?_⟩
  have hok := hf.ok (P := P) (B := B) (G := 0) hr.glob o.op.operands.toList
  have hns : ∀ cs b, o.op = .select cs b → False := fun cs b e => by rw [e] at h; cases h
  have hcong := execOp_congr (ρ := arho P q.s.T) (ρ' := a.eval) o (fun cs b e => (hns cs b e).elim) (fun x hx => arho_ok hok hcl x (by simpa using hx))
  exact q_of hl hw hle hf hr hb x (norm x) (norm_VR x) (hput _) (fun w' hbl => value_quiet (by rw [← hcong]; exact semV_run h (hrun w' (hb.at_ hr hbl)))) hg
theorem q_callB (cx : Cx P I B w0) {f : FuncId} (xs : List Value) (r : Value) (h : qCall P nt q = some (f, xs.map norm)) (hbod : bodied P f = some true) (hx : closeLL (xs.map norm) = some xs)
    (hc : ∀ w, Keep B w0 w → Calls P f xs.toArray w fun e w' => e = .returned r ∧ Below w.heap.size w w') (hg : GoodQ P B w0 γ0 nt Q (qNx q (norm r))) : GoodQ P B w0 γ0 nt Q q := by
  unfold qCall at h
  split at h
  · cases h
  rename_i o ho
  obtain ⟨l, hl, hw, hput⟩ := qHd_spec ho
  rw [qNx_eq hl] at hg
  refine ⟨fun γ a w hle hf hr hb => ?_⟩
  have hok := hf.ok (P := P) (B := B) (G := 0) hr.glob o.op.operands.toList
  obtain ⟨fn, code, hfn, hbd⟩ := bodied_true hbod
  obtain ⟨vs, hlr, hrun⟩ := callOf_ok hok h
  obtain rfl := closeLL_eq hx hlr
  refine q_of hl hw hle hf hr hb r (norm r) (norm_VR r) (hput _) (fun w' hbl => ?_) hg
  unfold Oper.quietAt
  rw [hrun, enter_ok cx.hn hfn hbd]
  refine ⟨rfl, (hc w' (hb.at_ hr hbl)).mono fun e w'' hR => ⟨hR.1, hbl.trans (hR.2.mono hbl.size)⟩⟩
theorem q_callP (cx : Cx P I B w0) {f : FuncId} (xs : List Value) (r : Value) (h : qCall P nt q = some (f, xs.map norm)) (hbod : bodied P f = some true) (hx : closeLL (xs.map norm) = some xs)
    (hc : ∀ w, Keep B w0 w → Calls P f xs.toArray w fun e w' => e = .returned r ∧ w = w') (hg : GoodQ P B w0 γ0 nt Q (qNx q (norm r))) : GoodQ P B w0 γ0 nt Q q :=
  q_callB cx xs r h hbod hx (fun w hk => (hc w hk).mono fun e w' hR => ⟨hR.1, by rw [← hR.2]; exact Below.refl _ _⟩) hg
theorem q_set (t : Nat) {x : Value} (y : Value) (h : q.s.T.get t = some (.v x)) (e : x = y) (hg : GoodQ P B w0 γ0 nt Q (qSet q t (norm y))) : GoodQ P B w0 γ0 nt Q q := by
  subst e
  refine ⟨fun γ a w hle hf hr hb => hg.out γ a w hle ⟨hf.size, fun t' av ht => ?_, hf.defs⟩ hr hb⟩
  simp only [qSet] at ht
  rw [Tr.get_put] at ht
  split at ht
  · rename_i e
    subst e
    injection ht with ht
    subst ht
    obtain ⟨v, h1, h2⟩ := hf.tmps _ _ h
    cases h2
    exact ⟨_, h1, norm_VR _⟩
  · exact hf.tmps t' av ht
theorem q_end (h : qDone q = true) (hg : Good P B w0 γ0 nt Q (qOut q)) : GoodQ P B w0 γ0 nt Q q := by
  unfold qDone at h
  split at h <;> first | (cases h; done) | skip
  rename_i hl
  refine ⟨fun γ a w hle hf hr hb => ?_⟩
  rw [hl]
  exact fun w' hbl => hg.out γ a w' hle hf (hr.at_ hbl) (hb.at_ hr hbl)
end
end Go.Sy
