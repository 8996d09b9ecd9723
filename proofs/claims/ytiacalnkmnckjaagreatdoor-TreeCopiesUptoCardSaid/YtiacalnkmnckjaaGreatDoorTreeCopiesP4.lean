/- Texts of this proof, one behind the other. Conditions: those in each theorem. -/
import Derived.Test.YtiacalnkmnckjaaGreatDoorTreeCopiesP3
import Derived.Scope
import Derived.WalkKit
import Derived.WalkSpells
import Derived.WalkLawsBesides
import Derived.WalkSmall
import Derived.Lib.Hide
import Derived.Deep.AppendLies
import Derived.Deep.Draws
import Derived.Maps.AppendAt
import Derived.ChangeSame
import Derived.ProofKit
import Derived.RegionTactic
import Derived.OrdersHeld
section
/- The reckoner: code and calls, and the law: what is reckoned comes to pass. Any program; the conditions are in the theorem. -/
noncomputable section
namespace Go.Sy
open Go Go.RowKit
set_option linter.unusedVariables false
set_option linter.unusedSimpArgs false

/-! results -/
def aRes1 (P : Program) (T : Tr AV) (h : Hp) : List ResultVar → Option (List AV)
  | [] => some []
  | .tmp t :: l => match T.get t with
    | none => none
    | some a => match aRes1 P T h l with
      | none => none
      | some r => some (a :: r)
  | .cell t ty :: l => match T.get t with
    | some (.ptr b off) => match aLoad P ty (.ptr b off) h with
      | none => none
      | some a => match aRes1 P T h l with
        | none => none
        | some r => some (a :: r)
    | _ => none
def aResults (P : Program) (fn : Func) (T : Tr AV) (h : Hp) : Option AV := match aRes1 P T h fn.results.toList with
  | none => none
  | some [a] => some a
  | some l => some (.tup l)
def resF (tmps : Array Value) : ResultVar → Sem Value
  | .tmp t => pure (tmps.getD t undef)
  | .cell a t => do loadVar t (← asAddr (tmps.getD a undef))
theorem aRes1_ok {P : Program} {B : Nat → Prop} {G : Nat} {γ : Gm} {T : Tr AV} {h : Hp} {c : Nat} {w : World} {tmps : Array Value} (hr : HR B G γ h c w) (ht : TR γ T tmps) : ∀ {l : List ResultVar} {r : List AV}, aRes1 P T h l = some r →
    ∃ vs, LR γ r vs ∧ (l.mapM (resF tmps)).run P w = .ok vs w
  | [], r, hh => by simp [aRes1] at hh; subst hh; exact ⟨[], LR.nil, rfl⟩
  | .tmp t :: l, r, hh => by
    simp only [aRes1] at hh
    split at hh
    · cases hh
    rename_i a ha
    split at hh
    · cases hh
    rename_i r' hr'
    injection hh with hh
    subst hh
    obtain ⟨v, h1, h2⟩ := ht t a ha
    obtain ⟨vs, h3, h4⟩ := aRes1_ok hr ht hr'
    refine ⟨v :: vs, LR.cons h2 h3, ?_⟩
    have h0 : (resF tmps (.tmp t)).run P w = .ok v w := by simp only [resF, getD_of h1, Sem.run_pure]
    rw [List.mapM_cons]
    simp only [Sem.run_bind, Sem.run_pure, Result.andThen_ok, h0, h4]
  | .cell t ty :: l, r, hh => by
    simp only [aRes1] at hh
    split at hh <;> first | (cases hh; done) | skip
    rename_i b off ha
    split at hh
    · cases hh
    rename_i av hav
    split at hh
    · cases hh
    rename_i r' hr'
    injection hh with hh
    subst hh
    obtain ⟨v, h1, h2⟩ := ht t _ ha
    obtain ⟨vs, h3, h4⟩ := aRes1_ok hr ht hr'
    obtain ⟨x, h5, h6⟩ := aLoad_ok hr h2 hav
    refine ⟨x :: vs, LR.cons h5 h3, ?_⟩
    have h0 : (resF tmps (.cell t ty)).run P w = .ok x w := by
      cases h2 with
      | ptr hb =>
        simp only [Instr.loadAt, Instr.sureAddr, Sem.run_bind, Sem.run_pure, Result.andThen_ok] at h6
        simp only [resF, Sem.run_bind, Sem.run_pure, Result.andThen_ok, getD_of h1, asAddr, h6]
    rw [List.mapM_cons]
    simp only [Sem.run_bind, Sem.run_pure, Result.andThen_ok, h0, h4]
theorem aResults_ok {P : Program} {B : Nat → Prop} {G : Nat} {γ : Gm} {fn : Func} {T : Tr AV} {h : Hp} {c : Nat} {w : World} {tmps : Array Value} {av : AV} (hr : HR B G γ h c w) (ht : TR γ T tmps) (hh : aResults P fn T h = some av) :
    ∃ v, VR γ av v ∧ (results fn tmps).run P w = .ok v w := by
  unfold aResults at hh
  have key : ∀ {r : List AV}, aRes1 P T h fn.results.toList = some r → ∃ vs : List Value, LR γ r vs ∧ (results fn tmps).run P w = .ok (if h : vs.toArray.size = 1 then vs.toArray[0] else .tuple vs.toArray) w := by
    intro r hr'
    obtain ⟨vs, h1, h2⟩ := aRes1_ok hr ht hr'
    refine ⟨vs, h1, ?_⟩
    have e : results fn tmps = (do let vs ← fn.results.mapM (resF tmps); pure (if h : vs.size = 1 then vs[0] else .tuple vs)) := by
      unfold results
      congr 2
    rw [e, Array.mapM_eq_mapM_toList, Sem.run_bind, Sem.run_map, h2]
    rfl
  split at hh
  · cases hh
  · rename_i a ha
    injection hh with hh
    subst hh
    obtain ⟨vs, h1, h2⟩ := key ha
    have hl := h1.1
    match vs, hl with
    | [x], _ => exact ⟨x, h1.2 0 _ x rfl rfl, by rw [h2]; rfl⟩
  · rename_i l hnl ha
    injection hh with hh
    subst hh
    obtain ⟨vs, h1, h2⟩ := key ha
    have hl := h1.1
    refine ⟨.tuple vs.toArray, VR.tupL h1, ?_⟩
    rw [h2, dif_neg]
    intro he
    simp at he
    match l, hl.trans he with
    | [x], _ => exact hnl x rfl

/-! code -/
abbrev IH := Code → Nat → St → R2
/-- how a function is being left -/
inductive AMode where
  | ret
  | pan (v : AV)
  | recd (v : AV)
def MR (γ : Gm) : AMode → FrameMode → Prop
  | .ret, u => u = .returning
  | .pan a, u => ∃ v, VR γ a v ∧ u = .panicking [{ v, recovered := false }]
  | .recd a, u => ∃ v, VR γ a v ∧ u = .panicking [{ v, recovered := true }]
def aSettle : AMode → AMode
  | .recd _ => .ret
  | m => m
/-- a region that recovers and does nothing else -/
def recoverOp (ops : Array Oper) : Option (Option Tmp) := match ops.toList with
  | [o] => match o.guard, o.op with
    | none, .call k => match k.callee, k.args.toList with
      | .builtin .recover, [] => some o.dst
      | _, _ => none
    | _, _ => none
  | _ => none
def aRecover : AMode → Option (AV × AMode)
  | .pan v => some (v, .recd v)
  | .ret => some (.v .nilIface, .ret)
  | .recd _ => none
/-- behind a deferred call's body -/
def aDefEnd (P : Program) (fn : Func) (m : AMode) : R2 → Option (AMode × Hp × Nat)
  | .ok .normal ⟨T, h, c, []⟩ => match aResults P fn T h with
    | some _ => some (m, h, c)
    | none => none
  | .ok .ret ⟨T, h, c, []⟩ => match aResults P fn T h with
    | some _ => some (m, h, c)
    | none => none
  | _ => none
def headRecover (code : Code) : Option (Option Tmp × Code) := match code with
  | .seq (.region _ ops false) y => match recoverOp ops with
    | some dst => some (dst, y)
    | none => none
  | _ => none
def evDefCall (P : Program) (ih : IH) (d : ADef) (m : AMode) (h : Hp) (c : Nat) : Option (AMode × Hp × Nat) := match P.funcs[d.f]? with
  | none => none
  | some fn => match fn.body with
    | none => none
    | some code => match Nat.ble (d.args ++ d.cap).length fn.ntmps with
      | false => none
      | true => match headRecover code with
        | some (dst, y) => match aRecover m with
          | none => none
          | some (v, m') => match tput fn.ntmps (putL .leaf 0 (d.args ++ d.cap)) dst v with
            | none => none
            | some T => aDefEnd P fn m' (ih y fn.ntmps ⟨T, h, c, []⟩)
        | none => aDefEnd P fn m (ih code fn.ntmps ⟨putL .leaf 0 (d.args ++ d.cap), h, c, []⟩)
def aLeaves (P : Program) (ih : IH) (fn : Func) (T : Tr AV) : List ADef → AMode → Hp → Nat → R1
  | [], .ret, h, c => match aResults P fn T h with
    | some av => .val av h c
    | none => .fail
  | [], .pan v, h, c => .pan v h c
  | [], .recd _, _, _ => .fail
  | d :: ds, m, h, c => match evDefCall P ih d m h c with
    | some (m', h', c') => aLeaves P ih fn T ds (aSettle m') h' c'
    | none => .fail
def evBody (P : Program) (ih : IH) : CallF := fun f args h c => match P.funcs[f]? with
  | none => .fail
  | some fn => match fn.body with
    | none => .fail
    | some code => match Nat.ble args.length fn.ntmps with
      | false => .fail
      | true => match ih code fn.ntmps ⟨putL .leaf 0 args, h, c, []⟩ with
        | .ok .normal s => aLeaves P ih fn s.T s.ds .ret s.h s.c
        | .ok .ret s => aLeaves P ih fn s.T s.ds .ret s.h s.c
        | .ok (.pan av) s => aLeaves P ih fn s.T s.ds (.pan av) s.h s.c
        | _ => .fail
def evCall (P : Program) (I : Aux) (ih : IH) : CallF := fun f args h c => match I.K f args with
  | some av => .val av h c
  | none => evBody P ih f args h c
def evStepS (P : Program) (I : Aux) (ih : IH) : IH := fun code nt s => match code with
  | .skip => .ok .normal s
  | .region _ ops draw => match draw with
    | false => evalSeq P I (evCall P I ih) nt ops ops.toList s.T s.h s.c s.ds
    | true => evalDraw P I (evCall P I ih) nt ops s
  | .seq x y => match ih x nt s with
    | .ok .normal s' => ih y nt s'
    | r => r
  | .cond c x y => match aev P s.T c with
    | some (.v (.bool true)) => ih x nt s
    | some (.v (.bool false)) => ih y nt s
    | _ => .fail
  | .block id x => match ih x nt s with
    | .ok (.exit j) s' => match Nat.beq j id with
      | true => .ok .normal s'
      | false => .ok (.exit j) s'
    | r => r
  | .loop x => match ih x nt s with
    | .ok .normal s' => ih (.loop x) nt s'
    | r => r
  | .exit id => .ok (.exit id) s
  | .label _ => .ok .normal s
  | .scope x => ih x nt s
  | .ret => .ok .ret s
  | _ => .fail
def evStepD (code : Code) : Program → Aux → IH → Nat → St → R2 := by
  induction code
  case skip => exact fun P I ih nt s => .ok .normal s
  case region _ ops draw =>
    induction draw
    · exact fun P I ih nt s => evalSeq P I (evCall P I ih) nt ops ops.toList s.T s.h s.c s.ds
    · exact fun P I ih nt s => evalDraw P I (evCall P I ih) nt ops s
  case seq x y _ _ => exact fun P I ih nt s => match ih x nt s with
    | .ok .normal s' => ih y nt s'
    | r => r
  case cond c x y _ _ => exact fun P I ih nt s => match aev P s.T c with
    | some (.v (.bool true)) => ih x nt s
    | some (.v (.bool false)) => ih y nt s
    | _ => .fail
  case block id x _ => exact fun P I ih nt s => match ih x nt s with
    | .ok (.exit j) s' => match Nat.beq j id with
      | true => .ok .normal s'
      | false => .ok (.exit j) s'
    | r => r
  case loop x _ => exact fun P I ih nt s => match ih x nt s with
    | .ok .normal s' => ih (.loop x) nt s'
    | r => r
  case exit id => exact fun P I ih nt s => .ok (.exit id) s
  case label _ => exact fun P I ih nt s => .ok .normal s
  case scope x _ => exact fun P I ih nt s => ih x nt s
  case ret => exact fun P I ih nt s => .ok .ret s
  all_goals exact fun _ _ _ _ _ => .fail
def evStep (P : Program) (I : Aux) (ih : IH) : IH := fun code nt s => evStepD code P I ih nt s
theorem evStep_eq (P : Program) (I : Aux) (ih : IH) : evStep P I ih = evStepS P I ih := by
  funext code nt s
  cases code <;> first | rfl | (rename_i d; cases d <;> rfl)
noncomputable def ev (P : Program) (I : Aux) (n : Nat) : IH := Nat.rec (motive := fun _ => IH) (fun _ _ _ => .fail) (fun _ ih => evStep P I ih) n

/-- a loop that stands ahead of its round -/
def LoopBody (P : Program) (c : Code) (Q : Exit → Act → World → Prop) (a : Act) (w : World) : Prop :=
  ∀ (b : Frame) (k : List Item) (cs : List Frame), ∃ e a' w', Q e a' w' ∧ Arrives P (lone (b.at a (.code c :: .inLoop c :: k)) cs w) b k cs e a' w'
theorem loop_of {P : Program} {c : Code} {Q : Exit → Act → World → Prop} {a : Act} {w : World} (h : LoopBody P c Q a w) : (Code.loop c).wp P Q a w := by
  intro b k cs
  obtain ⟨e, a', w', hq, harr⟩ := h b k cs
  exact ⟨e, a', w', hq, .of_steps (.one step_loop) harr⟩
theorem loopBody_of {P : Program} {c : Code} {Q : Exit → Act → World → Prop} {a : Act} {w : World} (h : c.wp P (Exit.then (LoopBody P c Q) Q) a w) : LoopBody P c Q a w := by
  intro b k cs
  obtain ⟨e, a₁, w₁, hq, harr⟩ := h b (.inLoop c :: k) cs
  cases e with
  | normal =>
    obtain ⟨e₂, a₂, w₂, hq₂, harr₂⟩ := hq b k cs
    exact ⟨e₂, a₂, w₂, hq₂, .of_steps (Steps.trans harr (.one step_inLoop)) harr₂⟩
  | exit id => exact ⟨_, a₁, w₁, hq, .pass (x := .inLoop c) rfl (fun _ _ => .inl (by simp)) harr⟩
  | goto l => exact ⟨_, a₁, w₁, hq, .pass (x := .inLoop c) rfl (fun _ _ => .inl (by simp)) harr⟩
  | ret => exact ⟨_, a₁, w₁, hq, .pass (x := .inLoop c) rfl (fun _ _ => .inl (by simp)) harr⟩
  | panic ch => exact ⟨_, a₁, w₁, hq, .pass (x := .inLoop c) rfl (fun _ _ => .inl (by simp)) harr⟩
  | outgrown => exact ⟨_, a₁, w₁, hq, .pass (x := .inLoop c) rfl (fun _ _ => .inl (by simp)) harr⟩

section
variable {P : Program} {B : Nat → Prop} {w0 : World} {I : Aux}
/-- what a reckoner of code must keep -/
def IHok (P : Program) (B : Nat → Prop) (w0 : World) (ih : IH) : Prop :=
  (∀ (code : Code) (nt : Nat) (s : St) (γ : Gm) (a : Act) (w : World) (Q : Exit → Act → World → Prop), FR γ nt s.T s.ds a → HR B P.globals.size γ s.h s.c w → Keep B w0 w → KOk2 B P.globals.size γ w0 nt Q (ih code nt s) → code.wp P Q a w) ∧
  (∀ (code : Code) (nt : Nat) (s : St) (γ : Gm) (a : Act) (w : World) (Q : Exit → Act → World → Prop), FR γ nt s.T s.ds a → HR B P.globals.size γ s.h s.c w → Keep B w0 w → KOk2 B P.globals.size γ w0 nt Q (ih (.loop code) nt s) → LoopBody P code Q a w)
theorem leaves_mono {fn : Func} {tmps : Array Value} {R R' : Ending → World → Prop} (hR : ∀ e w, R e w → R' e w) : ∀ {ds : List Deferred} {u : FrameMode} {w : World}, Leaves P fn tmps R ds u w → Leaves P fn tmps R' ds u w
  | [], .returning, w, h => let ⟨v, h1, h2⟩ := h; ⟨v, h1, hR _ _ h2⟩
  | [], .panicking ch, w, h => hR _ _ h
  | [], .run, w, h => h.elim
  | d :: ds, u, w, h => by
    obtain ⟨hu, fv, cap, f, args, h1, h2, h3⟩ := h
    refine ⟨hu, fv, cap, f, args, h1, h2, h3.mono (fun e u' w' hh => ?_)⟩
    cases e with
    | returned v => exact leaves_mono hR hh
    | panicked ch => exact leaves_mono hR hh
    | outgrown => exact hR _ _ hh
theorem KOk2.le {G : Nat} {γ γ' : Gm} {nt : Nat} {Q : Exit → Act → World → Prop} {r : R2} (hle : Gm.le γ γ') (h : KOk2 B G γ w0 nt Q r) : KOk2 B G γ' w0 nt Q r := by
  cases r with
  | fail => exact h
  | ok e s => exact fun γ'' e' a' w'' k1 => h γ'' e' a' w'' (hle.trans k1)
theorem putL_TR {γ : Gm} {as : List AV} {vs : Array Value} (h : LR γ as vs.toList) (n : Nat) : TR γ (putL .leaf 0 as) (vs ++ Array.replicate n undef) := by
  intro t av ht
  rw [putL_get] at ht
  split at ht
  · rename_i hin
    obtain ⟨x, h1, h2⟩ := h.get ht
    have hl := h.1
    simp at hl
    refine ⟨x, ?_, h2⟩
    rw [Array.getElem?_append_left (by omega)]
    simpa using h1
  · cases ht
theorem MR.mono {γ γ' : Gm} (hle : Gm.le γ γ') {m : AMode} {u : FrameMode} (h : MR γ m u) : MR γ' m u := by
  cases m with
  | ret => exact h
  | pan a => obtain ⟨v, h1, h2⟩ := h; exact ⟨v, h1.mono hle, h2⟩
  | recd a => obtain ⟨v, h1, h2⟩ := h; exact ⟨v, h1.mono hle, h2⟩
theorem Ret.le {G : Nat} {γ0 γ : Gm} (hle : Gm.le γ0 γ) {r : R1} {e : Ending} {w : World} (h : Ret B G γ w0 r e w) : Ret B G γ0 w0 r e w := by
  cases r with
  | fail => exact h
  | val av h' c' => obtain ⟨γ', v, h1, h2, h3⟩ := h; exact ⟨γ', v, h1, hle.trans h2, h3⟩
  | pan av h' c' => obtain ⟨γ', v, h1, h2, h3⟩ := h; exact ⟨γ', v, h1, hle.trans h2, h3⟩
theorem settle_ok {γ : Gm} {m : AMode} {u : FrameMode} (h : MR γ m u) : MR γ (aSettle m) (settle u) := by
  cases m with
  | ret => simp only [MR] at h; subst h; rfl
  | pan a => obtain ⟨v, h1, rfl⟩ := h; exact ⟨v, h1, rfl⟩
  | recd a => obtain ⟨v, h1, rfl⟩ := h; rfl
theorem enter_ok (hn : Fine P I) {f : FuncId} {fn : Func} {code : Code} (hf : P.funcs[f]? = some fn) (hb : fn.body = some code) (args : Array Value) (w : World) : (callFunc f args).run P w = .ok (.enter f args) w := by
  have h3 : fn.name ≠ "runtime.NumGoroutine" := by simpa using hn.names f fn hf (by rw [hb]; rfl)
  simp [callFunc, hf, hb, h3]
theorem DR_nil {γ' : Gm} {l : List Deferred} (h : DR γ' [] l) : l = [] := by
  cases l with
  | nil => rfl
  | cons d l => exact h.elim
/-- what a deferred call leaves -/
def DefPost (P : Program) (B : Nat → Prop) (γ : Gm) (w0 : World) (m : AMode) (h : Hp) (c : Nat) : Ending → FrameMode → World → Prop
  | .returned _, u, w => ∃ γ', Gm.le γ γ' ∧ MR γ' m u ∧ HR B P.globals.size γ' h c w ∧ Keep B w0 w
  | _, _, _ => False
theorem aDefEnd_ok {fn : Func} {m m' : AMode} {r : R2} {h : Hp} {c : Nat} (hh : aDefEnd P fn m r = some (m', h, c)) : m' = m ∧ ∃ T e av, r = .ok e ⟨T, h, c, []⟩ ∧ (e = .normal ∨ e = .ret) ∧ aResults P fn T h = some av := by
  unfold aDefEnd at hh
  split at hh <;> first | (cases hh; done) | skip
  · rename_i T h' c'
    split at hh <;> first | (cases hh; done) | skip
    rename_i av hav
    injection hh with hh
    injection hh with e1 hh
    injection hh with e2 e3
    subst e1 e2 e3
    exact ⟨rfl, T, _, av, rfl, .inl rfl, hav⟩
  · rename_i T h' c'
    split at hh <;> first | (cases hh; done) | skip
    rename_i av hav
    injection hh with hh
    injection hh with e1 hh
    injection hh with e2 e3
    subst e1 e2 e3
    exact ⟨rfl, T, _, av, rfl, .inr rfl, hav⟩
theorem headRecover_ok {code : Code} {dst : Option Tmp} {y : Code} (h : headRecover code = some (dst, y)) : ∃ id o k, code = .seq (.region id #[o] false) y ∧ o.dst = dst ∧ o.guard = none ∧ o.op = .call k ∧ k.callee = .builtin .recover ∧ k.args = #[] := by
  unfold headRecover at h
  split at h <;> first | (cases h; done) | skip
  rename_i id ops y'
  split at h <;> first | (cases h; done) | skip
  rename_i dst' hr
  injection h with h
  injection h with e1 e2
  subst e1 e2
  unfold recoverOp at hr
  split at hr <;> first | (cases hr; done) | skip
  rename_i o hops
  split at hr <;> first | (cases hr; done) | skip
  rename_i k hg hop
  split at hr <;> first | (cases hr; done) | skip
  rename_i hce hca
  injection hr with hr
  have e1 : ops = #[o] := by apply Array.ext'; simpa using hops
  have e2 : k.args = #[] := by apply Array.ext'; simpa using hca
  subst e1
  exact ⟨id, o, k, rfl, hr, hg, hop, hce, e2⟩
theorem evDefCall_ok {ih : IH} (hih : IHok P B w0 ih) {d : ADef} {dd : Deferred} {m m' : AMode} {u : FrameMode} {h h' : Hp} {c c' : Nat} {γ : Gm} {w : World} (hd : DefR γ d dd) (hm : MR γ m u) (hr : HR B P.globals.size γ h c w) (hb : Keep B w0 w)
    (hh : evDefCall P ih d m h c = some (m', h', c')) : ∃ fn code vs ws, P.funcs[d.f]? = some fn ∧ fn.body = some code ∧ dd = { target := .fn (.func d.f) ws, args := vs } ∧ CallsD P d.f (vs ++ ws) u w (DefPost P B γ w0 m' h' c') := by
  obtain ⟨vs, ws, hdd, hl1, hl2⟩ := hd
  unfold evDefCall at hh
  split at hh
  · cases hh
  rename_i fn hf
  split at hh
  · cases hh
  rename_i code hbd
  split at hh
  · cases hh
  rename_i hle
  have hle : (d.args ++ d.cap).length ≤ fn.ntmps := Nat.le_of_ble_eq_true hle
  refine ⟨fn, code, vs, ws, hf, hbd, hdd, ?_⟩
  have hl : LR γ (d.args ++ d.cap) (vs ++ ws).toList := by simpa using hl1.append hl2
  have hlv := hl.1
  have hfr : FR γ fn.ntmps (putL .leaf 0 (d.args ++ d.cap)) [] { tmps := (vs ++ ws) ++ Array.replicate (fn.ntmps - (vs ++ ws).size) undef, defers := [] } :=
    ⟨by simp at hlv hle ⊢; omega, putL_TR hl _, trivial⟩
  split at hh
  · rename_i dst y hhr
    split at hh
    · cases hh
    rename_i v m1 hrec
    split at hh
    · cases hh
    rename_i T hT
    obtain ⟨rfl, Te, e, av, hres, hee, hav⟩ := aDefEnd_ok hh
    obtain ⟨id, o, k, rfl, rfl, hg, hop, hce, hca⟩ := headRecover_ok hhr
    refine callsD_of_wpS hf hbd (fun c₀ cs hu => wpS_seq (wpS_region ?_))
    have hex : (execOp ({ tmps := (vs ++ ws) ++ Array.replicate (fn.ntmps - (vs ++ ws).size) undef, defers := [] } : Act).eval o).run P w = .ok .recover w := by
      unfold execOp
      rw [hop]
      simp only [resolve, hce, hca, Sem.run_bind, Sem.run_pure, Result.andThen_ok, invoke, builtin]
    have hwant : Region.wanted o (yielded #[o] ({ tmps := (vs ++ ws) ++ Array.replicate (fn.ntmps - (vs ++ ws).size) undef, defers := [] } : Act).tmps) = true := by
      unfold Region.wanted
      rw [hg]
    -- what recover hands back, and how the caller stands
    obtain ⟨v', u', hv', hm', hrun⟩ : ∃ v' u', VR γ v v' ∧ MR γ m' u' ∧ ∀ (K : Act → List Frame → World → Prop) (a : Act), K (a.put o.dst v') ({ c₀ with mode := u' } :: cs) w → (match recoverD (c₀ :: cs) with
        | some (x, cs') => K (a.put o.dst x) cs' w
        | none => K (a.put o.dst .nilIface) (c₀ :: cs) w) := by
      cases m with
      | ret =>
        simp only [aRecover, Option.some.injEq, Prod.mk.injEq] at hrec
        obtain ⟨rfl, rfl⟩ := hrec
        simp only [MR] at hm
        subst hm
        refine ⟨.nilIface, .returning, .v _, rfl, fun K a hK => ?_⟩
        have : recoverD (c₀ :: cs) = none := by simp [recoverD, hu]
        rw [this]
        have e : ({ c₀ with mode := .returning } : Frame) = c₀ := by rw [← hu]
        rw [e] at hK
        exact hK
      | pan a0 =>
        simp only [aRecover, Option.some.injEq, Prod.mk.injEq] at hrec
        obtain ⟨rfl, rfl⟩ := hrec
        obtain ⟨x, hx, rfl⟩ := hm
        refine ⟨x, .panicking [{ v := x, recovered := true }], hx, ⟨x, hx, rfl⟩, fun K a hK => ?_⟩
        have : recoverD (c₀ :: cs) = some (x, { c₀ with mode := .panicking [{ v := x, recovered := true }] } :: cs) := by simp [recoverD, hu]
        rw [this]
        exact hK
      | recd a0 => simp [aRecover] at hrec
    have hgoal : wpOpsS P #[o] (Exit.thenS (y.wpS P (bodyPostS P fn c₀ cs (DefPost P B γ w0 m' h' c'))) (bodyPostS P fn c₀ cs (DefPost P B γ w0 m' h' c'))) [0]
        { tmps := (vs ++ ws) ++ Array.replicate (fn.ntmps - (vs ++ ws).size) undef, defers := [] } (c₀ :: cs) w := by
      simp only [wpOpsS]
      have ho : (#[o] : Array Oper)[0]? = some o := rfl
      simp only [ho, hwant, if_true, hex]
      have hK := hrun (fun a cs' w' => Exit.thenS (y.wpS P (bodyPostS P fn c₀ cs (DefPost P B γ w0 m' h' c'))) (bodyPostS P fn c₀ cs (DefPost P B γ w0 m' h' c')) .normal a cs' w')
        { tmps := (vs ++ ws) ++ Array.replicate (fn.ntmps - (vs ++ ws).size) undef, defers := [] } (wpS_of_wp ?_)
      · revert hK
        cases recoverD (c₀ :: cs) with
        | none => exact fun hq => hq
        | some x => exact fun hq => hq
      · refine hih.1 y fn.ntmps ⟨T, h, c, []⟩ γ _ w _ (hfr.put (Gm.le.refl _) hv' hT) hr hb ?_
        rw [hres]
        intro γ' e' a' w' h1 h2 h3 h4 h5
        obtain ⟨rv, hrv, hrr⟩ := aResults_ok h4 h3.tmps hav
        rcases hee with rfl | rfl
        · cases e' <;> first | exact h2.elim | skip
          exact ⟨DR_nil h3.defs, u', rfl, rv, hrr, γ', h1, hm'.mono h1, h4, h5⟩
        · cases e' <;> first | exact h2.elim | skip
          exact ⟨DR_nil h3.defs, u', rfl, rv, hrr, γ', h1, hm'.mono h1, h4, h5⟩
    exact hgoal
  · obtain ⟨rfl, Te, e, av, hres, hee, hav⟩ := aDefEnd_ok hh
    refine (callsD_of_wp (R := fun e w' => DefPost P B γ w0 m' h' c' e u w') hf hbd (hih.1 code fn.ntmps ⟨putL .leaf 0 (d.args ++ d.cap), h, c, []⟩ γ _ w _ hfr hr hb ?_)).mono (fun e u' w' hR => by
      obtain ⟨rfl, hR⟩ := hR
      exact hR)
    rw [hres]
    intro γ' e' a' w' h1 h2 h3 h4 h5
    obtain ⟨rv, hrv, hrr⟩ := aResults_ok h4 h3.tmps hav
    rcases hee with rfl | rfl
    · cases e' <;> first | exact h2.elim | skip
      exact ⟨DR_nil h3.defs, rv, hrr, γ', h1, hm.mono h1, h4, h5⟩
    · cases e' <;> first | exact h2.elim | skip
      exact ⟨DR_nil h3.defs, rv, hrr, γ', h1, hm.mono h1, h4, h5⟩
theorem aLeaves_ok (hn : Fine P I) {ih : IH} (hih : IHok P B w0 ih) {fn : Func} {T : Tr AV} {tmps : Array Value} : ∀ {ds : List ADef} {dl : List Deferred} {m : AMode} {u : FrameMode} {h : Hp} {c : Nat} {γ : Gm} {w : World}, DR γ ds dl → MR γ m u → TR γ T tmps →
    HR B P.globals.size γ h c w → Keep B w0 w → aLeaves P ih fn T ds m h c ≠ .fail → Leaves P fn tmps (Ret B P.globals.size γ w0 (aLeaves P ih fn T ds m h c)) dl u w
  | [], [], m, u, h, c, γ, w, hd, hm, ht, hr, hb, hne => by
    cases m with
    | ret =>
      simp only [MR] at hm
      subst hm
      simp only [aLeaves] at hne ⊢
      split at hne
      · rename_i av hav
        obtain ⟨v, h1, h2⟩ := aResults_ok hr ht hav
        exact ⟨v, h2, γ, v, rfl, Gm.le.refl _, h1, hr, hb⟩
      · exact (hne rfl).elim
    | pan a =>
      obtain ⟨v, h1, rfl⟩ := hm
      exact ⟨γ, v, rfl, Gm.le.refl _, h1, hr, hb⟩
    | recd a => exact (hne rfl).elim
  | d :: ds, dd :: dl, m, u, h, c, γ, w, hd, hm, ht, hr, hb, hne => by
    simp only [aLeaves] at hne ⊢
    split at hne
    · rename_i m' h' c' hdc
      obtain ⟨fn', code, vs, ws, hf, hbd, hdd, hcall⟩ := evDefCall_ok hih hd.1 hm hr hb hdc
      subst hdd
      refine leaves_cons ?_ ?_ ((hcall).mono (fun e u' w' hR => ?_))
      · cases m with
        | ret => simp only [MR] at hm; subst hm; simp
        | pan a => obtain ⟨v, _, rfl⟩ := hm; simp
        | recd a => obtain ⟨v, _, rfl⟩ := hm; simp
      · simp only [invoke]
        exact enter_ok hn hf hbd _ w
      · cases e with
        | returned v =>
          obtain ⟨γ', h1, h2, h3, h4⟩ := hR
          have := aLeaves_ok hn hih (hd.2.mono h1) (settle_ok h2) (ht.mono h1) h3 h4 hne
          exact leaves_mono (fun e w hR => hR.le h1) this
        | panicked ch => exact hR.elim
        | outgrown => exact hR.elim
    · exact (hne rfl).elim
  | [], _ :: _, _, _, _, _, _, _, hd, _, _, _, _, _ => hd.elim
  | _ :: _, [], _, _, _, _, _, _, hd, _, _, _, _, _ => hd.elim
theorem evBody_ok (hn : Fine P I) {ih : IH} (hih : IHok P B w0 ih) : CallOk P B P.globals.size w0 (evBody P ih) := by
  intro f fn code args h c γ w vs hf hbd hr hb hl hne
  refine calls_of_wp_defers hf hbd ?_
  have hcall : evBody P ih f args h c = (match Nat.ble args.length fn.ntmps with
      | false => .fail
      | true => match ih code fn.ntmps ⟨putL .leaf 0 args, h, c, []⟩ with
        | .ok .normal s => aLeaves P ih fn s.T s.ds .ret s.h s.c
        | .ok .ret s => aLeaves P ih fn s.T s.ds .ret s.h s.c
        | .ok (.pan av) s => aLeaves P ih fn s.T s.ds (.pan av) s.h s.c
        | _ => .fail) := by
    unfold evBody
    simp only [hf, hbd]
  rw [hcall] at hne ⊢
  clear hcall
  split at hne
  · exact (hne rfl).elim
  rename_i hle
  have hle : args.length ≤ fn.ntmps := Nat.le_of_ble_eq_true hle
  have hlv := hl.1
  have hfr : FR γ fn.ntmps (putL .leaf 0 args) [] { tmps := vs.toArray ++ Array.replicate (fn.ntmps - vs.toArray.size) undef, defers := [] } :=
    ⟨by simp; omega, putL_TR (by simpa using hl) _, trivial⟩
  refine hih.1 code fn.ntmps ⟨putL .leaf 0 args, h, c, []⟩ γ _ w _ hfr hr hb ?_
  split at hne
  · rename_i s hres
    rw [hres]
    intro γ' e' a w' h1 h2 h3 h4 h5
    cases e' <;> first | exact h2.elim | skip
    exact leaves_mono (fun e w hR => hR.le h1) (aLeaves_ok (m := .ret) hn hih h3.defs rfl h3.tmps h4 h5 hne)
  · rename_i s hres
    rw [hres]
    intro γ' e' a w' h1 h2 h3 h4 h5
    cases e' <;> first | exact h2.elim | skip
    exact leaves_mono (fun e w hR => hR.le h1) (aLeaves_ok (m := .ret) hn hih h3.defs rfl h3.tmps h4 h5 hne)
  · rename_i av s hres
    rw [hres]
    intro γ' e' a w' h1 h2 h3 h4 h5
    cases e' <;> first | exact h2.elim | skip
    obtain ⟨v, h6, h7⟩ := h2
    subst h7
    exact leaves_mono (fun e w hR => hR.le h1) (aLeaves_ok (m := .pan av) hn hih h3.defs ⟨v, h6, rfl⟩ h3.tmps h4 h5 hne)
  · exact (hne rfl).elim
theorem evCall_ok (hn : Fine P I) (hW : ∀ w, Keep B w0 w → I.W w) {ih : IH} (hih : IHok P B w0 ih) : CallOk P B P.globals.size w0 (evCall P I ih) := by
  intro f fn code args h c γ w vs hf hbd hr hb hl hne
  have hbody := evBody_ok hn hih f fn code args h c γ w vs hf hbd hr hb hl
  unfold evCall at hne ⊢
  split at hne
  · rename_i av hk
    have hWw : I.W w := hW w hb
    refine (hn.known f args av hk γ vs w hl hWw).mono fun e w' hR => ?_
    obtain ⟨v, rfl, h1, h2⟩ := hR
    refine ⟨γ, v, rfl, Gm.le.refl _, h1, hr.kept h2.size h2.block, hb.trans (Keep.of_below h2 hr.base)⟩
  · exact hbody hne
theorem evStep_ok (hm : P.follows .mixedOrders = true) (hn : Fine P I) (hW : ∀ w, Keep B w0 w → I.W w) {ih : IH} (hih : IHok P B w0 ih) : IHok P B w0 (evStep P I ih) := by
  rw [evStep_eq]
  have hcall := evCall_ok (I := I) hn hW hih
  have hloop : ∀ (code : Code) (nt : Nat) (s : St) (γ : Gm) (a : Act) (w : World) (Q : Exit → Act → World → Prop), FR γ nt s.T s.ds a → HR B P.globals.size γ s.h s.c w → Keep B w0 w → KOk2 B P.globals.size γ w0 nt Q (evStepS P I ih (.loop code) nt s) → LoopBody P code Q a w := by
    intro code nt s γ a w Q hf hr hb hk
    refine loopBody_of (hih.1 code nt s γ a w _ hf hr hb ?_)
    simp only [evStepS] at hk
    cases hc : ih code nt s with
    | fail => rw [hc] at hk; exact hk
    | ok e s' =>
      rw [hc] at hk
      intro γ' e' a' w' h1 h2 h3 h4 h5
      cases e with
      | normal =>
        cases e' <;> first | exact h2.elim | skip
        exact hih.2 code nt s' γ' a' w' Q h3 h4 h5 (hk.le h1)
      | exit id =>
        cases e' <;> first | exact h2.elim | skip
        exact hk γ' _ a' w' h1 h2 h3 h4 h5
      | ret =>
        cases e' <;> first | exact h2.elim | skip
        exact hk γ' _ a' w' h1 h2 h3 h4 h5
      | pan av =>
        cases e' <;> first | exact h2.elim | skip
        exact hk γ' _ a' w' h1 h2 h3 h4 h5
  refine ⟨fun code nt s γ a w Q hf hr hb hk => ?_, hloop⟩
  cases code with
  | skip => exact wp_skip (hk γ .normal a w (Gm.le.refl _) trivial hf hr hb)
  | region id ops draw =>
    cases draw with
    | false =>
      refine wp_region ?_
      have := evalSeq_ok (Q := Q) hn hcall ops.toList 0 s.T s.h s.c s.ds γ a w (fun j o hj => by rw [Nat.zero_add]; simpa using hj) hf hr hb hk
      rw [List.range_eq_range']
      simpa using this
    | true => exact evalDraw_ok hm hn hcall hf hr hb hk
  | seq x y =>
    refine wp_seq (hih.1 x nt s γ a w _ hf hr hb ?_)
    simp only [evStepS] at hk
    cases hc : ih x nt s with
    | fail => rw [hc] at hk; exact hk
    | ok e s' =>
      rw [hc] at hk
      intro γ' e' a' w' h1 h2 h3 h4 h5
      cases e with
      | normal =>
        cases e' <;> first | exact h2.elim | skip
        exact hih.1 y nt s' γ' a' w' Q h3 h4 h5 (hk.le h1)
      | exit id =>
        cases e' <;> first | exact h2.elim | skip
        exact hk γ' _ a' w' h1 h2 h3 h4 h5
      | ret =>
        cases e' <;> first | exact h2.elim | skip
        exact hk γ' _ a' w' h1 h2 h3 h4 h5
      | pan av =>
        cases e' <;> first | exact h2.elim | skip
        exact hk γ' _ a' w' h1 h2 h3 h4 h5
  | cond c x y =>
    simp only [evStepS] at hk
    split at hk <;> first | exact hk.elim | skip
    all_goals
      rename_i hc
      have hcv := hf.ok (P := P) (B := B) (G := 0) hr.glob [c] c (by simp) _ hc
      generalize hvc : a.eval c = vc at hcv
      cases hcv
    · exact wp_cond_true hvc (hih.1 x nt s γ a w Q hf hr hb hk)
    · exact wp_cond_false hvc (hih.1 y nt s γ a w Q hf hr hb hk)
  | block id x =>
    refine wp_block (hih.1 x nt s γ a w _ hf hr hb ?_)
    simp only [evStepS] at hk
    cases hc : ih x nt s with
    | fail => rw [hc] at hk; exact hk
    | ok e s' =>
      rw [hc] at hk
      intro γ' e' a' w' h1 h2 h3 h4 h5
      cases e with
      | normal =>
        cases e' <;> first | exact h2.elim | skip
        exact hk γ' _ a' w' h1 h2 h3 h4 h5
      | exit j =>
        cases e' <;> first | exact h2.elim | skip
        rename_i j'
        have hj : j = j' := h2
        subst hj
        simp only at hk
        split at hk
        · rename_i hji
          have hji := Nat.eq_of_beq_eq_true hji
          simp only [Exit.inBlock, hji, if_true]
          exact hk γ' .normal a' w' h1 trivial h3 h4 h5
        · rename_i hji
          have hji := Nat.ne_of_beq_eq_false hji
          simp only [Exit.inBlock, if_neg hji]
          exact hk γ' (.exit j) a' w' h1 rfl h3 h4 h5
      | ret =>
        cases e' <;> first | exact h2.elim | skip
        exact hk γ' _ a' w' h1 h2 h3 h4 h5
      | pan av =>
        cases e' <;> first | exact h2.elim | skip
        exact hk γ' _ a' w' h1 h2 h3 h4 h5
  | loop x => exact loop_of (hloop x nt s γ a w Q hf hr hb hk)
  | exit id => exact wp_exit (hk γ (.exit id) a w (Gm.le.refl _) rfl hf hr hb)
  | label l => exact wp_label (hk γ .normal a w (Gm.le.refl _) trivial hf hr hb)
  | ret => exact wp_ret (hk γ .ret a w (Gm.le.refl _) trivial hf hr hb)
  | rangeFunc f ps as b => exact hk.elim
  | scope x =>
    refine wp_scope_straight (hih.1 x nt s γ a w _ hf hr hb ?_)
    simp only [evStepS] at hk
    cases hc : ih x nt s with
    | fail => rw [hc] at hk; exact hk
    | ok e s' =>
      rw [hc] at hk
      intro γ' e' a' w' h1 h2 h3 h4 h5
      cases e with
      | normal =>
        cases e' <;> first | exact h2.elim | skip
        exact hk γ' _ a' w' h1 h2 h3 h4 h5
      | exit id =>
        cases e' <;> first | exact h2.elim | skip
        exact hk γ' _ a' w' h1 h2 h3 h4 h5
      | ret =>
        cases e' <;> first | exact h2.elim | skip
        exact hk γ' _ a' w' h1 h2 h3 h4 h5
      | pan av =>
        cases e' <;> first | exact h2.elim | skip
        exact hk γ' _ a' w' h1 h2 h3 h4 h5
  | goto l => exact hk.elim
  | refuse y => exact hk.elim
theorem ev_ok (hm : P.follows .mixedOrders = true) (hn : Fine P I) (hW : ∀ w, Keep B w0 w → I.W w) : ∀ n, IHok P B w0 (ev P I n)
  | 0 => ⟨fun _ _ _ _ _ _ _ _ _ _ hk => hk.elim, fun _ _ _ _ _ _ _ _ _ _ hk => hk.elim⟩
  | n + 1 => evStep_ok hm hn hW (ev_ok hm hn hW n)

theorem fine_of {P : Program} {I : Aux} (hi : ∀ (f : Nat), I.I f = true → ∀ (x : Value) (w : World), (callFunc f #[x]).run P w = .ok (.value x) w)
    (hk : ∀ (f : Nat) (args : List AV) (av : AV), I.K f args = some av → ∀ (γ : Gm) (vs : List Value) (w : World), LR γ args vs → I.W w → Calls P f vs.toArray w fun e w' => ∃ v, e = .returned v ∧ VR γ av v ∧ Below w.heap.size w w')
    (hs : ∀ (w w' : World), I.W w → Below w.heap.size w w' → I.W w') (h : (P.funcs.toList.all fun fn => fn.body.isNone || !(fn.name == "runtime.NumGoroutine")) = true) : Fine P I := by
  refine ⟨fun f fn hf hb => ?_, hi, hk, hs⟩
  have := List.all_eq_true.1 h fn (by simpa using Array.mem_of_getElem? hf)
  rw [Bool.or_eq_true] at this
  rcases this with h1 | h1
  · cases hbd : fn.body with
    | none => rw [hbd] at hb; cases hb
    | some c => rw [hbd] at h1; cases h1
  · simpa using h1
/-- a call, reckoned from an empty memory -/
noncomputable def reckon (P : Program) (I : Aux) (n : Nat) (f : FuncId) (args : List AV) : R1 := evCall P I (ev P I n) f args .leaf P.globals.size
def okTrue : R1 → Bool
  | .val (.v (.bool true)) _ _ => true
  | _ => false
theorem ret_true {B : Nat → Prop} {G : Nat} {γ : Gm} {w : World} {r : R1} {e : Ending} {w' : World} (h : okTrue r = true) (hR : Ret B G γ w r e w') : e = .returned (.bool true) ∧ Keep B w w' := by
  unfold okTrue at h
  split at h
  · rename_i h' c' hres
    obtain ⟨γ', v, rfl, _, hv, _, hb'⟩ := hR
    cases hv
    exact ⟨rfl, hb'⟩
  · cases h
theorem reckon_true (hm : P.follows .mixedOrders = true) (hn : Fine P I) {n : Nat} {f : FuncId} {fn : Func} (hf : P.funcs[f]? = some fn) (hb : fn.body.isSome = true) (h : okTrue (reckon P I n f []) = true) (w : World) (hW : I.W w) :
    Calls P f #[] w fun e w' => e = .returned (.bool true) ∧ Below w.heap.size w w' := by
  obtain ⟨code, hb⟩ := Option.isSome_iff_exists.1 hb
  have hWW : ∀ w', Keep (· < w.heap.size) w w' → I.W w' := fun w' hk => hn.stays w w' hW hk.below
  have hcall := evCall_ok (I := I) (B := (· < w.heap.size)) (w0 := w) hn hWW (ev_ok (P := P) (B := (· < w.heap.size)) (w0 := w) hm hn hWW n)
  unfold reckon at h
  have hr : HR (· < w.heap.size) P.globals.size (fun g => if g < P.globals.size then some (g, 0) else none) .leaf P.globals.size w :=
    ⟨fun b blk hb => (by rw [Tr.get_leaf] at hb; cases hb), fun b b' blk blk' p p' hb => (by rw [Tr.get_leaf] at hb; cases hb), fun b hb => by show (if b < P.globals.size then _ else _) = _; rw [if_neg (by omega)], fun g hg => ⟨0, by show (if g < P.globals.size then _ else _) = _; rw [if_pos hg]⟩, fun k hk => hk⟩
  exact (hcall f fn code [] .leaf P.globals.size _ w [] hf hb hr (Keep.refl _ _) LR.nil (fun e => by rw [e] at h; cases h)).mono fun e w' hR => let ⟨h1, h2⟩ := ret_true h hR; ⟨h1, h2.below⟩

/-! a memory in which a table lies -/
def natAVs : List Nat → List AV
  | [] => []
  | n :: l => .v (.int .u64 (.ofNat n)) :: natAVs l
theorem natAVs_LR {γ : Gm} : ∀ (l : List Nat), LR γ (natAVs l) (l.map fun (n : Nat) => Value.int .u64 (n : Int))
  | [] => LR.nil
  | n :: l => LR.cons (.v _) (natAVs_LR l)
def tabHp (g : Nat) (zs : List Nat) : Hp := Tr.leaf.put g (some (.cells 0 false false false zs.length (putL .leaf 0 (natAVs zs))))
noncomputable def reckonT (P : Program) (I : Aux) (n : Nat) (g : Nat) (zs : List Nat) (f : FuncId) (args : List AV) : R1 := evCall P I (ev P I n) f args (tabHp g zs) P.globals.size
/-- the table lies in the world -/
def TabAt (g : Nat) (zs : List Nat) (w : World) : Prop := ∃ ty fz, w.heap[g]? = some (.cells (zs.map fun (n : Nat) => Value.int .u64 (n : Int)).toArray ty fz)
theorem reckonT_ret (hm : P.follows .mixedOrders = true) (hn : Fine P I) {n g : Nat} {zs : List Nat} (hg : g < P.globals.size) {f : FuncId} {fn : Func} (hf : P.funcs[f]? = some fn) (hb : fn.body.isSome = true)
    {args : List AV} {vs : List Value} (w : World) (hl : ∀ γ, LR γ args vs) (hne : reckonT P I n g zs f args ≠ .fail) (ht : TabAt g zs w) (hW : I.W w) :
    ∃ γ, Calls P f vs.toArray w (Ret (· < w.heap.size) P.globals.size γ w (reckonT P I n g zs f args)) := by
  obtain ⟨code, hb⟩ := Option.isSome_iff_exists.1 hb
  have hWW : ∀ w', Keep (· < w.heap.size) w w' → I.W w' := fun w' hk => hn.stays w w' hW hk.below
  have hcall := evCall_ok (I := I) (B := (· < w.heap.size)) (w0 := w) hn hWW (ev_ok (P := P) (B := (· < w.heap.size)) (w0 := w) hm hn hWW n)
  obtain ⟨ty, fz, hheap⟩ := ht
  have hget : ∀ b blk, (tabHp g zs).get b = some blk → b = g ∧ blk = .cells 0 false false false zs.length (putL .leaf 0 (natAVs zs)) := by
    intro b blk hb'
    unfold tabHp at hb'
    rw [Tr.get_put] at hb'
    split at hb'
    · rename_i e
      injection hb' with hb'
      exact ⟨e, hb'.symm⟩
    · rw [Tr.get_leaf] at hb'; cases hb'
  have hr : HR (· < w.heap.size) P.globals.size (fun x => if x < P.globals.size then some (x, if x = g then zs.length else 0) else none) (tabHp g zs) P.globals.size w := by
    refine ⟨fun b blk hb' => ?_, fun b b' blk blk' p p' h1 h2 _ _ _ => (hget _ _ h1).1.trans (hget _ _ h2).1.symm, fun b hb => by show (if b < P.globals.size then _ else _) = _; rw [if_neg (by omega)],
      fun x hx => ⟨_, by show (if x < P.globals.size then _ else _) = _; rw [if_pos hx]⟩, fun k hk => hk⟩
    obtain ⟨rfl, rfl⟩ := hget b blk hb'
    refine ⟨(b, zs.length), by show (if b < P.globals.size then _ else _) = _; rw [if_pos hg, if_pos rfl], fun e => (by cases e), _, ty, fz, hheap, by simp, ⟨fun e => (by cases e), fun e => (by cases e)⟩, fun i av hlt hi => ?_⟩
    have hl := natAVs_LR (γ := fun x => if x < P.globals.size then some (x, if x = b then zs.length else 0) else none) zs
    have hll := hl.1
    simp only [List.length_map] at hll
    rw [putL_get, if_pos ⟨by omega, by omega⟩] at hi
    obtain ⟨v, h1, h2⟩ := hl.get (by simpa using hi)
    exact ⟨v, by simpa using h1, h2⟩
  exact ⟨_, hcall f fn code args (tabHp g zs) P.globals.size _ w vs hf hb hr (Keep.refl _ _) (hl _) hne⟩
theorem reckonT_true (hm : P.follows .mixedOrders = true) (hn : Fine P I) {n g : Nat} {zs : List Nat} (hg : g < P.globals.size) {f : FuncId} {fn : Func} (hf : P.funcs[f]? = some fn) (hb : fn.body.isSome = true)
    (h : okTrue (reckonT P I n g zs f []) = true) (w : World) (ht : TabAt g zs w) (hW : I.W w) :
    Calls P f #[] w fun e w' => e = .returned (.bool true) ∧ Below w.heap.size w w' := by
  obtain ⟨γ, hc⟩ := reckonT_ret hm hn hg hf hb w (fun _ => LR.nil) (fun e => by rw [e] at h; cases h) ht hW
  exact hc.mono fun e w' hR => let ⟨h1, h2⟩ := ret_true h hR; ⟨h1, h2.below⟩
end
end Go.Sy
end
end

section
/- Plain helpers over the model's worlds: strings as lists of bytes, slices as lists of cells. No program is named; there are no conditions. -/
namespace Go.As
open Go Go.RowKit

/-! strings -/
/-- a string of these bytes -/
def str (l : List UInt8) : ByteArray := ⟨l.toArray⟩
theorem exists_str (s : ByteArray) : ∃ l : List UInt8, s = str l := ⟨s.data.toList, by simp [str]⟩
@[go_sem] theorem str_of_mk (l : List UInt8) : ByteArray.mk l.toArray = str l := rfl
@[go_sem] theorem str_toList (l : List UInt8) : (str l).toList = l := ByteArray.toList_mk l
theorem str_data (l : List UInt8) : (str l).data.toList = l := by simp [str]
@[go_sem] theorem str_size (l : List UInt8) : (str l).size = l.length := by simp [str, ByteArray.size]
@[go_sem] theorem str_get (l : List UInt8) (i : Nat) (h : i < (str l).size) : (str l)[i] = l[i]'(by simpa [str, ByteArray.size] using h) := rfl
@[go_sem] theorem str_extract (l : List UInt8) (a b : Nat) : (str l).extract a b = str ((l.drop a).take (b - a)) := ByteArray.extract_mk l a b
@[go_sem] theorem str_append (a b : List UInt8) : str a ++ str b = str (a ++ b) := by
  apply ByteArray.ext; simp [str, ByteArray.data_append]
theorem str_inj {a b : List UInt8} (h : str a = str b) : a = b := by
  have := congrArg (fun s : ByteArray => s.data.toList) h
  simpa [str] using this

/-! endings -/
theorem ret_int {k : IntKind} {a b : Int} (h : a = b) : Ending.returned (.int k a) = .returned (.int k b) := by rw [h]
theorem ret_bool {a b : Bool} (h : a = b) : Ending.returned (.bool a) = .returned (.bool b) := by rw [h]

/-! addresses -/
theorem blk_add (a : Addr) (n : Nat) : (a.add n).block = a.block := by unfold Addr.add; split <;> rfl
theorem add_add' (a : Addr) (i j : Nat) : (a.add i).add j = a.add (i + j) := by
  unfold Addr.add
  by_cases hi : i = 0 <;> by_cases hj : j = 0 <;> simp [hi, hj, Nat.add_assoc]

/-! the world below a block -/
theorem below_alloc {w w1 : World} (hb : Below w.heap.size w w1) (o : Obj) : Below w.heap.size w (w1.alloc o) := hb.alloc hb.size o
theorem below_set {w w1 : World} (hb : Below w.heap.size w w1) {p : Addr} (h : w.heap.size ≤ p.block) (u : Value) : Below w.heap.size w (w1.setCell p u) := hb.setCell h u
theorem below_then {w w1 w2 : World} (h : Below w.heap.size w w1) (h2 : Below w1.heap.size w1 w2) : Below w.heap.size w w2 := h.trans (h2.mono h.size)

/-! a slice's cells: 'n' elements of 'sz' cells each, one behind the other -/
/-- the slice's 'n' elements, of 'sz' cells each, are the cells 'xs' -/
def Sl (w : World) (sz : Nat) (a : Option Addr) (n : Nat) (xs : List Value) : Prop :=
  xs.length = n * sz ∧ (0 < n → ∃ ad, a = some ad ∧ ad.block < w.heap.size ∧ ∀ j u, xs[j]? = some u → w.cell? (ad.add j) = some u)

section
variable {w w' : World} {sz n : Nat} {a : Option Addr} {xs : List Value}
theorem Sl.len (h : Sl w sz a n xs) : xs.length = n * sz := h.1
theorem Sl.len1 (h : Sl w 1 a n xs) : xs.length = n := by have := h.1; omega
theorem Sl.empty (w : World) (sz : Nat) (a : Option Addr) : Sl w sz a 0 [] := ⟨by simp, fun h => absurd h (by omega)⟩
theorem Sl.keep (h : Sl w sz a n xs) (hs : w.heap.size ≤ w'.heap.size) (hk : ∀ p : Addr, p.block < w.heap.size → w'.cell? p = w.cell? p) : Sl w' sz a n xs :=
  ⟨h.1, fun hn => by
    obtain ⟨ad, e, hb, hc⟩ := h.2 hn
    exact ⟨ad, e, by omega, fun j u hu => (hk _ (by rw [blk_add]; exact hb)).trans (hc j u hu)⟩⟩
/-- kept where its own block is kept -/
theorem Sl.keepB (h : Sl w sz a n xs) (hs : w.heap.size ≤ w'.heap.size) (hk : ∀ ad, a = some ad → w'.heap[ad.block]? = w.heap[ad.block]?) : Sl w' sz a n xs :=
  ⟨h.1, fun hn => by
    obtain ⟨ad, e, hb, hc⟩ := h.2 hn
    exact ⟨ad, e, by omega, fun j u hu => (World.cell?_of_block (by rw [blk_add]; exact hk ad e)).trans (hc j u hu)⟩⟩
theorem Sl.below (h : Sl w sz a n xs) (hb : Below w.heap.size w w') : Sl w' sz a n xs := h.keep hb.size fun _ hp => hb.cell hp
theorem Sl.at_ {k j : Nat} (h : Sl w sz a n xs) (hk : k < n) (hj : j < sz) : ∃ ad u, a = some ad ∧ ad.block < w.heap.size ∧ xs[k * sz + j]? = some u ∧ w.cell? (ad.add (k * sz + j)) = some u := by
  obtain ⟨ad, e, hb, hc⟩ := h.2 (by omega)
  have hl : k * sz + j < xs.length := by
    rw [h.1]
    calc k * sz + j < k * sz + sz := by omega
      _ = (k + 1) * sz := by rw [Nat.add_mul]; omega
      _ ≤ n * sz := Nat.mul_le_mul_right _ hk
  exact ⟨ad, xs[k * sz + j], e, hb, List.getElem?_eq_getElem hl, hc _ _ (List.getElem?_eq_getElem hl)⟩
theorem Sl.at1 {k : Nat} (h : Sl w 1 a n xs) (hk : k < n) : ∃ ad u, a = some ad ∧ ad.block < w.heap.size ∧ xs[k]? = some u ∧ w.cell? (ad.add k) = some u := by
  simpa using h.at_ hk (show 0 < 1 by omega)
theorem Sl.cut (h : Sl w sz a n xs) {k cap : Nat} (hk : k ≤ n) (hc : n ≤ cap) :
    Sl w sz (if cap = k then a else a.map (·.add (k * sz))) (n - k) (xs.drop (k * sz)) := by
  refine ⟨by rw [List.length_drop, h.1, Nat.sub_mul], fun hn => ?_⟩
  obtain ⟨ad, rfl, hb, hcell⟩ := h.2 (by omega)
  rw [if_neg (by omega)]
  refine ⟨ad.add (k * sz), rfl, by rw [blk_add]; exact hb, fun j u hu => ?_⟩
  rw [add_add']
  exact hcell _ u (by rw [← hu, List.getElem?_drop])
theorem Sl.take (h : Sl w sz a n xs) {k : Nat} (hk : k ≤ n) : Sl w sz a k (xs.take (k * sz)) := by
  refine ⟨by rw [List.length_take, h.1]; exact Nat.min_eq_left (Nat.mul_le_mul_right _ hk), fun hn => ?_⟩
  obtain ⟨ad, e, hb, hc⟩ := h.2 (by omega)
  refine ⟨ad, e, hb, fun j u hu => hc j u ?_⟩
  rw [List.getElem?_take] at hu
  split at hu
  · exact hu
  · cases hu
theorem Sl.of_own {base : Nat} {e : TypeId} {c : Nat} (h : w.ownsRow base e sz (.slice a n c) n xs) : Sl w sz a n xs := by
  refine ⟨h.1, fun hn => ?_⟩
  obtain ⟨g, cap, hv, _, hlt⟩ := h.form hn
  have hA : a = some ⟨g, 0, none⟩ := by injection hv
  subst hA
  exact ⟨_, rfl, hlt, h.cells (g := g) rfl⟩
end

/-- an owned row's value is a slice of so many elements -/
theorem own_form {w : World} {base : Nat} {e : TypeId} {sz : Nat} {v : Value} {n : Nat} {xs : List Value} (h : w.ownsRow base e sz v n xs) :
    ∃ a c, v = .slice a n c ∧ n ≤ c ∧ c ≤ maxLen := by
  rcases h.2 with ⟨rfl, rfl⟩ | ⟨g, cap, cur, rfl, _, _, h1, h2, _⟩
  · exact ⟨none, 0, rfl, Nat.le_refl _, by simp [maxLen]⟩
  · exact ⟨_, _, rfl, h1, h2⟩
theorem own_below {w w' : World} {base : Nat} {e : TypeId} {sz : Nat} {v : Value} {n : Nat} {xs : List Value} (h : w.ownsRow base e sz v n xs) (hb : Below w.heap.size w w') : w'.ownsRow base e sz v n xs :=
  h.kept (row := none) ⟨hb.os, hb.tape, hb.output, hb.size, fun k hk _ => hb.block k hk⟩ (by cases v.ownBlock <;> simp)
theorem own_mono {w : World} {base base' : Nat} {e : TypeId} {sz : Nat} {v : Value} {n : Nat} {xs : List Value} (h : w.ownsRow base e sz v n xs) (hb : base' ≤ base) : w.ownsRow base' e sz v n xs := by
  refine ⟨h.1, ?_⟩
  rcases h.2 with h2 | ⟨g, cap, cur, hv, hg, r⟩
  · exact .inl h2
  · exact .inr ⟨g, cap, cur, hv, by omega, r⟩

/-! a block that is known whole -/
def Blk (w : World) (g : Nat) (t : TypeId) (cs : Array Value) : Prop := w.heap[g]? = some (.cells cs t (0, 0))
section
variable {w w' : World} {g : Nat} {t : TypeId} {cs : Array Value}
theorem Blk.lt (h : Blk w g t cs) : g < w.heap.size := by
  rcases Nat.lt_or_ge g w.heap.size with hlt | hge
  · exact hlt
  · unfold Blk at h; rw [Array.getElem?_eq_none hge] at h; cases h
theorem Blk.cell (h : Blk w g t cs) (i : Nat) : w.cell? ⟨g, i, none⟩ = cs[i]? := cell_of_row w g i cs t (0, 0) h
theorem Blk.frozen (h : Blk w g t cs) (i : Nat) : w.frozen? ⟨g, i, none⟩ = false := by
  unfold Blk at h
  simp [World.frozen?, h]
theorem Blk.new (w : World) (t : TypeId) (cs : Array Value) : Blk (w.alloc (.cells cs t)) w.heap.size t cs := heap_alloc_new w _
theorem Blk.alloc (h : Blk w g t cs) (o : Obj) : Blk (w.alloc o) g t cs := (Below.heap_alloc w o g h.lt).trans h
theorem Blk.set_ (h : Blk w g t cs) (i : Nat) (u : Value) : Blk (w.setCell ⟨g, i, none⟩ u) g t (cs.setIfInBounds i u) := by
  unfold Blk at h ⊢
  simp [World.setCell, Array.getElem?_modify, h]
theorem Blk.far (h : Blk w g t cs) {p : Addr} (hp : g ≠ p.block) (u : Value) : Blk (w.setCell p u) g t cs := (Below.heap_setCell w p u g hp).trans h
theorem Blk.below {B : Nat} (h : Blk w g t cs) (hb : Below B w w') (hg : g < B) : Blk w' g t cs := (hb.block g hg).trans h
theorem Blk.belowS (h : Blk w g t cs) (hb : Below w.heap.size w w') : Blk w' g t cs := h.below hb h.lt
theorem Blk.grown {row : Option Nat} (h : Blk w g t cs) (hb : w.grownBy w' row) (hg : some g ≠ row) : Blk w' g t cs := (hb.block g h.lt hg).trans h
theorem Blk.ne_ {g' : Nat} {t' : TypeId} {cs' : Array Value} (h : Blk w g t cs) (h' : Blk w g' t' cs') (hne : t ≠ t') : g ≠ g' := by
  rintro rfl
  unfold Blk at h h'
  rw [h] at h'
  injection h' with h'
  injection h' with _ ht
  exact hne ht
end

/-- rows of different element types never share a block -/
theorem own_ne {w : World} {base : Nat} {e : TypeId} {sz n : Nat} {v : Value} {xs : List Value} {g : Nat} {t : TypeId} {cs : Array Value} (h : w.ownsRow base e sz v n xs) (hg : Blk w g t cs) (hne : e ≠ t) : v.ownBlock ≠ some g := by
  rcases h.2 with ⟨rfl, _⟩ | ⟨g', cap, cur, rfl, _, hh, _⟩
  · simp [Value.ownBlock]
  · intro he
    have : g' = g := by simpa [Value.ownBlock] using he
    subst this
    exact Blk.ne_ (t := e) hh hg hne rfl
theorem own_set {w : World} {base : Nat} {e : TypeId} {sz n : Nat} {v : Value} {xs : List Value} (h : w.ownsRow base e sz v n xs) {p : Addr} (hp : v.ownBlock ≠ some p.block) (u : Value) : (w.setCell p u).ownsRow base e sz v n xs := by
  refine ⟨h.1, ?_⟩
  rcases h.2 with h2 | ⟨g, cap, cur, hv, hg, hh, r⟩
  · exact .inl h2
  · subst hv
    exact .inr ⟨g, cap, cur, rfl, hg, (Below.heap_setCell _ _ _ _ (fun e => hp (by simp [Value.ownBlock, e]))).trans hh, r⟩

/-! only some blocks have turned -/
/-- of the blocks that were there only those of 'F' may have turned; there may be new ones -/
structure Only (F : Nat → Prop) (w w' : World) : Prop where
  os : w'.os = w.os
  tape : w'.tape = w.tape
  output : w'.output = w.output
  size : w.heap.size ≤ w'.heap.size
  block : ∀ k, k < w.heap.size → ¬ F k → w'.heap[k]? = w.heap[k]?
section
variable {F G : Nat → Prop} {w w' w'' : World}
theorem Only.refl (F : Nat → Prop) (w : World) : Only F w w := ⟨rfl, rfl, rfl, Nat.le_refl _, fun _ _ _ => rfl⟩
theorem Only.trans (h : Only F w w') (k : Only G w' w'') (hFG : ∀ i, i < w.heap.size → G i → F i) : Only F w w'' :=
  ⟨k.os.trans h.os, k.tape.trans h.tape, k.output.trans h.output, Nat.le_trans h.size k.size, fun i hi hF => (k.block i (Nat.lt_of_lt_of_le hi h.size) (fun hg => hF (hFG i hi hg))).trans (h.block i hi hF)⟩
theorem Only.mono (h : Only F w w') (hFG : ∀ i, i < w.heap.size → F i → G i) : Only G w w' :=
  ⟨h.os, h.tape, h.output, h.size, fun i hi hG => h.block i hi (fun hf => hG (hFG i hi hf))⟩
theorem Only.of_below (h : Below w.heap.size w w') (F : Nat → Prop) : Only F w w' := ⟨h.os, h.tape, h.output, h.size, fun i hi _ => h.block i hi⟩
theorem Only.of_grown {row : Option Nat} (h : w.grownBy w' row) (hF : ∀ k, row = some k → F k) : Only F w w' :=
  ⟨h.os, h.tape, h.output, h.size, fun i hi hn => h.block i hi (fun e => hn (hF i e.symm))⟩
theorem Only.below (h : Only F w w') (hF : ∀ k, k < w.heap.size → ¬ F k) : Below w.heap.size w w' := ⟨h.os, h.tape, h.output, h.size, fun i hi => h.block i hi (hF i hi)⟩
theorem Only.below' {w0 : World} (h : Only F w w') (h0 : Below w0.heap.size w0 w) (hF : ∀ k, k < w0.heap.size → ¬ F k) : Below w0.heap.size w0 w' :=
  ⟨h.os.trans h0.os, h.tape.trans h0.tape, h.output.trans h0.output, Nat.le_trans h0.size h.size, fun i hi => (h.block i (Nat.lt_of_lt_of_le hi h0.size) (hF i hi)).trans (h0.block i hi)⟩
theorem Only.set (h : Only F w w') {p : Addr} (hp : F p.block ∨ w.heap.size ≤ p.block) (u : Value) : Only F w (w'.setCell p u) :=
  ⟨h.os, h.tape, h.output, by simpa [World.setCell] using h.size, fun i hi hF => (Below.heap_setCell w' p u i (by rintro rfl; rcases hp with hp | hp; exact hF hp; omega)).trans (h.block i hi hF)⟩
theorem Only.alloc (h : Only F w w') (o : Obj) : Only F w (w'.alloc o) :=
  ⟨h.os, h.tape, h.output, Nat.le_trans h.size (by simp), fun i hi hF => (Below.heap_alloc w' o i (Nat.lt_of_lt_of_le hi h.size)).trans (h.block i hi hF)⟩
theorem Only.grown (h : Only F w w') {row : Option Nat} (hg : w'.grownBy w'' row) (hF : ∀ k, row = some k → F k ∨ w.heap.size ≤ k) : Only F w w'' :=
  ⟨hg.os.trans h.os, hg.tape.trans h.tape, hg.output.trans h.output, Nat.le_trans h.size hg.size, fun i hi hn => (hg.block i (Nat.lt_of_lt_of_le hi h.size) (fun e => by rcases hF i e.symm with q | q; exact hn q; omega)).trans (h.block i hi hn)⟩
theorem Blk.only {g : Nat} {t : TypeId} {cs : Array Value} (h : Blk w g t cs) (ho : Only F w w') (hg : ¬ F g) : Blk w' g t cs := (ho.block g h.lt hg).trans h
theorem Sl.only {sz n : Nat} {a : Option Addr} {xs : List Value} (h : Sl w sz a n xs) (ho : Only F w w') (hg : ∀ ad, a = some ad → ¬ F ad.block) : Sl w' sz a n xs :=
  ⟨h.1, fun hn => by
    obtain ⟨ad, e, hb, hc⟩ := h.2 hn
    exact ⟨ad, e, Nat.lt_of_lt_of_le hb ho.size, fun j u hu => (World.cell?_of_block (by rw [blk_add]; exact ho.block _ hb (hg ad e))).trans (hc j u hu)⟩⟩
theorem own_only {base : Nat} {e : TypeId} {sz : Nat} {v : Value} {n : Nat} {xs : List Value} (h : w.ownsRow base e sz v n xs) (ho : Only F w w') (hg : ∀ k, v.ownBlock = some k → ¬ F k) : w'.ownsRow base e sz v n xs := by
  refine ⟨h.1, ?_⟩
  rcases h.2 with h2 | ⟨g, cap, cur, rfl, hb, hgg, r⟩
  · exact .inl h2
  · exact .inr ⟨g, cap, cur, rfl, hb, (ho.block g (Array.getElem?_eq_some_iff.1 hgg).1 (hg g rfl)).trans hgg, r⟩
end

end Go.As
end

section
/- A region whose order Go leaves open, walked along a plan: operations that look at no memory are taken when they come up, the others in the order that the edges leave; where two may come up, both ways. Any program. -/
namespace Go.As
open Go

inductive Plan where
  | done
  | take (i : Nat) (p : Plan)
  | run (i : Nat) (p : Plan)
  | alt (p q : Plan)

def Plan.heads : Plan → List Nat
  | .run i _ => [i]
  | .alt p q => p.heads ++ q.heads
  | _ => []
def Plan.depth : Plan → Nat
  | .done => 0
  | .take _ p => p.depth + 1
  | .run _ p => p.depth + 1
  | .alt p q => max p.depth q.depth

/-- does the plan cover all orders that the edges allow? (the flag: all that may come up must be among the heads) -/
def Plan.fits (md : Region.Mode) (ops : Array Oper) : Bool → Plan → Array Bool → Bool
  | true, .done, l => (Region.ready md ops l).isEmpty
  | true, .take i p, l => (ops[i]?).isSome && Region.free md ops l i && (Region.ready md ops l).contains i && p.fits md ops true (l.setIfInBounds i true)
  | true, .run i p, l => (Region.ready md ops l == [i]) && p.fits md ops true (l.setIfInBounds i true)
  | true, .alt p q, l => !(Region.ready md ops l).isEmpty && ((Region.ready md ops l).all fun i => p.heads.contains i || q.heads.contains i) && p.fits md ops false l && q.fits md ops false l
  | false, .run i p, l => p.fits md ops true (l.setIfInBounds i true)
  | false, .alt p q, l => p.fits md ops false l && q.fits md ops false l
  | false, _, _ => false

section
variable {P : Program} {ops : Array Oper} {Q : Exit → Act → World → Prop} {md : Region.Mode}

def wpPlan (P : Program) (ops : Array Oper) (Q : Exit → Act → World → Prop) : Plan → Act → World → Prop
  | .done, a, w => Q .normal a w
  | .take i p, a, w => ∃ o v, ops[i]? = some o ∧ Yields P ops o v a ∧ wpPlan P ops Q p (a.put o.dst v) w
  | .run i p, a, w => wpOp P ops Q i (wpPlan P ops Q p) a w
  | .alt p q, a, w => wpPlan P ops Q p a w ∧ wpPlan P ops Q q a w

theorem wpPlan_sound (hs : Region.noSelect ops = true) (hQ : ∀ c a w, ¬ Q (.panic c) a w) : ∀ (p : Plan) (fuel : Nat) (l : Array Bool) (a : Act) (w : World),
    p.depth ≤ fuel →
    (p.fits md ops true l = true → wpPlan P ops Q p a w → wpAny P md ops Q fuel l a w) ∧
    (p.fits md ops false l = true → wpPlan P ops Q p a w → ∀ fuel', fuel = fuel' + 1 → ∀ i ∈ p.heads, wpOp P ops Q i (wpAny P md ops Q fuel' (l.setIfInBounds i true)) a w) := by
  intro p
  induction p with
  | done =>
    intro fuel l a w _
    refine ⟨fun hf h => ?_, fun hf => by simp [Plan.fits] at hf⟩
    exact wpAny_done (by simpa [Plan.fits] using hf) h fuel
  | take i p ih =>
    intro fuel l a w hd
    refine ⟨fun hf h => ?_, fun hf => by simp [Plan.fits] at hf⟩
    simp only [Plan.fits, Bool.and_eq_true] at hf
    obtain ⟨o, v, hi, hy, h⟩ := h
    cases fuel with
    | zero => simp [Plan.depth] at hd
    | succ fuel =>
      exact wpAny_take hi hs hf.1.1.2 hf.1.2 (fun c a w hq => (hQ _ _ _ hq).elim) hy (((ih fuel _ _ _ (by simp [Plan.depth] at hd; omega)).1) hf.2 h)
  | run i p ih =>
    intro fuel l a w hd
    cases fuel with
    | zero => simp [Plan.depth] at hd
    | succ fuel =>
      have hp : p.depth ≤ fuel := by simp [Plan.depth] at hd; omega
      refine ⟨fun hf h => ?_, fun hf h fuel' hfu j hj => ?_⟩
      · simp only [Plan.fits, Bool.and_eq_true, beq_iff_eq] at hf
        refine wpAny_all hf.1 (by simp) ?_
        intro j hj
        simp only [List.mem_singleton] at hj
        subst hj
        exact wpOp_mono (fun a w => (ih fuel _ a w hp).1 hf.2) h
      · simp only [Plan.heads, List.mem_singleton] at hj
        subst hj
        simp only [Plan.fits] at hf
        obtain rfl : fuel = fuel' := by omega
        exact wpOp_mono (fun a w => (ih fuel _ a w hp).1 hf) h
  | alt p q ihp ihq =>
    intro fuel l a w hd
    have h1 : p.depth ≤ fuel := by simp [Plan.depth] at hd; omega
    have h2 : q.depth ≤ fuel := by simp [Plan.depth] at hd; omega
    have key : p.fits md ops false l = true → q.fits md ops false l = true → wpPlan P ops Q (.alt p q) a w → ∀ fuel', fuel = fuel' + 1 → ∀ i, i ∈ p.heads ∨ i ∈ q.heads → wpOp P ops Q i (wpAny P md ops Q fuel' (l.setIfInBounds i true)) a w := by
      intro f1 f2 h fuel' hfu i hi
      rcases hi with hi | hi
      · exact (ihp fuel l a w h1).2 f1 h.1 fuel' hfu i hi
      · exact (ihq fuel l a w h2).2 f2 h.2 fuel' hfu i hi
    refine ⟨fun hf h => ?_, fun hf h fuel' hfu i hi => ?_⟩
    · simp only [Plan.fits, Bool.and_eq_true, List.all_eq_true, Bool.or_eq_true] at hf
      have hne : Region.ready md ops l ≠ [] := by
        intro e; rw [e] at hf; simp at hf
      cases fuel with
      | zero =>
        exfalso
        obtain ⟨i, hi⟩ := List.exists_mem_of_ne_nil _ hne
        have hh : ∀ r : Plan, r.depth = 0 → r.heads = [] := by
          intro r
          induction r with
          | done => intro _; rfl
          | take i p _ => intro _; rfl
          | run i p _ => intro h; simp [Plan.depth] at h
          | alt p q ip iq => intro h; simp only [Plan.depth] at h; simp only [Plan.heads, ip (by omega), iq (by omega), List.append_nil]
        have := hf.1.1.2 i hi
        rw [hh p (by omega), hh q (by omega)] at this
        simp at this
      | succ fuel =>
        refine wpAny_all rfl hne ?_
        intro i hi
        have := hf.1.1.2 i hi
        exact key hf.1.2 hf.2 h fuel rfl i (by simpa using this)
    · simp only [Plan.fits, Bool.and_eq_true] at hf
      exact key hf.1 hf.2 h fuel' hfu i (by simpa [Plan.heads] using hi)

/-- Q, but 'False' at a panic. -/
def NoPan (Q : Exit → Act → World → Prop) : Exit → Act → World → Prop
  | .panic _, _, _ => False
  | e, a, w => Q e a w
theorem NoPan.imp {Q : Exit → Act → World → Prop} : ∀ (e : Exit) (a : Act) (w : World), NoPan Q e a w → Q e a w := fun e a w h => by
  cases e <;> first | exact h | exact (h : False).elim
theorem NoPan.normal {Q : Exit → Act → World → Prop} {a : Act} {w : World} (h : Q .normal a w) : NoPan Q .normal a w := h

/-- the region along a plan -/
theorem wp_region_plan {id : Nat} {a : Act} {w : World} (p : Plan) (hm : P.follows .mixedOrders = true) (hs : Region.noSelect ops = true)
    (hd : decide (p.depth ≤ ops.size) = true) (hf : p.fits .any ops true (Array.replicate ops.size false) = true)
    (h : wpPlan P ops (NoPan Q) p a w.drew) : (Code.region id ops true).wp P Q a w := by
  refine Code.wp_mono NoPan.imp (wp_region_any hm ?_)
  exact ((wpPlan_sound (md := .any) hs (fun _ _ _ h => h) p ops.size _ a w.drew (of_decide_eq_true hd)).1) hf h

section
variable {i : Nat} {p q : Plan} {a : Act} {w : World} {o : Oper} {v : Value}
theorem wpPlan_isTake (h : wpPlan P ops Q (.take i p) a w) : wpPlan P ops Q (.take i p) a w := h
theorem wpPlan_isRun (h : wpPlan P ops Q (.run i p) a w) : wpPlan P ops Q (.run i p) a w := h
theorem wpPlan_done (h : Q .normal a w) : wpPlan P ops (NoPan Q) .done a w := h
theorem wpPlan_alt (h1 : wpPlan P ops Q p a w) (h2 : wpPlan P ops Q q a w) : wpPlan P ops Q (.alt p q) a w := ⟨h1, h2⟩
theorem at_list (hi : ops.toList[i]? = some o) : ops[i]? = some o := by rw [← hi]; simp
theorem wpPlan_skip (hi : ops.toList[i]? = some o) (hw : Region.wanted o (yielded ops a.tmps) = false) (h : wpPlan P ops Q p (a.put o.dst undef) w) : wpPlan P ops Q (.take i p) a w :=
  ⟨o, undef, at_list hi, .inr ⟨hw, rfl⟩, h⟩
theorem wpPlan_take (hi : ops.toList[i]? = some o) (hw : Region.wanted o (yielded ops a.tmps) = true) (hv : ∀ w, (execOp a.eval o).run P w = .ok (.value v) w) (h : wpPlan P ops Q p (a.put o.dst v) w) : wpPlan P ops Q (.take i p) a w :=
  ⟨o, v, at_list hi, .inl ⟨hw, hv⟩, h⟩
theorem wpPlan_run (hi : ops.toList[i]? = some o)
    (h : ∀ K : Act → World → Prop, (∀ a w, wpPlan P ops Q p a w → K a w) → if Region.wanted o (yielded ops a.tmps) then o.wp P a w K Q else K (a.put o.dst undef) w) : wpPlan P ops Q (.run i p) a w := by
  have := h _ (fun _ _ h => h)
  show wpOp P ops Q i _ a w
  unfold wpOp
  simp only [at_list hi]
  split
  · rename_i hw; rw [if_pos hw] at this; exact .inl this
  · rename_i hw; rw [if_neg hw] at this; exact this
end
end


/-! the same, with a fact 'S' of the world that holds all along: loads that 'S' decides are taken when they come up -/
section
variable {P : Program} {ops : Array Oper} {Q : Exit → Act → World → Prop} {md : Region.Mode} {S : World → Prop}

def wpPlanH (P : Program) (ops : Array Oper) (Q : Exit → Act → World → Prop) (S : World → Prop) : Plan → Act → World → Prop
  | .done, a, w => Q .normal a w
  | .take i p, a, w => S w ∧ ∃ o v, ops[i]? = some o ∧ YieldsIf P ops S o v a ∧ wpPlanH P ops Q S p (a.put o.dst v) w
  | .run i p, a, w => wpOp P ops Q i (fun a' w' => S w' ∧ wpPlanH P ops Q S p a' w') a w
  | .alt p q, a, w => wpPlanH P ops Q S p a w ∧ wpPlanH P ops Q S q a w

theorem wpPlanH_sound (hs : Region.noSelect ops = true) (hQ : ∀ c a w, ¬ Q (.panic c) a w) : ∀ (p : Plan) (fuel : Nat) (l : Array Bool) (a : Act) (w : World),
    p.depth ≤ fuel →
    (p.fits md ops true l = true → wpPlanH P ops Q S p a w → wpAnyH P md ops Q S fuel l a w) ∧
    (p.fits md ops false l = true → wpPlanH P ops Q S p a w → ∀ fuel', fuel = fuel' + 1 → ∀ i ∈ p.heads, wpOp P ops Q i (fun a' w' => S w' ∧ wpAnyH P md ops Q S fuel' (l.setIfInBounds i true) a' w') a w) := by
  intro p
  induction p with
  | done =>
    intro fuel l a w _
    refine ⟨fun hf h => ?_, fun hf => by simp [Plan.fits] at hf⟩
    exact wpAnyH_done (by simpa [Plan.fits] using hf) h fuel
  | take i p ih =>
    intro fuel l a w hd
    refine ⟨fun hf h => ?_, fun hf => by simp [Plan.fits] at hf⟩
    simp only [Plan.fits, Bool.and_eq_true] at hf
    obtain ⟨hS, o, v, hi, hy, h⟩ := h
    cases fuel with
    | zero => simp [Plan.depth] at hd
    | succ fuel =>
      exact wpAnyH_take hi hs hf.1.1.2 hf.1.2 (fun c a w hq => (hQ _ _ _ hq).elim) hy hS (((ih fuel _ _ _ (by simp [Plan.depth] at hd; omega)).1) hf.2 h)
  | run i p ih =>
    intro fuel l a w hd
    cases fuel with
    | zero => simp [Plan.depth] at hd
    | succ fuel =>
      have hp : p.depth ≤ fuel := by simp [Plan.depth] at hd; omega
      refine ⟨fun hf h => ?_, fun hf h fuel' hfu j hj => ?_⟩
      · simp only [Plan.fits, Bool.and_eq_true, beq_iff_eq] at hf
        refine wpAnyH_all hf.1 (by simp) ?_
        intro j hj
        simp only [List.mem_singleton] at hj
        subst hj
        exact wpOp_mono (fun a w h => ⟨h.1, (ih fuel _ a w hp).1 hf.2 h.2⟩) h
      · simp only [Plan.heads, List.mem_singleton] at hj
        subst hj
        simp only [Plan.fits] at hf
        obtain rfl : fuel = fuel' := by omega
        exact wpOp_mono (fun a w h => ⟨h.1, (ih fuel _ a w hp).1 hf h.2⟩) h
  | alt p q ihp ihq =>
    intro fuel l a w hd
    have h1 : p.depth ≤ fuel := by simp [Plan.depth] at hd; omega
    have h2 : q.depth ≤ fuel := by simp [Plan.depth] at hd; omega
    have key : p.fits md ops false l = true → q.fits md ops false l = true → wpPlanH P ops Q S (.alt p q) a w → ∀ fuel', fuel = fuel' + 1 → ∀ i, i ∈ p.heads ∨ i ∈ q.heads → wpOp P ops Q i (fun a' w' => S w' ∧ wpAnyH P md ops Q S fuel' (l.setIfInBounds i true) a' w') a w := by
      intro f1 f2 h fuel' hfu i hi
      rcases hi with hi | hi
      · exact (ihp fuel l a w h1).2 f1 h.1 fuel' hfu i hi
      · exact (ihq fuel l a w h2).2 f2 h.2 fuel' hfu i hi
    refine ⟨fun hf h => ?_, fun hf h fuel' hfu i hi => ?_⟩
    · simp only [Plan.fits, Bool.and_eq_true, List.all_eq_true, Bool.or_eq_true] at hf
      have hne : Region.ready md ops l ≠ [] := by
        intro e; rw [e] at hf; simp at hf
      cases fuel with
      | zero =>
        exfalso
        obtain ⟨i, hi⟩ := List.exists_mem_of_ne_nil _ hne
        have hh : ∀ r : Plan, r.depth = 0 → r.heads = [] := by
          intro r
          induction r with
          | done => intro _; rfl
          | take i p _ => intro _; rfl
          | run i p _ => intro h; simp [Plan.depth] at h
          | alt p q ip iq => intro h; simp only [Plan.depth] at h; simp only [Plan.heads, ip (by omega), iq (by omega), List.append_nil]
        have := hf.1.1.2 i hi
        rw [hh p (by omega), hh q (by omega)] at this
        simp at this
      | succ fuel =>
        refine wpAnyH_all rfl hne ?_
        intro i hi
        have := hf.1.1.2 i hi
        exact key hf.1.2 hf.2 h fuel rfl i (by simpa using this)
    · simp only [Plan.fits, Bool.and_eq_true] at hf
      exact key hf.1 hf.2 h fuel' hfu i (by simpa [Plan.heads] using hi)

/-- along the plan, from a world in which S holds -/
def PlanS (P : Program) (ops : Array Oper) (Q : Exit → Act → World → Prop) (S : World → Prop) (p : Plan) (a : Act) (w : World) : Prop := S w → wpPlanH P ops Q S p a w

/-- the region along a plan, under a fact that holds all along -/
theorem wp_region_planS {id : Nat} {a : Act} {w : World} (S : World → Prop) (p : Plan) (hm : P.follows .mixedOrders = true) (hs : Region.noSelect ops = true)
    (hd : decide (p.depth ≤ ops.size) = true) (hf : p.fits .any ops true (Array.replicate ops.size false) = true) (hS : S w.drew)
    (h : PlanS P ops (NoPan Q) S p a w.drew) : (Code.region id ops true).wp P Q a w := by
  refine Code.wp_mono NoPan.imp (wp_region_held (S := S) hm ?_)
  exact ((wpPlanH_sound (md := .any) hs (fun _ _ _ h => h) p ops.size _ a w.drew (of_decide_eq_true hd)).1) hf (h hS)

section
variable {i : Nat} {p q : Plan} {a : Act} {w : World} {o : Oper} {v : Value}
theorem PlanS_isTake (h : PlanS P ops Q S (.take i p) a w) : PlanS P ops Q S (.take i p) a w := h
theorem PlanS_is (h : PlanS P ops Q S p a w) : PlanS P ops Q S p a w := h
theorem PlanS_isRun (h : PlanS P ops Q S (.run i p) a w) : PlanS P ops Q S (.run i p) a w := h
theorem PlanS_done (h : Q .normal a w) : PlanS P ops (NoPan Q) S .done a w := fun _ => h
theorem PlanS_alt (h1 : PlanS P ops Q S p a w) (h2 : PlanS P ops Q S q a w) : PlanS P ops Q S (.alt p q) a w := fun hS => ⟨h1 hS, h2 hS⟩
theorem PlanS_skip (hi : ops.toList[i]? = some o) (hw : Region.wanted o (yielded ops a.tmps) = false) (h : PlanS P ops Q S p (a.put o.dst undef) w) : PlanS P ops Q S (.take i p) a w :=
  fun hS => ⟨hS, o, undef, at_list hi, .inr ⟨hw, rfl⟩, h hS⟩
theorem PlanS_take (hi : ops.toList[i]? = some o) (hw : Region.wanted o (yielded ops a.tmps) = true) (hv : ∀ w, S w → (execOp a.eval o).run P w = .ok (.value v) w) (h : PlanS P ops Q S p (a.put o.dst v) w) : PlanS P ops Q S (.take i p) a w :=
  fun hS => ⟨hS, o, v, at_list hi, .inl ⟨hw, hv⟩, h hS⟩
theorem PlanS_keep (hS : S w) (h : PlanS P ops Q S p a w) : S w ∧ PlanS P ops Q S p a w := ⟨hS, h⟩
theorem PlanS_run (hi : ops.toList[i]? = some o)
    (h : ∀ K : Act → World → Prop, (∀ a w, (S w ∧ PlanS P ops Q S p a w) → K a w) → if Region.wanted o (yielded ops a.tmps) then o.wp P a w K Q else K (a.put o.dst undef) w) : PlanS P ops Q S (.run i p) a w := by
  intro _
  have := h (fun a w => S w ∧ wpPlanH P ops Q S p a w) (fun _ _ h => ⟨h.1, h.2 h.1⟩)
  show wpOp P ops Q i _ a w
  unfold wpOp
  simp only [at_list hi]
  split
  · rename_i hw; rw [if_pos hw] at this; exact .inl this
  · rename_i hw; rw [if_neg hw] at this; exact this
end
end
end Go.As
end

section
/- The reckoner: a machine that runs a function's code as far as nothing is open, stops, and goes on behind. Any program; the conditions are in each theorem. -/
noncomputable section
namespace Go.Sy
open Go Go.RowKit
set_option linter.unusedVariables false
set_option linter.unusedSimpArgs false

/-- what is still to be done -/
inductive It where
  | code (c : Code)
  | ops (arr : Array Oper) (l : List Oper)
  | blk (id : Nat)
  | lp (c : Code)
  | sc
  | np
  | pl (arr : Array Oper) (p : Go.As.Plan) (S : World → Prop)
structure Cfg where
  k : List It
  s : St

/-- operations one after the other -/
def wpL (P : Program) (arr : Array Oper) (Q : Exit → Act → World → Prop) : List Oper → Act → World → Prop
  | [], a, w => Q .normal a w
  | o :: l, a, w => if Region.wanted o (yielded arr a.tmps) then o.wp P a w (wpL P arr Q l) Q ∨ (o.asks P a w ∧ LetsOut Q) else wpL P arr Q l (a.put o.dst undef) w
theorem wpOps_of_wpL {P : Program} {arr : Array Oper} {Q : Exit → Act → World → Prop} : ∀ {l : List Oper} {n : Nat}, (∀ j o, l[j]? = some o → arr[n + j]? = some o) → wpOps P arr Q (List.range' n l.length) = wpL P arr Q l
  | [], n, _ => by funext a w; rfl
  | o :: l, n, h => by
    have ho : arr[n]? = some o := by simpa using h 0 o rfl
    have ih := wpOps_of_wpL (P := P) (arr := arr) (Q := Q) (l := l) (n := n + 1) (fun j o' hj => by
      have := h (j + 1) o' (by simpa using hj)
      rw [show n + 1 + j = n + (j + 1) by omega]; exact this)
    funext a w
    simp only [List.length_cons, List.range'_succ, wpOps, ho, wpL, ih]
theorem wp_region_L {P : Program} {Q : Exit → Act → World → Prop} {a : Act} {w : World} {id : Nat} {arr : Array Oper} (h : wpL P arr Q arr.toList a w) : (Code.region id arr false).wp P Q a w := by
  refine wp_region ?_
  have := wpOps_of_wpL (P := P) (arr := arr) (Q := Q) (l := arr.toList) (n := 0) (fun j o hj => by rw [Nat.zero_add]; simpa using hj)
  rw [List.range_eq_range', show arr.size = arr.toList.length from Array.length_toList.symm, this]
  exact h

/-- in the middle of a region along a plan -/
def plAfter (P : Program) (arr : Array Oper) (p : Go.As.Plan) (S : World → Prop) (Q : Exit → Act → World → Prop) : Exit → Act → World → Prop
  | .normal, a, w => S w ∧ Go.As.wpPlanH P arr (Go.As.NoPan Q) S p a w
  | .exit i, a, w => Q (.exit i) a w
  | .goto i, a, w => Q (.goto i) a w
  | .ret, a, w => Q .ret a w
  | .panic c, a, w => False
  | .outgrown, a, w => Q .outgrown a w
/-- what must hold when what stands ahead of the rest ends -/
def after (P : Program) (Q : Exit → Act → World → Prop) : List It → Exit → Act → World → Prop
  | [] => Q
  | .code c :: k => Exit.then (c.wp P (after P Q k)) (after P Q k)
  | .ops arr l :: k => Exit.then (wpL P arr (after P Q k) l) (after P Q k)
  | .blk id :: k => Exit.inBlock id (after P Q k)
  | .lp c :: k => Exit.then (LoopBody P c (after P Q k)) (after P Q k)
  | .sc :: k => Exit.noGoto (after P Q k)
  | .np :: k => Go.As.NoPan (after P Q k)
  | .pl arr p S :: k => plAfter P arr p S (after P Q k)
/-- leaving blocks -/
def unw (id : Nat) : List It → Option (List It)
  | [] => none
  | .blk j :: k => match Nat.beq j id with
    | true => some k
    | false => unw id k
  | .code _ :: k => unw id k
  | .ops _ _ :: k => unw id k
  | .lp _ :: k => unw id k
  | .sc :: k => unw id k
  | .np :: k => unw id k
  | .pl _ _ _ :: k => unw id k
theorem unw_ok {P : Program} {Q : Exit → Act → World → Prop} {id : Nat} {a : Act} {w : World} : ∀ {k k' : List It}, unw id k = some k' → after P Q k' .normal a w → after P Q k (.exit id) a w
  | [], k', h, _ => by cases h
  | .blk j :: k, k', h, hq => by
    simp only [unw] at h
    split at h
    · rename_i hj
      have hj := Nat.eq_of_beq_eq_true hj
      injection h with h
      subst h hj
      simp only [after, Exit.inBlock, if_true]
      exact hq
    · rename_i hj
      have hj := Nat.ne_of_beq_eq_false hj
      show (if id = j then _ else _)
      rw [if_neg (show ¬ id = j from fun e => hj e.symm)]
      exact unw_ok h hq
  | .code _ :: k, k', h, hq => unw_ok (k := k) h hq
  | .ops _ _ :: k, k', h, hq => unw_ok (k := k) h hq
  | .lp _ :: k, k', h, hq => unw_ok (k := k) h hq
  | .sc :: k, k', h, hq => unw_ok (k := k) h hq
  | .np :: k, k', h, hq => unw_ok (k := k) h hq
  | .pl _ _ _ :: k, k', h, hq => unw_ok (k := k) h hq
theorem after_ret {P : Program} {Q : Exit → Act → World → Prop} {a : Act} {w : World} (hq : Q .ret a w) : ∀ {k : List It}, after P Q k .ret a w
  | [] => hq
  | .blk j :: k => after_ret (k := k) hq
  | .code _ :: k => after_ret (k := k) hq
  | .ops _ _ :: k => after_ret (k := k) hq
  | .lp _ :: k => after_ret (k := k) hq
  | .sc :: k => after_ret (k := k) hq
  | .np :: k => after_ret (k := k) hq
  | .pl _ _ _ :: k => after_ret (k := k) hq
/-- the rest comes to what it must, from any frame and world that are as the configuration says -/
structure Good (P : Program) (B : Nat → Prop) (w0 : World) (γ0 : Gm) (nt : Nat) (Q : Exit → Act → World → Prop) (g : Cfg) : Prop where
  out : ∀ γ a w, Gm.le γ0 γ → FR γ nt g.s.T g.s.ds a → HR B P.globals.size γ g.s.h g.s.c w → Keep B w0 w → after P Q g.k .normal a w

/-! one step -/
def stopAt (dst : Option Tmp) (stops : List Nat) : Bool := match dst with
  | none => false
  | some d => hasNat d stops
def opStep (P : Program) (I : Aux) (call : CallF) (nt : Nat) (arr : Array Oper) (o : Oper) (l : List Oper) (k : List It) (s : St) : Option Cfg := match awanted arr s.T o with
  | none => none
  | some false => match tput nt s.T o.dst (.tup []) with
    | none => none
    | some T' => some ⟨.ops arr l :: k, ⟨T', s.h, s.c, s.ds⟩⟩
  | some true => match evalOp P I call s.T s.h s.c o with
    | .val av h' c' => match tput nt s.T o.dst av with
      | none => none
      | some T' => some ⟨.ops arr l :: k, ⟨T', h', c', s.ds⟩⟩
    | .pan _ _ _ => none
    | .fail => match aDefer P s.T o with
      | none => none
      | some d => match tput nt s.T o.dst (.tup []) with
        | none => none
        | some T' => some ⟨.ops arr l :: k, ⟨T', s.h, s.c, d :: s.ds⟩⟩
def codeStepS (P : Program) (I : Aux) (call : CallF) (nt : Nat) (k : List It) (s : St) (c : Code) : Option Cfg := match c with
  | .skip => some ⟨k, s⟩
  | .label _ => some ⟨k, s⟩
  | .region _ ops draw => match draw with
    | false => some ⟨.ops ops ops.toList :: k, s⟩
    | true => match evalDraw P I call nt ops s with
      | .ok .normal s' => some ⟨k, s'⟩
      | _ => none
  | .seq x y => some ⟨.code x :: .code y :: k, s⟩
  | .block id x => some ⟨.code x :: .blk id :: k, s⟩
  | .scope x => some ⟨.code x :: .sc :: k, s⟩
  | .exit id => match unw id k with
    | none => none
    | some k' => some ⟨k', s⟩
  | _ => none
def codeStepD (c : Code) : Program → Aux → CallF → Nat → List It → St → Option Cfg := by
  induction c
  case skip => exact fun _ _ _ _ k s => some ⟨k, s⟩
  case label _ => exact fun _ _ _ _ k s => some ⟨k, s⟩
  case region _ ops draw =>
    induction draw
    · exact fun _ _ _ _ k s => some ⟨.ops ops ops.toList :: k, s⟩
    · exact fun P I call nt k s => match evalDraw P I call nt ops s with
        | .ok .normal s' => some ⟨k, s'⟩
        | _ => none
  case seq x y _ _ => exact fun _ _ _ _ k s => some ⟨.code x :: .code y :: k, s⟩
  case block id x _ => exact fun _ _ _ _ k s => some ⟨.code x :: .blk id :: k, s⟩
  case scope x _ => exact fun _ _ _ _ k s => some ⟨.code x :: .sc :: k, s⟩
  case exit id => exact fun _ _ _ _ k s => match unw id k with
    | none => none
    | some k' => some ⟨k', s⟩
  all_goals exact fun _ _ _ _ _ _ => none
def codeStep (P : Program) (I : Aux) (call : CallF) (nt : Nat) (k : List It) (s : St) (c : Code) : Option Cfg := codeStepD c P I call nt k s
theorem codeStep_eq (P : Program) (I : Aux) (call : CallF) (nt : Nat) (k : List It) (s : St) (c : Code) : codeStep P I call nt k s c = codeStepS P I call nt k s c := by
  cases c <;> first | rfl | (rename_i d; cases d <;> rfl)
def cstep (P : Program) (I : Aux) (call : CallF) (nt : Nat) (stops : List Nat) (g : Cfg) : Option Cfg := match g.k with
  | [] => none
  | .code c :: k => codeStep P I call nt k g.s c
  | .ops arr l :: k => match l with
    | [] => some ⟨k, g.s⟩
    | o :: l => match stopAt o.dst stops with
      | true => none
      | false => opStep P I call nt arr o l k g.s
  | .blk _ :: k => some ⟨k, g.s⟩
  | .sc :: k => some ⟨k, g.s⟩
  | .np :: k => some ⟨k, g.s⟩
  | .lp _ :: _ => none
  | .pl _ _ _ :: _ => none
/-- a test that is decided -/
def cond1 (P : Program) (g : Cfg) : Option Cfg := match g.k with
  | .code (.cond c x y) :: k => match aev P g.s.T c with
    | some (.v (.bool true)) => some ⟨.code x :: k, g.s⟩
    | some (.v (.bool false)) => some ⟨.code y :: k, g.s⟩
    | _ => none
  | _ => none
noncomputable def run (P : Program) (I : Aux) (call : CallF) (nt : Nat) (stops : List Nat) (n : Nat) : Nat → Cfg → Cfg :=
  Nat.rec (motive := fun _ => Nat → Cfg → Cfg) (fun _ g => g) (fun _ ih au g => match cstep P I call nt stops g with
    | some g' => ih au g'
    | none => match au with
      | 0 => g
      | au + 1 => match cond1 P g with
        | some g' => ih au g'
        | none => g) n

section
variable {P : Program} {I : Aux} {call : CallF} {B : Nat → Prop} {w0 : World} {γ0 : Gm} {nt : Nat} {Q : Exit → Act → World → Prop} {g g' : Cfg}
/-- what the machine leans on -/
structure Cx (P : Program) (I : Aux) (B : Nat → Prop) (w0 : World) : Prop where
  hm : P.follows .mixedOrders = true
  hn : Fine P I
  hW : ∀ w, Keep B w0 w → I.W w
theorem Cx.calls (cx : Cx P I B w0) (m : Nat) : CallOk P B P.globals.size w0 (evCall P I (ev P I m)) := evCall_ok cx.hn cx.hW (ev_ok cx.hm cx.hn cx.hW m)
theorem KOk2.good {γ : Gm} {r : R2} {e : AExit} {s : St} (hle : Gm.le γ0 γ) (h : r = .ok e s) {QQ : Exit → Act → World → Prop} (hq : ∀ γ' e' a w, Gm.le γ0 γ' → ER γ' e e' → FR γ' nt s.T s.ds a → HR B P.globals.size γ' s.h s.c w → Keep B w0 w → QQ e' a w) :
    KOk2 B P.globals.size γ w0 nt QQ r := by
  subst h
  exact fun γ' e' a w h1 => hq γ' e' a w (hle.trans h1)
theorem opStep_ok (hn : Fine P I) (hcall : CallOk P B P.globals.size w0 call) {arr : Array Oper} {o : Oper} {l : List Oper} {k : List It} {s : St} (h : opStep P I call nt arr o l k s = some g') (hg : Good P B w0 γ0 nt Q g') :
    Good P B w0 γ0 nt Q ⟨.ops arr (o :: l) :: k, s⟩ := by
  refine ⟨fun γ a w hle hf hr hb => ?_⟩
  simp only [after, Exit.then, wpL]
  have hok := hf.ok (P := P) (B := B) (G := 0) hr.glob o.op.operands.toList
  unfold opStep at h
  split at h
  · cases h
  · rename_i hw
    have hw' := awanted_ok (a := a) (fun j want p t av _ _ _ ht => hf.tmps t av ht) hw
    rw [if_neg (by simp [hw'])]
    split at h
    · cases h
    rename_i T' hT'
    injection h with h
    subst h
    exact hg.out γ _ w hle (hf.put (Gm.le.refl _) (undef_VR γ) hT') hr hb
  · rename_i hw
    have hw' := awanted_ok (a := a) (fun j want p t av _ _ _ ht => hf.tmps t av ht) hw
    rw [if_pos hw']
    left
    split at h
    · rename_i av h' c' hev
      split at h
      · cases h
      rename_i T' hT'
      injection h with h
      subst h
      refine evalOp_ok hn hcall hr hb hok ?_
      rw [hev]
      intro γ' v w' h1 h2 h3 h4
      exact hg.out γ' _ w' (hle.trans h1) (hf.put h1 h2 hT') h3 h4
    · cases h
    · split at h
      · cases h
      rename_i d hd
      split at h
      · cases h
      rename_i T' hT'
      injection h with h
      subst h
      obtain ⟨x, hx1, hx2⟩ := aDefer_ok hok hd
      unfold Oper.wp
      rw [hx2 w]
      simp only [Oper.upon]
      have hf2 : FR γ nt s.T (d :: s.ds) { a with defers := x :: a.defers } := ⟨hf.size, hf.tmps, hx1, hf.defs⟩
      exact hg.out γ _ w hle (hf2.put (Gm.le.refl _) (undef_VR γ) hT') hr hb
theorem codeStep_ok (hm : P.follows .mixedOrders = true) (hn : Fine P I) (hcall : CallOk P B P.globals.size w0 call) {k : List It} {s : St} {c : Code} (h : codeStep P I call nt k s c = some g') (hg : Good P B w0 γ0 nt Q g') :
    Good P B w0 γ0 nt Q ⟨.code c :: k, s⟩ := by
  refine ⟨fun γ a w hle hf hr hb => ?_⟩
  simp only [after, Exit.then]
  rw [codeStep_eq] at h
  unfold codeStepS at h
  split at h
  · injection h with h; subst h
    exact wp_skip (hg.out γ a w hle hf hr hb)
  · injection h with h; subst h
    exact wp_label (hg.out γ a w hle hf hr hb)
  · split at h
    · injection h with h; subst h
      exact wp_region_L (hg.out γ a w hle hf hr hb)
    · split at h
      · rename_i s' hev
        injection h with h; subst h
        refine evalDraw_ok hm hn hcall hf hr hb (KOk2.good (γ0 := γ0) hle hev ?_)
        intro γ' e' a' w' h1 h2 h3 h4 h5
        cases e' <;> first | exact h2.elim | skip
        exact hg.out γ' a' w' h1 h3 h4 h5
      · cases h
  · injection h with h; subst h
    exact wp_seq (hg.out γ a w hle hf hr hb)
  · injection h with h; subst h
    exact wp_block (hg.out γ a w hle hf hr hb)
  · injection h with h; subst h
    exact wp_scope_straight (hg.out γ a w hle hf hr hb)
  · split at h
    · cases h
    rename_i k' hk'
    injection h with h; subst h
    exact wp_exit (unw_ok hk' (hg.out γ a w hle hf hr hb))
  · cases h
theorem cstep_ok (hm : P.follows .mixedOrders = true) (hn : Fine P I) (hcall : CallOk P B P.globals.size w0 call) {stops : List Nat} (h : cstep P I call nt stops g = some g') (hg : Good P B w0 γ0 nt Q g') : Good P B w0 γ0 nt Q g := by
  obtain ⟨k, s⟩ := g
  unfold cstep at h
  simp only at h
  split at h
  · cases h
  · exact codeStep_ok hm hn hcall h hg
  · split at h
    · injection h with h; subst h
      exact ⟨fun γ a w hle hf hr hb => hg.out γ a w hle hf hr hb⟩
    · split at h
      · cases h
      · exact opStep_ok hn hcall h hg
  · injection h with h; subst h
    exact ⟨fun γ a w hle hf hr hb => hg.out γ a w hle hf hr hb⟩
  · injection h with h; subst h
    exact ⟨fun γ a w hle hf hr hb => hg.out γ a w hle hf hr hb⟩
  · injection h with h; subst h
    exact ⟨fun γ a w hle hf hr hb => hg.out γ a w hle hf hr hb⟩
  · cases h
  · cases h
theorem cond1_ok (h : cond1 P g = some g') (hg : Good P B w0 γ0 nt Q g') : Good P B w0 γ0 nt Q g := by
  obtain ⟨k, s⟩ := g
  unfold cond1 at h
  simp only at h
  split at h
  · rename_i c x y k'
    refine ⟨fun γ a w hle hf hr hb => ?_⟩
    simp only [after, Exit.then]
    split at h <;> first | (cases h; done) | skip
    all_goals
      rename_i hc
      injection h with h; subst h
      have hcv := hf.ok (P := P) (B := B) (G := 0) hr.glob [c] c (by simp) _ hc
      generalize hvc : a.eval c = vc at hcv
      cases hcv
    · exact wp_cond_true hvc (hg.out γ a w hle hf hr hb)
    · exact wp_cond_false hvc (hg.out γ a w hle hf hr hb)
  · cases h
theorem run_succ (stops : List Nat) (n au : Nat) (g : Cfg) : run P I call nt stops (n + 1) au g = (match cstep P I call nt stops g with
      | some g' => run P I call nt stops n au g'
      | none => match au with
        | 0 => g
        | au + 1 => match cond1 P g with
          | some g' => run P I call nt stops n au g'
          | none => g) := rfl
theorem run_ok' (hm : P.follows .mixedOrders = true) (hn : Fine P I) (hcall : CallOk P B P.globals.size w0 call) {stops : List Nat} : ∀ (n au : Nat) (g : Cfg), Good P B w0 γ0 nt Q (run P I call nt stops n au g) → Good P B w0 γ0 nt Q g
  | 0, au, g, h => h
  | n + 1, au, g, h => by
    rw [run_succ] at h
    split at h
    · rename_i g' hg'
      exact cstep_ok hm hn hcall hg' (run_ok' hm hn hcall n au g' h)
    · split at h
      · exact h
      · split at h
        · rename_i g' hg'
          exact cond1_ok hg' (run_ok' hm hn hcall n _ g' h)
        · exact h
end
end Go.Sy
end
end
