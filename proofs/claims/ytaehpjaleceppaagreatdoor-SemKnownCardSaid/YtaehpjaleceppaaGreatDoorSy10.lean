/- The reckoner: code and calls, and the law: what is reckoned comes to pass. Any program; the conditions are in the theorem. -/
import Derived.Test.YtaehpjaleceppaaGreatDoorSy9
import Derived.Scope
noncomputable section
namespace Go.Sy
open Go Go.RowKit
set_option linter.unusedVariables false
set_option linter.unusedSimpArgs false

/-! results -/
def aRes1 (P : Program) (T : Tr AV) (h : Hp) : List ResultVar → Option (List AV)
  | [] => some []
  | .tmp t :: l => match T.get t with
    | none => none
    | some a => match aRes1 P T h l with
      | none => none
      | some r => some (a :: r)
  | .cell t ty :: l => match T.get t with
    | some (.ptr b off) => match aLoad P ty (.ptr b off) h with
      | none => none
      | some a => match aRes1 P T h l with
        | none => none
        | some r => some (a :: r)
    | _ => none
def aResults (P : Program) (fn : Func) (T : Tr AV) (h : Hp) : Option AV := match aRes1 P T h fn.results.toList with
  | none => none
  | some [a] => some a
  | some l => some (.tup l)
def resF (tmps : Array Value) : ResultVar → Sem Value
  | .tmp t => pure (tmps.getD t undef)
  | .cell a t => do loadVar t (← asAddr (tmps.getD a undef))
theorem aRes1_ok {P : Program} {B : Nat → Prop} {G : Nat} {γ : Gm} {T : Tr AV} {h : Hp} {c : Nat} {w : World} {tmps : Array Value} (hr : HR B G γ h c w) (ht : TR γ T tmps) : ∀ {l : List ResultVar} {r : List AV}, aRes1 P T h l = some r →
    ∃ vs, LR γ r vs ∧ (l.mapM (resF tmps)).run P w = .ok vs w
  | [], r, hh => by simp [aRes1] at hh; subst hh; exact ⟨[], LR.nil, rfl⟩
  | .tmp t :: l, r, hh => by
    simp only [aRes1] at hh
    split at hh
    · cases hh
    rename_i a ha
    split at hh
    · cases hh
    rename_i r' hr'
    injection hh with hh
    subst hh
    obtain ⟨v, h1, h2⟩ := ht t a ha
    obtain ⟨vs, h3, h4⟩ := aRes1_ok hr ht hr'
    refine ⟨v :: vs, LR.cons h2 h3, ?_⟩
    have h0 : (resF tmps (.tmp t)).run P w = .ok v w := by simp only [resF, getD_of h1, Sem.run_pure]
    rw [List.mapM_cons]
    simp only [Sem.run_bind, Sem.run_pure, Result.andThen_ok, h0, h4]
  | .cell t ty :: l, r, hh => by
    simp only [aRes1] at hh
    split at hh <;> first | (cases hh; done) | skip
    rename_i b off ha
    split at hh
    · cases hh
    rename_i av hav
    split at hh
    · cases hh
    rename_i r' hr'
    injection hh with hh
    subst hh
    obtain ⟨v, h1, h2⟩ := ht t _ ha
    obtain ⟨vs, h3, h4⟩ := aRes1_ok hr ht hr'
    obtain ⟨x, h5, h6⟩ := aLoad_ok hr h2 hav
    refine ⟨x :: vs, LR.cons h5 h3, ?_⟩
    have h0 : (resF tmps (.cell t ty)).run P w = .ok x w := by
      cases h2 with
      | ptr hb =>
        simp only [Instr.loadAt, Instr.sureAddr, Sem.run_bind, Sem.run_pure, Result.andThen_ok] at h6
        simp only [resF, Sem.run_bind, Sem.run_pure, Result.andThen_ok, getD_of h1, asAddr, h6]
    rw [List.mapM_cons]
    simp only [Sem.run_bind, Sem.run_pure, Result.andThen_ok, h0, h4]
theorem aResults_ok {P : Program} {B : Nat → Prop} {G : Nat} {γ : Gm} {fn : Func} {T : Tr AV} {h : Hp} {c : Nat} {w : World} {tmps : Array Value} {av : AV} (hr : HR B G γ h c w) (ht : TR γ T tmps) (hh : aResults P fn T h = some av) :
    ∃ v, VR γ av v ∧ (results fn tmps).run P w = .ok v w := by
  unfold aResults at hh
  have key : ∀ {r : List AV}, aRes1 P T h fn.results.toList = some r → ∃ vs : List Value, LR γ r vs ∧ (results fn tmps).run P w = .ok (if h : vs.toArray.size = 1 then vs.toArray[0] else .tuple vs.toArray) w := by
    intro r hr'
    obtain ⟨vs, h1, h2⟩ := aRes1_ok hr ht hr'
    refine ⟨vs, h1, ?_⟩
    have e : results fn tmps = (do let vs ← fn.results.mapM (resF tmps); pure (if h : vs.size = 1 then vs[0] else .tuple vs)) := by
      unfold results
      congr 2
    rw [e, Array.mapM_eq_mapM_toList, Sem.run_bind, Sem.run_map, h2]
    rfl
  split at hh
  · cases hh
  · rename_i a ha
    injection hh with hh
    subst hh
    obtain ⟨vs, h1, h2⟩ := key ha
    have hl := h1.1
    match vs, hl with
    | [x], _ => exact ⟨x, h1.2 0 _ x rfl rfl, by rw [h2]; rfl⟩
  · rename_i l hnl ha
    injection hh with hh
    subst hh
    obtain ⟨vs, h1, h2⟩ := key ha
    have hl := h1.1
    refine ⟨.tuple vs.toArray, VR.tupL h1, ?_⟩
    rw [h2, dif_neg]
    intro he
    simp at he
    match l, hl.trans he with
    | [x], _ => exact hnl x rfl

/-! code -/
abbrev IH := Code → Nat → St → R2
/-- how a function is being left -/
inductive AMode where
  | ret
  | pan (v : AV)
  | recd (v : AV)
def MR (γ : Gm) : AMode → FrameMode → Prop
  | .ret, u => u = .returning
  | .pan a, u => ∃ v, VR γ a v ∧ u = .panicking [{ v, recovered := false }]
  | .recd a, u => ∃ v, VR γ a v ∧ u = .panicking [{ v, recovered := true }]
def aSettle : AMode → AMode
  | .recd _ => .ret
  | m => m
/-- a region that recovers and does nothing else -/
def recoverOp (ops : Array Oper) : Option (Option Tmp) := match ops.toList with
  | [o] => match o.guard, o.op with
    | none, .call k => match k.callee, k.args.toList with
      | .builtin .recover, [] => some o.dst
      | _, _ => none
    | _, _ => none
  | _ => none
def aRecover : AMode → Option (AV × AMode)
  | .pan v => some (v, .recd v)
  | .ret => some (.v .nilIface, .ret)
  | .recd _ => none
/-- behind a deferred call's body -/
def aDefEnd (P : Program) (fn : Func) (m : AMode) : R2 → Option (AMode × Hp × Nat)
  | .ok .normal ⟨T, h, c, []⟩ => match aResults P fn T h with
    | some _ => some (m, h, c)
    | none => none
  | .ok .ret ⟨T, h, c, []⟩ => match aResults P fn T h with
    | some _ => some (m, h, c)
    | none => none
  | _ => none
def headRecover (code : Code) : Option (Option Tmp × Code) := match code with
  | .seq (.region _ ops false) y => match recoverOp ops with
    | some dst => some (dst, y)
    | none => none
  | _ => none
def evDefCall (P : Program) (ih : IH) (d : ADef) (m : AMode) (h : Hp) (c : Nat) : Option (AMode × Hp × Nat) := match P.funcs[d.f]? with
  | none => none
  | some fn => match fn.body with
    | none => none
    | some code => match Nat.ble (d.args ++ d.cap).length fn.ntmps with
      | false => none
      | true => match headRecover code with
        | some (dst, y) => match aRecover m with
          | none => none
          | some (v, m') => match tput fn.ntmps (putL .leaf 0 (d.args ++ d.cap)) dst v with
            | none => none
            | some T => aDefEnd P fn m' (ih y fn.ntmps ⟨T, h, c, []⟩)
        | none => aDefEnd P fn m (ih code fn.ntmps ⟨putL .leaf 0 (d.args ++ d.cap), h, c, []⟩)
def aLeaves (P : Program) (ih : IH) (fn : Func) (T : Tr AV) : List ADef → AMode → Hp → Nat → R1
  | [], .ret, h, c => match aResults P fn T h with
    | some av => .val av h c
    | none => .fail
  | [], .pan v, h, c => .pan v h c
  | [], .recd _, _, _ => .fail
  | d :: ds, m, h, c => match evDefCall P ih d m h c with
    | some (m', h', c') => aLeaves P ih fn T ds (aSettle m') h' c'
    | none => .fail
def evBody (P : Program) (ih : IH) : CallF := fun f args h c => match P.funcs[f]? with
  | none => .fail
  | some fn => match fn.body with
    | none => .fail
    | some code => match Nat.ble args.length fn.ntmps with
      | false => .fail
      | true => match ih code fn.ntmps ⟨putL .leaf 0 args, h, c, []⟩ with
        | .ok .normal s => aLeaves P ih fn s.T s.ds .ret s.h s.c
        | .ok .ret s => aLeaves P ih fn s.T s.ds .ret s.h s.c
        | .ok (.pan av) s => aLeaves P ih fn s.T s.ds (.pan av) s.h s.c
        | _ => .fail
def evCall (P : Program) (I : Aux) (ih : IH) : CallF := fun f args h c => match I.K f args with
  | some av => .val av h c
  | none => evBody P ih f args h c
def evStepS (P : Program) (I : Aux) (ih : IH) : IH := fun code nt s => match code with
  | .skip => .ok .normal s
  | .region _ ops draw => match draw with
    | false => evalSeq P I (evCall P I ih) nt ops ops.toList s.T s.h s.c s.ds
    | true => evalDraw P I (evCall P I ih) nt ops s
  | .seq x y => match ih x nt s with
    | .ok .normal s' => ih y nt s'
    | r => r
  | .cond c x y => match aev P s.T c with
    | some (.v (.bool true)) => ih x nt s
    | some (.v (.bool false)) => ih y nt s
    | _ => .fail
  | .block id x => match ih x nt s with
    | .ok (.exit j) s' => match Nat.beq j id with
      | true => .ok .normal s'
      | false => .ok (.exit j) s'
    | r => r
  | .loop x => match ih x nt s with
    | .ok .normal s' => ih (.loop x) nt s'
    | r => r
  | .exit id => .ok (.exit id) s
  | .label _ => .ok .normal s
  | .scope x => ih x nt s
  | .ret => .ok .ret s
  | _ => .fail
def evStepD (code : Code) : Program → Aux → IH → Nat → St → R2 := by
  induction code
  case skip => exact fun P I ih nt s => .ok .normal s
  case region _ ops draw =>
    induction draw
    · exact fun P I ih nt s => evalSeq P I (evCall P I ih) nt ops ops.toList s.T s.h s.c s.ds
    · exact fun P I ih nt s => evalDraw P I (evCall P I ih) nt ops s
  case seq x y _ _ => exact fun P I ih nt s => match ih x nt s with
    | .ok .normal s' => ih y nt s'
    | r => r
  case cond c x y _ _ => exact fun P I ih nt s => match aev P s.T c with
    | some (.v (.bool true)) => ih x nt s
    | some (.v (.bool false)) => ih y nt s
    | _ => .fail
  case block id x _ => exact fun P I ih nt s => match ih x nt s with
    | .ok (.exit j) s' => match Nat.beq j id with
      | true => .ok .normal s'
      | false => .ok (.exit j) s'
    | r => r
  case loop x _ => exact fun P I ih nt s => match ih x nt s with
    | .ok .normal s' => ih (.loop x) nt s'
    | r => r
  case exit id => exact fun P I ih nt s => .ok (.exit id) s
  case label _ => exact fun P I ih nt s => .ok .normal s
  case scope x _ => exact fun P I ih nt s => ih x nt s
  case ret => exact fun P I ih nt s => .ok .ret s
  all_goals exact fun _ _ _ _ _ => .fail
def evStep (P : Program) (I : Aux) (ih : IH) : IH := fun code nt s => evStepD code P I ih nt s
theorem evStep_eq (P : Program) (I : Aux) (ih : IH) : evStep P I ih = evStepS P I ih := by
  funext code nt s
  cases code <;> first | rfl | (rename_i d; cases d <;> rfl)
noncomputable def ev (P : Program) (I : Aux) (n : Nat) : IH := Nat.rec (motive := fun _ => IH) (fun _ _ _ => .fail) (fun _ ih => evStep P I ih) n

/-- a loop that stands ahead of its round -/
def LoopBody (P : Program) (c : Code) (Q : Exit → Act → World → Prop) (a : Act) (w : World) : Prop :=
  ∀ (b : Frame) (k : List Item) (cs : List Frame), ∃ e a' w', Q e a' w' ∧ Arrives P (lone (b.at a (.code c :: .inLoop c :: k)) cs w) b k cs e a' w'
theorem loop_of {P : Program} {c : Code} {Q : Exit → Act → World → Prop} {a : Act} {w : World} (h : LoopBody P c Q a w) : (Code.loop c).wp P Q a w := by
  intro b k cs
  obtain ⟨e, a', w', hq, harr⟩ := h b k cs
  exact ⟨e, a', w', hq, .of_steps (.one step_loop) harr⟩
theorem loopBody_of {P : Program} {c : Code} {Q : Exit → Act → World → Prop} {a : Act} {w : World} (h : c.wp P (Exit.then (LoopBody P c Q) Q) a w) : LoopBody P c Q a w := by
  intro b k cs
  obtain ⟨e, a₁, w₁, hq, harr⟩ := h b (.inLoop c :: k) cs
  cases e with
  | normal =>
    obtain ⟨e₂, a₂, w₂, hq₂, harr₂⟩ := hq b k cs
    exact ⟨e₂, a₂, w₂, hq₂, .of_steps (Steps.trans harr (.one step_inLoop)) harr₂⟩
  | exit id => exact ⟨_, a₁, w₁, hq, .pass (x := .inLoop c) rfl (fun _ _ => .inl (by simp)) harr⟩
  | goto l => exact ⟨_, a₁, w₁, hq, .pass (x := .inLoop c) rfl (fun _ _ => .inl (by simp)) harr⟩
  | ret => exact ⟨_, a₁, w₁, hq, .pass (x := .inLoop c) rfl (fun _ _ => .inl (by simp)) harr⟩
  | panic ch => exact ⟨_, a₁, w₁, hq, .pass (x := .inLoop c) rfl (fun _ _ => .inl (by simp)) harr⟩
  | outgrown => exact ⟨_, a₁, w₁, hq, .pass (x := .inLoop c) rfl (fun _ _ => .inl (by simp)) harr⟩

section
variable {P : Program} {B : Nat → Prop} {w0 : World} {I : Aux}
/-- what a reckoner of code must keep -/
def IHok (P : Program) (B : Nat → Prop) (w0 : World) (ih : IH) : Prop :=
  (∀ (code : Code) (nt : Nat) (s : St) (γ : Gm) (a : Act) (w : World) (Q : Exit → Act → World → Prop), FR γ nt s.T s.ds a → HR B P.globals.size γ s.h s.c w → Keep B w0 w → KOk2 B P.globals.size γ w0 nt Q (ih code nt s) → code.wp P Q a w) ∧
  (∀ (code : Code) (nt : Nat) (s : St) (γ : Gm) (a : Act) (w : World) (Q : Exit → Act → World → Prop), FR γ nt s.T s.ds a → HR B P.globals.size γ s.h s.c w → Keep B w0 w → KOk2 B P.globals.size γ w0 nt Q (ih (.loop code) nt s) → LoopBody P code Q a w)
theorem leaves_mono {fn : Func} {tmps : Array Value} {R R' : Ending → World → Prop} (hR : ∀ e w, R e w → R' e w) : ∀ {ds : List Deferred} {u : FrameMode} {w : World}, Leaves P fn tmps R ds u w → Leaves P fn tmps R' ds u w
  | [], .returning, w, h => let ⟨v, h1, h2⟩ := h; ⟨v, h1, hR _ _ h2⟩
  | [], .panicking ch, w, h => hR _ _ h
  | [], .run, w, h => h.elim
  | d :: ds, u, w, h => by
    obtain ⟨hu, fv, cap, f, args, h1, h2, h3⟩ := h
    refine ⟨hu, fv, cap, f, args, h1, h2, h3.mono (fun e u' w' hh => ?_)⟩
    cases e with
    | returned v => exact leaves_mono hR hh
    | panicked ch => exact leaves_mono hR hh
    | outgrown => exact hR _ _ hh
theorem KOk2.le {G : Nat} {γ γ' : Gm} {nt : Nat} {Q : Exit → Act → World → Prop} {r : R2} (hle : Gm.le γ γ') (h : KOk2 B G γ w0 nt Q r) : KOk2 B G γ' w0 nt Q r := by
  cases r with
  | fail => exact h
  | ok e s => exact fun γ'' e' a' w'' k1 => h γ'' e' a' w'' (hle.trans k1)
theorem putL_TR {γ : Gm} {as : List AV} {vs : Array Value} (h : LR γ as vs.toList) (n : Nat) : TR γ (putL .leaf 0 as) (vs ++ Array.replicate n undef) := by
  intro t av ht
  rw [putL_get] at ht
  split at ht
  · rename_i hin
    obtain ⟨x, h1, h2⟩ := h.get ht
    have hl := h.1
    simp at hl
    refine ⟨x, ?_, h2⟩
    rw [Array.getElem?_append_left (by omega)]
    simpa using h1
  · cases ht
theorem MR.mono {γ γ' : Gm} (hle : Gm.le γ γ') {m : AMode} {u : FrameMode} (h : MR γ m u) : MR γ' m u := by
  cases m with
  | ret => exact h
  | pan a => obtain ⟨v, h1, h2⟩ := h; exact ⟨v, h1.mono hle, h2⟩
  | recd a => obtain ⟨v, h1, h2⟩ := h; exact ⟨v, h1.mono hle, h2⟩
theorem Ret.le {G : Nat} {γ0 γ : Gm} (hle : Gm.le γ0 γ) {r : R1} {e : Ending} {w : World} (h : Ret B G γ w0 r e w) : Ret B G γ0 w0 r e w := by
  cases r with
  | fail => exact h
  | val av h' c' => obtain ⟨γ', v, h1, h2, h3⟩ := h; exact ⟨γ', v, h1, hle.trans h2, h3⟩
  | pan av h' c' => obtain ⟨γ', v, h1, h2, h3⟩ := h; exact ⟨γ', v, h1, hle.trans h2, h3⟩
theorem settle_ok {γ : Gm} {m : AMode} {u : FrameMode} (h : MR γ m u) : MR γ (aSettle m) (settle u) := by
  cases m with
  | ret => simp only [MR] at h; subst h; rfl
  | pan a => obtain ⟨v, h1, rfl⟩ := h; exact ⟨v, h1, rfl⟩
  | recd a => obtain ⟨v, h1, rfl⟩ := h; rfl
theorem enter_ok (hn : Fine P I) {f : FuncId} {fn : Func} {code : Code} (hf : P.funcs[f]? = some fn) (hb : fn.body = some code) (args : Array Value) (w : World) : (callFunc f args).run P w = .ok (.enter f args) w := by
  have h3 : fn.name ≠ "runtime.NumGoroutine" := by simpa using hn.names f fn hf (by rw [hb]; rfl)
  simp [callFunc, hf, hb, h3]
theorem DR_nil {γ' : Gm} {l : List Deferred} (h : DR γ' [] l) : l = [] := by
  cases l with
  | nil => rfl
  | cons d l => exact h.elim
/-- what a deferred call leaves -/
def DefPost (P : Program) (B : Nat → Prop) (γ : Gm) (w0 : World) (m : AMode) (h : Hp) (c : Nat) : Ending → FrameMode → World → Prop
  | .returned _, u, w => ∃ γ', Gm.le γ γ' ∧ MR γ' m u ∧ HR B P.globals.size γ' h c w ∧ Keep B w0 w
  | _, _, _ => False
theorem aDefEnd_ok {fn : Func} {m m' : AMode} {r : R2} {h : Hp} {c : Nat} (hh : aDefEnd P fn m r = some (m', h, c)) : m' = m ∧ ∃ T e av, r = .ok e ⟨T, h, c, []⟩ ∧ (e = .normal ∨ e = .ret) ∧ aResults P fn T h = some av := by
  unfold aDefEnd at hh
  split at hh <;> first | (cases hh; done) | skip
  · rename_i T h' c'
    split at hh <;> first | (cases hh; done) | skip
    rename_i av hav
    injection hh with hh
    injection hh with e1 hh
    injection hh with e2 e3
    subst e1 e2 e3
    exact ⟨rfl, T, _, av, rfl, .inl rfl, hav⟩
  · rename_i T h' c'
    split at hh <;> first | (cases hh; done) | skip
    rename_i av hav
    injection hh with hh
    injection hh with e1 hh
    injection hh with e2 e3
    subst e1 e2 e3
    exact ⟨rfl, T, _, av, rfl, .inr rfl, hav⟩
theorem headRecover_ok {code : Code} {dst : Option Tmp} {y : Code} (h : headRecover code = some (dst, y)) : ∃ id o k, code = .seq (.region id #[o] false) y ∧ o.dst = dst ∧ o.guard = none ∧ o.op = .call k ∧ k.callee = .builtin .recover ∧ k.args = #[] := by
  unfold headRecover at h
  split at h <;> first | (cases h; done) | skip
  rename_i id ops y'
  split at h <;> first | (cases h; done) | skip
  rename_i dst' hr
  injection h with h
  injection h with e1 e2
  subst e1 e2
  unfold recoverOp at hr
  split at hr <;> first | (cases hr; done) | skip
  rename_i o hops
  split at hr <;> first | (cases hr; done) | skip
  rename_i k hg hop
  split at hr <;> first | (cases hr; done) | skip
  rename_i hce hca
  injection hr with hr
  have e1 : ops = #[o] := by apply Array.ext'; simpa using hops
  have e2 : k.args = #[] := by apply Array.ext'; simpa using hca
  subst e1
  exact ⟨id, o, k, rfl, hr, hg, hop, hce, e2⟩
theorem evDefCall_ok {ih : IH} (hih : IHok P B w0 ih) {d : ADef} {dd : Deferred} {m m' : AMode} {u : FrameMode} {h h' : Hp} {c c' : Nat} {γ : Gm} {w : World} (hd : DefR γ d dd) (hm : MR γ m u) (hr : HR B P.globals.size γ h c w) (hb : Keep B w0 w)
    (hh : evDefCall P ih d m h c = some (m', h', c')) : ∃ fn code vs ws, P.funcs[d.f]? = some fn ∧ fn.body = some code ∧ dd = { target := .fn (.func d.f) ws, args := vs } ∧ CallsD P d.f (vs ++ ws) u w (DefPost P B γ w0 m' h' c') := by
  obtain ⟨vs, ws, hdd, hl1, hl2⟩ := hd
  unfold evDefCall at hh
  split at hh
  · cases hh
  rename_i fn hf
  split at hh
  · cases hh
  rename_i code hbd
  split at hh
  · cases hh
  rename_i hle
  have hle : (d.args ++ d.cap).length ≤ fn.ntmps := Nat.le_of_ble_eq_true hle
  refine ⟨fn, code, vs, ws, hf, hbd, hdd, ?_⟩
  have hl : LR γ (d.args ++ d.cap) (vs ++ ws).toList := by simpa using hl1.append hl2
  have hlv := hl.1
  have hfr : FR γ fn.ntmps (putL .leaf 0 (d.args ++ d.cap)) [] { tmps := (vs ++ ws) ++ Array.replicate (fn.ntmps - (vs ++ ws).size) undef, defers := [] } :=
    ⟨by simp at hlv hle ⊢; omega, putL_TR hl _, trivial⟩
  split at hh
  · rename_i dst y hhr
    split at hh
    · cases hh
    rename_i v m1 hrec
    split at hh
    · cases hh
    rename_i T hT
    obtain ⟨rfl, Te, e, av, hres, hee, hav⟩ := aDefEnd_ok hh
    obtain ⟨id, o, k, rfl, rfl, hg, hop, hce, hca⟩ := headRecover_ok hhr
    refine callsD_of_wpS hf hbd (fun c₀ cs hu => wpS_seq (wpS_region ?_))
    have hex : (execOp ({ tmps := (vs ++ ws) ++ Array.replicate (fn.ntmps - (vs ++ ws).size) undef, defers := [] } : Act).eval o).run P w = .ok .recover w := by
      unfold execOp
      rw [hop]
      simp only [resolve, hce, hca, Sem.run_bind, Sem.run_pure, Result.andThen_ok, invoke, builtin]
    have hwant : Region.wanted o (yielded #[o] ({ tmps := (vs ++ ws) ++ Array.replicate (fn.ntmps - (vs ++ ws).size) undef, defers := [] } : Act).tmps) = true := by
      unfold Region.wanted
      rw [hg]
    -- what recover hands back, and how the caller stands
    obtain ⟨v', u', hv', hm', hrun⟩ : ∃ v' u', VR γ v v' ∧ MR γ m' u' ∧ ∀ (K : Act → List Frame → World → Prop) (a : Act), K (a.put o.dst v') ({ c₀ with mode := u' } :: cs) w → (match recoverD (c₀ :: cs) with
        | some (x, cs') => K (a.put o.dst x) cs' w
        | none => K (a.put o.dst .nilIface) (c₀ :: cs) w) := by
      cases m with
      | ret =>
        simp only [aRecover, Option.some.injEq, Prod.mk.injEq] at hrec
        obtain ⟨rfl, rfl⟩ := hrec
        simp only [MR] at hm
        subst hm
        refine ⟨.nilIface, .returning, .v _, rfl, fun K a hK => ?_⟩
        have : recoverD (c₀ :: cs) = none := by simp [recoverD, hu]
        rw [this]
        have e : ({ c₀ with mode := .returning } : Frame) = c₀ := by rw [← hu]
        rw [e] at hK
        exact hK
      | pan a0 =>
        simp only [aRecover, Option.some.injEq, Prod.mk.injEq] at hrec
        obtain ⟨rfl, rfl⟩ := hrec
        obtain ⟨x, hx, rfl⟩ := hm
        refine ⟨x, .panicking [{ v := x, recovered := true }], hx, ⟨x, hx, rfl⟩, fun K a hK => ?_⟩
        have : recoverD (c₀ :: cs) = some (x, { c₀ with mode := .panicking [{ v := x, recovered := true }] } :: cs) := by simp [recoverD, hu]
        rw [this]
        exact hK
      | recd a0 => simp [aRecover] at hrec
    have hgoal : wpOpsS P #[o] (Exit.thenS (y.wpS P (bodyPostS P fn c₀ cs (DefPost P B γ w0 m' h' c'))) (bodyPostS P fn c₀ cs (DefPost P B γ w0 m' h' c'))) [0]
        { tmps := (vs ++ ws) ++ Array.replicate (fn.ntmps - (vs ++ ws).size) undef, defers := [] } (c₀ :: cs) w := by
      simp only [wpOpsS]
      have ho : (#[o] : Array Oper)[0]? = some o := rfl
      simp only [ho, hwant, if_true, hex]
      have hK := hrun (fun a cs' w' => Exit.thenS (y.wpS P (bodyPostS P fn c₀ cs (DefPost P B γ w0 m' h' c'))) (bodyPostS P fn c₀ cs (DefPost P B γ w0 m' h' c')) .normal a cs' w')
        { tmps := (vs ++ ws) ++ Array.replicate (fn.ntmps - (vs ++ ws).size) undef, defers := [] } (wpS_of_wp ?_)
      · revert hK
        cases recoverD (c₀ :: cs) with
        | none => exact fun hq => hq
        | some x => exact fun hq => hq
      · refine hih.1 y fn.ntmps ⟨T, h, c, []⟩ γ _ w _ (hfr.put (Gm.le.refl _) hv' hT) hr hb ?_
        rw [hres]
        intro γ' e' a' w' h1 h2 h3 h4 h5
        obtain ⟨rv, hrv, hrr⟩ := aResults_ok h4 h3.tmps hav
        rcases hee with rfl | rfl
        · cases e' <;> first | exact h2.elim | skip
          exact ⟨DR_nil h3.defs, u', rfl, rv, hrr, γ', h1, hm'.mono h1, h4, h5⟩
        · cases e' <;> first | exact h2.elim | skip
          exact ⟨DR_nil h3.defs, u', rfl, rv, hrr, γ', h1, hm'.mono h1, h4, h5⟩
    exact hgoal
  · obtain ⟨rfl, Te, e, av, hres, hee, hav⟩ := aDefEnd_ok hh
    refine (callsD_of_wp (R := fun e w' => DefPost P B γ w0 m' h' c' e u w') hf hbd (hih.1 code fn.ntmps ⟨putL .leaf 0 (d.args ++ d.cap), h, c, []⟩ γ _ w _ hfr hr hb ?_)).mono (fun e u' w' hR => by
      obtain ⟨rfl, hR⟩ := hR
      exact hR)
    rw [hres]
    intro γ' e' a' w' h1 h2 h3 h4 h5
    obtain ⟨rv, hrv, hrr⟩ := aResults_ok h4 h3.tmps hav
    rcases hee with rfl | rfl
    · cases e' <;> first | exact h2.elim | skip
      exact ⟨DR_nil h3.defs, rv, hrr, γ', h1, hm.mono h1, h4, h5⟩
    · cases e' <;> first | exact h2.elim | skip
      exact ⟨DR_nil h3.defs, rv, hrr, γ', h1, hm.mono h1, h4, h5⟩
theorem aLeaves_ok (hn : Fine P I) {ih : IH} (hih : IHok P B w0 ih) {fn : Func} {T : Tr AV} {tmps : Array Value} : ∀ {ds : List ADef} {dl : List Deferred} {m : AMode} {u : FrameMode} {h : Hp} {c : Nat} {γ : Gm} {w : World}, DR γ ds dl → MR γ m u → TR γ T tmps →
    HR B P.globals.size γ h c w → Keep B w0 w → aLeaves P ih fn T ds m h c ≠ .fail → Leaves P fn tmps (Ret B P.globals.size γ w0 (aLeaves P ih fn T ds m h c)) dl u w
  | [], [], m, u, h, c, γ, w, hd, hm, ht, hr, hb, hne => by
    cases m with
    | ret =>
      simp only [MR] at hm
      subst hm
      simp only [aLeaves] at hne ⊢
      split at hne
      · rename_i av hav
        obtain ⟨v, h1, h2⟩ := aResults_ok hr ht hav
        exact ⟨v, h2, γ, v, rfl, Gm.le.refl _, h1, hr, hb⟩
      · exact (hne rfl).elim
    | pan a =>
      obtain ⟨v, h1, rfl⟩ := hm
      exact ⟨γ, v, rfl, Gm.le.refl _, h1, hr, hb⟩
    | recd a => exact (hne rfl).elim
  | d :: ds, dd :: dl, m, u, h, c, γ, w, hd, hm, ht, hr, hb, hne => by
    simp only [aLeaves] at hne ⊢
    split at hne
    · rename_i m' h' c' hdc
      obtain ⟨fn', code, vs, ws, hf, hbd, hdd, hcall⟩ := evDefCall_ok hih hd.1 hm hr hb hdc
      subst hdd
      refine leaves_cons ?_ ?_ ((hcall).mono (fun e u' w' hR => ?_))
      · cases m with
        | ret => simp only [MR] at hm; subst hm; simp
        | pan a => obtain ⟨v, _, rfl⟩ := hm; simp
        | recd a => obtain ⟨v, _, rfl⟩ := hm; simp
      · simp only [invoke]
        exact enter_ok hn hf hbd _ w
      · cases e with
        | returned v =>
          obtain ⟨γ', h1, h2, h3, h4⟩ := hR
          have := aLeaves_ok hn hih (hd.2.mono h1) (settle_ok h2) (ht.mono h1) h3 h4 hne
          exact leaves_mono (fun e w hR => hR.le h1) this
        | panicked ch => exact hR.elim
        | outgrown => exact hR.elim
    · exact (hne rfl).elim
  | [], _ :: _, _, _, _, _, _, _, hd, _, _, _, _, _ => hd.elim
  | _ :: _, [], _, _, _, _, _, _, hd, _, _, _, _, _ => hd.elim
theorem evBody_ok (hn : Fine P I) {ih : IH} (hih : IHok P B w0 ih) : CallOk P B P.globals.size w0 (evBody P ih) := by
  intro f fn code args h c γ w vs hf hbd hr hb hl hne
  refine calls_of_wp_defers hf hbd ?_
  have hcall : evBody P ih f args h c = (match Nat.ble args.length fn.ntmps with
      | false => .fail
      | true => match ih code fn.ntmps ⟨putL .leaf 0 args, h, c, []⟩ with
        | .ok .normal s => aLeaves P ih fn s.T s.ds .ret s.h s.c
        | .ok .ret s => aLeaves P ih fn s.T s.ds .ret s.h s.c
        | .ok (.pan av) s => aLeaves P ih fn s.T s.ds (.pan av) s.h s.c
        | _ => .fail) := by
    unfold evBody
    simp only [hf, hbd]
  rw [hcall] at hne ⊢
  clear hcall
  split at hne
  · exact (hne rfl).elim
  rename_i hle
  have hle : args.length ≤ fn.ntmps := Nat.le_of_ble_eq_true hle
  have hlv := hl.1
  have hfr : FR γ fn.ntmps (putL .leaf 0 args) [] { tmps := vs.toArray ++ Array.replicate (fn.ntmps - vs.toArray.size) undef, defers := [] } :=
    ⟨by simp; omega, putL_TR (by simpa using hl) _, trivial⟩
  refine hih.1 code fn.ntmps ⟨putL .leaf 0 args, h, c, []⟩ γ _ w _ hfr hr hb ?_
  split at hne
  · rename_i s hres
    rw [hres]
    intro γ' e' a w' h1 h2 h3 h4 h5
    cases e' <;> first | exact h2.elim | skip
    exact leaves_mono (fun e w hR => hR.le h1) (aLeaves_ok (m := .ret) hn hih h3.defs rfl h3.tmps h4 h5 hne)
  · rename_i s hres
    rw [hres]
    intro γ' e' a w' h1 h2 h3 h4 h5
    cases e' <;> first | exact h2.elim | skip
    exact leaves_mono (fun e w hR => hR.le h1) (aLeaves_ok (m := .ret) hn hih h3.defs rfl h3.tmps h4 h5 hne)
  · rename_i av s hres
    rw [hres]
    intro γ' e' a w' h1 h2 h3 h4 h5
    cases e' <;> first | exact h2.elim | skip
    obtain ⟨v, h6, h7⟩ := h2
    subst h7
    exact leaves_mono (fun e w hR => hR.le h1) (aLeaves_ok (m := .pan av) hn hih h3.defs ⟨v, h6, rfl⟩ h3.tmps h4 h5 hne)
  · exact (hne rfl).elim
theorem evCall_ok (hn : Fine P I) (hW : ∀ w, Keep B w0 w → I.W w) {ih : IH} (hih : IHok P B w0 ih) : CallOk P B P.globals.size w0 (evCall P I ih) := by
  intro f fn code args h c γ w vs hf hbd hr hb hl hne
  have hbody := evBody_ok hn hih f fn code args h c γ w vs hf hbd hr hb hl
  unfold evCall at hne ⊢
  split at hne
  · rename_i av hk
    have hWw : I.W w := hW w hb
    refine (hn.known f args av hk γ vs w hl hWw).mono fun e w' hR => ?_
    obtain ⟨v, rfl, h1, h2⟩ := hR
    refine ⟨γ, v, rfl, Gm.le.refl _, h1, hr.kept h2.size h2.block, hb.trans (Keep.of_below h2 hr.base)⟩
  · exact hbody hne
theorem evStep_ok (hm : P.follows .mixedOrders = true) (hn : Fine P I) (hW : ∀ w, Keep B w0 w → I.W w) {ih : IH} (hih : IHok P B w0 ih) : IHok P B w0 (evStep P I ih) := by
  rw [evStep_eq]
  have hcall := evCall_ok (I := I) hn hW hih
  have hloop : ∀ (code : Code) (nt : Nat) (s : St) (γ : Gm) (a : Act) (w : World) (Q : Exit → Act → World → Prop), FR γ nt s.T s.ds a → HR B P.globals.size γ s.h s.c w → Keep B w0 w → KOk2 B P.globals.size γ w0 nt Q (evStepS P I ih (.loop code) nt s) → LoopBody P code Q a w := by
    intro code nt s γ a w Q hf hr hb hk
    refine loopBody_of (hih.1 code nt s γ a w _ hf hr hb ?_)
    simp only [evStepS] at hk
    cases hc : ih code nt s with
    | fail => rw [hc] at hk; exact hk
    | ok e s' =>
      rw [hc] at hk
      intro γ' e' a' w' h1 h2 h3 h4 h5
      cases e with
      | normal =>
        cases e' <;> first | exact h2.elim | skip
        exact hih.2 code nt s' γ' a' w' Q h3 h4 h5 (hk.le h1)
      | exit id =>
        cases e' <;> first | exact h2.elim | skip
        exact hk γ' _ a' w' h1 h2 h3 h4 h5
      | ret =>
        cases e' <;> first | exact h2.elim | skip
        exact hk γ' _ a' w' h1 h2 h3 h4 h5
      | pan av =>
        cases e' <;> first | exact h2.elim | skip
        exact hk γ' _ a' w' h1 h2 h3 h4 h5
  refine ⟨fun code nt s γ a w Q hf hr hb hk => ?_, hloop⟩
  cases code with
  | skip => exact wp_skip (hk γ .normal a w (Gm.le.refl _) trivial hf hr hb)
  | region id ops draw =>
    cases draw with
    | false =>
      refine wp_region ?_
      have := evalSeq_ok (Q := Q) hn hcall ops.toList 0 s.T s.h s.c s.ds γ a w (fun j o hj => by rw [Nat.zero_add]; simpa using hj) hf hr hb hk
      rw [List.range_eq_range']
      simpa using this
    | true => exact evalDraw_ok hm hn hcall hf hr hb hk
  | seq x y =>
    refine wp_seq (hih.1 x nt s γ a w _ hf hr hb ?_)
    simp only [evStepS] at hk
    cases hc : ih x nt s with
    | fail => rw [hc] at hk; exact hk
    | ok e s' =>
      rw [hc] at hk
      intro γ' e' a' w' h1 h2 h3 h4 h5
      cases e with
      | normal =>
        cases e' <;> first | exact h2.elim | skip
        exact hih.1 y nt s' γ' a' w' Q h3 h4 h5 (hk.le h1)
      | exit id =>
        cases e' <;> first | exact h2.elim | skip
        exact hk γ' _ a' w' h1 h2 h3 h4 h5
      | ret =>
        cases e' <;> first | exact h2.elim | skip
        exact hk γ' _ a' w' h1 h2 h3 h4 h5
      | pan av =>
        cases e' <;> first | exact h2.elim | skip
        exact hk γ' _ a' w' h1 h2 h3 h4 h5
  | cond c x y =>
    simp only [evStepS] at hk
    split at hk <;> first | exact hk.elim | skip
    all_goals
      rename_i hc
      have hcv := hf.ok (P := P) (B := B) (G := 0) hr.glob [c] c (by simp) _ hc
      generalize hvc : a.eval c = vc at hcv
      cases hcv
    · exact wp_cond_true hvc (hih.1 x nt s γ a w Q hf hr hb hk)
    · exact wp_cond_false hvc (hih.1 y nt s γ a w Q hf hr hb hk)
  | block id x =>
    refine wp_block (hih.1 x nt s γ a w _ hf hr hb ?_)
    simp only [evStepS] at hk
    cases hc : ih x nt s with
    | fail => rw [hc] at hk; exact hk
    | ok e s' =>
      rw [hc] at hk
      intro γ' e' a' w' h1 h2 h3 h4 h5
      cases e with
      | normal =>
        cases e' <;> first | exact h2.elim | skip
        exact hk γ' _ a' w' h1 h2 h3 h4 h5
      | exit j =>
        cases e' <;> first | exact h2.elim | skip
        rename_i j'
        have hj : j = j' := h2
        subst hj
        simp only at hk
        split at hk
        · rename_i hji
          have hji := Nat.eq_of_beq_eq_true hji
          simp only [Exit.inBlock, hji, if_true]
          exact hk γ' .normal a' w' h1 trivial h3 h4 h5
        · rename_i hji
          have hji := Nat.ne_of_beq_eq_false hji
          simp only [Exit.inBlock, if_neg hji]
          exact hk γ' (.exit j) a' w' h1 rfl h3 h4 h5
      | ret =>
        cases e' <;> first | exact h2.elim | skip
        exact hk γ' _ a' w' h1 h2 h3 h4 h5
      | pan av =>
        cases e' <;> first | exact h2.elim | skip
        exact hk γ' _ a' w' h1 h2 h3 h4 h5
  | loop x => exact loop_of (hloop x nt s γ a w Q hf hr hb hk)
  | exit id => exact wp_exit (hk γ (.exit id) a w (Gm.le.refl _) rfl hf hr hb)
  | label l => exact wp_label (hk γ .normal a w (Gm.le.refl _) trivial hf hr hb)
  | ret => exact wp_ret (hk γ .ret a w (Gm.le.refl _) trivial hf hr hb)
  | rangeFunc f ps as b => exact hk.elim
  | scope x =>
    refine wp_scope_straight (hih.1 x nt s γ a w _ hf hr hb ?_)
    simp only [evStepS] at hk
    cases hc : ih x nt s with
    | fail => rw [hc] at hk; exact hk
    | ok e s' =>
      rw [hc] at hk
      intro γ' e' a' w' h1 h2 h3 h4 h5
      cases e with
      | normal =>
        cases e' <;> first | exact h2.elim | skip
        exact hk γ' _ a' w' h1 h2 h3 h4 h5
      | exit id =>
        cases e' <;> first | exact h2.elim | skip
        exact hk γ' _ a' w' h1 h2 h3 h4 h5
      | ret =>
        cases e' <;> first | exact h2.elim | skip
        exact hk γ' _ a' w' h1 h2 h3 h4 h5
      | pan av =>
        cases e' <;> first | exact h2.elim | skip
        exact hk γ' _ a' w' h1 h2 h3 h4 h5
  | goto l => exact hk.elim
  | refuse y => exact hk.elim
theorem ev_ok (hm : P.follows .mixedOrders = true) (hn : Fine P I) (hW : ∀ w, Keep B w0 w → I.W w) : ∀ n, IHok P B w0 (ev P I n)
  | 0 => ⟨fun _ _ _ _ _ _ _ _ _ _ hk => hk.elim, fun _ _ _ _ _ _ _ _ _ _ hk => hk.elim⟩
  | n + 1 => evStep_ok hm hn hW (ev_ok hm hn hW n)

theorem fine_of {P : Program} {I : Aux} (hi : ∀ (f : Nat), I.I f = true → ∀ (x : Value) (w : World), (callFunc f #[x]).run P w = .ok (.value x) w)
    (hk : ∀ (f : Nat) (args : List AV) (av : AV), I.K f args = some av → ∀ (γ : Gm) (vs : List Value) (w : World), LR γ args vs → I.W w → Calls P f vs.toArray w fun e w' => ∃ v, e = .returned v ∧ VR γ av v ∧ Below w.heap.size w w')
    (hs : ∀ (w w' : World), I.W w → Below w.heap.size w w' → I.W w') (h : (P.funcs.toList.all fun fn => fn.body.isNone || !(fn.name == "runtime.NumGoroutine")) = true) : Fine P I := by
  refine ⟨fun f fn hf hb => ?_, hi, hk, hs⟩
  have := List.all_eq_true.1 h fn (by simpa using Array.mem_of_getElem? hf)
  rw [Bool.or_eq_true] at this
  rcases this with h1 | h1
  · cases hbd : fn.body with
    | none => rw [hbd] at hb; cases hb
    | some c => rw [hbd] at h1; cases h1
  · simpa using h1
/-- a call, reckoned from an empty memory -/
noncomputable def reckon (P : Program) (I : Aux) (n : Nat) (f : FuncId) (args : List AV) : R1 := evCall P I (ev P I n) f args .leaf P.globals.size
def okTrue : R1 → Bool
  | .val (.v (.bool true)) _ _ => true
  | _ => false
theorem ret_true {B : Nat → Prop} {G : Nat} {γ : Gm} {w : World} {r : R1} {e : Ending} {w' : World} (h : okTrue r = true) (hR : Ret B G γ w r e w') : e = .returned (.bool true) ∧ Keep B w w' := by
  unfold okTrue at h
  split at h
  · rename_i h' c' hres
    obtain ⟨γ', v, rfl, _, hv, _, hb'⟩ := hR
    cases hv
    exact ⟨rfl, hb'⟩
  · cases h
theorem reckon_true (hm : P.follows .mixedOrders = true) (hn : Fine P I) {n : Nat} {f : FuncId} {fn : Func} (hf : P.funcs[f]? = some fn) (hb : fn.body.isSome = true) (h : okTrue (reckon P I n f []) = true) (w : World) (hW : I.W w) :
    Calls P f #[] w fun e w' => e = .returned (.bool true) ∧ Below w.heap.size w w' := by
  obtain ⟨code, hb⟩ := Option.isSome_iff_exists.1 hb
  have hWW : ∀ w', Keep (· < w.heap.size) w w' → I.W w' := fun w' hk => hn.stays w w' hW hk.below
  have hcall := evCall_ok (I := I) (B := (· < w.heap.size)) (w0 := w) hn hWW (ev_ok (P := P) (B := (· < w.heap.size)) (w0 := w) hm hn hWW n)
  unfold reckon at h
  have hr : HR (· < w.heap.size) P.globals.size (fun g => if g < P.globals.size then some (g, 0) else none) .leaf P.globals.size w :=
    ⟨fun b blk hb => (by rw [Tr.get_leaf] at hb; cases hb), fun b b' blk blk' p p' hb => (by rw [Tr.get_leaf] at hb; cases hb), fun b hb => by show (if b < P.globals.size then _ else _) = _; rw [if_neg (by omega)], fun g hg => ⟨0, by show (if g < P.globals.size then _ else _) = _; rw [if_pos hg]⟩, fun k hk => hk⟩
  exact (hcall f fn code [] .leaf P.globals.size _ w [] hf hb hr (Keep.refl _ _) LR.nil (fun e => by rw [e] at h; cases h)).mono fun e w' hR => let ⟨h1, h2⟩ := ret_true h hR; ⟨h1, h2.below⟩

/-! a memory in which a table lies -/
def natAVs : List Nat → List AV
  | [] => []
  | n :: l => .v (.int .u64 (.ofNat n)) :: natAVs l
theorem natAVs_LR {γ : Gm} : ∀ (l : List Nat), LR γ (natAVs l) (l.map fun (n : Nat) => Value.int .u64 (n : Int))
  | [] => LR.nil
  | n :: l => LR.cons (.v _) (natAVs_LR l)
def tabHp (g : Nat) (zs : List Nat) : Hp := Tr.leaf.put g (some (.cells 0 false false false zs.length (putL .leaf 0 (natAVs zs))))
noncomputable def reckonT (P : Program) (I : Aux) (n : Nat) (g : Nat) (zs : List Nat) (f : FuncId) (args : List AV) : R1 := evCall P I (ev P I n) f args (tabHp g zs) P.globals.size
/-- the table lies in the world -/
def TabAt (g : Nat) (zs : List Nat) (w : World) : Prop := ∃ ty fz, w.heap[g]? = some (.cells (zs.map fun (n : Nat) => Value.int .u64 (n : Int)).toArray ty fz)
theorem reckonT_ret (hm : P.follows .mixedOrders = true) (hn : Fine P I) {n g : Nat} {zs : List Nat} (hg : g < P.globals.size) {f : FuncId} {fn : Func} (hf : P.funcs[f]? = some fn) (hb : fn.body.isSome = true)
    {args : List AV} {vs : List Value} (w : World) (hl : ∀ γ, LR γ args vs) (hne : reckonT P I n g zs f args ≠ .fail) (ht : TabAt g zs w) (hW : I.W w) :
    ∃ γ, Calls P f vs.toArray w (Ret (· < w.heap.size) P.globals.size γ w (reckonT P I n g zs f args)) := by
  obtain ⟨code, hb⟩ := Option.isSome_iff_exists.1 hb
  have hWW : ∀ w', Keep (· < w.heap.size) w w' → I.W w' := fun w' hk => hn.stays w w' hW hk.below
  have hcall := evCall_ok (I := I) (B := (· < w.heap.size)) (w0 := w) hn hWW (ev_ok (P := P) (B := (· < w.heap.size)) (w0 := w) hm hn hWW n)
  obtain ⟨ty, fz, hheap⟩ := ht
  have hget : ∀ b blk, (tabHp g zs).get b = some blk → b = g ∧ blk = .cells 0 false false false zs.length (putL .leaf 0 (natAVs zs)) := by
    intro b blk hb'
    unfold tabHp at hb'
    rw [Tr.get_put] at hb'
    split at hb'
    · rename_i e
      injection hb' with hb'
      exact ⟨e, hb'.symm⟩
    · rw [Tr.get_leaf] at hb'; cases hb'
  have hr : HR (· < w.heap.size) P.globals.size (fun x => if x < P.globals.size then some (x, if x = g then zs.length else 0) else none) (tabHp g zs) P.globals.size w := by
    refine ⟨fun b blk hb' => ?_, fun b b' blk blk' p p' h1 h2 _ _ _ => (hget _ _ h1).1.trans (hget _ _ h2).1.symm, fun b hb => by show (if b < P.globals.size then _ else _) = _; rw [if_neg (by omega)],
      fun x hx => ⟨_, by show (if x < P.globals.size then _ else _) = _; rw [if_pos hx]⟩, fun k hk => hk⟩
    obtain ⟨rfl, rfl⟩ := hget b blk hb'
    refine ⟨(b, zs.length), by show (if b < P.globals.size then _ else _) = _; rw [if_pos hg, if_pos rfl], fun e => (by cases e), _, ty, fz, hheap, by simp, ⟨fun e => (by cases e), fun e => (by cases e)⟩, fun i av hlt hi => ?_⟩
    have hl := natAVs_LR (γ := fun x => if x < P.globals.size then some (x, if x = b then zs.length else 0) else none) zs
    have hll := hl.1
    simp only [List.length_map] at hll
    rw [putL_get, if_pos ⟨by omega, by omega⟩] at hi
    obtain ⟨v, h1, h2⟩ := hl.get (by simpa using hi)
    exact ⟨v, by simpa using h1, h2⟩
  exact ⟨_, hcall f fn code args (tabHp g zs) P.globals.size _ w vs hf hb hr (Keep.refl _ _) (hl _) hne⟩
theorem reckonT_true (hm : P.follows .mixedOrders = true) (hn : Fine P I) {n g : Nat} {zs : List Nat} (hg : g < P.globals.size) {f : FuncId} {fn : Func} (hf : P.funcs[f]? = some fn) (hb : fn.body.isSome = true)
    (h : okTrue (reckonT P I n g zs f []) = true) (w : World) (ht : TabAt g zs w) (hW : I.W w) :
    Calls P f #[] w fun e w' => e = .returned (.bool true) ∧ Below w.heap.size w w' := by
  obtain ⟨γ, hc⟩ := reckonT_ret hm hn hg hf hb w (fun _ => LR.nil) (fun e => by rw [e] at h; cases h) ht hW
  exact hc.mono fun e w' hR => let ⟨h1, h2⟩ := ret_true h hR; ⟨h1, h2.below⟩
end
end Go.Sy
