/- The reckoner: code and calls, and the law: what is reckoned comes to pass. Any program; the conditions are in the theorem. -/
import Derived.Test.YtiacalnkmnckjaaEv9
import Derived.Scope
namespace Go.Ev
open Go Go.RowKit
set_option linter.unusedVariables false
set_option linter.unusedSimpArgs false

/-! results -/
def aRes1 (P : Program) (T : Tr AV) (h : Hp) : List ResultVar → Option (List AV)
  | [] => some []
  | .tmp t :: l => match T.get t with
    | none => none
    | some a => match aRes1 P T h l with
      | none => none
      | some r => some (a :: r)
  | .cell t ty :: l => match T.get t with
    | some (.ptr b off) => match aLoad P ty (.ptr b off) h with
      | none => none
      | some a => match aRes1 P T h l with
        | none => none
        | some r => some (a :: r)
    | _ => none
def aResults (P : Program) (fn : Func) (T : Tr AV) (h : Hp) : Option AV := match aRes1 P T h fn.results.toList with
  | none => none
  | some [a] => some a
  | some l => some (.tup l)
def resF (tmps : Array Value) : ResultVar → Sem Value
  | .tmp t => pure (tmps.getD t undef)
  | .cell a t => do loadVar t (← asAddr (tmps.getD a undef))
theorem aRes1_ok {P : Program} {B G : Nat} {γ : Gm} {T : Tr AV} {h : Hp} {c : Nat} {w : World} {tmps : Array Value} (hr : HR B G γ h c w) (ht : TR γ T tmps) : ∀ {l : List ResultVar} {r : List AV}, aRes1 P T h l = some r →
    ∃ vs, LR γ r vs ∧ (l.mapM (resF tmps)).run P w = .ok vs w
  | [], r, hh => by simp [aRes1] at hh; subst hh; exact ⟨[], LR.nil, rfl⟩
  | .tmp t :: l, r, hh => by
    simp only [aRes1] at hh
    split at hh
    · cases hh
    rename_i a ha
    split at hh
    · cases hh
    rename_i r' hr'
    injection hh with hh
    subst hh
    obtain ⟨v, h1, h2⟩ := ht t a ha
    obtain ⟨vs, h3, h4⟩ := aRes1_ok hr ht hr'
    refine ⟨v :: vs, LR.cons h2 h3, ?_⟩
    have h0 : (resF tmps (.tmp t)).run P w = .ok v w := by simp only [resF, getD_of h1, Sem.run_pure]
    rw [List.mapM_cons]
    simp only [Sem.run_bind, Sem.run_pure, Result.andThen_ok, h0, h4]
  | .cell t ty :: l, r, hh => by
    simp only [aRes1] at hh
    split at hh <;> first | (cases hh; done) | skip
    rename_i b off ha
    split at hh
    · cases hh
    rename_i av hav
    split at hh
    · cases hh
    rename_i r' hr'
    injection hh with hh
    subst hh
    obtain ⟨v, h1, h2⟩ := ht t _ ha
    obtain ⟨vs, h3, h4⟩ := aRes1_ok hr ht hr'
    obtain ⟨x, h5, h6⟩ := aLoad_ok hr h2 hav
    refine ⟨x :: vs, LR.cons h5 h3, ?_⟩
    have h0 : (resF tmps (.cell t ty)).run P w = .ok x w := by
      cases h2 with
      | ptr hb =>
        simp only [Instr.loadAt, Instr.sureAddr, Sem.run_bind, Sem.run_pure, Result.andThen_ok] at h6
        simp only [resF, Sem.run_bind, Sem.run_pure, Result.andThen_ok, getD_of h1, asAddr, h6]
    rw [List.mapM_cons]
    simp only [Sem.run_bind, Sem.run_pure, Result.andThen_ok, h0, h4]
theorem aResults_ok {P : Program} {B G : Nat} {γ : Gm} {fn : Func} {T : Tr AV} {h : Hp} {c : Nat} {w : World} {tmps : Array Value} {av : AV} (hr : HR B G γ h c w) (ht : TR γ T tmps) (hh : aResults P fn T h = some av) :
    ∃ v, VR γ av v ∧ (results fn tmps).run P w = .ok v w := by
  unfold aResults at hh
  have key : ∀ {r : List AV}, aRes1 P T h fn.results.toList = some r → ∃ vs : List Value, LR γ r vs ∧ (results fn tmps).run P w = .ok (if h : vs.toArray.size = 1 then vs.toArray[0] else .tuple vs.toArray) w := by
    intro r hr'
    obtain ⟨vs, h1, h2⟩ := aRes1_ok hr ht hr'
    refine ⟨vs, h1, ?_⟩
    have e : results fn tmps = (do let vs ← fn.results.mapM (resF tmps); pure (if h : vs.size = 1 then vs[0] else .tuple vs)) := by
      unfold results
      congr 2
    rw [e, Array.mapM_eq_mapM_toList, Sem.run_bind, Sem.run_map, h2]
    rfl
  split at hh
  · cases hh
  · rename_i a ha
    injection hh with hh
    subst hh
    obtain ⟨vs, h1, h2⟩ := key ha
    have hl := h1.1
    match vs, hl with
    | [x], _ => exact ⟨x, h1.2 0 _ x rfl rfl, by rw [h2]; rfl⟩
  · rename_i l hnl ha
    injection hh with hh
    subst hh
    obtain ⟨vs, h1, h2⟩ := key ha
    have hl := h1.1
    refine ⟨.tuple vs.toArray, VR.tupL h1, ?_⟩
    rw [h2, dif_neg]
    intro he
    simp at he
    match l, hl.trans he with
    | [x], _ => exact hnl x rfl

/-! code -/
abbrev IH := Code → Nat → St → R2
def evCall (P : Program) (ih : IH) : CallF := fun f args h c => match P.funcs[f]? with
  | none => .fail
  | some fn => match fn.body with
    | none => .fail
    | some code => match Nat.ble args.length fn.ntmps with
      | false => .fail
      | true => match ih code fn.ntmps ⟨putL .leaf 0 args, h, c, []⟩ with
        | .ok .normal ⟨T, h', c', []⟩ => match aResults P fn T h' with
          | some av => .val av h' c'
          | none => .fail
        | .ok .ret ⟨T, h', c', []⟩ => match aResults P fn T h' with
          | some av => .val av h' c'
          | none => .fail
        | .ok (.pan av) ⟨_, h', c', []⟩ => .pan av h' c'
        | _ => .fail
def evStep (P : Program) (ih : IH) : IH := fun code nt s => match code with
  | .skip => .ok .normal s
  | .region _ ops draw => match draw with
    | false => evalSeq P (evCall P ih) nt ops ops.toList s.T s.h s.c s.ds
    | true => evalDraw P (evCall P ih) nt ops s
  | .seq x y => match ih x nt s with
    | .ok .normal s' => ih y nt s'
    | r => r
  | .cond c x y => match aev P s.T c with
    | some (.v (.bool true)) => ih x nt s
    | some (.v (.bool false)) => ih y nt s
    | _ => .fail
  | .block id x => match ih x nt s with
    | .ok (.exit j) s' => match Nat.beq j id with
      | true => .ok .normal s'
      | false => .ok (.exit j) s'
    | r => r
  | .loop x => match ih x nt s with
    | .ok .normal s' => ih (.loop x) nt s'
    | r => r
  | .exit id => .ok (.exit id) s
  | .label _ => .ok .normal s
  | .scope x => ih x nt s
  | .ret => .ok .ret s
  | _ => .fail
noncomputable def ev (P : Program) (n : Nat) : IH := Nat.rec (motive := fun _ => IH) (fun _ _ _ => .fail) (fun _ ih => evStep P ih) n

/-- a loop that stands ahead of its round -/
def LoopBody (P : Program) (c : Code) (Q : Exit → Act → World → Prop) (a : Act) (w : World) : Prop :=
  ∀ (b : Frame) (k : List Item) (cs : List Frame), ∃ e a' w', Q e a' w' ∧ Arrives P (lone (b.at a (.code c :: .inLoop c :: k)) cs w) b k cs e a' w'
theorem loop_of {P : Program} {c : Code} {Q : Exit → Act → World → Prop} {a : Act} {w : World} (h : LoopBody P c Q a w) : (Code.loop c).wp P Q a w := by
  intro b k cs
  obtain ⟨e, a', w', hq, harr⟩ := h b k cs
  exact ⟨e, a', w', hq, .of_steps (.one step_loop) harr⟩
theorem loopBody_of {P : Program} {c : Code} {Q : Exit → Act → World → Prop} {a : Act} {w : World} (h : c.wp P (Exit.then (LoopBody P c Q) Q) a w) : LoopBody P c Q a w := by
  intro b k cs
  obtain ⟨e, a₁, w₁, hq, harr⟩ := h b (.inLoop c :: k) cs
  cases e with
  | normal =>
    obtain ⟨e₂, a₂, w₂, hq₂, harr₂⟩ := hq b k cs
    exact ⟨e₂, a₂, w₂, hq₂, .of_steps (Steps.trans harr (.one step_inLoop)) harr₂⟩
  | exit id => exact ⟨_, a₁, w₁, hq, .pass (x := .inLoop c) rfl (fun _ _ => .inl (by simp)) harr⟩
  | goto l => exact ⟨_, a₁, w₁, hq, .pass (x := .inLoop c) rfl (fun _ _ => .inl (by simp)) harr⟩
  | ret => exact ⟨_, a₁, w₁, hq, .pass (x := .inLoop c) rfl (fun _ _ => .inl (by simp)) harr⟩
  | panic ch => exact ⟨_, a₁, w₁, hq, .pass (x := .inLoop c) rfl (fun _ _ => .inl (by simp)) harr⟩
  | outgrown => exact ⟨_, a₁, w₁, hq, .pass (x := .inLoop c) rfl (fun _ _ => .inl (by simp)) harr⟩

section
variable {P : Program} {B : Nat} {w0 : World}
/-- what a reckoner of code must keep -/
def IHok (P : Program) (B : Nat) (w0 : World) (ih : IH) : Prop :=
  (∀ (code : Code) (nt : Nat) (s : St) (γ : Gm) (a : Act) (w : World) (Q : Exit → Act → World → Prop), FR γ nt s.T s.ds a → HR B P.globals.size γ s.h s.c w → Below B w0 w → KOk2 B P.globals.size γ w0 nt Q (ih code nt s) → code.wp P Q a w) ∧
  (∀ (code : Code) (nt : Nat) (s : St) (γ : Gm) (a : Act) (w : World) (Q : Exit → Act → World → Prop), FR γ nt s.T s.ds a → HR B P.globals.size γ s.h s.c w → Below B w0 w → KOk2 B P.globals.size γ w0 nt Q (ih (.loop code) nt s) → LoopBody P code Q a w)
theorem KOk2.le {G : Nat} {γ γ' : Gm} {nt : Nat} {Q : Exit → Act → World → Prop} {r : R2} (hle : Gm.le γ γ') (h : KOk2 B G γ w0 nt Q r) : KOk2 B G γ' w0 nt Q r := by
  cases r with
  | fail => exact h
  | ok e s => exact fun γ'' e' a' w'' k1 => h γ'' e' a' w'' (hle.trans k1)
theorem putL_TR {γ : Gm} {as : List AV} {vs : Array Value} (h : LR γ as vs.toList) (n : Nat) : TR γ (putL .leaf 0 as) (vs ++ Array.replicate n undef) := by
  intro t av ht
  rw [putL_get] at ht
  split at ht
  · rename_i hin
    obtain ⟨x, h1, h2⟩ := h.get ht
    have hl := h.1
    simp at hl
    refine ⟨x, ?_, h2⟩
    rw [Array.getElem?_append_left (by omega)]
    simpa using h1
  · cases ht
theorem evCall_ok {ih : IH} (hih : IHok P B w0 ih) : CallOk P B P.globals.size w0 (evCall P ih) := by
  intro f fn code args h c γ w vs hf hbd hr hb hl hne
  refine calls_of_wp hf hbd ?_
  have hcall : evCall P ih f args h c = (match Nat.ble args.length fn.ntmps with
      | false => .fail
      | true => match ih code fn.ntmps ⟨putL .leaf 0 args, h, c, []⟩ with
        | .ok .normal ⟨T, h', c', []⟩ => match aResults P fn T h' with
          | some av => .val av h' c'
          | none => .fail
        | .ok .ret ⟨T, h', c', []⟩ => match aResults P fn T h' with
          | some av => .val av h' c'
          | none => .fail
        | .ok (.pan av) ⟨_, h', c', []⟩ => .pan av h' c'
        | _ => .fail) := by
    unfold evCall
    simp only [hf, hbd]
  rw [hcall] at hne ⊢
  clear hcall
  split at hne
  · exact (hne rfl).elim
  rename_i hle
  have hle : args.length ≤ fn.ntmps := Nat.le_of_ble_eq_true hle
  have hlv := hl.1
  have hfr : FR γ fn.ntmps (putL .leaf 0 args) [] { tmps := vs.toArray ++ Array.replicate (fn.ntmps - vs.toArray.size) undef, defers := [] } :=
    ⟨by simp; omega, putL_TR (by simpa using hl) _, trivial⟩
  refine hih.1 code fn.ntmps ⟨putL .leaf 0 args, h, c, []⟩ γ _ w _ hfr hr hb ?_
  have hdn : ∀ {γ' : Gm} {a : Act}, DR γ' [] a.defers → a.defers = [] := by
    intro γ' a h
    cases hd : a.defers with
    | nil => rfl
    | cons d l => rw [hd] at h; exact h.elim
  split at hne
  · rename_i T h' c' hres
    rw [hres]
    split at hne
    · rename_i av hav
      intro γ' e' a w' h1 h2 h3 h4 h5
      obtain ⟨v, h6, h7⟩ := aResults_ok h4 h3.tmps hav
      cases e' <;> first | exact h2.elim | skip
      refine ⟨hdn h3.defs, v, h7, ?_⟩
      exact ⟨γ', v, rfl, h1, h6, h4, h5⟩
    · exact (hne rfl).elim
  · rename_i T h' c' hres
    rw [hres]
    split at hne
    · rename_i av hav
      intro γ' e' a w' h1 h2 h3 h4 h5
      obtain ⟨v, h6, h7⟩ := aResults_ok h4 h3.tmps hav
      cases e' <;> first | exact h2.elim | skip
      refine ⟨hdn h3.defs, v, h7, ?_⟩
      exact ⟨γ', v, rfl, h1, h6, h4, h5⟩
    · exact (hne rfl).elim
  · rename_i av T h' c' hres
    rw [hres]
    intro γ' e' a w' h1 h2 h3 h4 h5
    cases e' <;> first | exact h2.elim | skip
    obtain ⟨v, h6, h7⟩ := h2
    exact ⟨hdn h3.defs, γ', v, by rw [h7], h1, h6, h4, h5⟩
  · exact (hne rfl).elim
theorem evStep_ok (hm : P.follows .mixedOrders = true) (hn : fineNames P) {ih : IH} (hih : IHok P B w0 ih) : IHok P B w0 (evStep P ih) := by
  have hcall := evCall_ok hih
  have hloop : ∀ (code : Code) (nt : Nat) (s : St) (γ : Gm) (a : Act) (w : World) (Q : Exit → Act → World → Prop), FR γ nt s.T s.ds a → HR B P.globals.size γ s.h s.c w → Below B w0 w → KOk2 B P.globals.size γ w0 nt Q (evStep P ih (.loop code) nt s) → LoopBody P code Q a w := by
    intro code nt s γ a w Q hf hr hb hk
    refine loopBody_of (hih.1 code nt s γ a w _ hf hr hb ?_)
    simp only [evStep] at hk
    cases hc : ih code nt s with
    | fail => rw [hc] at hk; exact hk
    | ok e s' =>
      rw [hc] at hk
      intro γ' e' a' w' h1 h2 h3 h4 h5
      cases e with
      | normal =>
        cases e' <;> first | exact h2.elim | skip
        exact hih.2 code nt s' γ' a' w' Q h3 h4 h5 (hk.le h1)
      | exit id =>
        cases e' <;> first | exact h2.elim | skip
        exact hk γ' _ a' w' h1 h2 h3 h4 h5
      | ret =>
        cases e' <;> first | exact h2.elim | skip
        exact hk γ' _ a' w' h1 h2 h3 h4 h5
      | pan av =>
        cases e' <;> first | exact h2.elim | skip
        exact hk γ' _ a' w' h1 h2 h3 h4 h5
  refine ⟨fun code nt s γ a w Q hf hr hb hk => ?_, hloop⟩
  cases code with
  | skip => exact wp_skip (hk γ .normal a w (Gm.le.refl _) trivial hf hr hb)
  | region id ops draw =>
    cases draw with
    | false =>
      refine wp_region ?_
      have := evalSeq_ok (Q := Q) hn hcall ops.toList 0 s.T s.h s.c s.ds γ a w (fun j o hj => by rw [Nat.zero_add]; simpa using hj) hf hr hb hk
      rw [List.range_eq_range']
      simpa using this
    | true => exact evalDraw_ok hm hn hcall hf hr hb hk
  | seq x y =>
    refine wp_seq (hih.1 x nt s γ a w _ hf hr hb ?_)
    simp only [evStep] at hk
    cases hc : ih x nt s with
    | fail => rw [hc] at hk; exact hk
    | ok e s' =>
      rw [hc] at hk
      intro γ' e' a' w' h1 h2 h3 h4 h5
      cases e with
      | normal =>
        cases e' <;> first | exact h2.elim | skip
        exact hih.1 y nt s' γ' a' w' Q h3 h4 h5 (hk.le h1)
      | exit id =>
        cases e' <;> first | exact h2.elim | skip
        exact hk γ' _ a' w' h1 h2 h3 h4 h5
      | ret =>
        cases e' <;> first | exact h2.elim | skip
        exact hk γ' _ a' w' h1 h2 h3 h4 h5
      | pan av =>
        cases e' <;> first | exact h2.elim | skip
        exact hk γ' _ a' w' h1 h2 h3 h4 h5
  | cond c x y =>
    simp only [evStep] at hk
    split at hk <;> first | exact hk.elim | skip
    all_goals
      rename_i hc
      have hcv := hf.ok (P := P) (B := B) (G := 0) hr.glob [c] c (by simp) _ hc
      generalize hvc : a.eval c = vc at hcv
      cases hcv
    · exact wp_cond_true hvc (hih.1 x nt s γ a w Q hf hr hb hk)
    · exact wp_cond_false hvc (hih.1 y nt s γ a w Q hf hr hb hk)
  | block id x =>
    refine wp_block (hih.1 x nt s γ a w _ hf hr hb ?_)
    simp only [evStep] at hk
    cases hc : ih x nt s with
    | fail => rw [hc] at hk; exact hk
    | ok e s' =>
      rw [hc] at hk
      intro γ' e' a' w' h1 h2 h3 h4 h5
      cases e with
      | normal =>
        cases e' <;> first | exact h2.elim | skip
        exact hk γ' _ a' w' h1 h2 h3 h4 h5
      | exit j =>
        cases e' <;> first | exact h2.elim | skip
        rename_i j'
        have hj : j = j' := h2
        subst hj
        simp only at hk
        split at hk
        · rename_i hji
          have hji := Nat.eq_of_beq_eq_true hji
          simp only [Exit.inBlock, hji, if_true]
          exact hk γ' .normal a' w' h1 trivial h3 h4 h5
        · rename_i hji
          have hji := Nat.ne_of_beq_eq_false hji
          simp only [Exit.inBlock, if_neg hji]
          exact hk γ' (.exit j) a' w' h1 rfl h3 h4 h5
      | ret =>
        cases e' <;> first | exact h2.elim | skip
        exact hk γ' _ a' w' h1 h2 h3 h4 h5
      | pan av =>
        cases e' <;> first | exact h2.elim | skip
        exact hk γ' _ a' w' h1 h2 h3 h4 h5
  | loop x => exact loop_of (hloop x nt s γ a w Q hf hr hb hk)
  | exit id => exact wp_exit (hk γ (.exit id) a w (Gm.le.refl _) rfl hf hr hb)
  | label l => exact wp_label (hk γ .normal a w (Gm.le.refl _) trivial hf hr hb)
  | ret => exact wp_ret (hk γ .ret a w (Gm.le.refl _) trivial hf hr hb)
  | rangeFunc f ps as b => exact hk.elim
  | scope x =>
    refine wp_scope_straight (hih.1 x nt s γ a w _ hf hr hb ?_)
    simp only [evStep] at hk
    cases hc : ih x nt s with
    | fail => rw [hc] at hk; exact hk
    | ok e s' =>
      rw [hc] at hk
      intro γ' e' a' w' h1 h2 h3 h4 h5
      cases e with
      | normal =>
        cases e' <;> first | exact h2.elim | skip
        exact hk γ' _ a' w' h1 h2 h3 h4 h5
      | exit id =>
        cases e' <;> first | exact h2.elim | skip
        exact hk γ' _ a' w' h1 h2 h3 h4 h5
      | ret =>
        cases e' <;> first | exact h2.elim | skip
        exact hk γ' _ a' w' h1 h2 h3 h4 h5
      | pan av =>
        cases e' <;> first | exact h2.elim | skip
        exact hk γ' _ a' w' h1 h2 h3 h4 h5
  | goto l => exact hk.elim
  | refuse y => exact hk.elim
theorem ev_ok (hm : P.follows .mixedOrders = true) (hn : fineNames P) : ∀ n, IHok P B w0 (ev P n)
  | 0 => ⟨fun _ _ _ _ _ _ _ _ _ _ hk => hk.elim, fun _ _ _ _ _ _ _ _ _ _ hk => hk.elim⟩
  | n + 1 => evStep_ok hm hn (ev_ok hm hn n)

theorem fine_of {P : Program} (h : (P.funcs.toList.all fun fn => fn.body.isNone || !(fn.name == "runtime.NumGoroutine")) = true) : fineNames P := by
  intro f fn hf hb
  have := List.all_eq_true.1 h fn (by simpa using Array.mem_of_getElem? hf)
  rw [Bool.or_eq_true] at this
  rcases this with h1 | h1
  · cases hbd : fn.body with
    | none => rw [hbd] at hb; cases hb
    | some c => rw [hbd] at h1; cases h1
  · simpa using h1
/-- a call, reckoned from an empty memory -/
noncomputable def reckon (P : Program) (n : Nat) (f : FuncId) (args : List AV) : R1 := evCall P (ev P n) f args .leaf P.globals.size
def okTrue : R1 → Bool
  | .val (.v (.bool true)) _ _ => true
  | _ => false
theorem reckon_true (hm : P.follows .mixedOrders = true) (hn : fineNames P) {n : Nat} {f : FuncId} {fn : Func} (hf : P.funcs[f]? = some fn) (hb : fn.body.isSome = true) (h : okTrue (reckon P n f []) = true) (w : World) :
    Calls P f #[] w fun e w' => e = .returned (.bool true) ∧ Below w.heap.size w w' := by
  obtain ⟨code, hb⟩ := Option.isSome_iff_exists.1 hb
  have hcall := evCall_ok (ev_ok (P := P) (B := w.heap.size) (w0 := w) hm hn n)
  unfold reckon at h
  have hr : HR w.heap.size P.globals.size (fun g => if g < P.globals.size then some (g, 0) else none) .leaf P.globals.size w :=
    ⟨fun b blk hb => (by rw [Tr.get_leaf] at hb; cases hb), fun b b' blk blk' p p' hb => (by rw [Tr.get_leaf] at hb; cases hb), fun b hb => by show (if b < P.globals.size then _ else _) = _; rw [if_neg (by omega)], fun g hg => ⟨0, by show (if g < P.globals.size then _ else _) = _; rw [if_pos hg]⟩, Nat.le_refl _⟩
  have := hcall f fn code [] .leaf P.globals.size _ w [] hf hb hr (Below.refl _ _) LR.nil (fun e => by rw [e] at h; cases h)
  refine this.mono fun e w' hR => ?_
  unfold okTrue at h
  split at h
  · rename_i h' c' hres
    rw [hres] at hR
    obtain ⟨γ', v, rfl, _, hv, _, hb'⟩ := hR
    cases hv
    exact ⟨rfl, hb'⟩
  · cases h
end
end Go.Ev
