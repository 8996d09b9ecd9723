/- The reckoner: what goes on where the machine stopped. Any program; the conditions are in each theorem. -/
import Derived.Test.YtaehpjaleceppaaGreatDoorSy11
noncomputable section
namespace Go.Sy
open Go Go.RowKit
set_option linter.unusedVariables false
set_option linter.unusedSimpArgs false

/-! what stands at the head -/
def condOf (P : Program) (g : Cfg) : Option AV := match g.k with
  | .code (.cond c _ _) :: _ => aev P g.s.T c
  | _ => none
def takeC (b : Bool) (g : Cfg) : Cfg := match g.k with
  | .code (.cond _ x y) :: k => ⟨.code (match b with | true => x | false => y) :: k, g.s⟩
  | _ => g
/-- the operation at the head (wanted, its place is one of the frame's) -/
def hdOp (P : Program) (nt : Nat) (g : Cfg) : Option Oper := match g.k with
  | .ops arr (o :: _) :: _ => match awanted arr g.s.T o with
    | some true => match o.dst with
      | none => some o
      | some d => match Nat.blt d nt with
        | true => some o
        | false => none
    | _ => none
  | _ => none
/-- behind it -/
def nx (g : Cfg) (av : AV) (h : Hp) (c : Nat) : Cfg := match g.k with
  | .ops arr (o :: l) :: k => ⟨.ops arr l :: k, ⟨match o.dst with
    | none => g.s.T
    | some d => g.s.T.put d (some av), h, c, g.s.ds⟩⟩
  | _ => g
/-- behind it, where no memory was made or turned -/
def nx0 (g : Cfg) (av : AV) : Cfg := nx g av g.s.h g.s.c
/-- an operation that hands a value back and asks its operands alone -/
def semV (ρ : Operand → Value) : Op → Option (Sem Value)
  | .load t a => some (Instr.loadAt t (ρ a))
  | .binOp op xType x y _ => some (do eqGuard op xType x y (ρ x) (ρ y); binOp op xType (ρ x) (ρ y))
  | .unOp op _ x => some (Op.unary op (ρ x))
  | .convert src dst x => some (Go.convert src dst (ρ x))
  | .slice t x lo hi mx => some (Instr.sliceAt t (ρ x) (lo.map ρ) (hi.map ρ) (mx.map ρ))
  | .fieldAddr s x f => some (Instr.fieldAt s (ρ x) f)
  | .field xType x f => some (Instr.field xType (ρ x) f)
  | .indexAddr t x ix => some (Instr.indexAt t (ρ x) (ρ ix))
  | .index xType x ix => some (Instr.index xType (ρ x) (ρ ix))
  | .lookup xType x ix ok => some (Instr.lookup xType (ρ x) (ρ ix) ok)
  | .extract t ix => some (Instr.extract (ρ t) ix)
  | _ => none
def hdSem (P : Program) (nt : Nat) (g : Cfg) : Option (Sem Value) := match hdOp P nt g with
  | none => none
  | some o => match aclosed P g.s.T o.op.operands.toList with
    | true => semV (arho P g.s.T) o.op
    | false => none
/-- a call at the head: whom, with what -/
def callOf (P : Program) (T : Tr AV) (o : Oper) : Option (FuncId × List AV) := match o.op with
  | .call k => match k.callee with
    | .value x => match aev P T x, aevs P T k.args.toList with
      | some (.fn (.func f) first cap), some l => some (f, first ++ l ++ cap)
      | _, _ => none
    | .invoke x name => match aev P T x, aevs P T k.args.toList with
      | some (.ifc t a), some l => match aMethod P t name with
        | some f => some (f, a :: l)
        | none => none
      | _, _ => none
    | _ => none
  | _ => none
def hdCall (P : Program) (nt : Nat) (g : Cfg) : Option (FuncId × List AV) := match hdOp P nt g with
  | none => none
  | some o => callOf P g.s.T o
/-- a loop at the head, as it stands behind its rounds -/
def toLp (g : Cfg) : Cfg := match g.k with
  | .code (.loop c) :: k => ⟨.lp c :: k, g.s⟩
  | _ => g
def isLp (g : Cfg) : Bool := match g.k with
  | .lp _ :: _ => true
  | _ => false
def rnd (g : Cfg) : Cfg := match g.k with
  | .lp c :: k => ⟨.code c :: .lp c :: k, g.s⟩
  | _ => g
/-- the function's end -/
def endOf (P : Program) (fn : Func) (g : Cfg) : Option AV := match g.s.ds with
  | _ :: _ => none
  | [] => match g.k with
    | [] => aResults P fn g.s.T g.s.h
    | .code .ret :: _ => aResults P fn g.s.T g.s.h
    | _ => none

section
variable {P : Program} {I : Aux} {call : CallF} {B : Nat → Prop} {w0 : World} {γ0 : Gm} {nt : Nat} {Q : Exit → Act → World → Prop} {g g' : Cfg}
theorem run_ok (cx : Cx P I B w0) (m : Nat) (stops : List Nat) (n au : Nat) (h : Good P B w0 γ0 nt Q (run P I (evCall P I (ev P I m)) nt stops n au g)) : Good P B w0 γ0 nt Q g :=
  run_ok' cx.hm cx.hn (cx.calls m) n au g h
theorem good_cond {b : Bool} (h : condOf P g = some (.v (.bool b))) (ht : b = true → Good P B w0 γ0 nt Q (takeC true g)) (hf : b = false → Good P B w0 γ0 nt Q (takeC false g)) : Good P B w0 γ0 nt Q g := by
  obtain ⟨k, s⟩ := g
  unfold condOf at h
  simp only at h
  split at h <;> first | (cases h; done) | skip
  rename_i c x y k'
  refine ⟨fun γ a w hle hf' hr hb => ?_⟩
  have hcv := hf'.ok (P := P) (B := B) (G := 0) hr.glob [c] c (by simp) _ h
  generalize hvc : a.eval c = vc at hcv
  cases hcv
  simp only [after, Exit.then]
  cases b with
  | true => exact wp_cond_true hvc ((ht rfl).out γ a w hle hf' hr hb)
  | false => exact wp_cond_false hvc ((hf rfl).out γ a w hle hf' hr hb)
theorem good_take {b : Bool} (c : Bool) (h : condOf P g = some (.v (.bool b))) (e : b = c) (hg : Good P B w0 γ0 nt Q (takeC c g)) : Good P B w0 γ0 nt Q g :=
  good_cond h (fun e' => by rw [show c = true from e ▸ e'] at hg; exact hg) (fun e' => by rw [show c = false from e ▸ e'] at hg; exact hg)
/-- what an operation at the head must do -/
theorem good_op {o : Oper} (h : hdOp P nt g = some o)
    (H : ∀ γ a w (K : Act → World → Prop) (QQ : Exit → Act → World → Prop), Gm.le γ0 γ → FR γ nt g.s.T g.s.ds a → HR B P.globals.size γ g.s.h g.s.c w → Keep B w0 w →
      (∀ γ' v w' av h' c', Gm.le γ γ' → VR γ' av v → HR B P.globals.size γ' h' c' w' → Keep B w0 w' → Good P B w0 γ0 nt Q (nx g av h' c') → K (a.put o.dst v) w') →
      o.wp P a w K QQ) : Good P B w0 γ0 nt Q g := by
  obtain ⟨k, s⟩ := g
  unfold hdOp at h
  simp only at h
  split at h <;> first | (cases h; done) | skip
  rename_i arr o' l k'
  split at h <;> first | (cases h; done) | skip
  rename_i hw
  have hoo : o' = o ∧ ∀ d, o'.dst = some d → d < nt := by
    split at h
    · rename_i hd
      injection h with h
      exact ⟨h, fun d e => by rw [hd] at e; cases e⟩
    · rename_i d hd
      split at h <;> first | (cases h; done) | skip
      rename_i hlt
      injection h with h
      exact ⟨h, fun d' e => by rw [hd] at e; injection e with e; subst e; exact blt_lt hlt⟩
  obtain ⟨rfl, hd⟩ := hoo
  refine ⟨fun γ a w hle hf hr hb => ?_⟩
  simp only [after, Exit.then, wpL]
  have hw' := awanted_ok (a := a) (fun j want p t av _ _ _ ht => hf.tmps t av ht) hw
  rw [if_pos hw']
  left
  refine H γ a w _ _ hle hf hr hb (fun γ' v w' av h' c' h1 h2 h3 h4 hg => ?_)
  refine hg.out γ' _ w' (hle.trans h1) ?_ h3 h4
  simp only [nx]
  have hput : tput nt s.T o'.dst av = some (match o'.dst with
    | none => s.T
    | some d => s.T.put d (some av)) := by
    unfold tput
    cases hdd : o'.dst with
    | none => rfl
    | some d =>
      simp only
      have : Nat.blt d nt = true := Nat.ble_eq_true_of_le (hd d hdd)
      rw [this]
  exact hf.put h1 h2 hput
theorem semV_run {ρ : Operand → Value} {o : Oper} {S : Sem Value} {v : Value} {w w' : World} (h : semV ρ o.op = some S) (hr : S.run P w = .ok v w') : (execOp ρ o).run P w = .ok (.value v) w' := by
  unfold semV at h
  unfold execOp
  split at h <;> first | (cases h; done) | skip
  all_goals
    rename_i hop
    rw [hop]
    injection h with h
    subst h
    exact run_v hr
/-- a value worked out by hand -/
theorem good_val {S : Sem Value} (x : Value) (h : hdSem P nt g = some S) (hrun : ∀ w, Keep B w0 w → S.run P w = .ok x w) (hg : Good P B w0 γ0 nt Q (nx0 g (norm x))) : Good P B w0 γ0 nt Q g := by
  unfold hdSem at h
  split at h
  · cases h
  rename_i o ho
  split at h <;> first | (cases h; done) | skip
  rename_i hcl
  refine good_op ho (fun γ a w K QQ hle hf hr hb hK => ?_)
  have hok := hf.ok (P := P) (B := B) (G := 0) hr.glob o.op.operands.toList
  have hns : ∀ cs b, o.op = .select cs b → False := fun cs b e => by rw [e] at h; cases h
  have hcong := execOp_congr (ρ := arho P g.s.T) (ρ' := a.eval) o (fun cs b e => (hns cs b e).elim) (fun x hx => arho_ok hok hcl x (by simpa using hx))
  exact wp_val (by rw [← hcong]; exact semV_run h (hrun w hb)) (hK γ x w _ _ _ (Gm.le.refl _) (norm_VR x) hr hb hg)
theorem good_val' {S : Sem Value} {x : Value} {av : AV} (h : hdSem P nt g = some S) (hrun : ∀ w, Keep B w0 w → S.run P w = .ok x w) (hav : ∀ γ, VR γ av x) (hg : Good P B w0 γ0 nt Q (nx0 g av)) : Good P B w0 γ0 nt Q g := by
  unfold hdSem at h
  split at h
  · cases h
  rename_i o ho
  split at h <;> first | (cases h; done) | skip
  rename_i hcl
  refine good_op ho (fun γ a w K QQ hle hf hr hb hK => ?_)
  have hok := hf.ok (P := P) (B := B) (G := 0) hr.glob o.op.operands.toList
  have hns : ∀ cs b, o.op = .select cs b → False := fun cs b e => by rw [e] at h; cases h
  have hcong := execOp_congr (ρ := arho P g.s.T) (ρ' := a.eval) o (fun cs b e => (hns cs b e).elim) (fun x hx => arho_ok hok hcl x (by simpa using hx))
  exact wp_val (by rw [← hcong]; exact semV_run h (hrun w hb)) (hK γ x w _ _ _ (Gm.le.refl _) (hav γ) hr hb hg)
/-- a call of which there is a contract -/
theorem good_call (cx : Cx P I B w0) {f : FuncId} {args : List AV} (h : hdCall P nt g = some (f, args)) (hbod : bodied P f = some true)
    (H : ∀ γ w vs, Gm.le γ0 γ → HR B P.globals.size γ g.s.h g.s.c w → Keep B w0 w → LR γ args vs → Calls P f vs.toArray w fun e w' =>
      ∃ v γ' av h' c', e = .returned v ∧ Gm.le γ γ' ∧ VR γ' av v ∧ HR B P.globals.size γ' h' c' w' ∧ Keep B w0 w' ∧ Good P B w0 γ0 nt Q (nx g av h' c')) : Good P B w0 γ0 nt Q g := by
  unfold hdCall at h
  split at h
  · cases h
  rename_i o ho
  refine good_op ho (fun γ a w K QQ hle hf hr hb hK => ?_)
  have hok := hf.ok (P := P) (B := B) (G := 0) hr.glob o.op.operands.toList
  obtain ⟨fn, code, hfn, hbd⟩ := bodied_true hbod
  have henter : ∀ (vs : Array Value), (callFunc f vs).run P w = .ok (.enter f vs) w := fun vs => enter_ok cx.hn hfn hbd vs w
  have fin : ∀ vs : List Value, LR γ args vs → (∀ w, (execOp a.eval o).run P w = (callFunc f vs.toArray).run P w) → o.wp P a w K QQ := by
    intro vs hl hrun
    unfold Oper.wp
    rw [hrun, henter]
    refine (H γ w vs hle hr hb hl).mono fun e w' hR => ?_
    obtain ⟨v, γ', av, h', c', rfl, h1, h2, h3, h4, h5⟩ := hR
    exact hK γ' v w' av h' c' h1 h2 h3 h4 h5
  unfold callOf at h
  split at h <;> first | (cases h; done) | skip
  rename_i k hop
  split at h <;> first | (cases h; done) | skip
  · rename_i x hce
    split at h <;> first | (cases h; done) | skip
    rename_i f' first cap l hx hl
    injection h with h
    injection h with e1 e2
    subst e1 e2
    have hmem : o.op.operands.toList = x :: k.args.toList := by rw [hop]; simp [Op.operands, Call.operands, hce]
    have hxv := hok x (by rw [hmem]; simp) _ hx
    have hlv := aevs_ok (a := a) (fun y hy => hok y (by rw [hmem]; exact List.mem_cons_of_mem _ hy)) hl
    generalize hvx : a.eval x = vx at hxv
    cases hxv with
    | fn hl1 hh1 hl2 hh2 =>
      rename_i vs ws
      have r1 : LR γ first vs.toList := ⟨by simpa using hl1, fun i b y e1 e2 => hh1 i b y e1 (by simpa using e2)⟩
      have r2 : LR γ cap ws.toList := ⟨by simpa using hl2, fun i b y e1 e2 => hh2 i b y e1 (by simpa using e2)⟩
      refine fin _ ((r1.append hlv).append r2) (fun w => ?_)
      unfold execOp
      rw [hop]
      simp only [resolve, hce, hvx, Deferred.ofValue, Sem.run_bind, Sem.run_pure, Result.andThen_ok, invoke]
      congr 2
      apply Array.ext'
      simp
  · rename_i x name hce
    split at h <;> first | (cases h; done) | skip
    rename_i t b l hx hl
    split at h <;> first | (cases h; done) | skip
    rename_i f' hf'
    injection h with h
    injection h with e1 e2
    subst e1 e2
    have hmem : o.op.operands.toList = x :: k.args.toList := by rw [hop]; simp [Op.operands, Call.operands, hce]
    have hxv := hok x (by rw [hmem]; simp) _ hx
    have hlv := aevs_ok (a := a) (fun y hy => hok y (by rw [hmem]; exact List.mem_cons_of_mem _ hy)) hl
    generalize hvx : a.eval x = vx at hxv
    cases hxv with
    | ifc hxv =>
      rename_i vv
      refine fin (vv :: k.args.toList.map a.eval) (LR.cons hxv hlv) (fun w => ?_)
      unfold execOp
      rw [hop]
      simp only [resolve, hce, hvx, Sem.run_bind, Sem.run_pure, Result.andThen_ok, invoke]
      have hex : (#[Value.iface t vv] ++ k.args.map a.eval).extract 1 (#[Value.iface t vv] ++ k.args.map a.eval).size = k.args.map a.eval := by
        apply Array.ext'
        simp
        exact List.take_of_length_le (by simp)
      have hget : (#[Value.iface t vv] ++ k.args.map a.eval)[0]? = some (.iface t vv) := by
        rw [Array.getElem?_append_left (by simp)]
        rfl
      rw [hget, hex]
      simp only [aMethod_ok hf']
      congr 2
      apply Array.ext'
      simp
def closeLL : List AV → Option (List Value)
  | [] => some []
  | a :: l => match a.close with
    | none => none
    | some x => match closeLL l with
      | none => none
      | some r => some (x :: r)
def closeT : AV → Option Value
  | .tup l => match closeLL l with
    | none => none
    | some r => some (.tuple r.toArray)
  | a => a.close
theorem closeLL_eq {γ : Gm} : ∀ {as : List AV} {vs ws : List Value}, closeLL as = some ws → LR γ as vs → vs = ws
  | [], vs, ws, h, hr => by
    simp [closeLL] at h
    subst h
    exact List.eq_nil_of_length_eq_zero hr.1.symm
  | a :: as, vs, ws, h, hr => by
    cases vs with
    | nil => have := hr.1; simp at this
    | cons x vs =>
      have h0 := hr.2 0 a x rfl rfl
      have ht : LR γ as vs := ⟨by have := hr.1; simpa using this, fun i b y h1 h2 => hr.2 (i + 1) b y (by simpa using h1) (by simpa using h2)⟩
      simp only [closeLL] at h
      split at h
      · cases h
      rename_i y hy
      split at h
      · cases h
      rename_i r hrr
      injection h with h
      subst h
      rw [close_eq hy h0, closeLL_eq hrr ht]
theorem closeT_eq {γ : Gm} {a : AV} {x y : Value} (h : closeT a = some y) (hr : VR γ a x) : x = y := by
  unfold closeT at h
  split at h
  · split at h
    · cases h
    rename_i r hrr
    injection h with h
    subst h
    cases hr with
    | tup hl hh =>
      rename_i vs
      have := closeLL_eq (γ := γ) (vs := vs.toList) hrr ⟨by simpa using hl, fun i a x h1 h2 => hh i a x h1 (by simpa using h2)⟩
      rw [← this]
  · exact close_eq h hr
/-- all arguments plain, the value behind it plain, no known memory turned -/
theorem good_callV (cx : Cx P I B w0) {f : FuncId} {args : List AV} (xs : List Value) {Pr : Value → World → Prop} (h : hdCall P nt g = some (f, args)) (hbod : bodied P f = some true) (hx : ∀ γ vs, LR γ args vs → vs = xs)
    (hc : ∀ w, Keep B w0 w → Calls P f xs.toArray w fun e w' => ∃ r, e = .returned r ∧ Pr r w' ∧ Below w.heap.size w w')
    (hg : ∀ r w', Pr r w' → Keep B w0 w' → Good P B w0 γ0 nt Q (nx0 g (norm r))) : Good P B w0 γ0 nt Q g := by
  refine good_call cx h hbod (fun γ w vs hle hr hb hl => ?_)
  obtain rfl := hx γ vs hl
  refine (hc w hb).mono fun e w' hR => ?_
  obtain ⟨r, rfl, h1, h2⟩ := hR
  have hk := hb.trans (Keep.of_below h2 hr.base)
  exact ⟨r, γ, norm r, _, _, rfl, Gm.le.refl _, norm_VR r, hr.kept h2.size h2.block, hk, hg r w' h1 hk⟩
/-- all arguments plain, the value behind it known -/
theorem good_callB (cx : Cx P I B w0) {f : FuncId} (xs : List Value) (r : Value) (h : hdCall P nt g = some (f, xs.map norm)) (hbod : bodied P f = some true) (hx : closeLL (xs.map norm) = some xs)
    (hc : ∀ w, Keep B w0 w → Calls P f xs.toArray w fun e w' => e = .returned r ∧ Below w.heap.size w w') (hg : Good P B w0 γ0 nt Q (nx0 g (norm r))) : Good P B w0 γ0 nt Q g :=
  good_callV cx xs (Pr := fun r' _ => r' = r) h hbod (fun γ vs hl => closeLL_eq hx hl) (fun w hk => (hc w hk).mono fun e w' hR => ⟨r, hR.1, rfl, hR.2⟩) (fun r' w' e _ => by subst e; exact hg)
theorem good_callP (cx : Cx P I B w0) {f : FuncId} (xs : List Value) (r : Value) (h : hdCall P nt g = some (f, xs.map norm)) (hbod : bodied P f = some true) (hx : closeLL (xs.map norm) = some xs)
    (hc : ∀ w, Keep B w0 w → Calls P f xs.toArray w fun e w' => e = .returned r ∧ w = w') (hg : Good P B w0 γ0 nt Q (nx0 g (norm r))) : Good P B w0 γ0 nt Q g :=
  good_callB cx xs r h hbod hx (fun w hk => (hc w hk).mono fun e w' hR => ⟨hR.1, by rw [← hR.2]; exact Below.refl _ _⟩) hg
/-- a slot is spelt in another way -/
def setT (g : Cfg) (t : Nat) (av : AV) : Cfg := ⟨g.k, ⟨g.s.T.put t (some av), g.s.h, g.s.c, g.s.ds⟩⟩
theorem good_set (t : Nat) {x : Value} (y : Value) (h : g.s.T.get t = some (.v x)) (e : x = y) (hg : Good P B w0 γ0 nt Q (setT g t (norm y))) : Good P B w0 γ0 nt Q g := by
  subst e
  refine ⟨fun γ a w hle hf hr hb => ?_⟩
  refine hg.out γ a w hle ⟨hf.size, fun t' av ht => ?_, hf.defs⟩ hr hb
  simp only [setT] at ht
  rw [Tr.get_put] at ht
  split at ht
  · rename_i e
    subst e
    injection ht with ht
    subst ht
    obtain ⟨v, h1, h2⟩ := hf.tmps _ _ h
    cases h2
    exact ⟨_, h1, norm_VR _⟩
  · exact hf.tmps t' av ht
theorem good_loop (h : isLp g = true) (hg : Good P B w0 γ0 nt Q (rnd g)) : Good P B w0 γ0 nt Q g := by
  obtain ⟨k, s⟩ := g
  unfold isLp at h
  split at h <;> first | (cases h; done) | skip
  rename_i c k' hk
  simp only at hk
  subst hk
  exact ⟨fun γ a w hle hf hr hb => loopBody_of (hg.out γ a w hle hf hr hb)⟩
theorem good_toLp (hg : Good P B w0 γ0 nt Q (toLp g)) : Good P B w0 γ0 nt Q g := by
  obtain ⟨k, s⟩ := g
  unfold toLp at hg
  split at hg
  · rename_i c k' hk
    simp only at hk
    subst hk
    exact ⟨fun γ a w hle hf hr hb => loop_of (hg.out γ a w hle hf hr hb)⟩
  · exact hg
/-- the end -/
theorem good_end {fn : Func} {R : Ending → World → Prop} {av : AV} (h : endOf P fn g = some av)
    (hR : ∀ γ w v, Gm.le γ0 γ → VR γ av v → HR B P.globals.size γ g.s.h g.s.c w → Keep B w0 w → R (.returned v) w) : Good P B w0 γ0 nt (bodyPostD P fn R) g := by
  obtain ⟨k, ⟨T, h', c, ds⟩⟩ := g
  unfold endOf at h
  simp only at h
  split at h
  · cases h
  refine ⟨fun γ a w hle hf hr hb => ?_⟩
  have key : aResults P fn T h' = some av → bodyPostD P fn R .normal a w := by
    intro ha
    obtain ⟨v, h1, h2⟩ := aResults_ok hr hf.tmps ha
    have hd : a.defers = [] := DR_nil hf.defs
    show Leaves P fn a.tmps R a.defers .returning w
    rw [hd]
    exact ⟨v, h2, hR γ w v hle h1 hr hb⟩
  split at h
  · exact key h
  · simp only [after, Exit.then]
    exact wp_ret (after_ret (key h))
  · cases h
def endV (P : Program) (fn : Func) (g : Cfg) : Option Value := match endOf P fn g with
  | none => none
  | some av => closeT av
/-- the end, with a plain value -/
theorem good_endV {fn : Func} {R : Ending → World → Prop} (r : Value) (h : endV P fn g = some r) (hR : ∀ w, Keep B w0 w → R (.returned r) w) : Good P B w0 γ0 nt (bodyPostD P fn R) g := by
  unfold endV at h
  split at h
  · cases h
  rename_i av hav
  exact good_end hav (fun γ w v _ hv _ hk => by rw [closeT_eq h hv]; exact hR w hk)
/-- the beginning -/
def start (P : Program) (fn : Func) (args : List AV) : Cfg := ⟨[.code (fn.body.getD .skip)], ⟨putL .leaf 0 args, .leaf, P.globals.size, []⟩⟩
theorem enter (hn : Fine P I) {f : FuncId} {fn : Func} (hf : P.funcs[f]? = some fn) (hb' : fn.body.isSome = true) {args : List AV} {vs : List Value} (hl : ∀ γ, LR γ args vs) (hle : Nat.ble args.length fn.ntmps = true) {w : World} {R : Ending → World → Prop}
    (hg : ∀ γ0, (∀ b, P.globals.size ≤ b → γ0 b = none) → Good P (· < w.heap.size) w γ0 fn.ntmps (bodyPostD P fn R) (start P fn args)) : Calls P f vs.toArray w R := by
  obtain ⟨code, hb⟩ := Option.isSome_iff_exists.1 hb'
  have hle : args.length ≤ fn.ntmps := Nat.le_of_ble_eq_true hle
  refine calls_of_wp_defers hf hb ?_
  obtain ⟨γ0, hγ0, hfr, hr⟩ : ∃ γ0 : Gm, (∀ b, P.globals.size ≤ b → γ0 b = none) ∧ FR γ0 fn.ntmps (putL .leaf 0 args) [] { tmps := vs.toArray ++ Array.replicate (fn.ntmps - vs.toArray.size) undef, defers := [] } ∧
      HR (· < w.heap.size) P.globals.size γ0 .leaf P.globals.size w := by
    refine ⟨fun g => if g < P.globals.size then some (g, 0) else none, fun b hb => ?_, ⟨?_, putL_TR (by simpa using hl _) _, trivial⟩, ?_⟩
    · show (if b < P.globals.size then _ else _) = _; rw [if_neg (by omega)]
    · have := (hl (fun _ => none)).1
      simp
      omega
    · exact ⟨fun b blk hb => (by rw [Tr.get_leaf] at hb; cases hb), fun b b' blk blk' p p' hb => (by rw [Tr.get_leaf] at hb; cases hb), fun b hb => by show (if b < P.globals.size then _ else _) = _; rw [if_neg (by omega)], fun g hg => ⟨0, by show (if g < P.globals.size then _ else _) = _; rw [if_pos hg]⟩, fun k hk => hk⟩
  have := (hg γ0 hγ0).out γ0 _ w (Gm.le.refl _) hfr hr (Keep.refl _ _)
  simp only [after, start, hb, Option.getD_some] at this
  exact wp_mono this fun e a w h => by cases e <;> exact h

/-! what is forgotten -/
mutual
def avLt (n : Nat) : AV → Bool
  | .v _ => true
  | .ptr b _ => Nat.blt b n
  | .sl b _ _ _ => Nat.blt b n
  | .slg b _ _ _ => Nat.blt b n
  | .agg l => avLtL n l
  | .tup l => avLtL n l
  | .ifc _ a => avLt n a
  | .fn _ l r => match avLtL n l with
    | true => avLtL n r
    | false => false
  | .map b => Nat.blt b n
def avLtL (n : Nat) : List AV → Bool
  | [] => true
  | a :: l => match avLt n a with
    | true => avLtL n l
    | false => false
end
theorem avLtL_get {n : Nat} : ∀ {l : List AV}, avLtL n l = true → ∀ (i : Nat) (a : AV), l[i]? = some a → avLt n a = true
  | [], _, i, a, hi => by simp at hi
  | b :: l, h, i, a, hi => by
    simp only [avLtL] at h
    split at h
    · rename_i hb
      cases i with
      | zero => simp at hi; subst hi; exact hb
      | succ i => exact avLtL_get h i a (by simpa using hi)
    · cases h
def Gm.res (γ : Gm) (n : Nat) : Gm := fun b => if b < n then γ b else none
theorem Gm.res_some {γ : Gm} {n b : Nat} {p : Nat × Nat} (h : γ b = some p) (hb : b < n) : γ.res n b = some p := by unfold Gm.res; rw [if_pos hb]; exact h
theorem VR.res {γ : Gm} {n : Nat} {a : AV} {x : Value} (h : VR γ a x) : avLt n a = true → VR (γ.res n) a x := by
  induction h with
  | v x => exact fun _ => .v x
  | ptr h => exact fun hb => .ptr (Gm.res_some h (blt_lt hb))
  | sl h hl => exact fun hb => .sl (Gm.res_some h (blt_lt hb)) hl
  | slg h hl hm ho => exact fun hb => .slg (Gm.res_some h (blt_lt hb)) hl hm ho
  | agg hl _ ih => exact fun hb => .agg hl (fun i a x h1 h2 => ih i a x h1 h2 (avLtL_get hb i a h1))
  | tup hl _ ih => exact fun hb => .tup hl (fun i a x h1 h2 => ih i a x h1 h2 (avLtL_get hb i a h1))
  | ifc _ ih => exact fun hb => .ifc (ih hb)
  | fn hl _ hl' _ ih ih' =>
    intro hb
    simp only [avLt] at hb
    split at hb
    · rename_i h1
      exact .fn hl (fun i a x h2 h3 => ih i a x h2 h3 (avLtL_get h1 i a h2)) hl' (fun i a x h2 h3 => ih' i a x h2 h3 (avLtL_get hb i a h2))
    · cases hb
  | map h => exact fun hb => .map (Gm.res_some h (blt_lt hb))
/-! a frame and a memory written out -/
def mkT : List (Nat × AV) → Tr AV
  | [] => .leaf
  | p :: l => (mkT l).put p.1 (some p.2)
def mkH : List (Nat × Option Blk) → Hp
  | [] => .leaf
  | p :: l => (mkH l).put p.1 p.2
theorem mkT_get : ∀ {l : List (Nat × AV)} {t : Nat} {a : AV}, (mkT l).get t = some a → (t, a) ∈ l
  | [], t, a, h => by simp only [mkT] at h; rw [Tr.get_leaf] at h; cases h
  | p :: l, t, a, h => by
    simp only [mkT] at h
    rw [Tr.get_put] at h
    split at h
    · rename_i e; injection h with h; subst h e; simp
    · exact List.mem_cons_of_mem _ (mkT_get h)
theorem mkH_get : ∀ {l : List (Nat × Option Blk)} {t : Nat} {a : Blk}, (mkH l).get t = some a → (t, some a) ∈ l
  | [], t, a, h => by simp only [mkH] at h; rw [Tr.get_leaf] at h; cases h
  | p :: l, t, a, h => by
    simp only [mkH] at h
    rw [Tr.get_put] at h
    split at h
    · rename_i e; subst e; rw [← h]; simp
    · exact List.mem_cons_of_mem _ (mkH_get h)
def trAll {α : Type} (p : α → Bool) : Tr α → Bool
  | .leaf => true
  | .node x l r => match (match x with | none => true | some a => p a) with
    | true => match trAll p l with
      | true => trAll p r
      | false => false
    | false => false
theorem trAll_get {α : Type} {p : α → Bool} : ∀ {t : Tr α}, trAll p t = true → ∀ (k : Nat) (a : α), t.get k = some a → p a = true := by
  intro t
  induction t with
  | leaf => intro _ k a h; rw [Tr.get_leaf] at h; cases h
  | node x l r ihl ihr =>
    intro h k a hk
    rw [Tr.get_eq] at hk
    simp only [trAll] at h
    split at h <;> first | (cases h; done) | skip
    rename_i hx
    split at h <;> first | (cases h; done) | skip
    rename_i hl
    cases k with
    | zero => simp only [Tr.get0] at hk; subst hk; exact hx
    | succ k =>
      simp only [Tr.get0] at hk
      split at hk
      · exact ihl hl _ a (by rw [Tr.get_eq]; exact hk)
      · exact ihr h _ a (by rw [Tr.get_eq]; exact hk)
def esLt (n : Nat) : List (AV × AV × Nat) → Bool
  | [] => true
  | e :: l => match avLt n e.1, avLt n e.2.1 with
    | true, true => esLt n l
    | _, _ => false
theorem esLt_get {n : Nat} : ∀ {l : List (AV × AV × Nat)}, esLt n l = true → ∀ (i : Nat) (e : AV × AV × Nat), l[i]? = some e → avLt n e.1 = true ∧ avLt n e.2.1 = true
  | [], _, i, e, h => by simp at h
  | x :: l, h, i, e, hi => by
    simp only [esLt] at h
    split at h <;> first | (cases h; done) | skip
    rename_i h1 h2
    cases i with
    | zero => simp at hi; subst hi; exact ⟨h1, h2⟩
    | succ i => exact esLt_get h i e (by simpa using hi)
def blkLt (n : Nat) : Blk → Bool
  | .cells _ _ _ _ _ cs => trAll (avLt n) cs
  | .map es _ => esLt n es
  | .row _ _ => true
theorem BR.res {γ : Gm} {n : Nat} {blk : Blk} {p : Nat × Nat} {w : World} (h : BR B γ blk p w) (hb : blkLt n blk = true) : BR B (γ.res n) blk p w := by
  cases blk with
  | cells ty own clean ex lim cs =>
    obtain ⟨h0, c, ty', fz, h1, h2, h3, h4⟩ := h
    exact ⟨h0, c, ty', fz, h1, h2, h3, fun i a hl hi => let ⟨x, h5, h6⟩ := h4 i a hl hi; ⟨x, h5, h6.res (trAll_get hb i a hi)⟩⟩
  | map es clock =>
    obtain ⟨h0, l, h1, h2, h3⟩ := h
    exact ⟨h0, l, h1, h2, fun i e m he hm => let ⟨a, b, c⟩ := h3 i e m he hm; ⟨a.res (esLt_get hb i e he).1, b.res (esLt_get hb i e he).2, c⟩⟩
  | row e xs => exact h
def allLtT (n : Nat) : List (Nat × AV) → Bool
  | [] => true
  | p :: l => match avLt n p.2 with
    | true => allLtT n l
    | false => false
def allLtH (n : Nat) : List (Nat × Option Blk) → Bool
  | [] => true
  | p :: l => match Nat.blt p.1 n, (match p.2 with | none => true | some b => blkLt n b) with
    | true, true => allLtH n l
    | _, _ => false
theorem allLtT_mem {n : Nat} : ∀ {l : List (Nat × AV)}, allLtT n l = true → ∀ p ∈ l, avLt n p.2 = true
  | [], _, p, h => by simp at h
  | q :: l, h, p, hp => by
    simp only [allLtT] at h
    split at h <;> first | (cases h; done) | skip
    rename_i h1
    rcases List.mem_cons.1 hp with rfl | hp
    · exact h1
    · exact allLtT_mem h p hp
theorem allLtH_mem {n : Nat} : ∀ {l : List (Nat × Option Blk)}, allLtH n l = true → ∀ t b, (t, some b) ∈ l → t < n ∧ blkLt n b = true
  | [], _, p, _, h => by simp at h
  | q :: l, h, t, b, hp => by
    simp only [allLtH] at h
    split at h <;> first | (cases h; done) | skip
    rename_i h1 h2
    rcases List.mem_cons.1 hp with e | hp
    · subst e; exact ⟨blt_lt h1, h2⟩
    · exact allLtH_mem h t b hp
theorem map_all {α β : Type} {f : Nat × α → Option β} {q : Nat × α → Option β} : ∀ {l : List (Nat × α)}, l.map f = l.map q → ∀ p ∈ l, f p = q p
  | [], _, p, h => by simp at h
  | x :: l, h, p, hp => by
    simp only [List.map_cons, List.cons.injEq] at h
    rcases List.mem_cons.1 hp with rfl | hp
    · exact h.1
    · exact map_all h.2 p hp
/-- of what is known only so much is kept; blocks from 'c2' on are let go -/
theorem good_sub (K : List It) (lT : List (Nat × AV)) (lH : List (Nat × Option Blk)) (c2 : Nat) (hk : g.k = K) (hds : g.s.ds = [])
    (hT : lT.map (fun p => g.s.T.get p.1) = lT.map (fun p => some p.2)) (hTl : allLtT c2 lT = true) (hH : lH.map (fun p => g.s.h.get p.1) = lH.map (fun p => p.2)) (hHl : allLtH c2 lH = true)
    (hγ : ∀ b, c2 ≤ b → γ0 b = none) (hG : Nat.ble P.globals.size c2 = true) (hg : Good P B w0 γ0 nt Q ⟨K, ⟨mkT lT, mkH lH, c2, []⟩⟩) : Good P B w0 γ0 nt Q g := by
  subst hk
  obtain ⟨k, ⟨T, h, c, ds⟩⟩ := g
  simp only at hds hT hH hg
  subst hds
  have hG : P.globals.size ≤ c2 := Nat.le_of_ble_eq_true hG
  refine ⟨fun γ a w hle hf hr hb => ?_⟩
  have hT' := map_all hT
  have hH' := map_all hH
  refine hg.out (γ.res c2) a w (fun b p hp => ?_) ⟨hf.size, fun t av ht => ?_, ?_⟩ ⟨fun b blk hb' => ?_, fun b b' blk blk' p p' h1 h2 g1 g2 e => ?_, fun b hb' => ?_, fun x hx => ?_, hr.base⟩ hb
  · rcases Nat.lt_or_ge b c2 with hlt | hge
    · exact Gm.res_some (hle b p hp) hlt
    · rw [hγ b hge] at hp; cases hp
  · have hm := mkT_get ht
    obtain ⟨v, h1, h2⟩ := hf.tmps t av (hT' _ hm)
    exact ⟨v, h1, h2.res (allLtT_mem hTl _ hm)⟩
  · have := hf.defs
    revert this
    cases a.defers with
    | nil => exact fun _ => trivial
    | cons d l => exact fun h => h.elim
  · have hm := mkH_get hb'
    obtain ⟨h1, h2⟩ := allLtH_mem hHl _ _ hm
    obtain ⟨p, hp, hbr⟩ := hr.live b blk (hH' _ hm)
    exact ⟨p, Gm.res_some hp h1, hbr.res h2⟩
  · have m1 := mkH_get h1
    have m2 := mkH_get h2
    have k1 := (allLtH_mem hHl _ _ m1).1
    have k2 := (allLtH_mem hHl _ _ m2).1
    simp only [Gm.res, if_pos k1] at g1
    simp only [Gm.res, if_pos k2] at g2
    exact hr.inj _ _ _ _ _ _ (hH' _ m1) (hH' _ m2) g1 g2 e
  · show (if b < c2 then _ else _) = _
    have hb' : c2 ≤ b := hb'
    rw [if_neg (by omega)]
  · obtain ⟨N, hN⟩ := hr.glob x hx
    exact ⟨N, Gm.res_some hN (by omega)⟩
end
end Go.Sy
