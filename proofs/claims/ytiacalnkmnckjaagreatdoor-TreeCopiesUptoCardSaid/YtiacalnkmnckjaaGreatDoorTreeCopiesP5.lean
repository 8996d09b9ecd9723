/- Texts of this proof, one behind the other. Conditions: those in each theorem. -/
import Derived.Test.YtiacalnkmnckjaaGreatDoorTreeCopiesP4
import Derived.Deep.Quiet
section
/- The reckoner: what goes on where the machine stopped. Any program; the conditions are in each theorem. -/
noncomputable section
namespace Go.Sy
open Go Go.RowKit
set_option linter.unusedVariables false
set_option linter.unusedSimpArgs false

/-! what stands at the head -/
def condOf (P : Program) (g : Cfg) : Option AV := match g.k with
  | .code (.cond c _ _) :: _ => aev P g.s.T c
  | _ => none
def takeC (b : Bool) (g : Cfg) : Cfg := match g.k with
  | .code (.cond _ x y) :: k => ⟨.code (match b with | true => x | false => y) :: k, g.s⟩
  | _ => g
/-- the operation at the head (wanted, its place is one of the frame's) -/
def hdOp (P : Program) (nt : Nat) (g : Cfg) : Option Oper := match g.k with
  | .ops arr (o :: _) :: _ => match awanted arr g.s.T o with
    | some true => match o.dst with
      | none => some o
      | some d => match Nat.blt d nt with
        | true => some o
        | false => none
    | _ => none
  | _ => none
/-- behind it -/
def nx (g : Cfg) (av : AV) (h : Hp) (c : Nat) : Cfg := match g.k with
  | .ops arr (o :: l) :: k => ⟨.ops arr l :: k, ⟨match o.dst with
    | none => g.s.T
    | some d => g.s.T.put d (some av), h, c, g.s.ds⟩⟩
  | _ => g
/-- behind it, where no memory was made or turned -/
def nx0 (g : Cfg) (av : AV) : Cfg := nx g av g.s.h g.s.c
/-- an operation that hands a value back and asks its operands alone -/
def semV (ρ : Operand → Value) : Op → Option (Sem Value)
  | .load t a => some (Instr.loadAt t (ρ a))
  | .binOp op xType x y _ => some (do eqGuard op xType x y (ρ x) (ρ y); binOp op xType (ρ x) (ρ y))
  | .unOp op _ x => some (Op.unary op (ρ x))
  | .convert src dst x => some (Go.convert src dst (ρ x))
  | .slice t x lo hi mx => some (Instr.sliceAt t (ρ x) (lo.map ρ) (hi.map ρ) (mx.map ρ))
  | .fieldAddr s x f => some (Instr.fieldAt s (ρ x) f)
  | .field xType x f => some (Instr.field xType (ρ x) f)
  | .indexAddr t x ix => some (Instr.indexAt t (ρ x) (ρ ix))
  | .index xType x ix => some (Instr.index xType (ρ x) (ρ ix))
  | .lookup xType x ix ok => some (Instr.lookup xType (ρ x) (ρ ix) ok)
  | .extract t ix => some (Instr.extract (ρ t) ix)
  | _ => none
def hdSem (P : Program) (nt : Nat) (g : Cfg) : Option (Sem Value) := match hdOp P nt g with
  | none => none
  | some o => match aclosed P g.s.T o.op.operands.toList with
    | true => semV (arho P g.s.T) o.op
    | false => none
/-- a call at the head: whom, with what -/
def callOf (P : Program) (T : Tr AV) (o : Oper) : Option (FuncId × List AV) := match o.op with
  | .call k => match k.callee with
    | .value x => match aev P T x, aevs P T k.args.toList with
      | some (.fn (.func f) first cap), some l => some (f, first ++ l ++ cap)
      | _, _ => none
    | .invoke x name => match aev P T x, aevs P T k.args.toList with
      | some (.ifc t a), some l => match aMethod P t name with
        | some f => some (f, a :: l)
        | none => none
      | _, _ => none
    | _ => none
  | _ => none
def hdCall (P : Program) (nt : Nat) (g : Cfg) : Option (FuncId × List AV) := match hdOp P nt g with
  | none => none
  | some o => callOf P g.s.T o
/-- a loop at the head, as it stands behind its rounds -/
def toLp (g : Cfg) : Cfg := match g.k with
  | .code (.loop c) :: k => ⟨.lp c :: k, g.s⟩
  | _ => g
def isLp (g : Cfg) : Bool := match g.k with
  | .lp _ :: _ => true
  | _ => false
def rnd (g : Cfg) : Cfg := match g.k with
  | .lp c :: k => ⟨.code c :: .lp c :: k, g.s⟩
  | _ => g
/-- the function's end -/
def endOf (P : Program) (fn : Func) (g : Cfg) : Option AV := match g.s.ds with
  | _ :: _ => none
  | [] => match g.k with
    | [] => aResults P fn g.s.T g.s.h
    | .code .ret :: _ => aResults P fn g.s.T g.s.h
    | _ => none

section
variable {P : Program} {I : Aux} {call : CallF} {B : Nat → Prop} {w0 : World} {γ0 : Gm} {nt : Nat} {Q : Exit → Act → World → Prop} {g g' : Cfg}
theorem run_ok (cx : Cx P I B w0) (m : Nat) (stops : List Nat) (n au : Nat) (h : Good P B w0 γ0 nt Q (run P I (evCall P I (ev P I m)) nt stops n au g)) : Good P B w0 γ0 nt Q g :=
  run_ok' cx.hm cx.hn (cx.calls m) n au g h
theorem good_cond {b : Bool} (h : condOf P g = some (.v (.bool b))) (ht : b = true → Good P B w0 γ0 nt Q (takeC true g)) (hf : b = false → Good P B w0 γ0 nt Q (takeC false g)) : Good P B w0 γ0 nt Q g := by
  obtain ⟨k, s⟩ := g
  unfold condOf at h
  simp only at h
  split at h <;> first | (cases h; done) | skip
  rename_i c x y k'
  refine ⟨fun γ a w hle hf' hr hb => ?_⟩
  have hcv := hf'.ok (P := P) (B := B) (G := 0) hr.glob [c] c (by simp) _ h
  generalize hvc : a.eval c = vc at hcv
  cases hcv
  simp only [after, Exit.then]
  cases b with
  | true => exact wp_cond_true hvc ((ht rfl).out γ a w hle hf' hr hb)
  | false => exact wp_cond_false hvc ((hf rfl).out γ a w hle hf' hr hb)
theorem good_take {b : Bool} (c : Bool) (h : condOf P g = some (.v (.bool b))) (e : b = c) (hg : Good P B w0 γ0 nt Q (takeC c g)) : Good P B w0 γ0 nt Q g :=
  good_cond h (fun e' => by rw [show c = true from e ▸ e'] at hg; exact hg) (fun e' => by rw [show c = false from e ▸ e'] at hg; exact hg)
/-- what an operation at the head must do -/
theorem good_op {o : Oper} (h : hdOp P nt g = some o)
    (H : ∀ γ a w (K : Act → World → Prop) (QQ : Exit → Act → World → Prop), Gm.le γ0 γ → FR γ nt g.s.T g.s.ds a → HR B P.globals.size γ g.s.h g.s.c w → Keep B w0 w →
      (∀ γ' v w' av h' c', Gm.le γ γ' → VR γ' av v → HR B P.globals.size γ' h' c' w' → Keep B w0 w' → Good P B w0 γ0 nt Q (nx g av h' c') → K (a.put o.dst v) w') →
      o.wp P a w K QQ) : Good P B w0 γ0 nt Q g := by
  obtain ⟨k, s⟩ := g
  unfold hdOp at h
  simp only at h
  split at h <;> first | (cases h; done) | skip
  rename_i arr o' l k'
  split at h <;> first | (cases h; done) | skip
  rename_i hw
  have hoo : o' = o ∧ ∀ d, o'.dst = some d → d < nt := by
    split at h
    · rename_i hd
      injection h with h
      exact ⟨h, fun d e => by rw [hd] at e; cases e⟩
    · rename_i d hd
      split at h <;> first | (cases h; done) | skip
      rename_i hlt
      injection h with h
      exact ⟨h, fun d' e => by rw [hd] at e; injection e with e; subst e; exact blt_lt hlt⟩
  obtain ⟨rfl, hd⟩ := hoo
  refine ⟨fun γ a w hle hf hr hb => ?_⟩
  simp only [after, Exit.then, wpL]
  have hw' := awanted_ok (a := a) (fun j want p t av _ _ _ ht => hf.tmps t av ht) hw
  rw [if_pos hw']
  left
  refine H γ a w _ _ hle hf hr hb (fun γ' v w' av h' c' h1 h2 h3 h4 hg => ?_)
  refine hg.out γ' _ w' (hle.trans h1) ?_ h3 h4
  simp only [nx]
  have hput : tput nt s.T o'.dst av = some (match o'.dst with
    | none => s.T
    | some d => s.T.put d (some av)) := by
    unfold tput
    cases hdd : o'.dst with
    | none => rfl
    | some d =>
      simp only
      have : Nat.blt d nt = true := Nat.ble_eq_true_of_le (hd d hdd)
      rw [this]
  exact hf.put h1 h2 hput
theorem semV_run {ρ : Operand → Value} {o : Oper} {S : Sem Value} {v : Value} {w w' : World} (h : semV ρ o.op = some S) (hr : S.run P w = .ok v w') : (execOp ρ o).run P w = .ok (.value v) w' := by
  unfold semV at h
  unfold execOp
  split at h <;> first | (cases h; done) | skip
  all_goals
    rename_i hop
    rw [hop]
    injection h with h
    subst h
    exact run_v hr
/-- a value worked out by hand -/
theorem good_val {S : Sem Value} (x : Value) (h : hdSem P nt g = some S) (hrun : ∀ w, Keep B w0 w → S.run P w = .ok x w) (hg : Good P B w0 γ0 nt Q (nx0 g (norm x))) : Good P B w0 γ0 nt Q g := by
  unfold hdSem at h
  split at h
  · cases h
  rename_i o ho
  split at h <;> first | (cases h; done) | skip
  rename_i hcl
  refine good_op ho (fun γ a w K QQ hle hf hr hb hK => ?_)
  have hok := hf.ok (P := P) (B := B) (G := 0) hr.glob o.op.operands.toList
  have hns : ∀ cs b, o.op = .select cs b → False := fun cs b e => by rw [e] at h; cases h
  have hcong := execOp_congr (ρ := arho P g.s.T) (ρ' := a.eval) o (fun cs b e => (hns cs b e).elim) (fun x hx => arho_ok hok hcl x (by simpa using hx))
  exact wp_val (by rw [← hcong]; exact semV_run h (hrun w hb)) (hK γ x w _ _ _ (Gm.le.refl _) (norm_VR x) hr hb hg)
theorem good_val' {S : Sem Value} {x : Value} {av : AV} (h : hdSem P nt g = some S) (hrun : ∀ w, Keep B w0 w → S.run P w = .ok x w) (hav : ∀ γ, VR γ av x) (hg : Good P B w0 γ0 nt Q (nx0 g av)) : Good P B w0 γ0 nt Q g := by
  unfold hdSem at h
  split at h
  · cases h
  rename_i o ho
  split at h <;> first | (cases h; done) | skip
  rename_i hcl
  refine good_op ho (fun γ a w K QQ hle hf hr hb hK => ?_)
  have hok := hf.ok (P := P) (B := B) (G := 0) hr.glob o.op.operands.toList
  have hns : ∀ cs b, o.op = .select cs b → False := fun cs b e => by rw [e] at h; cases h
  have hcong := execOp_congr (ρ := arho P g.s.T) (ρ' := a.eval) o (fun cs b e => (hns cs b e).elim) (fun x hx => arho_ok hok hcl x (by simpa using hx))
  exact wp_val (by rw [← hcong]; exact semV_run h (hrun w hb)) (hK γ x w _ _ _ (Gm.le.refl _) (hav γ) hr hb hg)
/-- a call of which there is a contract -/
theorem good_call (cx : Cx P I B w0) {f : FuncId} {args : List AV} (h : hdCall P nt g = some (f, args)) (hbod : bodied P f = some true)
    (H : ∀ γ w vs, Gm.le γ0 γ → HR B P.globals.size γ g.s.h g.s.c w → Keep B w0 w → LR γ args vs → Calls P f vs.toArray w fun e w' =>
      ∃ v γ' av h' c', e = .returned v ∧ Gm.le γ γ' ∧ VR γ' av v ∧ HR B P.globals.size γ' h' c' w' ∧ Keep B w0 w' ∧ Good P B w0 γ0 nt Q (nx g av h' c')) : Good P B w0 γ0 nt Q g := by
  unfold hdCall at h
  split at h
  · cases h
  rename_i o ho
  refine good_op ho (fun γ a w K QQ hle hf hr hb hK => ?_)
  have hok := hf.ok (P := P) (B := B) (G := 0) hr.glob o.op.operands.toList
  obtain ⟨fn, code, hfn, hbd⟩ := bodied_true hbod
  have henter : ∀ (vs : Array Value), (callFunc f vs).run P w = .ok (.enter f vs) w := fun vs => enter_ok cx.hn hfn hbd vs w
  have fin : ∀ vs : List Value, LR γ args vs → (∀ w, (execOp a.eval o).run P w = (callFunc f vs.toArray).run P w) → o.wp P a w K QQ := by
    intro vs hl hrun
    unfold Oper.wp
    rw [hrun, henter]
    refine (H γ w vs hle hr hb hl).mono fun e w' hR => ?_
    obtain ⟨v, γ', av, h', c', rfl, h1, h2, h3, h4, h5⟩ := hR
    exact hK γ' v w' av h' c' h1 h2 h3 h4 h5
  unfold callOf at h
  split at h <;> first | (cases h; done) | skip
  rename_i k hop
  split at h <;> first | (cases h; done) | skip
  · rename_i x hce
    split at h <;> first | (cases h; done) | skip
    rename_i f' first cap l hx hl
    injection h with h
    injection h with e1 e2
    subst e1 e2
    have hmem : o.op.operands.toList = x :: k.args.toList := by rw [hop]; simp [Op.operands, Call.operands, hce]
    have hxv := hok x (by rw [hmem]; simp) _ hx
    have hlv := aevs_ok (a := a) (fun y hy => hok y (by rw [hmem]; exact List.mem_cons_of_mem _ hy)) hl
    generalize hvx : a.eval x = vx at hxv
    cases hxv with
    | fn hl1 hh1 hl2 hh2 =>
      rename_i vs ws
      have r1 : LR γ first vs.toList := ⟨by simpa using hl1, fun i b y e1 e2 => hh1 i b y e1 (by simpa using e2)⟩
      have r2 : LR γ cap ws.toList := ⟨by simpa using hl2, fun i b y e1 e2 => hh2 i b y e1 (by simpa using e2)⟩
      refine fin _ ((r1.append hlv).append r2) (fun w => ?_)
      unfold execOp
      rw [hop]
      simp only [resolve, hce, hvx, Deferred.ofValue, Sem.run_bind, Sem.run_pure, Result.andThen_ok, invoke]
      congr 2
      apply Array.ext'
      simp
  · rename_i x name hce
    split at h <;> first | (cases h; done) | skip
    rename_i t b l hx hl
    split at h <;> first | (cases h; done) | skip
    rename_i f' hf'
    injection h with h
    injection h with e1 e2
    subst e1 e2
    have hmem : o.op.operands.toList = x :: k.args.toList := by rw [hop]; simp [Op.operands, Call.operands, hce]
    have hxv := hok x (by rw [hmem]; simp) _ hx
    have hlv := aevs_ok (a := a) (fun y hy => hok y (by rw [hmem]; exact List.mem_cons_of_mem _ hy)) hl
    generalize hvx : a.eval x = vx at hxv
    cases hxv with
    | ifc hxv =>
      rename_i vv
      refine fin (vv :: k.args.toList.map a.eval) (LR.cons hxv hlv) (fun w => ?_)
      unfold execOp
      rw [hop]
      simp only [resolve, hce, hvx, Sem.run_bind, Sem.run_pure, Result.andThen_ok, invoke]
      have hex : (#[Value.iface t vv] ++ k.args.map a.eval).extract 1 (#[Value.iface t vv] ++ k.args.map a.eval).size = k.args.map a.eval := by
        apply Array.ext'
        simp
        exact List.take_of_length_le (by simp)
      have hget : (#[Value.iface t vv] ++ k.args.map a.eval)[0]? = some (.iface t vv) := by
        rw [Array.getElem?_append_left (by simp)]
        rfl
      rw [hget, hex]
      simp only [aMethod_ok hf']
      congr 2
      apply Array.ext'
      simp
def closeLL : List AV → Option (List Value)
  | [] => some []
  | a :: l => match a.close with
    | none => none
    | some x => match closeLL l with
      | none => none
      | some r => some (x :: r)
def closeT : AV → Option Value
  | .tup l => match closeLL l with
    | none => none
    | some r => some (.tuple r.toArray)
  | a => a.close
theorem closeLL_eq {γ : Gm} : ∀ {as : List AV} {vs ws : List Value}, closeLL as = some ws → LR γ as vs → vs = ws
  | [], vs, ws, h, hr => by
    simp [closeLL] at h
    subst h
    exact List.eq_nil_of_length_eq_zero hr.1.symm
  | a :: as, vs, ws, h, hr => by
    cases vs with
    | nil => have := hr.1; simp at this
    | cons x vs =>
      have h0 := hr.2 0 a x rfl rfl
      have ht : LR γ as vs := ⟨by have := hr.1; simpa using this, fun i b y h1 h2 => hr.2 (i + 1) b y (by simpa using h1) (by simpa using h2)⟩
      simp only [closeLL] at h
      split at h
      · cases h
      rename_i y hy
      split at h
      · cases h
      rename_i r hrr
      injection h with h
      subst h
      rw [close_eq hy h0, closeLL_eq hrr ht]
theorem closeT_eq {γ : Gm} {a : AV} {x y : Value} (h : closeT a = some y) (hr : VR γ a x) : x = y := by
  unfold closeT at h
  split at h
  · split at h
    · cases h
    rename_i r hrr
    injection h with h
    subst h
    cases hr with
    | tup hl hh =>
      rename_i vs
      have := closeLL_eq (γ := γ) (vs := vs.toList) hrr ⟨by simpa using hl, fun i a x h1 h2 => hh i a x h1 (by simpa using h2)⟩
      rw [← this]
  · exact close_eq h hr
/-- all arguments plain, the value behind it plain, no known memory turned -/
theorem good_callV (cx : Cx P I B w0) {f : FuncId} {args : List AV} (xs : List Value) {Pr : Value → World → Prop} (h : hdCall P nt g = some (f, args)) (hbod : bodied P f = some true) (hx : ∀ γ vs, LR γ args vs → vs = xs)
    (hc : ∀ w, Keep B w0 w → Calls P f xs.toArray w fun e w' => ∃ r, e = .returned r ∧ Pr r w' ∧ Below w.heap.size w w')
    (hg : ∀ r w', Pr r w' → Keep B w0 w' → Good P B w0 γ0 nt Q (nx0 g (norm r))) : Good P B w0 γ0 nt Q g := by
  refine good_call cx h hbod (fun γ w vs hle hr hb hl => ?_)
  obtain rfl := hx γ vs hl
  refine (hc w hb).mono fun e w' hR => ?_
  obtain ⟨r, rfl, h1, h2⟩ := hR
  have hk := hb.trans (Keep.of_below h2 hr.base)
  exact ⟨r, γ, norm r, _, _, rfl, Gm.le.refl _, norm_VR r, hr.kept h2.size h2.block, hk, hg r w' h1 hk⟩
/-- all arguments plain, the value behind it known -/
theorem good_callB (cx : Cx P I B w0) {f : FuncId} (xs : List Value) (r : Value) (h : hdCall P nt g = some (f, xs.map norm)) (hbod : bodied P f = some true) (hx : closeLL (xs.map norm) = some xs)
    (hc : ∀ w, Keep B w0 w → Calls P f xs.toArray w fun e w' => e = .returned r ∧ Below w.heap.size w w') (hg : Good P B w0 γ0 nt Q (nx0 g (norm r))) : Good P B w0 γ0 nt Q g :=
  good_callV cx xs (Pr := fun r' _ => r' = r) h hbod (fun γ vs hl => closeLL_eq hx hl) (fun w hk => (hc w hk).mono fun e w' hR => ⟨r, hR.1, rfl, hR.2⟩) (fun r' w' e _ => by subst e; exact hg)
theorem good_callP (cx : Cx P I B w0) {f : FuncId} (xs : List Value) (r : Value) (h : hdCall P nt g = some (f, xs.map norm)) (hbod : bodied P f = some true) (hx : closeLL (xs.map norm) = some xs)
    (hc : ∀ w, Keep B w0 w → Calls P f xs.toArray w fun e w' => e = .returned r ∧ w = w') (hg : Good P B w0 γ0 nt Q (nx0 g (norm r))) : Good P B w0 γ0 nt Q g :=
  good_callB cx xs r h hbod hx (fun w hk => (hc w hk).mono fun e w' hR => ⟨hR.1, by rw [← hR.2]; exact Below.refl _ _⟩) hg
/-- a slot is spelt in another way -/
def setT (g : Cfg) (t : Nat) (av : AV) : Cfg := ⟨g.k, ⟨g.s.T.put t (some av), g.s.h, g.s.c, g.s.ds⟩⟩
theorem good_set (t : Nat) {x : Value} (y : Value) (h : g.s.T.get t = some (.v x)) (e : x = y) (hg : Good P B w0 γ0 nt Q (setT g t (norm y))) : Good P B w0 γ0 nt Q g := by
  subst e
  refine ⟨fun γ a w hle hf hr hb => ?_⟩
  refine hg.out γ a w hle ⟨hf.size, fun t' av ht => ?_, hf.defs⟩ hr hb
  simp only [setT] at ht
  rw [Tr.get_put] at ht
  split at ht
  · rename_i e
    subst e
    injection ht with ht
    subst ht
    obtain ⟨v, h1, h2⟩ := hf.tmps _ _ h
    cases h2
    exact ⟨_, h1, norm_VR _⟩
  · exact hf.tmps t' av ht
theorem good_loop (h : isLp g = true) (hg : Good P B w0 γ0 nt Q (rnd g)) : Good P B w0 γ0 nt Q g := by
  obtain ⟨k, s⟩ := g
  unfold isLp at h
  split at h <;> first | (cases h; done) | skip
  rename_i c k' hk
  simp only at hk
  subst hk
  exact ⟨fun γ a w hle hf hr hb => loopBody_of (hg.out γ a w hle hf hr hb)⟩
theorem good_toLp (hg : Good P B w0 γ0 nt Q (toLp g)) : Good P B w0 γ0 nt Q g := by
  obtain ⟨k, s⟩ := g
  unfold toLp at hg
  split at hg
  · rename_i c k' hk
    simp only at hk
    subst hk
    exact ⟨fun γ a w hle hf hr hb => loop_of (hg.out γ a w hle hf hr hb)⟩
  · exact hg
/-- the end -/
theorem good_end {fn : Func} {R : Ending → World → Prop} {av : AV} (h : endOf P fn g = some av)
    (hR : ∀ γ w v, Gm.le γ0 γ → VR γ av v → HR B P.globals.size γ g.s.h g.s.c w → Keep B w0 w → R (.returned v) w) : Good P B w0 γ0 nt (bodyPostD P fn R) g := by
  obtain ⟨k, ⟨T, h', c, ds⟩⟩ := g
  unfold endOf at h
  simp only at h
  split at h
  · cases h
  refine ⟨fun γ a w hle hf hr hb => ?_⟩
  have key : aResults P fn T h' = some av → bodyPostD P fn R .normal a w := by
    intro ha
    obtain ⟨v, h1, h2⟩ := aResults_ok hr hf.tmps ha
    have hd : a.defers = [] := DR_nil hf.defs
    show Leaves P fn a.tmps R a.defers .returning w
    rw [hd]
    exact ⟨v, h2, hR γ w v hle h1 hr hb⟩
  split at h
  · exact key h
  · simp only [after, Exit.then]
    exact wp_ret (after_ret (key h))
  · cases h
def endV (P : Program) (fn : Func) (g : Cfg) : Option Value := match endOf P fn g with
  | none => none
  | some av => closeT av
/-- the end, with a plain value -/
theorem good_endV {fn : Func} {R : Ending → World → Prop} (r : Value) (h : endV P fn g = some r) (hR : ∀ w, Keep B w0 w → R (.returned r) w) : Good P B w0 γ0 nt (bodyPostD P fn R) g := by
  unfold endV at h
  split at h
  · cases h
  rename_i av hav
  exact good_end hav (fun γ w v _ hv _ hk => by rw [closeT_eq h hv]; exact hR w hk)
/-- the beginning -/
def start (P : Program) (fn : Func) (args : List AV) : Cfg := ⟨[.code (fn.body.getD .skip)], ⟨putL .leaf 0 args, .leaf, P.globals.size, []⟩⟩
theorem enter (hn : Fine P I) {f : FuncId} {fn : Func} (hf : P.funcs[f]? = some fn) (hb' : fn.body.isSome = true) {args : List AV} {vs : List Value} (hl : ∀ γ, LR γ args vs) (hle : Nat.ble args.length fn.ntmps = true) {w : World} {R : Ending → World → Prop}
    (hg : ∀ γ0, (∀ b, P.globals.size ≤ b → γ0 b = none) → Good P (· < w.heap.size) w γ0 fn.ntmps (bodyPostD P fn R) (start P fn args)) : Calls P f vs.toArray w R := by
  obtain ⟨code, hb⟩ := Option.isSome_iff_exists.1 hb'
  have hle : args.length ≤ fn.ntmps := Nat.le_of_ble_eq_true hle
  refine calls_of_wp_defers hf hb ?_
  obtain ⟨γ0, hγ0, hfr, hr⟩ : ∃ γ0 : Gm, (∀ b, P.globals.size ≤ b → γ0 b = none) ∧ FR γ0 fn.ntmps (putL .leaf 0 args) [] { tmps := vs.toArray ++ Array.replicate (fn.ntmps - vs.toArray.size) undef, defers := [] } ∧
      HR (· < w.heap.size) P.globals.size γ0 .leaf P.globals.size w := by
    refine ⟨fun g => if g < P.globals.size then some (g, 0) else none, fun b hb => ?_, ⟨?_, putL_TR (by simpa using hl _) _, trivial⟩, ?_⟩
    · show (if b < P.globals.size then _ else _) = _; rw [if_neg (by omega)]
    · have := (hl (fun _ => none)).1
      simp
      omega
    · exact ⟨fun b blk hb => (by rw [Tr.get_leaf] at hb; cases hb), fun b b' blk blk' p p' hb => (by rw [Tr.get_leaf] at hb; cases hb), fun b hb => by show (if b < P.globals.size then _ else _) = _; rw [if_neg (by omega)], fun g hg => ⟨0, by show (if g < P.globals.size then _ else _) = _; rw [if_pos hg]⟩, fun k hk => hk⟩
  have := (hg γ0 hγ0).out γ0 _ w (Gm.le.refl _) hfr hr (Keep.refl _ _)
  simp only [after, start, hb, Option.getD_some] at this
  exact wp_mono this fun e a w h => by cases e <;> exact h

/-! what is forgotten -/
mutual
def avLt (n : Nat) : AV → Bool
  | .v _ => true
  | .ptr b _ => Nat.blt b n
  | .sl b _ _ _ => Nat.blt b n
  | .slg b _ _ _ => Nat.blt b n
  | .agg l => avLtL n l
  | .tup l => avLtL n l
  | .ifc _ a => avLt n a
  | .fn _ l r => match avLtL n l with
    | true => avLtL n r
    | false => false
  | .map b => Nat.blt b n
def avLtL (n : Nat) : List AV → Bool
  | [] => true
  | a :: l => match avLt n a with
    | true => avLtL n l
    | false => false
end
theorem avLtL_get {n : Nat} : ∀ {l : List AV}, avLtL n l = true → ∀ (i : Nat) (a : AV), l[i]? = some a → avLt n a = true
  | [], _, i, a, hi => by simp at hi
  | b :: l, h, i, a, hi => by
    simp only [avLtL] at h
    split at h
    · rename_i hb
      cases i with
      | zero => simp at hi; subst hi; exact hb
      | succ i => exact avLtL_get h i a (by simpa using hi)
    · cases h
def Gm.res (γ : Gm) (n : Nat) : Gm := fun b => if b < n then γ b else none
theorem Gm.res_some {γ : Gm} {n b : Nat} {p : Nat × Nat} (h : γ b = some p) (hb : b < n) : γ.res n b = some p := by unfold Gm.res; rw [if_pos hb]; exact h
theorem VR.res {γ : Gm} {n : Nat} {a : AV} {x : Value} (h : VR γ a x) : avLt n a = true → VR (γ.res n) a x := by
  induction h with
  | v x => exact fun _ => .v x
  | ptr h => exact fun hb => .ptr (Gm.res_some h (blt_lt hb))
  | sl h hl => exact fun hb => .sl (Gm.res_some h (blt_lt hb)) hl
  | slg h hl hm ho => exact fun hb => .slg (Gm.res_some h (blt_lt hb)) hl hm ho
  | agg hl _ ih => exact fun hb => .agg hl (fun i a x h1 h2 => ih i a x h1 h2 (avLtL_get hb i a h1))
  | tup hl _ ih => exact fun hb => .tup hl (fun i a x h1 h2 => ih i a x h1 h2 (avLtL_get hb i a h1))
  | ifc _ ih => exact fun hb => .ifc (ih hb)
  | fn hl _ hl' _ ih ih' =>
    intro hb
    simp only [avLt] at hb
    split at hb
    · rename_i h1
      exact .fn hl (fun i a x h2 h3 => ih i a x h2 h3 (avLtL_get h1 i a h2)) hl' (fun i a x h2 h3 => ih' i a x h2 h3 (avLtL_get hb i a h2))
    · cases hb
  | map h => exact fun hb => .map (Gm.res_some h (blt_lt hb))
/-! a frame and a memory written out -/
def mkT : List (Nat × AV) → Tr AV
  | [] => .leaf
  | p :: l => (mkT l).put p.1 (some p.2)
def mkH : List (Nat × Option Blk) → Hp
  | [] => .leaf
  | p :: l => (mkH l).put p.1 p.2
theorem mkT_get : ∀ {l : List (Nat × AV)} {t : Nat} {a : AV}, (mkT l).get t = some a → (t, a) ∈ l
  | [], t, a, h => by simp only [mkT] at h; rw [Tr.get_leaf] at h; cases h
  | p :: l, t, a, h => by
    simp only [mkT] at h
    rw [Tr.get_put] at h
    split at h
    · rename_i e; injection h with h; subst h e; simp
    · exact List.mem_cons_of_mem _ (mkT_get h)
theorem mkH_get : ∀ {l : List (Nat × Option Blk)} {t : Nat} {a : Blk}, (mkH l).get t = some a → (t, some a) ∈ l
  | [], t, a, h => by simp only [mkH] at h; rw [Tr.get_leaf] at h; cases h
  | p :: l, t, a, h => by
    simp only [mkH] at h
    rw [Tr.get_put] at h
    split at h
    · rename_i e; subst e; rw [← h]; simp
    · exact List.mem_cons_of_mem _ (mkH_get h)
def trAll {α : Type} (p : α → Bool) : Tr α → Bool
  | .leaf => true
  | .node x l r => match (match x with | none => true | some a => p a) with
    | true => match trAll p l with
      | true => trAll p r
      | false => false
    | false => false
theorem trAll_get {α : Type} {p : α → Bool} : ∀ {t : Tr α}, trAll p t = true → ∀ (k : Nat) (a : α), t.get k = some a → p a = true := by
  intro t
  induction t with
  | leaf => intro _ k a h; rw [Tr.get_leaf] at h; cases h
  | node x l r ihl ihr =>
    intro h k a hk
    rw [Tr.get_eq] at hk
    simp only [trAll] at h
    split at h <;> first | (cases h; done) | skip
    rename_i hx
    split at h <;> first | (cases h; done) | skip
    rename_i hl
    cases k with
    | zero => simp only [Tr.get0] at hk; subst hk; exact hx
    | succ k =>
      simp only [Tr.get0] at hk
      split at hk
      · exact ihl hl _ a (by rw [Tr.get_eq]; exact hk)
      · exact ihr h _ a (by rw [Tr.get_eq]; exact hk)
def esLt (n : Nat) : List (AV × AV × Nat) → Bool
  | [] => true
  | e :: l => match avLt n e.1, avLt n e.2.1 with
    | true, true => esLt n l
    | _, _ => false
theorem esLt_get {n : Nat} : ∀ {l : List (AV × AV × Nat)}, esLt n l = true → ∀ (i : Nat) (e : AV × AV × Nat), l[i]? = some e → avLt n e.1 = true ∧ avLt n e.2.1 = true
  | [], _, i, e, h => by simp at h
  | x :: l, h, i, e, hi => by
    simp only [esLt] at h
    split at h <;> first | (cases h; done) | skip
    rename_i h1 h2
    cases i with
    | zero => simp at hi; subst hi; exact ⟨h1, h2⟩
    | succ i => exact esLt_get h i e (by simpa using hi)
def blkLt (n : Nat) : Blk → Bool
  | .cells _ _ _ _ _ cs => trAll (avLt n) cs
  | .map es _ => esLt n es
  | .row _ _ => true
theorem BR.res {γ : Gm} {n : Nat} {blk : Blk} {p : Nat × Nat} {w : World} (h : BR B γ blk p w) (hb : blkLt n blk = true) : BR B (γ.res n) blk p w := by
  cases blk with
  | cells ty own clean ex lim cs =>
    obtain ⟨h0, c, ty', fz, h1, h2, h3, h4⟩ := h
    exact ⟨h0, c, ty', fz, h1, h2, h3, fun i a hl hi => let ⟨x, h5, h6⟩ := h4 i a hl hi; ⟨x, h5, h6.res (trAll_get hb i a hi)⟩⟩
  | map es clock =>
    obtain ⟨h0, l, h1, h2, h3⟩ := h
    exact ⟨h0, l, h1, h2, fun i e m he hm => let ⟨a, b, c⟩ := h3 i e m he hm; ⟨a.res (esLt_get hb i e he).1, b.res (esLt_get hb i e he).2, c⟩⟩
  | row e xs => exact h
def allLtT (n : Nat) : List (Nat × AV) → Bool
  | [] => true
  | p :: l => match avLt n p.2 with
    | true => allLtT n l
    | false => false
def allLtH (n : Nat) : List (Nat × Option Blk) → Bool
  | [] => true
  | p :: l => match Nat.blt p.1 n, (match p.2 with | none => true | some b => blkLt n b) with
    | true, true => allLtH n l
    | _, _ => false
theorem allLtT_mem {n : Nat} : ∀ {l : List (Nat × AV)}, allLtT n l = true → ∀ p ∈ l, avLt n p.2 = true
  | [], _, p, h => by simp at h
  | q :: l, h, p, hp => by
    simp only [allLtT] at h
    split at h <;> first | (cases h; done) | skip
    rename_i h1
    rcases List.mem_cons.1 hp with rfl | hp
    · exact h1
    · exact allLtT_mem h p hp
theorem allLtH_mem {n : Nat} : ∀ {l : List (Nat × Option Blk)}, allLtH n l = true → ∀ t b, (t, some b) ∈ l → t < n ∧ blkLt n b = true
  | [], _, p, _, h => by simp at h
  | q :: l, h, t, b, hp => by
    simp only [allLtH] at h
    split at h <;> first | (cases h; done) | skip
    rename_i h1 h2
    rcases List.mem_cons.1 hp with e | hp
    · subst e; exact ⟨blt_lt h1, h2⟩
    · exact allLtH_mem h t b hp
theorem map_all {α β : Type} {f : Nat × α → Option β} {q : Nat × α → Option β} : ∀ {l : List (Nat × α)}, l.map f = l.map q → ∀ p ∈ l, f p = q p
  | [], _, p, h => by simp at h
  | x :: l, h, p, hp => by
    simp only [List.map_cons, List.cons.injEq] at h
    rcases List.mem_cons.1 hp with rfl | hp
    · exact h.1
    · exact map_all h.2 p hp
/-- of what is known only so much is kept; blocks from 'c2' on are let go -/
theorem good_sub (K : List It) (lT : List (Nat × AV)) (lH : List (Nat × Option Blk)) (c2 : Nat) (hk : g.k = K) (hds : g.s.ds = [])
    (hT : lT.map (fun p => g.s.T.get p.1) = lT.map (fun p => some p.2)) (hTl : allLtT c2 lT = true) (hH : lH.map (fun p => g.s.h.get p.1) = lH.map (fun p => p.2)) (hHl : allLtH c2 lH = true)
    (hγ : ∀ b, c2 ≤ b → γ0 b = none) (hG : Nat.ble P.globals.size c2 = true) (hg : Good P B w0 γ0 nt Q ⟨K, ⟨mkT lT, mkH lH, c2, []⟩⟩) : Good P B w0 γ0 nt Q g := by
  subst hk
  obtain ⟨k, ⟨T, h, c, ds⟩⟩ := g
  simp only at hds hT hH hg
  subst hds
  have hG : P.globals.size ≤ c2 := Nat.le_of_ble_eq_true hG
  refine ⟨fun γ a w hle hf hr hb => ?_⟩
  have hT' := map_all hT
  have hH' := map_all hH
  refine hg.out (γ.res c2) a w (fun b p hp => ?_) ⟨hf.size, fun t av ht => ?_, ?_⟩ ⟨fun b blk hb' => ?_, fun b b' blk blk' p p' h1 h2 g1 g2 e => ?_, fun b hb' => ?_, fun x hx => ?_, hr.base⟩ hb
  · rcases Nat.lt_or_ge b c2 with hlt | hge
    · exact Gm.res_some (hle b p hp) hlt
    · rw [hγ b hge] at hp; cases hp
  · have hm := mkT_get ht
    obtain ⟨v, h1, h2⟩ := hf.tmps t av (hT' _ hm)
    exact ⟨v, h1, h2.res (allLtT_mem hTl _ hm)⟩
  · have := hf.defs
    revert this
    cases a.defers with
    | nil => exact fun _ => trivial
    | cons d l => exact fun h => h.elim
  · have hm := mkH_get hb'
    obtain ⟨h1, h2⟩ := allLtH_mem hHl _ _ hm
    obtain ⟨p, hp, hbr⟩ := hr.live b blk (hH' _ hm)
    exact ⟨p, Gm.res_some hp h1, hbr.res h2⟩
  · have m1 := mkH_get h1
    have m2 := mkH_get h2
    have k1 := (allLtH_mem hHl _ _ m1).1
    have k2 := (allLtH_mem hHl _ _ m2).1
    simp only [Gm.res, if_pos k1] at g1
    simp only [Gm.res, if_pos k2] at g2
    exact hr.inj _ _ _ _ _ _ (hH' _ m1) (hH' _ m2) g1 g2 e
  · show (if b < c2 then _ else _) = _
    have hb' : c2 ≤ b := hb'
    rw [if_neg (by omega)]
  · obtain ⟨N, hN⟩ := hr.glob x hx
    exact ⟨N, Gm.res_some hN (by omega)⟩
end
end Go.Sy
end
end

section
/- The reckoner: slices that grow, calls that make memory. Any program; the conditions are in each theorem. -/
noncomputable section
namespace Go.Sy
open Go Go.RowKit
set_option linter.unusedVariables false
set_option linter.unusedSimpArgs false

/-! a slice that is being put together: 'X' is what stands for it, 'ob' what lies at block 'b' -/
def RowAt (e esz b n : Nat) (xs : List Value) (X : AV) (ob : Option Blk) : Prop :=
  xs.length = n * esz ∧ ((X = .v (.slice none 0 0) ∧ ob = none ∧ n = 0) ∨ (X = .slg b 0 n esz ∧ ob = some (.row e xs)))
theorem RowAt.nil (e esz b : Nat) : RowAt e esz b 0 [] (.v (.slice none 0 0)) none := ⟨by simp, .inl ⟨rfl, rfl, rfl⟩⟩
theorem RowAt.lt {e esz b n c : Nat} {xs : List Value} {X : AV} {ob : Option Blk} (h : RowAt e esz b n xs X ob) (hb : b < c) : avLt c X = true := by
  rcases h.2 with ⟨rfl, _⟩ | ⟨rfl, _⟩
  · rfl
  · exact Nat.ble_eq_true_of_le hb
theorem RowAt.blk {e esz b n c : Nat} {xs : List Value} {X : AV} {ob : Option Blk} (h : RowAt e esz b n xs X ob) : (match ob with | none => true | some k => blkLt c k) = true := by
  rcases h.2 with ⟨_, rfl, _⟩ | ⟨_, rfl⟩ <;> rfl

mutual
def avNo (n : Nat) : AV → Bool
  | .v _ => true
  | .ptr b _ => not (Nat.beq b n)
  | .sl b _ _ _ => not (Nat.beq b n)
  | .slg b _ _ _ => not (Nat.beq b n)
  | .agg l => avNoL n l
  | .tup l => avNoL n l
  | .ifc _ a => avNo n a
  | .fn _ l r => match avNoL n l with
    | true => avNoL n r
    | false => false
  | .map b => not (Nat.beq b n)
def avNoL (n : Nat) : List AV → Bool
  | [] => true
  | a :: l => match avNo n a with
    | true => avNoL n l
    | false => false
end
theorem avNoL_get {n : Nat} : ∀ {l : List AV}, avNoL n l = true → ∀ (i : Nat) (a : AV), l[i]? = some a → avNo n a = true
  | [], _, i, a, hi => by simp at hi
  | b :: l, h, i, a, hi => by
    simp only [avNoL] at h
    split at h
    · rename_i hb
      cases i with
      | zero => simp at hi; subst hi; exact hb
      | succ i => exact avNoL_get h i a (by simpa using hi)
    · cases h
theorem beq_no {b n : Nat} (h : (!(Nat.beq b n)) = true) : b ≠ n := fun e => by subst e; simp at h
theorem Gm.upd_ne {γ : Gm} {b c : Nat} {q p : Nat × Nat} (h : γ c = some p) (hne : c ≠ b) : γ.upd b q c = some p := by unfold Gm.upd; rw [if_neg hne]; exact h
theorem VR.upd {γ : Gm} {b : Nat} {q : Nat × Nat} {a : AV} {x : Value} (h : VR γ a x) : avNo b a = true → VR (γ.upd b q) a x := by
  induction h with
  | v x => exact fun _ => .v x
  | ptr h => exact fun hb => .ptr (Gm.upd_ne h (beq_no hb))
  | sl h hl => exact fun hb => .sl (Gm.upd_ne h (beq_no hb)) hl
  | slg h hl hm ho => exact fun hb => .slg (Gm.upd_ne h (beq_no hb)) hl hm ho
  | agg hl _ ih => exact fun hb => .agg hl (fun i a x h1 h2 => ih i a x h1 h2 (avNoL_get hb i a h1))
  | tup hl _ ih => exact fun hb => .tup hl (fun i a x h1 h2 => ih i a x h1 h2 (avNoL_get hb i a h1))
  | ifc _ ih => exact fun hb => .ifc (ih hb)
  | fn hl _ hl' _ ih ih' =>
    intro hb
    simp only [avNo] at hb
    split at hb
    · rename_i h1
      exact .fn hl (fun i a x h2 h3 => ih i a x h2 h3 (avNoL_get h1 i a h2)) hl' (fun i a x h2 h3 => ih' i a x h2 h3 (avNoL_get hb i a h2))
    · cases hb
  | map h => exact fun hb => .map (Gm.upd_ne h (beq_no hb))
def esNo (n : Nat) : List (AV × AV × Nat) → Bool
  | [] => true
  | e :: l => match avNo n e.1, avNo n e.2.1 with
    | true, true => esNo n l
    | _, _ => false
theorem esNo_get {n : Nat} : ∀ {l : List (AV × AV × Nat)}, esNo n l = true → ∀ (i : Nat) (e : AV × AV × Nat), l[i]? = some e → avNo n e.1 = true ∧ avNo n e.2.1 = true
  | [], _, i, e, h => by simp at h
  | x :: l, h, i, e, hi => by
    simp only [esNo] at h
    split at h <;> first | (cases h; done) | skip
    rename_i h1 h2
    cases i with
    | zero => simp at hi; subst hi; exact ⟨h1, h2⟩
    | succ i => exact esNo_get h i e (by simpa using hi)
def blkNo (n : Nat) : Blk → Bool
  | .cells _ _ _ _ _ cs => trAll (avNo n) cs
  | .map es _ => esNo n es
  | .row _ _ => true
theorem BR.upd {B : Nat → Prop} {γ : Gm} {b : Nat} {q : Nat × Nat} {blk : Blk} {p : Nat × Nat} {w : World} (h : BR B γ blk p w) (hb : blkNo b blk = true) : BR B (γ.upd b q) blk p w := by
  cases blk with
  | cells ty own clean ex lim cs =>
    obtain ⟨h0, c, ty', fz, h1, h2, h3, h4⟩ := h
    exact ⟨h0, c, ty', fz, h1, h2, h3, fun i a hl hi => let ⟨x, h5, h6⟩ := h4 i a hl hi; ⟨x, h5, h6.upd (trAll_get hb i a hi)⟩⟩
  | map es clock =>
    obtain ⟨h0, l, h1, h2, h3⟩ := h
    exact ⟨h0, l, h1, h2, fun i e m he hm => let ⟨a, b, c⟩ := h3 i e m he hm; ⟨a.upd (esNo_get hb i e he).1, b.upd (esNo_get hb i e he).2, c⟩⟩
  | row e xs => exact h
def eraseL : List Nat → Tr AV → Tr AV
  | [], T => T
  | t :: l, T => (eraseL l T).put t none
theorem eraseL_get : ∀ {l : List Nat} {T : Tr AV} {t : Nat} {a : AV}, (eraseL l T).get t = some a → T.get t = some a
  | [], T, t, a, h => h
  | x :: l, T, t, a, h => by
    simp only [eraseL] at h
    rw [Tr.get_put] at h
    split at h
    · cases h
    · exact eraseL_get h

/-! what stands at the head -/
def restK (g : Cfg) : List It := match g.k with
  | .ops arr (_ :: l) :: k => .ops arr l :: k
  | k => k
def dstOf (g : Cfg) : Option Nat := match g.k with
  | .ops _ (o :: _) :: _ => o.dst
  | _ => none
def putD (d : Option Nat) (T : Tr AV) (av : AV) : Tr AV := match d with
  | none => T
  | some d => T.put d (some av)
def hdApp (P : Program) (nt : Nat) (g : Cfg) : Option (List TypeId × AV × AV) := match hdOp P nt g with
  | none => none
  | some o => match o.op with
    | .call k => match k.callee, k.args.toList with
      | .builtin .append, [s, x] => match aev P g.s.T s, aev P g.s.T x with
        | some a, some b => some (k.argTypes.toList, a, b)
        | _, _ => none
      | _, _ => none
    | _ => none
def srcOf (h : Hp) (esz : Nat) (x : AV) : Option (Nat × List Value) := match aSource h esz x with
  | none => none
  | some (m, l) => match closeL l with
    | none => none
    | some vs => some (m, vs)

section
variable {P : Program} {I : Aux} {B : Nat → Prop} {w0 : World} {γ0 : Gm} {nt : Nat} {Q : Exit → Act → World → Prop} {g : Cfg}
/-- what an operation at the head must do, what is known behind it as one likes -/
theorem good_opA {o : Oper} (h : hdOp P nt g = some o)
    (H : ∀ γ a w (K : Act → World → Prop) (QQ : Exit → Act → World → Prop), Gm.le γ0 γ → FR γ nt g.s.T g.s.ds a → HR B P.globals.size γ g.s.h g.s.c w → Keep B w0 w → dstOf g = o.dst → (∀ d, o.dst = some d → d < nt) →
      (∀ a' w', after P Q (restK g) .normal a' w' → K a' w') → o.wp P a w K QQ) : Good P B w0 γ0 nt Q g := by
  obtain ⟨k, s⟩ := g
  unfold hdOp at h
  simp only at h
  split at h <;> first | (cases h; done) | skip
  rename_i arr o' l k'
  split at h <;> first | (cases h; done) | skip
  rename_i hw
  have hoo : o' = o ∧ ∀ d, o'.dst = some d → d < nt := by
    split at h
    · rename_i hd
      injection h with h
      exact ⟨h, fun d e => by rw [hd] at e; cases e⟩
    · rename_i d hd
      split at h <;> first | (cases h; done) | skip
      rename_i hlt
      injection h with h
      exact ⟨h, fun d' e => by rw [hd] at e; injection e with e; subst e; exact blt_lt hlt⟩
  obtain ⟨rfl, hd⟩ := hoo
  refine ⟨fun γ a w hle hf hr hb => ?_⟩
  simp only [after, Exit.then, wpL]
  have hw' := awanted_ok (a := a) (fun j want p t av _ _ _ ht => hf.tmps t av ht) hw
  rw [if_pos hw']
  left
  exact H γ a w _ _ hle hf hr hb rfl hd (fun a' w' h => h)
/-- what an operation at the head must do, the frame behind it as one likes -/
theorem good_opF {o : Oper} (h : hdOp P nt g = some o)
    (H : ∀ γ a w (K : Act → World → Prop) (QQ : Exit → Act → World → Prop), Gm.le γ0 γ → FR γ nt g.s.T g.s.ds a → HR B P.globals.size γ g.s.h g.s.c w → Keep B w0 w → dstOf g = o.dst → (∀ d, o.dst = some d → d < nt) →
      (∀ γ' v w' T2 h' c', Gm.le γ0 γ' → FR γ' nt T2 g.s.ds (a.put o.dst v) → HR B P.globals.size γ' h' c' w' → Keep B w0 w' → Good P B w0 γ0 nt Q ⟨restK g, ⟨T2, h', c', g.s.ds⟩⟩ → K (a.put o.dst v) w') →
      o.wp P a w K QQ) : Good P B w0 γ0 nt Q g :=
  good_opA h (fun γ a w K QQ hle hf hr hb hdst hd hK => H γ a w K QQ hle hf hr hb hdst hd (fun γ' v w' T2 h' c' h1 h2 h3 h4 hg => hK _ _ (hg.out γ' _ w' h1 h2 h3 h4)))
theorem callOf_ok {γ : Gm} {a : Act} {T : Tr AV} {o : Oper} {f : FuncId} {args : List AV} (hok : Ok P γ T a o.op.operands.toList) (h : callOf P T o = some (f, args)) :
    ∃ vs, LR γ args vs ∧ ∀ w, (execOp a.eval o).run P w = (callFunc f vs.toArray).run P w := by
  unfold callOf at h
  split at h <;> first | (cases h; done) | skip
  rename_i k hop
  split at h <;> first | (cases h; done) | skip
  · rename_i x hce
    split at h <;> first | (cases h; done) | skip
    rename_i f' first cap l hx hl
    injection h with h
    injection h with e1 e2
    subst e1 e2
    have hmem : o.op.operands.toList = x :: k.args.toList := by rw [hop]; simp [Op.operands, Call.operands, hce]
    have hxv := hok x (by rw [hmem]; simp) _ hx
    have hlv := aevs_ok (a := a) (fun y hy => hok y (by rw [hmem]; exact List.mem_cons_of_mem _ hy)) hl
    generalize hvx : a.eval x = vx at hxv
    cases hxv with
    | fn hl1 hh1 hl2 hh2 =>
      rename_i vs ws
      have r1 : LR γ first vs.toList := ⟨by simpa using hl1, fun i b y e1 e2 => hh1 i b y e1 (by simpa using e2)⟩
      have r2 : LR γ cap ws.toList := ⟨by simpa using hl2, fun i b y e1 e2 => hh2 i b y e1 (by simpa using e2)⟩
      refine ⟨_, (r1.append hlv).append r2, fun w => ?_⟩
      unfold execOp
      rw [hop]
      simp only [resolve, hce, hvx, Deferred.ofValue, Sem.run_bind, Sem.run_pure, Result.andThen_ok, invoke]
      congr 2
      apply Array.ext'
      simp
  · rename_i x name hce
    split at h <;> first | (cases h; done) | skip
    rename_i t b l hx hl
    split at h <;> first | (cases h; done) | skip
    rename_i f' hf'
    injection h with h
    injection h with e1 e2
    subst e1 e2
    have hmem : o.op.operands.toList = x :: k.args.toList := by rw [hop]; simp [Op.operands, Call.operands, hce]
    have hxv := hok x (by rw [hmem]; simp) _ hx
    have hlv := aevs_ok (a := a) (fun y hy => hok y (by rw [hmem]; exact List.mem_cons_of_mem _ hy)) hl
    generalize hvx : a.eval x = vx at hxv
    cases hxv with
    | ifc hxv =>
      rename_i vv
      refine ⟨vv :: k.args.toList.map a.eval, LR.cons hxv hlv, fun w => ?_⟩
      unfold execOp
      rw [hop]
      simp only [resolve, hce, hvx, Sem.run_bind, Sem.run_pure, Result.andThen_ok, invoke]
      have hex : (#[Value.iface t vv] ++ k.args.map a.eval).extract 1 (#[Value.iface t vv] ++ k.args.map a.eval).size = k.args.map a.eval := by
        apply Array.ext'
        simp
        exact List.take_of_length_le (by simp)
      have hget : (#[Value.iface t vv] ++ k.args.map a.eval)[0]? = some (.iface t vv) := by
        rw [Array.getElem?_append_left (by simp)]
        rfl
      rw [hget, hex]
      simp only [aMethod_ok hf']
      congr 2
      apply Array.ext'
      simp
theorem row_own {e esz b n : Nat} {xs : List Value} {X : AV} {ob : Option Blk} {γ : Gm} {h : Hp} {c G : Nat} {w : World} {x : Value} {base : Nat} (hrow : RowAt e esz b n xs X ob) (hob : h.get b = ob) (hr : HR B G γ h c w) (hv : VR γ X x) (hbase : ∀ k, ¬ B k → base ≤ k) :
    w.ownsRow base e esz x n xs ∧ (∀ k, x.ownBlock = some k → ¬ B k ∧ γ b = some (k, (γ b).getD (0, 0) |>.2)) := by
  obtain ⟨hlen, ⟨rfl, rfl, rfl⟩ | ⟨rfl, rfl⟩⟩ := hrow
  · cases hv
    exact ⟨⟨hlen, .inl ⟨rfl, rfl⟩⟩, fun k hk => by simp [Value.ownBlock] at hk⟩
  · cases hv with
    | slg hbp hl hm ho =>
      rename_i n1 N o cap
      obtain ⟨rfl, ho2⟩ := ho (.inl rfl)
      obtain ⟨p, hp, hbr⟩ := hr.live b _ hob
      rw [hbp] at hp
      injection hp with hp
      subst hp
      obtain ⟨h0, cc, k1, k2, k3⟩ := hbr
      simp only at k1 k2 h0
      refine ⟨⟨hlen, .inr ⟨n1, cap, cc, rfl, hbase _ h0, k1, hl, hm, by omega, by rw [← hlen]; exact k3⟩⟩, fun k hk => ?_⟩
      simp only [Value.ownBlock, Option.some.injEq] at hk
      subst hk
      exact ⟨h0, by rw [hbp]; rfl⟩
/-- append at the head: the slice is put together further -/
theorem good_append {t e : Nat} {i : TypeInfo} {z : Value} {y : AV} {m : Nat} (esz b n : Nat) (xs : List Value) (X : AV) (ob : Option Blk) (news : List Value) (E : List Nat)
    (h : hdApp P nt g = some ([t, t], X, y)) (hu : P.underlying t = some (.slice e)) (hi : P.info? e = some i) (hz : i.zero = some z) (hzs : z.cells.size = i.size) (hes : i.size = esz) (hpos : 0 < esz)
    (hrow : RowAt e esz b n xs X ob) (hob : g.s.h.get b = ob) (hsrc : srcOf g.s.h esz y = some (m + 1, news)) (hone : news.all (fun v => v.oneCell') = true) (h63 : n + (m + 1) ≤ maxLen) (hby : (n + (m + 1)) * i.bytes ≤ 140737488355328)
    (hγb : γ0 b = none) (hbc : Nat.blt b g.s.c = true) (hGb : Nat.ble P.globals.size b = true) (hds : g.s.ds = []) (hE : trAll (avNo b) (eraseL E g.s.T) = true) (hH : trAll (blkNo b) (g.s.h.put b none) = true)
    (hg : ∀ X' ob', RowAt e esz b (n + (m + 1)) (xs ++ news) X' ob' → Good P B w0 γ0 nt Q ⟨restK g, ⟨putD (dstOf g) (eraseL E g.s.T) X', g.s.h.put b ob', g.s.c, []⟩⟩) : Good P B w0 γ0 nt Q g := by
  have hbc := blt_lt hbc
  have hGb : P.globals.size ≤ b := Nat.le_of_ble_eq_true hGb
  unfold hdApp at h
  split at h
  · cases h
  rename_i o ho
  split at h <;> first | (cases h; done) | skip
  rename_i k hop
  split at h <;> first | (cases h; done) | skip
  rename_i s x hce hargs
  split at h <;> first | (cases h; done) | skip
  rename_i aS aX hs hx
  injection h with h
  injection h with e1 h
  injection h with e2 e3
  subst e2 e3
  have hargs' : k.args = #[s, x] := by apply Array.ext'; simpa using hargs
  have hts : k.argTypes = #[t, t] := by apply Array.ext'; simpa using e1
  have hop' : o.op = .call { callee := .builtin .append, args := #[s, x], argTypes := #[t, t] } := by rw [hop, ← hce, ← hargs', ← hts]
  refine good_opF ho (fun γ a w K QQ hle hf hr hb hdst hdlt hK => ?_)
  have hok := hf.ok (P := P) (B := B) (G := 0) hr.glob o.op.operands.toList
  have hmem : o.op.operands.toList = [s, x] := by rw [hop']; simp [Op.operands, Call.operands]
  have hs' := hok s (by simp [hmem]) _ hs
  have hx' := hok x (by simp [hmem]) _ hx
  obtain ⟨hown, hoB⟩ := row_own (base := 0) hrow hob hr hs' (fun k _ => Nat.zero_le _)
  unfold srcOf at hsrc
  split at hsrc
  · cases hsrc
  rename_i m' l hsr
  split at hsrc <;> first | (cases hsrc; done) | skip
  rename_i vs' hcl
  injection hsrc with hsrc
  injection hsrc with e4 e5
  subst e4 e5
  obtain ⟨A, kk, news', ⟨hxe, hl, hln, hA⟩ | ⟨_, _, hm0, _⟩⟩ := aSource_ok hr hx' hsr
  case inr => omega
  have hnn := closeL_eq hcl hl
  subst hnn
  have hpos' : 0 < (m + 1) * esz := Nat.mul_pos (by omega) hpos
  obtain ⟨ad, rfl, hcell⟩ := hA hpos'
  obtain ⟨v', w', hrun, hown', hgr, _, hsame⟩ := run_append_own_at (P := P) w 0 t o.type e i z esz i.bytes hu hi hz hes rfl (hzs.trans hes) hpos (a.eval s) n xs hown ad (m + 1) kk news' hln hcell (fun u hu => List.all_eq_true.1 hone u hu) h63 hby (Nat.zero_le _)
  have hopr : (execOp a.eval o).run P w = .ok (.value v') w' := by
    unfold execOp
    simp only [hop', resolve, invoke, builtin, Sem.run_bind, Sem.run_pure, Result.andThen_ok, List.map_toArray, List.map_cons, List.map_nil, hxe, hrun]
  rcases hown'.2 with ⟨_, h0⟩ | ⟨gg, cap, cur, rfl, _, hheap, hnc, hcm, hcs, htake⟩
  · omega
  have hBg : ¬ B gg := by
    have hsame' : some gg = (a.eval s).ownBlock ∨ some gg = some w.heap.size := hsame
    rcases hsame' with h5 | h5
    · exact (hoB gg h5.symm).1
    · injection h5 with h5; rw [h5]; exact hr.new
  have hbd : ∀ b1 blk p, b1 ≠ b → g.s.h.get b1 = some blk → γ b1 = some p → w'.heap[p.1]? = w.heap[p.1]? ∧ p.1 ≠ gg := by
    intro b1 blk p hne h1 h2
    obtain ⟨q, hq, hbr⟩ := hr.live b1 _ h1
    obtain rfl : q = p := by rw [hq] at h2; injection h2
    have hno : ∀ j, (a.eval s).ownBlock = some j → q.1 ≠ j := by
      intro j hj e
      obtain ⟨_, hγ⟩ := hoB j hj
      have hobs : ∃ blk2, g.s.h.get b = some blk2 := by
        rcases hrow.2 with ⟨hX, _, _⟩ | ⟨_, hob2⟩
        · subst hX
          generalize hvs : a.eval s = vS at hs' hj
          cases hs'
          simp [Value.ownBlock] at hj
        · exact ⟨_, hob.trans hob2⟩
      obtain ⟨blk2, hblk2⟩ := hobs
      exact hne (hr.inj _ _ _ _ _ _ h1 hblk2 hq hγ e)
    refine ⟨hgr.block _ hbr.lt (fun e => hno _ e.symm rfl), fun e => ?_⟩
    have hsame' : some gg = (a.eval s).ownBlock ∨ some gg = some w.heap.size := hsame
    rcases hsame' with h5 | h5
    · exact hno gg h5.symm e
    · injection h5 with h5
      have := hbr.lt
      omega
  have hrow' : RowAt e esz b (n + (m + 1)) (xs ++ news') (.slg b 0 (n + (m + 1)) esz) (some (.row e (xs ++ news'))) := ⟨hown'.1, .inr ⟨rfl, rfl⟩⟩
  have hupd : ∀ {b1 : Nat} {p : Nat × Nat}, b1 ≠ b → γ b1 = some p → (γ.upd b (gg, cap * esz)) b1 = some p := fun hne h1 => Gm.upd_ne h1 hne
  refine wp_val hopr (hK (γ.upd b (gg, cap * esz)) _ w' (putD (dstOf g) (eraseL E g.s.T) (.slg b 0 (n + (m + 1)) esz)) (g.s.h.put b (some (.row e (xs ++ news')))) g.s.c (fun b1 p hp => ?_) ⟨?_, ?_, ?_⟩ ⟨fun b1 blk hb1 => ?_, fun b1 b2 blk1 blk2 p1 p2 h1 h2 g1 g2 e => ?_, fun b1 hb1 => ?_, fun x hx => ?_, fun k hk => Nat.lt_of_lt_of_le (hr.base k hk) hgr.size⟩
    (hb.grown hgr hr.base (fun k hk => (hoB k hk).1)) (by have := hg _ _ hrow'; rw [hds]; exact this))
  · refine hupd (fun e => ?_) (hle b1 p hp)
    subst e
    rw [hγb] at hp
    cases hp
  · have := hf.size
    cases o.dst with
    | none => exact this
    | some d => simp [Act.put, this]
  · intro t' av ht
    have hold : ∀ {t'' : Nat} {av' : AV}, (eraseL E g.s.T).get t'' = some av' → (∀ d, o.dst = some d → t'' ≠ d) → ∃ v, (a.put o.dst (.slice (some ⟨gg, 0, none⟩) (n + (m + 1)) cap)).tmps[t'']? = some v ∧ VR (γ.upd b (gg, cap * esz)) av' v := by
      intro t'' av' h1 hne
      obtain ⟨v, h2, h3⟩ := hf.tmps t'' av' (eraseL_get h1)
      refine ⟨v, ?_, h3.upd (trAll_get hE t'' av' h1)⟩
      cases hd : o.dst with
      | none => simpa [Act.put, hd] using h2
      | some d => simp only [Act.put, hd]; rw [Array.getElem?_setIfInBounds_ne (fun e => hne d hd e.symm)]; exact h2
    rw [hdst] at ht
    cases hd : o.dst with
    | none =>
      rw [hd] at ht hold
      exact hold ht (fun d e => by cases e)
    | some d =>
      rw [hd] at ht hold
      simp only [putD] at ht
      rw [Tr.get_put] at ht
      split at ht
      · rename_i e
        subst e
        injection ht with ht
        subst ht
        refine ⟨_, ?_, .slg (Gm.upd_same _ _ _) hnc hcm (fun _ => ⟨rfl, by simp⟩)⟩
        simp [Act.put, hf.size, hdlt _ hd]
      · rename_i hne
        exact hold ht (fun d' e => by injection e with e; subst e; exact hne)
  · have := hf.defs
    rw [hds] at this ⊢
    have h2 : (a.put o.dst (.slice (some ⟨gg, 0, none⟩) (n + (m + 1)) cap)).defers = a.defers := by cases o.dst <;> rfl
    rw [h2]
    revert this
    cases a.defers with
    | nil => exact fun _ => trivial
    | cons d l => exact fun h => h.elim
  · rw [Tr.get_put] at hb1
    split at hb1
    · rename_i e
      subst e
      injection hb1 with hb1
      subst hb1
      refine ⟨_, Gm.upd_same _ _ _, hBg, cur, hheap, hcs, ?_⟩
      rw [hown'.1]
      exact htake
    · rename_i hne
      obtain ⟨p, hp, hbr⟩ := hr.live b1 blk hb1
      refine ⟨p, hupd hne hp, (hbr.upd ?_).kept (hbd b1 blk p hne hb1 hp).1⟩
      exact trAll_get hH b1 blk (by rw [Tr.get_put, if_neg hne]; exact hb1)
  · rw [Tr.get_put] at h1 h2
    split at h1 <;> split at h2
    · rename_i e1 e2; exact e1.trans e2.symm
    · rename_i e1 e2
      subst e1
      rw [Gm.upd_same] at g1
      injection g1 with g1
      subst g1
      obtain ⟨q, hq, _⟩ := hr.live b2 _ h2
      have : q = p2 := by have := hupd e2 hq; rw [this] at g2; injection g2
      subst this
      exact absurd e.symm (hbd b2 blk2 q e2 h2 hq).2
    · rename_i e1 e2
      subst e2
      rw [Gm.upd_same] at g2
      injection g2 with g2
      subst g2
      obtain ⟨q, hq, _⟩ := hr.live b1 _ h1
      have : q = p1 := by have := hupd e1 hq; rw [this] at g1; injection g1
      subst this
      exact absurd e (hbd b1 blk1 q e1 h1 hq).2
    · rename_i e1 e2
      obtain ⟨q, hq, _⟩ := hr.live b1 _ h1
      obtain ⟨q', hq', _⟩ := hr.live b2 _ h2
      have k1 : q = p1 := by have := hupd e1 hq; rw [this] at g1; injection g1
      have k2 : q' = p2 := by have := hupd e2 hq'; rw [this] at g2; injection g2
      subst k1 k2
      exact hr.inj _ _ _ _ _ _ h1 h2 hq hq' e
  · unfold Gm.upd
    have hb1 : g.s.c ≤ b1 := hb1
    rw [if_neg (by omega)]
    exact hr.fresh b1 hb1
  · obtain ⟨N, hN⟩ := hr.glob x hx
    exact ⟨N, hupd (by omega) hN⟩
def infoOf (P : Program) (e : TypeId) : Option (Nat × Nat) := match P.info? e with
  | some i => match i.zero with
    | some z => match Nat.beq z.cells.size i.size with
      | true => some (i.size, i.bytes)
      | false => none
    | none => none
  | none => none
def elemOf (P : Program) (t : TypeId) : Option TypeId := match P.underlying t with
  | some (.slice e) => some e
  | _ => none
theorem good_app {t e : Nat} (y : AV) (esz bytes b n m : Nat) (xs : List Value) (X : AV) (ob : Option Blk) (news : List Value) (E : List Nat)
    (h : hdApp P nt g = some ([t, t], X, y)) (hu : elemOf P t = some e) (hi : infoOf P e = some (esz, bytes)) (hpos : Nat.blt 0 esz = true)
    (hrow : RowAt e esz b n xs X ob) (hob : g.s.h.get b = ob) (hsrc : srcOf g.s.h esz y = some (m + 1, news)) (hone : news.all (fun v => v.oneCell') = true) (h63 : n + (m + 1) ≤ maxLen) (hby : (n + (m + 1)) * bytes ≤ 140737488355328)
    (hγb : γ0 b = none) (hbc : Nat.blt b g.s.c = true) (hGb : Nat.ble P.globals.size b = true) (hds : g.s.ds = []) (hE : trAll (avNo b) (eraseL E g.s.T) = true) (hH : trAll (blkNo b) (g.s.h.put b none) = true)
    (hg : ∀ X' ob', RowAt e esz b (n + (m + 1)) (xs ++ news) X' ob' → Good P B w0 γ0 nt Q ⟨restK g, ⟨putD (dstOf g) (eraseL E g.s.T) X', g.s.h.put b ob', g.s.c, []⟩⟩) : Good P B w0 γ0 nt Q g := by
  unfold elemOf at hu
  split at hu <;> first | (cases hu; done) | skip
  rename_i e' hu'
  injection hu with hu
  subst hu
  unfold infoOf at hi
  split at hi <;> first | (cases hi; done) | skip
  rename_i i hi'
  split at hi <;> first | (cases hi; done) | skip
  rename_i z hz
  split at hi <;> first | (cases hi; done) | skip
  rename_i hzs
  injection hi with hi
  injection hi with e1 e2
  subst e1 e2
  exact good_append i.size b n xs X ob news E h hu' hi' hz (Nat.eq_of_beq_eq_true hzs) rfl (blt_lt hpos) hrow hob hsrc hone h63 hby hγb hbc hGb hds hE hH hg
theorem VR_tup2 {γ : Gm} {a b : AV} {v : Value} (h : VR γ (.tup [a, b]) v) : ∃ x y, v = .tuple #[x, y] ∧ VR γ a x ∧ VR γ b y := by
  cases h with
  | tup hl hh =>
    rename_i vs
    obtain ⟨l⟩ := vs
    match l, hl with
    | [x, y], _ => exact ⟨x, y, rfl, hh 0 a x rfl rfl, hh 1 b y rfl rfl⟩
/-- a call that makes memory: from here on all that is there and is not the run's own stays -/
theorem good_callM (cx : Cx P I B w0) {f : FuncId} (xs : List Value) {Pr : World → Value → World → Prop} (h : hdCall P nt g = some (f, xs.map norm)) (hbod : bodied P f = some true) (hx : closeLL (xs.map norm) = some xs)
    (hc : ∀ w, Keep B w0 w → Calls P f xs.toArray w fun e w' => ∃ r, e = .returned r ∧ Pr w r w' ∧ Below w.heap.size w w')
    (hg : ∀ w r w' B', Keep B w0 w → Pr w r w' → Below w.heap.size w w' → Keep B w0 w' → (∀ k, B k → B' k) → (∀ k, w.heap.size ≤ k → k < w'.heap.size → B' k) → (∀ k, B' k → k < w'.heap.size) → Good P B' w' γ0 nt Q (nx0 g (norm r))) : Good P B w0 γ0 nt Q g := by
  unfold hdCall at h
  split at h
  · cases h
  rename_i o ho
  refine good_opA ho (fun γ a w K QQ hle hf hr hb hdst hdlt hK => ?_)
  have hok := hf.ok (P := P) (B := B) (G := 0) hr.glob o.op.operands.toList
  obtain ⟨fn, code, hfn, hbd⟩ := bodied_true hbod
  obtain ⟨vs, hl, hrun⟩ := callOf_ok hok h
  obtain rfl := closeLL_eq hx hl
  unfold Oper.wp
  rw [hrun, enter_ok cx.hn hfn hbd]
  refine (hc w hb).mono fun e w' hR => ?_
  obtain ⟨r, rfl, h1, h2⟩ := hR
  have hk := hb.trans (Keep.of_below h2 hr.base)
  have hr' := hr.kept h2.size h2.block
  refine hK _ _ ?_
  -- what stays from here on
  have hlt : ∀ {b blk k N}, g.s.h.get b = some blk → γ b = some (k, N) → k < w.heap.size := by
    intro b blk k N hb1 hγ
    obtain ⟨p, hp, hbr⟩ := hr.live b blk hb1
    rw [hγ] at hp
    injection hp with hp
    subst hp
    exact hbr.lt
  have hg' := hg w r w' (fun k => B k ∨ (k < w'.heap.size ∧ ∀ b blk N, g.s.h.get b = some blk → γ b ≠ some (k, N))) hb h1 h2 hk (fun k => .inl)
    (fun k h3 h4 => .inr ⟨h4, fun b blk N hb1 hγ => by have := hlt hb1 hγ; omega⟩)
    (fun k hkk => hkk.elim (fun h3 => hr'.base k h3) (fun h3 => h3.1))
  have hB : ∀ b blk p, g.s.h.get b = some blk → γ b = some p → ¬ B p.1 → ¬ (B p.1 ∨ (p.1 < w'.heap.size ∧ ∀ b blk N, g.s.h.get b = some blk → γ b ≠ some (p.1, N))) := by
    intro b blk p hb1 hγ hnB hor
    rcases hor with h3 | h3
    · exact hnB h3
    · exact h3.2 b blk p.2 hb1 hγ
  have key1 : FR γ nt (nx0 g (norm r)).s.T (nx0 g (norm r)).s.ds (a.put o.dst r) := by
    have hf' := hf.put (dst := o.dst) (av := norm r) (v := r) (T' := putD o.dst g.s.T (norm r)) (Gm.le.refl γ) (norm_VR r) (by
      unfold tput putD
      cases hd : o.dst with
      | none => rfl
      | some d =>
        have : Nat.blt d nt = true := Nat.ble_eq_true_of_le (hdlt d hd)
        simp only [this])
    have e : (nx0 g (norm r)).s.T = putD o.dst g.s.T (norm r) ∧ (nx0 g (norm r)).s.ds = g.s.ds := by
      rw [← hdst]
      obtain ⟨k, s⟩ := g
      unfold nx0 nx dstOf putD
      unfold hdOp at ho
      simp only at ho
      split at ho <;> first | (cases ho; done) | skip
      exact ⟨rfl, rfl⟩
    rw [e.1, e.2]
    exact hf'
  have key2 : HR (fun k => B k ∨ (k < w'.heap.size ∧ ∀ b blk N, g.s.h.get b = some blk → γ b ≠ some (k, N))) P.globals.size γ (nx0 g (norm r)).s.h (nx0 g (norm r)).s.c w' := by
    have e : (nx0 g (norm r)).s.h = g.s.h ∧ (nx0 g (norm r)).s.c = g.s.c := by
      obtain ⟨k, s⟩ := g
      unfold nx0 nx
      unfold hdOp at ho
      simp only at ho
      split at ho <;> first | (cases ho; done) | skip
      exact ⟨rfl, rfl⟩
    rw [e.1, e.2]
    refine ⟨fun b blk hb1 => ?_, hr'.inj, hr'.fresh, hr'.glob, fun k hkk => hkk.elim (fun h3 => hr'.base k h3) (fun h3 => h3.1)⟩
    obtain ⟨p, hp, hbr⟩ := hr'.live b blk hb1
    refine ⟨p, hp, ?_⟩
    have hBp := hB b blk p hb1 hp
    cases blk with
    | cells ty own clean ex lim cs =>
      obtain ⟨h0, h5⟩ := hbr
      exact ⟨fun ho => hBp (h0 ho), h5⟩
    | map es clock =>
      obtain ⟨h0, h5⟩ := hbr
      exact ⟨hBp h0, h5⟩
    | row e xs =>
      obtain ⟨h0, h5⟩ := hbr
      exact ⟨hBp h0, h5⟩
  have hfin := hg'.out γ (a.put o.dst r) w' hle key1 key2 (Keep.refl _ _)
  have e : (nx0 g (norm r)).k = restK g := by
    obtain ⟨k, s⟩ := g
    unfold nx0 nx restK
    unfold hdOp at ho
    simp only at ho
    split at ho <;> first | (cases ho; done) | skip
    rfl
  rw [e] at hfin
  exact hfin
/-- a loop: what holds at its head holds at the next one, and something falls -/
theorem good_loopI {ι : Type} (μ : ι → Nat) (Inv : ι → Prop) (st : ι → St) (i0 : ι) (h0 : Inv i0) (hlp : isLp g = true) (hin : Good P B w0 γ0 nt Q ⟨g.k, st i0⟩ → Good P B w0 γ0 nt Q g)
    (step : ∀ i, Inv i → (∀ j, Inv j → μ j < μ i → Good P B w0 γ0 nt Q ⟨g.k, st j⟩) → Good P B w0 γ0 nt Q (rnd ⟨g.k, st i⟩)) : Good P B w0 γ0 nt Q g := by
  have hl : ∀ i, isLp ⟨g.k, st i⟩ = true := fun i => hlp
  have key : ∀ n i, μ i = n → Inv i → Good P B w0 γ0 nt Q ⟨g.k, st i⟩ := by
    intro n
    induction n using Nat.strongRecOn with
    | _ n ih =>
      intro i hi hI
      exact good_loop (hl i) (step i hI (fun j hj hlt => ih (μ j) (hi ▸ hlt) j rfl hj))
  exact hin (key _ i0 rfl h0)
/-- the same, where the blocks that stay grow -/
theorem good_loopB {ι : Type} (μ : ι → Nat) (Inv : ι → (Nat → Prop) → World → Prop) (st : ι → St) (i0 : ι) (h0 : Inv i0 B w0) (hlp : isLp g = true) (hin : Good P B w0 γ0 nt Q ⟨g.k, st i0⟩ → Good P B w0 γ0 nt Q g)
    (step : ∀ i B w0, Inv i B w0 → (∀ j B' w', Inv j B' w' → μ j < μ i → Good P B' w' γ0 nt Q ⟨g.k, st j⟩) → Good P B w0 γ0 nt Q (rnd ⟨g.k, st i⟩)) : Good P B w0 γ0 nt Q g := by
  have hl : ∀ i, isLp ⟨g.k, st i⟩ = true := fun i => hlp
  have key : ∀ n i B' w', μ i = n → Inv i B' w' → Good P B' w' γ0 nt Q ⟨g.k, st i⟩ := by
    intro n
    induction n using Nat.strongRecOn with
    | _ n ih =>
      intro i B' w' hi hI
      exact good_loop (hl i) (step i B' w' hI (fun j B2 w2 hj hlt => ih (μ j) (hi ▸ hlt) j B2 w2 rfl hj))
  exact hin (key _ i0 B w0 rfl h0)
end
end Go.Sy
end
end

section
/- The reckoner: regions whose order is open and whose operations only read, or call what hands a known value back. Any program; the conditions are in each theorem. -/
noncomputable section
namespace Go.Sy
open Go Go.RowKit
set_option linter.unusedVariables false
set_option linter.unusedSimpArgs false

mutual
def avFun : AV → Bool
  | .v _ => true
  | .ptr _ _ => true
  | .sl _ _ _ _ => true
  | .slg _ off len esz => match esz with
    | 0 => false
    | _ + 1 => match off with
      | 0 => true
      | _ + 1 => match len with
        | 0 => false
        | _ + 1 => true
  | .agg l => avFunL l
  | .tup l => avFunL l
  | .ifc _ a => avFun a
  | .fn _ l r => match avFunL l with
    | true => avFunL r
    | false => false
  | .map _ => true
def avFunL : List AV → Bool
  | [] => true
  | a :: l => match avFun a with
    | true => avFunL l
    | false => false
end
theorem avFunL_get : ∀ {l : List AV}, avFunL l = true → ∀ (i : Nat) (a : AV), l[i]? = some a → avFun a = true
  | [], _, i, a, hi => by simp at hi
  | b :: l, h, i, a, hi => by
    simp only [avFunL] at h
    split at h
    · rename_i hb
      cases i with
      | zero => simp at hi; subst hi; exact hb
      | succ i => exact avFunL_get h i a (by simpa using hi)
    · cases h
theorem rows_eq {as : List AV} {vs ws : Array Value} (h1 : as.length = vs.size) (h2 : as.length = ws.size) (h : ∀ (i : Nat) (a : AV) (x y : Value), as[i]? = some a → vs[i]? = some x → ws[i]? = some y → x = y) : vs = ws := by
  apply Array.ext (h1.symm.trans h2)
  intro i hi hj
  have ha : as[i]? = some (as[i]'(by omega)) := List.getElem?_eq_getElem (by omega)
  exact h i _ _ _ ha (Array.getElem?_eq_getElem hi) (Array.getElem?_eq_getElem hj)
theorem VR_fun {γ : Gm} {a : AV} {x : Value} (h : VR γ a x) : ∀ {y : Value}, avFun a = true → VR γ a y → x = y := by
  induction h with
  | v x => intro y _ hy; cases hy; rfl
  | ptr h => intro y _ hy; cases hy with | ptr h' => rw [h] at h'; injection h' with h'; injection h' with e1 e2; subst e1; rfl
  | sl h hl => intro y _ hy; cases hy with | sl h' hl' => rw [h] at h'; injection h' with h'; injection h' with e1 e2; subst e1; rfl
  | slg h hl hm ho =>
    intro y hf hy
    cases hy with
    | slg h' hl' hm' ho' =>
      rename_i b off len esz n N o cap n' N' o' cap'
      rw [h] at h'; injection h' with h'; injection h' with e1 e2; subst e1 e2
      cases esz with
      | zero => cases hf
      | succ z =>
        have hk : off = 0 ∨ 0 < len := by
          cases off with
          | zero => exact .inl rfl
          | succ _ => cases len with
            | zero => cases hf
            | succ _ => exact .inr (by omega)
        obtain ⟨rfl, e3⟩ := ho hk
        obtain ⟨rfl, e4⟩ := ho' hk
        have : cap * (z + 1) = cap' * (z + 1) := by omega
        have := Nat.eq_of_mul_eq_mul_right (Nat.succ_pos z) this
        subst this
        rfl
  | agg hl hh ih =>
    intro y hf hy
    cases hy with
    | agg hl' hh' => exact congrArg Value.agg (rows_eq hl hl' (fun i a x y h1 h2 h3 => ih i a x h1 h2 (avFunL_get hf i a h1) (hh' i a y h1 h3)))
  | tup hl hh ih =>
    intro y hf hy
    cases hy with
    | tup hl' hh' => exact congrArg Value.tuple (rows_eq hl hl' (fun i a x y h1 h2 h3 => ih i a x h1 h2 (avFunL_get hf i a h1) (hh' i a y h1 h3)))
  | ifc _ ih =>
    intro y hf hy
    cases hy with
    | ifc hy => rw [ih hf hy]
  | fn hl hh hl2 hh2 ih ih2 =>
    intro y hf hy
    simp only [avFun] at hf
    split at hf <;> first | (cases hf; done) | skip
    rename_i hf1
    cases hy with
    | fn hl' hh' hl2' hh2' =>
      rw [rows_eq hl hl' (fun i a x y h1 h2 h3 => ih i a x h1 h2 (avFunL_get hf1 i a h1) (hh' i a y h1 h3)), rows_eq hl2 hl2' (fun i a x y h1 h2 h3 => ih2 i a x h1 h2 (avFunL_get hf i a h1) (hh2' i a y h1 h3))]
  | map h => intro y _ hy; cases hy with | map h' => rw [h] at h'; injection h' with h'; injection h' with e1 e2; subst e1; rfl

/-- in the middle of such a region -/
structure QCfg where
  arr : Array Oper
  l : List Oper
  k : List It
  s : St
def drawAt (g : Cfg) : Option QCfg := match g.k with
  | .code (.region _ ops true) :: k => match Region.lexB .any ops with
    | true => some ⟨ops, ops.toList, k, g.s⟩
    | false => none
  | _ => none
def isDraw (g : Cfg) : Bool := match drawAt g with
  | some _ => true
  | none => false
def drawQ (g : Cfg) : QCfg := match drawAt g with
  | some q => q
  | none => ⟨#[], [], [], g.s⟩
structure GoodQ (P : Program) (B : Nat → Prop) (w0 : World) (γ0 : Gm) (nt : Nat) (Q : Exit → Act → World → Prop) (q : QCfg) : Prop where
  out : ∀ γ a w, Gm.le γ0 γ → FR γ nt q.s.T q.s.ds a → HR B P.globals.size γ q.s.h q.s.c w → Keep B w0 w →
    wpQuiet P q.arr (fun w' => Below w.heap.size w w') (fun a' => ∀ w', Below w.heap.size w w' → after P Q q.k .normal a' w') q.l a
/-- an operation that reads -/
def qOp1 (P : Program) (nt : Nat) (arr : Array Oper) (o : Oper) (l : List Oper) (k : List It) (s : St) : Option QCfg := match awanted arr s.T o with
  | none => none
  | some false => match tput nt s.T o.dst (.tup []) with
    | none => none
    | some T' => some ⟨arr, l, k, ⟨T', s.h, s.c, s.ds⟩⟩
  | some true => match evalPure P s.T o with
    | some av => match tput nt s.T o.dst av with
      | none => none
      | some T' => some ⟨arr, l, k, ⟨T', s.h, s.c, s.ds⟩⟩
    | none => match evalLoad P s.T s.h o with
      | some av => match avFun av with
        | true => match tput nt s.T o.dst av with
          | none => none
          | some T' => some ⟨arr, l, k, ⟨T', s.h, s.c, s.ds⟩⟩
        | false => none
      | none => none
def qstep (P : Program) (nt : Nat) (stops : List Nat) (q : QCfg) : Option QCfg := match q.l with
  | [] => none
  | o :: l => match stopAt o.dst stops with
    | true => none
    | false => qOp1 P nt q.arr o l q.k q.s
noncomputable def qrun (P : Program) (nt : Nat) (stops : List Nat) (n : Nat) : QCfg → QCfg :=
  Nat.rec (motive := fun _ => QCfg → QCfg) (fun q => q) (fun _ ih q => match qstep P nt stops q with
    | some q' => ih q'
    | none => q) n
def qHd (P : Program) (nt : Nat) (q : QCfg) : Option Oper := match q.l with
  | o :: _ => match awanted q.arr q.s.T o with
    | some true => match o.dst with
      | none => some o
      | some d => match Nat.blt d nt with
        | true => some o
        | false => none
    | _ => none
  | _ => none
def qNx (q : QCfg) (av : AV) : QCfg := match q.l with
  | o :: l => ⟨q.arr, l, q.k, ⟨putD o.dst q.s.T av, q.s.h, q.s.c, q.s.ds⟩⟩
  | [] => q
def qSem (P : Program) (nt : Nat) (q : QCfg) : Option (Sem Value) := match qHd P nt q with
  | none => none
  | some o => match aclosed P q.s.T o.op.operands.toList with
    | true => semV (arho P q.s.T) o.op
    | false => none
def qCall (P : Program) (nt : Nat) (q : QCfg) : Option (FuncId × List AV) := match qHd P nt q with
  | none => none
  | some o => callOf P q.s.T o
def qSet (q : QCfg) (t : Nat) (av : AV) : QCfg := ⟨q.arr, q.l, q.k, ⟨q.s.T.put t (some av), q.s.h, q.s.c, q.s.ds⟩⟩
def qDone (q : QCfg) : Bool := match q.l with
  | [] => true
  | _ => false
def qOut (q : QCfg) : Cfg := ⟨q.k, q.s⟩

section
variable {P : Program} {I : Aux} {B : Nat → Prop} {w0 : World} {γ0 : Gm} {nt : Nat} {Q : Exit → Act → World → Prop} {g : Cfg} {q q' : QCfg}
theorem good_draw' (hm : P.follows .mixedOrders = true) (q : QCfg) (h : drawAt g = some q) (hg : GoodQ P B w0 γ0 nt Q q) : Good P B w0 γ0 nt Q g := by
  obtain ⟨k, s⟩ := g
  unfold drawAt at h
  simp only at h
  split at h <;> first | (cases h; done) | skip
  rename_i id ops k'
  split at h <;> first | (cases h; done) | skip
  rename_i hB
  injection h with h
  subst h
  refine ⟨fun γ a w hle hf hr hb => ?_⟩
  simp only [after, Exit.then]
  exact wp_region_quiet (C := fun w' => Below w.heap.size w w') hm hB ⟨rfl, rfl, rfl, Nat.le_refl _, fun _ _ => rfl⟩ (hg.out γ a w hle hf hr hb)
theorem good_draw (hm : P.follows .mixedOrders = true) (h : isDraw g = true) (hg : GoodQ P B w0 γ0 nt Q (drawQ g)) : Good P B w0 γ0 nt Q g := by
  unfold isDraw at h
  unfold drawQ at hg
  split at h
  · rename_i q hq
    rw [hq] at hg
    exact good_draw' hm q hq hg
  · cases h
/-- one operation that is quiet -/
theorem q_of {o : Oper} {l : List Oper} {T' : Tr AV} {γ : Gm} {a : Act} {w : World} (hl : q.l = o :: l) (hw : awanted q.arr q.s.T o = some true) (hle : Gm.le γ0 γ) (hf : FR γ nt q.s.T q.s.ds a) (hr : HR B P.globals.size γ q.s.h q.s.c w) (hb : Keep B w0 w)
    (v : Value) (av : AV) (hv : VR γ av v) (hT : tput nt q.s.T o.dst av = some T') (hq : ∀ w', Below w.heap.size w w' → o.quietAt P a (fun w' => Below w.heap.size w w') w' v) (hg : GoodQ P B w0 γ0 nt Q ⟨q.arr, l, q.k, ⟨T', q.s.h, q.s.c, q.s.ds⟩⟩) :
    wpQuiet P q.arr (fun w' => Below w.heap.size w w') (fun a' => ∀ w', Below w.heap.size w w' → after P Q q.k .normal a' w') q.l a := by
  have hw' := awanted_ok (a := a) (fun j want p t av _ _ _ ht => hf.tmps t av ht) hw
  rw [hl]
  unfold wpQuiet
  rw [if_pos hw']
  exact ⟨v, hq, hg.out γ _ w hle (hf.put (Gm.le.refl _) hv hT) hr hb⟩
theorem value_quiet {o : Oper} {a : Act} {C : World → Prop} {w : World} {v : Value} (h : (execOp a.eval o).run P w = .ok (.value v) w) : o.quietAt P a C w v := by
  unfold Oper.quietAt
  rw [h]
  exact ⟨rfl, rfl⟩
theorem HR.at_ {γ : Gm} {h : Hp} {c G : Nat} {w w' : World} (hr : HR B G γ h c w) (hbl : Below w.heap.size w w') : HR B G γ h c w' := hr.kept hbl.size hbl.block
theorem Keep.at_ {γ : Gm} {h : Hp} {c G : Nat} {w w' : World} (hb : Keep B w0 w) (hr : HR B G γ h c w) (hbl : Below w.heap.size w w') : Keep B w0 w' := hb.trans (Keep.of_below hbl hr.base)
theorem qstep_ok {stops : List Nat} (h : qstep P nt stops q = some q') (hg : GoodQ P B w0 γ0 nt Q q') : GoodQ P B w0 γ0 nt Q q := by
  unfold qstep at h
  split at h
  · cases h
  rename_i o l hl
  split at h
  · cases h
  refine ⟨fun γ a w hle hf hr hb => ?_⟩
  have hok := hf.ok (P := P) (B := B) (G := 0) hr.glob o.op.operands.toList
  unfold qOp1 at h
  split at h
  · cases h
  · rename_i hw
    have hw' := awanted_ok (a := a) (fun j want p t av _ _ _ ht => hf.tmps t av ht) hw
    split at h
    · cases h
    rename_i T' hT'
    injection h with h
    subst h
    rw [hl]
    unfold wpQuiet
    rw [if_neg (by simp [hw'])]
    exact hg.out γ _ w hle (hf.put (Gm.le.refl _) (undef_VR γ) hT') hr hb
  · rename_i hw
    split at h
    · rename_i av hav
      split at h
      · cases h
      rename_i T' hT'
      injection h with h
      subst h
      obtain ⟨v, h1, h2⟩ := evalPure_ok hok hav
      exact q_of hl hw hle hf hr hb v av h1 hT' (fun w' _ => value_quiet (h2 w')) hg
    · split at h
      · rename_i av hav
        split at h <;> first | (cases h; done) | skip
        rename_i hfun
        split at h
        · cases h
        rename_i T' hT'
        injection h with h
        subst h
        obtain ⟨v, h1, h2⟩ := evalLoad_ok hr hok hav
        refine q_of hl hw hle hf hr hb v av h1 hT' (fun w' hbl => ?_) hg
        obtain ⟨v', h3, h4⟩ := evalLoad_ok (hr.at_ hbl) hok hav
        rw [VR_fun h1 hfun h3]
        exact value_quiet h4
      · cases h
theorem qrun_succ (stops : List Nat) (n : Nat) (q : QCfg) : qrun P nt stops (n + 1) q = (match qstep P nt stops q with
    | some q' => qrun P nt stops n q'
    | none => q) := rfl
theorem qrun_ok {stops : List Nat} : ∀ (n : Nat) (q : QCfg), GoodQ P B w0 γ0 nt Q (qrun P nt stops n q) → GoodQ P B w0 γ0 nt Q q
  | 0, q, h => h
  | n + 1, q, h => by
    rw [qrun_succ] at h
    split at h
    · rename_i q' hq'
      exact qstep_ok hq' (qrun_ok n q' h)
    · exact h
theorem q_run (stops : List Nat) (n : Nat) (h : GoodQ P B w0 γ0 nt Q (qrun P nt stops n q)) : GoodQ P B w0 γ0 nt Q q := qrun_ok n q h
theorem qHd_spec {o : Oper} (h : qHd P nt q = some o) : ∃ l, q.l = o :: l ∧ awanted q.arr q.s.T o = some true ∧ ∀ av, tput nt q.s.T o.dst av = some (putD o.dst q.s.T av) := by
  unfold qHd at h
  split at h <;> first | (cases h; done) | skip
  rename_i o' l hl
  split at h <;> first | (cases h; done) | skip
  rename_i hw
  split at h
  · rename_i hd
    injection h with h
    subst h
    exact ⟨l, hl, hw, fun av => by unfold tput putD; rw [hd]⟩
  · rename_i d hd
    split at h <;> first | (cases h; done) | skip
    rename_i hlt
    injection h with h
    subst h
    exact ⟨l, hl, hw, fun av => by unfold tput putD; rw [hd]; simp only [hlt]⟩
theorem qNx_eq {o : Oper} {l : List Oper} (hl : q.l = o :: l) (av : AV) : qNx q av = ⟨q.arr, l, q.k, ⟨putD o.dst q.s.T av, q.s.h, q.s.c, q.s.ds⟩⟩ := by
  unfold qNx
  rw [hl]
theorem q_val {S : Sem Value} (x : Value) (h : qSem P nt q = some S) (hrun : ∀ w, Keep B w0 w → S.run P w = .ok x w) (hg : GoodQ P B w0 γ0 nt Q (qNx q (norm x))) : GoodQ P B w0 γ0 nt Q q := by
  unfold qSem at h
  split at h
  · cases h
  rename_i o ho
  split at h <;> first | (cases h; done) | skip
  rename_i hcl
  obtain ⟨l, hl, hw, hput⟩ := qHd_spec ho
  rw [qNx_eq hl] at hg
  refine ⟨fun γ a w hle hf hr hb => ?_⟩
  have hok := hf.ok (P := P) (B := B) (G := 0) hr.glob o.op.operands.toList
  have hns : ∀ cs b, o.op = .select cs b → False := fun cs b e => by rw [e] at h; cases h
  have hcong := execOp_congr (ρ := arho P q.s.T) (ρ' := a.eval) o (fun cs b e => (hns cs b e).elim) (fun x hx => arho_ok hok hcl x (by simpa using hx))
  exact q_of hl hw hle hf hr hb x (norm x) (norm_VR x) (hput _) (fun w' hbl => value_quiet (by rw [← hcong]; exact semV_run h (hrun w' (hb.at_ hr hbl)))) hg
theorem q_callB (cx : Cx P I B w0) {f : FuncId} (xs : List Value) (r : Value) (h : qCall P nt q = some (f, xs.map norm)) (hbod : bodied P f = some true) (hx : closeLL (xs.map norm) = some xs)
    (hc : ∀ w, Keep B w0 w → Calls P f xs.toArray w fun e w' => e = .returned r ∧ Below w.heap.size w w') (hg : GoodQ P B w0 γ0 nt Q (qNx q (norm r))) : GoodQ P B w0 γ0 nt Q q := by
  unfold qCall at h
  split at h
  · cases h
  rename_i o ho
  obtain ⟨l, hl, hw, hput⟩ := qHd_spec ho
  rw [qNx_eq hl] at hg
  refine ⟨fun γ a w hle hf hr hb => ?_⟩
  have hok := hf.ok (P := P) (B := B) (G := 0) hr.glob o.op.operands.toList
  obtain ⟨fn, code, hfn, hbd⟩ := bodied_true hbod
  obtain ⟨vs, hlr, hrun⟩ := callOf_ok hok h
  obtain rfl := closeLL_eq hx hlr
  refine q_of hl hw hle hf hr hb r (norm r) (norm_VR r) (hput _) (fun w' hbl => ?_) hg
  unfold Oper.quietAt
  rw [hrun, enter_ok cx.hn hfn hbd]
  refine ⟨rfl, (hc w' (hb.at_ hr hbl)).mono fun e w'' hR => ⟨hR.1, hbl.trans (hR.2.mono hbl.size)⟩⟩
theorem q_callP (cx : Cx P I B w0) {f : FuncId} (xs : List Value) (r : Value) (h : qCall P nt q = some (f, xs.map norm)) (hbod : bodied P f = some true) (hx : closeLL (xs.map norm) = some xs)
    (hc : ∀ w, Keep B w0 w → Calls P f xs.toArray w fun e w' => e = .returned r ∧ w = w') (hg : GoodQ P B w0 γ0 nt Q (qNx q (norm r))) : GoodQ P B w0 γ0 nt Q q :=
  q_callB cx xs r h hbod hx (fun w hk => (hc w hk).mono fun e w' hR => ⟨hR.1, by rw [← hR.2]; exact Below.refl _ _⟩) hg
theorem q_set (t : Nat) {x : Value} (y : Value) (h : q.s.T.get t = some (.v x)) (e : x = y) (hg : GoodQ P B w0 γ0 nt Q (qSet q t (norm y))) : GoodQ P B w0 γ0 nt Q q := by
  subst e
  refine ⟨fun γ a w hle hf hr hb => hg.out γ a w hle ⟨hf.size, fun t' av ht => ?_, hf.defs⟩ hr hb⟩
  simp only [qSet] at ht
  rw [Tr.get_put] at ht
  split at ht
  · rename_i e
    subst e
    injection ht with ht
    subst ht
    obtain ⟨v, h1, h2⟩ := hf.tmps _ _ h
    cases h2
    exact ⟨_, h1, norm_VR _⟩
  · exact hf.tmps t' av ht
theorem q_end (h : qDone q = true) (hg : Good P B w0 γ0 nt Q (qOut q)) : GoodQ P B w0 γ0 nt Q q := by
  unfold qDone at h
  split at h <;> first | (cases h; done) | skip
  rename_i hl
  refine ⟨fun γ a w hle hf hr hb => ?_⟩
  rw [hl]
  exact fun w' hbl => hg.out γ a w' hle hf (hr.at_ hbl) (hb.at_ hr hbl)
end
end Go.Sy
end
end

section
/- The reckoner: slices that lie in blocks that stay. Any program; the conditions are in each theorem. -/
noncomputable section
namespace Go.Sy
open Go Go.RowKit
set_option linter.unusedVariables false
set_option linter.unusedSimpArgs false

def gB (a : Option Addr) : Nat := match a with
  | some x => x.block
  | none => 0
def oB (a : Option Addr) : Nat := match a with
  | some x => x.off
  | none => 0
/-- the slice at 'a' of n elements of sz cells has these cells, in blocks of F -/
structure SlAt (F : Nat → Prop) (w : World) (a : Option Addr) (n sz : Nat) (xs : List Value) : Prop where
  len : xs.length = n * sz
  place : n = 0 ∨ (a = some ⟨gB a, oB a, none⟩ ∧ F (gB a) ∧ w.rangeAt (gB a) (oB a) xs)
theorem rangeAt_keep {F : Nat → Prop} {w w' : World} (hk : Keep F w w') {b o : Nat} {xs : List Value} (hF : F b) (h : w.rangeAt b o xs) : w'.rangeAt b o xs := fun j v hv => by
  rw [World.cell?_of_block (w := w) (hk.block b hF)]
  exact h j v hv
theorem SlAt.keep {F : Nat → Prop} {w w' : World} {a : Option Addr} {n sz : Nat} {xs : List Value} (h : SlAt F w a n sz xs) (hk : Keep F w w') : SlAt F w' a n sz xs :=
  ⟨h.len, h.place.imp id fun ⟨h1, h2, h3⟩ => ⟨h1, h2, rangeAt_keep hk h2 h3⟩⟩
theorem SlAt.mono {F F' : Nat → Prop} {w : World} {a : Option Addr} {n sz : Nat} {xs : List Value} (h : SlAt F w a n sz xs) (hF : ∀ k, F k → F' k) : SlAt F' w a n sz xs :=
  ⟨h.len, h.place.imp id fun ⟨h1, h2, h3⟩ => ⟨h1, hF _ h2, h3⟩⟩
theorem SlAt.of_own {F : Nat → Prop} {w : World} {base e sz n : Nat} {x : Value} {xs : List Value} (h : w.ownsRow base e sz x n xs) (hF : ∀ k, base ≤ k → k < w.heap.size → F k) : ∃ a cap, x = .slice a n cap ∧ n ≤ cap ∧ SlAt F w a n sz xs := by
  obtain ⟨hl, ⟨rfl, rfl⟩ | ⟨g, cap, cur, rfl, hb, hh, hnc, hcm, hcs, ht⟩⟩ := h
  · exact ⟨none, 0, rfl, Nat.le_refl _, ⟨hl, .inl rfl⟩⟩
  · refine ⟨some ⟨g, 0, none⟩, cap, rfl, hnc, ⟨hl, .inr ⟨rfl, hF g hb (Array.getElem?_eq_some_iff.1 hh).1, fun j v hv => ?_⟩⟩⟩
    rw [← ht] at hv
    have hj := (List.getElem?_eq_some_iff.1 hv).1
    rw [List.length_take] at hj
    rw [List.getElem?_take, if_pos (by omega)] at hv
    simp only [gB, oB, Nat.zero_add]
    simp [World.cell?, hh]
    simpa using hv
section
variable {P : Program} {F : Nat → Prop} {w : World} {a : Option Addr} {n sz cap : Nat} {xs : List Value}
theorem idx_sl {t e : TypeId} (h : SlAt F w a n sz xs) (hu : elemOf P t = some e) (hi : szB P e = some sz) {i : Nat} (hin : i < n) (W : World) :
    (Instr.indexAt t (.slice a n cap) (.int .i64 (i : Int))).run P W = .ok (.pointer (some ⟨gB a, oB a + i * sz, none⟩)) W := by
  rcases h.place with h0 | ⟨ha, _, _⟩
  · omega
  unfold elemOf at hu
  split at hu <;> first | (cases hu; done) | skip
  rename_i e' hu'
  injection hu with hu
  subst hu
  rw [ha]
  simp [Instr.indexAt, asIntOf, run_underlying hu', szB_ok hi, Addr.add_mid, hin, gB, oB]
theorem load_cell {ty : TypeId} {b o j : Nat} {v : Value} (hb : aggB P ty = some false) (h : w.cell? ⟨b, o + j, none⟩ = some v) : (Instr.loadAt ty (.pointer (some ⟨b, o + j, none⟩))).run P w = .ok v w := by
  simp [Instr.loadAt, Instr.sureAddr, loadVar, aggB_ok hb, h]
theorem sl_cell (h : SlAt F w a n sz xs) {j : Nat} {v : Value} (hv : xs[j]? = some v) : w.cell? ⟨gB a, oB a + j, none⟩ = some v := by
  rcases h.place with h0 | ⟨_, _, h3⟩
  · have := h.len
    rw [h0, Nat.zero_mul] at this
    rw [List.eq_nil_of_length_eq_zero this] at hv
    simp at hv
  · exact h3 j v hv
/-- one cell of an element -/
theorem load_sl {ty : TypeId} (h : SlAt F w a n sz xs) (hb : aggB P ty = some false) (i o : Nat) {v : Value} (hv : xs[i * sz + o]? = some v) {W : World} (hk : Keep F w W) :
    (Instr.loadAt ty (.pointer (some ⟨gB a, oB a + i * sz + o, none⟩))).run P W = .ok v W := by
  rw [Nat.add_assoc]
  exact load_cell hb (sl_cell (h.keep hk) hv)
/-- a struct within an element -/
theorem load_slA {ty : TypeId} {m : Nat} (h : SlAt F w a n sz xs) (hb : aggB P ty = some true) (hs : szB P ty = some m) (i o : Nat) {cs : List Value} (hm : cs.length = m) (hc : ∀ j v, cs[j]? = some v → xs[i * sz + o + j]? = some v) {W : World} (hk : Keep F w W) :
    (Instr.loadAt ty (.pointer (some ⟨gB a, oB a + i * sz + o, none⟩))).run P W = .ok (.agg cs.toArray) W := by
  have hl : (loadCells ⟨gB a, oB a + i * sz + o, none⟩ cs.length).run P W = .ok cs.toArray W :=
    run_loadCells_list (P := P) W _ cs (fun j v hv => by
      rw [Addr.add_mid, Nat.add_assoc, Nat.add_assoc, ← Nat.add_assoc (i * sz)]
      exact sl_cell (h.keep hk) (hc j v hv))
  simp [Instr.loadAt, Instr.sureAddr, loadVar, aggB_ok hb, szB_ok hs, ← hm, hl]
end
end Go.Sy
end
end

section
/- The reckoner: regions whose order is open, along a plan: what reads is taken first, what turns memory when it comes up, the last one last. Any program; the conditions are in each theorem. -/
noncomputable section
namespace Go.Sy
open Go Go.RowKit Go.As
set_option linter.unusedVariables false
set_option linter.unusedSimpArgs false

/-! an operation for which all others are ahead -/
section
variable {P : Program} {ops : Array Oper} {Q : Exit → Act → World → Prop} {md : Region.Mode}
def lastPost (P : Program) (ops : Array Oper) (Q : Exit → Act → World → Prop) (z : Nat) : Exit → Act → World → Prop
  | .normal, a, w => wpOp P ops Q z (fun a w => Q .normal a w) a w
  | .exit i, a, w => Q (.exit i) a w
  | .goto i, a, w => Q (.goto i) a w
  | .ret, a, w => Q .ret a w
  | .panic c, a, w => Q (.panic c) a w
  | .outgrown, a, w => Q .outgrown a w
structure LastAt (md : Region.Mode) (ops : Array Oper) (z : Nat) : Prop where
  lt : z < ops.size
  waits : ∀ oz, ops[z]? = some oz → ∀ j, j ≠ z → j < ops.size → ∃ e ∈ oz.after, Region.binds md e = true ∧ e.on = j
  free : ∀ (j : Nat) (oj : Oper), ops[j]? = some oj → ∀ e ∈ oj.after, Region.binds md e = true → e.on < j ∧ e.on ≠ z
theorem ready_some {z : Nat} (hz : LastAt md ops z) {l : Array Bool} (hl : l.size = ops.size) : ∀ (j : Nat), j < ops.size → l.getD j true = false → Region.ready md ops l ≠ [] := by
  intro j
  induction j using Nat.strongRecOn with
  | _ j ih =>
    intro hj hun hr
    obtain ⟨oj, hoj⟩ : ∃ oj, ops[j]? = some oj := ⟨ops[j], Array.getElem?_eq_getElem hj⟩
    by_cases hall : ∀ e ∈ oj.after, Region.binds md e = true → l.getD e.on false = true
    · have : j ∈ Region.ready md ops l := mem_ready.2 ⟨hun, oj, hoj, hall⟩
      rw [hr] at this
      cases this
    · simp only [Classical.not_forall] at hall
      obtain ⟨e, he, hb, hne⟩ := hall
      have hlt := (hz.free j oj hoj e he hb).1
      refine ih e.on hlt (by omega) ?_ hr
      have hlt2 : e.on < l.size := by omega
      have h1 : l.getD e.on false = l[e.on] := by simp [hlt2]
      have h2 : l.getD e.on true = l[e.on] := by simp [hlt2]
      rw [h2]
      rw [h1] at hne
      simpa using hne
theorem wpAny_last {z : Nat} (hz : LastAt md ops z) : ∀ (fuel : Nat) (l : Array Bool) (a : Act) (w : World), l.size = ops.size → l.getD z true = false →
    wpAny P md ops (lastPost P ops Q z) fuel (l.setIfInBounds z true) a w → wpAny P md ops Q (fuel + 1) l a w := by
  have hset : ∀ (l : Array Bool) (i j : Nat), (l.setIfInBounds i true).setIfInBounds j true = (l.setIfInBounds j true).setIfInBounds i true := by
    intro l i j
    by_cases e : i = j
    · subst e; rfl
    · exact Array.setIfInBounds_comm true true e
  have hzr : ∀ {l : Array Bool}, z ∈ Region.ready md ops l → Region.ready md ops (l.setIfInBounds z true) = [] := by
    intro l h
    obtain ⟨h0, oz, hoz, hall⟩ := mem_ready.1 h
    apply List.eq_nil_iff_forall_not_mem.2
    intro j hj
    obtain ⟨h1, oj, hoj, _⟩ := mem_ready.1 hj
    have hjlt : j < ops.size := (Array.getElem?_eq_some_iff.1 hoj).1
    by_cases hjz : j = z
    · subst hjz
      rcases Nat.lt_or_ge j l.size with h2 | h2
      · simp [h2] at h1
      · simp [Array.getElem?_eq_none h2] at h0
    · obtain ⟨e, he, hb, heq⟩ := hz.waits oz hoz j hjz hjlt
      have h3 := hall e he hb
      rw [heq] at h3
      rw [getD_set_ne true (fun e => hjz e.symm)] at h1
      rcases Nat.lt_or_ge j l.size with h2 | h2
      · simp [h2] at h1 h3
        rw [h3] at h1
        cases h1
      · simp [Array.getElem?_eq_none h2] at h3
  intro fuel
  induction fuel with
  | zero =>
    intro l a w hl hun H
    refine ⟨fun hr => absurd hr (ready_some hz hl z hz.lt hun), fun i hi => ?_⟩
    by_cases hiz : i = z
    · subst hiz
      exact wpOp_mono (fun a' w' h => ⟨hzr hi, h⟩) H.2
    · have := ready_mono (i := z) hi hiz
      rw [H.1] at this
      cases this
  | succ fuel ih =>
    intro l a w hl hun H
    refine ⟨fun hr => absurd hr (ready_some hz hl z hz.lt hun), fun i hi => ?_⟩
    by_cases hiz : i = z
    · subst hiz
      have hr := hzr hi
      have := H.1 hr
      exact wpOp_mono (fun a' w' h => ⟨fun _ => h, fun j hj => by rw [hr] at hj; cases hj⟩) this
    · have h1 := H.2 i (ready_mono (i := z) hi hiz)
      have h2 : wpOp P ops Q i (wpAny P md ops (lastPost P ops Q z) fuel ((l.setIfInBounds z true).setIfInBounds i true)) a w := h1
      refine wpOp_mono (fun a' w' h => ?_) h2
      rw [hset] at h
      exact ih _ a' w' (by simpa using hl) (by rw [getD_set_ne true (fun e => hiz e)]; exact hun) h
end

def lastChk (ops : Array Oper) (z : Nat) : Bool := match ops[z]? with
  | none => false
  | some oz => ((List.range ops.size).all fun j => Nat.beq j z || oz.after.toList.any fun e => Region.binds .any e && Nat.beq e.on j) &&
      (ops.toList.zipIdx.all fun x => x.1.after.toList.all fun e => !Region.binds .any e || (Nat.blt e.on x.2 && !Nat.beq e.on z))
theorem lastChk_ok {ops : Array Oper} {z : Nat} (h : lastChk ops z = true) : LastAt .any ops z := by
  unfold lastChk at h
  split at h
  · cases h
  rename_i oz hoz
  rw [Bool.and_eq_true] at h
  obtain ⟨h1, h2⟩ := h
  refine ⟨(Array.getElem?_eq_some_iff.1 hoz).1, fun oz' hoz' j hjz hj => ?_, fun j oj hoj e he hb => ?_⟩
  · rw [hoz] at hoz'
    injection hoz' with hoz'
    subst hoz'
    have := List.all_eq_true.1 h1 j (List.mem_range.2 hj)
    rw [Bool.or_eq_true] at this
    rcases this with h3 | h3
    · exact absurd (Nat.eq_of_beq_eq_true h3) hjz
    · obtain ⟨e, he, h4⟩ := List.any_eq_true.1 h3
      rw [Bool.and_eq_true] at h4
      exact ⟨e, by simpa using he, h4.1, Nat.eq_of_beq_eq_true h4.2⟩
  · have hm : (oj, j) ∈ ops.toList.zipIdx := by
      rw [List.mem_zipIdx_iff_getElem?]
      simpa using hoj
    have := List.all_eq_true.1 (List.all_eq_true.1 h2 _ hm) e (by simpa using he)
    simp only [hb, Bool.not_true, Bool.false_or, Bool.and_eq_true] at this
    exact ⟨blt_lt this.1, beq_no this.2⟩
def toPlan (p : Go.As.Plan) (z : Nat) (S : World → Prop) (g : Cfg) : Cfg := match g.k with
  | .code (.region _ ops true) :: k => match ops[z]? with
    | some oz => ⟨.pl ops p S :: .ops ops [oz] :: .np :: k, g.s⟩
    | none => g
  | _ => g
def planOk (p : Go.As.Plan) (z : Nat) (g : Cfg) : Bool := match g.k with
  | .code (.region _ ops true) :: _ => Region.noSelect ops && lastChk ops z && p.fits .any ops true ((Array.replicate ops.size false).setIfInBounds z true) && Nat.blt p.depth ops.size
  | _ => false
def plS (g : Cfg) : World → Prop := match g.k with
  | .pl _ _ S :: _ => S
  | _ => fun _ => True
def isRun (g : Cfg) : Bool := match g.k with
  | .pl arr (.run i _) _ :: _ => match arr[i]? with
    | some _ => true
    | none => false
  | _ => false
def pRun (g : Cfg) : Cfg := match g.k with
  | .pl arr (.run i p) S :: k => match arr[i]? with
    | some o => ⟨.ops arr [o] :: .pl arr p S :: k, g.s⟩
    | none => g
  | _ => g
def isDone (g : Cfg) : Bool := match g.k with
  | .pl _ .done _ :: _ => true
  | _ => false
def pDone (g : Cfg) : Cfg := match g.k with
  | .pl _ .done _ :: k => ⟨k, g.s⟩
  | _ => g
def isAlt (g : Cfg) : Bool := match g.k with
  | .pl _ (.alt _ _) _ :: _ => true
  | _ => false
def pAlt (b : Bool) (g : Cfg) : Cfg := match g.k with
  | .pl arr (.alt p q) S :: k => ⟨.pl arr (match b with | true => p | false => q) S :: k, g.s⟩
  | _ => g
/-- what may be taken first -/
def pTake (P : Program) (nt : Nat) (L : List Nat) (g : Cfg) : Option Cfg := match g.k with
  | .pl arr (.take i p) S :: k => match arr[i]? with
    | none => none
    | some o => match awanted arr g.s.T o with
      | none => none
      | some false => match tput nt g.s.T o.dst (.tup []) with
        | none => none
        | some T' => some ⟨.pl arr p S :: k, ⟨T', g.s.h, g.s.c, g.s.ds⟩⟩
      | some true => match evalPure P g.s.T o with
        | some av => match tput nt g.s.T o.dst av with
          | none => none
          | some T' => some ⟨.pl arr p S :: k, ⟨T', g.s.h, g.s.c, g.s.ds⟩⟩
        | none => match o.op with
          | .load t x => match aev P g.s.T x with
            | some (.ptr b off) => match hasNat b L with
              | true => match aLoad P t (.ptr b off) g.s.h with
                | some av => match avFun av with
                  | true => match tput nt g.s.T o.dst av with
                    | none => none
                    | some T' => some ⟨.pl arr p S :: k, ⟨T', g.s.h, g.s.c, g.s.ds⟩⟩
                  | false => none
                | none => none
              | false => none
            | _ => none
          | _ => none
  | _ => none
noncomputable def pTakes (P : Program) (nt : Nat) (L : List Nat) (n : Nat) : Cfg → Cfg :=
  Nat.rec (motive := fun _ => Cfg → Cfg) (fun g => g) (fun _ ih g => match pTake P nt L g with
    | some g' => ih g'
    | none => g) n
/-- the operation that is to be taken first -/
def tkHd (P : Program) (nt : Nat) (g : Cfg) : Option Oper := match g.k with
  | .pl arr (.take i _) _ :: _ => match arr[i]? with
    | none => none
    | some o => match awanted arr g.s.T o with
      | some true => match o.dst with
        | none => some o
        | some d => match Nat.blt d nt with
          | true => some o
          | false => none
      | _ => none
  | _ => none
def tkSem (P : Program) (nt : Nat) (g : Cfg) : Option (Sem Value) := match tkHd P nt g with
  | none => none
  | some o => match aclosed P g.s.T o.op.operands.toList with
    | true => semV (arho P g.s.T) o.op
    | false => none
def tkNx (g : Cfg) (av : AV) : Cfg := match g.k with
  | .pl arr (.take i p) S :: k => match arr[i]? with
    | some o => ⟨.pl arr p S :: k, ⟨putD o.dst g.s.T av, g.s.h, g.s.c, g.s.ds⟩⟩
    | none => g
  | _ => g

/-- a load that may be taken first, of whatever stands there -/
def tkLd (P : Program) (nt : Nat) (L : List Nat) (g : Cfg) : Option AV := match tkHd P nt g with
  | none => none
  | some o => match o.op with
    | .load t x => match aev P g.s.T x with
      | some (.ptr b off) => match hasNat b L with
        | true => aLoad P t (.ptr b off) g.s.h
        | false => none
      | _ => none
    | _ => none

section
variable {P : Program} {I : Aux} {B Bs : Nat → Prop} {w0 ws : World} {γ0 : Gm} {nt : Nat} {Q : Exit → Act → World → Prop} {g g' : Cfg}
theorem good_plan (hm : P.follows .mixedOrders = true) (p : Go.As.Plan) (z : Nat) (h : planOk p z g = true) (hg : Good P B w0 γ0 nt Q (toPlan p z (Keep B w0) g)) : Good P B w0 γ0 nt Q g := by
  obtain ⟨k, s⟩ := g
  unfold planOk at h
  simp only at h
  split at h <;> first | (cases h; done) | skip
  rename_i id ops k'
  simp only [Bool.and_eq_true] at h
  obtain ⟨⟨⟨h1, h2⟩, h3⟩, h4⟩ := h
  have hz := lastChk_ok h2
  have h4 := blt_lt h4
  obtain ⟨oz, hoz⟩ : ∃ oz, ops[z]? = some oz := ⟨ops[z]'hz.lt, Array.getElem?_eq_getElem hz.lt⟩
  unfold toPlan at hg
  simp only [hoz] at hg
  refine ⟨fun γ a w hle hf hr hb => ?_⟩
  simp only [after, Exit.then]
  refine Code.wp_mono NoPan.imp (wp_region_any hm ?_)
  obtain ⟨n, hn⟩ : ∃ n, ops.size = n + 1 := ⟨ops.size - 1, by have := hz.lt; omega⟩
  rw [hn]
  refine wpAny_last hz n _ a _ (by simp [hn]) (by have := hz.lt; simp [← hn, this]) ?_
  refine wpAny_of_held _ _ _ _ ((wpPlanH_sound (S := Keep B w0) h1 (fun c a w hc => hc) p n _ a _ (by omega)).1 (by rw [hn] at h3; exact h3) ?_)
  have hh := hg.out γ a w.drew hle hf (hr.kept (Nat.le_refl _) (fun _ _ => rfl)) hb.drew
  simp only [after, plAfter] at hh
  have e : NoPan (Exit.then (wpL P ops (NoPan (after P Q k')) [oz]) (NoPan (after P Q k'))) = lastPost P ops (NoPan (after P Q k')) z := by
    funext e a w
    cases e <;> first | rfl | skip
    show wpL P ops (NoPan (after P Q k')) [oz] a w = wpOp P ops (NoPan (after P Q k')) z (fun a w => NoPan (after P Q k') .normal a w) a w
    unfold wpOp wpL
    simp only [hoz]
    rfl
  rw [e] at hh
  exact hh.2
theorem p_run (S : World → Prop) (hSe : plS g = S) (hS : ∀ w, Keep B w0 w → S w) (h : isRun g = true) (hg : Good P B w0 γ0 nt Q (pRun g)) : Good P B w0 γ0 nt Q g := by
  obtain ⟨k, s⟩ := g
  unfold isRun at h
  simp only at h
  split at h <;> first | (cases h; done) | skip
  rename_i arr i p S' k'
  split at h <;> first | (cases h; done) | skip
  rename_i o ho
  simp only [plS] at hSe
  subst hSe
  unfold pRun at hg
  simp only [ho] at hg
  refine ⟨fun γ a w hle hf hr hb => ⟨hS w hb, ?_⟩⟩
  have hh := hg.out γ a w hle hf hr hb
  show wpOp P arr (NoPan (after P Q k')) i (fun a' w' => S' w' ∧ wpPlanH P arr (NoPan (after P Q k')) S' p a' w') a w
  unfold wpOp
  simp only [ho]
  exact hh
theorem p_done (h : isDone g = true) (hg : Good P B w0 γ0 nt Q (pDone g)) (S : World → Prop) (hSe : plS g = S) (hS : ∀ w, Keep B w0 w → S w) : Good P B w0 γ0 nt Q g := by
  obtain ⟨k, s⟩ := g
  unfold isDone at h
  simp only at h
  split at h <;> first | (cases h; done) | skip
  rename_i arr S' k'
  simp only [plS] at hSe
  subst hSe
  exact ⟨fun γ a w hle hf hr hb => ⟨hS w hb, hg.out γ a w hle hf hr hb⟩⟩
theorem p_alt (h : isAlt g = true) (h1 : Good P B w0 γ0 nt Q (pAlt true g)) (h2 : Good P B w0 γ0 nt Q (pAlt false g)) : Good P B w0 γ0 nt Q g := by
  obtain ⟨k, s⟩ := g
  unfold isAlt at h
  simp only at h
  split at h <;> first | (cases h; done) | skip
  rename_i arr p q S' k'
  exact ⟨fun γ a w hle hf hr hb =>
    have a1 := h1.out γ a w hle hf hr hb
    have a2 := h2.out γ a w hle hf hr hb
    ⟨a1.1, a1.2, a2.2⟩⟩
theorem p_take1 {L : List Nat} (hS : ∀ w, Keep B w0 w → Keep Bs ws w) (hSe : plS g = Keep Bs ws) (hL : ∀ b, hasNat b L = true → ∃ p, γ0 b = some p ∧ Bs p.1) (h : pTake P nt L g = some g') (hg : Good P B w0 γ0 nt Q g') : Good P B w0 γ0 nt Q g := by
  obtain ⟨k, s⟩ := g
  unfold pTake at h
  simp only at h
  split at h <;> first | (cases h; done) | skip
  rename_i arr i p S k'
  simp only [plS] at hSe
  subst hSe
  split at h
  · cases h
  rename_i o ho
  refine ⟨fun γ a w hle hf hr hb => ⟨hS w hb, ?_⟩⟩
  have hok := hf.ok (P := P) (B := B) (G := 0) hr.glob o.op.operands.toList
  show _ ∧ ∃ o v, arr[i]? = some o ∧ YieldsIf P arr (Keep Bs ws) o v a ∧ wpPlanH P arr (NoPan (after P Q k')) (Keep Bs ws) p (a.put o.dst v) w
  refine ⟨hS w hb, o, ?_⟩
  split at h
  · cases h
  · rename_i hw
    have hw' := awanted_ok (a := a) (fun j want p t av _ _ _ ht => hf.tmps t av ht) hw
    split at h
    · cases h
    rename_i T' hT'
    injection h with h
    subst h
    exact ⟨undef, ho, .inr ⟨hw', rfl⟩, (hg.out γ _ w hle (hf.put (Gm.le.refl _) (undef_VR γ) hT') hr hb).2⟩
  · rename_i hw
    have hw' := awanted_ok (a := a) (fun j want p t av _ _ _ ht => hf.tmps t av ht) hw
    split at h
    · rename_i av hav
      split at h
      · cases h
      rename_i T' hT'
      injection h with h
      subst h
      obtain ⟨v, h1, h2⟩ := evalPure_ok hok hav
      exact ⟨v, ho, .inl ⟨hw', fun w' _ => h2 w'⟩, (hg.out γ _ w hle (hf.put (Gm.le.refl _) h1 hT') hr hb).2⟩
    · split at h <;> first | (cases h; done) | skip
      rename_i t x hop
      split at h <;> first | (cases h; done) | skip
      rename_i b off hx
      split at h <;> first | (cases h; done) | skip
      rename_i hbL
      split at h <;> first | (cases h; done) | skip
      rename_i av hav
      split at h <;> first | (cases h; done) | skip
      rename_i hfun
      split at h
      · cases h
      rename_i T' hT'
      injection h with h
      subst h
      have hxv := hok x (by simp [hop, Op.operands]) _ hx
      obtain ⟨v, h1, h2⟩ := aLoad_ok hr hxv hav
      have hrun : ∀ w' v', (Instr.loadAt t (a.eval x)).run P w' = .ok v' w' → (execOp a.eval o).run P w' = .ok (.value v') w' := fun w' v' hh => by
        unfold execOp
        rw [hop]
        exact run_v hh
      refine ⟨v, ho, .inl ⟨hw', fun w' hk' => ?_⟩, (hg.out γ _ w hle (hf.put (Gm.le.refl _) h1 hT') hr hb).2⟩
      -- the block is the same in every world that the fact allows
      obtain ⟨pb, hpb, hBs⟩ := hL b hbL
      have hγb := hle b pb hpb
      obtain ⟨blk, hblk⟩ : ∃ blk, s.h.get b = some blk := by
        cases hh : s.h.get b with
        | none => unfold aLoad at hav; simp [hh] at hav
        | some blk => exact ⟨blk, rfl⟩
      have hkw := hS w hb
      have hsame : w'.heap[pb.1]? = w.heap[pb.1]? := (hk'.block _ hBs).trans (hkw.block _ hBs).symm
      have hr1 : HR (fun _ => False) P.globals.size γ ((Tr.leaf : Hp).put b (some blk)) s.c w' := by
        refine ⟨fun b1 blk1 hb1 => ?_, fun b1 b2 blk1 blk2 p1 p2 g1 g2 _ _ _ => ?_, hr.fresh, hr.glob, fun k hk => hk.elim⟩
        · rw [Tr.get_put] at hb1
          split at hb1
          · rename_i e
            subst e
            injection hb1 with hb1
            subst hb1
            obtain ⟨p1, hp1, hbr⟩ := hr.live _ _ hblk
            rw [hγb] at hp1
            injection hp1 with hp1
            subst hp1
            refine ⟨pb, hγb, ?_⟩
            have hbr2 := hbr.kept hsame
            cases blk with
            | cells ty own clean ex lim cs => exact ⟨fun _ hF => hF, hbr2.2⟩
            | map es clock => exact ⟨fun hF => hF, hbr2.2⟩
            | row e xs => exact ⟨fun hF => hF, hbr2.2⟩
          · rw [Tr.get_leaf] at hb1; cases hb1
        · rw [Tr.get_put] at g1 g2
          split at g1 <;> split at g2
          · rename_i e1 e2; exact e1.trans e2.symm
          · rw [Tr.get_leaf] at g2; cases g2
          · rw [Tr.get_leaf] at g1; cases g1
          · rw [Tr.get_leaf] at g1; cases g1
      have hav1 : aLoad P t (.ptr b off) ((Tr.leaf : Hp).put b (some blk)) = some av := by
        rw [← hav]
        unfold aLoad
        simp only [Tr.get_put_same, hblk]
      obtain ⟨v', h3, h4⟩ := aLoad_ok hr1 hxv hav1
      rw [VR_fun h1 hfun h3]
      exact hrun w' v' h4
theorem p_load (L : List Nat) (av : AV) (h : tkLd P nt L g = some av) (hfun : avFun av = true) (hSe : plS g = Keep Bs ws) (hS : ∀ w, Keep B w0 w → Keep Bs ws w) (hL : ∀ b, hasNat b L = true → ∃ p, γ0 b = some p ∧ Bs p.1) (hg : Good P B w0 γ0 nt Q (tkNx g av)) : Good P B w0 γ0 nt Q g := by
  obtain ⟨k, s⟩ := g
  unfold tkLd at h
  split at h
  · cases h
  rename_i o ho
  unfold tkHd at ho
  simp only at ho
  split at ho <;> first | (cases ho; done) | skip
  rename_i arr i p S' k'
  simp only [plS] at hSe
  subst hSe
  split at ho
  · cases ho
  rename_i o' ho'
  split at ho <;> first | (cases ho; done) | skip
  rename_i hw
  have hoo : o' = o ∧ ∀ av, tput nt s.T o'.dst av = some (putD o'.dst s.T av) := by
    split at ho
    · rename_i hd
      injection ho with ho
      exact ⟨ho, fun av => by unfold tput putD; rw [hd]⟩
    · rename_i d hd
      split at ho <;> first | (cases ho; done) | skip
      rename_i hlt
      injection ho with ho
      exact ⟨ho, fun av => by unfold tput putD; rw [hd]; simp only [hlt]⟩
  obtain ⟨rfl, hput⟩ := hoo
  unfold tkNx at hg
  simp only [ho'] at hg
  split at h <;> first | (cases h; done) | skip
  rename_i t x hop
  split at h <;> first | (cases h; done) | skip
  rename_i b off hx
  split at h <;> first | (cases h; done) | skip
  rename_i hbL
  have hav := h
  refine ⟨fun γ a w hle hf hr hb => ⟨hS w hb, ?_⟩⟩
  have hok := hf.ok (P := P) (B := B) (G := 0) hr.glob o'.op.operands.toList
  have hw' := awanted_ok (a := a) (fun j want p t av _ _ _ ht => hf.tmps t av ht) hw
  show _ ∧ ∃ o v, arr[i]? = some o ∧ YieldsIf P arr (Keep Bs ws) o v a ∧ wpPlanH P arr (NoPan (after P Q k')) (Keep Bs ws) p (a.put o.dst v) w
  refine ⟨hS w hb, o', ?_⟩
  have hxv := hok x (by simp [hop, Op.operands]) _ hx
  obtain ⟨v, h1, h2⟩ := aLoad_ok hr hxv hav
  have hrun : ∀ w' v', (Instr.loadAt t (a.eval x)).run P w' = .ok v' w' → (execOp a.eval o').run P w' = .ok (.value v') w' := fun w' v' hh => by
    unfold execOp
    rw [hop]
    exact run_v hh
  refine ⟨v, ho', .inl ⟨hw', fun w' hk' => ?_⟩, (hg.out γ _ w hle (hf.put (Gm.le.refl _) h1 (hput _)) hr hb).2⟩
  -- the block is the same in every world that the fact allows
  obtain ⟨pb, hpb, hBs⟩ := hL b hbL
  have hγb := hle b pb hpb
  obtain ⟨blk, hblk⟩ : ∃ blk, s.h.get b = some blk := by
    cases hh : s.h.get b with
    | none => unfold aLoad at hav; simp [hh] at hav
    | some blk => exact ⟨blk, rfl⟩
  have hkw := hS w hb
  have hsame : w'.heap[pb.1]? = w.heap[pb.1]? := (hk'.block _ hBs).trans (hkw.block _ hBs).symm
  have hr1 : HR (fun _ => False) P.globals.size γ ((Tr.leaf : Hp).put b (some blk)) s.c w' := by
    refine ⟨fun b1 blk1 hb1 => ?_, fun b1 b2 blk1 blk2 p1 p2 g1 g2 _ _ _ => ?_, hr.fresh, hr.glob, fun k hk => hk.elim⟩
    · rw [Tr.get_put] at hb1
      split at hb1
      · rename_i e
        subst e
        injection hb1 with hb1
        subst hb1
        obtain ⟨p1, hp1, hbr⟩ := hr.live _ _ hblk
        rw [hγb] at hp1
        injection hp1 with hp1
        subst hp1
        refine ⟨pb, hγb, ?_⟩
        have hbr2 := hbr.kept hsame
        cases blk with
        | cells ty own clean ex lim cs => exact ⟨fun _ hF => hF, hbr2.2⟩
        | map es clock => exact ⟨fun hF => hF, hbr2.2⟩
        | row e xs => exact ⟨fun hF => hF, hbr2.2⟩
      · rw [Tr.get_leaf] at hb1; cases hb1
    · rw [Tr.get_put] at g1 g2
      split at g1 <;> split at g2
      · rename_i e1 e2; exact e1.trans e2.symm
      · rw [Tr.get_leaf] at g2; cases g2
      · rw [Tr.get_leaf] at g1; cases g1
      · rw [Tr.get_leaf] at g1; cases g1
  have hav1 : aLoad P t (.ptr b off) ((Tr.leaf : Hp).put b (some blk)) = some av := by
    rw [← hav]
    unfold aLoad
    simp only [Tr.get_put_same, hblk]
  obtain ⟨v', h3, h4⟩ := aLoad_ok hr1 hxv hav1
  rw [VR_fun h1 hfun h3]
  exact hrun w' v' h4
theorem pTakes_succ (L : List Nat) (n : Nat) (g : Cfg) : pTakes P nt L (n + 1) g = (match pTake P nt L g with
    | some g' => pTakes P nt L n g'
    | none => g) := rfl
theorem pTake_S {L : List Nat} (h : pTake P nt L g = some g') : plS g' = plS g := by
  obtain ⟨k, s⟩ := g
  unfold pTake at h
  simp only at h
  repeat' (split at h)
  all_goals first | (cases h; done) | (injection h with h; subst h; rfl)
theorem p_takes' {L : List Nat} (hS : ∀ w, Keep B w0 w → Keep Bs ws w) (hL : ∀ b, hasNat b L = true → ∃ p, γ0 b = some p ∧ Bs p.1) : ∀ (n : Nat) (g : Cfg), plS g = Keep Bs ws → Good P B w0 γ0 nt Q (pTakes P nt L n g) → Good P B w0 γ0 nt Q g
  | 0, g, _, h => h
  | n + 1, g, hSe, h => by
    rw [pTakes_succ] at h
    split at h
    · rename_i g' hg'
      exact p_take1 hS hSe hL hg' (p_takes' hS hL n g' ((pTake_S hg').trans hSe) h)
    · exact h
theorem p_takes (L : List Nat) (n : Nat) (hSe : plS g = Keep Bs ws) (hS : ∀ w, Keep B w0 w → Keep Bs ws w) (hL : ∀ b, hasNat b L = true → ∃ p, γ0 b = some p ∧ Bs p.1) (h : Good P B w0 γ0 nt Q (pTakes P nt L n g)) : Good P B w0 γ0 nt Q g :=
  p_takes' hS hL n g hSe h
/-- one that is worked out by hand -/
theorem p_val {S : Sem Value} (x : Value) (h : tkSem P nt g = some S) (hSe : plS g = Keep Bs ws) (hS : ∀ w, Keep B w0 w → Keep Bs ws w) (hrun : ∀ w, Keep Bs ws w → S.run P w = .ok x w) (hg : Good P B w0 γ0 nt Q (tkNx g (norm x))) : Good P B w0 γ0 nt Q g := by
  obtain ⟨k, s⟩ := g
  unfold tkSem at h
  split at h
  · cases h
  rename_i o ho
  split at h <;> first | (cases h; done) | skip
  rename_i hcl
  unfold tkHd at ho
  simp only at ho
  split at ho <;> first | (cases ho; done) | skip
  rename_i arr i p S' k'
  simp only [plS] at hSe
  subst hSe
  split at ho
  · cases ho
  rename_i o' ho'
  split at ho <;> first | (cases ho; done) | skip
  rename_i hw
  have hoo : o' = o ∧ ∀ av, tput nt s.T o'.dst av = some (putD o'.dst s.T av) := by
    split at ho
    · rename_i hd
      injection ho with ho
      exact ⟨ho, fun av => by unfold tput putD; rw [hd]⟩
    · rename_i d hd
      split at ho <;> first | (cases ho; done) | skip
      rename_i hlt
      injection ho with ho
      exact ⟨ho, fun av => by unfold tput putD; rw [hd]; simp only [hlt]⟩
  obtain ⟨rfl, hput⟩ := hoo
  unfold tkNx at hg
  simp only [ho'] at hg
  refine ⟨fun γ a w hle hf hr hb => ⟨hS w hb, ?_⟩⟩
  have hok := hf.ok (P := P) (B := B) (G := 0) hr.glob o'.op.operands.toList
  have hns : ∀ cs b, o'.op = .select cs b → False := fun cs b e => by rw [e] at h; cases h
  have hcong := execOp_congr (ρ := arho P s.T) (ρ' := a.eval) o' (fun cs b e => (hns cs b e).elim) (fun x hx => arho_ok hok hcl x (by simpa using hx))
  have hw' := awanted_ok (a := a) (fun j want p t av _ _ _ ht => hf.tmps t av ht) hw
  show _ ∧ ∃ o v, arr[i]? = some o ∧ YieldsIf P arr (Keep Bs ws) o v a ∧ wpPlanH P arr (NoPan (after P Q k')) (Keep Bs ws) p (a.put o.dst v) w
  exact ⟨hS w hb, o', x, ho', .inl ⟨hw', fun w' hk' => by rw [← hcong]; exact semV_run h (hrun w' hk')⟩, (hg.out γ _ w hle (hf.put (Gm.le.refl _) (norm_VR x) (hput _)) hr hb).2⟩
end
end Go.Sy
end
end
