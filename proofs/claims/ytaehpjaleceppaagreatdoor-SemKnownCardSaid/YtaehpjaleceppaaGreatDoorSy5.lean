/- The reckoner's operations, all of them together. Any program; no conditions. -/
import Derived.Test.YtaehpjaleceppaaGreatDoorSy4v
noncomputable section
namespace Go.Sy
open Go Go.RowKit
set_option linter.unusedVariables false
set_option linter.unusedSimpArgs false

/-! operations that look at no memory -/
def oaev (P : Program) (T : Tr AV) : Option Operand → Option (Option AV)
  | none => some none
  | some x => match aev P T x with
    | none => none
    | some a => some (some a)
def orElse' (x : Option AV) (y : Option AV) : Option AV := match x with
  | some a => some a
  | none => y
def evalPureS (P : Program) (T : Tr AV) (o : Oper) : Option AV := match o.op with
  | .move x => aev P T x
  | .assign x => aev P T x
  | .pick c x y => match aev P T c with
    | some (.v (.bool true)) => aev P T x
    | some (.v (.bool false)) => aev P T y
    | _ => none
  | .build t parts => match aparts P T parts.toList with
    | none => none
    | some ps => aBuild P t ps
  | .nilCheck x => match aev P T x with
    | none => none
    | some a => orElse' (aNilCheck a) (aclosedRun P T o)
  | .makeInterface t x => match aev P T x with
    | none => none
    | some a => aMakeInterface P t a
  | .makeFunc f first cap => match aevs P T first.toList, aevs P T cap.toList with
    | some l, some r => some (.fn f l r)
    | _, _ => none
  | .fieldAddr s x f => match aev P T x with
    | none => none
    | some a => orElse' (aFieldAddr P s a f) (aclosedRun P T o)
  | .field t x f => match aev P T x with
    | none => none
    | some a => aField P t a f
  | .indexAddr t x i => match aev P T x, aev P T i with
    | some a, some b => aIndexAddr P t a b
    | _, _ => none
  | .index t x i => match aev P T x, aev P T i with
    | some a, some b => orElse' (aIndex P t a b) (aclosedRun P T o)
    | _, _ => none
  | .extract x i => match aev P T x with
    | none => none
    | some a => aExtract a i
  | .typeAssert x xT asd ok => match aev P T x with
    | none => none
    | some a => orElse' (aTypeAssert P a asd ok) (aclosedRun P T o)
  | .slice t x lo hi mx => match aev P T x, oaev P T lo, oaev P T hi, oaev P T mx with
    | some a, some l, some h, some m => orElse' (aSlice P t a l h m) (aclosedRun P T o)
    | _, _, _, _ => none
  | .binOp op t x y _ => match aev P T x, aev P T y with
    | some a, some b => orElse' (aFast op a b) (orElse' (aNil P op t a b) (orElse' (aPtrEq P op t a b) (aclosedRun P T o)))
    | _, _ => none
  | .unOp _ _ _ => aclosedRun P T o
  | .convert _ _ _ => aclosedRun P T o
  | .call c => match c.callee, c.args.toList with
    | .builtin .len, [x] => match aev P T x with
      | none => none
      | some a => orElse' (aLen P c.argTypes a) (aclosedRun P T o)
    | .builtin .cap, [x] => match aev P T x with
      | none => none
      | some a => orElse' (aCap P c.argTypes a) (aclosedRun P T o)
    | .builtin .min, _ => aclosedRun P T o
    | .builtin .max, _ => aclosedRun P T o
    | .builtin .unsafeSliceData, [x] => match aev P T x with
      | none => none
      | some a => orElse' (aSliceData a) (aclosedRun P T o)
    | _, _ => none
  | _ => none
def evalPureD (op : Op) : Program → Tr AV → Oper → Option AV := by
  induction op
  case move x => exact fun P T o => aev P T x
  case assign x => exact fun P T o => aev P T x
  case pick c x y => exact fun P T o => match aev P T c with
      | some (.v (.bool true)) => aev P T x
      | some (.v (.bool false)) => aev P T y
      | _ => none
  case build t parts => exact fun P T o => match aparts P T parts.toList with
      | none => none
      | some ps => aBuild P t ps
  case nilCheck x => exact fun P T o => match aev P T x with
      | none => none
      | some a => orElse' (aNilCheck a) (aclosedRun P T o)
  case makeInterface t x => exact fun P T o => match aev P T x with
      | none => none
      | some a => aMakeInterface P t a
  case makeFunc f first cap => exact fun P T o => match aevs P T first.toList, aevs P T cap.toList with
      | some l, some r => some (.fn f l r)
      | _, _ => none
  case fieldAddr s x f => exact fun P T o => match aev P T x with
      | none => none
      | some a => orElse' (aFieldAddr P s a f) (aclosedRun P T o)
  case field t x f => exact fun P T o => match aev P T x with
      | none => none
      | some a => aField P t a f
  case indexAddr t x i => exact fun P T o => match aev P T x, aev P T i with
      | some a, some b => aIndexAddr P t a b
      | _, _ => none
  case index t x i => exact fun P T o => match aev P T x, aev P T i with
      | some a, some b => orElse' (aIndex P t a b) (aclosedRun P T o)
      | _, _ => none
  case extract x i => exact fun P T o => match aev P T x with
      | none => none
      | some a => aExtract a i
  case typeAssert x xT asd ok => exact fun P T o => match aev P T x with
      | none => none
      | some a => orElse' (aTypeAssert P a asd ok) (aclosedRun P T o)
  case slice t x lo hi mx => exact fun P T o => match aev P T x, oaev P T lo, oaev P T hi, oaev P T mx with
      | some a, some l, some h, some m => orElse' (aSlice P t a l h m) (aclosedRun P T o)
      | _, _, _, _ => none
  case binOp op t x y _ => exact fun P T o => match aev P T x, aev P T y with
      | some a, some b => orElse' (aFast op a b) (orElse' (aNil P op t a b) (orElse' (aPtrEq P op t a b) (aclosedRun P T o)))
      | _, _ => none
  case unOp _ _ _ => exact fun P T o => aclosedRun P T o
  case convert _ _ _ => exact fun P T o => aclosedRun P T o
  case call c => exact fun P T o => match c.callee, c.args.toList with
      | .builtin .len, [x] => match aev P T x with
        | none => none
        | some a => orElse' (aLen P c.argTypes a) (aclosedRun P T o)
      | .builtin .cap, [x] => match aev P T x with
        | none => none
        | some a => orElse' (aCap P c.argTypes a) (aclosedRun P T o)
      | .builtin .min, _ => aclosedRun P T o
      | .builtin .max, _ => aclosedRun P T o
      | .builtin .unsafeSliceData, [x] => match aev P T x with
        | none => none
        | some a => orElse' (aSliceData a) (aclosedRun P T o)
      | _, _ => none
  all_goals exact fun _ _ _ => none
def evalPure (P : Program) (T : Tr AV) (o : Oper) : Option AV := evalPureD o.op P T o
theorem evalPure_eq (P : Program) (T : Tr AV) (o : Oper) : evalPure P T o = evalPureS P T o := by
  obtain ⟨dst, op, ty, pos, aft, g⟩ := o
  cases op <;> first | rfl | (rename_i r; cases r <;> rfl)

section
variable {P : Program} {γ : Gm} {T : Tr AV} {a : Act} {o : Oper}
theorem orElse_ok {x y : Option AV} {r : AV} (h : orElse' x y = some r) : x = some r ∨ y = some r := by
  unfold orElse' at h
  split at h
  · exact .inl h
  · exact .inr h
theorem oaev_ok {l : List Operand} (ho : Ok P γ T a l) {x : Option Operand} (hx : ∀ y, x = some y → y ∈ l) {r : Option AV} (h : oaev P T x = some r) : OVR γ r (x.map a.eval) := by
  cases x with
  | none => simp [oaev] at h; subst h; trivial
  | some y =>
    simp only [oaev] at h
    split at h
    · cases h
    · rename_i b hb
      injection h with h
      subst h
      exact ho y (hx y rfl) b hb
/-- one step: the operation's 'Sem Value' -/
theorem run_v {s : Sem Value} {v : Value} {w w' : World} (h : s.run P w = .ok v w') : (do pure (.value (← s)) : Sem Next).run P w = .ok (.value v) w' := by
  rw [Sem.run_bind, h]
  rfl
theorem evalPure_ok {av : AV} (ho : Ok P γ T a o.op.operands.toList) (h : evalPure P T o = some av) : ∃ v, VR γ av v ∧ ∀ w, (execOp a.eval o).run P w = .ok (.value v) w := by
  rw [evalPure_eq] at h
  unfold evalPureS at h
  split at h
  · -- move
    rename_i x hop
    exact ⟨_, ho x (by simp [hop, Op.operands]) _ h, fun w => by unfold execOp; rw [hop]; rfl⟩
  · -- assign
    rename_i x hop
    exact ⟨_, ho x (by simp [hop, Op.operands]) _ h, fun w => by unfold execOp; rw [hop]; rfl⟩
  · -- pick
    rename_i c x y hop
    split at h <;> first | (cases h; done) | skip
    all_goals
      rename_i hc
      have hc' := ho c (by simp [hop, Op.operands]) _ hc
      generalize hcv : a.eval c = vc at hc'
      cases hc'
    · exact ⟨_, ho x (by simp [hop, Op.operands]) _ h, fun w => by unfold execOp; rw [hop]; simp [hcv, asBool]⟩
    · exact ⟨_, ho y (by simp [hop, Op.operands]) _ h, fun w => by unfold execOp; rw [hop]; simp [hcv, asBool]⟩
  · -- build
    rename_i t parts hop
    split at h
    · cases h
    rename_i ps hps
    have hok : Ok P γ T a (parts.toList.map (·.2)) := fun x hx => ho x (by
      have : o.op.operands.toList = parts.toList.map (·.2) := by rw [hop]; simp [Op.operands]
      rw [this]; exact hx)
    obtain ⟨h1, h2⟩ := aparts_ok hok hps
    obtain ⟨v, h3, h4⟩ := aBuild_ok (qs := parts.map fun (i, x) => (i, a.eval x)) (by simpa using h1) (by simpa using h2) h
    exact ⟨v, h3, fun w => by unfold execOp; rw [hop]; exact run_v (h4 w)⟩
  · -- nilCheck
    rename_i x hop
    split at h
    · cases h
    rename_i b hb
    rcases orElse_ok h with h | h
    · have hx := ho x (by simp [hop, Op.operands]) _ hb
      unfold aNilCheck at h
      split at h <;> first | (cases h; done) | skip
      all_goals
        injection h with h
        subst h
        generalize hcv : a.eval x = vx at hx
        cases hx
        first
          | exact ⟨_, .ptr (by assumption), fun w => by unfold execOp; rw [hop]; simp [hcv]⟩
          | exact ⟨_, .fn (by assumption) (by assumption) (by assumption) (by assumption), fun w => by unfold execOp; rw [hop]; simp [hcv]⟩
          | exact ⟨_, .ifc (by assumption), fun w => by unfold execOp; rw [hop]; simp [hcv]⟩
    · exact aclosedRun_ok ho h
  · -- makeInterface
    rename_i t x hop
    split at h
    · cases h
    rename_i b hb
    obtain ⟨v, h3, h4⟩ := aMakeInterface_ok (ho x (by simp [hop, Op.operands]) _ hb) h
    exact ⟨v, h3, fun w => by unfold execOp; rw [hop]; exact run_v (h4 w)⟩
  · -- makeFunc
    rename_i f first cap hop
    split at h <;> first | (cases h; done) | skip
    rename_i l r hl hr
    injection h with h
    subst h
    have h1 := aevs_ok (a := a) (fun x hx => ho x (by simp [hop, Op.operands] at hx ⊢; exact .inl hx)) hl
    have h2 := aevs_ok (a := a) (fun x hx => ho x (by simp [hop, Op.operands] at hx ⊢; exact .inr hx)) hr
    refine ⟨.func f (first.map a.eval) (cap.map a.eval), .fn (by simpa using h1.1) (fun i b y e1 e2 => h1.2 i b y e1 (by simpa using e2)) (by simpa using h2.1) (fun i b y e1 e2 => h2.2 i b y e1 (by simpa using e2)), fun w => ?_⟩
    unfold execOp
    rw [hop]
    rfl
  · -- fieldAddr
    rename_i s x f hop
    split at h
    · cases h
    rename_i b hb
    rcases orElse_ok h with h | h
    · obtain ⟨v, h3, h4⟩ := aFieldAddr_ok (ho x (by simp [hop, Op.operands]) _ hb) h
      exact ⟨v, h3, fun w => by unfold execOp; rw [hop]; exact run_v (h4 w)⟩
    · exact aclosedRun_ok ho h
  · -- field
    rename_i s x f hop
    split at h
    · cases h
    rename_i b hb
    obtain ⟨v, h3, h4⟩ := aField_ok (ho x (by simp [hop, Op.operands]) _ hb) h
    exact ⟨v, h3, fun w => by unfold execOp; rw [hop]; exact run_v (h4 w)⟩
  · -- indexAddr
    rename_i t x i hop
    split at h <;> first | (cases h; done) | skip
    rename_i b d hb hd
    obtain ⟨v, h3, h4⟩ := aIndexAddr_ok (ho x (by simp [hop, Op.operands]) _ hb) (ho i (by simp [hop, Op.operands]) _ hd) h
    exact ⟨v, h3, fun w => by unfold execOp; rw [hop]; exact run_v (h4 w)⟩
  · -- index
    rename_i t x i hop
    split at h <;> first | (cases h; done) | skip
    rename_i b d hb hd
    rcases orElse_ok h with h | h
    · obtain ⟨v, h3, h4⟩ := aIndex_ok (ho x (by simp [hop, Op.operands]) _ hb) (ho i (by simp [hop, Op.operands]) _ hd) h
      exact ⟨v, h3, fun w => by unfold execOp; rw [hop]; exact run_v (h4 w)⟩
    · exact aclosedRun_ok ho h
  · -- extract
    rename_i x i hop
    split at h
    · cases h
    rename_i b hb
    obtain ⟨v, h3, h4⟩ := aExtract_ok (ho x (by simp [hop, Op.operands]) _ hb) h
    exact ⟨v, h3, fun w => by unfold execOp; rw [hop]; exact run_v (h4 w)⟩
  · -- typeAssert
    rename_i x xT asd ok hop
    split at h
    · cases h
    rename_i b hb
    rcases orElse_ok h with h | h
    · obtain ⟨v, h3, h4⟩ := aTypeAssert_ok (xT := xT) (ho x (by simp [hop, Op.operands]) _ hb) h
      exact ⟨v, h3, fun w => by unfold execOp; rw [hop]; exact run_v (h4 w)⟩
    · exact aclosedRun_ok ho h
  · -- slice
    rename_i t x lo hi mx hop
    split at h <;> first | (cases h; done) | skip
    rename_i b l hh m hb hl hh' hm
    rcases orElse_ok h with h | h
    · have hmem : o.op.operands.toList = [x] ++ lo.toList ++ hi.toList ++ mx.toList := by rw [hop]; simp [Op.operands]
      obtain ⟨v, h3, h4⟩ := aSlice_ok (ho x (by simp [hmem]) _ hb) (oaev_ok ho (fun y hy => by rw [hmem, hy]; simp) hl) (oaev_ok ho (fun y hy => by rw [hmem, hy]; simp) hh') (oaev_ok ho (fun y hy => by rw [hmem, hy]; simp) hm) h
      exact ⟨v, h3, fun w => by unfold execOp; rw [hop]; exact run_v (h4 w)⟩
    · exact aclosedRun_ok ho h
  · -- binOp
    rename_i op t x y yt hop
    split at h <;> first | (cases h; done) | skip
    rename_i b d hb hd
    rcases orElse_ok h with h | h
    · obtain ⟨v, h3, h4⟩ := aFast_ok (ho x (by simp [hop, Op.operands]) _ hb) (ho y (by simp [hop, Op.operands]) _ hd) h x y
      exact ⟨v, h3, fun w => by unfold execOp; rw [hop]; exact run_v (h4 w)⟩
    rcases orElse_ok h with h | h
    · obtain ⟨v, h3, h4⟩ := aNil_ok (ho x (by simp [hop, Op.operands]) _ hb) (ho y (by simp [hop, Op.operands]) _ hd) h x y
      exact ⟨v, h3, fun w => by unfold execOp; rw [hop]; exact run_v (h4 w)⟩
    rcases orElse_ok h with h | h
    · obtain ⟨v, h3, h4⟩ := aPtrEq_ok (ho x (by simp [hop, Op.operands]) _ hb) (ho y (by simp [hop, Op.operands]) _ hd) h x y
      exact ⟨v, h3, fun w => by unfold execOp; rw [hop]; exact run_v (h4 w)⟩
    · exact aclosedRun_ok ho h
  · exact aclosedRun_ok ho h
  · exact aclosedRun_ok ho h
  · -- call
    rename_i c hop
    split at h
    · rename_i x hce hca
      split at h
      · cases h
      rename_i b hb
      rcases orElse_ok h with h | h
      · have hargs : c.args = #[x] := by apply Array.ext'; simpa using hca
        obtain ⟨v, h3, h4⟩ := aLen_ok (ty := o.type) (ho x (by rw [hop]; simp [Op.operands, Call.operands, hce, hargs]) _ hb) h
        refine ⟨v, h3, fun w => ?_⟩
        unfold execOp
        rw [hop]
        simp only [resolve, hce, hargs, Sem.run_bind, Sem.run_pure, Result.andThen_ok, invoke, builtin, List.map_toArray, List.map_cons, List.map_nil, h4]
      · exact aclosedRun_ok ho h
    · rename_i x hce hca
      split at h
      · cases h
      rename_i b hb
      rcases orElse_ok h with h | h
      · have hargs : c.args = #[x] := by apply Array.ext'; simpa using hca
        obtain ⟨v, h3, h4⟩ := aCap_ok (ty := o.type) (ho x (by rw [hop]; simp [Op.operands, Call.operands, hce, hargs]) _ hb) h
        refine ⟨v, h3, fun w => ?_⟩
        unfold execOp
        rw [hop]
        simp only [resolve, hce, hargs, Sem.run_bind, Sem.run_pure, Result.andThen_ok, invoke, builtin, List.map_toArray, List.map_cons, List.map_nil, h4]
      · exact aclosedRun_ok ho h
    · exact aclosedRun_ok ho h
    · exact aclosedRun_ok ho h
    · rename_i x hce hca
      split at h
      · cases h
      rename_i b hb
      rcases orElse_ok h with h | h
      · have hargs : c.args = #[x] := by apply Array.ext'; simpa using hca
        obtain ⟨v, h3, h4⟩ := aSliceData_ok (P := P) (ts := c.argTypes) (ty := o.type) (ho x (by rw [hop]; simp [Op.operands, Call.operands, hce, hargs]) _ hb) h
        refine ⟨v, h3, fun w => ?_⟩
        unfold execOp
        rw [hop]
        simp only [resolve, hce, hargs, Sem.run_bind, Sem.run_pure, Result.andThen_ok, invoke, builtin, List.map_toArray, List.map_cons, List.map_nil, h4]
      · exact aclosedRun_ok ho h
    · cases h
  · cases h
end

/-! operations that look at memory -/
def evalLoadS (P : Program) (T : Tr AV) (h : Hp) (o : Oper) : Option AV := match o.op with
  | .load t x => match aev P T x with
    | none => none
    | some a => aLoad P t a h
  | .convert src dst x => match aev P T x with
    | none => none
    | some a => orElse' (aBytesStr P src dst a h) (aUnsafePtr P src dst a h)
  | .lookup t x k ok => match aev P T x, aev P T k with
    | some a, some b => aLookup P t a b ok h
    | _, _ => none
  | _ => none
def evalLoadD (op : Op) : Program → Tr AV → Hp → Option AV := by
  induction op
  case load t x => exact fun P T h => match aev P T x with
      | none => none
      | some a => aLoad P t a h
  case convert src dst x => exact fun P T h => match aev P T x with
      | none => none
      | some a => orElse' (aBytesStr P src dst a h) (aUnsafePtr P src dst a h)
  case lookup t x k ok => exact fun P T h => match aev P T x, aev P T k with
      | some a, some b => aLookup P t a b ok h
      | _, _ => none
  all_goals exact fun _ _ _ => none
def evalLoad (P : Program) (T : Tr AV) (h : Hp) (o : Oper) : Option AV := evalLoadD o.op P T h
theorem evalLoad_eq (P : Program) (T : Tr AV) (h : Hp) (o : Oper) : evalLoad P T h o = evalLoadS P T h o := by
  obtain ⟨dst, op, ty, pos, aft, g⟩ := o
  cases op <;> first | rfl | (rename_i r; cases r <;> rfl)
theorem evalLoad_ok {P : Program} {B : Nat → Prop} {G : Nat} {γ : Gm} {T : Tr AV} {a : Act} {o : Oper} {h : Hp} {c : Nat} {w : World} {av : AV} (hr : HR B G γ h c w) (ho : Ok P γ T a o.op.operands.toList) (hh : evalLoad P T h o = some av) :
    ∃ v, VR γ av v ∧ (execOp a.eval o).run P w = .ok (.value v) w := by
  rw [evalLoad_eq] at hh
  unfold evalLoadS at hh
  split at hh
  · rename_i t x hop
    split at hh
    · cases hh
    rename_i b hb
    obtain ⟨v, h1, h2⟩ := aLoad_ok hr (ho x (by simp [hop, Op.operands]) _ hb) hh
    exact ⟨v, h1, by unfold execOp; rw [hop]; exact run_v h2⟩
  · rename_i src dst x hop
    split at hh
    · cases hh
    rename_i b hb
    rcases orElse_ok hh with hh | hh
    · obtain ⟨v, h1, h2⟩ := aBytesStr_ok hr (ho x (by simp [hop, Op.operands]) _ hb) hh
      exact ⟨v, h1, by unfold execOp; rw [hop]; exact run_v h2⟩
    · obtain ⟨v, h1, h2⟩ := aUnsafePtr_ok hr (ho x (by simp [hop, Op.operands]) _ hb) hh
      exact ⟨v, h1, by unfold execOp; rw [hop]; exact run_v h2⟩
  · rename_i t x k ok hop
    split at hh <;> first | (cases hh; done) | skip
    rename_i b d hb hd
    obtain ⟨v, h1, h2⟩ := aLookup_ok hr (ho x (by simp [hop, Op.operands]) _ hb) (ho k (by simp [hop, Op.operands]) _ hd) hh
    exact ⟨v, h1, by unfold execOp; rw [hop]; exact run_v h2⟩
  · cases hh

/-! calls -/
abbrev CallF := FuncId → List AV → Hp → Nat → R1
/-- what a call comes to -/
def Ret (B : Nat → Prop) (G : Nat) (γ : Gm) (w0 : World) : R1 → Ending → World → Prop
  | .fail, _, _ => False
  | .val av h c, e, w' => ∃ γ' v, e = .returned v ∧ Gm.le γ γ' ∧ VR γ' av v ∧ HR B G γ' h c w' ∧ Keep B w0 w'
  | .pan av h c, e, w' => ∃ γ' v, e = .panicked [{ v, recovered := false }] ∧ Gm.le γ γ' ∧ VR γ' av v ∧ HR B G γ' h c w' ∧ Keep B w0 w'
def CallOk (P : Program) (B : Nat → Prop) (G : Nat) (w0 : World) (call : CallF) : Prop := ∀ (f : Nat) (fn : Func) (code : Code) (args : List AV) (h : Hp) (c : Nat) (γ : Gm) (w : World) (vs : List Value), P.funcs[f]? = some fn → fn.body = some code → HR B G γ h c w → Keep B w0 w → LR γ args vs →
  call f args h c ≠ R1.fail → Calls P f vs.toArray w (Ret B G γ w0 (call f args h c))
/-- what the reckoner is told beside the program: functions without a body that hand back what they are handed; calls whose result is known; what must hold of the world for these -/
structure Aux where
  I : Nat → Bool
  K : FuncId → List AV → Option AV
  W : World → Prop
/-- no function with a body has the one name that the model keeps for itself; what is told is so -/
structure Fine (P : Program) (I : Aux) : Prop where
  names : ∀ (f : Nat) (fn : Func), P.funcs[f]? = some fn → fn.body.isSome = true → (fn.name == "runtime.NumGoroutine") = false
  ids : ∀ (f : Nat), I.I f = true → ∀ (x : Value) (w : World), (callFunc f #[x]).run P w = .ok (.value x) w
  known : ∀ (f : Nat) (args : List AV) (av : AV), I.K f args = some av → ∀ (γ : Gm) (vs : List Value) (w : World), LR γ args vs → I.W w → Calls P f vs.toArray w fun e w' => ∃ v, e = .returned v ∧ VR γ av v ∧ Below w.heap.size w w'
  stays : ∀ (w w' : World), I.W w → Below w.heap.size w w' → I.W w'
def closeAll : List AV → Option (List Value)
  | [] => some []
  | a :: l => match a.close with
    | none => none
    | some v => match closeAll l with
      | none => none
      | some r => some (v :: r)
theorem closeAll_eq {γ : Gm} : ∀ {as : List AV} {vs ws : List Value}, closeAll as = some ws → LR γ as vs → vs = ws
  | [], vs, ws, h, hr => by
    simp [closeAll] at h
    subst h
    exact List.eq_nil_of_length_eq_zero hr.1.symm
  | a :: as, vs, ws, h, hr => by
    cases vs with
    | nil => have := hr.1; simp at this
    | cons x vs =>
      have h0 := hr.2 0 a x rfl rfl
      have ht : LR γ as vs := ⟨by have := hr.1; simpa using this, fun i b y h1 h2 => hr.2 (i + 1) b y (by simpa using h1) (by simpa using h2)⟩
      simp only [closeAll] at h
      cases h1 : a.close with
      | none => rw [h1] at h; cases h
      | some v =>
        rw [h1] at h
        cases h2 : closeAll as with
        | none => rw [h2] at h; cases h
        | some r =>
          rw [h2] at h
          injection h with h
          subst h
          rw [close_eq h1 h0, closeAll_eq h2 ht]
def bodied (P : Program) (f : FuncId) : Option Bool := match P.funcs[f]? with
  | none => none
  | some fn => match fn.body with
    | none => some false
    | some _ => some true
def aId (I : Aux) (f : FuncId) : List AV → Option AV
  | [a] => match I.I f with
    | true => some a
    | false => none
  | _ => none
def aCall (P : Program) (I : Aux) (call : CallF) (f : FuncId) (args : List AV) (h : Hp) (c : Nat) : R1 := match bodied P f with
  | some true => call f args h c
  | some false => match aId I f args with
    | some a => .val a h c
    | none => match closeAll args with
      | none => .fail
      | some vs => match pureRun P (callFunc f vs.toArray) with
        | some (.value v) => .val (norm v) h c
        | some (.enter g args') => match bodied P g with
          | some true => call g (args'.toList.map norm) h c
          | _ => .fail
        | _ => .fail
  | none => .fail
theorem bodied_true {P : Program} {f : FuncId} (h : bodied P f = some true) : ∃ fn code, P.funcs[f]? = some fn ∧ fn.body = some code := by
  unfold bodied at h
  split at h
  · cases h
  · rename_i fn hf
    split at h
    · cases h
    · rename_i code hc
      exact ⟨fn, code, hf, hc⟩
section
variable {P : Program} {B : Nat → Prop} {G : Nat} {γ : Gm} {h : Hp} {c : Nat} {w w0 : World} {o : Oper} {a : Act} {K : Act → World → Prop} {Q : Exit → Act → World → Prop} {T : Tr AV} {call : CallF} {I : Aux}
theorem wp_enter (hcall : CallOk P B G w0 call) (hr : HR B G γ h c w) (hb : Keep B w0 w) {f : FuncId} {args : List AV} {vs : List Value} (hl : LR γ args vs) (hf : bodied P f = some true)
    (hrun : (execOp a.eval o).run P w = .ok (.enter f vs.toArray) w) (hk : KOk B G γ w0 a o.dst K Q (call f args h c)) : o.wp P a w K Q := by
  obtain ⟨fn, code, h1, h2⟩ := bodied_true hf
  unfold Oper.wp
  rw [hrun]
  have hne : call f args h c ≠ .fail := fun e => by rw [e] at hk; exact hk
  refine (hcall f fn code args h c γ w vs h1 h2 hr hb hl hne).mono fun e w' hR => ?_
  cases hcc : call f args h c with
  | fail => exact (hne hcc).elim
  | val av h' c' =>
    rw [hcc] at hR hk
    obtain ⟨γ', v, rfl, g1, g2, g3, g4⟩ := hR
    exact hk γ' v w' g1 g2 g3 g4
  | pan av h' c' =>
    rw [hcc] at hR hk
    obtain ⟨γ', v, rfl, g1, g2, g3, g4⟩ := hR
    exact hk γ' v w' g1 g2 g3 g4
theorem norms_LR (vs : List Value) : LR γ (vs.map norm) vs := ⟨by simp, fun i a x h1 h2 => by
  simp [h2] at h1
  subst h1
  exact norm_VR x⟩
theorem aCall_ok (hn : Fine P I) (hcall : CallOk P B G w0 call) (hr : HR B G γ h c w) (hb : Keep B w0 w) {f : FuncId} {args : List AV} {vs : List Value} (hl : LR γ args vs)
    (hrun : ∀ w, (execOp a.eval o).run P w = (callFunc f vs.toArray).run P w) (hk : KOk B G γ w0 a o.dst K Q (aCall P I call f args h c)) : o.wp P a w K Q := by
  unfold aCall at hk
  have henter : ∀ {f : FuncId} (vs : List Value), bodied P f = some true → (callFunc f vs.toArray).run P w = .ok (.enter f vs.toArray) w := by
    intro f vs hf
    obtain ⟨fn, code, h1, h2⟩ := bodied_true hf
    have h3 : fn.name ≠ "runtime.NumGoroutine" := by simpa using hn.names f fn h1 (by rw [h2]; rfl)
    simp [callFunc, h1, h2, h3]
  split at hk
  · rename_i hf
    exact wp_enter hcall hr hb hl hf (by rw [hrun, henter vs hf]) hk
  · split at hk
    · rename_i av hid
      unfold aId at hid
      split at hid <;> first | (cases hid; done) | skip
      rename_i b
      split at hid <;> first | (cases hid; done) | skip
      rename_i hI
      injection hid with hid
      subst hid
      have hlen := hl.1
      match vs, hlen with
      | [x], _ => exact wp_val (by rw [hrun]; exact hn.ids f hI x w) (hk γ x w (Gm.le.refl _) (hl.2 0 _ x rfl rfl) hr hb)
    split at hk
    · exact hk.elim
    rename_i ws hws
    have e := closeAll_eq hws hl
    subst e
    split at hk
    · rename_i v hv
      exact wp_val (by rw [hrun]; exact pureRun_ok hv w) (hk γ v w (Gm.le.refl _) (norm_VR v) hr hb)
    · rename_i g args' hv
      split at hk <;> first | exact hk.elim | skip
      rename_i hg
      refine wp_enter (vs := args'.toList) hcall hr hb (norms_LR _) hg ?_ hk
      rw [hrun, pureRun_ok hv w]
    · exact hk.elim
  · exact hk.elim

/-! the operations that turn memory, and calls -/
def evalEffS (P : Program) (I : Aux) (call : CallF) (T : Tr AV) (h : Hp) (c : Nat) (o : Oper) : R1 := match o.op with
  | .alloc e => aAlloc P e h c
  | .box e x => match aev P T x with
    | none => .fail
    | some a => aBox e a h c
  | .buildSlice t len parts => match aparts P T parts.toList with
    | none => .fail
    | some ps => aBuildSlice P t len ps h c
  | .makeSlice t l m => match aev P T l, aev P T m with
    | some a, some b => aMakeSlice P t a b h c
    | _, _ => .fail
  | .store t x y => match aev P T x, aev P T y with
    | some a, some b => aStore P t a b h c
    | _, _ => .fail
  | .panic x => match aev P T x with
    | some (.ifc t a) => .pan (.ifc t a) h c
    | _ => .fail
  | .convert src dst x => match aev P T x with
    | some a => aStrBytes P src dst a h c
    | none => .fail
  | .makeMap _ none => aMakeMap h c
  | .mapUpdate t m k v => match aev P T m, aev P T k, aev P T v with
    | some a, some b, some d => aMapUpdate P t a b d h c
    | _, _, _ => .fail
  | .insert t m k v => match aev P T m, aev P T k, aev P T v with
    | some a, some b, some d => aMapUpdate P t a b d h c
    | _, _, _ => .fail
  | .call k => match k.callee, k.args.toList with
    | .value x, args => match aev P T x, aevs P T args with
      | some (.fn (.func f) first cap), some l => aCall P I call f (first ++ l ++ cap) h c
      | _, _ => .fail
    | .builtin .append, [s, x] => match aev P T s, aev P T x with
      | some a, some b => match a, b with
        | _, .v (.string _) => aAppendStr P k.argTypes.toList a b h c
        | _, .v (.int _ _) => aAppendZ P k.argTypes.toList a b h c
        | .sl _ _ _ _, _ => aAppend0 P k.argTypes.toList a b h c
        | _, _ => aAppend P k.argTypes.toList a b h c
      | _, _ => .fail
    | .invoke x name, args => match aev P T x, aevs P T args with
      | some (.ifc t a), some l => match aMethod P t name with
        | some f => aCall P I call f (a :: l) h c
        | none => .fail
      | _, _ => .fail
    | .builtin .unsafeString, [s, x] => match aev P T s, aev P T x with
      | some a, some b => aUnsafeString P k.argTypes.toList a b h c
      | _, _ => .fail
    | _, _ => .fail
  | _ => .fail
def evalEffD (op : Op) : Program → Aux → CallF → Tr AV → Hp → Nat → R1 := by
  induction op
  case alloc e => exact fun P I call T h c => aAlloc P e h c
  case box e x => exact fun P I call T h c => match aev P T x with
      | none => .fail
      | some a => aBox e a h c
  case buildSlice t len parts => exact fun P I call T h c => match aparts P T parts.toList with
      | none => .fail
      | some ps => aBuildSlice P t len ps h c
  case makeSlice t l m => exact fun P I call T h c => match aev P T l, aev P T m with
      | some a, some b => aMakeSlice P t a b h c
      | _, _ => .fail
  case store t x y => exact fun P I call T h c => match aev P T x, aev P T y with
      | some a, some b => aStore P t a b h c
      | _, _ => .fail
  case panic x => exact fun P I call T h c => match aev P T x with
      | some (.ifc t a) => .pan (.ifc t a) h c
      | _ => .fail
  case convert src dst x => exact fun P I call T h c => match aev P T x with
      | some a => aStrBytes P src dst a h c
      | none => .fail
  case makeMap _ r => exact fun P I call T h c => match r with
    | none => aMakeMap h c
    | some _ => .fail
  case mapUpdate t m k v => exact fun P I call T h c => match aev P T m, aev P T k, aev P T v with
      | some a, some b, some d => aMapUpdate P t a b d h c
      | _, _, _ => .fail
  case insert t m k v => exact fun P I call T h c => match aev P T m, aev P T k, aev P T v with
      | some a, some b, some d => aMapUpdate P t a b d h c
      | _, _, _ => .fail
  case call k => exact fun P I call T h c => match k.callee, k.args.toList with
      | .value x, args => match aev P T x, aevs P T args with
        | some (.fn (.func f) first cap), some l => aCall P I call f (first ++ l ++ cap) h c
        | _, _ => .fail
      | .builtin .append, [s, x] => match aev P T s, aev P T x with
        | some a, some b => match a, b with
          | _, .v (.string _) => aAppendStr P k.argTypes.toList a b h c
          | _, .v (.int _ _) => aAppendZ P k.argTypes.toList a b h c
          | .sl _ _ _ _, _ => aAppend0 P k.argTypes.toList a b h c
          | _, _ => aAppend P k.argTypes.toList a b h c
        | _, _ => .fail
      | .invoke x name, args => match aev P T x, aevs P T args with
        | some (.ifc t a), some l => match aMethod P t name with
          | some f => aCall P I call f (a :: l) h c
          | none => .fail
        | _, _ => .fail
      | .builtin .unsafeString, [s, x] => match aev P T s, aev P T x with
        | some a, some b => aUnsafeString P k.argTypes.toList a b h c
        | _, _ => .fail
      | _, _ => .fail
  all_goals exact fun _ _ _ _ _ _ => .fail
def evalEff (P : Program) (I : Aux) (call : CallF) (T : Tr AV) (h : Hp) (c : Nat) (o : Oper) : R1 := evalEffD o.op P I call T h c
theorem evalEff_eq (P : Program) (I : Aux) (call : CallF) (T : Tr AV) (h : Hp) (c : Nat) (o : Oper) : evalEff P I call T h c o = evalEffS P I call T h c o := by
  obtain ⟨dst, op, ty, pos, aft, g⟩ := o
  cases op <;> first | rfl | (rename_i r; cases r <;> rfl)
theorem evalEff_ok (hn : Fine P I) (hcall : CallOk P B G w0 call) (hr : HR B G γ h c w) (hb : Keep B w0 w) (ho : Ok P γ T a o.op.operands.toList)
    (hk : KOk B G γ w0 a o.dst K Q (evalEff P I call T h c o)) : o.wp P a w K Q := by
  rw [evalEff_eq] at hk
  unfold evalEffS at hk
  split at hk
  · rename_i e hop
    exact aAlloc_ok hr hb hop hk
  · rename_i e x hop
    split at hk
    · exact hk.elim
    rename_i b hx
    exact aBox_ok hr hb hop (ho x (by simp [hop, Op.operands]) _ hx) hk
  · rename_i t len parts hop
    split at hk
    · exact hk.elim
    rename_i ps hps
    have hok : Ok P γ T a (parts.toList.map (·.2)) := fun x hx => ho x (by
      have : o.op.operands.toList = parts.toList.map (·.2) := by rw [hop]; simp [Op.operands]
      rw [this]; exact hx)
    obtain ⟨h1, h2⟩ := aparts_ok hok hps
    exact aBuildSlice_ok hr hb hop h1 h2 hk
  · rename_i t l m hop
    split at hk <;> first | exact hk.elim | skip
    rename_i b d hl hm
    exact aMakeSlice_ok hr hb hop (ho l (by simp [hop, Op.operands]) _ hl) (ho m (by simp [hop, Op.operands]) _ hm) hk
  · rename_i t x y hop
    split at hk <;> first | exact hk.elim | skip
    rename_i b d hx hy
    exact aStore_ok hr hb hop (ho x (by simp [hop, Op.operands]) _ hx) (ho y (by simp [hop, Op.operands]) _ hy) hk
  · rename_i x hop
    split at hk <;> first | exact hk.elim | skip
    rename_i t b hx
    have hv := ho x (by simp [hop, Op.operands]) _ hx
    generalize hvx : a.eval x = vx at hv
    unfold Oper.wp execOp
    rw [hop]
    cases hv with
    | ifc hv =>
      simp only [hvx, Instr.panic, Sem.run_bind, run_goPanic, Result.andThen_halt]
      exact hk γ _ w (Gm.le.refl _) (.ifc hv) hr hb
  · rename_i src dst x hop
    split at hk <;> first | exact hk.elim | skip
    rename_i b hx
    exact aStrBytes_ok hr hb hop (ho x (by simp [hop, Op.operands]) _ hx) hk
  · rename_i t hop
    exact aMakeMap_ok hr hb hop hk
  · rename_i t m k v hop
    split at hk <;> first | exact hk.elim | skip
    rename_i b d e hm hkk hv
    refine aMapUpdate_ok hr hb (fun w => ?_) (ho m (by simp [hop, Op.operands]) _ hm) (ho k (by simp [hop, Op.operands]) _ hkk) (ho v (by simp [hop, Op.operands]) _ hv) hk
    unfold execOp
    rw [hop]
    exact Sem.run_bind _ _ _ _
  · rename_i t m k v hop
    split at hk <;> first | exact hk.elim | skip
    rename_i b d e hm hkk hv
    refine aMapUpdate_ok hr hb (fun w => ?_) (ho m (by simp [hop, Op.operands]) _ hm) (ho k (by simp [hop, Op.operands]) _ hkk) (ho v (by simp [hop, Op.operands]) _ hv) hk
    unfold execOp
    rw [hop]
    exact Sem.run_bind _ _ _ _
  · rename_i k hop
    split at hk
    · rename_i x hce
      split at hk <;> first | exact hk.elim | skip
      rename_i f first cap l hx hl
      have hmem : o.op.operands.toList = x :: k.args.toList := by rw [hop]; simp [Op.operands, Call.operands, hce]
      have hxv := ho x (by rw [hmem]; simp) _ hx
      have hlv := aevs_ok (a := a) (fun y hy => ho y (by rw [hmem]; exact List.mem_cons_of_mem _ hy)) hl
      generalize hvx : a.eval x = vx at hxv
      cases hxv with
      | fn hl1 hh1 hl2 hh2 =>
        rename_i vs ws
        have r1 : LR γ first vs.toList := ⟨by simpa using hl1, fun i b y e1 e2 => hh1 i b y e1 (by simpa using e2)⟩
        have r2 : LR γ cap ws.toList := ⟨by simpa using hl2, fun i b y e1 e2 => hh2 i b y e1 (by simpa using e2)⟩
        refine aCall_ok hn hcall hr hb ((r1.append hlv).append r2) (fun w => ?_) hk
        unfold execOp
        rw [hop]
        simp only [resolve, hce, hvx, Deferred.ofValue, Sem.run_bind, Sem.run_pure, Result.andThen_ok, invoke]
        congr 2
        apply Array.ext'
        simp
    · rename_i s x hce hargs
      split at hk <;> first | exact hk.elim | skip
      rename_i b d hs hx
      have hargs' : k.args = #[s, x] := by apply Array.ext'; simpa using hargs
      have hmem : o.op.operands.toList = [s, x] := by rw [hop]; simp [Op.operands, Call.operands, hce, hargs']
      split at hk
      · exact aAppendStr_ok (ts := k.argTypes) hr hb (by rw [hop, ← hargs', ← hce]) (ho s (by simp [hmem]) _ hs) (ho x (by simp [hmem]) _ hx) hk
      · exact aAppendZ_ok (ts := k.argTypes) hr hb (by rw [hop, ← hargs', ← hce]) (ho s (by simp [hmem]) _ hs) (ho x (by simp [hmem]) _ hx) hk
      · exact aAppend0_ok (ts := k.argTypes) hr hb (by rw [hop, ← hargs', ← hce]) (ho s (by simp [hmem]) _ hs) (ho x (by simp [hmem]) _ hx) hk
      · exact aAppend_ok (ts := k.argTypes) hr hb (by rw [hop, ← hargs', ← hce]) (ho s (by simp [hmem]) _ hs) (ho x (by simp [hmem]) _ hx) hk
    · rename_i x name hce
      split at hk <;> first | exact hk.elim | skip
      rename_i t b l hx hl
      split at hk <;> first | exact hk.elim | skip
      rename_i f hf
      have hmem : o.op.operands.toList = x :: k.args.toList := by rw [hop]; simp [Op.operands, Call.operands, hce]
      have hxv := ho x (by rw [hmem]; simp) _ hx
      have hlv := aevs_ok (a := a) (fun y hy => ho y (by rw [hmem]; exact List.mem_cons_of_mem _ hy)) hl
      generalize hvx : a.eval x = vx at hxv
      cases hxv with
      | ifc hxv =>
        rename_i vv
        refine aCall_ok (vs := vv :: k.args.toList.map a.eval) hn hcall hr hb (LR.cons hxv hlv) (fun w => ?_) hk
        unfold execOp
        rw [hop]
        simp only [resolve, hce, hvx, Sem.run_bind, Sem.run_pure, Result.andThen_ok, invoke]
        have hex : (#[Value.iface t vv] ++ k.args.map a.eval).extract 1 (#[Value.iface t vv] ++ k.args.map a.eval).size = k.args.map a.eval := by
          apply Array.ext'
          simp
          exact List.take_of_length_le (by simp)
        have hget : (#[Value.iface t vv] ++ k.args.map a.eval)[0]? = some (.iface t vv) := by
          rw [Array.getElem?_append_left (by simp)]
          rfl
        rw [hget, hex]
        simp only [aMethod_ok hf]
        congr 2
        apply Array.ext'
        simp
    · rename_i s x hce hargs
      split at hk <;> first | exact hk.elim | skip
      rename_i b d hs hx
      have hargs' : k.args = #[s, x] := by apply Array.ext'; simpa using hargs
      have hmem : o.op.operands.toList = [s, x] := by rw [hop]; simp [Op.operands, Call.operands, hce, hargs']
      exact aUnsafeString_ok (ts := k.argTypes) hr hb (by rw [hop, ← hargs', ← hce]) (ho s (by simp [hmem]) _ hs) (ho x (by simp [hmem]) _ hx) hk
    · exact hk.elim
  · exact hk.elim

/-- one operation -/
def evalOp (P : Program) (I : Aux) (call : CallF) (T : Tr AV) (h : Hp) (c : Nat) (o : Oper) : R1 := match evalPure P T o with
  | some av => .val av h c
  | none => match evalLoad P T h o with
    | some av => .val av h c
    | none => evalEff P I call T h c o
theorem evalOp_ok (hn : Fine P I) (hcall : CallOk P B G w0 call) (hr : HR B G γ h c w) (hb : Keep B w0 w) (ho : Ok P γ T a o.op.operands.toList)
    (hk : KOk B G γ w0 a o.dst K Q (evalOp P I call T h c o)) : o.wp P a w K Q := by
  unfold evalOp at hk
  split at hk
  · rename_i av hav
    obtain ⟨v, h1, h2⟩ := evalPure_ok ho hav
    exact wp_val (h2 w) (hk γ v w (Gm.le.refl _) h1 hr hb)
  · split at hk
    · rename_i av hav
      obtain ⟨v, h1, h2⟩ := evalLoad_ok hr ho hav
      exact wp_val h2 (hk γ v w (Gm.le.refl _) h1 hr hb)
    · exact evalEff_ok hn hcall hr hb ho hk
end
end Go.Sy
