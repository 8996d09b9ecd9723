/- The reckoner's operations that look at no memory. Any program; no conditions. -/
import Derived.Test.YtaehpjaleceppaaGreatDoorSy1
noncomputable section
namespace Go.Sy
open Go
set_option linter.unusedVariables false

/-! operands -/
def aev (P : Program) (T : Tr AV) : Operand → Option AV
  | .tmp t => T.get t
  | .const v => some (norm v)
  | .global g => match Nat.blt g P.globals.size with
    | true => some (.ptr g 0)
    | false => none
  | .func f => some (.fn (.func f) [] [])
def aevs (P : Program) (T : Tr AV) : List Operand → Option (List AV)
  | [] => some []
  | x :: l => match aev P T x with
    | none => none
    | some a => match aevs P T l with
      | none => none
      | some r => some (a :: r)
/-- the operands that are looked at stand for what the frame holds -/
def Ok (P : Program) (γ : Gm) (T : Tr AV) (a : Act) (l : List Operand) : Prop := ∀ x ∈ l, ∀ av, aev P T x = some av → VR γ av (a.eval x)
theorem aevs_ok {P : Program} {γ : Gm} {T : Tr AV} {a : Act} : ∀ {l : List Operand} {as : List AV}, Ok P γ T a l → aevs P T l = some as → LR γ as (l.map a.eval)
  | [], as, _, h => by simp [aevs] at h; subst h; exact LR.nil
  | x :: l, as, ho, h => by
    simp only [aevs] at h
    cases h1 : aev P T x with
    | none => rw [h1] at h; cases h
    | some av =>
      rw [h1] at h
      cases h2 : aevs P T l with
      | none => rw [h2] at h; cases h
      | some r =>
        rw [h2] at h
        injection h with h
        subst h
        exact LR.cons (ho x (by simp) av h1) (aevs_ok (fun y hy => ho y (by simp [hy])) h2)

/-! an operation that looks at nothing but plain values -/
def pureRun (P : Program) {α : Type} : Sem α → Option α
  | .pure a => some a
  | .program k => pureRun P (k P)
  | .mark _ k => pureRun P k
  | _ => none
theorem pureRun_ok {P : Program} {α : Type} {s : Sem α} : ∀ {a : α}, pureRun P s = some a → ∀ w, s.run P w = .ok a w := by
  induction s with
  | pure b => intro a h w; simp [pureRun] at h; subst h; rfl
  | program k ih => intro a h w; exact ih P h w
  | mark m k ih => intro a h w; exact ih h w
  | _ => intro a h; simp [pureRun] at h
def aclosed (P : Program) (T : Tr AV) : List Operand → Bool
  | [] => true
  | x :: l => match aev P T x with
    | none => false
    | some a => match a.close with
      | none => false
      | some _ => aclosed P T l
def arho (P : Program) (T : Tr AV) (x : Operand) : Value := match aev P T x with
  | none => undef
  | some a => match a.close with
    | none => undef
    | some v => v
theorem arho_ok {P : Program} {γ : Gm} {T : Tr AV} {a : Act} : ∀ {l : List Operand}, Ok P γ T a l → aclosed P T l = true → ∀ x ∈ l, arho P T x = a.eval x
  | [], _, _, x, hx => by simp at hx
  | y :: l, ho, h, x, hx => by
    simp only [aclosed] at h
    cases h1 : aev P T y with
    | none => rw [h1] at h; cases h
    | some av =>
      rw [h1] at h
      simp only at h
      cases h2 : av.close with
      | none => rw [h2] at h; cases h
      | some v =>
        rw [h2] at h
        rcases List.mem_cons.1 hx with rfl | hx
        · unfold arho
          rw [h1]
          simp only [h2]
          exact (close_eq h2 (ho x (by simp) av h1)).symm
        · exact arho_ok (fun z hz => ho z (by simp [hz])) h x hx
def isSelect : Op → Bool
  | .select _ _ => true
  | _ => false
def aclosedRun (P : Program) (T : Tr AV) (o : Oper) : Option AV :=
  match isSelect o.op with
  | true => none
  | false => match aclosed P T o.op.operands.toList with
    | false => none
    | true => match pureRun P (execOp (arho P T) o) with
      | some (.value v) => some (norm v)
      | _ => none
theorem aclosedRun_ok {P : Program} {γ : Gm} {T : Tr AV} {a : Act} {o : Oper} {av : AV} (ho : Ok P γ T a o.op.operands.toList) (h : aclosedRun P T o = some av) :
    ∃ v, VR γ av v ∧ ∀ w, (execOp a.eval o).run P w = .ok (.value v) w := by
  unfold aclosedRun at h
  split at h
  · cases h
  · rename_i hs
    split at h
    · cases h
    · rename_i hc
      have hcong := execOp_congr (ρ := arho P T) (ρ' := a.eval) o (fun cs b e => by rw [e] at hs; cases hs) (fun x hx => arho_ok ho hc x (by simpa using hx))
      split at h
      · rename_i v hv
        injection h with h
        subst h
        exact ⟨v, norm_VR v, fun w => by rw [← hcong]; exact pureRun_ok hv w⟩
      · cases h

/-! types -/
def aggB (P : Program) (t : TypeId) : Option Bool := match P.underlying t with
  | some (.struct _) => some true
  | some (.array _ _) => some true
  | some _ => some false
  | none => none
theorem aggB_ok {P : Program} {t : TypeId} {b : Bool} (h : aggB P t = some b) (w : World) : (isAgg t).run P w = .ok b w := by
  unfold aggB at h
  split at h <;> first | (cases h; done) | skip
  all_goals
    rename_i hu
    injection h with h
    subst h
    unfold isAgg
    rw [Sem.run_bind, run_underlying hu w]
    simp only [Result.andThen_ok]
    first | rfl | skip
def szB (P : Program) (t : TypeId) : Option Nat := match P.info? t with
  | some i => some i.size
  | none => none
theorem szB_ok {P : Program} {t : TypeId} {n : Nat} (h : szB P t = some n) (w : World) : (sizeOf t).run P w = .ok n w := by
  unfold szB at h
  split at h
  · rename_i i hi
    injection h with h
    subst h
    simp [sizeOf, typeInfo, hi]
  · cases h
def zeroB (P : Program) (t : TypeId) : Option Value := match P.info? t with
  | some i => i.zero
  | none => none
theorem zeroB_ok {P : Program} {t : TypeId} {v : Value} (h : zeroB P t = some v) (w : World) : (zeroValue t).run P w = .ok v w := by
  unfold zeroB at h
  split at h
  · rename_i i hi
    simp [zeroValue, typeInfo, hi, h]
  · cases h

/-! the operations -/
def aFieldAddr (P : Program) (s : TypeId) (x : AV) (f : Nat) : Option AV := match x with
  | .ptr b off => match P.underlying s with
    | some (.struct fs) => match fs[f]? with
      | some fd => match szB P fd.type with
        | some (_ + 1) => some (.ptr b (Nat.add off fd.offset))
        | _ => none
      | none => none
    | _ => none
  | _ => none
theorem aFieldAddr_ok {P : Program} {γ : Gm} {s : TypeId} {a : AV} {x : Value} {f : Nat} {r : AV} (hx : VR γ a x) (h : aFieldAddr P s a f = some r) :
    ∃ v, VR γ r v ∧ ∀ w, (Instr.fieldAt s x f).run P w = .ok v w := by
  unfold aFieldAddr at h
  split at h <;> first | (cases h; done) | skip
  rename_i b off
  split at h <;> first | (cases h; done) | skip
  rename_i fs hu
  split at h <;> first | (cases h; done) | skip
  rename_i fd hf
  split at h <;> first | (cases h; done) | skip
  rename_i n hn
  injection h with h
  subst h
  cases hx with
  | ptr hb =>
    refine ⟨_, .ptr hb, fun w => ?_⟩
    simp [Instr.fieldAt, run_underlying hu, hf, Instr.sureAddr, fieldPlace, szB_ok hn, Addr.add_mid]

def aPart (P : Program) (t : TypeId) (l : List AV) (off : Nat) : Option AV := match aggB P t with
  | some true => match szB P t with
    | some n => some (.agg ((l.drop off).take n))
    | none => none
  | some false => l[off]?
  | none => none
theorem aPart_ok {P : Program} {γ : Gm} {t : TypeId} {l : List AV} {cs : Array Value} {off : Nat} {r : AV} (hl : LR γ l cs.toList) (h : aPart P t l off = some r) :
    ∃ v, VR γ r v ∧ ∀ w, (part t cs off).run P w = .ok v w := by
  unfold aPart at h
  split at h
  · rename_i ha
    split at h
    · rename_i n hn
      injection h with h
      subst h
      have := VR.aggL ((hl.drop off).take n)
      refine ⟨_, this, fun w => ?_⟩
      have e : ((cs.toList.drop off).take n).toArray = cs.extract off (off + n) := by
        apply Array.ext'
        simp [Array.toList_extract, List.extract]
      rw [e]
      simp [part, aggB_ok ha, szB_ok hn]
    · cases h
  · rename_i ha
    obtain ⟨x, h1, h2⟩ := hl.get h
    refine ⟨x, h2, fun w => ?_⟩
    have h1' : cs[off]? = some x := by simpa using h1
    simp [part, aggB_ok ha, h1']
  · cases h

def aField (P : Program) (s : TypeId) (x : AV) (f : Nat) : Option AV := match x with
  | .agg l => match P.underlying s with
    | some (.struct fs) => match fs[f]? with
      | some fd => aPart P fd.type l fd.offset
      | none => none
    | _ => none
  | _ => none
theorem aField_ok {P : Program} {γ : Gm} {s : TypeId} {a : AV} {x : Value} {f : Nat} {r : AV} (hx : VR γ a x) (h : aField P s a f = some r) :
    ∃ v, VR γ r v ∧ ∀ w, (Instr.field s x f).run P w = .ok v w := by
  unfold aField at h
  split at h <;> first | (cases h; done) | skip
  rename_i l
  split at h <;> first | (cases h; done) | skip
  rename_i fs hu
  split at h <;> first | (cases h; done) | skip
  rename_i fd hf
  have hc := hx.cells
  cases hx with
  | agg hl hh =>
    rename_i vs
    obtain ⟨v, h1, h2⟩ := aPart_ok (cs := vs) (by simpa [AV.cells, Value.cells] using hc) h
    exact ⟨v, h1, fun w => by simp [Instr.field, run_underlying hu, hf, asAgg, h2]⟩

/-- a plain number that is none below zero -/
def aNat : AV → Option (IntKind × Nat)
  | .v (.int k (.ofNat n)) => some (k, n)
  | _ => none
theorem aNat_ok {γ : Gm} {a : AV} {x : Value} {k : IntKind} {n : Nat} (hx : VR γ a x) (h : aNat a = some (k, n)) : x = .int k (n : Int) := by
  unfold aNat at h
  split at h
  · injection h with h
    injection h with h1 h2
    subst h1 h2
    cases hx
    rfl
  · cases h
def aIndexAddr (P : Program) (t : TypeId) (x i : AV) : Option AV := match aNat i with
  | none => none
  | some (_, i) => match P.underlying t with
    | some (.slice e) => match szB P e with
      | none => none
      | some z => match x with
        | .sl b off len _ => match Nat.blt i len with
          | true => some (.ptr b (Nat.add off (Nat.mul i z)))
          | false => none
        | .slg b off len _ => match Nat.blt i len with
          | true => some (.ptr b (Nat.add off (Nat.mul i z)))
          | false => none
        | _ => none
    | some (.array n e) => match szB P e with
      | none => none
      | some z => match x with
        | .ptr b off => match Nat.blt i n with
          | true => some (.ptr b (Nat.add off (Nat.mul i z)))
          | false => none
        | _ => none
    | _ => none
theorem blt_lt {a b : Nat} (h : Nat.blt a b = true) : a < b := Nat.le_of_ble_eq_true h
theorem aIndexAddr_ok {P : Program} {γ : Gm} {t : TypeId} {a ai : AV} {x i : Value} {r : AV} (hx : VR γ a x) (hi : VR γ ai i) (h : aIndexAddr P t a ai = some r) :
    ∃ v, VR γ r v ∧ ∀ w, (Instr.indexAt t x i).run P w = .ok v w := by
  unfold aIndexAddr at h
  split at h
  · cases h
  rename_i k n hn
  obtain rfl := aNat_ok hi hn
  split at h
  · rename_i e hu
    split at h
    · cases h
    rename_i z hz
    split at h
    · split at h <;> first | (cases h; done) | skip
      rename_i b off len cap hlt
      injection h with h
      subst h
      have hlt := blt_lt hlt
      cases hx with
      | sl hb hl =>
        refine ⟨_, .ptr hb, fun w => ?_⟩
        simp [Instr.indexAt, asIntOf, run_underlying hu, szB_ok hz, Addr.add_mid, hlt]
    · split at h <;> first | (cases h; done) | skip
      rename_i b off len esz hlt
      injection h with h
      subst h
      have hlt := blt_lt hlt
      cases hx with
      | slg hb hl hm ho =>
        obtain ⟨rfl, _⟩ := ho (.inr (by omega))
        refine ⟨_, .ptr hb, fun w => ?_⟩
        simp [Instr.indexAt, asIntOf, run_underlying hu, szB_ok hz, Addr.add_mid, hlt]
    · cases h
  · rename_i m e hu
    split at h
    · cases h
    rename_i z hz
    split at h
    · split at h <;> first | (cases h; done) | skip
      rename_i b off hlt
      injection h with h
      subst h
      have hlt := blt_lt hlt
      cases hx with
      | ptr hb =>
        refine ⟨_, .ptr hb, fun w => ?_⟩
        simp [Instr.indexAt, asIntOf, run_underlying hu, Instr.sureAddr, szB_ok hz, Addr.add_mid, hlt]
    · cases h
  · cases h

def aIndex (P : Program) (t : TypeId) (x i : AV) : Option AV := match x with
  | .agg l => match aNat i with
    | none => none
    | some (_, i) => match P.underlying t with
      | some (.array n e) => match szB P e with
        | none => none
        | some z => match Nat.blt i n with
          | true => aPart P e l (Nat.mul i z)
          | false => none
      | _ => none
  | _ => none
theorem aIndex_ok {P : Program} {γ : Gm} {t : TypeId} {a ai : AV} {x i : Value} {r : AV} (hx : VR γ a x) (hi : VR γ ai i) (h : aIndex P t a ai = some r) :
    ∃ v, VR γ r v ∧ ∀ w, (Instr.index t x i).run P w = .ok v w := by
  unfold aIndex at h
  split at h <;> first | (cases h; done) | skip
  rename_i l
  split at h
  · cases h
  rename_i k n hn
  obtain rfl := aNat_ok hi hn
  split at h <;> first | (cases h; done) | skip
  rename_i m e hu
  split at h
  · cases h
  rename_i z hz
  split at h <;> first | (cases h; done) | skip
  rename_i hlt
  have hlt := blt_lt hlt
  have hc := hx.cells
  cases hx with
  | agg hl hh =>
    rename_i vs
    obtain ⟨v, h1, h2⟩ := aPart_ok (cs := vs) (by simpa [AV.cells, Value.cells] using hc) h
    refine ⟨v, h1, fun w => ?_⟩
    have h2' : ∀ w, (part e vs (n * z)).run P w = .ok v w := h2
    simp [Instr.index, asIntOf, run_underlying hu, szB_ok hz, hlt, h2']

def aExtract (x : AV) (i : Nat) : Option AV := match x with
  | .tup l => l[i]?
  | _ => none
theorem aExtract_ok {P : Program} {γ : Gm} {a : AV} {x : Value} {i : Nat} {r : AV} (hx : VR γ a x) (h : aExtract a i = some r) :
    ∃ v, VR γ r v ∧ ∀ w, (Instr.extract x i).run P w = .ok v w := by
  unfold aExtract at h
  split at h <;> first | (cases h; done) | skip
  rename_i l
  cases hx with
  | tup hl hh =>
    rename_i vs
    obtain ⟨x, h1, h2⟩ := LR.get (γ := γ) (as := l) (vs := vs.toList) ⟨by simpa using hl, fun i a x h1 h2 => hh i a x h1 (by simpa using h2)⟩ h
    have h1' : vs[i]? = some x := by simpa using h1
    exact ⟨x, h2, fun w => by simp [Instr.extract, h1']⟩

/-- an upper bound that is at most the length (none: the length) -/
def aBound (x : Option AV) (dflt most : Nat) : Option Nat := match x with
  | none => some dflt
  | some a => match aNat a with
    | none => none
    | some (_, n) => match Nat.ble n most with
      | true => some n
      | false => none
def aSlice (P : Program) (t : TypeId) (x : AV) (lo hi mx : Option AV) : Option AV := match P.underlying t with
  | some (.slice e) => match szB P e with
    | none => none
    | some z => match x with
      | .slg b off len esz => match mx with
        | some mx => match aNat mx with
          | some (_, 0) => match aBound hi 0 0 with
            | some 0 => match hi, aBound lo 0 0 with
              | some _, some 0 => match Nat.beq off 0 with
                | true => some (.sl b 0 0 0)
                | false => none
              | _, _ => none
            | _ => none
          | _ => none
        | none => match aBound hi len len with
          | none => none
          | some h => match aBound lo 0 h with
            | none => none
            | some l => match Nat.beq z esz, Nat.blt 0 z with
              | true, true => some (.slg b (Nat.add off (Nat.mul l z)) (Nat.sub h l) esz)
              | _, _ => none
      | .sl b off len cap => match mx with
        | some _ => none
        | none => match aBound hi len cap with
          | none => none
          | some h => match aBound lo 0 h with
            | none => none
            | some l => match Nat.beq cap l with
              | true => some (.sl b off (Nat.sub h l) (Nat.sub cap l))
              | false => some (.sl b (Nat.add off (Nat.mul l z)) (Nat.sub h l) (Nat.sub cap l))
      | _ => none
  | some (.array n e) => match szB P e with
    | none => none
    | some z => match x with
      | .ptr b off => match mx with
        | some _ => none
        | none => match aBound hi n n with
          | none => none
          | some h => match aBound lo 0 h with
            | none => none
            | some l => match Nat.beq n l with
              | true => some (.sl b off (Nat.sub h l) (Nat.sub n l))
              | false => some (.sl b (Nat.add off (Nat.mul l z)) (Nat.sub h l) (Nat.sub n l))
      | _ => none
  | _ => none
/-- options side by side -/
def OVR (γ : Gm) : Option AV → Option Value → Prop
  | none, none => True
  | some a, some x => VR γ a x
  | _, _ => False
theorem aBound_ok {P : Program} {γ : Gm} {a : Option AV} {x : Option Value} {d most n : Nat} (hx : OVR γ a x) (h : aBound a d most = some n) :
    (x = none ∧ n = d) ∨ (n ≤ most ∧ ∃ k, x = some (.int k (n : Int))) := by
  unfold aBound at h
  cases a with
  | none =>
    cases x with
    | none => injection h with h; exact .inl ⟨rfl, h.symm⟩
    | some x => exact hx.elim
  | some a =>
    cases x with
    | none => exact hx.elim
    | some x =>
      simp only at h
      split at h
      · cases h
      · rename_i k m hm
        split at h
        · rename_i hle
          injection h with h
          subst h
          exact .inr ⟨by simpa using Nat.le_of_ble_eq_true hle, k, by rw [aNat_ok hx hm]⟩
        · cases h
theorem sliceBounds_ok {P : Program} (isS : Bool) (len cap l h : Nat) (lo hi : Option Value) (hcap : len ≤ cap) (hh : (hi = none ∧ h = len) ∨ (h ≤ cap ∧ ∃ k, hi = some (.int k (h : Int))))
    (hl : (lo = none ∧ l = 0) ∨ (l ≤ h ∧ ∃ k, lo = some (.int k (l : Int)))) (w : World) : (Instr.sliceBounds isS len cap lo hi none).run P w = .ok (l, h, cap) w := by
  rcases hh with ⟨rfl, rfl⟩ | ⟨h1, k, rfl⟩ <;> rcases hl with ⟨rfl, rfl⟩ | ⟨h2, k', rfl⟩
  · simp [Instr.sliceBounds]
  · simp [Instr.sliceBounds, Instr.sliceBound, asIntOf]
    omega
  · simp [Instr.sliceBounds, Instr.sliceBound, asIntOf]
    omega
  · simp [Instr.sliceBounds, Instr.sliceBound, asIntOf, h1, h2]
theorem aSlice_ok {P : Program} {γ : Gm} {t : TypeId} {a : AV} {x : Value} {alo ahi amx : Option AV} {lo hi mx : Option Value} {r : AV} (hx : VR γ a x)
    (hlo : OVR γ alo lo) (hhi : OVR γ ahi hi) (hmx : OVR γ amx mx) (h : aSlice P t a alo ahi amx = some r) :
    ∃ v, VR γ r v ∧ ∀ w, (Instr.sliceAt t x lo hi mx).run P w = .ok v w := by
  unfold aSlice at h
  split at h
  · rename_i e hu
    split at h
    · cases h
    rename_i z hz
    split at h
    · rename_i b off len esz
      split at h
      · -- [:0:0]
        rename_i mxa
        split at h <;> first | (cases h; done) | skip
        rename_i k1 hk1
        split at h <;> first | (cases h; done) | skip
        rename_i hb0
        split at h <;> first | (cases h; done) | skip
        rename_i hia hlo0
        split at h <;> first | (cases h; done) | skip
        rename_i hoff
        have hoff : off = 0 := by simpa using hoff
        injection h with h
        subst h hoff
        cases mx with
        | none => exact hmx.elim
        | some mx =>
          obtain rfl := aNat_ok hmx hk1
          cases hx with
          | slg hb hl hm ho =>
            obtain ⟨rfl, _⟩ := ho (.inl rfl)
            rename_i cap
            refine ⟨_, .sl hb (Nat.le_refl _), fun w => ?_⟩
            rcases aBound_ok (P := P) hhi hb0 with ⟨rfl, _⟩ | ⟨_, k2, rfl⟩
            · exact hhi.elim
            · rcases aBound_ok (P := P) hlo hlo0 with ⟨rfl, _⟩ | ⟨_, k3, rfl⟩
              · simp [Instr.sliceAt, run_underlying hu, Instr.slice, Instr.sliceBounds, Instr.sliceBound, asIntOf, szB_ok hz]
              · simp [Instr.sliceAt, run_underlying hu, Instr.slice, Instr.sliceBounds, Instr.sliceBound, asIntOf, szB_ok hz]
      · split at h
        · cases h
        rename_i hh hhb
        split at h
        · cases h
        rename_i l hlb
        split at h <;> first | (cases h; done) | skip
        rename_i hez hz0
        have hez : z = esz := by simpa using hez
        have hz0 := blt_lt hz0
        injection h with h
        subst h hez
        cases mx with
        | some mx => exact hmx.elim
        | none =>
          have k1 := aBound_ok (P := P) hhi hhb
          have k2 := aBound_ok (P := P) hlo hlb
          cases hx with
          | slg hb hl hm ho =>
            rename_i n N o cap
            have hhl : hh ≤ len := by rcases k1 with ⟨_, e⟩ | ⟨e, _⟩ <;> omega
            have hll : l ≤ hh := by rcases k2 with ⟨_, e⟩ | ⟨e, _⟩ <;> omega
            have k1' : (hi = none ∧ hh = len) ∨ (hh ≤ cap ∧ ∃ k, hi = some (.int k (hh : Int))) := by
              rcases k1 with e | ⟨e, e2⟩
              · exact .inl e
              · exact .inr ⟨by omega, e2⟩
            have hb2 := fun w => sliceBounds_ok (P := P) true len cap l hh lo hi hl k1' k2 w
            refine ⟨.slice (if cap = l then some ⟨n, o, none⟩ else some ⟨n, o + l * z, none⟩) (hh - l) (cap - l), ?_, fun w => ?_⟩
            · split
              · rename_i hc
                refine .slg hb (by simp only [Nat.sub_eq]; omega) (by omega) (fun hor => ?_)
                simp only [Nat.add_eq, Nat.mul_eq, Nat.sub_eq] at hor
                rcases hor with hor | hor
                · have h0 : off = 0 := by omega
                  have hl0 : l = 0 := by
                    have : l * z = 0 := by omega
                    rcases Nat.mul_eq_zero.1 this with e | e <;> omega
                  obtain ⟨e1, e2⟩ := ho (.inl h0)
                  subst hl0
                  simp only [Nat.add_eq, Nat.mul_eq, Nat.zero_mul, Nat.add_zero, Nat.sub_zero]
                  exact ⟨e1, e2⟩
                · omega
              · rename_i hc
                refine .slg hb (by simp only [Nat.sub_eq]; omega) (by omega) (fun hor => ?_)
                simp only [Nat.add_eq, Nat.mul_eq, Nat.sub_eq] at hor
                have hpre : off = 0 ∨ 0 < len := by
                  rcases hor with hor | hor
                  · left; omega
                  · right; omega
                obtain ⟨e1, e2⟩ := ho hpre
                subst e1
                refine ⟨rfl, ?_⟩
                simp only [Nat.add_eq, Nat.mul_eq]
                have : l * z + (cap - l) * z = cap * z := by rw [← Nat.add_mul]; congr 1; omega
                omega
            · simp [Instr.sliceAt, run_underlying hu, Instr.slice, hb2, szB_ok hz, Addr.add_mid]
    · rename_i b off len cap
      split at h
      · cases h
      split at h
      · cases h
      rename_i hh hhb
      split at h
      · cases h
      rename_i l hlb
      cases mx with
      | some mx => exact hmx.elim
      | none =>
        have k1 := aBound_ok (P := P) hhi hhb
        have k2 := aBound_ok (P := P) hlo hlb
        cases hx with
        | sl hb hl =>
          have hb2 := fun w => sliceBounds_ok (P := P) true len cap l hh lo hi hl k1 k2 w
          have hhl : hh ≤ cap := by rcases k1 with ⟨_, e⟩ | ⟨e, _⟩ <;> omega
          split at h
          · rename_i hc
            have hc : cap = l := by simpa using hc
            injection h with h
            subst h hc
            refine ⟨_, .sl hb (by simp only [Nat.sub_eq]; omega), fun w => ?_⟩
            simp [Instr.sliceAt, run_underlying hu, Instr.slice, hb2, szB_ok hz]
          · rename_i hc
            have hc : cap ≠ l := fun e => by rw [e] at hc; simp at hc
            injection h with h
            subst h
            refine ⟨_, .sl hb (by simp only [Nat.sub_eq]; omega), fun w => ?_⟩
            simp [Instr.sliceAt, run_underlying hu, Instr.slice, hb2, szB_ok hz, hc, Addr.add_mid]
    · cases h
  · rename_i m e hu
    split at h
    · cases h
    rename_i z hz
    split at h <;> first | (cases h; done) | skip
    rename_i b off
    split at h
    · cases h
    split at h
    · cases h
    rename_i hh hhb
    split at h
    · cases h
    rename_i l hlb
    cases mx with
    | some mx => exact hmx.elim
    | none =>
      have k1 := aBound_ok (P := P) hhi hhb
      have k2 := aBound_ok (P := P) hlo hlb
      cases hx with
      | ptr hb =>
        have hb2 := fun w => sliceBounds_ok (P := P) false m m l hh lo hi (Nat.le_refl _) k1 k2 w
        have hhl : hh ≤ m := by rcases k1 with ⟨_, e⟩ | ⟨e, _⟩ <;> omega
        split at h
        · rename_i hc
          have hc : m = l := by simpa using hc
          injection h with h
          subst h hc
          refine ⟨_, .sl hb (by simp only [Nat.sub_eq]; omega), fun w => ?_⟩
          simp [Instr.sliceAt, run_underlying hu, Instr.sureAddr, hb2, szB_ok hz]
        · rename_i hc
          have hc : m ≠ l := fun e => by rw [e] at hc; simp at hc
          injection h with h
          subst h
          refine ⟨_, .sl hb (by simp only [Nat.sub_eq]; omega), fun w => ?_⟩
          simp [Instr.sliceAt, run_underlying hu, Instr.sureAddr, hb2, szB_ok hz, hc, Addr.add_mid]
  · cases h

end Go.Sy
