/- A reckoner for closed runs of a program: its values and its memory, and what they stand for in the model's world. Any program; no conditions. -/
import Derived.Recover
import Derived.Orders
import Derived.Deep.MidRow
import Derived.Maps.AppendAt
import Derived.Below
import Derived.ProofKit
namespace Go.Sy
open Go
set_option linter.unusedVariables false

/-! a store by numbers -/
inductive Tr (α : Type) where
  | leaf
  | node (x : Option α) (l r : Tr α)

namespace Tr
variable {α : Type}
def get0 : Tr α → Nat → Option α
  | .leaf, _ => none
  | .node x l r, k => match k with
    | 0 => x
    | k + 1 => match Nat.beq (Nat.mod k 2) 0 with
      | true => l.get0 (Nat.div k 2)
      | false => r.get0 (Nat.div k 2)
def putF (v : Option α) : Nat → Tr α → Nat → Tr α
  | 0, t, _ => t
  | f + 1, t, k => match t with
    | .leaf => (match k with
      | 0 => .node v .leaf .leaf
      | k + 1 => match Nat.beq (Nat.mod k 2) 0 with
        | true => .node none (putF v f .leaf (Nat.div k 2)) .leaf
        | false => .node none .leaf (putF v f .leaf (Nat.div k 2)))
    | .node x l r => (match k with
      | 0 => .node v l r
      | k + 1 => match Nat.beq (Nat.mod k 2) 0 with
        | true => .node x (putF v f l (Nat.div k 2)) r
        | false => .node x l (putF v f r (Nat.div k 2)))

theorem half_inj {k j : Nat} (h : Nat.beq (Nat.mod k 2) 0 = Nat.beq (Nat.mod j 2) 0) (h2 : Nat.div k 2 = Nat.div j 2) : k = j := by
  have e1 : Nat.mod k 2 = k % 2 := rfl
  have e2 : Nat.mod j 2 = j % 2 := rfl
  have e3 : Nat.div k 2 = k / 2 := rfl
  have e4 : Nat.div j 2 = j / 2 := rfl
  rw [e1, e2] at h
  rw [e3, e4] at h2
  rcases Nat.mod_two_eq_zero_or_one k with a | a <;> rcases Nat.mod_two_eq_zero_or_one j with b | b <;> rw [a, b] at h <;> simp at h <;> omega
theorem get0_putF (v : Option α) : ∀ (f : Nat) (t : Tr α) (k j : Nat), k < f → (putF v f t k).get0 j = if j = k then v else t.get0 j := by
  intro f
  induction f with
  | zero => intro t k j h; omega
  | succ f ih =>
    intro t k j hk
    cases k with
    | zero =>
      cases t with
      | leaf =>
        cases j with
        | zero => rfl
        | succ j =>
          rw [if_neg (by omega)]
          simp only [putF, get0]
          split <;> rfl
      | node x l r =>
        cases j with
        | zero => rfl
        | succ j =>
          rw [if_neg (by omega)]
          simp only [putF, get0]
    | succ k =>
      have hd : Nat.div k 2 < f := by
        have : Nat.div k 2 = k / 2 := rfl
        omega
      have key : ∀ (x : Option α) (l r : Tr α), (match Nat.beq (Nat.mod k 2) 0 with
          | true => Tr.node x (putF v f l (Nat.div k 2)) r
          | false => Tr.node x l (putF v f r (Nat.div k 2))).get0 j = if j = k + 1 then v else (Tr.node x l r).get0 j := by
        intro x l r
        cases j with
        | zero =>
          rw [if_neg (by omega)]
          cases Nat.beq (Nat.mod k 2) 0 <;> rfl
        | succ j =>
          cases hkb : Nat.beq (Nat.mod k 2) 0 <;> cases hjb : Nat.beq (Nat.mod j 2) 0
          · simp only [get0, hjb]
            rw [ih r _ _ hd]
            by_cases e : Nat.div j 2 = Nat.div k 2
            · have := half_inj (hjb.trans hkb.symm) e
              rw [if_pos e, if_pos (by omega)]
            · rw [if_neg e, if_neg (fun h => e (by rw [show j = k by omega]))]
          · simp only [get0, hjb]
            rw [if_neg (fun h => by rw [show j = k by omega, hkb] at hjb; cases hjb)]
          · simp only [get0, hjb]
            rw [if_neg (fun h => by rw [show j = k by omega, hkb] at hjb; cases hjb)]
          · simp only [get0, hjb]
            rw [ih l _ _ hd]
            by_cases e : Nat.div j 2 = Nat.div k 2
            · have := half_inj (hjb.trans hkb.symm) e
              rw [if_pos e, if_pos (by omega)]
            · rw [if_neg e, if_neg (fun h => e (by rw [show j = k by omega]))]
      cases t with
      | leaf =>
        have := key none .leaf .leaf
        simp only [putF]
        rw [this]
        congr 1
        cases j with
        | zero => rfl
        | succ j => simp only [get0]; split <;> rfl
      | node x l r => exact key x l r
/-! the same, as the kernel likes it -/
inductive Path where
  | here
  | left (p : Path)
  | right (p : Path)
noncomputable def pathF (f : Nat) : Nat → Path := Nat.rec (motive := fun _ => Nat → Path) (fun _ => .here) (fun _ ih k => Nat.rec (motive := fun _ => Path) .here (fun j _ => Bool.rec (motive := fun _ => Path) (.right (ih (Nat.div j 2))) (.left (ih (Nat.div j 2))) (Nat.beq (Nat.mod j 2) 0)) k) f
noncomputable def pathOf (k : Nat) : Path := pathF (Nat.succ k) k
noncomputable def getP (t : Tr α) : Path → Option α :=
  Tr.rec (motive := fun _ => Path → Option α) (fun _ => none) (fun x _ _ gl gr p => Path.rec (motive := fun _ => Option α) x (fun q _ => gl q) (fun q _ => gr q) p) t
noncomputable def putP (v : Option α) (p : Path) : Tr α → Tr α :=
  Path.rec (motive := fun _ => Tr α → Tr α) (Tr.rec (motive := fun _ => Tr α) (.node v .leaf .leaf) (fun _ l r _ _ => .node v l r))
    (fun _ ih => Tr.rec (motive := fun _ => Tr α) (.node none (ih .leaf) .leaf) (fun x l r _ _ => .node x (ih l) r))
    (fun _ ih => Tr.rec (motive := fun _ => Tr α) (.node none .leaf (ih .leaf)) (fun x l r _ _ => .node x l (ih r))) p
noncomputable def get (t : Tr α) (k : Nat) : Option α := getP t (pathOf k)
noncomputable def put (t : Tr α) (k : Nat) (v : Option α) : Tr α := putP v (pathOf k) t
theorem pathF_succ (f j : Nat) : pathF (f + 1) (j + 1) = match Nat.beq (Nat.mod j 2) 0 with
    | true => .left (pathF f (Nat.div j 2))
    | false => .right (pathF f (Nat.div j 2)) := by
  show (Bool.rec (motive := fun _ => Path) (.right (pathF f (Nat.div j 2))) (.left (pathF f (Nat.div j 2))) (Nat.beq (Nat.mod j 2) 0)) = _
  cases Nat.beq (Nat.mod j 2) 0 <;> rfl
theorem half_lt {f k : Nat} (h : k + 1 < f + 1) : Nat.div k 2 < f := by
  have : Nat.div k 2 = k / 2 := rfl
  omega
theorem getP_eq : ∀ (f : Nat) (t : Tr α) (k : Nat), k < f → getP t (pathF f k) = t.get0 k := by
  intro f
  induction f with
  | zero => intro t k h; omega
  | succ f ih =>
    intro t k h
    cases t with
    | leaf => rfl
    | node x l r =>
      cases k with
      | zero => rfl
      | succ k =>
        rw [pathF_succ]
        simp only [get0]
        cases Nat.beq (Nat.mod k 2) 0 with
        | true => exact ih l _ (half_lt h)
        | false => exact ih r _ (half_lt h)
theorem putP_eq (v : Option α) : ∀ (f : Nat) (t : Tr α) (k : Nat), k < f → putP v (pathF f k) t = putF v f t k := by
  intro f
  induction f with
  | zero => intro t k h; omega
  | succ f ih =>
    intro t k h
    cases k with
    | zero => cases t <;> rfl
    | succ k =>
      rw [pathF_succ]
      cases t with
      | leaf =>
        simp only [putF]
        cases Nat.beq (Nat.mod k 2) 0 with
        | true => exact congrArg (fun z => Tr.node none z .leaf) (ih .leaf _ (half_lt h))
        | false => exact congrArg (fun z => Tr.node none .leaf z) (ih .leaf _ (half_lt h))
      | node x l r =>
        simp only [putF]
        cases Nat.beq (Nat.mod k 2) 0 with
        | true => exact congrArg (fun z => Tr.node x z r) (ih l _ (half_lt h))
        | false => exact congrArg (fun z => Tr.node x l z) (ih r _ (half_lt h))
theorem get_eq (t : Tr α) (k : Nat) : t.get k = t.get0 k := getP_eq (k + 1) t k (by omega)
theorem get_leaf (k : Nat) : (leaf : Tr α).get k = none := rfl
theorem get_put (t : Tr α) (k : Nat) (v : Option α) (j : Nat) : (t.put k v).get j = if j = k then v else t.get j := by
  rw [get_eq, get_eq]
  have : t.put k v = putF v (k + 1) t k := putP_eq v (k + 1) t k (by omega)
  rw [this]
  exact get0_putF v (k + 1) t k j (by omega)
theorem get_put_same (t : Tr α) (k : Nat) (v : Option α) : (t.put k v).get k = v := by rw [get_put, if_pos rfl]
theorem get_put_ne (t : Tr α) {k j : Nat} (v : Option α) (h : j ≠ k) : (t.put k v).get j = t.get j := by rw [get_put, if_neg h]
end Tr

/-! values -/
/-- a value: one as it is, or one that names blocks by numbers of the reckoner's own -/
inductive AV where
  | v (x : Value)
  | ptr (b off : Nat)
  | sl (b off len cap : Nat)
  | slg (b off len esz : Nat)
  | agg (cs : List AV)
  | tup (vs : List AV)
  | ifc (t : Nat) (x : AV)
  | fn (f : Fn) (first cap : List AV)
  | map (b : Nat)
  deriving Inhabited

abbrev Gm := Nat → Option (Nat × Nat)
def Gm.le (γ γ' : Gm) : Prop := ∀ b p, γ b = some p → γ' b = some p
theorem Gm.le.refl (γ : Gm) : Gm.le γ γ := fun _ _ h => h
theorem Gm.le.trans {a b c : Gm} (h : Gm.le a b) (k : Gm.le b c) : Gm.le a c := fun x p e => k x p (h x p e)
def Gm.upd (γ : Gm) (b : Nat) (p : Nat × Nat) : Gm := fun x => if x = b then some p else γ x
theorem Gm.upd_le {γ : Gm} {b : Nat} (h : γ b = none) (p : Nat × Nat) : Gm.le γ (γ.upd b p) := by
  intro x q e
  unfold Gm.upd
  rw [if_neg (by rintro rfl; rw [h] at e; cases e)]
  exact e
theorem Gm.upd_same (γ : Gm) (b : Nat) (p : Nat × Nat) : γ.upd b p b = some p := by simp [Gm.upd]

/-- what a value stands for, the blocks being where 'γ' says: its number, and how many cells it has -/
inductive VR (γ : Gm) : AV → Value → Prop where
  | v (x : Value) : VR γ (.v x) x
  | ptr {b off n N : Nat} (h : γ b = some (n, N)) : VR γ (.ptr b off) (.pointer (some ⟨n, off, none⟩))
  | sl {b off len cap n N : Nat} (h : γ b = some (n, N)) (hl : len ≤ cap) : VR γ (.sl b off len cap) (.slice (some ⟨n, off, none⟩) len cap)
  | slg {b off len esz n N o cap : Nat} (h : γ b = some (n, N)) (hl : len ≤ cap) (hm : cap ≤ maxLen) (ho : off = 0 ∨ 0 < len → o = off ∧ off + cap * esz = N) :
      VR γ (.slg b off len esz) (.slice (some ⟨n, o, none⟩) len cap)
  | agg {as : List AV} {vs : Array Value} (hl : as.length = vs.size) (h : ∀ (i : Nat) (a : AV) (x : Value), as[i]? = some a → vs[i]? = some x → VR γ a x) : VR γ (.agg as) (.agg vs)
  | tup {as : List AV} {vs : Array Value} (hl : as.length = vs.size) (h : ∀ (i : Nat) (a : AV) (x : Value), as[i]? = some a → vs[i]? = some x → VR γ a x) : VR γ (.tup as) (.tuple vs)
  | ifc {t : Nat} {a : AV} {x : Value} (h : VR γ a x) : VR γ (.ifc t a) (.iface t x)
  | fn {f : Fn} {as bs : List AV} {vs ws : Array Value} (hl : as.length = vs.size) (h : ∀ (i : Nat) (a : AV) (x : Value), as[i]? = some a → vs[i]? = some x → VR γ a x)
      (hl' : bs.length = ws.size) (h' : ∀ (i : Nat) (a : AV) (x : Value), bs[i]? = some a → ws[i]? = some x → VR γ a x) : VR γ (.fn f as bs) (.func f vs ws)
  | map {b n N : Nat} (h : γ b = some (n, N)) : VR γ (.map b) (.map (some n))

theorem VR.mono {γ γ' : Gm} (hle : Gm.le γ γ') {a : AV} {x : Value} (h : VR γ a x) : VR γ' a x := by
  induction h with
  | v x => exact .v x
  | ptr h => exact .ptr (hle _ _ h)
  | sl h hl => exact .sl (hle _ _ h) hl
  | slg h hl hm ho => exact .slg (hle _ _ h) hl hm ho
  | agg hl _ ih => exact .agg hl ih
  | tup hl _ ih => exact .tup hl ih
  | ifc _ ih => exact .ifc ih
  | fn hl _ hl' _ ih ih' => exact .fn hl ih hl' ih'
  | map h => exact .map (hle _ _ h)

/-- a row of values -/
def LR (γ : Gm) (as : List AV) (vs : List Value) : Prop := as.length = vs.length ∧ ∀ (i : Nat) (a : AV) (x : Value), as[i]? = some a → vs[i]? = some x → VR γ a x
section
variable {γ γ' : Gm}
theorem LR.mono (hle : Gm.le γ γ') {as : List AV} {vs : List Value} (h : LR γ as vs) : LR γ' as vs := ⟨h.1, fun i a x h1 h2 => (h.2 i a x h1 h2).mono hle⟩
theorem LR.nil : LR γ [] [] := ⟨rfl, by simp⟩
theorem LR.cons {a : AV} {x : Value} {as : List AV} {vs : List Value} (h : VR γ a x) (hs : LR γ as vs) : LR γ (a :: as) (x :: vs) :=
  ⟨by simp [hs.1], fun i b y h1 h2 => by
    cases i with
    | zero => simp at h1 h2; subst h1 h2; exact h
    | succ i => simp at h1 h2; exact hs.2 i b y h1 h2⟩
theorem LR.get {as : List AV} {vs : List Value} (h : LR γ as vs) {i : Nat} {a : AV} (hi : as[i]? = some a) : ∃ x, vs[i]? = some x ∧ VR γ a x := by
  have : i < vs.length := by rw [← h.1]; exact (List.getElem?_eq_some_iff.1 hi).1
  exact ⟨vs[i], List.getElem?_eq_getElem this, h.2 i a _ hi (List.getElem?_eq_getElem this)⟩
theorem LR.append {as bs : List AV} {vs ws : List Value} (h : LR γ as vs) (k : LR γ bs ws) : LR γ (as ++ bs) (vs ++ ws) := by
  refine ⟨by simp [h.1, k.1], fun i a x h1 h2 => ?_⟩
  by_cases hi : i < as.length
  · rw [List.getElem?_append_left hi] at h1
    rw [List.getElem?_append_left (by rw [← h.1]; exact hi)] at h2
    exact h.2 i a x h1 h2
  · rw [List.getElem?_append_right (by omega)] at h1
    rw [List.getElem?_append_right (by rw [← h.1]; omega), ← h.1] at h2
    exact k.2 _ a x h1 h2
theorem LR.drop {as : List AV} {vs : List Value} (h : LR γ as vs) (n : Nat) : LR γ (as.drop n) (vs.drop n) :=
  ⟨by simp [h.1], fun i a x h1 h2 => h.2 (n + i) a x (by simpa using h1) (by simpa using h2)⟩
theorem LR.take {as : List AV} {vs : List Value} (h : LR γ as vs) (n : Nat) : LR γ (as.take n) (vs.take n) :=
  ⟨by simp [h.1], fun i a x h1 h2 => by
    rw [List.getElem?_take] at h1 h2
    split at h1
    · rename_i hi; rw [if_pos hi] at h2; exact h.2 i a x h1 h2
    · cases h1⟩
theorem LR.vs (vs : List Value) : LR γ (vs.map .v) vs :=
  ⟨by simp, fun i a x h1 h2 => by
    simp [h2] at h1
    subst h1
    exact .v x⟩
theorem VR.aggL {as : List AV} {vs : List Value} (h : LR γ as vs) : VR γ (.agg as) (.agg vs.toArray) := .agg (by simpa using h.1) (fun i a x h1 h2 => h.2 i a x h1 (by simpa using h2))
theorem VR.tupL {as : List AV} {vs : List Value} (h : LR γ as vs) : VR γ (.tup as) (.tuple vs.toArray) := .tup (by simpa using h.1) (fun i a x h1 h2 => h.2 i a x h1 (by simpa using h2))
end

/-- a value's cells -/
def AV.cells : AV → List AV
  | .agg l => l
  | .v x => x.cells.toList.map .v
  | a => [a]
theorem VR.cells {γ : Gm} {a : AV} {x : Value} (h : VR γ a x) : LR γ a.cells x.cells.toList := by
  cases h with
  | v x => exact LR.vs _
  | agg hl h => exact ⟨by simpa [AV.cells, Value.cells] using hl, fun i a x h1 h2 => h i a x h1 (by simpa [Value.cells] using h2)⟩
  | ptr h => exact LR.cons (.ptr h) LR.nil
  | sl h hl => exact LR.cons (.sl h hl) LR.nil
  | slg h hl hm ho => exact LR.cons (.slg h hl hm ho) LR.nil
  | tup hl h => exact LR.cons (.tup hl h) LR.nil
  | ifc h => exact LR.cons (.ifc h) LR.nil
  | fn hl h hl' h' => exact LR.cons (.fn hl h hl' h') LR.nil
  | map h => exact LR.cons (.map h) LR.nil
/-- may it lie in a cell? -/
def AV.one : AV → Bool
  | .v x => x.oneCell'
  | .agg _ | .tup _ => false
  | _ => true
theorem VR.one {γ : Gm} {a : AV} {x : Value} (h : VR γ a x) (ha : a.one = true) : x.oneCell' = true := by
  cases h <;> first | exact ha | rfl | (simp [AV.one] at ha)
theorem LR.one {γ : Gm} {as : List AV} {vs : List Value} (h : LR γ as vs) (ha : as.all AV.one = true) : ∀ x ∈ vs, x.oneCell' = true := by
  intro x hx
  obtain ⟨i, hi⟩ := List.mem_iff_getElem?.1 hx
  have hl : i < as.length := by rw [h.1]; exact (List.getElem?_eq_some_iff.1 hi).1
  exact (h.2 i _ x (List.getElem?_eq_getElem hl) hi).one (List.all_eq_true.1 ha _ (List.getElem_mem hl))

/-! a value that names no block -/
def closeL : List AV → Option (List Value)
  | [] => some []
  | .v x :: l => match closeL l with
    | some r => some (x :: r)
    | none => none
  | _ :: _ => none
def AV.close : AV → Option Value
  | .v x => some x
  | .agg l => match closeL l with
    | some r => some (.agg r.toArray)
    | none => none
  | .ifc t (.v x) => some (.iface t x)
  | .fn f [] [] => some (.func f #[] #[])
  | _ => none
theorem closeL_eq {γ : Gm} : ∀ {as : List AV} {vs ws : List Value}, closeL as = some ws → LR γ as vs → vs = ws
  | [], vs, ws, h, hr => by
    simp [closeL] at h
    subst h
    exact List.eq_nil_of_length_eq_zero hr.1.symm
  | a :: as, vs, ws, h, hr => by
    cases vs with
    | nil => have := hr.1; simp at this
    | cons x vs =>
      have h0 := hr.2 0 a x rfl rfl
      have ht : LR γ as vs := ⟨by have := hr.1; simpa using this, fun i b y h1 h2 => hr.2 (i + 1) b y (by simpa using h1) (by simpa using h2)⟩
      cases a with
      | v y =>
        simp only [closeL] at h
        cases hc : closeL as with
        | none => rw [hc] at h; cases h
        | some r =>
          rw [hc] at h
          injection h with h
          subst h
          cases h0
          rw [closeL_eq hc ht]
      | _ => simp [closeL] at h
theorem close_eq {γ : Gm} {a : AV} {x y : Value} (h : a.close = some y) (hr : VR γ a x) : x = y := by
  cases hr with
  | v x => simpa [AV.close] using h
  | agg hl hh =>
    rename_i as vs
    simp only [AV.close] at h
    cases hc : closeL as with
    | none => rw [hc] at h; cases h
    | some r =>
      rw [hc] at h
      injection h with h
      subst h
      have := closeL_eq (γ := γ) (vs := vs.toList) hc ⟨by simpa using hl, fun i a x h1 h2 => hh i a x h1 (by simpa using h2)⟩
      rw [← this]
  | ifc hh =>
    rename_i t a x
    cases hh <;> simp [AV.close] at h
    subst h
    rfl
  | fn hl hh hl' hh' =>
    rename_i f as bs vs ws
    cases as with
    | nil =>
      cases bs with
      | nil =>
        simp [AV.close] at h
        subst h
        simp at hl hl'
        have e1 : vs = #[] := Array.eq_empty_of_size_eq_zero hl.symm
        have e2 : ws = #[] := Array.eq_empty_of_size_eq_zero hl'.symm
        rw [e1, e2]
      | cons b bs => simp [AV.close] at h
    | cons b bs => simp [AV.close] at h
  | _ => simp [AV.close] at h

/-- a plain value, its parts laid open -/
def norm0 : Value → AV
  | .agg cs => .agg (cs.toList.map .v)
  | x => .v x
def norm : Value → AV
  | .tuple vs => .tup (vs.toList.map norm0)
  | .iface t x => .ifc t (norm0 x)
  | .func f a b => .fn f (a.toList.map norm0) (b.toList.map norm0)
  | x => norm0 x
theorem norm0_VR {γ : Gm} (x : Value) : VR γ (norm0 x) x := by
  cases x <;> first | exact .v _ | skip
  rename_i cs
  exact .agg (by simp) (fun i a x h1 h2 => by
    simp at h1
    obtain ⟨y, h3, rfl⟩ := h1
    rw [h2] at h3
    injection h3 with h3
    subst h3
    exact .v _)
theorem norm0_rows {γ : Gm} (vs : Array Value) : (vs.toList.map norm0).length = vs.size ∧ ∀ (i : Nat) (a : AV) (x : Value), (vs.toList.map norm0)[i]? = some a → vs[i]? = some x → VR γ a x := by
  refine ⟨by simp, fun i a x h1 h2 => ?_⟩
  simp at h1
  obtain ⟨y, h3, rfl⟩ := h1
  rw [h2] at h3
  injection h3 with h3
  subst h3
  exact norm0_VR _
theorem norm_VR {γ : Gm} (x : Value) : VR γ (norm x) x := by
  cases x with
  | tuple vs => exact .tup (norm0_rows (γ := γ) vs).1 (norm0_rows vs).2
  | iface t x => exact .ifc (norm0_VR x)
  | func f a b => exact .fn (norm0_rows (γ := γ) a).1 (norm0_rows a).2 (norm0_rows (γ := γ) b).1 (norm0_rows b).2
  | agg cs => exact norm0_VR (Value.agg cs)
  | _ => exact .v _

/-- The blocks of 'F' are as they were; the streams are as they were; no block has gone. -/
structure Keep (F : Nat → Prop) (w w' : World) : Prop where
  os : w'.os = w.os
  tape : w'.tape = w.tape
  output : w'.output = w.output
  size : w.heap.size ≤ w'.heap.size
  block : ∀ k, F k → w'.heap[k]? = w.heap[k]?
theorem Keep.refl (F : Nat → Prop) (w : World) : Keep F w w := ⟨rfl, rfl, rfl, Nat.le_refl _, fun _ _ => rfl⟩
theorem Keep.trans {F : Nat → Prop} {a b c : World} (h : Keep F a b) (k : Keep F b c) : Keep F a c :=
  ⟨k.os.trans h.os, k.tape.trans h.tape, k.output.trans h.output, Nat.le_trans h.size k.size, fun i hi => (k.block i hi).trans (h.block i hi)⟩
theorem Keep.mono {F F' : Nat → Prop} {w w' : World} (h : Keep F w w') (hF : ∀ k, F' k → F k) : Keep F' w w' := ⟨h.os, h.tape, h.output, h.size, fun k hk => h.block k (hF k hk)⟩
theorem Keep.of_below {F : Nat → Prop} {B : Nat} {w w' : World} (h : Go.RowKit.Below B w w') (hF : ∀ k, F k → k < B) : Keep F w w' := ⟨h.os, h.tape, h.output, h.size, fun k hk => h.block k (hF k hk)⟩
theorem Keep.below {B : Nat} {w w' : World} (h : Keep (· < B) w w') : Go.RowKit.Below B w w' := ⟨h.os, h.tape, h.output, h.size, h.block⟩
theorem Keep.drew {F : Nat → Prop} {a w : World} (h : Keep F a w) : Keep F a w.drew := ⟨h.os, h.tape, h.output, h.size, h.block⟩
theorem Keep.alloc {F : Nat → Prop} {a w : World} (h : Keep F a w) (hB : ∀ k, F k → k < w.heap.size) (o : Obj) : Keep F a (w.alloc o) :=
  h.trans ⟨rfl, rfl, rfl, by simp, fun k hk => Go.RowKit.Below.heap_alloc _ _ _ (hB k hk)⟩
theorem Keep.grown {F : Nat → Prop} {a w w' : World} {row : Option Nat} (h : Keep F a w) (hg : w.grownBy w' row) (hB : ∀ k, F k → k < w.heap.size) (hr : ∀ k, row = some k → ¬ F k) : Keep F a w' :=
  h.trans ⟨hg.os, hg.tape, hg.output, hg.size, fun k hk => hg.block k (hB k hk) (fun e => hr k e.symm hk)⟩

/-! memory -/
/-- a block: its cells as far as they are known, below 'lim' (clean: no string shares them; own: it may be written), or a map -/
inductive Blk where
  | cells (ty : Nat) (own clean ex : Bool) (lim : Nat) (cs : Tr AV)
  | map (es : List (AV × AV × Nat)) (clock : Nat)
  | row (e : Nat) (xs : List Value)

def MapR (γ : Gm) (es : List (AV × AV × Nat)) (l : List MapEntry) : Prop :=
  es.length = l.length ∧ ∀ (i : Nat) (e : AV × AV × Nat) (m : MapEntry), es[i]? = some e → l[i]? = some m → VR γ e.1 m.key ∧ VR γ e.2.1 m.val ∧ e.2.2 = m.born

/-- a block of the reckoner's beside one of the world's -/
def BR (B : Nat → Prop) (γ : Gm) (blk : Blk) (p : Nat × Nat) (w : World) : Prop :=
  match blk with
  | .cells ty own clean ex lim cs => (own = true → ¬ B p.1) ∧ ∃ c ty' fz, w.heap[p.1]? = some (.cells c ty' fz) ∧ c.size = p.2 ∧ ((clean = true → fz = (0, 0) ∧ ty = ty') ∧ (ex = true → c.size = lim ∧ ty = ty')) ∧
      ∀ (i : Nat) (a : AV), i < lim → cs.get i = some a → ∃ x, c[i]? = some x ∧ VR γ a x
  | .map es clock => ¬ B p.1 ∧ ∃ l, w.heap[p.1]? = some (.map l clock) ∧ MapR γ es l.toList
  | .row e xs => ¬ B p.1 ∧ ∃ c, w.heap[p.1]? = some (.cells c e (0, 0)) ∧ c.size = p.2 ∧ c.toList.take xs.length = xs

abbrev Hp := Tr Blk
/-- the reckoner's memory beside the world's; 'B': from here on the blocks are the run's own -/
structure HR (B : Nat → Prop) (G : Nat) (γ : Gm) (h : Hp) (c : Nat) (w : World) : Prop where
  live : ∀ b blk, h.get b = some blk → ∃ p, γ b = some p ∧ BR B γ blk p w
  inj : ∀ b b' blk blk' p p', h.get b = some blk → h.get b' = some blk' → γ b = some p → γ b' = some p' → p.1 = p'.1 → b = b'
  fresh : ∀ b, c ≤ b → γ b = none
  glob : ∀ g, g < G → ∃ N, γ g = some (g, N)
  base : ∀ k, B k → k < w.heap.size

theorem BR.mono {B : Nat → Prop} {γ γ' : Gm} (hle : Gm.le γ γ') {blk : Blk} {p : Nat × Nat} {w : World} (h : BR B γ blk p w) : BR B γ' blk p w := by
  cases blk with
  | cells ty own clean ex lim cs =>
    obtain ⟨h0, c, ty', fz, h1, h2, h3, h4⟩ := h
    exact ⟨h0, c, ty', fz, h1, h2, h3, fun i a hl hi => let ⟨x, h5, h6⟩ := h4 i a hl hi; ⟨x, h5, h6.mono hle⟩⟩
  | map es clock =>
    obtain ⟨h0, l, h1, h2, h3⟩ := h
    exact ⟨h0, l, h1, h2, fun i e m he hm => let ⟨a, b, c⟩ := h3 i e m he hm; ⟨a.mono hle, b.mono hle, c⟩⟩
  | row e xs => exact h
theorem BR.lt {B : Nat → Prop} {γ : Gm} {blk : Blk} {p : Nat × Nat} {w : World} (h : BR B γ blk p w) : p.1 < w.heap.size := by
  cases blk with
  | cells ty own clean ex lim cs => obtain ⟨h0, c, ty', fz, h1, _⟩ := h; exact (Array.getElem?_eq_some_iff.1 h1).1
  | map es clock => obtain ⟨h0, l, h1, _⟩ := h; exact (Array.getElem?_eq_some_iff.1 h1).1
  | row e xs => obtain ⟨h0, c, h1, _⟩ := h; exact (Array.getElem?_eq_some_iff.1 h1).1
/-- the block has not turned -/
theorem BR.kept {B : Nat → Prop} {γ : Gm} {blk : Blk} {p : Nat × Nat} {w w' : World} (h : BR B γ blk p w) (hk : w'.heap[p.1]? = w.heap[p.1]?) : BR B γ blk p w' := by
  cases blk with
  | cells ty own clean ex lim cs =>
    obtain ⟨h0, c, ty', fz, h1, h2⟩ := h
    exact ⟨h0, c, ty', fz, hk.trans h1, h2⟩
  | map es clock =>
    obtain ⟨h0, l, h1, h2⟩ := h
    exact ⟨h0, l, hk.trans h1, h2⟩
  | row e xs =>
    obtain ⟨h0, c, h1, h2⟩ := h
    exact ⟨h0, c, hk.trans h1, h2⟩

section
variable {B : Nat → Prop} {G : Nat} {γ : Gm} {h : Hp} {c : Nat} {w : World}
theorem HR.new (hr : HR B G γ h c w) : ¬ B w.heap.size := fun hk => Nat.lt_irrefl _ (hr.base _ hk)
theorem HR.below (hr : HR B G γ h c w) : G ≤ c := by
  rcases Nat.lt_or_ge c G with hl | hg
  · obtain ⟨N, hN⟩ := hr.glob c hl
    rw [hr.fresh c (Nat.le_refl _)] at hN
    cases hN
  · exact hg
/-- one block more -/
theorem HR.add (hr : HR B G γ h c w) {w' : World} (q : Nat × Nat) (blk : Blk) (hs : w.heap.size ≤ w'.heap.size)
    (hk : ∀ b blk' p, h.get b = some blk' → γ b = some p → w'.heap[p.1]? = w.heap[p.1]? ∧ p.1 ≠ q.1) (hb : BR B (γ.upd c q) blk q w') :
    HR B G (γ.upd c q) (h.put c (some blk)) (c + 1) w' := by
  have hc := hr.fresh c (Nat.le_refl _)
  have hG := hr.below
  have hle := Gm.upd_le hc q
  refine ⟨fun b blk' hb' => ?_, fun b b' blk1 blk2 p p' h1 h2 g1 g2 e => ?_, fun b hb => ?_, fun g hg => ?_, fun k hk => Nat.lt_of_lt_of_le (hr.base k hk) hs⟩
  · rw [Tr.get_put] at hb'
    split at hb'
    · rename_i e
      injection hb' with hb'
      subst hb' e
      exact ⟨_, Gm.upd_same _ _ _, hb⟩
    · obtain ⟨p, hp, hbr⟩ := hr.live b blk' hb'
      exact ⟨p, hle b p hp, (hbr.mono hle).kept (hk b blk' p hb' hp).1⟩
  · rw [Tr.get_put] at h1 h2
    split at h1 <;> split at h2
    · rename_i e1 e2; exact e1.trans e2.symm
    · rename_i e1 e2
      subst e1
      rw [Gm.upd_same] at g1
      injection g1 with g1
      subst g1
      obtain ⟨q', hq, hbr⟩ := hr.live b' _ h2
      have : q' = p' := by have := hle _ _ hq; rw [this] at g2; injection g2
      subst this
      exact absurd e.symm (hk _ _ _ h2 hq).2
    · rename_i e1 e2
      subst e2
      rw [Gm.upd_same] at g2
      injection g2 with g2
      subst g2
      obtain ⟨q', hq, hbr⟩ := hr.live b _ h1
      have : q' = p := by have := hle _ _ hq; rw [this] at g1; injection g1
      subst this
      exact absurd e (hk _ _ _ h1 hq).2
    · obtain ⟨q, hq, _⟩ := hr.live b _ h1
      obtain ⟨q', hq', _⟩ := hr.live b' _ h2
      have e1 : q = p := by have := hle _ _ hq; rw [this] at g1; injection g1
      have e2 : q' = p' := by have := hle _ _ hq'; rw [this] at g2; injection g2
      subst e1 e2
      exact hr.inj b b' _ _ _ _ h1 h2 hq hq' e
  · unfold Gm.upd
    rw [if_neg (by omega)]
    exact hr.fresh b (by omega)
  · obtain ⟨N', hN⟩ := hr.glob g hg
    exact ⟨N', hle _ _ hN⟩
/-- a new block -/
theorem HR.alloc (hr : HR B G γ h c w) (o : Obj) (N : Nat) (blk : Blk) (hb : BR B (γ.upd c (w.heap.size, N)) blk (w.heap.size, N) (w.alloc o)) :
    HR B G (γ.upd c (w.heap.size, N)) (h.put c (some blk)) (c + 1) (w.alloc o) :=
  hr.add _ blk (by show w.heap.size ≤ (w.heap.push o).size; rw [Array.size_push]; omega) (fun b blk' p h1 h2 => by
    obtain ⟨q, hq, hbr⟩ := hr.live b blk' h1
    obtain rfl : q = p := by rw [hq] at h2; injection h2
    have := hbr.lt
    exact ⟨heap_alloc_old w o q.1 hbr.lt, by simp; omega⟩) hb
/-- a block of the run's own is turned -/
theorem HR.turn (hr : HR B G γ h c w) {w' : World} {b : Nat} {p : Nat × Nat} {blk0 blk : Blk} (h0 : h.get b = some blk0) (hp : γ b = some p) (hs : w.heap.size ≤ w'.heap.size) (hk : ∀ k, k ≠ p.1 → k < w.heap.size → w'.heap[k]? = w.heap[k]?)
    (hb : BR B γ blk p w') : HR B G γ (h.put b (some blk)) c w' := by
  refine ⟨fun b1 blk1 h1 => ?_, fun b1 b2 blk1 blk2 p1 p2 h1 h2 g1 g2 e => ?_, hr.fresh, hr.glob, fun k hk => Nat.lt_of_lt_of_le (hr.base k hk) hs⟩
  · rw [Tr.get_put] at h1
    split at h1
    · rename_i e
      subst e
      injection h1 with h1
      subst h1
      exact ⟨p, hp, hb⟩
    · rename_i hne
      obtain ⟨q, hq, hbr⟩ := hr.live b1 blk1 h1
      refine ⟨q, hq, hbr.kept (hk _ (fun e => hne ?_) hbr.lt)⟩
      exact hr.inj _ _ _ _ _ _ h1 h0 hq hp e
  · have key : ∀ x blkx, (h.put b (some blk)).get x = some blkx → ∃ y, h.get x = some y := by
      intro x blkx hx
      rw [Tr.get_put] at hx
      split at hx
      · rename_i e; subst e; exact ⟨_, h0⟩
      · exact ⟨_, hx⟩
    obtain ⟨y1, k1⟩ := key _ _ h1
    obtain ⟨y2, k2⟩ := key _ _ h2
    exact hr.inj _ _ _ _ _ _ k1 k2 g1 g2 e
/-- a block is let go -/
theorem HR.drop (hr : HR B G γ h c w) (b : Nat) : HR B G γ (h.put b none) c w := by
  have key : ∀ x blkx, (h.put b none).get x = some blkx → h.get x = some blkx := by
    intro x blkx hx
    rw [Tr.get_put] at hx
    split at hx
    · cases hx
    · exact hx
  exact ⟨fun b1 blk1 h1 => hr.live b1 blk1 (key _ _ h1), fun b1 b2 _ _ p1 p2 h1 h2 => hr.inj b1 b2 _ _ p1 p2 (key _ _ h1) (key _ _ h2), hr.fresh, hr.glob, hr.base⟩
/-- nothing that is known has turned -/
theorem HR.kept (hr : HR B G γ h c w) {w' : World} (hs : w.heap.size ≤ w'.heap.size) (hk : ∀ k, k < w.heap.size → w'.heap[k]? = w.heap[k]?) : HR B G γ h c w' :=
  ⟨fun b blk hb => let ⟨p, hp, hbr⟩ := hr.live b blk hb; ⟨p, hp, hbr.kept (hk _ hbr.lt)⟩, hr.inj, hr.fresh, hr.glob, fun k hk => Nat.lt_of_lt_of_le (hr.base k hk) hs⟩
end
end Go.Sy
