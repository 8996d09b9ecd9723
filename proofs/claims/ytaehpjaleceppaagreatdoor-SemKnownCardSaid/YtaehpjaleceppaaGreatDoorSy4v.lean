/- The reckoner: signs of two numbers, or of two texts, without the model's own step. Any program; no conditions. -/
import Derived.Test.YtaehpjaleceppaaGreatDoorSy4u
noncomputable section
namespace Go.Sy
open Go Go.RowKit
set_option linter.unusedVariables false
set_option linter.unusedSimpArgs false

def intEq (a b : Int) : Bool := Int.casesOn (motive := fun _ => Bool) a (fun m => Int.casesOn (motive := fun _ => Bool) b (fun n => Nat.beq m n) (fun _ => false)) (fun m => Int.casesOn (motive := fun _ => Bool) b (fun _ => false) (fun n => Nat.beq m n))
def intLt (a b : Int) : Bool := Int.casesOn (motive := fun _ => Bool) a (fun m => Int.casesOn (motive := fun _ => Bool) b (fun n => Nat.ble (Nat.succ m) n) (fun _ => false)) (fun m => Int.casesOn (motive := fun _ => Bool) b (fun _ => true) (fun n => Nat.ble (Nat.succ n) m))
theorem intEq_eq (a b : Int) : intEq a b = decide (a = b) := by
  cases a with
  | ofNat m =>
    cases b with
    | ofNat n =>
      show Nat.beq m n = _
      rw [Bool.eq_iff_iff]
      simp [Nat.beq_eq]
      omega
    | negSucc n =>
      show false = _
      simp
  | negSucc m =>
    cases b with
    | ofNat n =>
      show false = _
      simp
    | negSucc n =>
      show Nat.beq m n = _
      rw [Bool.eq_iff_iff]
      simp [Nat.beq_eq]
theorem intLt_eq (a b : Int) : intLt a b = decide (a < b) := by
  cases a with
  | ofNat m =>
    cases b with
    | ofNat n =>
      show Nat.ble (Nat.succ m) n = _
      rw [Bool.eq_iff_iff]
      simp
      omega
    | negSucc n =>
      show false = _
      symm
      rw [decide_eq_false_iff_not]
      have h1 := Int.negSucc_lt_zero n
      have h2 : (0 : Int) ≤ Int.ofNat m := Int.natCast_nonneg m
      omega
  | negSucc m =>
    cases b with
    | ofNat n =>
      show true = _
      symm
      rw [decide_eq_true_iff]
      have h1 := Int.negSucc_lt_zero m
      have h2 : (0 : Int) ≤ Int.ofNat n := Int.natCast_nonneg n
      omega
    | negSucc n =>
      show Nat.ble (Nat.succ n) m = _
      rw [Bool.eq_iff_iff]
      simp
      omega
/-- what needs no folding -/
def fits (k : IntKind) (n : Int) : Bool := Int.casesOn (motive := fun _ => Bool) n (fun m => Nat.ble m (IntKind.casesOn (motive := fun _ => Nat) k 127 32767 2147483647 9223372036854775807 255 65535 4294967295 18446744073709551615)) (fun _ => false)
theorem fits_wrap {k : IntKind} {n : Int} (h : fits k n = true) : k.wrap n = n := by
  cases n with
  | negSucc m => cases h
  | ofNat m =>
    have h : Nat.ble m _ = true := h
    rw [Nat.ble_eq] at h
    cases k <;> simp only at h <;> simp [IntKind.wrap, IntKind.bits, IntKind.signed] <;> omega
def wrapF (k : IntKind) (n : Int) : Int := Bool.casesOn (motive := fun _ => Int) (fits k n) (k.wrap n) n
theorem wrapF_eq (k : IntKind) (n : Int) : wrapF k n = k.wrap n := by
  unfold wrapF
  cases h : fits k n with
  | false => rfl
  | true => exact (fits_wrap h).symm
def kindNo (k : IntKind) : Nat := IntKind.casesOn (motive := fun _ => Nat) k 0 1 2 3 4 5 6 7
theorem kindNo_eq {k k' : IntKind} (h : Nat.beq (kindNo k) (kindNo k') = true) : k = k' := by cases k <;> cases k' <;> first | rfl | cases h
def bEqL (x : List UInt8) : List UInt8 → Bool := List.rec (motive := fun _ => List UInt8 → Bool) (fun r => List.casesOn (motive := fun _ => Bool) r true (fun _ _ => false))
  (fun a _ ih r => List.casesOn (motive := fun _ => Bool) r false (fun b r' => Bool.casesOn (motive := fun _ => Bool) (Nat.beq a.toNat b.toNat) false (ih r'))) x
theorem bEqL_eq : ∀ (x y : List UInt8), bEqL x y = (x == y)
  | [], [] => rfl
  | [], _ :: _ => rfl
  | _ :: _, [] => rfl
  | a :: x, b :: y => by
    show Bool.casesOn (motive := fun _ => Bool) (Nat.beq a.toNat b.toNat) false (bEqL x y) = _
    rw [bEqL_eq x y]
    rw [List.cons_beq_cons]
    cases h : Nat.beq a.toNat b.toNat with
    | true =>
      have := Nat.eq_of_beq_eq_true h
      have := UInt8.toNat_inj.1 this
      subst this
      simp
    | false =>
      have := Nat.ne_of_beq_eq_false h
      have hne : (a == b) = false := by
        rw [beq_eq_false_iff_ne]
        exact fun e => this (by rw [e])
      rw [hne]
      rfl
def fastInt (op : BinOp) : IntKind → Int → Int → Option Value := by
  induction op
  case add => exact fun k x y => some (.int k (wrapF k (x + y)))
  case sub => exact fun k x y => some (.int k (wrapF k (x - y)))
  case mul => exact fun k x y => some (.int k (wrapF k (x * y)))
  case eql => exact fun _ x y => some (.bool (intEq x y))
  case neq => exact fun _ x y => some (.bool (not (intEq x y)))
  case lss => exact fun _ x y => some (.bool (intLt x y))
  case leq => exact fun _ x y => some (.bool (not (intLt y x)))
  case gtr => exact fun _ x y => some (.bool (intLt y x))
  case geq => exact fun _ x y => some (.bool (not (intLt x y)))
  all_goals exact fun _ _ _ => none
def fastStr (op : BinOp) : ByteArray → ByteArray → Option Value := by
  induction op
  case add => exact fun x y => match Nat.ble (Nat.add x.data.toList.length y.data.toList.length) 4611686018427387904 with
    | true => some (.string (x ++ y))
    | false => none
  case eql => exact fun x y => some (.bool (bEqL x.data.toList y.data.toList))
  case neq => exact fun x y => some (.bool (not (bEqL x.data.toList y.data.toList)))
  all_goals exact fun _ _ => none
def aFast (op : BinOp) (a b : AV) : Option AV := match a with
  | .v x => match b with
    | .v y => match x with
      | .int k m => match y with
        | .int k' n => match Nat.beq (kindNo k) (kindNo k') with
          | true => match fastInt op k m n with
            | some r => some (.v r)
            | none => none
          | false => none
        | _ => none
      | .string s => match y with
        | .string t => match fastStr op s t with
          | some r => some (.v r)
          | none => none
        | _ => none
      | _ => none
    | _ => none
  | _ => none
theorem fastInt_ok {P : Program} {op : BinOp} {t : TypeId} {k : IntKind} {x y : Int} {r : Value} (h : fastInt op k x y = some r) (w : World) : (binOp op t (.int k x) (.int k y)).run P w = .ok r w := by
  cases op <;> first | (cases h; done) | skip
  all_goals
    have h := Option.some.inj h
    subst h
    simp [binOp, Op.intArith, Op.intCmp, wrapF_eq, intEq_eq, intLt_eq]
    try first
      | rfl
      | (rw [Bool.eq_iff_iff]; simp; done)
theorem fastStr_ok {P : Program} {op : BinOp} {t : TypeId} {x y : ByteArray} {r : Value} (h : fastStr op x y = some r) (w : World) : (binOp op t (.string x) (.string y)).run P w = .ok r w := by
  cases op <;> first | (cases h; done) | skip
  · have h : (match Nat.ble (Nat.add x.data.toList.length y.data.toList.length) 4611686018427387904 with
      | true => some (Value.string (x ++ y))
      | false => none) = some r := h
    split at h <;> first | (cases h; done) | skip
    rename_i hb
    have h := Option.some.inj h
    subst h
    have hb : x.size + y.size ≤ 4611686018427387904 := by
      have := Nat.le_of_ble_eq_true hb
      have e1 : x.data.toList.length = x.size := Array.length_toList
      have e2 : y.data.toList.length = y.size := Array.length_toList
      rw [e1, e2] at this
      exact this
    have hn : ¬ (((x.size + y.size : Nat) : Int) > IntKind.i64.max) := by
      have e : IntKind.i64.max = 9223372036854775807 := by decide
      rw [e]
      omega
    simp only [binOp, Op.stringOp, if_neg hn]
    rfl
  all_goals
    have h := Option.some.inj h
    subst h
    simp [binOp, Op.stringOp, bEqL_eq, ByteArray.toList_eq]
theorem aFast_ok {P : Program} {γ : Gm} {op : BinOp} {t : TypeId} {a b : AV} {x y : Value} {r : AV} (hx : VR γ a x) (hy : VR γ b y) (h : aFast op a b = some r) (ox oy : Operand) :
    ∃ v, VR γ r v ∧ ∀ w, (do eqGuard op t ox oy x y; binOp op t x y : Sem Value).run P w = .ok v w := by
  unfold aFast at h
  split at h <;> first | (cases h; done) | skip
  split at h <;> first | (cases h; done) | skip
  cases hx
  cases hy
  split at h <;> first | (cases h; done) | skip
  · split at h <;> first | (cases h; done) | skip
    split at h <;> first | (cases h; done) | skip
    rename_i hk
    have hk := kindNo_eq hk
    subst hk
    split at h <;> first | (cases h; done) | skip
    rename_i v hv
    injection h with h
    subst h
    exact ⟨v, .v v, fun w => eqG (by cases op <;> rfl) (fastInt_ok hv w)⟩
  · split at h <;> first | (cases h; done) | skip
    split at h <;> first | (cases h; done) | skip
    rename_i v hv
    injection h with h
    subst h
    exact ⟨v, .v v, fun w => eqG (by cases op <;> rfl) (fastStr_ok hv w)⟩
end Go.Sy
