/- Reals: what is NaN, what lies in the range of whole numbers: plain laws over the model's arithmetic. No program is named; the conditions are in each theorem. -/
import Derived.Test.YtiacalnkmnckjaaBase
import Derived.Laws.FloatArith
namespace Go.As
open Go Ieee
set_option linter.unusedVariables false

theorem order_self (d : Datum) : d.order d = some .eq ∨ ∃ s p, d = .nan s p := by
  cases d with
  | nan s p => exact .inr ⟨s, p, rfl⟩
  | infinity s => left; cases s <;> rfl
  | number s m i => left; simp [Datum.order]
theorem order_nan_l (s : Bool) (p : Nat) (d : Datum) : (Datum.nan s p).order d = none := by cases d <;> rfl

theorem cut_zero_lt {n drop B : Nat} (s : Bool) (hB : 0 < B) (h : n < B * 2 ^ drop) : Toward.zero.cut s n drop < B := by
  simp only [Toward.cut, Bool.toNat_false, Nat.add_zero, Nat.shiftLeft_eq, Nat.one_mul]
  rcases Nat.le_total drop (n.log2 + 2) with hl | hl
  · rw [Nat.min_eq_left hl]
    exact (Nat.div_lt_iff_lt_mul (Nat.two_pow_pos _)).2 h
  · rw [Nat.min_eq_right hl, Nat.div_eq_of_lt]
    · exact hB
    · exact Nat.lt_of_lt_of_le Nat.lt_log2_self (Nat.pow_le_pow_right (by omega) (by omega))
theorem cut_zero_le {n drop B : Nat} (s : Bool) (h : n ≤ B * 2 ^ drop) : Toward.zero.cut s n drop ≤ B := by
  simp only [Toward.cut, Bool.toNat_false, Nat.add_zero, Nat.shiftLeft_eq, Nat.one_mul]
  rcases Nat.le_total drop (n.log2 + 2) with hl | hl
  · rw [Nat.min_eq_left hl]
    exact Nat.div_le_of_le_mul (by rw [Nat.mul_comm]; exact h)
  · rw [Nat.min_eq_right hl, Nat.div_eq_of_lt]
    · omega
    · exact Nat.lt_of_lt_of_le Nat.lt_log2_self (Nat.pow_le_pow_right (by omega) (by omega))

/-- the size in halves of the bound, either way -/
theorem size_lt {m : Nat} {i : Int} (h : m * 2 ^ (i - min i 11).toNat < 2 ^ 52 * 2 ^ (11 - min i 11).toNat) : m * 2 ^ i.toNat < 2 ^ 63 * 2 ^ (-i).toNat := by
  rcases Int.le_total i 11 with hi | hi
  · rw [Int.min_eq_left hi, Int.sub_self, Int.toNat_zero, Nat.pow_zero, Nat.mul_one] at h
    rcases Int.le_total 0 i with h0 | h0
    · obtain ⟨k, rfl⟩ := Int.eq_ofNat_of_zero_le h0
      have hk : k ≤ 11 := by omega
      rw [show (11 - (k : Int)).toNat = 11 - k by omega] at h
      rw [show (-(k : Int)).toNat = 0 by omega, show ((k : Int)).toNat = k by omega, Nat.pow_zero, Nat.mul_one]
      have : 2 ^ 52 * 2 ^ (11 - k) * 2 ^ k = 2 ^ 63 := by rw [Nat.mul_assoc, ← Nat.pow_add, show 11 - k + k = 11 by omega]
      rw [← this]
      exact Nat.mul_lt_mul_of_pos_right h (Nat.two_pow_pos _)
    · rw [show i.toNat = 0 by omega, Nat.pow_zero, Nat.mul_one, show (11 - i).toNat = 11 + (-i).toNat by omega, Nat.pow_add, ← Nat.mul_assoc] at *
      exact h
  · rw [Int.min_eq_right hi, Int.sub_self, Int.toNat_zero, Nat.pow_zero, Nat.mul_one] at h
    rw [show (-i).toNat = 0 by omega, Nat.pow_zero, Nat.mul_one, show i.toNat = (i - 11).toNat + 11 by omega, Nat.pow_add, ← Nat.mul_assoc]
    have := Nat.mul_lt_mul_of_pos_right h (show 0 < 2 ^ 11 by omega)
    simpa using this
theorem size_le {m : Nat} {i : Int} (h : m * 2 ^ (i - min i 11).toNat ≤ 2 ^ 52 * 2 ^ (11 - min i 11).toNat) : m * 2 ^ i.toNat ≤ 2 ^ 63 * 2 ^ (-i).toNat := by
  rcases Int.le_total i 11 with hi | hi
  · rw [Int.min_eq_left hi, Int.sub_self, Int.toNat_zero, Nat.pow_zero, Nat.mul_one] at h
    rcases Int.le_total 0 i with h0 | h0
    · obtain ⟨k, rfl⟩ := Int.eq_ofNat_of_zero_le h0
      have hk : k ≤ 11 := by omega
      rw [show (11 - (k : Int)).toNat = 11 - k by omega] at h
      rw [show (-(k : Int)).toNat = 0 by omega, show ((k : Int)).toNat = k by omega, Nat.pow_zero, Nat.mul_one]
      have : 2 ^ 52 * 2 ^ (11 - k) * 2 ^ k = 2 ^ 63 := by rw [Nat.mul_assoc, ← Nat.pow_add, show 11 - k + k = 11 by omega]
      rw [← this]
      exact Nat.mul_le_mul_right _ h
    · rw [show i.toNat = 0 by omega, Nat.pow_zero, Nat.mul_one, show (11 - i).toNat = 11 + (-i).toNat by omega, Nat.pow_add, ← Nat.mul_assoc] at *
      exact h
  · rw [Int.min_eq_right hi, Int.sub_self, Int.toNat_zero, Nat.pow_zero, Nat.mul_one] at h
    rw [show (-i).toNat = 0 by omega, Nat.pow_zero, Nat.mul_one, show i.toNat = (i - 11).toNat + 11 by omega, Nat.pow_add, ← Nat.mul_assoc]
    have := Nat.mul_le_mul_right (2 ^ 11) h
    simpa using this

theorem toInt_range (d : Datum) (h1 : d.order (.number false 4503599627370496 11) = some .lt) (h2 : d.order (.number true 4503599627370496 11) = some .gt ∨ d.order (.number true 4503599627370496 11) = some .eq) :
    ∃ n, d.toInt .zero = some n ∧ -9223372036854775808 ≤ n ∧ n ≤ 9223372036854775807 := by
  cases d with
  | nan s p => simp [Datum.order] at h1
  | infinity s => cases s <;> simp [Datum.order] at h1 h2
  | number s m i =>
    refine ⟨signed s (Toward.zero.cut s (m <<< i.toNat) (-i).toNat) 0, rfl, ?_⟩
    simp only [Datum.order, Option.some.injEq] at h1 h2
    simp only [signed, Nat.shiftLeft_eq, Nat.pow_zero, Nat.mul_one] at h1 h2 ⊢
    cases s with
    | false =>
      simp only [Bool.false_eq_true, if_false, Int.compare_eq_lt] at h1 ⊢
      have h3 := size_lt (m := m) (i := i) (by rw [show 2 ^ 52 = 4503599627370496 by rfl]; omega)
      have := cut_zero_lt false (show 0 < 2 ^ 63 by omega) h3
      omega
    | true =>
      simp only [if_true, Int.compare_eq_gt, Int.compare_eq_eq] at h2 ⊢
      have h3 := size_le (m := m) (i := i) (by rw [show 2 ^ 52 = 4503599627370496 by rfl]; omega)
      have := cut_zero_le true h3
      omega

theorem nan_read (t : Nat) : ∃ s p, FloatKind.f64.format.read ((t % 2) * 2 ^ 63 + 0x7ff0000000000000 + 1 + (t / 2) % (2 ^ 52 - 1)) = .nan s p := by
  have hsw : FloatKind.f64.format.signWeight = 9223372036854775808 := by decide
  have hb : FloatKind.f64.format.binade = 4503599627370496 := by decide
  have hi : FloatKind.f64.format.infRung = 9218868437227405312 := by decide
  have hr : (t / 2) % (2 ^ 52 - 1) < 4503599627370495 := Nat.mod_lt _ (by omega)
  generalize (t / 2) % (2 ^ 52 - 1) = r at hr ⊢
  have ht : t % 2 < 2 := Nat.mod_lt _ (by omega)
  generalize t % 2 = q at ht ⊢
  have hm : (q * 2 ^ 63 + 0x7ff0000000000000 + 1 + r) % 9223372036854775808 = 9218868437227405312 + 1 + r := by omega
  unfold Format.read
  simp only [hsw, hb, hi, hm]
  rw [if_neg (by omega), if_neg (by omega), if_neg (by omega)]
  exact ⟨_, _, rfl⟩

/-- a real with one NaN -/
def toN (b : Nat) : Nat := if FloatKind.f64.format.order b b = some .eq then b else 9221120237041090560
theorem toN_nan {b : Nat} {s : Bool} {p : Nat} (h : FloatKind.f64.format.read b = .nan s p) : FloatKind.f64.format.order b b = none := by
  unfold Format.order; rw [h]; exact order_nan_l _ _ _
theorem toN_cases (b : Nat) : (FloatKind.f64.format.order b b = some .eq ∧ toN b = b) ∨ (FloatKind.f64.format.order b b = none ∧ toN b = 9221120237041090560) := by
  rcases order_self (FloatKind.f64.format.read b) with h | ⟨s, p, h⟩
  · have h' : FloatKind.f64.format.order b b = some .eq := h
    exact .inl ⟨h', by simp [toN, h']⟩
  · have h' := toN_nan h
    exact .inr ⟨h', by simp [toN, h']⟩
def two63 : Nat := 4890909195324358656
def neg63 : Nat := 14114281232179134464
theorem read_two63 : FloatKind.f64.format.read 4890909195324358656 = .number false 4503599627370496 11 := by decide
theorem read_neg63 : FloatKind.f64.format.read 14114281232179134464 = .number true 4503599627370496 11 := by decide
theorem ti_cases (a : Nat) : (FloatKind.f64.format.order a a = none ∧ FloatKind.f64.format.order a 4890909195324358656 = none ∧ FloatKind.f64.format.order a 14114281232179134464 = none) ∨
    ∃ c d, FloatKind.f64.format.order a a = some .eq ∧ FloatKind.f64.format.order a 4890909195324358656 = some c ∧ FloatKind.f64.format.order a 14114281232179134464 = some d := by
  unfold Format.order
  rw [read_two63, read_neg63]
  rcases order_self (FloatKind.f64.format.read a) with h | ⟨s, p, h⟩
  · right
    cases hd : FloatKind.f64.format.read a with
    | nan s p => rw [hd, order_nan_l] at h; cases h
    | infinity s => exact ⟨_, _, by rw [← hd]; exact h, rfl, rfl⟩
    | number s m i => exact ⟨_, _, by rw [← hd]; exact h, rfl, rfl⟩
  · rw [h]
    exact .inl ⟨order_nan_l _ _ _, order_nan_l _ _ _, order_nan_l _ _ _⟩
/-- the whole part: a number, and whether there is one -/
def tiN (a : Nat) : Int × Bool :=
  if FloatKind.f64.format.order a 4890909195324358656 = some .lt ∧ (FloatKind.f64.format.order a 14114281232179134464 = some .gt ∨ FloatKind.f64.format.order a 14114281232179134464 = some .eq)
  then (((FloatKind.f64.format.read a).toInt .zero).getD 0, true) else (0, false)
theorem ti_val {a : Nat} (h1 : FloatKind.f64.format.order a 4890909195324358656 = some .lt) (h2 : FloatKind.f64.format.order a 14114281232179134464 = some .gt ∨ FloatKind.f64.format.order a 14114281232179134464 = some .eq) :
    floatToIntVal .f64 a .i64 = some (tiN a).1 ∧ tiN a = ((tiN a).1, true) := by
  have ht : tiN a = (((FloatKind.f64.format.read a).toInt .zero).getD 0, true) := by unfold tiN; rw [if_pos ⟨h1, h2⟩]
  have h1' := h1
  have h2' := h2
  unfold Format.order at h1' h2'
  rw [read_two63] at h1'
  rw [read_neg63] at h2'
  obtain ⟨n, hn, hlo, hhi⟩ := toInt_range _ h1' h2'
  rw [ht, hn]
  refine ⟨?_, rfl⟩
  unfold floatToIntVal FloatKind.decode
  rw [hn]
  have e1 : IntKind.i64.min = -9223372036854775808 := by decide
  have e2 : IntKind.i64.max = 9223372036854775807 := by decide
  simp only [Option.getD_some, e1, e2]
  rw [if_pos ⟨hlo, hhi⟩]
/-- '+', '-', '*', '/' -/
def arN (op : BinOp) (a b : Nat) : Nat := match floatBits op .f64 a b with
  | some r => toN r
  | none => 9221120237041090560
/-- an operation that is not valid: some NaN -/
theorem run_float_nan {P : Program} (w : World) (op : BinOp) (t : TypeId) (a b : Nat) (hop : op = .add ∨ op = .sub ∨ op = .mul ∨ op = .quo) (h : floatBits op .f64 a b = none) :
    ∃ r, (binOp op t (.float .f64 a) (.float .f64 b)).run P w = .ok (.float .f64 r) w.drew ∧ FloatKind.f64.format.order r r = none := by
  obtain ⟨s, p, hr⟩ := nan_read (w.tape w.drawn (.nanBits .f64 a b))
  refine ⟨_, ?_, toN_nan hr⟩
  unfold floatBits at h
  rcases hop with rfl | rfl | rfl | rfl
  all_goals
    simp only at h
    simp [binOp, Op.floatArith, h, Question.forced, Question.cut]
end Go.As
