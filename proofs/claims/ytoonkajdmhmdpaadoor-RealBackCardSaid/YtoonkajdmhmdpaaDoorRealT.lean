/- What Print of a real answers, the document's: plain part and the walk. Conditions: those in each theorem. -/
import Derived.Test.YtoonkajdmhmdpaaDoorRealI
namespace Go.Proofs.YtoonkajdmhmdpaaDoor
open Go.RowKit Go.As
set_option linter.unusedVariables false

def w2e : Nat := 4835858800541171712
theorem w2e_read : fd.read w2e = .number false 8000000000000000 (-2) := by decide
theorem w2e_int : IsI w2e 2000000000000000 := ⟨false, -2, by rw [w2e_read]; rfl, by omega, by omega, fun _ => rfl, fun h => by omega⟩
/-- below the bound just if the whole part is -/
theorem whV_lt {r c : Nat} {e : Int} (h : fd.read r = .number false c e) : fd.order r w2e = some .lt ↔ whV c e < 2000000000000000 := by
  have hr := read_num h
  unfold Ieee.Format.order
  rw [h, w2e_read]
  simp only [Ieee.Datum.order, Option.some.injEq]
  unfold Ieee.signed
  rw [if_neg (by decide), if_neg (by decide), Nat.shiftLeft_eq, Nat.shiftLeft_eq, Int.compare_eq_lt, Int.ofNat_lt]
  unfold whV
  rw [Nat.shiftLeft_eq]
  rcases Int.lt_or_le e 0 with hneg | hpos
  · obtain ⟨F, hF⟩ : ∃ F : Nat, e = -(F : Int) := ⟨(-e).toNat, by omega⟩
    subst hF
    rw [show (-(F : Int)).toNat = 0 by omega, show (- -(F : Int)).toNat = F by omega, Nat.pow_zero, Nat.mul_one]
    rw [Nat.div_lt_iff_lt_mul (Nat.two_pow_pos F)]
    rcases Nat.lt_or_ge F 2 with h2 | h2
    · obtain rfl : F = 1 := by omega
      rw [show (-((1 : Nat) : Int) - min (-((1 : Nat) : Int)) (-2)).toNat = 1 by omega, show (-2 - min (-((1 : Nat) : Int)) (-2)).toNat = 0 by omega]
      omega
    · rw [Int.min_eq_left (by omega : -(F : Int) ≤ -2), show (-(F : Int) - -(F : Int)).toNat = 0 by omega, show (-2 - -(F : Int)).toNat = F - 2 by omega, Nat.pow_zero, Nat.mul_one]
      have : (2 : Nat) ^ F = 4 * 2 ^ (F - 2) := by rw [show (4 : Nat) = 2 ^ 2 by rfl, ← Nat.pow_add]; congr 1; omega
      rw [this, ← Nat.mul_assoc]
  · rw [Int.min_eq_right (by omega : (-2 : Int) ≤ e), show (-2 - -2 : Int).toNat = 0 by omega, show (e - -2).toNat = e.toNat + 2 by omega, show (-e).toNat = 0 by omega, Nat.pow_zero, Nat.div_one, Nat.mul_one, Nat.pow_add, ← Nat.mul_assoc]
    generalize c * 2 ^ e.toNat = z
    omega
/-- the lesser of a real and the bound -/
theorem min_run {P : Program} (ts : Array TypeId) (t : TypeId) (r : Nat) (o : Ordering) (ho : FloatKind.f64.format.order r w2e = some o) (hneg : (FloatKind.f64.decode r).neg = false) (w : World) :
    (Builtin.min_ ts t #[.float .f64 r, .float .f64 w2e]).run P w = .ok (.float .f64 (if o = .lt then r else w2e)) w := by
  have h1 : Builtin.min_ ts t #[.float .f64 r, .float .f64 w2e] = Builtin.min2 (.float .f64 r) (.float .f64 w2e) := by simp [Builtin.min_]
  rw [h1]
  unfold Builtin.min2
  simp only [ho]
  cases o
  · rfl
  · simp only [hneg]; rfl
  · rfl
theorem dec_one (m : Nat) (hm : m < 10000000000000000) (w : World) : Calls Tryd.prog 38 #[.int .i64 (m : Int), .int .i64 1] w fun e w' => e = .returned (.string (str (Lib.decDigits m))) ∧ ∃ q, w' = w.drewN q := by
  have hd1 := Lib.nDigits_pos m
  have hd2 : Lib.nDigits m ≤ 15 + 1 := nDigits_le (by omega)
  have hJ : ∀ j, j < Lib.nDigits m ↔ (0 < m / 10 ^ j ∨ j < 1) := by
    intro j
    constructor
    · intro h
      rcases Nat.eq_zero_or_pos j with h0 | h0
      · exact .inr (by omega)
      · left
        rcases Nat.eq_zero_or_pos (m / 10 ^ j) with h1 | h1
        · exfalso
          obtain ⟨i, rfl⟩ : ∃ i, j = i + 1 := ⟨j - 1, by omega⟩
          have h2 : m < 10 ^ (i + 1) := by
            have := (Nat.div_eq_zero_iff).1 h1
            rcases this with h | h
            · simp at h
            · exact h
          have := nDigits_le h2
          omega
        · exact h1
    · rintro (h | h)
      · have h2 := Lib.lt_pow_nDigits m
        have h3 : 10 ^ j ≤ m := by
          rcases Nat.lt_or_ge m (10 ^ j) with h' | h'
          · rw [Nat.div_eq_of_lt h'] at h; omega
          · exact h'
        exact (Nat.pow_lt_pow_iff_right (a := 10) (by omega)).1 (Nat.lt_of_le_of_lt h3 h2)
      · omega
  refine (dec_any m 1 (Lib.nDigits m) hm hJ (by omega) (by omega) w).mono ?_
  rintro e w' ⟨rfl, rfl⟩
  exact ⟨by rw [dgw_nDigits], 0, rfl⟩
theorem dec_pad (n k : Nat) (h1 : 1 ≤ k) (h6 : k ≤ 6) (w : World) : Calls Tryd.prog 38 #[.int .i64 ((n % 10 ^ k : Nat) : Int), .int .i64 (k : Int)] w fun e w' => e = .returned (.string (str (dgw k n))) ∧ ∃ q, w' = w.drewN q := by
  have hlt : n % 10 ^ k < 10 ^ k := Nat.mod_lt _ (Nat.pos_of_ne_zero (by simp))
  have hle : (10 : Nat) ^ k ≤ 10 ^ 6 := Nat.pow_le_pow_right (by omega) h6
  have h106 : (10 : Nat) ^ 6 = 1000000 := by decide
  have hJ : ∀ j, j < k ↔ (0 < n % 10 ^ k / 10 ^ j ∨ j < k) := by
    intro j
    constructor
    · exact .inr
    · rintro (h | h)
      · rcases Nat.lt_or_ge j k with h' | h'
        · exact h'
        · have : (10 : Nat) ^ k ≤ 10 ^ j := Nat.pow_le_pow_right (by omega) h'
          rw [Nat.div_eq_of_lt (by omega)] at h
          omega
      · exact h
  refine (dec_any (n % 10 ^ k) k k (by omega) hJ (by omega) (by omega) w).mono ?_
  rintro e w' ⟨rfl, rfl⟩
  exact ⟨by rw [dgw_mod], 0, rfl⟩
theorem qof' (a : Nat) (w : World) : Calls Tryd.prog 37 #[.int .u64 (a : Int)] w fun e w' => e = .returned (.float .f64 a) ∧ w = w' := by
  have := qof_any (a : Int) w
  rw [Int.toNat_natCast] at this
  exact this
theorem qcanon' {a r : Nat} (w : World) (h : toN a = r) : Calls Tryd.prog 36 #[.int .u64 (a : Int)] w fun e w' => e = .returned (.int .u64 (r : Int)) ∧ w = w' := by
  have := qcanon_any (a : Int) w
  rw [Int.toNat_natCast, h] at this
  exact this
end Go.Proofs.YtoonkajdmhmdpaaDoor
