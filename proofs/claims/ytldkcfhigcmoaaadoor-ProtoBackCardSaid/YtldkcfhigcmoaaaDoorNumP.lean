/- Numbers as bytes and as digits: plain laws. No program is named; the conditions are in each theorem. -/
import Derived.Test.YtldkcfhigcmoaaaDoorBytes
import Derived.Lib.ItoaNum
namespace Go.As
open Go
set_option linter.unusedVariables false

/-! a number's bytes, the great ones ahead -/
def beL (n : Nat) : Nat → List UInt8
  | 0 => []
  | k + 1 => UInt8.ofNat (n / 256 ^ k) :: beL n k
theorem beL_len (n : Nat) : ∀ k, (beL n k).length = k
  | 0 => rfl
  | k + 1 => by simp [beL, beL_len n k]
def numF (a : Nat) (l : List UInt8) : Nat := l.foldl (fun n b => n * 256 + b.toNat) a
def numL (l : List UInt8) : Nat := numF 0 l
theorem numL_snoc (l : List UInt8) (b : UInt8) : numL (l ++ [b]) = numL l * 256 + b.toNat := by simp [numL, numF]
theorem num_step {l : List UInt8} {b : UInt8} {k : Nat} (hb : l[k]? = some b) : numL (l.take (k + 1)) = numL (l.take k) * 256 + b.toNat := by
  rw [List.take_add_one, hb]
  exact numL_snoc _ _
theorem numF_lt (l : List UInt8) : ∀ a k, a < 256 ^ k → numF a l < 256 ^ (k + l.length) := by
  induction l with
  | nil => intro a k h; simpa [numF] using h
  | cons x r ih =>
    intro a k h
    have hx := x.toNat_lt
    have := ih (a * 256 + x.toNat) (k + 1) (by rw [Nat.pow_succ]; omega)
    simp only [numF, List.foldl_cons, List.length_cons] at this ⊢
    rwa [show k + (r.length + 1) = k + 1 + r.length by omega]
theorem numL_lt (l : List UInt8) : numL l < 256 ^ l.length := by
  have := numF_lt l 0 0 (by simp)
  simpa [numL] using this
theorem num_lt7 {l : List UInt8} {k : Nat} (hk : k ≤ 7) : numL (l.take k) < 72057594037927936 := by
  have h1 := numL_lt (l.take k)
  have h2 : 256 ^ (l.take k).length ≤ 256 ^ 7 := Nat.pow_le_pow_right (by decide) (by rw [List.length_take]; omega)
  omega
theorem numF_beL (n : Nat) : ∀ k a, numF a (beL n k) = a * 256 ^ k + n % 256 ^ k
  | 0, a => by simp [beL, numF, Nat.mod_one]
  | k + 1, a => by
    have h := numF_beL n k (a * 256 + (n / 256 ^ k) % 256)
    have hx : (UInt8.ofNat (n / 256 ^ k)).toNat = (n / 256 ^ k) % 256 := by simp
    simp only [numF, beL, List.foldl_cons, hx] at h ⊢
    rw [h, Nat.pow_succ, Nat.mod_mul, Nat.add_mul, Nat.mul_assoc, Nat.mul_comm 256 (256 ^ k)]
    rw [Nat.mul_comm (256 ^ k) (n / 256 ^ k % 256)]
    omega
theorem numL_beL (n k : Nat) (h : n < 256 ^ k) : numL (beL n k) = n := by
  rw [numL, numF_beL, Nat.mod_eq_of_lt h]; omega

/-! a number's shortest bytes -/
def shortL (n : Nat) : List UInt8 := if h : n < 128 then [UInt8.ofNat n] else UInt8.ofNat (n % 128 + 128) :: shortL (n / 128)
termination_by n
decreasing_by omega
theorem shortL_small {n : Nat} (h : n < 128) : shortL n = [UInt8.ofNat n] := by rw [shortL, dif_pos h]
theorem shortL_big {n : Nat} (h : ¬ n < 128) : shortL n = UInt8.ofNat (n % 128 + 128) :: shortL (n / 128) := by rw [shortL, dif_neg h]
theorem shortL_pos (n : Nat) : 0 < (shortL n).length := by
  by_cases h : n < 128
  · rw [shortL_small h]; simp
  · rw [shortL_big h]; simp
theorem shortL_len : ∀ (k n : Nat), n < 128 ^ (k + 1) → (shortL n).length ≤ k + 1
  | 0, n, h => by rw [shortL_small (by simpa using h)]; simp
  | k + 1, n, h => by
    by_cases h1 : n < 128
    · rw [shortL_small h1]; simp
    · rw [shortL_big h1]
      have := shortL_len k (n / 128) (by rw [Nat.pow_succ] at h; omega)
      simp; omega
theorem shortL_len10 {n : Nat} (h : n < 18446744073709551616) : (shortL n).length ≤ 10 := shortL_len 9 n (by omega)

/-- the number of a beginning whose bytes are all of 128 or more -/
def valL : List UInt8 → Nat
  | [] => 0
  | c :: r => c.toNat % 128 + 128 * valL r
theorem valL_snoc (l : List UInt8) (c : UInt8) : valL (l ++ [c]) = valL l + c.toNat % 128 * 128 ^ l.length := by
  induction l with
  | nil => simp [valL]
  | cons x r ih =>
    simp only [List.cons_append, valL, ih, List.length_cons, Nat.pow_succ]
    rw [Nat.mul_add, ← Nat.mul_assoc, ← Nat.mul_assoc, Nat.mul_comm 128 (c.toNat % 128), Nat.mul_assoc (c.toNat % 128), Nat.mul_comm 128 (128 ^ r.length), ← Nat.mul_assoc]
    omega
theorem valL_lt (l : List UInt8) : valL l < 128 ^ l.length := by
  induction l with
  | nil => simp [valL]
  | cons x r ih => simp only [valL, List.length_cons, Nat.pow_succ]; omega

/-- the number that begins a list, and how many bytes it has; 'i' bytes stood ahead -/
def readS (i : Nat) : List UInt8 → Option (Nat × Nat)
  | [] => none
  | c :: r => if 9 < i ∨ (i = 9 ∧ 1 < c.toNat) then none else if c.toNat < 128 then (if c.toNat = 0 ∧ 0 < i then none else some (c.toNat, 1)) else (readS (i + 1) r).map fun x => (c.toNat % 128 + 128 * x.1, x.2 + 1)
/-- a number of 'i' bytes ahead laid to it -/
def addS (l : List UInt8) (o : Option (Nat × Nat)) : Option (Nat × Nat) := o.map fun x => (valL l + 128 ^ l.length * x.1, x.2 + l.length)
theorem addS_nil (o : Option (Nat × Nat)) : addS [] o = o := by cases o <;> simp [addS, valL]
theorem addS_none (l : List UInt8) : addS l none = none := rfl
theorem addS_snoc (l : List UInt8) (c : UInt8) (o : Option (Nat × Nat)) : addS (l ++ [c]) o = addS l (o.map fun x => (c.toNat % 128 + 128 * x.1, x.2 + 1)) := by
  cases o with
  | none => rfl
  | some x =>
    simp only [addS, Option.map_some, valL_snoc, List.length_append, List.length_singleton, Nat.pow_succ]
    congr 2
    · rw [Nat.mul_add, Nat.mul_comm (128 ^ l.length) (c.toNat % 128), ← Nat.mul_assoc]; omega
    · omega
/-- one byte more of 128 or more -/
theorem readS_more {b : List UInt8} {k : Nat} (hk : k < b.length) (h : readS 0 b = addS (b.take k) (readS k (b.drop k))) (hx : ¬ (9 < k ∨ (k = 9 ∧ 1 < b[k].toNat))) (h128 : ¬ b[k].toNat < 128) :
    readS 0 b = addS (b.take (k + 1)) (readS (k + 1) (b.drop (k + 1))) := by
  rw [h, List.take_succ_eq_append_getElem hk, addS_snoc, List.drop_eq_getElem_cons hk]
  simp only [readS, if_neg hx, if_neg h128]
theorem readS_stop {b : List UInt8} {k : Nat} (hk : k < b.length) (h : readS 0 b = addS (b.take k) (readS k (b.drop k))) (hx : 9 < k ∨ (k = 9 ∧ 1 < b[k].toNat)) : readS 0 b = none := by
  rw [h, List.drop_eq_getElem_cons hk]
  simp only [readS, if_pos hx, addS_none]
theorem readS_zero {b : List UInt8} {k : Nat} (hk : k < b.length) (h : readS 0 b = addS (b.take k) (readS k (b.drop k))) (h128 : b[k].toNat = 0) (h0 : 0 < k) : readS 0 b = none := by
  rw [h, List.drop_eq_getElem_cons hk]
  by_cases hx : 9 < k ∨ (k = 9 ∧ 1 < b[k].toNat)
  · simp only [readS, if_pos hx, addS_none]
  · simp only [readS, if_neg hx, if_pos (show b[k].toNat < 128 by omega), if_pos (And.intro h128 h0), addS_none]
theorem readS_done {b : List UInt8} {k : Nat} (hk : k < b.length) (h : readS 0 b = addS (b.take k) (readS k (b.drop k))) (hx : ¬ (9 < k ∨ (k = 9 ∧ 1 < b[k].toNat))) (h128 : b[k].toNat < 128) (h0 : ¬ (b[k].toNat = 0 ∧ 0 < k)) :
    readS 0 b = some (valL (b.take k) + b[k].toNat * 128 ^ k, k + 1) := by
  have hl : (b.take k).length = k := by simp; omega
  rw [h, List.drop_eq_getElem_cons hk]
  simp only [readS, if_neg hx, if_pos h128, if_neg h0, addS, Option.map_some, hl]
  rw [Nat.mul_comm, Nat.add_comm 1 k]
theorem readS_end {b : List UInt8} (h : readS 0 b = addS (b.take b.length) (readS b.length (b.drop b.length))) : readS 0 b = none := by
  rw [h]; simp [readS, addS_none]
theorem readS_ten {b : List UInt8} (h : readS 0 b = addS (b.take 10) (readS 10 (b.drop 10))) : readS 0 b = none := by
  rw [h]
  cases b.drop 10 with
  | nil => rfl
  | cons c r => simp [readS, addS_none]
/-- the shortest bytes of a number are just these bytes -/
theorem shortL_val : ∀ (l : List UInt8) (c : UInt8), (∀ x ∈ l, 128 ≤ x.toNat) → c.toNat < 128 → ¬ (c.toNat = 0 ∧ 0 < l.length) → shortL (valL l + c.toNat * 128 ^ l.length) = l ++ [c]
  | [], c, _, hc, _ => by simp [valL, shortL_small hc]
  | x :: r, c, hl, hc, h0 => by
    have hx := hl x (by simp)
    have hxl := x.toNat_lt
    have h1 : c.toNat ≠ 0 := fun e => h0 ⟨e, by simp⟩
    have hp : 1 ≤ c.toNat * 128 ^ r.length := Nat.mul_pos (by omega) (Nat.pow_pos (by decide))
    have ih := shortL_val r c (fun y hy => hl y (by simp [hy])) hc (fun h => h1 h.1)
    have e : valL (x :: r) + c.toNat * 128 ^ (x :: r).length = x.toNat % 128 + 128 * (valL r + c.toNat * 128 ^ r.length) := by
      simp only [valL, List.length_cons, Nat.pow_succ, Nat.mul_add]
      rw [← Nat.mul_assoc, Nat.mul_comm 128 (c.toNat * 128 ^ r.length)]
      omega
    rw [e, shortL_big (by omega)]
    have e1 : (x.toNat % 128 + 128 * (valL r + c.toNat * 128 ^ r.length)) % 128 = x.toNat % 128 := by omega
    have e2 : (x.toNat % 128 + 128 * (valL r + c.toNat * 128 ^ r.length)) / 128 = valL r + c.toNat * 128 ^ r.length := by omega
    rw [e1, e2, ih]
    have e3 : UInt8.ofNat (x.toNat % 128 + 128) = x := by
      apply UInt8.toNat_inj.1
      simp; omega
    rw [e3]; rfl
theorem shortL_back : ∀ (l : List UInt8) (c : UInt8) (m : Nat), (∀ x ∈ l, 128 ≤ x.toNat) → c.toNat < 128 → shortL m = l ++ [c] → m = valL l + c.toNat * 128 ^ l.length ∧ ¬ (c.toNat = 0 ∧ 0 < l.length)
  | [], c, m, _, hc, h => by
    by_cases hm : m < 128
    · rw [shortL_small hm] at h
      simp at h
      subst h
      refine ⟨?_, by simp⟩
      simp [valL]; omega
    · rw [shortL_big hm] at h
      simp at h
      have := shortL_pos (m / 128)
      rw [h.2] at this
      simp at this
  | x :: r, c, m, hl, hc, h => by
    have hx := hl x (by simp)
    have hxl := x.toNat_lt
    by_cases hm : m < 128
    · rw [shortL_small hm] at h
      simp at h
    · rw [shortL_big hm] at h
      simp only [List.cons_append, List.cons.injEq] at h
      obtain ⟨e1, e2⟩ := shortL_back r c (m / 128) (fun y hy => hl y (by simp [hy])) hc h.2
      have hx2 : m % 128 = x.toNat % 128 := by
        have := congrArg UInt8.toNat h.1
        simp at this
        omega
      have e : valL (x :: r) + c.toNat * 128 ^ (x :: r).length = x.toNat % 128 + 128 * (valL r + c.toNat * 128 ^ r.length) := by
        simp only [valL, List.length_cons, Nat.pow_succ, Nat.mul_add]
        rw [← Nat.mul_assoc, Nat.mul_comm 128 (c.toNat * 128 ^ r.length)]
        omega
      refine ⟨by rw [e, ← e1]; omega, fun h0 => ?_⟩
      by_cases hr : 0 < r.length
      · exact e2 ⟨h0.1, hr⟩
      · have : r = [] := List.eq_nil_of_length_eq_zero (by omega)
        subst this
        simp [valL] at e1
        omega
/-- what the document asks of the bytes is what the program asks -/
theorem short_iff {b : List UInt8} {k : Nat} (hk : k < b.length) (hk9 : k ≤ 9) (hl : ∀ x ∈ b.take k, 128 ≤ x.toNat) (h128 : b[k].toNat < 128) :
    shortL ((valL (b.take k) + b[k].toNat * 128 ^ k) % 18446744073709551616) = b.take (k + 1) ↔ ¬ (k = 9 ∧ 1 < b[k].toNat) ∧ ¬ (b[k].toNat = 0 ∧ 0 < k) := by
  have hlen : (b.take k).length = k := by simp; omega
  rw [List.take_succ_eq_append_getElem hk]
  have hv := valL_lt (b.take k)
  rw [hlen] at hv
  have hp : 128 ^ k ≤ 128 ^ 9 := Nat.pow_le_pow_right (by decide) hk9
  constructor
  · intro h
    obtain ⟨e1, e2⟩ := shortL_back _ _ _ hl h128 h
    rw [hlen] at e1 e2
    refine ⟨fun ⟨h9, hc⟩ => ?_, e2⟩
    subst h9
    have := Nat.mod_lt (valL (b.take 9) + b[9].toNat * 128 ^ 9) (show 18446744073709551616 > 0 by decide)
    rw [e1] at this
    have hh : 2 * 128 ^ 9 ≤ b[9].toNat * 128 ^ 9 := Nat.mul_le_mul_right _ hc
    omega
  · rintro ⟨h1, h2⟩
    have hm : (valL (b.take k) + b[k].toNat * 128 ^ k) % 18446744073709551616 = valL (b.take k) + b[k].toNat * 128 ^ k := by
      refine Nat.mod_eq_of_lt ?_
      by_cases h9 : k = 9
      · subst h9
        have hc : b[9].toNat ≤ 1 := by omega
        have hh : b[9].toNat * 128 ^ 9 ≤ 1 * 128 ^ 9 := Nat.mul_le_mul_right _ hc
        omega
      · have hp : 128 ^ k ≤ 128 ^ 8 := Nat.pow_le_pow_right (by decide) (by omega)
        have hh : b[k].toNat * 128 ^ k ≤ 127 * 128 ^ 8 := Nat.mul_le_mul (by omega) hp
        omega
    rw [hm]
    have := shortL_val (b.take k) b[k] hl h128 (by rw [hlen]; exact h2)
    rw [hlen] at this
    exact this
/-- read of what was told, whatever stands behind -/
theorem readS_shortL : ∀ (i n : Nat) (r : List UInt8), i ≤ 9 → n * 128 ^ i < 18446744073709551616 → (0 < i → 0 < n) → readS i (shortL n ++ r) = some (n, (shortL n).length) := by
  intro i n
  induction n using Nat.strongRecOn generalizing i with
  | _ n ih =>
    intro r hi hn h0
    have hp : 1 ≤ 128 ^ i := Nat.pow_pos (by decide)
    by_cases h : n < 128
    · rw [shortL_small h]
      have hnn : (UInt8.ofNat n).toNat = n := by simp; omega
      have hx : ¬ (9 < i ∨ (i = 9 ∧ 1 < n)) := by
        rintro (h | ⟨rfl, h⟩)
        · omega
        · have : 2 * 128 ^ 9 ≤ n * 128 ^ 9 := Nat.mul_le_mul_right _ h
          omega
      simp only [List.cons_append, List.nil_append, readS, hnn, if_neg hx, if_pos h, List.length_singleton]
      rw [if_neg (by omega)]
    · rw [shortL_big h]
      have hnn : (UInt8.ofNat (n % 128 + 128)).toNat = n % 128 + 128 := by simp; omega
      have hi9 : i < 9 := by
        rcases Nat.lt_or_ge i 9 with h9 | h9
        · exact h9
        · have : i = 9 := by omega
          subst this
          have : 128 * 128 ^ 9 ≤ n * 128 ^ 9 := Nat.mul_le_mul_right _ (by omega)
          omega
      have hx : ¬ (9 < i ∨ (i = 9 ∧ 1 < n % 128 + 128)) := by omega
      have hd : n / 128 * 128 ^ (i + 1) ≤ n * 128 ^ i := by
        rw [Nat.pow_succ, Nat.mul_comm (128 ^ i) 128, ← Nat.mul_assoc]
        exact Nat.mul_le_mul_right _ (by omega)
      have := ih (n / 128) (by omega) (i + 1) r (by omega) (by omega) (by omega)
      simp only [List.cons_append, readS, hnn, if_neg hx, if_neg (show ¬ n % 128 + 128 < 128 by omega), this, Option.map_some, List.length_cons]
      congr 2
      omega
/-- what was read is told again as just these bytes -/
theorem shortL_readS : ∀ (l : List UInt8) (i v u : Nat), readS i l = some (v, u) → 0 < u ∧ u ≤ l.length ∧ shortL v = l.take u ∧ (0 < i → 0 < v) ∧ v * 128 ^ i < 18446744073709551616 ∧ i + u ≤ 10
  | [], i, v, u, h => by simp [readS] at h
  | c :: r, i, v, u, h => by
    have hcl := c.toNat_lt
    simp only [readS] at h
    split at h
    · cases h
    · rename_i hx
      split at h
      · rename_i h128
        split at h
        · cases h
        · rename_i h0
          simp only [Option.some.injEq, Prod.mk.injEq] at h
          obtain ⟨rfl, rfl⟩ := h
          refine ⟨by omega, by simp, by rw [shortL_small h128]; simp, by omega, ?_, by omega⟩
          by_cases h9 : i = 9
          · subst h9
            have : c.toNat * 128 ^ 9 ≤ 1 * 128 ^ 9 := Nat.mul_le_mul_right _ (by omega)
            omega
          · have hp : 128 ^ i ≤ 128 ^ 8 := Nat.pow_le_pow_right (by decide) (by omega)
            have : c.toNat * 128 ^ i ≤ 127 * 128 ^ 8 := Nat.mul_le_mul (by omega) hp
            omega
      · rename_i h128
        cases hr : readS (i + 1) r with
        | none => rw [hr] at h; cases h
        | some x =>
          rw [hr] at h
          simp only [Option.map_some, Option.some.injEq, Prod.mk.injEq] at h
          obtain ⟨rfl, rfl⟩ := h
          obtain ⟨h1, h2, h3, h4, h5, h6⟩ := shortL_readS r (i + 1) x.1 x.2 hr
          have hv := h4 (by omega)
          refine ⟨by omega, by simp; omega, ?_, by omega, ?_, by omega⟩
          · rw [shortL_big (by omega)]
            have e1 : (c.toNat % 128 + 128 * x.1) % 128 = c.toNat % 128 := by omega
            have e2 : (c.toNat % 128 + 128 * x.1) / 128 = x.1 := by omega
            rw [e1, e2, h3, List.take_succ_cons]
            congr 1
            apply UInt8.toNat_inj.1
            simp; omega
          · have hm : 128 ^ (i + 1) * (x.1 + 1) ≤ 18446744073709551616 := by
              have hd : (128 : Nat) ^ (i + 1) ∣ 18446744073709551616 := by
                have : (18446744073709551616 : Nat) = 128 ^ 9 * 2 := by decide
                rw [this]
                exact Nat.dvd_mul_right_of_dvd (Nat.pow_dvd_pow _ (by omega)) _
              obtain ⟨q, hq⟩ := hd
              rw [hq] at h5 ⊢
              rw [Nat.mul_comm] at h5
              have := Nat.lt_of_mul_lt_mul_left h5
              exact Nat.mul_le_mul_left _ (by omega)
            have : (c.toNat % 128 + 128 * x.1) * 128 ^ i < 128 ^ (i + 1) * (x.1 + 1) := by
              rw [Nat.pow_succ, Nat.mul_comm (128 ^ i) 128, Nat.mul_assoc, Nat.mul_comm (128 ^ i) (x.1 + 1), ← Nat.mul_assoc]
              exact Nat.mul_lt_mul_of_pos_right (by omega) (Nat.pow_pos (by decide))
            omega
end Go.As
