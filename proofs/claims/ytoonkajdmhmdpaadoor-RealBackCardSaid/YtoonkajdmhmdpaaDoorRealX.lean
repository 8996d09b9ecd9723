/- The digits of a number to the base sixteen, as the library tells them. Conditions: those in each theorem. -/
import Derived.Test.YtoonkajdmhmdpaaDoorRealF
import Derived.Test.YtoonkajdmhmdpaaDoorTz
import Derived.Test.YtoonkajdmhmdpaaDoorBytes
namespace Go.Proofs.YtoonkajdmhmdpaaDoor
open Go.RowKit Go.As
set_option linter.unusedVariables false

def hexCh (d : Nat) : UInt8 := if d < 10 then UInt8.ofNat (48 + d) else UInt8.ofNat (87 + d)
/-- the lowest w digits to the base sixteen -/
def hexd : Nat → Nat → List UInt8
  | 0, _ => []
  | w + 1, n => hexd w (n / 16) ++ [hexCh (n % 16)]
def nHex (n : Nat) : Nat := if h : n < 16 then 1 else nHex (n / 16) + 1
termination_by n
decreasing_by omega
theorem hexd_length : ∀ (w n : Nat), (hexd w n).length = w
  | 0, n => rfl
  | w + 1, n => by rw [hexd, List.length_append, hexd_length]; rfl
theorem hexd_cons : ∀ (j m : Nat), hexd (j + 1) m = hexCh (m / 16 ^ j % 16) :: hexd j m
  | 0, m => by simp [hexd]
  | j + 1, m => by
    rw [hexd, hexd_cons j (m / 16), Nat.div_div_eq_div_mul, ← Nat.pow_succ', hexd, List.cons_append]
theorem nHex_small {n : Nat} (h : n < 16) : nHex n = 1 := by rw [nHex, dif_pos h]
theorem nHex_big {n : Nat} (h : ¬ n < 16) : nHex n = nHex (n / 16) + 1 := by rw [nHex, dif_neg h]
theorem nHex_pos (n : Nat) : 1 ≤ nHex n := by
  by_cases h : n < 16
  · rw [nHex_small h]; omega
  · rw [nHex_big h]; omega
theorem nHex_lt (n : Nat) : n < 16 ^ nHex n := by
  induction n using Nat.strongRecOn with
  | _ n ih =>
    by_cases h : n < 16
    · rw [nHex_small h]; simpa using h
    · rw [nHex_big h, Nat.pow_succ]
      have := ih (n / 16) (by omega)
      omega
theorem nHex_le {n : Nat} : ∀ {w : Nat}, n < 16 ^ (w + 1) → nHex n ≤ w + 1 := by
  induction n using Nat.strongRecOn with
  | _ n ih =>
    intro w h
    by_cases h1 : n < 16
    · rw [nHex_small h1]; omega
    · rw [nHex_big h1]
      cases w with
      | zero => simp at h; omega
      | succ w =>
        have := ih (n / 16) (by omega) (w := w) (by rw [Nat.pow_succ] at h; omega)
        omega
/-- where the digits go on -/
theorem nHex_more (n j : Nat) : 16 ≤ n / 16 ^ j ↔ j + 1 < nHex n := by
  induction j generalizing n with
  | zero =>
    rw [Nat.pow_zero, Nat.div_one]
    by_cases h : n < 16
    · rw [nHex_small h]; omega
    · rw [nHex_big h]
      have := nHex_pos (n / 16)
      omega
  | succ j ih =>
    rw [Nat.pow_succ, Nat.mul_comm, ← Nat.div_div_eq_div_mul, ih (n / 16)]
    by_cases h : n < 16
    · rw [nHex_small h, show n / 16 = 0 by omega, nHex_small (by omega)]; omega
    · rw [nHex_big h]; omega
theorem hexd_pad : ∀ (j w n : Nat), n < 16 ^ w → hexd (w + j) n = List.replicate j 48 ++ hexd w n
  | 0, w, n, _ => by simp
  | j + 1, w, n, h => by
    rw [show w + (j + 1) = (w + j) + 1 by omega, hexd_cons, hexd_pad j w n h]
    have : n / 16 ^ (w + j) = 0 := Nat.div_eq_of_lt (Nat.lt_of_lt_of_le h (Nat.pow_le_pow_right (by omega) (by omega)))
    rw [this]
    rfl
theorem hexd_all {n : Nat} (h : n < 18446744073709551616) : List.replicate (16 - nHex n) 48 ++ hexd (nHex n) n = hexd 16 n := by
  have h1 : nHex n ≤ 15 + 1 := nHex_le h
  have := hexd_pad (16 - nHex n) (nHex n) n (nHex_lt n)
  rw [← this]
  congr 1
  omega
theorem hexCh_val {d : Nat} (h : d < 16) : (hexCh d).toNat = if d < 10 then 48 + d else 87 + d := by
  unfold hexCh
  split <;> (rw [UInt8.toNat_ofNat']; omega)
theorem hexCh_inj {d e : Nat} (hd : d < 16) (he : e < 16) (h : hexCh d = hexCh e) : d = e := by
  have := congrArg UInt8.toNat h
  rw [hexCh_val hd, hexCh_val he] at this
  split at this <;> split at this <;> omega
theorem hexd_inj : ∀ (w : Nat) {m n : Nat}, m < 16 ^ w → n < 16 ^ w → hexd w m = hexd w n → m = n
  | 0, m, n, h1, h2, _ => by simp at h1 h2; omega
  | w + 1, m, n, h1, h2, h => by
    rw [hexd, hexd] at h
    have hl := congrArg List.getLast? h
    have hd := congrArg List.dropLast h
    simp at hl hd
    have e1 := hexCh_inj (Nat.mod_lt m (by decide : 16 > 0)) (Nat.mod_lt n (by decide : 16 > 0)) hl
    have e2 := hexd_inj w (m := m / 16) (n := n / 16) (by rw [Nat.pow_succ] at h1; omega) (by rw [Nat.pow_succ] at h2; omega) hd
    omega
end Go.Proofs.YtoonkajdmhmdpaaDoor
