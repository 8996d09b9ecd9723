/- What Text of a real answers, the program's and the document's: the words. Conditions: those in each theorem. -/
import Derived.Test.YtoonkajdmhmdpaaDoorRealU
import Derived.Test.YtoonkajdmhmdpaaDoorRealY
namespace Go.Proofs.YtoonkajdmhmdpaaDoor
open Go.RowKit Go.As Ieee
set_option linter.unusedVariables false

theorem PSpec.total (c : Nat) : (∃ t, PSpec c t 0) ∨ PSpec c [] 2 := by
  have step : ∀ k, NoLit c k → (∃ t, PSpec c t 0) ∨ NoLit c (k + 1) := fun k h => by
    by_cases g : ∃ n, LitIs c k n
    · obtain ⟨n, hn⟩ := g
      exact .inl ⟨litS n k, .inl ⟨rfl, k, n, hn, rfl, h⟩⟩
    · exact .inr (noLit_succ h (fun n hn => g ⟨n, hn⟩))
  have all : ∀ k, (∃ t, PSpec c t 0) ∨ NoLit c (k + 1) := fun k => by
    induction k with
    | zero => exact .inr (noLit_one c)
    | succ k ih => exact ih.elim .inl (step (k + 1))
  rcases all 6 with h | h
  · exact .inl h
  · exact .inr (.inr ⟨rfl, rfl, noLit_all h⟩)
theorem PSpec.len {c : Nat} {t : List UInt8} {z : Int} (h : PSpec c t z) : t.length ≤ 1048576 := by
  rcases h with ⟨_, k, n, h1, rfl, _⟩ | ⟨_, rfl, _⟩
  · exact lit_short (by have := h1.2.2.1; omega) h1.2.1
  · simp
/-- what the text of a real is -/
def TSpec (c : Nat) (s : List UInt8) : Prop :=
  (c = 9221120237041090560 ∧ s = [110, 97, 110]) ∨ (c = 9218868437227405312 ∧ s = [105, 110, 102]) ∨ (c = 18442240474082181120 ∧ s = [45, 105, 110, 102])
  ∨ (c ≠ 9221120237041090560 ∧ c ≠ 9218868437227405312 ∧ c ≠ 18442240474082181120 ∧ (PSpec c s 0 ∨ (PSpec c [] 2 ∧ ((∃ t, PSpec (negW c) t 0 ∧ s = 45 :: t) ∨ (PSpec (negW c) [] 2 ∧ s = 35 :: hexd 16 c)))))
theorem PSpec.off {c : Nat} {s t : List UInt8} (h : PSpec c s 0) (g : PSpec c t 2) : False := by
  have := (h.uniq g).2
  cases this
theorem TSpec.uniq {c : Nat} {s t : List UInt8} (h : TSpec c s) (g : TSpec c t) : s = t := by
  rcases h with ⟨h1, h2⟩ | ⟨h1, h2⟩ | ⟨h1, h2⟩ | ⟨h1, h2, h3, h4⟩
  · rcases g with ⟨g1, g2⟩ | ⟨g1, g2⟩ | ⟨g1, g2⟩ | ⟨g1, g2, g3, g4⟩ <;> first | (exfalso; omega) | (rw [h2, g2])
  · rcases g with ⟨g1, g2⟩ | ⟨g1, g2⟩ | ⟨g1, g2⟩ | ⟨g1, g2, g3, g4⟩ <;> first | (exfalso; omega) | (rw [h2, g2])
  · rcases g with ⟨g1, g2⟩ | ⟨g1, g2⟩ | ⟨g1, g2⟩ | ⟨g1, g2, g3, g4⟩ <;> first | (exfalso; omega) | (rw [h2, g2])
  · rcases g with ⟨g1, g2⟩ | ⟨g1, g2⟩ | ⟨g1, g2⟩ | ⟨g1, g2, g3, g4⟩
    · omega
    · omega
    · omega
    · rcases h4 with h4 | ⟨h4, ⟨x, h5, rfl⟩ | ⟨h5, rfl⟩⟩
      · rcases g4 with g4 | ⟨g4, _⟩
        · exact (h4.uniq g4).1
        · exact (h4.off g4).elim
      · rcases g4 with g4 | ⟨g4, ⟨y, g5, rfl⟩ | ⟨g5, rfl⟩⟩
        · exact (g4.off h4).elim
        · rw [(h5.uniq g5).1]
        · exact (h5.off g5).elim
      · rcases g4 with g4 | ⟨g4, ⟨y, g5, rfl⟩ | ⟨g5, rfl⟩⟩
        · exact (g4.off h4).elim
        · exact (g5.off h5).elim
        · rfl
theorem top_read : fd.read 9218868437227405311 = .number false 9007199254740991 971 := by decide
theorem le_top {m k K : Nat} (h1 : m < 9007199254740992) (h2 : k ≤ K) : (m : Int) * 2 ^ k ≤ 9007199254740991 * 2 ^ K := by
  have h : m * 2 ^ k ≤ 9007199254740991 * 2 ^ K := Nat.mul_le_mul (by omega) (Nat.pow_le_pow_right (by omega) h2)
  have g := Int.ofNat_le.2 h
  rw [Int.natCast_mul, Int.natCast_mul, Int.natCast_pow, Int.natCast_pow] at g
  exact g
theorem inf_word {c : Nat} (h : c < 18446744073709551616) (hi : fd.read c = .infinity false) : c = 9218868437227405312 := by
  have h1 := read_inf h hi
  rw [fd_inf] at h1
  unfold Ieee.Format.word at h1
  rw [if_neg (by decide)] at h1
  exact h1
theorem top_gt {c : Nat} (hl : c < 18446744073709551616) (hn : nanW c = false) : (FloatKind.f64.format.order c 9218868437227405311 == some .gt) = decide (c = 9218868437227405312) := by
  show (fd.order c 9218868437227405311 == some .gt) = _
  by_cases hc : c = 9218868437227405312
  · rw [decide_eq_true hc, hc]
    decide
  · rw [decide_eq_false hc]
    cases hr : fd.read c with
    | nan s p => unfold nanW at hn; rw [hr] at hn; cases hn
    | infinity s =>
      cases s with
      | false => exact absurd (inf_word hl hr) hc
      | true =>
        have h1 : fd.order c 9218868437227405311 = some .lt := by
          unfold Ieee.Format.order
          rw [hr, top_read]
          simp only [Ieee.Datum.order, if_true]
        rw [h1]
        rfl
    | number s m i =>
      obtain ⟨B, hB⟩ := big_is
      have hov := order_val hB (x := c) (y := 9218868437227405311) hn (by decide)
      rw [hr, top_read] at hov
      have hm := read_num hr
      have hle : val B (.number s m i) ≤ val B (.number false 9007199254740991 971) := by
        unfold val
        show signed s m (i + 1074).toNat ≤ signed false 9007199254740991 ((971 : Int) + 1074).toNat
        have hk : (i + 1074).toNat ≤ ((971 : Int) + 1074).toNat := by omega
        obtain ⟨k, hk1⟩ : ∃ k, k = (i + 1074).toNat := ⟨_, rfl⟩
        obtain ⟨K, hK1⟩ : ∃ K, K = ((971 : Int) + 1074).toNat := ⟨_, rfl⟩
        rw [← hk1, ← hK1] at hk ⊢
        have := le_top hm.1 hk
        have hp : (0 : Int) ≤ (m : Int) * 2 ^ k := Int.mul_nonneg (by omega) (Int.pow_nonneg (by omega))
        unfold signed
        have c1 : ((m <<< k : Nat) : Int) = (m : Int) * 2 ^ k := by rw [Nat.shiftLeft_eq, Int.natCast_mul, Int.natCast_pow]; rfl
        have c2 : ((9007199254740991 <<< K : Nat) : Int) = 9007199254740991 * 2 ^ K := by rw [Nat.shiftLeft_eq, Int.natCast_mul, Int.natCast_pow]; rfl
        rw [c1, c2]
        cases s
        · exact this
        · simp only [if_true, Bool.false_eq_true, if_false]
          omega
      rw [hov]
      rcases Int.lt_or_eq_of_le hle with h | h
      · rw [Int.compare_eq_lt.2 h]; rfl
      · rw [Int.compare_eq_eq.2 h]; rfl
theorem neg_inf {c : Nat} (hl : c < 18446744073709551616) : negW c = 9218868437227405312 ↔ c = 18442240474082181120 := by
  unfold negW
  split <;> omega
theorem isinf_pos (c : Nat) {r : Bool} (h : (FloatKind.f64.format.order c 9218868437227405311 == some .gt) = r) (w : World) : Calls Tryd.prog 39 #[.float .f64 c, .int .i64 1] w fun e w' => e = .returned (.bool r) ∧ w = w' := by
  go_enter Tryd.func39, Tryd.ntmps39
  go_wp2
  go_ret
  exact ⟨rfl, rfl⟩
theorem isinf_neg (c n : Nat) {r : Bool} (hn : Op.negFloat .f64 c = n) (h : (FloatKind.f64.format.order n 9218868437227405311 == some .gt) = r) (w : World) : Calls Tryd.prog 39 #[.float .f64 c, .int .i64 (-1)] w fun e w' => e = .returned (.bool r) ∧ w = w' := by
  have hu : ∀ W, (Op.unary .neg (.float .f64 c)).run Tryd.prog W = .ok (.float .f64 n) W := fun W => by rw [← hn]; rfl
  go_enter Tryd.func39, Tryd.ntmps39
  go_wp2
  go_ret
  exact ⟨rfl, rfl⟩
end Go.Proofs.YtoonkajdmhmdpaaDoor
