/- What Print of a real answers, the program's. Conditions: those in the theorem. -/
import Derived.Test.YtoonkajdmhmdpaaDoorRealG
import Derived.Test.YtoonkajdmhmdpaaDoorRealH
import Derived.Test.YtoonkajdmhmdpaaDoorRealK
namespace Go.Proofs.YtoonkajdmhmdpaaDoor
open Go.RowKit Go.As
set_option linter.unusedVariables false

/-- no literal with fewer places than k -/
def NoLit (b k : Nat) : Prop := ∀ k' n, k' < k → ¬ LitIs b k' n
/-- what a real's literal is: the one with the fewest places; or there is none -/
def PSpec (b : Nat) (s : List UInt8) (e : Int) : Prop := (e = 0 ∧ ∃ k n, LitIs b k n ∧ s = litS n k ∧ NoLit b k) ∨ (e = 2 ∧ s = [] ∧ ∀ k n, ¬ LitIs b k n)
theorem PSpec.uniq {b : Nat} {s s' : List UInt8} {e e' : Int} (h : PSpec b s e) (g : PSpec b s' e') : s = s' ∧ e = e' := by
  rcases h with ⟨h1, k, n, h2, h3, h4⟩ | ⟨h1, h2, h3⟩
  · rcases g with ⟨g1, l, m, g2, g3, g4⟩ | ⟨g1, g2, g3⟩
    · have hkl : k = l := by
        rcases Nat.lt_trichotomy k l with hlt | he | hgt
        · exact absurd h2 (g4 k n hlt)
        · exact he
        · exact absurd g2 (h4 l m hgt)
      subst hkl
      have := h2.uniq g2
      subst this
      exact ⟨h3.trans g3.symm, h1.trans g1.symm⟩
    · exact absurd h2 (g3 k n)
  · rcases g with ⟨g1, l, m, g2, g3, g4⟩ | ⟨g1, g2, g3⟩
    · exact absurd g2 (h3 l m)
    · exact ⟨h2.trans g2.symm, h1.trans g1.symm⟩
theorem noLit_all {b : Nat} (h : NoLit b 7) : ∀ k n, ¬ LitIs b k n := fun k n hl => h k n (by have := hl.2.1; omega) hl
theorem noLit_one (b : Nat) : NoLit b 1 := fun k n hk hl => by have := hl.1; omega
theorem noLit_succ {b k : Nat} (h : NoLit b k) (g : ∀ n, ¬ LitIs b k n) : NoLit b (k + 1) := fun k' n hk hl => by
  rcases Nat.lt_or_ge k' k with h1 | h1
  · exact h k' n h1 hl
  · have : k' = k := by omega
    subst this
    exact g n hl
/-- where the product's whole part is too great, no literal with so many places or more -/
theorem noLit_great {b k r : Nat} (h1 : 1 ≤ k) (hr : floatBits .mul .f64 b (powT k) = some r) (hN : NoLit b k) (hg : ∀ V : Nat, V ≤ 1000000000000000 → ¬ IsI (flW r) V) : ∀ l n, ¬ LitIs b l n := by
  intro l n hl
  rcases Nat.lt_trichotomy l k with c | c | c
  · exact hN l n c hl
  · subst c
    obtain ⟨r', V, e1, _, e3, e4⟩ := hl.floor
    rw [hr] at e1
    injection e1 with e1
    subst e1
    have := hl.2.2.1
    exact hg V (by omega) e3
  · obtain ⟨r', V, e1, _, e3, e4⟩ := hl.far h1 c
    rw [hr] at e1
    injection e1 with e1
    subst e1
    exact hg V e4 e3
theorem isI_inj {b : Nat} {M N : Int} (h : IsI b M) (g : IsI b N) : M = N := by
  have h1 := isI_toInt h
  have h2 := isI_toInt g
  rw [h1] at h2
  exact Option.some.inj h2
theorem gt_not {N : Nat} {V : Nat} (hV : V ≤ 1000000000000000) (h : IsI N V) : fd.order N w15 ≠ some .gt := by
  rw [isI_order h w15_int]
  intro e
  injection e with e
  rw [Int.compare_eq_gt] at e
  omega
/-- what is read of the literal of a candidate -/
theorem cand_parse (m k : Nat) (h1 : 1 ≤ k) (h6 : k ≤ 6) : (m < 1000000000000000 ∧ rpB (litS m k) = quoW m k ∧ rpF (litS m k) = 0) ∨ (1000000000000000 ≤ m ∧ rpB (litS m k) = 0 ∧ rpF (litS m k) = 4) := by
  rcases Nat.lt_or_ge m 1000000000000000 with h | h
  · exact .inl ⟨h, lit_parse h h1 h6⟩
  · exact .inr ⟨h, lit_bad h h6⟩
theorem lit_short {m k : Nat} (hm : m < 10000000000000000) (h6 : k ≤ 6) : (litS m k).length ≤ 1048576 := by
  rw [lit_len]
  have : Lib.nDigits (m / 10 ^ k) ≤ 15 + 1 := nDigits_le (Nat.lt_of_le_of_lt (Nat.div_le_self _ _) hm)
  omega
def arr3 (V : Int) : Value := .agg #[.int .i64 (V - 1), .int .i64 V, .int .i64 (V + 1)]
theorem run_arr3 (V : Int) (W : World) : (Instr.build 52 #[(0, .int .i64 (V - 1)), (1, .int .i64 V), (2, .int .i64 (V + 1))]).run Tryd.prog W = .ok (.agg #[.int .i64 (V - 1), .int .i64 V, .int .i64 (V + 1)]) W := by kernel_rfl
theorem run_at0 (a b c : Int) (W : World) : (Instr.index 52 (.agg #[.int .i64 a, .int .i64 b, .int .i64 c]) (.int .i64 0)).run Tryd.prog W = .ok (.int .i64 a) W := by kernel_rfl
theorem run_at1 (a b c : Int) (W : World) : (Instr.index 52 (.agg #[.int .i64 a, .int .i64 b, .int .i64 c]) (.int .i64 1)).run Tryd.prog W = .ok (.int .i64 b) W := by kernel_rfl
theorem run_at2 (a b c : Int) (W : World) : (Instr.index 52 (.agg #[.int .i64 a, .int .i64 b, .int .i64 c]) (.int .i64 2)).run Tryd.prog W = .ok (.int .i64 c) W := by kernel_rfl
theorem run_at (V : Int) (j : Nat) (hj : j < 3) (W : World) : (Instr.index 52 (.agg #[.int .i64 (V - 1), .int .i64 V, .int .i64 (V + 1)]) (.int .i64 (j : Int))).run Tryd.prog W = .ok (.int .i64 (V - 1 + (j : Int))) W := by
  have : j = 0 ∨ j = 1 ∨ j = 2 := by omega
  rcases this with rfl | rfl | rfl
  · have := run_at0 (V - 1) V (V + 1) W
    rw [show V - 1 + ((0 : Nat) : Int) = V - 1 by omega]
    exact this
  · have := run_at1 (V - 1) V (V + 1) W
    rw [show V - 1 + ((1 : Nat) : Int) = V by omega]
    exact this
  · have := run_at2 (V - 1) V (V + 1) W
    rw [show V - 1 + ((2 : Nat) : Int) = V + 1 by omega]
    exact this
end Go.Proofs.YtoonkajdmhmdpaaDoor
