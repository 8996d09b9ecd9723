/- What dec answers, the document's: the digits of a number, at least so many. Conditions: those in the theorem. -/
import Derived.Test.YtoonkajdmhmdpaaDoorRealF
namespace Go.Proofs.YtoonkajdmhmdpaaDoor
open Go.RowKit Go.As
set_option linter.unusedVariables false

theorem dgw_cons : ∀ (j m : Nat), dgw (j + 1) m = digC (m / 10 ^ j % 10) :: dgw j m
  | 0, m => by simp [dgw]
  | j + 1, m => by
    rw [dgw, dgw_cons j (m / 10), Nat.div_div_eq_div_mul, ← Nat.pow_succ', dgw, List.cons_append]
def decTable : List UInt8 := [48, 49, 50, 51, 52, 53, 54, 55, 56, 57]
theorem dec_table {d : Nat} (h : d < 10) : List.take 1 (List.drop d decTable) = [digC d] := by
  have : d = 0 ∨ d = 1 ∨ d = 2 ∨ d = 3 ∨ d = 4 ∨ d = 5 ∨ d = 6 ∨ d = 7 ∨ d = 8 ∨ d = 9 := by omega
  rcases this with rfl | rfl | rfl | rfl | rfl | rfl | rfl | rfl | rfl | rfl <;> rfl
set_option maxRecDepth 100000 in
theorem dec_any (m l J : Nat) (hm : m < 10000000000000000) (hJ : ∀ j, j < J ↔ (0 < m / 10 ^ j ∨ j < l)) (hJ2 : J ≤ 30) (hl : l ≤ 30) (w : World) :
    Calls Tryd.prog 38 #[.int .i64 (m : Int), .int .i64 (l : Int)] w fun e w' => e = .returned (.string (str (dgw J m))) ∧ w = w' := by
  go_enter Tryd.func38, Tryd.ntmps38
  go_wp2_with fail
  go_loopw [0, 1, 5] (fun nv lv sv wr => ∃ j : Nat, j ≤ J ∧ nv = .int .i64 ((m / 10 ^ j : Nat) : Int) ∧ lv = .int .i64 ((l : Int) - (j : Int)) ∧ sv = .string (str (dgw j m)) ∧ wr = w) (fun _ _ sv _ => 40 - strLen sv)
  case atStart => exact ⟨0, by omega, by simp, by simp, by rw [dgw]; rfl, rfl⟩
  case round =>
    obtain ⟨j, hj, rfl, rfl, rfl, rfl⟩ := hrel
    obtain ⟨q, hq⟩ : ∃ q, q = m / 10 ^ j := ⟨_, rfl⟩
    obtain ⟨L, hLL⟩ : ∃ L, L = (l : Int) - (j : Int) := ⟨_, rfl⟩
    obtain ⟨S, hS⟩ : ∃ S, S = dgw j m := ⟨_, rfl⟩
    have hSl : S.length = j := by rw [hS]; exact dgw_length j m
    have hnxt := hJ j
    rw [← hq, ← hLL, ← hS]
    rw [← hq] at hnxt
    have hqm : q ≤ m := by rw [hq]; exact Nat.div_le_self _ _
    by_cases hgo : j < J
    · obtain ⟨d, hd⟩ : ∃ d, d = q % 10 := ⟨_, rfl⟩
      obtain ⟨r, hr⟩ : ∃ r, r = q / 10 := ⟨_, rfl⟩
      have hd10 : d < 10 := by omega
      have t1 : Int.tmod (q : Int) 10 = (d : Int) := by rw [hd]; exact (Int.ofNat_tmod q 10).symm
      have t2 : Int.tdiv (q : Int) 10 = (r : Int) := by rw [hr]; exact (Int.ofNat_tdiv q 10).symm
      have hsl : List.take 1 (List.drop d [48, 49, 50, 51, 52, 53, 54, 55, 56, 57]) = [digC d] := dec_table hd10
      have v1 : IntKind.i64.wrap ((d : Int) + 1) = (d : Int) + 1 := by rw [IntKind.wrap_i64]; omega
      have v2 : IntKind.i64.wrap (r : Int) = (r : Int) := by rw [IntKind.wrap_i64]; omega
      have v3 : IntKind.i64.wrap (L - 1) = L - 1 := by rw [IntKind.wrap_i64]; omega
      have HJ := Lib.hid (show j + 1 ≤ J ∧ ((m / 10 ^ (j + 1) : Nat) : Int) = (r : Int) ∧ (l : Int) - ((j + 1 : Nat) : Int) = L - 1 ∧ dgw (j + 1) m = digC d :: S from
        ⟨hgo, by rw [Nat.pow_succ, ← Nat.div_div_eq_div_mul, ← hq, hr], by omega, by rw [dgw_cons, ← hq, ← hd, hS]⟩)
      have HJM := Lib.hid (show 40 - strLen (.string (str (digC d :: S))) < 40 - strLen (.string (str S)) from by rw [strLen_str, strLen_str, List.length_cons, hSl]; omega)
      have hjJ : j ≤ 30 := by omega
      by_cases hq0 : 0 < q
      · have hq1 : (0 : Int) < q := by omega
        clear hgo hr hd hqm
        have hst : ∀ W, (Op.stringOp .add (str [digC d]) (str S)).run Tryd.prog W = .ok (.string (str (digC d :: S))) W := fun W => by
          rw [run_string_add_sum (P := Tryd.prog) (w := W) (str [digC d]) (str S) (by rw [str_size, str_size, hSl]; simp; omega), str_append]; rfl
        clear hq hS hSl hLL hj hnxt
        go_wp2_with fail
        go_roundw
        case rel => exact ⟨j + 1, HJ.out.1, by rw [HJ.out.2.1], by rw [HJ.out.2.2.1], by rw [HJ.out.2.2.2], trivial⟩
        case measure => exact HJM.out
      · have hL0 : 0 < L := by
          rcases hnxt.1 hgo with h | h
          · exact absurd h hq0
          · omega
        have hq1 : ¬ (0 : Int) < q := by omega
        clear hgo hr hd hqm
        have hst : ∀ W, (Op.stringOp .add (str [digC d]) (str S)).run Tryd.prog W = .ok (.string (str (digC d :: S))) W := fun W => by
          rw [run_string_add_sum (P := Tryd.prog) (w := W) (str [digC d]) (str S) (by rw [str_size, str_size, hSl]; simp; omega), str_append]; rfl
        clear hq hS hSl hLL hj hnxt
        go_wp2_with fail
        go_roundw
        case rel => exact ⟨j + 1, HJ.out.1, by rw [HJ.out.2.1], by rw [HJ.out.2.2.1], by rw [HJ.out.2.2.2], trivial⟩
        case measure => exact HJM.out
    · have hjJ : j = J := by omega
      have hq0 : ¬ 0 < q := fun h => hgo (hnxt.2 (.inl h))
      have hq1 : ¬ (0 : Int) < q := by omega
      have hL0 : ¬ 0 < L := fun h => hgo (hnxt.2 (.inr (by omega)))
      have HS := Lib.hid (show S = dgw J m by rw [hS, hjJ])
      clear hq hS hSl hLL hj hnxt hgo hjJ hqm
      go_wp2_with fail
      go_ret
      rw [HS.out]
      exact ⟨rfl, rfl⟩
end Go.Proofs.YtoonkajdmhmdpaaDoor
