/- What Text of a real answers, the document's: the walk. Conditions: those in each theorem. -/
import Derived.Test.YtoonkajdmhmdpaaDoorRealZt
namespace Go.Proofs.YtoonkajdmhmdpaaDoor
open Go.RowKit Go.As
set_option linter.unusedVariables false

theorem qneg_is {c n : Nat} (hl : c < 18446744073709551616) (hn : nanW c = false) (h : n = negW c) (w : World) : Calls Tryd.prog 42 #[.int .u64 (c : Int)] w fun e w' => e = .returned (.int .u64 (n : Int)) ∧ w = w' := by
  have := qneg_any (c : Int) w
  rw [ngN_ngW hl] at this
  have e : ngW c = n := by unfold ngW; rw [hn, if_neg (by decide), h]
  rw [e] at this
  exact this
def hexTable : List UInt8 := [48, 49, 50, 51, 52, 53, 54, 55, 56, 57, 97, 98, 99, 100, 101, 102]
theorem hex_table {d : Nat} (h : d < 16) : List.take 1 (List.drop d hexTable) = [hexCh d] := by
  have : d = 0 ∨ d = 1 ∨ d = 2 ∨ d = 3 ∨ d = 4 ∨ d = 5 ∨ d = 6 ∨ d = 7 ∨ d = 8 ∨ d = 9 ∨ d = 10 ∨ d = 11 ∨ d = 12 ∨ d = 13 ∨ d = 14 ∨ d = 15 := by omega
  rcases this with rfl | rfl | rfl | rfl | rfl | rfl | rfl | rfl | rfl | rfl | rfl | rfl | rfl | rfl | rfl | rfl <;> rfl
theorem hexd_step (j c : Nat) (hj : j < 16) : hexd (j + 1) (c / 16 ^ (15 - j)) = hexd j (c / 16 ^ (16 - j)) ++ [hexCh (c / 16 ^ (15 - j) % 16)] := by
  rw [hexd, Nat.div_div_eq_div_mul, ← Nat.pow_succ, show (15 - j).succ = 16 - j by omega]
set_option maxRecDepth 100000 in
set_option maxHeartbeats 3200000 in
theorem qtext_any (b : Nat) (hb : b < 18446744073709551616) (w : World) :
    Calls Tryd.prog 27 #[.int .u64 (b : Int)] w fun e w' => ∃ s, e = .returned (.string (str s)) ∧ TSpec (toN b) s ∧ Below w.heap.size w w' := by
  obtain ⟨c, hc⟩ : ∃ c, c = toN b := ⟨_, rfl⟩
  have hcl : c < 18446744073709551616 := by
    rw [hc]; unfold toN; split <;> omega
  have hcc : toN c = c := by rw [hc, toN_toN]
  have g1 := fun W => qcanon' (a := b) (r := c) W hc.symm
  rw [← hc]
  clear hc hb
  by_cases hn : c = 9221120237041090560
  · have hn1 : ((c : Int) == 9221120237041090560) = true := beq_iff_eq.2 (by omega)
    have hn2 : (c : Int) = 9221120237041090560 := by omega
    have HS := Lib.hid (show TSpec c [110, 97, 110] from .inl ⟨hn, rfl⟩)
    clear hn hcl hcc
    go_enter Tryd.func27, Tryd.ntmps27
    go_wp2_with (first
      | (go_at_call 36; (with_reducible refine (g1 _).mono ?_); rintro e w' ⟨rfl, rfl⟩)
      | (go_at_call 42; (with_reducible refine (g2 _).mono ?_); rintro e w' ⟨rfl, rfl⟩)
      | (go_at_call 25
         first
           | (with_reducible refine (HP1.out _).mono ?_
              rintro e w1 ⟨rfl, hb1⟩
              have HB1 := Lib.hid hb1
              clear hb1)
           | (with_reducible refine (HP2.out _).mono ?_
              rintro e w2 ⟨rfl, hb2⟩
              have HB2 := Lib.hid (below_then HB1.out hb2)
              clear hb2)))
    go_ret
    exact ⟨[110, 97, 110], rfl, HS.out, Below.refl _ _⟩
  · have hn1 : ((c : Int) == 9221120237041090560) = false := beq_false_of_ne (by omega)
    have hn2 : ¬ (c : Int) = 9221120237041090560 := by omega
    have hnan : nanW c = false := by
      cases h : nanW c with
      | false => rfl
      | true => exact absurd (hcc.symm.trans (toN_nanW h)) hn
    by_cases h1 : c = 9218868437227405312
    · have hi1 : ((c : Int) == 9218868437227405312) = true := beq_iff_eq.2 (by omega)
      have HS := Lib.hid (show TSpec c [105, 110, 102] from .inr (.inl ⟨h1, rfl⟩))
      clear hn h1 hcl hcc hnan
      go_enter Tryd.func27, Tryd.ntmps27
      go_wp2_with (first
        | (go_at_call 36; (with_reducible refine (g1 _).mono ?_); rintro e w' ⟨rfl, rfl⟩)
        | (go_at_call 42; (with_reducible refine (g2 _).mono ?_); rintro e w' ⟨rfl, rfl⟩)
        | (go_at_call 25
           first
             | (with_reducible refine (HP1.out _).mono ?_
                rintro e w1 ⟨rfl, hb1⟩
                have HB1 := Lib.hid hb1
                clear hb1)
             | (with_reducible refine (HP2.out _).mono ?_
                rintro e w2 ⟨rfl, hb2⟩
                have HB2 := Lib.hid (below_then HB1.out hb2)
                clear hb2)))
      go_ret
      exact ⟨[105, 110, 102], rfl, HS.out, Below.refl _ _⟩
    · have hi1 : ((c : Int) == 9218868437227405312) = false := beq_false_of_ne (by omega)
      by_cases h2 : c = 18442240474082181120
      · have hi2 : ((c : Int) == 18442240474082181120) = true := beq_iff_eq.2 (by omega)
        have HS := Lib.hid (show TSpec c [45, 105, 110, 102] from .inr (.inr (.inl ⟨h2, rfl⟩)))
        clear hn h1 h2 hcl hcc hnan
        go_enter Tryd.func27, Tryd.ntmps27
        go_wp2_with (first
          | (go_at_call 36; (with_reducible refine (g1 _).mono ?_); rintro e w' ⟨rfl, rfl⟩)
          | (go_at_call 42; (with_reducible refine (g2 _).mono ?_); rintro e w' ⟨rfl, rfl⟩)
          | (go_at_call 25
             first
               | (with_reducible refine (HP1.out _).mono ?_
                  rintro e w1 ⟨rfl, hb1⟩
                  have HB1 := Lib.hid hb1
                  clear hb1)
               | (with_reducible refine (HP2.out _).mono ?_
                  rintro e w2 ⟨rfl, hb2⟩
                  have HB2 := Lib.hid (below_then HB1.out hb2)
                  clear hb2)))
        go_ret
        exact ⟨[45, 105, 110, 102], rfl, HS.out, Below.refl _ _⟩
      · have hi2 : ((c : Int) == 18442240474082181120) = false := beq_false_of_ne (by omega)
        have hnl : negW c < 18446744073709551616 := negW_lt hcl
        have hnn : nanW (negW c) = false := by rw [nanW_neg hcl]; exact hnan
        obtain ⟨n, hnw⟩ : ∃ n, n = negW c := ⟨_, rfl⟩
        rw [← hnw] at hnl hnn
        have g2 := fun W => qneg_is hcl hnan hnw W
        rcases PSpec.total c with ⟨t, hp⟩ | hp
        · have HS := Lib.hid (show TSpec c t from .inr (.inr (.inr ⟨hn, h1, h2, .inl hp⟩)))
          have HP1 := Lib.hid (qprint_is hcc hcl hp)
          have HP2 := HP1
          clear hn h1 h2 hcl hcc hnan hnl hnn hnw hp
          go_enter Tryd.func27, Tryd.ntmps27
          go_wp2_with (first
            | (go_at_call 36; (with_reducible refine (g1 _).mono ?_); rintro e w' ⟨rfl, rfl⟩)
            | (go_at_call 42; (with_reducible refine (g2 _).mono ?_); rintro e w' ⟨rfl, rfl⟩)
            | (go_at_call 25
               first
                 | (with_reducible refine (HP1.out _).mono ?_
                    rintro e w1 ⟨rfl, hb1⟩
                    have HB1 := Lib.hid hb1
                    clear hb1)
                 | (with_reducible refine (HP2.out _).mono ?_
                    rintro e w2 ⟨rfl, hb2⟩
                    have HB2 := Lib.hid (below_then HB1.out hb2)
                    clear hb2)))
          go_ret
          exact ⟨t, rfl, HS.out, HB1.out⟩
        · have HP1 := Lib.hid (qprint_is hcc hcl hp)
          rcases PSpec.total n with ⟨t, hq⟩ | hq
          · have HS := Lib.hid (show TSpec c (45 :: t) from .inr (.inr (.inr ⟨hn, h1, h2, .inr ⟨hp, .inl ⟨t, by rw [← hnw]; exact hq, rfl⟩⟩⟩)))
            have HP2 := Lib.hid (qprint_is (toN_of hnn) hnl hq)
            have htl := hq.len
            have hsum : ∀ W, (Op.stringOp .add (str [45]) (str t)).run Tryd.prog W = .ok (.string (str (45 :: t))) W := fun W => by
              rw [run_string_add_sum (P := Tryd.prog) (w := W) (str [45]) (str t) (by rw [str_size, str_size]; simp; omega), str_append]; rfl
            clear hn h1 h2 hcl hcc hnan hnl hnn hnw hp hq htl
            go_enter Tryd.func27, Tryd.ntmps27
            go_wp2_with (first
              | (go_at_call 36; (with_reducible refine (g1 _).mono ?_); rintro e w' ⟨rfl, rfl⟩)
              | (go_at_call 42; (with_reducible refine (g2 _).mono ?_); rintro e w' ⟨rfl, rfl⟩)
              | (go_at_call 25
                 first
                   | (with_reducible refine (HP1.out _).mono ?_
                      rintro e w1 ⟨rfl, hb1⟩
                      have HB1 := Lib.hid hb1
                      clear hb1)
                   | (with_reducible refine (HP2.out _).mono ?_
                      rintro e w2 ⟨rfl, hb2⟩
                      have HB2 := Lib.hid (below_then HB1.out hb2)
                      clear hb2)))
            go_ret
            exact ⟨45 :: t, rfl, HS.out, HB2.out⟩
          · have HS := Lib.hid (show TSpec c (35 :: hexd 16 c) from .inr (.inr (.inr ⟨hn, h1, h2, .inr ⟨hp, .inr ⟨by rw [← hnw]; exact hq, rfl⟩⟩⟩)))
            have HP2 := Lib.hid (qprint_is (toN_of hnn) hnl hq)
            have HC := Lib.hid hcl
            clear hn h1 h2 hcl hcc hnan hnl hnn hnw hp hq
            go_enter Tryd.func27, Tryd.ntmps27
            go_wp2_with (first
              | (go_at_call 36; (with_reducible refine (g1 _).mono ?_); rintro e w' ⟨rfl, rfl⟩)
              | (go_at_call 42; (with_reducible refine (g2 _).mono ?_); rintro e w' ⟨rfl, rfl⟩)
              | (go_at_call 25
                 first
                   | (with_reducible refine (HP1.out _).mono ?_
                      rintro e w1 ⟨rfl, hb1⟩
                      have HB1 := Lib.hid hb1
                      clear hb1)
                   | (with_reducible refine (HP2.out _).mono ?_
                      rintro e w2 ⟨rfl, hb2⟩
                      have HB2 := Lib.hid (below_then HB1.out hb2)
                      clear hb2)))
            go_loopw [3, 5] (fun sv iv wr => ∃ j : Nat, j ≤ 16 ∧ sv = .string (str (35 :: hexd j (c / 16 ^ (16 - j)))) ∧ iv = .int .i64 (60 - 4 * (j : Int)) ∧ Below w.heap.size w wr) (fun sv _ _ => 40 - strLen sv)
            case atStart => exact ⟨0, by omega, rfl, by simp, HB2.out⟩
            case round =>
              obtain ⟨j, hj, rfl, rfl, hb⟩ := hrel
              have HB := Lib.hid hb
              clear hb
              by_cases hgo : j < 16
              · obtain ⟨S, hS⟩ : ∃ S, S = 35 :: hexd j (c / 16 ^ (16 - j)) := ⟨_, rfl⟩
                have hSl : S.length = j + 1 := by rw [hS, List.length_cons, hexd_length]
                rw [← hS]
                obtain ⟨s, hs⟩ : ∃ s, s = 60 - 4 * j := ⟨_, rfl⟩
                have hsi : (60 : Int) - 4 * (j : Int) = (s : Int) := by omega
                rw [hsi]
                have hs60 : s ≤ 60 := by omega
                have hs0 : (0 : Int) ≤ s := by omega
                have hmin : min s 64 = s := by omega
                obtain ⟨q, hq⟩ : ∃ q, q = c / 2 ^ s := ⟨_, rfl⟩
                have hpow : (2 : Nat) ^ s = 16 ^ (15 - j) := by
                  rw [show (16 : Nat) = 2 ^ 4 from rfl, ← Nat.pow_mul]
                  congr 1
                  omega
                have hsh : (c : Int) / 2 ^ s = (q : Int) := by
                  rw [hq, Int.natCast_ediv, Int.natCast_pow]; rfl
                have hqu : q < 18446744073709551616 := by rw [hq]; exact Nat.lt_of_le_of_lt (Nat.div_le_self _ _) HC.out
                obtain ⟨d, hd⟩ : ∃ d, d = q % 16 := ⟨_, rfl⟩
                have hd16 : d < 16 := by omega
                have ha : bits .and .u64 (q : Int) 15 = (d : Int) := by rw [hd]; exact and15 q hqu
                have hsl : List.take 1 (List.drop d [48, 49, 50, 51, 52, 53, 54, 55, 56, 57, 97, 98, 99, 100, 101, 102]) = [hexCh d] := hex_table hd16
                have v1 : IntKind.u64.wrap ((d : Int) + 1) = (d : Int) + 1 := by rw [IntKind.wrap_u64]; omega
                have v2 : IntKind.i64.wrap ((s : Int) - 4) = (s : Int) - 4 := by rw [IntKind.wrap_i64]; omega
                obtain ⟨S2, hS2⟩ : ∃ S2, S2 = S ++ [hexCh d] := ⟨_, rfl⟩
                have hst : ∀ W, (Op.stringOp .add (str S) (str [hexCh d])).run Tryd.prog W = .ok (.string (str S2)) W := fun W => by
                  rw [run_string_add_sum (P := Tryd.prog) (w := W) (str S) (str [hexCh d]) (by rw [str_size, str_size, hSl]; simp; omega), str_append, hS2]
                have HJ := Lib.hid (show j + 1 ≤ 16 ∧ S2 = 35 :: hexd (j + 1) (c / 16 ^ (16 - (j + 1))) ∧ (60 : Int) - 4 * ((j + 1 : Nat) : Int) = (s : Int) - 4 from
                  ⟨hgo, by rw [show 16 - (j + 1) = 15 - j by omega, hexd_step j c hgo, hS2, hS, hd, hq, hpow, List.cons_append], by omega⟩)
                have HM := Lib.hid (show 40 - strLen (.string (str S2)) < 40 - strLen (.string (str S)) from by rw [strLen_str, strLen_str, hS2, List.length_append, hSl]; simp; omega)
                clear hS hSl hs hsi hpow hq hqu hd hgo hj hS2
                go_wp2_with fail
                go_roundw
                case rel => exact ⟨j + 1, HJ.out.1, by rw [HJ.out.2.1], by rw [HJ.out.2.2], HB.out⟩
                case measure => exact HM.out
              · have hj16 : j = 16 := by omega
                have HH := Lib.hid (show (35 : UInt8) :: hexd j (c / 16 ^ (16 - j)) = 35 :: hexd 16 c from by rw [hj16, Nat.sub_self, Nat.pow_zero, Nat.div_one])
                obtain ⟨S, hS⟩ : ∃ S, S = 35 :: hexd j (c / 16 ^ (16 - j)) := ⟨_, rfl⟩
                rw [← hS] at HH ⊢
                have hneg : (60 : Int) - 4 * (j : Int) < 0 := by omega
                have hneg2 : ¬ (0 : Int) ≤ 60 - 4 * (j : Int) := by omega
                obtain ⟨i, hi⟩ : ∃ i, i = (60 : Int) - 4 * (j : Int) := ⟨_, rfl⟩
                rw [← hi] at hneg hneg2 ⊢
                clear hS hj16 hgo hj hi
                go_wp2_with fail
                go_ret
                exact ⟨S, rfl, by rw [HH.out]; exact HS.out, HB.out⟩
end Go.Proofs.YtoonkajdmhmdpaaDoor
