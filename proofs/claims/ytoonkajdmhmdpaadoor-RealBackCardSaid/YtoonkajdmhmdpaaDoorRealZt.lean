/- What Text of a real answers, the program's: the walk. Conditions: those in each theorem. -/
import Derived.Test.YtoonkajdmhmdpaaDoorRealZ
namespace Go.Proofs.YtoonkajdmhmdpaaDoor
open Go.RowKit Go.As
set_option linter.unusedVariables false

theorem rprint_is {c : Nat} {t : List UInt8} {z : Int} (hc : toN c = c) (hl : c < 18446744073709551616) (h : PSpec c t z) (w : World) (ht : Tab w) :
    Calls Tryd.prog 24 #[.int .u64 (c : Int)] w fun e w' => e = .returned (.tuple #[.string (str t), .int .i64 z]) ∧ Below w.heap.size w w' := by
  refine (rprint_any c hl w ht).mono ?_
  rintro e w' ⟨s, y, rfl, hp, hb⟩
  rw [hc] at hp
  obtain ⟨h1, h2⟩ := hp.uniq h
  rw [h1, h2]
  exact ⟨rfl, hb⟩
theorem qprint_is {c : Nat} {t : List UInt8} {z : Int} (hc : toN c = c) (hl : c < 18446744073709551616) (h : PSpec c t z) (w : World) :
    Calls Tryd.prog 25 #[.int .u64 (c : Int)] w fun e w' => e = .returned (.tuple #[.string (str t), .int .i64 z]) ∧ Below w.heap.size w w' := by
  refine (qprint_any c hl w).mono ?_
  rintro e w' ⟨s, y, rfl, hp, hb⟩
  rw [hc] at hp
  obtain ⟨h1, h2⟩ := hp.uniq h
  rw [h1, h2]
  exact ⟨rfl, hb⟩
theorem repeat_zero (n : Nat) (hn : n ≤ 16) (w : World) : Calls Tryd.prog 41 #[.string (str [48]), .int .i64 (n : Int)] w fun e w' => e = .returned (.string (str (List.replicate n 48))) ∧ Below w.heap.size w w' := by
  refine (Tryd.strings_Repeat (str [48]) n w (by omega) (by rw [str_size]; simp; omega)).mono ?_
  rintro e w' ⟨rfl, hb⟩
  refine ⟨?_, hb⟩
  have : Lib.repeatL (str [48]).data.toList n = List.replicate n 48 := by
    have := Lib.repeatL_replicate 48 1 n
    rw [Nat.mul_one] at this
    exact this
  rw [this]
  rfl
set_option maxRecDepth 100000 in
set_option maxHeartbeats 3200000 in
theorem rtext_any (b : Nat) (hb : b < 18446744073709551616) (w : World) (ht : Tab w) (htb : TabB w) :
    Calls Tryd.prog 26 #[.int .u64 (b : Int)] w fun e w' => ∃ s, e = .returned (.string (str s)) ∧ TSpec (toN b) s ∧ Below w.heap.size w w' := by
  obtain ⟨c, hc⟩ : ∃ c, c = toN b := ⟨_, rfl⟩
  have hcl : c < 18446744073709551616 := by
    rw [hc]; unfold toN; split <;> omega
  have hcc : toN c = c := by rw [hc, toN_toN]
  have g1 := fun W => kcanon (a := b) (r := c) W hc.symm
  have g2 := fun W => kof c W
  rw [← hc]
  clear hc hb
  have HTB := Lib.hid htb
  clear htb
  by_cases hn : c = 9221120237041090560
  · have hn1 : ((c : Int) == 9221120237041090560) = true := beq_iff_eq.2 (by omega)
    have hn2 : (c : Int) = 9221120237041090560 := by omega
    have HS := Lib.hid (show TSpec c [110, 97, 110] from .inl ⟨hn, rfl⟩)
    clear hn hcl hcc
    go_enter Tryd.func26, Tryd.ntmps26
    go_wp2_with (first
      | (go_at_call 13; (with_reducible refine (g1 _).mono ?_); rintro e w' ⟨rfl, rfl⟩)
      | (go_at_call 28; (with_reducible refine (g2 _).mono ?_); rintro e w' ⟨rfl, rfl⟩)
      | (go_at_call 39; first | (with_reducible refine (HI1.out _).mono ?_) | (with_reducible refine (HI2.out _).mono ?_)
         rintro e w' ⟨rfl, rfl⟩)
      | (go_at_call 24
         first
           | (with_reducible refine (HP1.out _ ht).mono ?_
              rintro e w1 ⟨rfl, hb1⟩
              have HB1 := Lib.hid hb1
              have ht1 := ht.below hb1
              have HTW1 := Lib.hid (HTB.out.below hb1)
              clear hb1)
           | (with_reducible refine (HP2.out _ ht1).mono ?_
              rintro e w2 ⟨rfl, hb2⟩
              have HB2 := Lib.hid (below_then HB1.out hb2)
              have HTW2 := Lib.hid (HTW1.out.below hb2)
              clear hb2))
      | (go_at_call 40
         (with_reducible refine (HFU.out _ HTW2.out).mono ?_)
         rintro e w3 ⟨rfl, hb3⟩
         have HB3 := Lib.hid (below_then HB2.out hb3)
         clear hb3)
      | (go_at_call 41
         (with_reducible refine (HRP.out _).mono ?_)
         rintro e w4 ⟨rfl, hb4⟩
         have HB4 := Lib.hid (below_then HB3.out hb4)
         clear hb4))
    go_ret
    exact ⟨[110, 97, 110], rfl, HS.out, Below.refl _ _⟩
  · have hn1 : ((c : Int) == 9221120237041090560) = false := beq_false_of_ne (by omega)
    have hn2 : ¬ (c : Int) = 9221120237041090560 := by omega
    have hnan : nanW c = false := by
      cases h : nanW c with
      | false => rfl
      | true => exact absurd (hcc.symm.trans (toN_nanW h)) hn
    have hnl : negW c < 18446744073709551616 := negW_lt hcl
    have hnn : nanW (negW c) = false := by rw [nanW_neg hcl]; exact hnan
    obtain ⟨n, hnw⟩ : ∃ n, n = negW c := ⟨_, rfl⟩
    rw [← hnw] at hnl hnn
    have hi1 := top_gt hcl hnan
    have hi2 := top_gt hnl hnn
    have hneg : Op.negFloat .f64 c = n := by
      rw [hnw]
      exact xor_neg hcl
    have HI1 := Lib.hid (isinf_pos c hi1)
    have HI2 := Lib.hid (isinf_neg c n hneg hi2)
    by_cases h1 : c = 9218868437227405312
    · have HS := Lib.hid (show TSpec c [105, 110, 102] from .inr (.inl ⟨h1, rfl⟩))
      rw [decide_eq_true h1] at HI1
      clear hn h1 hi1 hi2 hcl hcc hnan hnl hnn hneg hnw HI2
      have HI2 := HI1
      go_enter Tryd.func26, Tryd.ntmps26
      go_wp2_with (first
        | (go_at_call 13; (with_reducible refine (g1 _).mono ?_); rintro e w' ⟨rfl, rfl⟩)
        | (go_at_call 28; (with_reducible refine (g2 _).mono ?_); rintro e w' ⟨rfl, rfl⟩)
        | (go_at_call 39; first | (with_reducible refine (HI1.out _).mono ?_) | (with_reducible refine (HI2.out _).mono ?_)
           rintro e w' ⟨rfl, rfl⟩)
        | (go_at_call 24
           first
             | (with_reducible refine (HP1.out _ ht).mono ?_
                rintro e w1 ⟨rfl, hb1⟩
                have HB1 := Lib.hid hb1
                have ht1 := ht.below hb1
                have HTW1 := Lib.hid (HTB.out.below hb1)
                clear hb1)
             | (with_reducible refine (HP2.out _ ht1).mono ?_
                rintro e w2 ⟨rfl, hb2⟩
                have HB2 := Lib.hid (below_then HB1.out hb2)
                have HTW2 := Lib.hid (HTW1.out.below hb2)
                clear hb2))
        | (go_at_call 40
           (with_reducible refine (HFU.out _ HTW2.out).mono ?_)
           rintro e w3 ⟨rfl, hb3⟩
           have HB3 := Lib.hid (below_then HB2.out hb3)
           clear hb3)
        | (go_at_call 41
           (with_reducible refine (HRP.out _).mono ?_)
           rintro e w4 ⟨rfl, hb4⟩
           have HB4 := Lib.hid (below_then HB3.out hb4)
           clear hb4))
      go_ret
      exact ⟨[105, 110, 102], rfl, HS.out, Below.refl _ _⟩
    · rw [decide_eq_false h1] at HI1
      by_cases h2 : c = 18442240474082181120
      · have HS := Lib.hid (show TSpec c [45, 105, 110, 102] from .inr (.inr (.inl ⟨h2, rfl⟩)))
        rw [decide_eq_true (by rw [hnw]; exact (neg_inf hcl).2 h2)] at HI2
        clear hn h1 h2 hi1 hi2 hcl hcc hnan hnl hnn hneg hnw
        go_enter Tryd.func26, Tryd.ntmps26
        go_wp2_with (first
          | (go_at_call 13; (with_reducible refine (g1 _).mono ?_); rintro e w' ⟨rfl, rfl⟩)
          | (go_at_call 28; (with_reducible refine (g2 _).mono ?_); rintro e w' ⟨rfl, rfl⟩)
          | (go_at_call 39; first | (with_reducible refine (HI1.out _).mono ?_) | (with_reducible refine (HI2.out _).mono ?_)
             rintro e w' ⟨rfl, rfl⟩)
          | (go_at_call 24
             first
               | (with_reducible refine (HP1.out _ ht).mono ?_
                  rintro e w1 ⟨rfl, hb1⟩
                  have HB1 := Lib.hid hb1
                  have ht1 := ht.below hb1
                  have HTW1 := Lib.hid (HTB.out.below hb1)
                  clear hb1)
               | (with_reducible refine (HP2.out _ ht1).mono ?_
                  rintro e w2 ⟨rfl, hb2⟩
                  have HB2 := Lib.hid (below_then HB1.out hb2)
                  have HTW2 := Lib.hid (HTW1.out.below hb2)
                  clear hb2))
          | (go_at_call 40
             (with_reducible refine (HFU.out _ HTW2.out).mono ?_)
             rintro e w3 ⟨rfl, hb3⟩
             have HB3 := Lib.hid (below_then HB2.out hb3)
             clear hb3)
          | (go_at_call 41
             (with_reducible refine (HRP.out _).mono ?_)
             rintro e w4 ⟨rfl, hb4⟩
             have HB4 := Lib.hid (below_then HB3.out hb4)
             clear hb4))
        go_ret
        exact ⟨[45, 105, 110, 102], rfl, HS.out, Below.refl _ _⟩
      · rw [decide_eq_false (by rw [hnw]; exact fun h => h2 ((neg_inf hcl).1 h))] at HI2
        rcases PSpec.total c with ⟨t, hp⟩ | hp
        · have HS := Lib.hid (show TSpec c t from .inr (.inr (.inr ⟨hn, h1, h2, .inl hp⟩)))
          have HP1 := Lib.hid (rprint_is hcc hcl hp)
          have HP2 := HP1
          clear hn h1 h2 hi1 hi2 hcl hcc hnan hnl hnn hneg hnw hp
          go_enter Tryd.func26, Tryd.ntmps26
          go_wp2_with (first
            | (go_at_call 13; (with_reducible refine (g1 _).mono ?_); rintro e w' ⟨rfl, rfl⟩)
            | (go_at_call 28; (with_reducible refine (g2 _).mono ?_); rintro e w' ⟨rfl, rfl⟩)
            | (go_at_call 39; first | (with_reducible refine (HI1.out _).mono ?_) | (with_reducible refine (HI2.out _).mono ?_)
               rintro e w' ⟨rfl, rfl⟩)
            | (go_at_call 24
               first
                 | (with_reducible refine (HP1.out _ ht).mono ?_
                    rintro e w1 ⟨rfl, hb1⟩
                    have HB1 := Lib.hid hb1
                    have ht1 := ht.below hb1
                    have HTW1 := Lib.hid (HTB.out.below hb1)
                    clear hb1)
                 | (with_reducible refine (HP2.out _ ht1).mono ?_
                    rintro e w2 ⟨rfl, hb2⟩
                    have HB2 := Lib.hid (below_then HB1.out hb2)
                    have HTW2 := Lib.hid (HTW1.out.below hb2)
                    clear hb2))
            | (go_at_call 40
               (with_reducible refine (HFU.out _ HTW2.out).mono ?_)
               rintro e w3 ⟨rfl, hb3⟩
               have HB3 := Lib.hid (below_then HB2.out hb3)
               clear hb3)
            | (go_at_call 41
               (with_reducible refine (HRP.out _).mono ?_)
               rintro e w4 ⟨rfl, hb4⟩
               have HB4 := Lib.hid (below_then HB3.out hb4)
               clear hb4))
          go_ret
          exact ⟨t, rfl, HS.out, HB1.out⟩
        · have HP1 := Lib.hid (rprint_is hcc hcl hp)
          have hx : bits .xor .u64 (c : Int) 9223372036854775808 = (n : Int) := by rw [hnw]; exact bits_neg hcl
          rcases PSpec.total n with ⟨t, hq⟩ | hq
          · have HS := Lib.hid (show TSpec c (45 :: t) from .inr (.inr (.inr ⟨hn, h1, h2, .inr ⟨hp, .inl ⟨t, by rw [← hnw]; exact hq, rfl⟩⟩⟩)))
            have HP2 := Lib.hid (rprint_is (toN_of hnn) hnl hq)
            have htl := hq.len
            have hsum : ∀ W, (Op.stringOp .add (str [45]) (str t)).run Tryd.prog W = .ok (.string (str (45 :: t))) W := fun W => by
              rw [run_string_add_sum (P := Tryd.prog) (w := W) (str [45]) (str t) (by rw [str_size, str_size]; simp; omega), str_append]; rfl
            clear hn h1 h2 hi1 hi2 hcl hcc hnan hnl hnn hneg hnw hp hq htl
            go_enter Tryd.func26, Tryd.ntmps26
            go_wp2_with (first
              | (go_at_call 13; (with_reducible refine (g1 _).mono ?_); rintro e w' ⟨rfl, rfl⟩)
              | (go_at_call 28; (with_reducible refine (g2 _).mono ?_); rintro e w' ⟨rfl, rfl⟩)
              | (go_at_call 39; first | (with_reducible refine (HI1.out _).mono ?_) | (with_reducible refine (HI2.out _).mono ?_)
                 rintro e w' ⟨rfl, rfl⟩)
              | (go_at_call 24
                 first
                   | (with_reducible refine (HP1.out _ ht).mono ?_
                      rintro e w1 ⟨rfl, hb1⟩
                      have HB1 := Lib.hid hb1
                      have ht1 := ht.below hb1
                      have HTW1 := Lib.hid (HTB.out.below hb1)
                      clear hb1)
                   | (with_reducible refine (HP2.out _ ht1).mono ?_
                      rintro e w2 ⟨rfl, hb2⟩
                      have HB2 := Lib.hid (below_then HB1.out hb2)
                      have HTW2 := Lib.hid (HTW1.out.below hb2)
                      clear hb2))
              | (go_at_call 40
                 (with_reducible refine (HFU.out _ HTW2.out).mono ?_)
                 rintro e w3 ⟨rfl, hb3⟩
                 have HB3 := Lib.hid (below_then HB2.out hb3)
                 clear hb3)
              | (go_at_call 41
                 (with_reducible refine (HRP.out _).mono ?_)
                 rintro e w4 ⟨rfl, hb4⟩
                 have HB4 := Lib.hid (below_then HB3.out hb4)
                 clear hb4))
            go_ret
            exact ⟨45 :: t, rfl, HS.out, HB2.out⟩
          · have HS := Lib.hid (show TSpec c (35 :: hexd 16 c) from .inr (.inr (.inr ⟨hn, h1, h2, .inr ⟨hp, .inr ⟨by rw [← hnw]; exact hq, rfl⟩⟩⟩)))
            have HP2 := Lib.hid (rprint_is (toN_of hnn) hnl hq)
            obtain ⟨l, hll⟩ : ∃ l, l = hexd (nHex c) c := ⟨_, rfl⟩
            have hlen : l.length = nHex c := by rw [hll]; exact hexd_length _ _
            have hle : nHex c ≤ 15 + 1 := nHex_le hcl
            obtain ⟨k, hk⟩ : ∃ k, k = 16 - nHex c := ⟨_, rfl⟩
            have hwk : IntKind.i64.wrap (16 - (l.length : Int)) = (k : Int) := by rw [IntKind.wrap_i64]; omega
            have hsub : (16 : Int) - (l.length : Int) = (k : Int) := by omega
            have hall := hexd_all hcl
            rw [← hll, ← hk] at hall
            have HFU := Lib.hid (show ∀ W, TabB W → Calls Tryd.prog 40 #[.int .u64 (c : Int), .int .i64 16] W fun e w' => e = .returned (.string (str l)) ∧ Below W.heap.size W w' from fun W hW => by rw [hll]; exact fmtUint16 c hcl W hW)
            have hk16 : k ≤ 16 := by omega
            have HRP := Lib.hid (fun W => repeat_zero k hk16 W)
            obtain ⟨z, hz⟩ : ∃ z, z = List.replicate k (48 : UInt8) := ⟨_, rfl⟩
            have hzl : z.length = k := by rw [hz]; exact List.length_replicate ..
            rw [← hz] at HRP hall
            have hl16 : l.length ≤ 16 := by omega
            have hs1 : ∀ W, (Op.stringOp .add (str [35]) (str z)).run Tryd.prog W = .ok (.string (str (35 :: z))) W := fun W => by
              rw [run_string_add_sum (P := Tryd.prog) (w := W) (str [35]) (str z) (by rw [str_size, str_size]; simp; omega), str_append]; rfl
            have hs2 : ∀ W, (Op.stringOp .add (str (35 :: z)) (str l)).run Tryd.prog W = .ok (.string (str (35 :: hexd 16 c))) W := fun W => by
              rw [run_string_add_sum (P := Tryd.prog) (w := W) (str (35 :: z)) (str l) (by rw [str_size, str_size]; simp; omega), str_append, List.cons_append, hall]
            clear hn h1 h2 hi1 hi2 hcl hcc hnan hnl hnn hneg hnw hp hq hll hlen hle hk hall hk16 hz hzl
            go_enter Tryd.func26, Tryd.ntmps26
            go_wp2_with (first
              | (go_at_call 13; (with_reducible refine (g1 _).mono ?_); rintro e w' ⟨rfl, rfl⟩)
              | (go_at_call 28; (with_reducible refine (g2 _).mono ?_); rintro e w' ⟨rfl, rfl⟩)
              | (go_at_call 39; first | (with_reducible refine (HI1.out _).mono ?_) | (with_reducible refine (HI2.out _).mono ?_)
                 rintro e w' ⟨rfl, rfl⟩)
              | (go_at_call 24
                 first
                   | (with_reducible refine (HP1.out _ ht).mono ?_
                      rintro e w1 ⟨rfl, hb1⟩
                      have HB1 := Lib.hid hb1
                      have ht1 := ht.below hb1
                      have HTW1 := Lib.hid (HTB.out.below hb1)
                      clear hb1)
                   | (with_reducible refine (HP2.out _ ht1).mono ?_
                      rintro e w2 ⟨rfl, hb2⟩
                      have HB2 := Lib.hid (below_then HB1.out hb2)
                      have HTW2 := Lib.hid (HTW1.out.below hb2)
                      clear hb2))
              | (go_at_call 40
                 (with_reducible refine (HFU.out _ HTW2.out).mono ?_)
                 rintro e w3 ⟨rfl, hb3⟩
                 have HB3 := Lib.hid (below_then HB2.out hb3)
                 clear hb3)
              | (go_at_call 41
                 (with_reducible refine (HRP.out _).mono ?_)
                 rintro e w4 ⟨rfl, hb4⟩
                 have HB4 := Lib.hid (below_then HB3.out hb4)
                 clear hb4))
            go_ret
            exact ⟨35 :: hexd 16 c, rfl, HS.out, HB4.out⟩
end Go.Proofs.YtoonkajdmhmdpaaDoor
