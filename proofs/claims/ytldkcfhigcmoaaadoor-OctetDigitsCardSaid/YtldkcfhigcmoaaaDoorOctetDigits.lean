/- The law OctetDigits: a number's digits are read as it, and digits that are read are told again; every input. -/
import Derived.Test.YtldkcfhigcmoaaaDoorDoor
import Derived.Test.YtldkcfhigcmoaaaDoorDecQ
import Derived.Test.YtldkcfhigcmoaaaDoorBnd
import Derived.Test.YtldkcfhigcmoaaaDoorOAwake
import Derived.Test.YtldkcfhigcmoaaaDoorOctH
namespace Go.Proofs.YtldkcfhigcmoaaaDoor
open Go.RowKit Go.As
set_option linter.unusedVariables false


set_option maxRecDepth 100000 in
set_option maxHeartbeats 6400000 in
theorem octetDigits_walk (n : Int) (hn : (Lit.int .i64 n).wf = true) (s : List UInt8) (hs : s.length ≤ maxLen) (w : World) (ht : Tab w) :
    Calls Tryd.prog 4 #[.int .i64 n, .string (str s)] w fun e w' => e = .returned (.bool true) ∧ Below w.heap.size w w' := by
  obtain ⟨hn1, hn2⟩ := i64_bnd hn
  replace hs : s.length ≤ 9223372036854775807 := by simp only [maxLen] at hs; omega
  have HT := Lib.hid ht
  clear ht hn
  have hil : (Lib.itoa n).length ≤ 9223372036854775807 := by have := itoa_len hn1 hn2; omega
  have hXc : (hexE s = 4 ∧ True) ∨ (hexE s = 0 ∧ ∃ b, unhexL s = some b ∧ hexL b = s) := by
    unfold hexE
    cases hu : unhexL s with
    | none => exact .inl ⟨rfl, trivial⟩
    | some b => exact .inr ⟨rfl, b, rfl, hexL_unhexL _ s (Nat.le_refl _) b hu⟩
  have hKc := rdE_cases s 9223372036854775807
  have hIc : (n < 0 ∧ rdE (Lib.itoa n) 9223372036854775807 = (0, 4)) ∨ (0 ≤ n ∧ rdE (Lib.itoa n) 9223372036854775807 = (n, 0)) := by
    by_cases h : n < 0
    · exact .inl ⟨h, rdE_neg h (by decide)⟩
    · obtain ⟨N, rfl⟩ : ∃ N : Nat, n = N := ⟨n.toNat, by omega⟩
      exact .inr ⟨by omega, by rw [itoa_nat]; exact rdE_dec (by omega) (by omega)⟩
  by_cases hbig : 300 < s.length
  · rcases hIc with ⟨hneg, hi⟩ | ⟨hpos, hi⟩
    · have HI := Lib.hid (And.intro hi hil)
      clear hi hil hXc hKc
      go_enter Tryd.func4, Tryd.ntmps4
      go_wp2_with (first
        | (go_at_call 29
           refine (oawake_any w HT.out).mono ?_
           rintro e w1 ⟨rfl, hb1⟩
           have H1 := Lib.hid hb1
           clear hb1)
        | (go_at_call 22
           first
           | (refine (odec_any n hn1 hn2 _ (HT.out.below H1.out)).mono ?_
              rintro e w2 ⟨rfl, hb2⟩
              have H2 := Lib.hid (below_then H1.out hb2)
              clear hb2))
        | (go_at_call 17
           first
           | (have hm := M1.out
              clear hm
              refine (oreaddec_any s 9223372036854775807 _ hs (by decide) (by decide)).mono ?_
              rw [HK.out.1]
              rintro e w' ⟨rfl, rfl⟩)
           | (refine (oreaddec_any (Lib.itoa n) 9223372036854775807 _ HI.out.2 (by decide) (by decide)).mono ?_
              rw [HI.out.1]
              rintro e w' ⟨rfl, rfl⟩
              have M1 := Lib.hid trivial))
        | (go_at_call 30
           refine (oreadhex_any s _ hs2).mono ?_
           rw [HX.out.1]
           rintro e w3 ⟨xv, xrm, rfl, hr3, hb3⟩
           obtain ⟨xa, xn, xc, rfl, hxn, -, -⟩ := hr3.form2
           have H3 := Lib.hid (And.intro (below_then H2.out hb3) (show Sl w3 1 xa xn _ by rw [hxn]; exact hr3.sl))
           have hxl := HX.out.2.1
           rw [← hxn] at hxl
           clear hr3 hb3 hxn)
        | (go_at_call 31
           refine (ohex_any xa xn xc _ _ H3.out.2 hxl).mono ?_
           rw [HX.out.2.2]
           rintro e w5 ⟨rfl, hb5⟩
           have H5 := Lib.hid (below_then H3.out.1 hb5)
           clear hb5))
      all_goals
        go_ret
        first | exact ⟨rfl, H2.out⟩ | exact ⟨by simp, H2.out⟩
    · have HI := Lib.hid (And.intro hi hil)
      clear hi hil hXc hKc
      go_enter Tryd.func4, Tryd.ntmps4
      go_wp2_with (first
        | (go_at_call 29
           refine (oawake_any w HT.out).mono ?_
           rintro e w1 ⟨rfl, hb1⟩
           have H1 := Lib.hid hb1
           clear hb1)
        | (go_at_call 22
           first
           | (refine (odec_any n hn1 hn2 _ (HT.out.below H1.out)).mono ?_
              rintro e w2 ⟨rfl, hb2⟩
              have H2 := Lib.hid (below_then H1.out hb2)
              clear hb2))
        | (go_at_call 17
           first
           | (have hm := M1.out
              clear hm
              refine (oreaddec_any s 9223372036854775807 _ hs (by decide) (by decide)).mono ?_
              rw [HK.out.1]
              rintro e w' ⟨rfl, rfl⟩)
           | (refine (oreaddec_any (Lib.itoa n) 9223372036854775807 _ HI.out.2 (by decide) (by decide)).mono ?_
              rw [HI.out.1]
              rintro e w' ⟨rfl, rfl⟩
              have M1 := Lib.hid trivial))
        | (go_at_call 30
           refine (oreadhex_any s _ hs2).mono ?_
           rw [HX.out.1]
           rintro e w3 ⟨xv, xrm, rfl, hr3, hb3⟩
           obtain ⟨xa, xn, xc, rfl, hxn, -, -⟩ := hr3.form2
           have H3 := Lib.hid (And.intro (below_then H2.out hb3) (show Sl w3 1 xa xn _ by rw [hxn]; exact hr3.sl))
           have hxl := HX.out.2.1
           rw [← hxn] at hxl
           clear hr3 hb3 hxn)
        | (go_at_call 31
           refine (ohex_any xa xn xc _ _ H3.out.2 hxl).mono ?_
           rw [HX.out.2.2]
           rintro e w5 ⟨rfl, hb5⟩
           have H5 := Lib.hid (below_then H3.out.1 hb5)
           clear hb5))
      all_goals
        go_ret
        first | exact ⟨rfl, H2.out⟩ | exact ⟨by simp, H2.out⟩
  have hs2 : s.length ≤ 1048576 := by omega
  rcases hIc with ⟨hneg, hi⟩ | ⟨hpos, hi⟩
  · have HI := Lib.hid (And.intro hi hil)
    clear hi hil
    rcases hKc with ⟨ke, hk, hke1, hke2⟩ | ⟨K, hk, hkd, hkm, -⟩
    · have HK := Lib.hid (And.intro hk True.intro)
      have hke : ((ke : Int) != 0) = true := by simp; omega
      have hke' : ((ke : Int) == 0) = false := by simp; omega
      clear hk
      rcases hXc with ⟨hx, -⟩ | ⟨hx, b, hu, hb⟩
      · have HX := Lib.hid (show hexE s = 4 ∧ ((unhexL s).getD []).length ≤ 1048576 ∧ True from ⟨hx, by rw [(hexE_none (by unfold hexE at hx; cases h : unhexL s <;> simp_all)).2]; simp, trivial⟩)
        clear hx
        go_enter Tryd.func4, Tryd.ntmps4
        go_wp2_with (first
          | (go_at_call 29
             refine (oawake_any w HT.out).mono ?_
             rintro e w1 ⟨rfl, hb1⟩
             have H1 := Lib.hid hb1
             clear hb1)
          | (go_at_call 22
             first
             | (refine (odec_any n hn1 hn2 _ (HT.out.below H1.out)).mono ?_
                rintro e w2 ⟨rfl, hb2⟩
                have H2 := Lib.hid (below_then H1.out hb2)
                clear hb2))
          | (go_at_call 17
             first
             | (have hm := M1.out
                clear hm
                refine (oreaddec_any s 9223372036854775807 _ hs (by decide) (by decide)).mono ?_
                rw [HK.out.1]
                rintro e w' ⟨rfl, rfl⟩)
             | (refine (oreaddec_any (Lib.itoa n) 9223372036854775807 _ HI.out.2 (by decide) (by decide)).mono ?_
                rw [HI.out.1]
                rintro e w' ⟨rfl, rfl⟩
                have M1 := Lib.hid trivial))
          | (go_at_call 30
             refine (oreadhex_any s _ hs2).mono ?_
             rw [HX.out.1]
             rintro e w3 ⟨xv, xrm, rfl, hr3, hb3⟩
             obtain ⟨xa, xn, xc, rfl, hxn, -, -⟩ := hr3.form2
             have H3 := Lib.hid (And.intro (below_then H2.out hb3) (show Sl w3 1 xa xn _ by rw [hxn]; exact hr3.sl))
             have hxl := HX.out.2.1
             rw [← hxn] at hxl
             clear hr3 hb3 hxn)
          | (go_at_call 31
             refine (ohex_any xa xn xc _ _ H3.out.2 hxl).mono ?_
             rw [HX.out.2.2]
             rintro e w5 ⟨rfl, hb5⟩
             have H5 := Lib.hid (below_then H3.out.1 hb5)
             clear hb5))
        all_goals
          go_ret
          first | exact ⟨rfl, H3.out.1⟩ | exact ⟨by simp, H3.out.1⟩
      · have HX := Lib.hid (show hexE s = 0 ∧ ((unhexL s).getD []).length ≤ 1048576 ∧ hexL ((unhexL s).getD []) = s from ⟨hx, by have := unhexL_len _ s (Nat.le_refl _) b hu; rw [hu]; simp; omega, by rw [hu]; exact hb⟩)
        clear hx hu hb
        go_enter Tryd.func4, Tryd.ntmps4
        go_wp2_with (first
          | (go_at_call 29
             refine (oawake_any w HT.out).mono ?_
             rintro e w1 ⟨rfl, hb1⟩
             have H1 := Lib.hid hb1
             clear hb1)
          | (go_at_call 22
             first
             | (refine (odec_any n hn1 hn2 _ (HT.out.below H1.out)).mono ?_
                rintro e w2 ⟨rfl, hb2⟩
                have H2 := Lib.hid (below_then H1.out hb2)
                clear hb2))
          | (go_at_call 17
             first
             | (have hm := M1.out
                clear hm
                refine (oreaddec_any s 9223372036854775807 _ hs (by decide) (by decide)).mono ?_
                rw [HK.out.1]
                rintro e w' ⟨rfl, rfl⟩)
             | (refine (oreaddec_any (Lib.itoa n) 9223372036854775807 _ HI.out.2 (by decide) (by decide)).mono ?_
                rw [HI.out.1]
                rintro e w' ⟨rfl, rfl⟩
                have M1 := Lib.hid trivial))
          | (go_at_call 30
             refine (oreadhex_any s _ hs2).mono ?_
             rw [HX.out.1]
             rintro e w3 ⟨xv, xrm, rfl, hr3, hb3⟩
             obtain ⟨xa, xn, xc, rfl, hxn, -, -⟩ := hr3.form2
             have H3 := Lib.hid (And.intro (below_then H2.out hb3) (show Sl w3 1 xa xn _ by rw [hxn]; exact hr3.sl))
             have hxl := HX.out.2.1
             rw [← hxn] at hxl
             clear hr3 hb3 hxn)
          | (go_at_call 31
             refine (ohex_any xa xn xc _ _ H3.out.2 hxl).mono ?_
             rw [HX.out.2.2]
             rintro e w5 ⟨rfl, hb5⟩
             have H5 := Lib.hid (below_then H3.out.1 hb5)
             clear hb5))
        all_goals
          go_ret
          first | exact ⟨rfl, H5.out⟩ | exact ⟨by simp, H5.out⟩
    · have HK := Lib.hid (show rdE s 9223372036854775807 = ((K : Int), 0) ∧ Lib.itoa (K : Int) = s from ⟨hk, by rw [itoa_nat]; exact hkd⟩)
      have hK1 : -9223372036854775808 ≤ (K : Int) := by omega
      have hK2 : (K : Int) ≤ 9223372036854775807 := by omega
      clear hk hkd
      rcases hXc with ⟨hx, -⟩ | ⟨hx, b, hu, hb⟩
      · have HX := Lib.hid (show hexE s = 4 ∧ ((unhexL s).getD []).length ≤ 1048576 ∧ True from ⟨hx, by rw [(hexE_none (by unfold hexE at hx; cases h : unhexL s <;> simp_all)).2]; simp, trivial⟩)
        clear hx
        go_enter Tryd.func4, Tryd.ntmps4
        go_wp2_with (first
          | (go_at_call 29
             refine (oawake_any w HT.out).mono ?_
             rintro e w1 ⟨rfl, hb1⟩
             have H1 := Lib.hid hb1
             clear hb1)
          | (go_at_call 22
             first
             | (refine (odec_any (K : Int) hK1 hK2 _ (HT.out.below H3.out.1)).mono ?_
                rw [HK.out.2]
                rintro e w4 ⟨rfl, hb4⟩
                have H4 := Lib.hid (And.intro (below_then H3.out.1 hb4) (H3.out.2.below hb4))
                clear hb4)
             | (refine (odec_any n hn1 hn2 _ (HT.out.below H1.out)).mono ?_
                rintro e w2 ⟨rfl, hb2⟩
                have H2 := Lib.hid (below_then H1.out hb2)
                clear hb2))
          | (go_at_call 17
             first
             | (have hm := M1.out
                clear hm
                refine (oreaddec_any s 9223372036854775807 _ hs (by decide) (by decide)).mono ?_
                rw [HK.out.1]
                rintro e w' ⟨rfl, rfl⟩)
             | (refine (oreaddec_any (Lib.itoa n) 9223372036854775807 _ HI.out.2 (by decide) (by decide)).mono ?_
                rw [HI.out.1]
                rintro e w' ⟨rfl, rfl⟩
                have M1 := Lib.hid trivial))
          | (go_at_call 30
             refine (oreadhex_any s _ hs2).mono ?_
             rw [HX.out.1]
             rintro e w3 ⟨xv, xrm, rfl, hr3, hb3⟩
             obtain ⟨xa, xn, xc, rfl, hxn, -, -⟩ := hr3.form2
             have H3 := Lib.hid (And.intro (below_then H2.out hb3) (show Sl w3 1 xa xn _ by rw [hxn]; exact hr3.sl))
             have hxl := HX.out.2.1
             rw [← hxn] at hxl
             clear hr3 hb3 hxn)
          | (go_at_call 31
             refine (ohex_any xa xn xc _ _ H4.out.2 hxl).mono ?_
             rw [HX.out.2.2]
             rintro e w5 ⟨rfl, hb5⟩
             have H5 := Lib.hid (below_then H4.out.1 hb5)
             clear hb5))
        all_goals
          go_ret
          first | exact ⟨rfl, H4.out.1⟩ | exact ⟨by simp, H4.out.1⟩
      · have HX := Lib.hid (show hexE s = 0 ∧ ((unhexL s).getD []).length ≤ 1048576 ∧ hexL ((unhexL s).getD []) = s from ⟨hx, by have := unhexL_len _ s (Nat.le_refl _) b hu; rw [hu]; simp; omega, by rw [hu]; exact hb⟩)
        clear hx hu hb
        go_enter Tryd.func4, Tryd.ntmps4
        go_wp2_with (first
          | (go_at_call 29
             refine (oawake_any w HT.out).mono ?_
             rintro e w1 ⟨rfl, hb1⟩
             have H1 := Lib.hid hb1
             clear hb1)
          | (go_at_call 22
             first
             | (refine (odec_any (K : Int) hK1 hK2 _ (HT.out.below H3.out.1)).mono ?_
                rw [HK.out.2]
                rintro e w4 ⟨rfl, hb4⟩
                have H4 := Lib.hid (And.intro (below_then H3.out.1 hb4) (H3.out.2.below hb4))
                clear hb4)
             | (refine (odec_any n hn1 hn2 _ (HT.out.below H1.out)).mono ?_
                rintro e w2 ⟨rfl, hb2⟩
                have H2 := Lib.hid (below_then H1.out hb2)
                clear hb2))
          | (go_at_call 17
             first
             | (have hm := M1.out
                clear hm
                refine (oreaddec_any s 9223372036854775807 _ hs (by decide) (by decide)).mono ?_
                rw [HK.out.1]
                rintro e w' ⟨rfl, rfl⟩)
             | (refine (oreaddec_any (Lib.itoa n) 9223372036854775807 _ HI.out.2 (by decide) (by decide)).mono ?_
                rw [HI.out.1]
                rintro e w' ⟨rfl, rfl⟩
                have M1 := Lib.hid trivial))
          | (go_at_call 30
             refine (oreadhex_any s _ hs2).mono ?_
             rw [HX.out.1]
             rintro e w3 ⟨xv, xrm, rfl, hr3, hb3⟩
             obtain ⟨xa, xn, xc, rfl, hxn, -, -⟩ := hr3.form2
             have H3 := Lib.hid (And.intro (below_then H2.out hb3) (show Sl w3 1 xa xn _ by rw [hxn]; exact hr3.sl))
             have hxl := HX.out.2.1
             rw [← hxn] at hxl
             clear hr3 hb3 hxn)
          | (go_at_call 31
             refine (ohex_any xa xn xc _ _ H4.out.2 hxl).mono ?_
             rw [HX.out.2.2]
             rintro e w5 ⟨rfl, hb5⟩
             have H5 := Lib.hid (below_then H4.out.1 hb5)
             clear hb5))
        all_goals
          go_ret
          first | exact ⟨rfl, H5.out⟩ | exact ⟨by simp, H5.out⟩
  · have HI := Lib.hid (And.intro hi hil)
    clear hi hil
    rcases hKc with ⟨ke, hk, hke1, hke2⟩ | ⟨K, hk, hkd, hkm, -⟩
    · have HK := Lib.hid (And.intro hk True.intro)
      have hke : ((ke : Int) != 0) = true := by simp; omega
      have hke' : ((ke : Int) == 0) = false := by simp; omega
      clear hk
      rcases hXc with ⟨hx, -⟩ | ⟨hx, b, hu, hb⟩
      · have HX := Lib.hid (show hexE s = 4 ∧ ((unhexL s).getD []).length ≤ 1048576 ∧ True from ⟨hx, by rw [(hexE_none (by unfold hexE at hx; cases h : unhexL s <;> simp_all)).2]; simp, trivial⟩)
        clear hx
        go_enter Tryd.func4, Tryd.ntmps4
        go_wp2_with (first
          | (go_at_call 29
             refine (oawake_any w HT.out).mono ?_
             rintro e w1 ⟨rfl, hb1⟩
             have H1 := Lib.hid hb1
             clear hb1)
          | (go_at_call 22
             first
             | (refine (odec_any n hn1 hn2 _ (HT.out.below H1.out)).mono ?_
                rintro e w2 ⟨rfl, hb2⟩
                have H2 := Lib.hid (below_then H1.out hb2)
                clear hb2))
          | (go_at_call 17
             first
             | (have hm := M1.out
                clear hm
                refine (oreaddec_any s 9223372036854775807 _ hs (by decide) (by decide)).mono ?_
                rw [HK.out.1]
                rintro e w' ⟨rfl, rfl⟩)
             | (refine (oreaddec_any (Lib.itoa n) 9223372036854775807 _ HI.out.2 (by decide) (by decide)).mono ?_
                rw [HI.out.1]
                rintro e w' ⟨rfl, rfl⟩
                have M1 := Lib.hid trivial))
          | (go_at_call 30
             refine (oreadhex_any s _ hs2).mono ?_
             rw [HX.out.1]
             rintro e w3 ⟨xv, xrm, rfl, hr3, hb3⟩
             obtain ⟨xa, xn, xc, rfl, hxn, -, -⟩ := hr3.form2
             have H3 := Lib.hid (And.intro (below_then H2.out hb3) (show Sl w3 1 xa xn _ by rw [hxn]; exact hr3.sl))
             have hxl := HX.out.2.1
             rw [← hxn] at hxl
             clear hr3 hb3 hxn)
          | (go_at_call 31
             refine (ohex_any xa xn xc _ _ H3.out.2 hxl).mono ?_
             rw [HX.out.2.2]
             rintro e w5 ⟨rfl, hb5⟩
             have H5 := Lib.hid (below_then H3.out.1 hb5)
             clear hb5))
        all_goals
          go_ret
          first | exact ⟨rfl, H3.out.1⟩ | exact ⟨by simp, H3.out.1⟩
      · have HX := Lib.hid (show hexE s = 0 ∧ ((unhexL s).getD []).length ≤ 1048576 ∧ hexL ((unhexL s).getD []) = s from ⟨hx, by have := unhexL_len _ s (Nat.le_refl _) b hu; rw [hu]; simp; omega, by rw [hu]; exact hb⟩)
        clear hx hu hb
        go_enter Tryd.func4, Tryd.ntmps4
        go_wp2_with (first
          | (go_at_call 29
             refine (oawake_any w HT.out).mono ?_
             rintro e w1 ⟨rfl, hb1⟩
             have H1 := Lib.hid hb1
             clear hb1)
          | (go_at_call 22
             first
             | (refine (odec_any n hn1 hn2 _ (HT.out.below H1.out)).mono ?_
                rintro e w2 ⟨rfl, hb2⟩
                have H2 := Lib.hid (below_then H1.out hb2)
                clear hb2))
          | (go_at_call 17
             first
             | (have hm := M1.out
                clear hm
                refine (oreaddec_any s 9223372036854775807 _ hs (by decide) (by decide)).mono ?_
                rw [HK.out.1]
                rintro e w' ⟨rfl, rfl⟩)
             | (refine (oreaddec_any (Lib.itoa n) 9223372036854775807 _ HI.out.2 (by decide) (by decide)).mono ?_
                rw [HI.out.1]
                rintro e w' ⟨rfl, rfl⟩
                have M1 := Lib.hid trivial))
          | (go_at_call 30
             refine (oreadhex_any s _ hs2).mono ?_
             rw [HX.out.1]
             rintro e w3 ⟨xv, xrm, rfl, hr3, hb3⟩
             obtain ⟨xa, xn, xc, rfl, hxn, -, -⟩ := hr3.form2
             have H3 := Lib.hid (And.intro (below_then H2.out hb3) (show Sl w3 1 xa xn _ by rw [hxn]; exact hr3.sl))
             have hxl := HX.out.2.1
             rw [← hxn] at hxl
             clear hr3 hb3 hxn)
          | (go_at_call 31
             refine (ohex_any xa xn xc _ _ H3.out.2 hxl).mono ?_
             rw [HX.out.2.2]
             rintro e w5 ⟨rfl, hb5⟩
             have H5 := Lib.hid (below_then H3.out.1 hb5)
             clear hb5))
        all_goals
          go_ret
          first | exact ⟨rfl, H5.out⟩ | exact ⟨by simp, H5.out⟩
    · have HK := Lib.hid (show rdE s 9223372036854775807 = ((K : Int), 0) ∧ Lib.itoa (K : Int) = s from ⟨hk, by rw [itoa_nat]; exact hkd⟩)
      have hK1 : -9223372036854775808 ≤ (K : Int) := by omega
      have hK2 : (K : Int) ≤ 9223372036854775807 := by omega
      clear hk hkd
      rcases hXc with ⟨hx, -⟩ | ⟨hx, b, hu, hb⟩
      · have HX := Lib.hid (show hexE s = 4 ∧ ((unhexL s).getD []).length ≤ 1048576 ∧ True from ⟨hx, by rw [(hexE_none (by unfold hexE at hx; cases h : unhexL s <;> simp_all)).2]; simp, trivial⟩)
        clear hx
        go_enter Tryd.func4, Tryd.ntmps4
        go_wp2_with (first
          | (go_at_call 29
             refine (oawake_any w HT.out).mono ?_
             rintro e w1 ⟨rfl, hb1⟩
             have H1 := Lib.hid hb1
             clear hb1)
          | (go_at_call 22
             first
             | (refine (odec_any (K : Int) hK1 hK2 _ (HT.out.below H3.out.1)).mono ?_
                rw [HK.out.2]
                rintro e w4 ⟨rfl, hb4⟩
                have H4 := Lib.hid (And.intro (below_then H3.out.1 hb4) (H3.out.2.below hb4))
                clear hb4)
             | (refine (odec_any n hn1 hn2 _ (HT.out.below H1.out)).mono ?_
                rintro e w2 ⟨rfl, hb2⟩
                have H2 := Lib.hid (below_then H1.out hb2)
                clear hb2))
          | (go_at_call 17
             first
             | (have hm := M1.out
                clear hm
                refine (oreaddec_any s 9223372036854775807 _ hs (by decide) (by decide)).mono ?_
                rw [HK.out.1]
                rintro e w' ⟨rfl, rfl⟩)
             | (refine (oreaddec_any (Lib.itoa n) 9223372036854775807 _ HI.out.2 (by decide) (by decide)).mono ?_
                rw [HI.out.1]
                rintro e w' ⟨rfl, rfl⟩
                have M1 := Lib.hid trivial))
          | (go_at_call 30
             refine (oreadhex_any s _ hs2).mono ?_
             rw [HX.out.1]
             rintro e w3 ⟨xv, xrm, rfl, hr3, hb3⟩
             obtain ⟨xa, xn, xc, rfl, hxn, -, -⟩ := hr3.form2
             have H3 := Lib.hid (And.intro (below_then H2.out hb3) (show Sl w3 1 xa xn _ by rw [hxn]; exact hr3.sl))
             have hxl := HX.out.2.1
             rw [← hxn] at hxl
             clear hr3 hb3 hxn)
          | (go_at_call 31
             refine (ohex_any xa xn xc _ _ H4.out.2 hxl).mono ?_
             rw [HX.out.2.2]
             rintro e w5 ⟨rfl, hb5⟩
             have H5 := Lib.hid (below_then H4.out.1 hb5)
             clear hb5))
        all_goals
          go_ret
          first | exact ⟨rfl, H4.out.1⟩ | exact ⟨by simp, H4.out.1⟩
      · have HX := Lib.hid (show hexE s = 0 ∧ ((unhexL s).getD []).length ≤ 1048576 ∧ hexL ((unhexL s).getD []) = s from ⟨hx, by have := unhexL_len _ s (Nat.le_refl _) b hu; rw [hu]; simp; omega, by rw [hu]; exact hb⟩)
        clear hx hu hb
        go_enter Tryd.func4, Tryd.ntmps4
        go_wp2_with (first
          | (go_at_call 29
             refine (oawake_any w HT.out).mono ?_
             rintro e w1 ⟨rfl, hb1⟩
             have H1 := Lib.hid hb1
             clear hb1)
          | (go_at_call 22
             first
             | (refine (odec_any (K : Int) hK1 hK2 _ (HT.out.below H3.out.1)).mono ?_
                rw [HK.out.2]
                rintro e w4 ⟨rfl, hb4⟩
                have H4 := Lib.hid (And.intro (below_then H3.out.1 hb4) (H3.out.2.below hb4))
                clear hb4)
             | (refine (odec_any n hn1 hn2 _ (HT.out.below H1.out)).mono ?_
                rintro e w2 ⟨rfl, hb2⟩
                have H2 := Lib.hid (below_then H1.out hb2)
                clear hb2))
          | (go_at_call 17
             first
             | (have hm := M1.out
                clear hm
                refine (oreaddec_any s 9223372036854775807 _ hs (by decide) (by decide)).mono ?_
                rw [HK.out.1]
                rintro e w' ⟨rfl, rfl⟩)
             | (refine (oreaddec_any (Lib.itoa n) 9223372036854775807 _ HI.out.2 (by decide) (by decide)).mono ?_
                rw [HI.out.1]
                rintro e w' ⟨rfl, rfl⟩
                have M1 := Lib.hid trivial))
          | (go_at_call 30
             refine (oreadhex_any s _ hs2).mono ?_
             rw [HX.out.1]
             rintro e w3 ⟨xv, xrm, rfl, hr3, hb3⟩
             obtain ⟨xa, xn, xc, rfl, hxn, -, -⟩ := hr3.form2
             have H3 := Lib.hid (And.intro (below_then H2.out hb3) (show Sl w3 1 xa xn _ by rw [hxn]; exact hr3.sl))
             have hxl := HX.out.2.1
             rw [← hxn] at hxl
             clear hr3 hb3 hxn)
          | (go_at_call 31
             refine (ohex_any xa xn xc _ _ H4.out.2 hxl).mono ?_
             rw [HX.out.2.2]
             rintro e w5 ⟨rfl, hb5⟩
             have H5 := Lib.hid (below_then H4.out.1 hb5)
             clear hb5))
        all_goals
          go_ret
          first | exact ⟨rfl, H5.out⟩ | exact ⟨by simp, H5.out⟩

namespace octetDigits
set_option linter.unusedVariables false
open Go.ChangeShapes Go.WideShapes Go.ChangeAt Go.RowKit Go.As
theorem own : ownKnob Tryd.prog.godebug = none := by kernel_rfl
theorem laidOut : laidOutB Tryd.prog = true := by kernel_rfl
theorem door_met (os : Os) (args : Array Value) : laidMetH Tryd.prog Rows.octetDigitsRow.laid ((World.doorLaid Tryd.prog 24 os).forCall (fun _ _ => 0) ⟨#[], args, []⟩).memory :=
  laidMetH_of_parts3 (fuel := 8) (laidMet_of_run' 8 (by kernel_rfl) (by kernel_rfl)) (by kernel_rfl) (by kernel_rfl)
set_option maxRecDepth 100000 in
theorem lifted (os : Os) (started : os.Started) (H : Type) (enc : TypeId × Value → H) :
    ReturnsInHanded {} Tryd.checked os 4 .any (fun w args => (Rows.octetDigitsSpec.pre enc Tryd.prog Tryd.f4 [] false w args ∧ laidMetH Tryd.prog Rows.octetDigitsRow.laid w) ∧ sizedMet enc Tryd.prog Tryd.f4 (OpenSpec.ofChange Rows.octetDigitsSpec) false w args) (Rows.octetDigitsSpec.post enc Tryd.prog Tryd.f4 false true false false) := by
  refine returnsInHanded_of_change_and (C := Tryd.checked) (X := fun w _ => laidMetH Tryd.prog Rows.octetDigitsRow.laid w) (fun _ _ _ hh h => h.of_heap hh) own started (by kernel_rfl) Tryd.func4
    (ChangeSpec.witness_shaped (enc := enc) (C := Tryd.checked) (os := os) (X := fun w _ => laidMetH Tryd.prog Rows.octetDigitsRow.laid w) false (World.doorLaid Tryd.prog 24 os) #[.int .i64 0, .string ⟨#[]⟩] 8 rfl (World.shaped_of_RefB (by kernel_rfl) (by kernel_rfl)) (by kernel_rfl) (by kernel_rfl) (by kernel_rfl) (door_met os _)) ?_
  intro W base args ds gs before hval0 hW hcnd _ hL _
  have hval : ∀ (j : Nat) t v, Tryd.f4.params[j]? = some t → args[j]? = some v → Value.okWide Tryd.prog W .any base t v := hval0
  have hW' := hW
  obtain ⟨p, q, hA0, hV, hpq, hfz, hnd⟩ := hW
  have hA : DataW.TrodAll enc Tryd.prog W 0 (fun _ => true) true Tryd.f4.params.toList args.toList ds p := hA0
  have hlt : ∀ x ∈ p, x.block < W.heap.size := fun x hx => hW'.lt x (by rw [hpq]; exact List.mem_append_left _ hx)
  rw [Tryd.params4] at hA hval
  obtain ⟨v0, vs0, d0, ds0, p0, q0, hargs, rfl, hp0, h0, r0⟩ := trodAll_cons hA
  obtain ⟨v1, vs1, d1, ds1, p1, q1, rfl, rfl, hp1, h1, r1⟩ := trodAll_cons r0
  obtain ⟨rfl, rfl, hpn⟩ := trodAll_nil r1
  obtain rfl : args = #[v0, v1] := by cases args; simp_all
  obtain ⟨rfl, rfl⟩ := trodVars_none hV
  obtain ⟨a0, rfl, rfl, -, w0⟩ := open_int Tryd.underlying3 (hval 0 3 v0 rfl rfl) h0
  obtain ⟨s1, rfl, rfl, -, w1⟩ := ChangeMaps.open_string Tryd.underlying9 (hval 1 9 v1 rfl rfl) h1
  obtain ⟨l1, rfl⟩ := exists_str s1
  rw [str_size] at w1
  refine (octetDigits_walk a0 w0 l1 w1 W (tab_of_laid (laid := Rows.octetDigitsRow.laid) rfl hL)).mono fun e W' ⟨he, hg⟩ => ?_
  subst he
  exact ⟨_, rfl, law_post (T := 4) laidOut (by kernel_rfl) Tryd.underlying4 rfl rfl hW' rfl rfl rfl hg⟩
theorem over : Rows.octetDigitsRow.holds Tryd.pinned (OpenSpec.ofChange Rows.octetDigitsSpec) :=
  OpenClaim.holds_of_wide 4 Tryd.f4 rfl rfl rfl rfl rfl rfl rfl ⟨rfl, rfl, rfl, rfl, rfl⟩ rfl rfl rfl rfl rfl (by kernel_rfl) Tryd.func4 (by kernel_rfl)
    (of_decide_eq_true (by kernel_rfl)) (by unfold Func.isWrapper; rw [if_neg (of_decide_eq_false (by kernel_rfl))]; exact ⟨rfl, rfl⟩)
    (fun os started H enc _ => lifted os started H enc)
/-- the statement -/
theorem proved : Rows.OctetDigitsCardSaid :=
  Claim7.holds_tied_plain_at .later [] [.data, .data, .data] true (true, "c5dbe156eb60a59730607763013cde13550478e2496cc4cac80feebce387f0b5") false over (fun _ h => by cases h) (by kernel_rfl) (fun _ h => by cases h) octetDigits_row_tie rfl ⟨rfl, rfl⟩ (by kernel_rfl) rfl
    (fun f fn hf hfn => by
      obtain rfl : f = 4 := Option.some.inj ((show Tryd.prog.funcNamed "assize/assizelaw01.OctetDigits" = some 4 by kernel_rfl).symm.trans hf) |>.symm
      obtain rfl : fn = Tryd.f4 := (Option.some.inj (Tryd.func4.symm.trans hfn)).symm
      exact ⟨by kernel_rfl, fun j t ht => by
        rw [Tryd.params4] at ht
        have hm : t ∈ [3, 9] := by simpa using Array.mem_of_getElem? ht
        have hall : ([3, 9].all fun u => !Tryd.prog.wantsStandIn u) = true := by kernel_rfl
        exact (show Tryd.prog.wantsStandIn t = false by simpa using List.all_eq_true.1 hall t hm)⟩)
    (by kernel_rfl)
#print axioms proved
end octetDigits
end Go.Proofs.YtldkcfhigcmoaaaDoor
