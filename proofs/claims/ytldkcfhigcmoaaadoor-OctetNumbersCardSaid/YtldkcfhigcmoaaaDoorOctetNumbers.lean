/- The law OctetNumbers: the bytes, the shortest bytes and the digits of any number, and the number of any bytes and any digits, are the document's, or just its error is told; every input. -/
import Derived.Test.YtldkcfhigcmoaaaDoorDoor
import Derived.Test.YtldkcfhigcmoaaaDoorReadT
import Derived.Test.YtldkcfhigcmoaaaDoorDecB
import Derived.Test.YtldkcfhigcmoaaaDoorLent
import Derived.Test.YtldkcfhigcmoaaaDoorOpen
namespace Go.Proofs.YtldkcfhigcmoaaaDoor
open Go.RowKit Go.As
set_option linter.unusedVariables false

theorem u64_nat {n : Int} (h : (Lit.int .u64 n).wf = true) : ∃ N : Nat, n = N ∧ N < 18446744073709551616 := by
  have := h
  simp only [Lit.wf, decide_eq_true_eq, Bool.and_eq_true] at this
  have h1 : IntKind.u64.min = 0 := by decide
  have h2 : IntKind.u64.max = 18446744073709551615 := by decide
  exact ⟨n.toNat, by omega, by omega⟩
theorem i64_bnd {n : Int} (h : (Lit.int .i64 n).wf = true) : -9223372036854775808 ≤ n ∧ n ≤ 9223372036854775807 := by
  have := h
  simp only [Lit.wf, decide_eq_true_eq, Bool.and_eq_true] at this
  have h1 : IntKind.i64.min = -9223372036854775808 := by decide
  have h2 : IntKind.i64.max = 9223372036854775807 := by decide
  omega


set_option maxRecDepth 100000 in
set_option maxHeartbeats 6400000 in
theorem octetNumbers_walk (nn : Int) (hnn : (Lit.int .u64 nn).wf = true) (size : Int) (hsz : (Lit.int .i64 size).wf = true) (x : BArg) (w : World) (ox : BytAt w x) (s : List UInt8) (hs : s.length ≤ maxLen) (most : Int) (hmost : (Lit.int .i64 most).wf = true) (ht : Tab w) :
    Calls Tryd.prog 3 #[.int .u64 nn, .int .i64 size, .slice x.1 x.2.1 x.2.2.1, .string (str s), .int .i64 most] w fun e w' => e = .returned (.bool true) ∧ Below w.heap.size w w' := by
  obtain ⟨N, rfl, hN⟩ := u64_nat hnn
  obtain ⟨hsz1, hsz2⟩ := i64_bnd hsz
  obtain ⟨hm1, hm2⟩ := i64_bnd hmost
  obtain ⟨A, n, c, l⟩ := x
  obtain ⟨hl, hnc, hcm, -, ha⟩ := ox
  simp only at hl hnc hcm ha
  have hn : n ≤ 9223372036854775807 := by simp only [maxLen] at hcm; omega
  have hc : c ≤ 9223372036854775807 := by simp only [maxLen] at hcm; omega
  replace hs : s.length ≤ 9223372036854775807 := by simp only [maxLen] at hs; omega
  have HA := Lib.hid ha
  have HL := Lib.hid hl
  have HT := Lib.hid ht
  clear ha hl hcm hnn hsz hmost ht
  by_cases hbig : 300 < n
  · go_enter Tryd.func3, Tryd.ntmps3
    go_wp2_with fail
    go_ret
    exact ⟨rfl, Below.refl _ _⟩
  by_cases hbig2 : 300 < s.length
  · go_enter Tryd.func3, Tryd.ntmps3
    go_wp2_with fail
    go_ret
    exact ⟨rfl, Below.refl _ _⟩
  have hn2 : n ≤ 1048576 := by omega
  have hIb : -9223372036854775808 ≤ IntKind.i64.wrap (N : Int) ∧ IntKind.i64.wrap (N : Int) ≤ 9223372036854775807 := by
    rw [IntKind.wrap_i64]; omega
  obtain ⟨I, hI⟩ : ∃ I : Int, IntKind.i64.wrap (N : Int) = I := ⟨_, rfl⟩
  rw [hI] at hIb
  obtain ⟨hI1, hI2⟩ := hIb
  have hR : (rsE l = (0, 0, 4)) ∨ ∃ v u : Nat, rsE l = (v, u, 0) ∧ 0 < u := by
    unfold rsE
    cases hr : readS 0 l with
    | none => exact .inl rfl
    | some x => exact .inr ⟨x.1, x.2, rfl, (shortL_readS l 0 x.1 x.2 hr).1⟩
  cases hfit : fitsN N size
  · have HF := Lib.hid (show bytE N size = (2, []) ∧ fitsN N size = false from ⟨bytE_no hfit, hfit⟩)
    clear hfit
    by_cases hbad : n < 1 ∨ 8 < n
    · rcases hR with hr | ⟨v, u, hr, hu⟩
      · have HR := Lib.hid hr
        clear hr
        go_enter Tryd.func3, Tryd.ntmps3
        go_wp2_with (first
          | (go_at_call 13
             refine (lent_any A n c l w HA.out hn2).mono ?_
             rintro e w1 ⟨rfl, hr1, hb1⟩
             have H1 := Lib.hid (And.intro hr1 hb1)
             clear hr1 hb1)
          | (go_at_call 14
             refine (obytes_any N _ _ hN hsz1 hsz2).mono ?_
             rintro e w2 ⟨xv, xrm, rfl, hr2, hb2⟩
             rw [HF.out.1] at hr2 ⊢
             obtain ⟨xa, xn, xc, rfl, hxn, -, -⟩ := hr2.form2
             have H2 := Lib.hid (And.intro (H1.out.1.below hb2) (And.intro (below_then H1.out.2 hb2) (show Sl w2 1 xa xn _ by rw [hxn]; exact hr2.sl)))
             clear hr2 hb2)
          | (go_at_call 15
             refine (onumber_bad _ n _ _ hbad hn).mono ?_
             rintro e w' ⟨rfl, rfl⟩)
          | (go_at_call 16
             refine (oreads_any _ n _ l _ (by have := H2.out.1.sl; rwa [HL.out] at this) hn).mono ?_
             rw [HR.out]
             rintro e w' ⟨rfl, rfl⟩)
          | (go_at_call 17
             refine (oreaddec_any s most _ hs hm1 hm2).mono ?_
             rintro e w' ⟨rfl, rfl⟩)
          | (go_at_call 18
             refine (kept_ok _ A n c _ l _ H2.out.1 (HA.out.below H2.out.2.1) hn2).mono ?_
             rintro e w3 ⟨rfl, hb3⟩
             have H3 := Lib.hid (And.intro (below_then H2.out.2.1 hb3) (H2.out.2.2.below hb3))
             clear hb3)
          | (go_at_call 20
             refine (oshort_any N _ hN).mono ?_
             rintro e w4 ⟨yv, yrm, rfl, hr4, hb4⟩
             obtain ⟨ya, yn, yc, rfl, hyn, -, -⟩ := hr4.form2
             have H4 := Lib.hid (And.intro (below_then H3.out.1 hb4) (And.intro (H3.out.2.below hb4) (show Sl w4 1 ya yn _ by rw [hyn]; exact hr4.sl)))
             clear hr4 hb4 hyn)
          | (go_at_call 21
             refine (rshort_any N _ hN).mono ?_
             rintro e w5 ⟨zv, zrm, rfl, hr5, hb5⟩
             obtain ⟨za, zn, zc, rfl, hzn, -, -⟩ := hr5.form2
             have H5 := Lib.hid (And.intro (below_then H4.out.1 hb5) (And.intro (H4.out.2.1.below hb5) (And.intro (H4.out.2.2.below hb5) (show Sl w5 1 za zn _ by rw [hzn]; exact hr5.sl))))
             clear hr5 hb5 hzn)
          | (go_at_call 22
             refine (odec_any I hI1 hI2 _ (HT.out.below H5.out.1)).mono ?_
             rintro e w6 ⟨rfl, hb6⟩
             have H6 := Lib.hid (And.intro (below_then H5.out.1 hb6) (H5.out.2.1.below hb6))
             clear hb6)
          | (go_at_call 23
             refine (rdec_any I hI1 hI2 _).mono ?_
             rintro e w' ⟨rfl, rfl⟩)
          | (go_at_call 24
             refine (rfits_any N _ _ hN hsz1 hsz2).mono ?_
             rw [HF.out.2]
             rintro e w' ⟨rfl, rfl⟩)
          | (go_at_call 25
             refine (rbytes_any N S _ hN hS).mono ?_
             rintro e w7 ⟨uv, urm, rfl, hr7, hb7⟩
             obtain ⟨ua, un, uc, rfl, hun, -, -⟩ := hr7.form2
             have H7 := Lib.hid (And.intro (below_then H6.out.1 hb7) (And.intro (H6.out.2.below hb7) (show Sl w7 1 ua un _ by rw [hun]; exact hr7.sl)))
             clear hr7 hb7 hun)
          | (go_at_call 19
             first
             | (refine (sameBytes_any xa ua xn un xc uc _ _ _ H7.out.2.1 H7.out.2.2).mono ?_
                rw [show decide (beL N S = beL N S) = true by simp]
                rintro e w' ⟨rfl, rfl⟩)
             | (refine (sameBytes_any ya za yn zn yc zc _ _ _ H5.out.2.2.1 H5.out.2.2.2).mono ?_
                rw [show decide (shortL N = shortL N) = true by simp]
                rintro e w' ⟨rfl, rfl⟩))
          | (go_at_call 26
             refine (rnumber_any A n c l _ (HA.out.below H6.out.1) hn8).mono ?_
             rintro e w' ⟨rfl, rfl⟩)
          | (go_at_call 27
             refine (rreads_any A n c l _ (HA.out.below H6.out.1) hnc hc).mono ?_
             rw [HR.out]
             rintro e w8 ⟨rfl, hb8⟩
             have H8 := Lib.hid (below_then H6.out.1 hb8)
             clear hb8)
          | (go_at_call 28
             refine (rreaddec_any s most _ hs hm1 hm2).mono ?_
             rintro e w' ⟨rfl, rfl⟩))
        all_goals
          go_ret
          exact ⟨rfl, H8.out⟩
      · have HR := Lib.hid hr
        clear hr
        go_enter Tryd.func3, Tryd.ntmps3
        go_wp2_with (first
          | (go_at_call 13
             refine (lent_any A n c l w HA.out hn2).mono ?_
             rintro e w1 ⟨rfl, hr1, hb1⟩
             have H1 := Lib.hid (And.intro hr1 hb1)
             clear hr1 hb1)
          | (go_at_call 14
             refine (obytes_any N _ _ hN hsz1 hsz2).mono ?_
             rintro e w2 ⟨xv, xrm, rfl, hr2, hb2⟩
             rw [HF.out.1] at hr2 ⊢
             obtain ⟨xa, xn, xc, rfl, hxn, -, -⟩ := hr2.form2
             have H2 := Lib.hid (And.intro (H1.out.1.below hb2) (And.intro (below_then H1.out.2 hb2) (show Sl w2 1 xa xn _ by rw [hxn]; exact hr2.sl)))
             clear hr2 hb2)
          | (go_at_call 15
             refine (onumber_bad _ n _ _ hbad hn).mono ?_
             rintro e w' ⟨rfl, rfl⟩)
          | (go_at_call 16
             refine (oreads_any _ n _ l _ (by have := H2.out.1.sl; rwa [HL.out] at this) hn).mono ?_
             rw [HR.out]
             rintro e w' ⟨rfl, rfl⟩)
          | (go_at_call 17
             refine (oreaddec_any s most _ hs hm1 hm2).mono ?_
             rintro e w' ⟨rfl, rfl⟩)
          | (go_at_call 18
             refine (kept_ok _ A n c _ l _ H2.out.1 (HA.out.below H2.out.2.1) hn2).mono ?_
             rintro e w3 ⟨rfl, hb3⟩
             have H3 := Lib.hid (And.intro (below_then H2.out.2.1 hb3) (H2.out.2.2.below hb3))
             clear hb3)
          | (go_at_call 20
             refine (oshort_any N _ hN).mono ?_
             rintro e w4 ⟨yv, yrm, rfl, hr4, hb4⟩
             obtain ⟨ya, yn, yc, rfl, hyn, -, -⟩ := hr4.form2
             have H4 := Lib.hid (And.intro (below_then H3.out.1 hb4) (And.intro (H3.out.2.below hb4) (show Sl w4 1 ya yn _ by rw [hyn]; exact hr4.sl)))
             clear hr4 hb4 hyn)
          | (go_at_call 21
             refine (rshort_any N _ hN).mono ?_
             rintro e w5 ⟨zv, zrm, rfl, hr5, hb5⟩
             obtain ⟨za, zn, zc, rfl, hzn, -, -⟩ := hr5.form2
             have H5 := Lib.hid (And.intro (below_then H4.out.1 hb5) (And.intro (H4.out.2.1.below hb5) (And.intro (H4.out.2.2.below hb5) (show Sl w5 1 za zn _ by rw [hzn]; exact hr5.sl))))
             clear hr5 hb5 hzn)
          | (go_at_call 22
             refine (odec_any I hI1 hI2 _ (HT.out.below H5.out.1)).mono ?_
             rintro e w6 ⟨rfl, hb6⟩
             have H6 := Lib.hid (And.intro (below_then H5.out.1 hb6) (H5.out.2.1.below hb6))
             clear hb6)
          | (go_at_call 23
             refine (rdec_any I hI1 hI2 _).mono ?_
             rintro e w' ⟨rfl, rfl⟩)
          | (go_at_call 24
             refine (rfits_any N _ _ hN hsz1 hsz2).mono ?_
             rw [HF.out.2]
             rintro e w' ⟨rfl, rfl⟩)
          | (go_at_call 25
             refine (rbytes_any N S _ hN hS).mono ?_
             rintro e w7 ⟨uv, urm, rfl, hr7, hb7⟩
             obtain ⟨ua, un, uc, rfl, hun, -, -⟩ := hr7.form2
             have H7 := Lib.hid (And.intro (below_then H6.out.1 hb7) (And.intro (H6.out.2.below hb7) (show Sl w7 1 ua un _ by rw [hun]; exact hr7.sl)))
             clear hr7 hb7 hun)
          | (go_at_call 19
             first
             | (refine (sameBytes_any xa ua xn un xc uc _ _ _ H7.out.2.1 H7.out.2.2).mono ?_
                rw [show decide (beL N S = beL N S) = true by simp]
                rintro e w' ⟨rfl, rfl⟩)
             | (refine (sameBytes_any ya za yn zn yc zc _ _ _ H5.out.2.2.1 H5.out.2.2.2).mono ?_
                rw [show decide (shortL N = shortL N) = true by simp]
                rintro e w' ⟨rfl, rfl⟩))
          | (go_at_call 26
             refine (rnumber_any A n c l _ (HA.out.below H6.out.1) hn8).mono ?_
             rintro e w' ⟨rfl, rfl⟩)
          | (go_at_call 27
             refine (rreads_any A n c l _ (HA.out.below H6.out.1) hnc hc).mono ?_
             rw [HR.out]
             rintro e w8 ⟨rfl, hb8⟩
             have H8 := Lib.hid (below_then H6.out.1 hb8)
             clear hb8)
          | (go_at_call 28
             refine (rreaddec_any s most _ hs hm1 hm2).mono ?_
             rintro e w' ⟨rfl, rfl⟩))
        all_goals
          go_ret
          exact ⟨rfl, H8.out⟩
    · have hn8 : n ≤ 8 := by omega
      have hn0 : 0 < n := by omega
      clear hbad
      rcases hR with hr | ⟨v, u, hr, hu⟩
      · have HR := Lib.hid hr
        clear hr
        go_enter Tryd.func3, Tryd.ntmps3
        go_wp2_with (first
          | (go_at_call 13
             refine (lent_any A n c l w HA.out hn2).mono ?_
             rintro e w1 ⟨rfl, hr1, hb1⟩
             have H1 := Lib.hid (And.intro hr1 hb1)
             clear hr1 hb1)
          | (go_at_call 14
             refine (obytes_any N _ _ hN hsz1 hsz2).mono ?_
             rintro e w2 ⟨xv, xrm, rfl, hr2, hb2⟩
             rw [HF.out.1] at hr2 ⊢
             obtain ⟨xa, xn, xc, rfl, hxn, -, -⟩ := hr2.form2
             have H2 := Lib.hid (And.intro (H1.out.1.below hb2) (And.intro (below_then H1.out.2 hb2) (show Sl w2 1 xa xn _ by rw [hxn]; exact hr2.sl)))
             clear hr2 hb2)
          | (go_at_call 15
             refine (onumber_any _ n _ l _ (by have := H2.out.1.sl; rwa [HL.out] at this) hn8 hn0).mono ?_
             rintro e w' ⟨rfl, rfl⟩)
          | (go_at_call 16
             refine (oreads_any _ n _ l _ (by have := H2.out.1.sl; rwa [HL.out] at this) hn).mono ?_
             rw [HR.out]
             rintro e w' ⟨rfl, rfl⟩)
          | (go_at_call 17
             refine (oreaddec_any s most _ hs hm1 hm2).mono ?_
             rintro e w' ⟨rfl, rfl⟩)
          | (go_at_call 18
             refine (kept_ok _ A n c _ l _ H2.out.1 (HA.out.below H2.out.2.1) hn2).mono ?_
             rintro e w3 ⟨rfl, hb3⟩
             have H3 := Lib.hid (And.intro (below_then H2.out.2.1 hb3) (H2.out.2.2.below hb3))
             clear hb3)
          | (go_at_call 20
             refine (oshort_any N _ hN).mono ?_
             rintro e w4 ⟨yv, yrm, rfl, hr4, hb4⟩
             obtain ⟨ya, yn, yc, rfl, hyn, -, -⟩ := hr4.form2
             have H4 := Lib.hid (And.intro (below_then H3.out.1 hb4) (And.intro (H3.out.2.below hb4) (show Sl w4 1 ya yn _ by rw [hyn]; exact hr4.sl)))
             clear hr4 hb4 hyn)
          | (go_at_call 21
             refine (rshort_any N _ hN).mono ?_
             rintro e w5 ⟨zv, zrm, rfl, hr5, hb5⟩
             obtain ⟨za, zn, zc, rfl, hzn, -, -⟩ := hr5.form2
             have H5 := Lib.hid (And.intro (below_then H4.out.1 hb5) (And.intro (H4.out.2.1.below hb5) (And.intro (H4.out.2.2.below hb5) (show Sl w5 1 za zn _ by rw [hzn]; exact hr5.sl))))
             clear hr5 hb5 hzn)
          | (go_at_call 22
             refine (odec_any I hI1 hI2 _ (HT.out.below H5.out.1)).mono ?_
             rintro e w6 ⟨rfl, hb6⟩
             have H6 := Lib.hid (And.intro (below_then H5.out.1 hb6) (H5.out.2.1.below hb6))
             clear hb6)
          | (go_at_call 23
             refine (rdec_any I hI1 hI2 _).mono ?_
             rintro e w' ⟨rfl, rfl⟩)
          | (go_at_call 24
             refine (rfits_any N _ _ hN hsz1 hsz2).mono ?_
             rw [HF.out.2]
             rintro e w' ⟨rfl, rfl⟩)
          | (go_at_call 25
             refine (rbytes_any N S _ hN hS).mono ?_
             rintro e w7 ⟨uv, urm, rfl, hr7, hb7⟩
             obtain ⟨ua, un, uc, rfl, hun, -, -⟩ := hr7.form2
             have H7 := Lib.hid (And.intro (below_then H6.out.1 hb7) (And.intro (H6.out.2.below hb7) (show Sl w7 1 ua un _ by rw [hun]; exact hr7.sl)))
             clear hr7 hb7 hun)
          | (go_at_call 19
             first
             | (refine (sameBytes_any xa ua xn un xc uc _ _ _ H7.out.2.1 H7.out.2.2).mono ?_
                rw [show decide (beL N S = beL N S) = true by simp]
                rintro e w' ⟨rfl, rfl⟩)
             | (refine (sameBytes_any ya za yn zn yc zc _ _ _ H5.out.2.2.1 H5.out.2.2.2).mono ?_
                rw [show decide (shortL N = shortL N) = true by simp]
                rintro e w' ⟨rfl, rfl⟩))
          | (go_at_call 26
             refine (rnumber_any A n c l _ (HA.out.below H6.out.1) hn8).mono ?_
             rintro e w' ⟨rfl, rfl⟩)
          | (go_at_call 27
             refine (rreads_any A n c l _ (HA.out.below H6.out.1) hnc hc).mono ?_
             rw [HR.out]
             rintro e w8 ⟨rfl, hb8⟩
             have H8 := Lib.hid (below_then H6.out.1 hb8)
             clear hb8)
          | (go_at_call 28
             refine (rreaddec_any s most _ hs hm1 hm2).mono ?_
             rintro e w' ⟨rfl, rfl⟩))
        all_goals
          go_ret
          exact ⟨rfl, H8.out⟩
      · have HR := Lib.hid hr
        clear hr
        go_enter Tryd.func3, Tryd.ntmps3
        go_wp2_with (first
          | (go_at_call 13
             refine (lent_any A n c l w HA.out hn2).mono ?_
             rintro e w1 ⟨rfl, hr1, hb1⟩
             have H1 := Lib.hid (And.intro hr1 hb1)
             clear hr1 hb1)
          | (go_at_call 14
             refine (obytes_any N _ _ hN hsz1 hsz2).mono ?_
             rintro e w2 ⟨xv, xrm, rfl, hr2, hb2⟩
             rw [HF.out.1] at hr2 ⊢
             obtain ⟨xa, xn, xc, rfl, hxn, -, -⟩ := hr2.form2
             have H2 := Lib.hid (And.intro (H1.out.1.below hb2) (And.intro (below_then H1.out.2 hb2) (show Sl w2 1 xa xn _ by rw [hxn]; exact hr2.sl)))
             clear hr2 hb2)
          | (go_at_call 15
             refine (onumber_any _ n _ l _ (by have := H2.out.1.sl; rwa [HL.out] at this) hn8 hn0).mono ?_
             rintro e w' ⟨rfl, rfl⟩)
          | (go_at_call 16
             refine (oreads_any _ n _ l _ (by have := H2.out.1.sl; rwa [HL.out] at this) hn).mono ?_
             rw [HR.out]
             rintro e w' ⟨rfl, rfl⟩)
          | (go_at_call 17
             refine (oreaddec_any s most _ hs hm1 hm2).mono ?_
             rintro e w' ⟨rfl, rfl⟩)
          | (go_at_call 18
             refine (kept_ok _ A n c _ l _ H2.out.1 (HA.out.below H2.out.2.1) hn2).mono ?_
             rintro e w3 ⟨rfl, hb3⟩
             have H3 := Lib.hid (And.intro (below_then H2.out.2.1 hb3) (H2.out.2.2.below hb3))
             clear hb3)
          | (go_at_call 20
             refine (oshort_any N _ hN).mono ?_
             rintro e w4 ⟨yv, yrm, rfl, hr4, hb4⟩
             obtain ⟨ya, yn, yc, rfl, hyn, -, -⟩ := hr4.form2
             have H4 := Lib.hid (And.intro (below_then H3.out.1 hb4) (And.intro (H3.out.2.below hb4) (show Sl w4 1 ya yn _ by rw [hyn]; exact hr4.sl)))
             clear hr4 hb4 hyn)
          | (go_at_call 21
             refine (rshort_any N _ hN).mono ?_
             rintro e w5 ⟨zv, zrm, rfl, hr5, hb5⟩
             obtain ⟨za, zn, zc, rfl, hzn, -, -⟩ := hr5.form2
             have H5 := Lib.hid (And.intro (below_then H4.out.1 hb5) (And.intro (H4.out.2.1.below hb5) (And.intro (H4.out.2.2.below hb5) (show Sl w5 1 za zn _ by rw [hzn]; exact hr5.sl))))
             clear hr5 hb5 hzn)
          | (go_at_call 22
             refine (odec_any I hI1 hI2 _ (HT.out.below H5.out.1)).mono ?_
             rintro e w6 ⟨rfl, hb6⟩
             have H6 := Lib.hid (And.intro (below_then H5.out.1 hb6) (H5.out.2.1.below hb6))
             clear hb6)
          | (go_at_call 23
             refine (rdec_any I hI1 hI2 _).mono ?_
             rintro e w' ⟨rfl, rfl⟩)
          | (go_at_call 24
             refine (rfits_any N _ _ hN hsz1 hsz2).mono ?_
             rw [HF.out.2]
             rintro e w' ⟨rfl, rfl⟩)
          | (go_at_call 25
             refine (rbytes_any N S _ hN hS).mono ?_
             rintro e w7 ⟨uv, urm, rfl, hr7, hb7⟩
             obtain ⟨ua, un, uc, rfl, hun, -, -⟩ := hr7.form2
             have H7 := Lib.hid (And.intro (below_then H6.out.1 hb7) (And.intro (H6.out.2.below hb7) (show Sl w7 1 ua un _ by rw [hun]; exact hr7.sl)))
             clear hr7 hb7 hun)
          | (go_at_call 19
             first
             | (refine (sameBytes_any xa ua xn un xc uc _ _ _ H7.out.2.1 H7.out.2.2).mono ?_
                rw [show decide (beL N S = beL N S) = true by simp]
                rintro e w' ⟨rfl, rfl⟩)
             | (refine (sameBytes_any ya za yn zn yc zc _ _ _ H5.out.2.2.1 H5.out.2.2.2).mono ?_
                rw [show decide (shortL N = shortL N) = true by simp]
                rintro e w' ⟨rfl, rfl⟩))
          | (go_at_call 26
             refine (rnumber_any A n c l _ (HA.out.below H6.out.1) hn8).mono ?_
             rintro e w' ⟨rfl, rfl⟩)
          | (go_at_call 27
             refine (rreads_any A n c l _ (HA.out.below H6.out.1) hnc hc).mono ?_
             rw [HR.out]
             rintro e w8 ⟨rfl, hb8⟩
             have H8 := Lib.hid (below_then H6.out.1 hb8)
             clear hb8)
          | (go_at_call 28
             refine (rreaddec_any s most _ hs hm1 hm2).mono ?_
             rintro e w' ⟨rfl, rfl⟩))
        all_goals
          go_ret
          exact ⟨rfl, H8.out⟩
  · obtain ⟨S, rfl⟩ : ∃ S : Nat, size = S := ⟨size.toNat, by unfold fitsN at hfit; simp at hfit; omega⟩
    have hS : S ≤ 8 := by unfold fitsN at hfit; simp at hfit; omega
    have HF := Lib.hid (show bytE N S = (0, beL N S) ∧ fitsN N S = true from ⟨bytE_yes hfit, hfit⟩)
    clear hfit
    by_cases hbad : n < 1 ∨ 8 < n
    · rcases hR with hr | ⟨v, u, hr, hu⟩
      · have HR := Lib.hid hr
        clear hr
        go_enter Tryd.func3, Tryd.ntmps3
        go_wp2_with (first
          | (go_at_call 13
             refine (lent_any A n c l w HA.out hn2).mono ?_
             rintro e w1 ⟨rfl, hr1, hb1⟩
             have H1 := Lib.hid (And.intro hr1 hb1)
             clear hr1 hb1)
          | (go_at_call 14
             refine (obytes_any N _ _ hN hsz1 hsz2).mono ?_
             rintro e w2 ⟨xv, xrm, rfl, hr2, hb2⟩
             rw [HF.out.1] at hr2 ⊢
             obtain ⟨xa, xn, xc, rfl, hxn, -, -⟩ := hr2.form2
             have H2 := Lib.hid (And.intro (H1.out.1.below hb2) (And.intro (below_then H1.out.2 hb2) (show Sl w2 1 xa xn _ by rw [hxn]; exact hr2.sl)))
             clear hr2 hb2 hxn)
          | (go_at_call 15
             refine (onumber_bad _ n _ _ hbad hn).mono ?_
             rintro e w' ⟨rfl, rfl⟩)
          | (go_at_call 16
             refine (oreads_any _ n _ l _ (by have := H2.out.1.sl; rwa [HL.out] at this) hn).mono ?_
             rw [HR.out]
             rintro e w' ⟨rfl, rfl⟩)
          | (go_at_call 17
             refine (oreaddec_any s most _ hs hm1 hm2).mono ?_
             rintro e w' ⟨rfl, rfl⟩)
          | (go_at_call 18
             refine (kept_ok _ A n c _ l _ H2.out.1 (HA.out.below H2.out.2.1) hn2).mono ?_
             rintro e w3 ⟨rfl, hb3⟩
             have H3 := Lib.hid (And.intro (below_then H2.out.2.1 hb3) (H2.out.2.2.below hb3))
             clear hb3)
          | (go_at_call 20
             refine (oshort_any N _ hN).mono ?_
             rintro e w4 ⟨yv, yrm, rfl, hr4, hb4⟩
             obtain ⟨ya, yn, yc, rfl, hyn, -, -⟩ := hr4.form2
             have H4 := Lib.hid (And.intro (below_then H3.out.1 hb4) (And.intro (H3.out.2.below hb4) (show Sl w4 1 ya yn _ by rw [hyn]; exact hr4.sl)))
             clear hr4 hb4 hyn)
          | (go_at_call 21
             refine (rshort_any N _ hN).mono ?_
             rintro e w5 ⟨zv, zrm, rfl, hr5, hb5⟩
             obtain ⟨za, zn, zc, rfl, hzn, -, -⟩ := hr5.form2
             have H5 := Lib.hid (And.intro (below_then H4.out.1 hb5) (And.intro (H4.out.2.1.below hb5) (And.intro (H4.out.2.2.below hb5) (show Sl w5 1 za zn _ by rw [hzn]; exact hr5.sl))))
             clear hr5 hb5 hzn)
          | (go_at_call 22
             refine (odec_any I hI1 hI2 _ (HT.out.below H5.out.1)).mono ?_
             rintro e w6 ⟨rfl, hb6⟩
             have H6 := Lib.hid (And.intro (below_then H5.out.1 hb6) (H5.out.2.1.below hb6))
             clear hb6)
          | (go_at_call 23
             refine (rdec_any I hI1 hI2 _).mono ?_
             rintro e w' ⟨rfl, rfl⟩)
          | (go_at_call 24
             refine (rfits_any N _ _ hN hsz1 hsz2).mono ?_
             rw [HF.out.2]
             rintro e w' ⟨rfl, rfl⟩)
          | (go_at_call 25
             refine (rbytes_any N S _ hN hS).mono ?_
             rintro e w7 ⟨uv, urm, rfl, hr7, hb7⟩
             obtain ⟨ua, un, uc, rfl, hun, -, -⟩ := hr7.form2
             have H7 := Lib.hid (And.intro (below_then H6.out.1 hb7) (And.intro (H6.out.2.below hb7) (show Sl w7 1 ua un _ by rw [hun]; exact hr7.sl)))
             clear hr7 hb7 hun)
          | (go_at_call 19
             first
             | (refine (sameBytes_any xa ua xn un xc uc _ _ _ H7.out.2.1 H7.out.2.2).mono ?_
                rw [show decide (beL N S = beL N S) = true by simp]
                rintro e w' ⟨rfl, rfl⟩)
             | (refine (sameBytes_any ya za yn zn yc zc _ _ _ H5.out.2.2.1 H5.out.2.2.2).mono ?_
                rw [show decide (shortL N = shortL N) = true by simp]
                rintro e w' ⟨rfl, rfl⟩))
          | (go_at_call 26
             refine (rnumber_any A n c l _ (HA.out.below H7.out.1) hn8).mono ?_
             rintro e w' ⟨rfl, rfl⟩)
          | (go_at_call 27
             refine (rreads_any A n c l _ (HA.out.below H7.out.1) hnc hc).mono ?_
             rw [HR.out]
             rintro e w8 ⟨rfl, hb8⟩
             have H8 := Lib.hid (below_then H7.out.1 hb8)
             clear hb8)
          | (go_at_call 28
             refine (rreaddec_any s most _ hs hm1 hm2).mono ?_
             rintro e w' ⟨rfl, rfl⟩))
        all_goals
          go_ret
          exact ⟨rfl, H8.out⟩
      · have HR := Lib.hid hr
        clear hr
        go_enter Tryd.func3, Tryd.ntmps3
        go_wp2_with (first
          | (go_at_call 13
             refine (lent_any A n c l w HA.out hn2).mono ?_
             rintro e w1 ⟨rfl, hr1, hb1⟩
             have H1 := Lib.hid (And.intro hr1 hb1)
             clear hr1 hb1)
          | (go_at_call 14
             refine (obytes_any N _ _ hN hsz1 hsz2).mono ?_
             rintro e w2 ⟨xv, xrm, rfl, hr2, hb2⟩
             rw [HF.out.1] at hr2 ⊢
             obtain ⟨xa, xn, xc, rfl, hxn, -, -⟩ := hr2.form2
             have H2 := Lib.hid (And.intro (H1.out.1.below hb2) (And.intro (below_then H1.out.2 hb2) (show Sl w2 1 xa xn _ by rw [hxn]; exact hr2.sl)))
             clear hr2 hb2 hxn)
          | (go_at_call 15
             refine (onumber_bad _ n _ _ hbad hn).mono ?_
             rintro e w' ⟨rfl, rfl⟩)
          | (go_at_call 16
             refine (oreads_any _ n _ l _ (by have := H2.out.1.sl; rwa [HL.out] at this) hn).mono ?_
             rw [HR.out]
             rintro e w' ⟨rfl, rfl⟩)
          | (go_at_call 17
             refine (oreaddec_any s most _ hs hm1 hm2).mono ?_
             rintro e w' ⟨rfl, rfl⟩)
          | (go_at_call 18
             refine (kept_ok _ A n c _ l _ H2.out.1 (HA.out.below H2.out.2.1) hn2).mono ?_
             rintro e w3 ⟨rfl, hb3⟩
             have H3 := Lib.hid (And.intro (below_then H2.out.2.1 hb3) (H2.out.2.2.below hb3))
             clear hb3)
          | (go_at_call 20
             refine (oshort_any N _ hN).mono ?_
             rintro e w4 ⟨yv, yrm, rfl, hr4, hb4⟩
             obtain ⟨ya, yn, yc, rfl, hyn, -, -⟩ := hr4.form2
             have H4 := Lib.hid (And.intro (below_then H3.out.1 hb4) (And.intro (H3.out.2.below hb4) (show Sl w4 1 ya yn _ by rw [hyn]; exact hr4.sl)))
             clear hr4 hb4 hyn)
          | (go_at_call 21
             refine (rshort_any N _ hN).mono ?_
             rintro e w5 ⟨zv, zrm, rfl, hr5, hb5⟩
             obtain ⟨za, zn, zc, rfl, hzn, -, -⟩ := hr5.form2
             have H5 := Lib.hid (And.intro (below_then H4.out.1 hb5) (And.intro (H4.out.2.1.below hb5) (And.intro (H4.out.2.2.below hb5) (show Sl w5 1 za zn _ by rw [hzn]; exact hr5.sl))))
             clear hr5 hb5 hzn)
          | (go_at_call 22
             refine (odec_any I hI1 hI2 _ (HT.out.below H5.out.1)).mono ?_
             rintro e w6 ⟨rfl, hb6⟩
             have H6 := Lib.hid (And.intro (below_then H5.out.1 hb6) (H5.out.2.1.below hb6))
             clear hb6)
          | (go_at_call 23
             refine (rdec_any I hI1 hI2 _).mono ?_
             rintro e w' ⟨rfl, rfl⟩)
          | (go_at_call 24
             refine (rfits_any N _ _ hN hsz1 hsz2).mono ?_
             rw [HF.out.2]
             rintro e w' ⟨rfl, rfl⟩)
          | (go_at_call 25
             refine (rbytes_any N S _ hN hS).mono ?_
             rintro e w7 ⟨uv, urm, rfl, hr7, hb7⟩
             obtain ⟨ua, un, uc, rfl, hun, -, -⟩ := hr7.form2
             have H7 := Lib.hid (And.intro (below_then H6.out.1 hb7) (And.intro (H6.out.2.below hb7) (show Sl w7 1 ua un _ by rw [hun]; exact hr7.sl)))
             clear hr7 hb7 hun)
          | (go_at_call 19
             first
             | (refine (sameBytes_any xa ua xn un xc uc _ _ _ H7.out.2.1 H7.out.2.2).mono ?_
                rw [show decide (beL N S = beL N S) = true by simp]
                rintro e w' ⟨rfl, rfl⟩)
             | (refine (sameBytes_any ya za yn zn yc zc _ _ _ H5.out.2.2.1 H5.out.2.2.2).mono ?_
                rw [show decide (shortL N = shortL N) = true by simp]
                rintro e w' ⟨rfl, rfl⟩))
          | (go_at_call 26
             refine (rnumber_any A n c l _ (HA.out.below H7.out.1) hn8).mono ?_
             rintro e w' ⟨rfl, rfl⟩)
          | (go_at_call 27
             refine (rreads_any A n c l _ (HA.out.below H7.out.1) hnc hc).mono ?_
             rw [HR.out]
             rintro e w8 ⟨rfl, hb8⟩
             have H8 := Lib.hid (below_then H7.out.1 hb8)
             clear hb8)
          | (go_at_call 28
             refine (rreaddec_any s most _ hs hm1 hm2).mono ?_
             rintro e w' ⟨rfl, rfl⟩))
        all_goals
          go_ret
          exact ⟨rfl, H8.out⟩
    · have hn8 : n ≤ 8 := by omega
      have hn0 : 0 < n := by omega
      clear hbad
      rcases hR with hr | ⟨v, u, hr, hu⟩
      · have HR := Lib.hid hr
        clear hr
        go_enter Tryd.func3, Tryd.ntmps3
        go_wp2_with (first
          | (go_at_call 13
             refine (lent_any A n c l w HA.out hn2).mono ?_
             rintro e w1 ⟨rfl, hr1, hb1⟩
             have H1 := Lib.hid (And.intro hr1 hb1)
             clear hr1 hb1)
          | (go_at_call 14
             refine (obytes_any N _ _ hN hsz1 hsz2).mono ?_
             rintro e w2 ⟨xv, xrm, rfl, hr2, hb2⟩
             rw [HF.out.1] at hr2 ⊢
             obtain ⟨xa, xn, xc, rfl, hxn, -, -⟩ := hr2.form2
             have H2 := Lib.hid (And.intro (H1.out.1.below hb2) (And.intro (below_then H1.out.2 hb2) (show Sl w2 1 xa xn _ by rw [hxn]; exact hr2.sl)))
             clear hr2 hb2 hxn)
          | (go_at_call 15
             refine (onumber_any _ n _ l _ (by have := H2.out.1.sl; rwa [HL.out] at this) hn8 hn0).mono ?_
             rintro e w' ⟨rfl, rfl⟩)
          | (go_at_call 16
             refine (oreads_any _ n _ l _ (by have := H2.out.1.sl; rwa [HL.out] at this) hn).mono ?_
             rw [HR.out]
             rintro e w' ⟨rfl, rfl⟩)
          | (go_at_call 17
             refine (oreaddec_any s most _ hs hm1 hm2).mono ?_
             rintro e w' ⟨rfl, rfl⟩)
          | (go_at_call 18
             refine (kept_ok _ A n c _ l _ H2.out.1 (HA.out.below H2.out.2.1) hn2).mono ?_
             rintro e w3 ⟨rfl, hb3⟩
             have H3 := Lib.hid (And.intro (below_then H2.out.2.1 hb3) (H2.out.2.2.below hb3))
             clear hb3)
          | (go_at_call 20
             refine (oshort_any N _ hN).mono ?_
             rintro e w4 ⟨yv, yrm, rfl, hr4, hb4⟩
             obtain ⟨ya, yn, yc, rfl, hyn, -, -⟩ := hr4.form2
             have H4 := Lib.hid (And.intro (below_then H3.out.1 hb4) (And.intro (H3.out.2.below hb4) (show Sl w4 1 ya yn _ by rw [hyn]; exact hr4.sl)))
             clear hr4 hb4 hyn)
          | (go_at_call 21
             refine (rshort_any N _ hN).mono ?_
             rintro e w5 ⟨zv, zrm, rfl, hr5, hb5⟩
             obtain ⟨za, zn, zc, rfl, hzn, -, -⟩ := hr5.form2
             have H5 := Lib.hid (And.intro (below_then H4.out.1 hb5) (And.intro (H4.out.2.1.below hb5) (And.intro (H4.out.2.2.below hb5) (show Sl w5 1 za zn _ by rw [hzn]; exact hr5.sl))))
             clear hr5 hb5 hzn)
          | (go_at_call 22
             refine (odec_any I hI1 hI2 _ (HT.out.below H5.out.1)).mono ?_
             rintro e w6 ⟨rfl, hb6⟩
             have H6 := Lib.hid (And.intro (below_then H5.out.1 hb6) (H5.out.2.1.below hb6))
             clear hb6)
          | (go_at_call 23
             refine (rdec_any I hI1 hI2 _).mono ?_
             rintro e w' ⟨rfl, rfl⟩)
          | (go_at_call 24
             refine (rfits_any N _ _ hN hsz1 hsz2).mono ?_
             rw [HF.out.2]
             rintro e w' ⟨rfl, rfl⟩)
          | (go_at_call 25
             refine (rbytes_any N S _ hN hS).mono ?_
             rintro e w7 ⟨uv, urm, rfl, hr7, hb7⟩
             obtain ⟨ua, un, uc, rfl, hun, -, -⟩ := hr7.form2
             have H7 := Lib.hid (And.intro (below_then H6.out.1 hb7) (And.intro (H6.out.2.below hb7) (show Sl w7 1 ua un _ by rw [hun]; exact hr7.sl)))
             clear hr7 hb7 hun)
          | (go_at_call 19
             first
             | (refine (sameBytes_any xa ua xn un xc uc _ _ _ H7.out.2.1 H7.out.2.2).mono ?_
                rw [show decide (beL N S = beL N S) = true by simp]
                rintro e w' ⟨rfl, rfl⟩)
             | (refine (sameBytes_any ya za yn zn yc zc _ _ _ H5.out.2.2.1 H5.out.2.2.2).mono ?_
                rw [show decide (shortL N = shortL N) = true by simp]
                rintro e w' ⟨rfl, rfl⟩))
          | (go_at_call 26
             refine (rnumber_any A n c l _ (HA.out.below H7.out.1) hn8).mono ?_
             rintro e w' ⟨rfl, rfl⟩)
          | (go_at_call 27
             refine (rreads_any A n c l _ (HA.out.below H7.out.1) hnc hc).mono ?_
             rw [HR.out]
             rintro e w8 ⟨rfl, hb8⟩
             have H8 := Lib.hid (below_then H7.out.1 hb8)
             clear hb8)
          | (go_at_call 28
             refine (rreaddec_any s most _ hs hm1 hm2).mono ?_
             rintro e w' ⟨rfl, rfl⟩))
        all_goals
          go_ret
          exact ⟨rfl, H8.out⟩
      · have HR := Lib.hid hr
        clear hr
        go_enter Tryd.func3, Tryd.ntmps3
        go_wp2_with (first
          | (go_at_call 13
             refine (lent_any A n c l w HA.out hn2).mono ?_
             rintro e w1 ⟨rfl, hr1, hb1⟩
             have H1 := Lib.hid (And.intro hr1 hb1)
             clear hr1 hb1)
          | (go_at_call 14
             refine (obytes_any N _ _ hN hsz1 hsz2).mono ?_
             rintro e w2 ⟨xv, xrm, rfl, hr2, hb2⟩
             rw [HF.out.1] at hr2 ⊢
             obtain ⟨xa, xn, xc, rfl, hxn, -, -⟩ := hr2.form2
             have H2 := Lib.hid (And.intro (H1.out.1.below hb2) (And.intro (below_then H1.out.2 hb2) (show Sl w2 1 xa xn _ by rw [hxn]; exact hr2.sl)))
             clear hr2 hb2 hxn)
          | (go_at_call 15
             refine (onumber_any _ n _ l _ (by have := H2.out.1.sl; rwa [HL.out] at this) hn8 hn0).mono ?_
             rintro e w' ⟨rfl, rfl⟩)
          | (go_at_call 16
             refine (oreads_any _ n _ l _ (by have := H2.out.1.sl; rwa [HL.out] at this) hn).mono ?_
             rw [HR.out]
             rintro e w' ⟨rfl, rfl⟩)
          | (go_at_call 17
             refine (oreaddec_any s most _ hs hm1 hm2).mono ?_
             rintro e w' ⟨rfl, rfl⟩)
          | (go_at_call 18
             refine (kept_ok _ A n c _ l _ H2.out.1 (HA.out.below H2.out.2.1) hn2).mono ?_
             rintro e w3 ⟨rfl, hb3⟩
             have H3 := Lib.hid (And.intro (below_then H2.out.2.1 hb3) (H2.out.2.2.below hb3))
             clear hb3)
          | (go_at_call 20
             refine (oshort_any N _ hN).mono ?_
             rintro e w4 ⟨yv, yrm, rfl, hr4, hb4⟩
             obtain ⟨ya, yn, yc, rfl, hyn, -, -⟩ := hr4.form2
             have H4 := Lib.hid (And.intro (below_then H3.out.1 hb4) (And.intro (H3.out.2.below hb4) (show Sl w4 1 ya yn _ by rw [hyn]; exact hr4.sl)))
             clear hr4 hb4 hyn)
          | (go_at_call 21
             refine (rshort_any N _ hN).mono ?_
             rintro e w5 ⟨zv, zrm, rfl, hr5, hb5⟩
             obtain ⟨za, zn, zc, rfl, hzn, -, -⟩ := hr5.form2
             have H5 := Lib.hid (And.intro (below_then H4.out.1 hb5) (And.intro (H4.out.2.1.below hb5) (And.intro (H4.out.2.2.below hb5) (show Sl w5 1 za zn _ by rw [hzn]; exact hr5.sl))))
             clear hr5 hb5 hzn)
          | (go_at_call 22
             refine (odec_any I hI1 hI2 _ (HT.out.below H5.out.1)).mono ?_
             rintro e w6 ⟨rfl, hb6⟩
             have H6 := Lib.hid (And.intro (below_then H5.out.1 hb6) (H5.out.2.1.below hb6))
             clear hb6)
          | (go_at_call 23
             refine (rdec_any I hI1 hI2 _).mono ?_
             rintro e w' ⟨rfl, rfl⟩)
          | (go_at_call 24
             refine (rfits_any N _ _ hN hsz1 hsz2).mono ?_
             rw [HF.out.2]
             rintro e w' ⟨rfl, rfl⟩)
          | (go_at_call 25
             refine (rbytes_any N S _ hN hS).mono ?_
             rintro e w7 ⟨uv, urm, rfl, hr7, hb7⟩
             obtain ⟨ua, un, uc, rfl, hun, -, -⟩ := hr7.form2
             have H7 := Lib.hid (And.intro (below_then H6.out.1 hb7) (And.intro (H6.out.2.below hb7) (show Sl w7 1 ua un _ by rw [hun]; exact hr7.sl)))
             clear hr7 hb7 hun)
          | (go_at_call 19
             first
             | (refine (sameBytes_any xa ua xn un xc uc _ _ _ H7.out.2.1 H7.out.2.2).mono ?_
                rw [show decide (beL N S = beL N S) = true by simp]
                rintro e w' ⟨rfl, rfl⟩)
             | (refine (sameBytes_any ya za yn zn yc zc _ _ _ H5.out.2.2.1 H5.out.2.2.2).mono ?_
                rw [show decide (shortL N = shortL N) = true by simp]
                rintro e w' ⟨rfl, rfl⟩))
          | (go_at_call 26
             refine (rnumber_any A n c l _ (HA.out.below H7.out.1) hn8).mono ?_
             rintro e w' ⟨rfl, rfl⟩)
          | (go_at_call 27
             refine (rreads_any A n c l _ (HA.out.below H7.out.1) hnc hc).mono ?_
             rw [HR.out]
             rintro e w8 ⟨rfl, hb8⟩
             have H8 := Lib.hid (below_then H7.out.1 hb8)
             clear hb8)
          | (go_at_call 28
             refine (rreaddec_any s most _ hs hm1 hm2).mono ?_
             rintro e w' ⟨rfl, rfl⟩))
        all_goals
          go_ret
          exact ⟨rfl, H8.out⟩

namespace octetNumbers
set_option linter.unusedVariables false
open Go.ChangeShapes Go.WideShapes Go.ChangeAt Go.RowKit Go.As
theorem own : ownKnob Tryd.prog.godebug = none := by kernel_rfl
theorem laidOut : laidOutB Tryd.prog = true := by kernel_rfl
theorem door_met (os : Os) (args : Array Value) : laidMetH Tryd.prog Rows.octetNumbersRow.laid ((World.doorLaid Tryd.prog 24 os).forCall (fun _ _ => 0) ⟨#[], args, []⟩).memory :=
  laidMetH_of_parts3 (fuel := 8) (laidMet_of_run' 8 (by kernel_rfl) (by kernel_rfl)) (by kernel_rfl) (by kernel_rfl)
set_option maxRecDepth 100000 in
theorem lifted (os : Os) (started : os.Started) (H : Type) (enc : TypeId × Value → H) :
    ReturnsInHanded {} Tryd.checked os 3 .any (fun w args => (Rows.octetNumbersSpec.pre enc Tryd.prog Tryd.f3 [] false w args ∧ laidMetH Tryd.prog Rows.octetNumbersRow.laid w) ∧ sizedMet enc Tryd.prog Tryd.f3 (OpenSpec.ofChange Rows.octetNumbersSpec) false w args) (Rows.octetNumbersSpec.post enc Tryd.prog Tryd.f3 false true false false) := by
  refine returnsInHanded_of_change_and (C := Tryd.checked) (X := fun w _ => laidMetH Tryd.prog Rows.octetNumbersRow.laid w) (fun _ _ _ hh h => h.of_heap hh) own started (by kernel_rfl) Tryd.func3
    (ChangeSpec.witness_shaped (enc := enc) (C := Tryd.checked) (os := os) (X := fun w _ => laidMetH Tryd.prog Rows.octetNumbersRow.laid w) false (World.doorLaid Tryd.prog 24 os) #[.int .u64 0, .int .i64 0, .slice none 0 0, .string ⟨#[]⟩, .int .i64 0] 8 rfl (World.shaped_of_RefB (by kernel_rfl) (by kernel_rfl)) (by kernel_rfl) (by kernel_rfl) (by kernel_rfl) (door_met os _)) ?_
  intro W base args ds gs before hval0 hW hcnd _ hL _
  have hval : ∀ (j : Nat) t v, Tryd.f3.params[j]? = some t → args[j]? = some v → Value.okWide Tryd.prog W .any base t v := hval0
  have hW' := hW
  obtain ⟨p, q, hA0, hV, hpq, hfz, hnd⟩ := hW
  have hA : DataW.TrodAll enc Tryd.prog W 0 (fun _ => true) true Tryd.f3.params.toList args.toList ds p := hA0
  have hlt : ∀ x ∈ p, x.block < W.heap.size := fun x hx => hW'.lt x (by rw [hpq]; exact List.mem_append_left _ hx)
  rw [Tryd.params3] at hA hval
  obtain ⟨v0, vs0, d0, ds0, p0, q0, hargs, rfl, hp0, h0, r0⟩ := trodAll_cons hA
  obtain ⟨v1, vs1, d1, ds1, p1, q1, rfl, rfl, hp1, h1, r1⟩ := trodAll_cons r0
  obtain ⟨v2, vs2, d2, ds2, p2, q2, rfl, rfl, hp2, h2, r2⟩ := trodAll_cons r1
  obtain ⟨v3, vs3, d3, ds3, p3, q3, rfl, rfl, hp3, h3, r3⟩ := trodAll_cons r2
  obtain ⟨v4, vs4, d4, ds4, p4, q4, rfl, rfl, hp4, h4, r4⟩ := trodAll_cons r3
  obtain ⟨rfl, rfl, hpn⟩ := trodAll_nil r4
  obtain rfl : args = #[v0, v1, v2, v3, v4] := by cases args; simp_all
  obtain ⟨rfl, rfl⟩ := trodVars_none hV
  obtain ⟨a0, rfl, rfl, -, w0⟩ := open_int Tryd.underlying22 (hval 0 22 v0 rfl rfl) h0
  obtain ⟨a1, rfl, rfl, -, w1⟩ := open_int Tryd.underlying3 (hval 1 3 v1 rfl rfl) h1
  obtain ⟨x2, rfl, o2⟩ := bytes_open (hval 2 _ v2 rfl rfl) h2 (fun x hx => hlt x (by simp_all))
  obtain ⟨s3, rfl, rfl, -, w3⟩ := ChangeMaps.open_string Tryd.underlying9 (hval 3 9 v3 rfl rfl) h3
  obtain ⟨l3, rfl⟩ := exists_str s3
  rw [str_size] at w3
  obtain ⟨a4, rfl, rfl, -, w4⟩ := open_int Tryd.underlying3 (hval 4 3 v4 rfl rfl) h4
  refine (octetNumbers_walk a0 w0 a1 w1 x2 W o2 l3 w3 a4 w4 (tab_of_laid (laid := Rows.octetNumbersRow.laid) rfl hL)).mono fun e W' ⟨he, hg⟩ => ?_
  subst he
  exact ⟨_, rfl, law_post (T := 4) laidOut (by kernel_rfl) Tryd.underlying4 rfl rfl hW' rfl rfl rfl hg⟩
theorem over : Rows.octetNumbersRow.holds Tryd.pinned (OpenSpec.ofChange Rows.octetNumbersSpec) :=
  OpenClaim.holds_of_wide 3 Tryd.f3 rfl rfl rfl rfl rfl rfl rfl ⟨rfl, rfl, rfl, rfl, rfl⟩ rfl rfl rfl rfl rfl (by kernel_rfl) Tryd.func3 (by kernel_rfl)
    (of_decide_eq_true (by kernel_rfl)) (by unfold Func.isWrapper; rw [if_neg (of_decide_eq_false (by kernel_rfl))]; exact ⟨rfl, rfl⟩)
    (fun os started H enc _ => lifted os started H enc)
/-- the statement -/
theorem proved : Rows.OctetNumbersCardSaid :=
  Claim7.holds_tied_plain_at .later [] [.data, .data, .data] true (true, "c5dbe156eb60a59730607763013cde13550478e2496cc4cac80feebce387f0b5") false over (fun _ h => by cases h) (by kernel_rfl) (fun _ h => by cases h) octetNumbers_row_tie rfl ⟨rfl, rfl⟩ (by kernel_rfl) rfl
    (fun f fn hf hfn => by
      obtain rfl : f = 3 := Option.some.inj ((show Tryd.prog.funcNamed "assize/assizelaw01.OctetNumbers" = some 3 by kernel_rfl).symm.trans hf) |>.symm
      obtain rfl : fn = Tryd.f3 := (Option.some.inj (Tryd.func3.symm.trans hfn)).symm
      exact ⟨by kernel_rfl, fun j t ht => by
        rw [Tryd.params3] at ht
        have hm : t ∈ [22, 3, 23, 9, 3] := by simpa using Array.mem_of_getElem? ht
        have hall : ([22, 3, 23, 9, 3].all fun u => !Tryd.prog.wantsStandIn u) = true := by kernel_rfl
        exact (show Tryd.prog.wantsStandIn t = false by simpa using List.all_eq_true.1 hall t hm)⟩)
    (by kernel_rfl)
#print axioms proved
end octetNumbers
end Go.Proofs.YtldkcfhigcmoaaaDoor
