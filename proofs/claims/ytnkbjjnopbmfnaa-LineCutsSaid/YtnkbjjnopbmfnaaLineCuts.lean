/- The law LineCuts: however bytes are cut into pieces the lines that are told are the same, and what is kept is never more than the limit; every input. -/
import Derived.Test.YtnkbjjnopbmfnaaLinePr
import Derived.Test.YtnkbjjnopbmfnaaOpenB
namespace Go.Proofs.Ytnkbjjnopbmfnaa
open Go.RowKit Go.As
set_option linter.unusedVariables false

set_option maxRecDepth 100000 in
set_option maxHeartbeats 6400000 in
theorem lineCuts_walk (limit : Int) (wl : (Lit.int .i64 limit).wf = true) (x : BArg) (w : World) (ox : BytAt w x) (y : IArg) (oy : IntsAt w y) :
    Calls Try.prog 6 #[.int .i64 limit, .slice x.1 x.2.1 x.2.2.1, .slice y.1 y.2.1 y.2.2.1] w fun e w' => e = .returned (.bool true) ∧ Below w.heap.size w w' := by
  obtain ⟨A, n, c, l⟩ := x
  obtain ⟨Y, m, d, cuts⟩ := y
  obtain ⟨hl, hnc, hcm, hA, ha⟩ := ox
  obtain ⟨hcl, hmd, hdm, -, hcw, hy⟩ := oy
  simp only at hl hnc hcm hA ha hcl hmd hdm hcw hy
  have hnm : n ≤ 9223372036854775807 := by simp only [maxLen] at hcm; omega
  have hmm : m ≤ 9223372036854775807 := by simp only [maxLen] at hdm; omega
  clear wl
  by_cases hbad : limit < 16 ∨ 200 < limit ∨ 3000 < n ∨ 60 < m
  · have HA := Lib.hid (lawake_ok w)
    clear ha hy hl hcl hnc hcm hA hcw hmd hdm
    by_cases h0 : limit < 16
    · go_enter Try.func6, Try.ntmps6
      go_wp2_with (go_at_call 25; refine HA.out.mono ?_; rintro e w' ⟨rfl, hb⟩)
      go_ret
      exact ⟨rfl, hb⟩
    by_cases h1 : 200 < limit
    · go_enter Try.func6, Try.ntmps6
      go_wp2_with (go_at_call 25; refine HA.out.mono ?_; rintro e w' ⟨rfl, hb⟩)
      go_ret
      exact ⟨rfl, hb⟩
    by_cases h2 : 3000 < n
    · go_enter Try.func6, Try.ntmps6
      go_wp2_with (go_at_call 25; refine HA.out.mono ?_; rintro e w' ⟨rfl, hb⟩)
      go_ret
      exact ⟨rfl, hb⟩
    have h3 : 60 < m := by omega
    go_enter Try.func6, Try.ntmps6
    go_wp2_with (go_at_call 25; refine HA.out.mono ?_; rintro e w' ⟨rfl, hb⟩)
    go_ret
    exact ⟨rfl, hb⟩
  obtain ⟨lim, rfl⟩ : ∃ lim : Nat, limit = lim := ⟨limit.toNat, by omega⟩
  have hlo : 16 ≤ lim := by omega
  have hhi : lim ≤ 65536 := by omega
  have hh2 : lim ≤ 200 := by omega
  have hn3 : n ≤ 3000 := by omega
  have hm3 : m ≤ 60 := by omega
  have HA := Lib.hid (And.intro ha (And.intro hA (And.intro hnc hcm)))
  have HY := Lib.hid (And.intro hy (And.intro hcl hcw))
  have HL := Lib.hid hl
  clear ha hy hcl hA hcw hmd hdm hbad hnm hmm hcm hnc hl
  obtain ⟨s0, hs0⟩ : ∃ s0 : LSt, s0 = ([], false) := ⟨_, rfl⟩
  obtain ⟨x1, hx1⟩ : ∃ x1, x1 = feedB lim s0 l := ⟨_, rfl⟩
  have hx1l : x1.1.length ≤ 3000 := by have := feedB_len lim l s0; rw [hx1]; have := HL.out; omega
  have HX1 := Lib.hid (And.intro hx1 hs0)
  clear hx1 hs0
  go_enter Try.func6, Try.ntmps6
  go_wp2_with fail
  refine (lawake_ok w).mono ?_
  rintro e w1 ⟨rfl, hb1⟩
  have HB1 := Lib.hid hb1
  clear hb1
  go_wp2_with fail
  refine (lnew_ok lim _ hlo hhi).mono ?_
  rintro e w2 ⟨rfl, ho2, hb2, hz2⟩
  have H2 := Lib.hid (And.intro ho2 (And.intro hb2 hz2))
  clear ho2 hb2 hz2
  go_wp2_with fail
  refine (lnew_ok lim _ hlo hhi).mono ?_
  rintro e w3 ⟨rfl, ho3, hb3, hz3⟩
  have hP : XP w w3 69 69 lim w1.heap.size (.slice none 0 0) [] s0 w2.heap.size (.slice none 0 0) [] s0 := by
    rw [HX1.out.2]
    refine ⟨H2.out.1.below hb3, ho3, ?_, ?_, ?_, below_then HB1.out (below_then H2.out.2.1 hb3), ⟨by simp, fun _ => rfl⟩, ⟨by simp, fun _ => rfl⟩⟩
    · rintro k (rfl | hk)
      · rintro (h | h)
        · have := H2.out.2.2; omega
        · simp [Value.ownBlock] at h
      · simp [Value.ownBlock] at hk
    · rintro k (rfl | hk)
      · exact HB1.out.size
      · simp [Value.ownBlock] at hk
    · rintro k (rfl | hk)
      · exact Nat.le_trans HB1.out.size H2.out.2.1.size
      · simp [Value.ownBlock] at hk
  have HP := Lib.hid hP
  clear hP ho3 hb3 hz3 H2 HB1
  go_wp2_with fail
  have hap : ∀ ad, A = some ad → 0 < n → ad.block < w.heap.size := by
    intro ad e h0
    obtain ⟨ad', e', hb, -⟩ := HA.out.1.2 h0
    rw [e] at e'
    injection e' with e'
    rw [e']; exact hb
  have HAP := Lib.hid hap
  clear hap
  refine (feed_ok w3 w1.heap.size lim _ _ _ _ A n c l (show LR _ _ _ _ _ _ _ from HP.out.o) hlo hhi HP.out.ok1 (HA.out.1.below HP.out.bel) HA.out.2.2.1 HA.out.2.1 (by omega) (fun ad e h0 hf => by have := HP.out.lo1 _ hf; have := HAP.out ad e h0; omega)).mono ?_
  rw [show feedB lim (s0.1, s0.2) l = x1 from HX1.out.1.symm]
  rintro e w4 ⟨wo, v1', rm1', rfl, hown4, hr4, hO4, hs4⟩
  obtain ⟨wa, wc, rfl, -, -⟩ := own_form hown4
  have hok4 : okS lim x1.2 := by rw [HX1.out.1]; exact feedB_ok l HP.out.ok1
  have HW := Lib.hid (And.intro (HP.out.step1 (w' := w4) (s1' := x1.2) hr4 hok4 hO4 hs4) (And.intro (show LnRow w4 w3 _ _ from hown4) (fun k hk => (hown4.lt k hk).2)))
  have hsz3 := HP.out.bel.size
  clear hown4 hr4 hO4 hs4 hok4 HP
  go_wp2_with fail
  go_loopw [14, 15, 16] (fun gv rv i wr => ∃ (k : Nat) (gl : List Ln) (gv' : Value) (R : Option Addr) (rn rc : Nat) (r : List UInt8) (v2 : Value) (rm2 : List UInt8) (s2 : LSt), k ≤ m ∧ i = .int .i64 k ∧ gv = gv' ∧ rv = .slice R rn rc ∧
    XP w wr 69 69 lim w1.heap.size v1' rm1' x1.2 w2.heap.size v2 rm2 s2 ∧ LnRow wr w3 (.slice wa x1.1.length wc) x1.1 ∧ LnRow wr w4 gv' gl ∧
    x1 = (gl ++ (feedB lim s2 r).1, (feedB lim s2 r).2) ∧ (Sl w 1 R rn (byt r) ∧ rn ≤ rc ∧ (R = none → rc = 0) ∧ rn ≤ n ∧ w4.heap.size ≤ wr.heap.size ∧ (∀ ad, R = some ad → 0 < rn → ad.block < w.heap.size))) (fun _ _ i _ => m - (intOf i).toNat)
  case atStart => exact ⟨0, [], _, A, n, c, l, _, [], s0, by omega, rfl, rfl, rfl, HW.out.1, HW.out.2.1, World.ownsRow_nil _ _ _ _, by rw [List.nil_append]; exact HX1.out.1, HA.out.1, HA.out.2.2.1, HA.out.2.1, Nat.le_refl _, Nat.le_refl _, HAP.out⟩
  case round =>
    obtain ⟨k, gl, gv', R, rn, rc, r, v2, rm2, s2, hk, rfl, hgv, rfl, hP, hWr, hG, hE, hS, hrc, hRn, hrn, hsz, hRb⟩ := hrel
    have hgv' := hgv.symm
    subst hgv'
    have hrl : r.length = rn := by have := hS.len1; simpa [byt] using this
    have hgl : gl.length ≤ 3000 := by rw [hE] at hx1l; simp only [List.length_append] at hx1l; omega
    have hfl := feedB_len lim r s2
    have HP := Lib.hid hP
    have HG := Lib.hid (And.intro hWr hG)
    have HE := Lib.hid hE
    have HS := Lib.hid (And.intro hS (And.intro hrc (And.intro hRn hRb)))
    clear hP hWr hG hE hS hrc hRn hRb
    by_cases hlt : k < m
    · obtain ⟨ad, u, hY, -, hu, hc⟩ := (HY.out.1.below HP.out.bel).at1 hlt
      subst hY
      rw [List.getElem?_map, Option.map_eq_some_iff] at hu
      obtain ⟨q, hq, rfl⟩ := hu
      have HQ := Lib.hid (HY.out.2.2 q (List.mem_of_getElem? hq))
      clear hq
      go_wp2_with fail
      refine (pick_any q ((rn : Int) + 1) _ (by omega) (by omega) HQ.out).mono ?_
      rintro e w' ⟨⟨j, rfl, hj⟩, rfl⟩
      have hj2 : j ≤ rn := by omega
      have hjl : (r.take j).length = j := by rw [List.length_take]; omega
      have hrun1 := fun W => run_slice_hi (P := Try.prog) 33 5 _ 1 1 Try.underlying33 byteInfo R rn rc .i64 (j : Int) (by omega) (by have := HS.out.2.1; omega) W
      have hrun2 := fun W => run_slice_lo (P := Try.prog) 33 5 _ 1 1 Try.underlying33 byteInfo R rn rc .i64 (j : Int) (by omega) (by omega) W
      rw [show ((j : Int)).toNat = j by omega] at hrun1 hrun2
      obtain ⟨R2, hR2⟩ : ∃ R2, R2 = (if rc = j then R else R.map (·.add (j * 1))) := ⟨_, rfl⟩
      rw [← hR2] at hrun2
      have HS2 := Lib.hid (show Sl w 1 R2 (rn - j) (byt (r.drop j)) ∧ rn - j ≤ rc - j ∧ (R2 = none → rc - j = 0) ∧ (∀ ad, R2 = some ad → 0 < rn - j → ad.block < w.heap.size) from by
        have h1 := HS.out.1.cut (k := j) (cap := rc) hj2 HS.out.2.1
        rw [← hR2, Nat.mul_one, byt_drop] at h1
        refine ⟨h1, by have := HS.out.2.1; omega, ?_, fun ad e h0 => ?_⟩
        · intro e
          rw [hR2] at e
          split at e
          · omega
          · cases R with
            | none => have := HS.out.2.2.1 rfl; omega
            | some ad => simp at e
        · obtain ⟨ad', e', hb, -⟩ := h1.2 h0
          rw [e] at e'
          injection e' with e'
          rw [e']; exact hb)
      have hS1 : Sl w 1 R j (byt (r.take j)) := by
        have := HS.out.1.take (k := j) hj2
        rwa [Nat.mul_one, byt_take] at this
      have HS1 := Lib.hid hS1
      clear hR2 hS1
      obtain ⟨x2, hx2⟩ : ∃ x2, x2 = feedB lim s2 (r.take j) := ⟨_, rfl⟩
      have hx2l : x2.1.length ≤ 3000 := by have := feedB_len lim (r.take j) s2; rw [hx2]; omega
      have HX2 := Lib.hid hx2
      clear hx2
      go_wp2_with fail
      refine (feed_ok wr w2.heap.size lim v2 s2.1 rm2 s2.2 R j rc (r.take j) (show LR _ _ _ _ _ _ _ from HP.out.r) hlo hhi HP.out.ok2 (HS1.out.below HP.out.bel) (by have := HS.out.2.1; omega) HS.out.2.2.1 (by omega) (fun ad e h0 hf => by have := HP.out.lo2 _ hf; have := HS.out.2.2.2 ad e (by omega); omega)).mono ?_
      rw [show feedB lim (s2.1, s2.2) (r.take j) = x2 from HX2.out.symm]
      rintro e w5 ⟨o5, v2', rm2', rfl, hown5, hr5, hO5, hs5⟩
      obtain ⟨a5, c5, rfl, -, -⟩ := own_form hown5
      have hok5 : okS lim x2.2 := by rw [HX2.out]; exact feedB_ok _ HP.out.ok2
      have HP5 := Lib.hid (HP.out.step2 (w' := w5) (s2' := x2.2) hr5 hok5 hO5 hs5)
      have HG5 := Lib.hid (And.intro (ln_keep HG.out.1 HP.out.r (by decide) hO5) (And.intro (ln_keep HG.out.2 HP.out.r (by decide) hO5) (Sl.of_own hown5)))
      have hsz5 : w4.heap.size ≤ w5.heap.size := Nat.le_trans hsz hO5.size
      clear hown5 hr5 hO5 hs5 hok5
      go_wp2_with (first
        | (at_builtin
           refine wpl_app rfl _ _ _ rfl w4.heap.size 74 _ 2 24 Try.underlying52 lineInfo rfl (by omega) (by omega) gv' gl.length _ HG5.out.2.1 rfl a5 x2.1.length c5 (x2.1.flatMap lnC) rfl HG5.out.2.2 (lns_one _) (by omega) hsz5 ?_
           intro v6 w6 hown6 hg6 hs6
           have hO6 : Only (fun k => gv'.ownBlock = some k) w5 w6 := Only.of_grown hg6 (fun k hk => hk)
           have hP6 := HP5.out.only hO6 (fun k hk => ⟨ln_apart HG5.out.2.1 HP5.out.o (by decide) k hk, ln_apart HG5.out.2.1 HP5.out.r (by decide) k hk, by have := (HG5.out.2.1.lt k hk).1; have := HW.out.1.bel.size; omega⟩)
           have hw6 : LnRow w6 w3 (.slice wa x1.1.length wc) x1.1 := own_only HG5.out.1 hO6 (fun k hk e => by have := HW.out.2.2 k hk; have := (HG5.out.2.1.lt k e).1; omega)
           have hg6' : LnRow w6 w4 v6 (gl ++ x2.1) := by
             unfold LnRow
             rw [lns_app, List.length_append]
             exact hown6
           have H6 := Lib.hid (And.intro hP6 (And.intro hw6 hg6'))
           have hsz6 := Nat.le_trans hsz5 hO6.size
           clear hown6 hg6 hs6 hO6 hP6 hw6 hg6')
        | (go_at_call 29
           have hle := H6.out.1.ok2.1
           refine (lpending_ok _ _ _ _ _ _ _ (show LR _ _ _ _ _ _ _ from H6.out.1.r) hlo).mono ?_
           rintro e w' ⟨rfl, rfl⟩))
      go_roundw
      case rel =>
        refine ⟨k + 1, gl ++ x2.1, v6, R2, rn - j, rc - j, r.drop j, v2', rm2', x2.2, by omega, by go_num, rfl, rfl, H6.out.1, H6.out.2.1, H6.out.2.2, ?_, HS2.out.1, HS2.out.2.1, HS2.out.2.2.1, by omega, hsz6, HS2.out.2.2.2⟩
        have h1 := feedB_append lim (r.take j) (r.drop j) s2
        rw [List.take_append_drop, ← HX2.out] at h1
        rw [HE.out, h1]
        simp
      case measure => simp [intOf]; omega
    · obtain ⟨x2, hx2⟩ : ∃ x2, x2 = feedB lim s2 r := ⟨_, rfl⟩
      have hx2l : x2.1.length ≤ 3000 := by rw [hx2]; omega
      have HX2 := Lib.hid hx2
      rw [← hx2] at HE
      have HEQ := Lib.hid (show x1.1 = gl ++ x2.1 ∧ x1.2 = x2.2 by rw [HE.out]; exact ⟨rfl, rfl⟩)
      clear hx2 hfl
      go_wp2_with fail
      refine (feed_ok wr w2.heap.size lim v2 s2.1 rm2 s2.2 R rn rc r (show LR _ _ _ _ _ _ _ from HP.out.r) hlo hhi HP.out.ok2 (HS.out.1.below HP.out.bel) HS.out.2.1 HS.out.2.2.1 (by omega) (fun ad e h0 hf => by have := HP.out.lo2 _ hf; have := HS.out.2.2.2 ad e h0; omega)).mono ?_
      rw [show feedB lim (s2.1, s2.2) r = x2 from HX2.out.symm]
      rintro e w5 ⟨o5, v2', rm2', rfl, hown5, hr5, hO5, hs5⟩
      obtain ⟨a5, c5, rfl, -, -⟩ := own_form hown5
      have hok5 : okS lim x2.2 := by rw [HX2.out]; exact feedB_ok _ HP.out.ok2
      have HP5 := Lib.hid (HP.out.step2 (w' := w5) (s2' := x2.2) hr5 hok5 hO5 hs5)
      have HG5 := Lib.hid (And.intro (ln_keep HG.out.1 HP.out.r (by decide) hO5) (And.intro (ln_keep HG.out.2 HP.out.r (by decide) hO5) (Sl.of_own hown5)))
      have hsz5 : w4.heap.size ≤ w5.heap.size := Nat.le_trans hsz hO5.size
      clear hown5 hr5 hO5 hs5 hok5
      go_wp2_with (first
        | (at_builtin
           refine wpl_app rfl _ _ _ rfl w4.heap.size 74 _ 2 24 Try.underlying52 lineInfo rfl (by omega) (by omega) gv' gl.length _ HG5.out.2.1 rfl a5 x2.1.length c5 (x2.1.flatMap lnC) rfl HG5.out.2.2 (lns_one _) (by omega) hsz5 ?_
           intro v6 w6 hown6 hg6 hs6
           obtain ⟨a6, c6, rfl, -, -⟩ := own_form hown6
           have hO6 : Only (fun k => gv'.ownBlock = some k) w5 w6 := Only.of_grown hg6 (fun k hk => hk)
           have hP6 := HP5.out.only hO6 (fun k hk => ⟨ln_apart HG5.out.2.1 HP5.out.o (by decide) k hk, ln_apart HG5.out.2.1 HP5.out.r (by decide) k hk, by have := (HG5.out.2.1.lt k hk).1; have := HW.out.1.bel.size; omega⟩)
           have hw6 : LnRow w6 w3 (.slice wa x1.1.length wc) x1.1 := own_only HG5.out.1 hO6 (fun k hk e => by have := HW.out.2.2 k hk; have := (HG5.out.2.1.lt k e).1; omega)
           have hs6' := Sl.of_own hown6
           rw [← lns_app] at hs6'
           have H6 := Lib.hid (And.intro hP6 (And.intro hw6 hs6'))
           clear hown6 hg6 hs6 hO6 hP6 hw6 hs6')
        | (go_at_call 30
           refine (lines_any a6 wa _ _ c6 wc (gl ++ x2.1) x1.1 _ H6.out.2.2 H6.out.2.1.sl (by omega)).mono ?_
           rw [show decide (gl ++ x2.1 = x1.1) = true by rw [HEQ.out.1]; simp]
           rintro e w7 ⟨rfl, dq, hw7⟩
           have HP7 := Lib.hid (show XP w w7 _ _ _ _ _ _ _ _ _ _ _ by rw [hw7]; exact H6.out.1.below (below_drewN (Below.refl _ _) _))
           clear hw7)
        | (go_at_call 29
           first
             | (refine (lpending_ok _ _ _ _ _ _ _ (show LR _ _ _ _ _ _ _ from HP7.out.o) hlo).mono ?_
                rw [HEQ.out.2]
                rintro e w' ⟨rfl, rfl⟩)
             | (refine (lpending_ok _ _ _ _ _ _ _ (show LR _ _ _ _ _ _ _ from HP7.out.r) hlo).mono ?_
                rintro e w' ⟨rfl, rfl⟩)))
      go_ret
      exact ⟨rfl, HP7.out.bel⟩

namespace lineCuts
set_option linter.unusedVariables false
open Go.ChangeShapes Go.WideShapes Go.ChangeAt Go.RowKit Go.As
theorem own : ownKnob Try.prog.godebug = none := by kernel_rfl
theorem laidOut : laidOutB Try.prog = true := by kernel_rfl
set_option maxRecDepth 100000 in
theorem lifted (os : Os) (started : os.Started) (H : Type) (enc : TypeId × Value → H) :
    ReturnsInHanded {} Try.checked os 6 .any (Rows.lineCutsSpec.pre6 enc Try.prog Try.f6 Rows.lineCutsRow.domain false) (Rows.lineCutsSpec.post enc Try.prog Try.f6 false true false false) := by
  refine returnsInHanded_of_change (C := Try.checked) own started (by kernel_rfl) Try.func6
    (ChangeSpec.witness6 (enc := enc) (C := Try.checked) false ⟨#[], #[.int .i64 0, .slice none 0 0, .slice none 0 0], []⟩ 8 (by kernel_rfl) (by kernel_rfl) (by kernel_rfl) (by kernel_rfl)) ?_
  intro W base args ds gs before hval0 hW hcnd _
  have hval : ∀ (j : Nat) t v, Try.f6.params[j]? = some t → args[j]? = some v → Value.okWide Try.prog W .any base t v := hval0
  have hW' := hW
  obtain ⟨p, q, hA0, hV, hpq, hfz, hnd⟩ := hW
  have hA : DataW.TrodAll enc Try.prog W 0 (fun _ => true) true Try.f6.params.toList args.toList ds p := hA0
  have hlt : ∀ x ∈ p, x.block < W.heap.size := fun x hx => hW'.lt x (by rw [hpq]; exact List.mem_append_left _ hx)
  rw [Try.params6] at hA hval
  obtain ⟨v0, vs0, d0, ds0, p0, q0, hargs, rfl, hp0, h0, r0⟩ := trodAll_cons hA
  obtain ⟨v1, vs1, d1, ds1, p1, q1, rfl, rfl, hp1, h1, r1⟩ := trodAll_cons r0
  obtain ⟨v2, vs2, d2, ds2, p2, q2, rfl, rfl, hp2, h2, r2⟩ := trodAll_cons r1
  obtain ⟨rfl, rfl, hpn⟩ := trodAll_nil r2
  obtain rfl : args = #[v0, v1, v2] := by cases args; simp_all
  obtain ⟨rfl, rfl⟩ := trodVars_none hV
  obtain ⟨a0, rfl, rfl, -, w0⟩ := open_int Try.underlying3 (hval 0 3 v0 rfl rfl) h0
  obtain ⟨x1, rfl, o1⟩ := bytes_open (hval 1 _ v1 rfl rfl) h1 (fun x hx => hlt x (by simp_all))
  obtain ⟨x2, rfl, o2⟩ := ints_open (hval 2 _ v2 rfl rfl) h2 (fun x hx => hlt x (by simp_all))
  refine (lineCuts_walk a0 w0 x1 W o1 x2 o2).mono fun e W' ⟨he, hg⟩ => ?_
  subst he
  exact ⟨_, rfl, law_post (T := 4) laidOut (by kernel_rfl) Try.underlying4 rfl rfl hW' rfl rfl rfl hg⟩
theorem over : Rows.lineCutsRow.holds Try.pinned (OpenSpec.ofChange Rows.lineCutsSpec) :=
  OpenClaim.holds_of_wide 6 Try.f6 rfl rfl rfl rfl rfl rfl rfl ⟨rfl, rfl, rfl, rfl, rfl⟩ rfl rfl rfl rfl rfl (by kernel_rfl) Try.func6 (by kernel_rfl)
    (of_decide_eq_true (by kernel_rfl)) (by unfold Func.isWrapper; rw [if_neg (of_decide_eq_false (by kernel_rfl))]; exact ⟨rfl, rfl⟩)
    (fun os started H enc _ => lifted os started H enc)
/-- the statement -/
theorem proved : Rows.LineCutsSaid := over
#print axioms proved
end lineCuts
end Go.Proofs.Ytnkbjjnopbmfnaa
