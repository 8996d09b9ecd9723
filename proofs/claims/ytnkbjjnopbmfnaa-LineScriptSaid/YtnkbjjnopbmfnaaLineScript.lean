/- The law LineScript: a reader tells of any pieces what the document says, and forgets them when it is told to; every input. -/
import Derived.Test.YtnkbjjnopbmfnaaLinePr
import Derived.Test.YtnkbjjnopbmfnaaOpenB
import Derived.Test.YtnkbjjnopbmfnaaLent
namespace Go.Proofs.Ytnkbjjnopbmfnaa
open Go.RowKit Go.As
set_option linter.unusedVariables false

theorem barg_at {l : List BArg} {k : Nat} {p : BArg} (h : l[k]? = some p) : (l.flatMap bargC)[k]? = some (.slice p.1 p.2.1 p.2.2.1) := by
  have := flat_at bargC 1 (fun _ => rfl) h 0 (by omega)
  simpa [bargC] using this


set_option maxRecDepth 100000 in
set_option maxHeartbeats 6400000 in
theorem lineScript_walk (limit : Int) (wl : (Lit.int .i64 limit).wf = true) (x : BBArg) (w : World) (ox : BytsAt w x) (clr : Int) (wc : (Lit.int .i64 clr).wf = true) :
    Calls Try.prog 7 #[.int .i64 limit, .slice x.1 x.2.1 x.2.2.1, .int .i64 clr] w fun e w' => e = .returned (.bool true) ∧ Below w.heap.size w w' := by
  obtain ⟨A, n, c, xs⟩ := x
  obtain ⟨hl, hnc, hcm, -, hx, ha⟩ := ox
  simp only at hl hnc hcm hx ha
  have hn : n ≤ 9223372036854775807 := by simp only [maxLen] at hcm; omega
  clear wl wc hnc hcm
  by_cases hbig : 40 < n
  · go_enter Try.func7, Try.ntmps7
    go_wp2_with fail
    go_ret
    exact ⟨rfl, Below.refl _ _⟩
  by_cases hbad : limit < 16 ∨ 65536 < limit
  · have HB := Lib.hid hbad
    clear hbad
    go_enter Try.func7, Try.ntmps7
    go_wp2_with (first
      | (go_at_call 26; refine (lnew_bad _ _ HB.out).mono ?_; rintro e w' ⟨rfl, rfl⟩)
      | (go_at_call 31; refine (qnew_bad _ _ HB.out).mono ?_; rintro e w' ⟨rfl, rfl⟩))
    go_loopw [11] (fun i wr => i = .int .i64 0 ∧ wr = w) (fun i _ => 0)
    case atStart => exact ⟨rfl, rfl⟩
    case round =>
      obtain ⟨rfl, rfl⟩ := hrel
      go_wp2_with fail
      go_ret
      exact ⟨rfl, Below.refl _ _⟩
  obtain ⟨lim, rfl⟩ : ∃ lim : Nat, limit = lim := ⟨limit.toNat, by omega⟩
  have hlo : 16 ≤ lim := by omega
  have hhi : lim ≤ 65536 := by omega
  have HA := Lib.hid (And.intro ha (And.intro hl hx))
  clear ha hl hx hbad
  go_enter Try.func7, Try.ntmps7
  go_wp2_with (first
    | (go_at_call 26; refine (lnew_ok lim _ hlo hhi).mono ?_; rintro e w1 ⟨rfl, ho1, hb1, hz1⟩; have H1 := Lib.hid (And.intro ho1 (And.intro hb1 hz1)); clear ho1 hb1 hz1)
    | (go_at_call 31; refine (qnew_ok lim _ hlo hhi).mono ?_; rintro e w2 ⟨rfl, ho2, hb2, hz2⟩; have H2 := Lib.hid (And.intro ho2 (And.intro hb2 hz2)); clear ho2 hb2 hz2))
  have hP : XP w w2 69 65 lim w.heap.size (.slice none 0 0) [] ([], false) w1.heap.size (.slice none 0 0) [] ([], false) := by
    refine ⟨H1.out.1.below H2.out.2.1, H2.out.1, ?_, ?_, ?_, below_then H1.out.2.1 H2.out.2.1, ⟨by simp, fun _ => rfl⟩, ⟨by simp, fun _ => rfl⟩⟩
    · rintro k (rfl | hk)
      · rintro (h | h)
        · have := H1.out.2.2; omega
        · simp [Value.ownBlock] at h
      · simp [Value.ownBlock] at hk
    · rintro k (rfl | hk)
      · exact Nat.le_refl _
      · simp [Value.ownBlock] at hk
    · rintro k (rfl | hk)
      · exact H1.out.2.1.size
      · simp [Value.ownBlock] at hk
  have HP := Lib.hid hP
  clear hP H1 H2
  go_loopw [11] (fun i wr => ∃ (k : Nat) (v1 v2 : Value) (rm1 rm2 : List UInt8) (s : LSt), k ≤ n ∧ i = .int .i64 k ∧ XP w wr 69 65 lim w.heap.size v1 rm1 s w1.heap.size v2 rm2 s) (fun i _ => n - (intOf i).toNat)
  case atStart => exact ⟨0, _, _, [], [], ([], false), by omega, rfl, HP.out⟩
  case round =>
    clear HP
    obtain ⟨k, v1, v2, rm1, rm2, s, hk, rfl, hP⟩ := hrel
    have HP := Lib.hid hP
    clear hP
    by_cases hlt : k < n
    · obtain ⟨⟨pA, pn, pc, pl⟩, hp⟩ : ∃ p, xs[k]? = some p := ⟨_, List.getElem?_eq_getElem (by rw [HA.out.2.1]; exact hlt)⟩
      obtain ⟨q1, q2, q3, q4, q5⟩ := HA.out.2.2 _ (List.mem_of_getElem? hp)
      obtain ⟨ad, u, hA, hadlt, hu, hc0⟩ := HA.out.1.at1 hlt
      have hc := (HP.out.bel.cell (p := ad.add k) (by rw [blk_add]; exact hadlt)).trans hc0
      subst hA
      rw [barg_at hp] at hu
      obtain rfl := Option.some.inj hu
      simp only at hc hc0 q1 q2 q3 q4 q5
      have HQ := Lib.hid (And.intro q5 (And.intro q4 (And.intro q2 q1)))
      have hcw : ∀ W, Below w.heap.size w W → W.cell? (ad.add k) = some (.slice pA pn pc) := fun W hb => (hb.cell (by rw [blk_add]; exact hadlt)).trans hc0
      have HCW := Lib.hid hcw
      have hpm : pn ≤ 9223372036854775807 := by simp only [maxLen] at q3; omega
      clear hu hp q1 q2 q3 q4 q5 hcw hc0
      by_cases hbp : 3000 < pn
      · go_wp2_with fail
        go_ret
        exact ⟨rfl, HP.out.bel⟩
      have hpn : pn ≤ 1048576 := by omega
      have hpn2 : pn ≤ 1099511627776 := by omega
      have hpl : pl.length = pn := by have := HQ.out.1.len1; simpa [byt] using this
      have HG := Lib.hid (And.intro (fun j (h : FB w.heap.size v1 j) => HP.out.o.lt j h) (fun j (h : FB w1.heap.size v2 j) => HP.out.r.lt j h))
      obtain ⟨x1, hx1⟩ : ∃ x1, x1 = feedB lim s pl := ⟨_, rfl⟩
      have hx1l : x1.1.length ≤ 9223372036854775807 := by have := feedB_len lim pl s; rw [hx1]; omega
      have hokx : okS lim x1.2 := by rw [hx1]; exact feedB_ok pl HP.out.ok1
      have HX := Lib.hid (And.intro hx1 hokx)
      have hapQ : ∀ ad, pA = some ad → 0 < pn → ad.block < w.heap.size := by
        intro ad e h0
        obtain ⟨ad', e', hb, -⟩ := HQ.out.1.2 h0
        rw [e] at e'
        injection e' with e'
        rw [e']; exact hb
      have HAQ := Lib.hid hapQ
      clear hx1 hokx hapQ
      by_cases hclr : (k : Int) = clr
      · subst hclr
        go_wp2_with (first
          | (go_at_call 32
             refine (lent_any pA pn pc pl wr (HQ.out.1.below HP.out.bel) hpn).mono ?_
             rintro e w3 ⟨rfl, hr3, hb3⟩
             have hlt3 := (hr3.lt _ rfl).2
             have HP3 := Lib.hid (And.intro (HP.out.below hb3) (And.intro hr3 hlt3))
             have hc3 := HCW.out w3 HP3.out.1.bel
             clear hr3 hb3 hlt3)
          | (go_at_call 27
             refine (feed_ok w3 w.heap.size lim v1 s.1 rm1 s.2 (some ⟨wr.heap.size, 0, none⟩) pn (pn + 3) pl (show LR _ _ _ _ _ _ _ from HP3.out.1.o) hlo hhi HP3.out.1.ok1 (by have := HP3.out.2.1.sl; rwa [hpl] at this) (by omega) (by simp) hpn2 (fun ad e _ hf => by injection e with e; subst e; have := HG.out.1 _ hf; simp only at this; omega)).mono ?_
             rw [show feedB lim (s.1, s.2) pl = x1 from HX.out.1.symm]
             rintro e w4 ⟨o4, v1', rm1', rfl, hown4, hr4, hO4, hs4⟩
             obtain ⟨a4, c4, rfl, -, -⟩ := own_form hown4
             have HP4 := Lib.hid (And.intro (HP3.out.1.step1 (w' := w4) (s1' := x1.2) hr4 HX.out.2 hO4 hs4) (And.intro (HP3.out.2.1.only hO4 (fun j hj hf => by have := HG.out.1 j hf; have := (HP3.out.2.1.lt j hj).1; omega)) (And.intro (show LnRow w4 w3 _ _ from hown4) (fun j (h : FB w.heap.size v1' j) => show j ≠ wr.heap.size from by
               rcases h with rfl | h
               · have := HG.out.1 _ (.inl rfl); omega
               · rcases hs4 j h with e | e
                 · have := HG.out.1 _ (.inr e); omega
                 · have := HP3.out.2.2; omega))))
             have hc4 := HCW.out w4 HP4.out.1.bel
             clear hown4 hr4 hO4 hs4)
          | (go_at_call 33
             refine (qfeed_ok w4 w1.heap.size lim v2 s.1 rm2 s.2 pA pn pc pl (show RR _ _ _ _ _ _ _ from HP4.out.1.r) hhi HP4.out.1.ok2 (HQ.out.1.below HP4.out.1.bel) hpn2 (fun ad e h0 hf => by have := HP4.out.1.lo2 _ hf; have := HAQ.out ad e h0; omega)).mono ?_
             rw [show feedB lim (s.1, s.2) pl = x1 from HX.out.1.symm]
             rintro e w5 ⟨o5, v2', rm2', rfl, hown5, hr5, hO5, hs5⟩
             obtain ⟨a5, c5, rfl, -, -⟩ := own_form hown5
             have HP5 := Lib.hid (And.intro (HP4.out.1.step2 (w' := w5) (s2' := x1.2) hr5 HX.out.2 hO5 hs5) (And.intro (HP4.out.2.1.only hO5 (fun j hj hf => by have := HG.out.2 j hf; have := (HP3.out.2.1.lt j hj).1; omega)) (And.intro (ln_keep HP4.out.2.2.1 HP4.out.1.r (by decide) hO5).sl (And.intro (Sl.of_own hown5) (fun j (h : FB w1.heap.size v2' j) => show j ≠ wr.heap.size from by
               rcases h with rfl | h
               · have := HG.out.2 _ (.inl rfl); omega
               · rcases hs5 j h with e | e
                 · have := HG.out.2 _ (.inr e); omega
                 · have := HP4.out.2.1.lt _ rfl; omega)))))
             have hc5 := HCW.out w5 HP5.out.1.bel
             clear hown5 hr5 hO5 hs5)
          | (go_at_call 30
             refine (lines_any a4 a5 _ _ c4 c5 x1.1 x1.1 _ HP5.out.2.2.1 HP5.out.2.2.2.1 hx1l).mono ?_
             rintro e w6 ⟨rfl, dq, hw6⟩
             have hb6 : Below w5.heap.size w5 w6 := by rw [hw6]; exact below_drewN (Below.refl _ _) _
             have HP6 := Lib.hid (And.intro (HP5.out.1.below hb6) (HP5.out.2.1.below hb6))
             have hc6 := HCW.out w6 HP6.out.1.bel
             clear hw6 hb6)
          | (go_at_call 34
             refine (kept_ok (some ⟨wr.heap.size, 0, none⟩) pA pn pc wr.heap.size pl w6 HP6.out.2 (HQ.out.1.below HP6.out.1.bel) hpn).mono ?_
             rintro e w7 ⟨rfl, hb7⟩
             have HP7 := Lib.hid (And.intro (HP6.out.1.below hb7) (HP6.out.2.below hb7))
             clear hb7)
          | (go_at_call 19
             refine (overB_own _ _ _ _ _ HP7.out.2).mono ?_
             rintro e w8 ⟨rfl, hw8⟩
             have HP8 := Lib.hid (HP7.out.1.only hw8 (fun j hj => by
               have hj' : wr.heap.size = j := by simpa [Value.ownBlock] using hj
               exact ⟨fun h => HP4.out.2.2.2 j h hj'.symm, fun h => HP5.out.2.2.2.2 j h hj'.symm, by have := HP.out.bel.size; omega⟩))
             have g1 := HP8.out.r.1.frozen 1
             have g2 := HP8.out.r.1.frozen 2
             have e1 := HP8.out.r.1.cell 1
             have e2 := HP8.out.r.1.cell 2
             simp only [List.getElem?_toArray, List.getElem?_cons_succ, List.getElem?_cons_zero] at e1 e2
             clear hw8)
          | (go_at_call 35
             have HP9 := Lib.hid (HP8.out.step2 (w' := (w8.setCell ⟨w1.heap.size, 1, none⟩ (.slice none 0 0)).setCell ⟨w1.heap.size, 2, none⟩ (.bool false)) (v2' := .slice none 0 0) (rm2' := []) (s2' := ([], false))
               ⟨by have := Blk.set_ (Blk.set_ HP8.out.r.1 1 (.slice none 0 0)) 2 (.bool false); simpa using this, RowB.nil _ _ _⟩ ⟨by simp, fun _ => rfl⟩
               (Only.set (Only.set (Only.refl (FB w1.heap.size v2') w8) (p := ⟨w1.heap.size, 1, none⟩) (.inl (.inl rfl)) _) (p := ⟨w1.heap.size, 2, none⟩) (.inl (.inl rfl)) _)
               (fun j hj => by simp [Value.ownBlock] at hj))
             refine (lclear_ok _ _ _ _ _ _ _ (show LR _ _ _ _ _ _ _ from HP9.out.o) hlo).mono ?_
             rintro e wt ⟨rfl, hr9, hO9⟩
             have HPd := Lib.hid (HP9.out.step1 (w' := wt) (s1' := ([], false)) hr9 ⟨by simp, fun _ => rfl⟩ (hO9.mono (fun i _ h => .inl h)) (fun j hj => by simp [Value.ownBlock] at hj))
             clear hr9 hO9))
        obtain ⟨v1t, v2t, rm1t, rm2t, st, hPt⟩ : ∃ v1 v2 rm1 rm2 st, XP w wt 69 65 lim w.heap.size v1 rm1 st w1.heap.size v2 rm2 st := ⟨_, _, _, _, _, HPd.out⟩
        have HPt := Lib.hid hPt
        clear hPt
        obtain ⟨at2, hv2, hmx2⟩ := HPt.out.r.2.form
        have hSt : wt.cell? ⟨w1.heap.size, 1, none⟩ = some (.slice at2 st.1.length (st.1.length + rm2t.length)) := by rw [← hv2]; exact HPt.out.r.1.cell 1
        have hstl : st.1.length ≤ 65536 := Nat.le_trans HPt.out.ok1.1 hhi
        clear hv2 hmx2
        refine wp_region_planS (fun W => W.cell? ⟨w1.heap.size, 1, none⟩ = some (.slice at2 st.1.length (st.1.length + rm2t.length))) (.take 0 <| .take 2 <| .take 3 <| .take 4 <| .take 5 <| .take 6 <| .run 1 <| .take 7 <| .done) (by kernel_rfl) (by kernel_rfl) (by kernel_rfl) (by kernel_rfl) hSt ?_
        go_wp2_with (first
          | ((with_reducible refine PlanS_isTake ?_); refine PlanS_take (v := ?_) rfl ?_ (fun w hSw => ?_) ?_; rotate_left 1; (focus rfl); (focus ((try dsimp only at hSw); (first | (go_simp; done) | (go_simp; with_reducible rfl)))); simp only [Act.put, List.setIfInBounds_toArray, List.set_cons_zero, List.set_cons_succ]) | ((with_reducible refine PlanS_isTake ?_); refine PlanS_skip rfl ?_ ?_; (focus rfl); simp only [Act.put, List.setIfInBounds_toArray, List.set_cons_zero, List.set_cons_succ]) | ((with_reducible refine PlanS_isRun ?_); refine PlanS_run rfl (fun K hK => ?_); go_simp) | ((with_reducible refine And.intro ?_ (PlanS_is ?_)); (focus (exact hSt))) | ((with_reducible refine PlanS_alt ?_ ?_)) | ((with_reducible refine PlanS_done ?_))
          | (go_at_call 29
             refine (lpending_ok (World.drew wt) _ _ _ _ _ _ (show LR _ _ _ _ _ _ _ from (HPt.out.below (Below.refl _ _).drew).o) hlo).mono ?_
             rintro e w' ⟨rfl, rfl⟩))
        go_roundw
        case rel => exact ⟨k + 1, v1t, v2t, rm1t, rm2t, st, by omega, by go_num, HPt.out.below (below_drewN (Below.refl _ _) _)⟩
        case measure => simp [intOf]; omega
      · have hcb : ((k : Int) == clr) = false := by simpa using hclr
        clear hclr
        go_wp2_with (first
          | (go_at_call 32
             refine (lent_any pA pn pc pl wr (HQ.out.1.below HP.out.bel) hpn).mono ?_
             rintro e w3 ⟨rfl, hr3, hb3⟩
             have hlt3 := (hr3.lt _ rfl).2
             have HP3 := Lib.hid (And.intro (HP.out.below hb3) (And.intro hr3 hlt3))
             have hc3 := HCW.out w3 HP3.out.1.bel
             clear hr3 hb3 hlt3)
          | (go_at_call 27
             refine (feed_ok w3 w.heap.size lim v1 s.1 rm1 s.2 (some ⟨wr.heap.size, 0, none⟩) pn (pn + 3) pl (show LR _ _ _ _ _ _ _ from HP3.out.1.o) hlo hhi HP3.out.1.ok1 (by have := HP3.out.2.1.sl; rwa [hpl] at this) (by omega) (by simp) hpn2 (fun ad e _ hf => by injection e with e; subst e; have := HG.out.1 _ hf; simp only at this; omega)).mono ?_
             rw [show feedB lim (s.1, s.2) pl = x1 from HX.out.1.symm]
             rintro e w4 ⟨o4, v1', rm1', rfl, hown4, hr4, hO4, hs4⟩
             obtain ⟨a4, c4, rfl, -, -⟩ := own_form hown4
             have HP4 := Lib.hid (And.intro (HP3.out.1.step1 (w' := w4) (s1' := x1.2) hr4 HX.out.2 hO4 hs4) (And.intro (HP3.out.2.1.only hO4 (fun j hj hf => by have := HG.out.1 j hf; have := (HP3.out.2.1.lt j hj).1; omega)) (And.intro (show LnRow w4 w3 _ _ from hown4) (fun j (h : FB w.heap.size v1' j) => show j ≠ wr.heap.size from by
               rcases h with rfl | h
               · have := HG.out.1 _ (.inl rfl); omega
               · rcases hs4 j h with e | e
                 · have := HG.out.1 _ (.inr e); omega
                 · have := HP3.out.2.2; omega))))
             have hc4 := HCW.out w4 HP4.out.1.bel
             clear hown4 hr4 hO4 hs4)
          | (go_at_call 33
             refine (qfeed_ok w4 w1.heap.size lim v2 s.1 rm2 s.2 pA pn pc pl (show RR _ _ _ _ _ _ _ from HP4.out.1.r) hhi HP4.out.1.ok2 (HQ.out.1.below HP4.out.1.bel) hpn2 (fun ad e h0 hf => by have := HP4.out.1.lo2 _ hf; have := HAQ.out ad e h0; omega)).mono ?_
             rw [show feedB lim (s.1, s.2) pl = x1 from HX.out.1.symm]
             rintro e w5 ⟨o5, v2', rm2', rfl, hown5, hr5, hO5, hs5⟩
             obtain ⟨a5, c5, rfl, -, -⟩ := own_form hown5
             have HP5 := Lib.hid (And.intro (HP4.out.1.step2 (w' := w5) (s2' := x1.2) hr5 HX.out.2 hO5 hs5) (And.intro (HP4.out.2.1.only hO5 (fun j hj hf => by have := HG.out.2 j hf; have := (HP3.out.2.1.lt j hj).1; omega)) (And.intro (ln_keep HP4.out.2.2.1 HP4.out.1.r (by decide) hO5).sl (And.intro (Sl.of_own hown5) (fun j (h : FB w1.heap.size v2' j) => show j ≠ wr.heap.size from by
               rcases h with rfl | h
               · have := HG.out.2 _ (.inl rfl); omega
               · rcases hs5 j h with e | e
                 · have := HG.out.2 _ (.inr e); omega
                 · have := HP4.out.2.1.lt _ rfl; omega)))))
             have hc5 := HCW.out w5 HP5.out.1.bel
             clear hown5 hr5 hO5 hs5)
          | (go_at_call 30
             refine (lines_any a4 a5 _ _ c4 c5 x1.1 x1.1 _ HP5.out.2.2.1 HP5.out.2.2.2.1 hx1l).mono ?_
             rintro e w6 ⟨rfl, dq, hw6⟩
             have hb6 : Below w5.heap.size w5 w6 := by rw [hw6]; exact below_drewN (Below.refl _ _) _
             have HP6 := Lib.hid (And.intro (HP5.out.1.below hb6) (HP5.out.2.1.below hb6))
             have hc6 := HCW.out w6 HP6.out.1.bel
             clear hw6 hb6)
          | (go_at_call 34
             refine (kept_ok (some ⟨wr.heap.size, 0, none⟩) pA pn pc wr.heap.size pl w6 HP6.out.2 (HQ.out.1.below HP6.out.1.bel) hpn).mono ?_
             rintro e w7 ⟨rfl, hb7⟩
             have HP7 := Lib.hid (And.intro (HP6.out.1.below hb7) (HP6.out.2.below hb7))
             clear hb7)
          | (go_at_call 19
             refine (overB_own _ _ _ _ _ HP7.out.2).mono ?_
             rintro e w8 ⟨rfl, hw8⟩
             have HP8 := Lib.hid (HP7.out.1.only hw8 (fun j hj => by
               have hj' : wr.heap.size = j := by simpa [Value.ownBlock] using hj
               exact ⟨fun h => HP4.out.2.2.2 j h hj'.symm, fun h => HP5.out.2.2.2.2 j h hj'.symm, by have := HP.out.bel.size; omega⟩))
             have g1 := HP8.out.r.1.frozen 1
             have g2 := HP8.out.r.1.frozen 2
             have e1 := HP8.out.r.1.cell 1
             have e2 := HP8.out.r.1.cell 2
             simp only [List.getElem?_toArray, List.getElem?_cons_succ, List.getElem?_cons_zero] at e1 e2
             clear hw8)
        )
        obtain ⟨v1t, v2t, rm1t, rm2t, st, hPt⟩ : ∃ v1 v2 rm1 rm2 st, XP w w8 69 65 lim w.heap.size v1 rm1 st w1.heap.size v2 rm2 st := ⟨_, _, _, _, _, HP8.out⟩
        have HPt := Lib.hid hPt
        clear hPt
        obtain ⟨at2, hv2, hmx2⟩ := HPt.out.r.2.form
        have hSt : w8.cell? ⟨w1.heap.size, 1, none⟩ = some (.slice at2 st.1.length (st.1.length + rm2t.length)) := by rw [← hv2]; exact HPt.out.r.1.cell 1
        have hstl : st.1.length ≤ 65536 := Nat.le_trans HPt.out.ok1.1 hhi
        clear hv2 hmx2
        refine wp_region_planS (fun W => W.cell? ⟨w1.heap.size, 1, none⟩ = some (.slice at2 st.1.length (st.1.length + rm2t.length))) (.take 0 <| .take 2 <| .take 3 <| .take 4 <| .take 5 <| .take 6 <| .run 1 <| .take 7 <| .done) (by kernel_rfl) (by kernel_rfl) (by kernel_rfl) (by kernel_rfl) hSt ?_
        go_wp2_with (first
          | ((with_reducible refine PlanS_isTake ?_); refine PlanS_take (v := ?_) rfl ?_ (fun w hSw => ?_) ?_; rotate_left 1; (focus rfl); (focus ((try dsimp only at hSw); (first | (go_simp; done) | (go_simp; with_reducible rfl)))); simp only [Act.put, List.setIfInBounds_toArray, List.set_cons_zero, List.set_cons_succ]) | ((with_reducible refine PlanS_isTake ?_); refine PlanS_skip rfl ?_ ?_; (focus rfl); simp only [Act.put, List.setIfInBounds_toArray, List.set_cons_zero, List.set_cons_succ]) | ((with_reducible refine PlanS_isRun ?_); refine PlanS_run rfl (fun K hK => ?_); go_simp) | ((with_reducible refine And.intro ?_ (PlanS_is ?_)); (focus (exact hSt))) | ((with_reducible refine PlanS_alt ?_ ?_)) | ((with_reducible refine PlanS_done ?_))
          | (go_at_call 29
             refine (lpending_ok (World.drew w8) _ _ _ _ _ _ (show LR _ _ _ _ _ _ _ from (HPt.out.below (Below.refl _ _).drew).o) hlo).mono ?_
             rintro e w' ⟨rfl, rfl⟩))
        go_roundw
        case rel => exact ⟨k + 1, v1t, v2t, rm1t, rm2t, st, by omega, by go_num, HPt.out.below (below_drewN (Below.refl _ _) _)⟩
        case measure => simp [intOf]; omega
    · go_wp2_with fail
      go_ret
      exact ⟨rfl, HP.out.bel⟩

namespace lineScript
set_option linter.unusedVariables false
open Go.ChangeShapes Go.WideShapes Go.ChangeAt Go.RowKit Go.As
theorem own : ownKnob Try.prog.godebug = none := by kernel_rfl
theorem laidOut : laidOutB Try.prog = true := by kernel_rfl
set_option maxRecDepth 100000 in
theorem lifted (os : Os) (started : os.Started) (H : Type) (enc : TypeId × Value → H) :
    ReturnsInHanded {} Try.checked os 7 .any (Rows.lineScriptSpec.pre6 enc Try.prog Try.f7 Rows.lineScriptRow.domain false) (Rows.lineScriptSpec.post enc Try.prog Try.f7 false true false false) := by
  refine returnsInHanded_of_change (C := Try.checked) own started (by kernel_rfl) Try.func7
    (ChangeSpec.witness6 (enc := enc) (C := Try.checked) false ⟨#[], #[.int .i64 0, .slice none 0 0, .int .i64 0], []⟩ 8 (by kernel_rfl) (by kernel_rfl) (by kernel_rfl) (by kernel_rfl)) ?_
  intro W base args ds gs before hval0 hW hcnd _
  have hval : ∀ (j : Nat) t v, Try.f7.params[j]? = some t → args[j]? = some v → Value.okWide Try.prog W .any base t v := hval0
  have hW' := hW
  obtain ⟨p, q, hA0, hV, hpq, hfz, hnd⟩ := hW
  have hA : DataW.TrodAll enc Try.prog W 0 (fun _ => true) true Try.f7.params.toList args.toList ds p := hA0
  have hlt : ∀ x ∈ p, x.block < W.heap.size := fun x hx => hW'.lt x (by rw [hpq]; exact List.mem_append_left _ hx)
  rw [Try.params7] at hA hval
  obtain ⟨v0, vs0, d0, ds0, p0, q0, hargs, rfl, hp0, h0, r0⟩ := trodAll_cons hA
  obtain ⟨v1, vs1, d1, ds1, p1, q1, rfl, rfl, hp1, h1, r1⟩ := trodAll_cons r0
  obtain ⟨v2, vs2, d2, ds2, p2, q2, rfl, rfl, hp2, h2, r2⟩ := trodAll_cons r1
  obtain ⟨rfl, rfl, hpn⟩ := trodAll_nil r2
  obtain rfl : args = #[v0, v1, v2] := by cases args; simp_all
  obtain ⟨rfl, rfl⟩ := trodVars_none hV
  obtain ⟨a0, rfl, rfl, -, w0⟩ := open_int Try.underlying3 (hval 0 3 v0 rfl rfl) h0
  obtain ⟨x1, rfl, o1⟩ := bytess_open (hval 1 _ v1 rfl rfl) h1 (fun x hx => hlt x (by simp_all))
  obtain ⟨a2, rfl, rfl, -, w2⟩ := open_int Try.underlying3 (hval 2 3 v2 rfl rfl) h2
  refine (lineScript_walk a0 w0 x1 W o1 a2 w2).mono fun e W' ⟨he, hg⟩ => ?_
  subst he
  exact ⟨_, rfl, law_post (T := 4) laidOut (by kernel_rfl) Try.underlying4 rfl rfl hW' rfl rfl rfl hg⟩
theorem over : Rows.lineScriptRow.holds Try.pinned (OpenSpec.ofChange Rows.lineScriptSpec) :=
  OpenClaim.holds_of_wide 7 Try.f7 rfl rfl rfl rfl rfl rfl rfl ⟨rfl, rfl, rfl, rfl, rfl⟩ rfl rfl rfl rfl rfl (by kernel_rfl) Try.func7 (by kernel_rfl)
    (of_decide_eq_true (by kernel_rfl)) (by unfold Func.isWrapper; rw [if_neg (of_decide_eq_false (by kernel_rfl))]; exact ⟨rfl, rfl⟩)
    (fun os started H enc _ => lifted os started H enc)
/-- the statement -/
theorem proved : Rows.LineScriptSaid := over
#print axioms proved
end lineScript
end Go.Proofs.Ytnkbjjnopbmfnaa
