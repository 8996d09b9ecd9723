/- The law OutScript: a buffer answers any calls as the document says; every input. -/
import Derived.Test.YtnkbjjnopbmfnaaOPair
import Derived.Test.YtnkbjjnopbmfnaaOActs
import Derived.Deep.DeepCutAuto
import Derived.Deep.CutBlock
namespace Go.Proofs.Ytnkbjjnopbmfnaa
open Go.RowKit Go.As
set_option linter.unusedVariables false


set_option maxRecDepth 100000 in
set_option maxHeartbeats 3200000 in
theorem outScript_go (limit : Int) (A : Option Addr) (n c : Nat) (acts : List (Int × List UInt8 × Int)) (w : World) (ha : Sl w 3 A n (acts.flatMap oactC)) (hl : acts.length = n) (hn : n ≤ maxLen) :
    Calls Try.prog 3 #[.int .i64 limit, .slice A n c] w fun e w' => e = .returned (.bool true) ∧ Below w.heap.size w w' := by
  unfold maxLen at hn
  by_cases hbig : 100 < n
  · go_enter Try.func3, Try.ntmps3
    go_wp2_with fail
    go_ret
    exact ⟨rfl, Below.refl _ _⟩
  by_cases hbad : limit < 64 ∨ 1048576 < limit
  · have HB := Lib.hid hbad
    clear hbad
    go_enter Try.func3, Try.ntmps3
    go_wp2_with (first
      | (go_at_call 12; refine (onew_bad _ _ HB.out).mono ?_; rintro e w' ⟨rfl, rfl⟩)
      | (go_at_call 13; refine (rnew_bad _ _ HB.out).mono ?_; rintro e w' ⟨rfl, rfl⟩))
    go_loopw [9] (fun i wr => i = .int .i64 0 ∧ wr = w) (fun i _ => 0)
    case atStart => exact ⟨rfl, rfl⟩
    case round =>
      obtain ⟨rfl, rfl⟩ := hrel
      go_wp2_with fail
      go_ret
      exact ⟨rfl, Below.refl _ _⟩
  obtain ⟨lim, rfl⟩ : ∃ lim : Nat, limit = lim := ⟨limit.toNat, by omega⟩
  have hlo : 64 ≤ lim := by omega
  have hhi : lim ≤ 1048576 := by omega
  have HA := Lib.hid ha
  have HL := Lib.hid hl
  clear ha hl hbad
  go_enter Try.func3, Try.ntmps3
  go_wp2_with (first
    | (go_at_call 12; refine (onew_ok lim _ hlo hhi).mono ?_; rintro e w1 ⟨rfl, ho1, hb1, hz1⟩; have H1 := Lib.hid (And.intro ho1 (And.intro hb1 hz1)); clear ho1 hb1 hz1)
    | (go_at_call 13; refine (rnew_ok lim _ hlo hhi).mono ?_; rintro e w2 ⟨rfl, ho2, hb2, hz2⟩; have H2 := Lib.hid (And.intro ho2 (And.intro hb2 hz2)); clear ho2 hb2 hz2))
  have hP : OPair w w2 lim w.heap.size (.slice none 0 0) [] [] [] 0 false w1.heap.size (.slice none 0 0) [] [] 0 false := by
    refine ⟨H1.out.1.below H2.out.2.1, H2.out.1, ?_, ?_, ?_, below_then H1.out.2.1 H2.out.2.1⟩
    · rintro k (rfl | hk)
      · rintro (h | h)
        · have := H1.out.2.2; omega
        · simp [Value.ownBlock] at h
      · simp [Value.ownBlock] at hk
    · rintro k (rfl | hk)
      · exact Nat.le_refl _
      · simp [Value.ownBlock] at hk
    · rintro k (rfl | hk)
      · exact H1.out.2.1.size
      · simp [Value.ownBlock] at hk
  have HP := Lib.hid hP
  clear hP H1 H2
  go_loopw [9] (fun i wr => ∃ (k : Nat) (l : List UInt8) (t : Nat) (o : Bool) (v1 v2 : Value) (pre rm1 rm2 : List UInt8), k ≤ n ∧ i = .int .i64 k ∧ OPair w wr lim w.heap.size v1 pre rm1 l t o w1.heap.size v2 rm2 l t o ∧ l.length ≤ lim ∧ pre.length ≤ k * 1048576 ∧ t ≤ k * 1048576) (fun i _ => n - (intOf i).toNat)
  case atStart => exact ⟨0, [], 0, false, _, _, [], [], [], by omega, rfl, HP.out, by simp, by simp, by simp⟩
  case round =>
    clear HP
    obtain ⟨k, l, t, o, v1, v2, pre, rm1, rm2, hk, rfl, hpair, hll, hpre, ht⟩ := hrel
    have hsz := hpair.bel.size
    have HP := Lib.hid hpair
    have HN := Lib.hid (And.intro hll (And.intro hpre ht))
    have HN2 := Lib.hid (show pre.length ≤ (k + 1) * 1048576 ∧ t ≤ (k + 1) * 1048576 by omega)
    clear hpair
    by_cases hlt : k < n
    · obtain ⟨ad, u, hA, -, -, -⟩ := (HA.out.below HP.out.bel).at_ hlt (show 0 < 3 by omega)
      obtain ⟨p, hp⟩ : ∃ p, acts[k]? = some p := ⟨_, List.getElem?_eq_getElem (by rw [HL.out]; exact hlt)⟩
      obtain ⟨kind, line, num⟩ := p
      have hcells := ((HA.out.below HP.out.bel).2 (by omega))
      obtain ⟨ad', hA', hadlt, hcell⟩ := hcells
      rw [hA] at hA'
      obtain rfl : ad = ad' := Option.some.inj hA'
      have c0 := hcell (k * 3 + 0) _ (flat_at oactC 3 oactC_len hp 0 (by omega))
      have c1 := hcell (k * 3 + 1) _ (flat_at oactC 3 oactC_len hp 1 (by omega))
      have c2 := hcell (k * 3 + 2) _ (flat_at oactC 3 oactC_len hp 2 (by omega))
      rw [← add_add'] at c0 c1 c2
      have c1b : wr.cell? ⟨(ad.add (k * 3)).block, (ad.add (k * 3)).off + 1, none⟩ = some (.string (str line)) := by simpa [Addr.add] using c1
      have c2b : wr.cell? ⟨(ad.add (k * 3)).block, (ad.add (k * 3)).off + 2, none⟩ = some (.int .i64 num) := by simpa [Addr.add] using c2
      have c0c : wr.cell? (ad.add (k * 3)) = some (.int .i64 kind) := by simpa [Addr.add] using c0
      subst hA
      clear hp hA' hcell c0 c1 c2
      by_cases hline : 3000 < line.length
      · go_wp2_with fail
        go_ret
        exact ⟨rfl, below_then HP.out.bel ((Below.refl _ _).alloc (Nat.le_refl _) _)⟩
      have hline2 : line.length ≤ 3000 := by omega
      have HP0 := Lib.hid (HP.out.below ((Below.refl wr.heap.size wr).alloc (Nat.le_refl _) (.cells #[.int .i64 kind, .string (str line), .int .i64 num] 31)))
      have HB0 := Lib.hid (Blk.new wr 31 #[.int .i64 kind, .string (str line), .int .i64 num])
      have hg1 : ¬ FB w.heap.size v1 wr.heap.size := fun h => by have := HP.out.o.lt _ h; omega
      have hg2 : ¬ FB w1.heap.size v2 wr.heap.size := fun h => by have := HP.out.r.lt _ h; omega
      have HG := Lib.hid (And.intro hg1 hg2)
      clear hg1 hg2
      by_cases k0 : kind = 0
      · subst k0
        have hS0 := HB0.out.cell 1
        simp only [List.getElem?_toArray, List.getElem?_cons_succ, List.getElem?_cons_zero] at hS0
        go_wp2_with fail
        refine wp_region_planS (fun W => W.cell? ⟨wr.heap.size, 1, none⟩ = some (.string (str line))) (.take 0 <| .take 1 <| .take 2 <| .take 4 <| .take 5 <| .take 6 <| .run 3 <| .run 7 <| .take 8 <| .done) (by kernel_rfl) (by kernel_rfl) (by kernel_rfl) (by kernel_rfl) hS0 ?_
        go_wp2_with (first
          | ((with_reducible refine PlanS_isTake ?_); refine PlanS_take (v := ?_) rfl ?_ (fun w hSw => ?_) ?_; rotate_left 1; (focus rfl); (focus ((try dsimp only at hSw); (first | (go_simp; done) | (go_simp; with_reducible rfl)))); simp only [Act.put, List.setIfInBounds_toArray, List.set_cons_zero, List.set_cons_succ]) | ((with_reducible refine PlanS_isTake ?_); refine PlanS_skip rfl ?_ ?_; (focus rfl); simp only [Act.put, List.setIfInBounds_toArray, List.set_cons_zero, List.set_cons_succ]) | ((with_reducible refine PlanS_isRun ?_); refine PlanS_run rfl (fun K hK => ?_); go_simp) | ((with_reducible refine And.intro ?_ (PlanS_is ?_)); (focus ((first | exact HB4.out.cell 1 | exact HB3.out.cell 1)))) | ((with_reducible refine PlanS_alt ?_ ?_)) | ((with_reducible refine PlanS_done ?_))
          | (go_at_call 14
             refine (oput_ok _ _ _ _ _ _ _ _ _ line (by exact HP0.out.drew.o) hlo hhi HN.out.1 (by have := HN.out.2.1; omega) (by omega)).mono ?_
             rintro e w3 ⟨rfl, v1', pre', rm1', hr3, hp3, ho3, hs3⟩
             have HP3 := Lib.hid (HP0.out.drew.stepO hr3 ho3 hs3)
             have HB3 := Lib.hid (Blk.only (w := (wr.alloc (.cells #[.int .i64 0, .string (str line), .int .i64 num] 31)).drew) HB0.out ho3 HG.out.1)
             have HN3 := Lib.hid hp3
             clear hr3 ho3 hs3 hp3)
          | (go_at_call 15
             refine (rput_ok _ _ _ _ _ _ _ _ line HP3.out.r hhi HN.out.1 (by omega)).mono ?_
             rintro e w4 ⟨rfl, v2', rm2', hr4, ho4, hs4⟩
             have HP4 := Lib.hid (HP3.out.stepR hr4 ho4 hs4)
             have HB4 := Lib.hid (HB3.out.only ho4 HG.out.2)
             clear hr4 ho4 hs4))
        have hNN : (putE lim l o line).2.1.length ≤ lim ∧ pre'.length ≤ (k + 1) * 1048576 ∧ t ≤ (k + 1) * 1048576 := ⟨putE_le _ _ _ _ HN.out.1, Nat.le_trans HN3.out HN2.out.1, HN2.out.2⟩
        generalize (putE lim l o line).2.1 = l' at *
        generalize (putE lim l o line).2.2 = o' at *
        obtain ⟨t', ht'⟩ : ∃ t', t' = t := ⟨_, rfl⟩
        rw [← ht'] at HP4 hNN
        obtain ⟨wt, hwt⟩ : ∃ wt, wt = w4 := ⟨_, rfl⟩
        rw [← hwt] at HP4
        rw [← hwt]
        have HPt := HP4
        have HN' := Lib.hid hNN
        clear hNN HP4 HB4 HP3 HB3 hwt ht'
        have hSt : wt.cell? ⟨w1.heap.size, 1, none⟩ = some (.int .i64 t') ∧ wt.cell? ⟨w1.heap.size, 2, none⟩ = some v2' ∧ wt.cell? ⟨w1.heap.size, 3, none⟩ = some (.bool o') := ⟨HPt.out.r.1.cell 1, HPt.out.r.1.cell 2, HPt.out.r.1.cell 3⟩
        obtain ⟨at2, hv2, hmx2⟩ := HPt.out.r.2.form
        rw [hv2] at hSt
        go_wp2_with fail
        refine wp_region_planS (fun W => W.cell? ⟨w1.heap.size, 1, none⟩ = some (.int .i64 t') ∧ W.cell? ⟨w1.heap.size, 2, none⟩ = some (.slice at2 l'.length (l'.length + rm2'.length)) ∧ W.cell? ⟨w1.heap.size, 3, none⟩ = some (.bool o')) (.take 0 <| .take 2 <| .take 3 <| .take 4 <| .take 5 <| .take 6 <| .run 1 <| .take 7 <| .take 8 <| .take 9 <| .take 11 <| .take 12 <| .take 13 <| .take 14 <| .run 10 <| .take 15 <| .take 16 <| .take 17 <| .take 18 <| .take 20 <| .take 21 <| .take 22 <| .take 23 <| .run 19 <| .take 24 <| .take 25 <| .done) (by kernel_rfl) (by kernel_rfl) (by kernel_rfl) (by kernel_rfl) hSt ?_
        go_wp2_with (first
          | ((with_reducible refine PlanS_isTake ?_); refine PlanS_take (v := ?_) rfl ?_ (fun w hSw => ?_) ?_; rotate_left 1; (focus rfl); (focus ((try dsimp only at hSw); (first | (go_simp; done) | (go_simp; with_reducible rfl)))); simp only [Act.put, List.setIfInBounds_toArray, List.set_cons_zero, List.set_cons_succ]) | ((with_reducible refine PlanS_isTake ?_); refine PlanS_skip rfl ?_ ?_; (focus rfl); simp only [Act.put, List.setIfInBounds_toArray, List.set_cons_zero, List.set_cons_succ]) | ((with_reducible refine PlanS_isRun ?_); refine PlanS_run rfl (fun K hK => ?_); go_simp) | ((with_reducible refine And.intro ?_ (PlanS_is ?_)); (focus (exact hSt))) | ((with_reducible refine PlanS_alt ?_ ?_)) | ((with_reducible refine PlanS_done ?_))
          | (go_at_call 20; refine (olen_ok (World.drew wt) _ _ _ _ _ _ _ _ (by exact HPt.out.drew.o) hlo).mono ?_; rintro e w' ⟨rfl, dn, rfl⟩)
          | (go_at_call 21; refine (ototal_ok _ _ _ _ _ _ _ _ _ (by exact HPt.out.drew.o) hlo).mono ?_; rintro e w' ⟨rfl, rfl⟩)
          | (go_at_call 22; refine (oover_ok _ _ _ _ _ _ _ _ _ (by exact HPt.out.drew.o) hlo).mono ?_; rintro e w' ⟨rfl, rfl⟩))
        go_roundw
        case rel => exact ⟨k + 1, l', t', o', v1', v2', pre', rm1', rm2', by omega, by go_num, HPt.out.below (below_drewN (Below.refl _ _) _), HN'.out.1, HN'.out.2.1, HN'.out.2.2⟩
        case measure => simp [intOf]; omega
      · have kb : (kind == 0) = false := by simpa using k0
        clear k0
        by_cases hneg : num < 0
        · go_wp2_with (first
            | (go_at_call 16
               refine (odrain_bad _ _ _ _ _ _ _ _ _ num (by exact HP0.out.o) hlo hneg).mono ?_
               rintro e w' ⟨rfl, rfl⟩)
            | (go_at_call 17
               refine (rdrain_bad _ _ num hneg).mono ?_
               rintro e w' ⟨rfl, rfl⟩)
            | (go_at_call 18
               refine (sameBytes_any none none 0 0 0 0 [] [] _ (Sl.empty _ _ _) (Sl.empty _ _ _)).mono ?_
               rintro e w' ⟨rfl, rfl⟩)
            | (go_at_call 19
               refine (overB_own 0 _ [] [] _ (RowB.nil _ _ _)).mono ?_
               rintro e wt ⟨rfl, hwt⟩
               have HPt := Lib.hid (HP0.out.only hwt (fun j hj => by simp [Value.ownBlock] at hj))
               clear hwt))
          obtain ⟨l', hl'⟩ : ∃ l', l' = l := ⟨_, rfl⟩
          obtain ⟨t', ht'⟩ : ∃ t', t' = t := ⟨_, rfl⟩
          obtain ⟨o', ho'⟩ : ∃ o', o' = o := ⟨_, rfl⟩
          obtain ⟨v1', hv1'⟩ : ∃ v', v' = v1 := ⟨_, rfl⟩
          obtain ⟨v2', hv2'⟩ : ∃ v', v' = v2 := ⟨_, rfl⟩
          obtain ⟨pre', hpre'⟩ : ∃ v', v' = pre := ⟨_, rfl⟩
          obtain ⟨rm1', hrm1'⟩ : ∃ v', v' = rm1 := ⟨_, rfl⟩
          obtain ⟨rm2', hrm2'⟩ : ∃ v', v' = rm2 := ⟨_, rfl⟩
          have HN' := Lib.hid (show l'.length ≤ lim ∧ pre'.length ≤ (k + 1) * 1048576 ∧ t' ≤ (k + 1) * 1048576 by rw [hl', hpre', ht']; exact ⟨HN.out.1, HN2.out⟩)
          rw [← hl', ← ht', ← ho', ← hv1', ← hv2', ← hpre', ← hrm1', ← hrm2'] at HPt
          clear hl' ht' ho' hv1' hv2' hpre' hrm1' hrm2'
          have hSt : wt.cell? ⟨w1.heap.size, 1, none⟩ = some (.int .i64 t') ∧ wt.cell? ⟨w1.heap.size, 2, none⟩ = some v2' ∧ wt.cell? ⟨w1.heap.size, 3, none⟩ = some (.bool o') := ⟨HPt.out.r.1.cell 1, HPt.out.r.1.cell 2, HPt.out.r.1.cell 3⟩
          obtain ⟨at2, hv2, hmx2⟩ := HPt.out.r.2.form
          rw [hv2] at hSt
          go_wp2_with fail
          refine wp_region_planS (fun W => W.cell? ⟨w1.heap.size, 1, none⟩ = some (.int .i64 t') ∧ W.cell? ⟨w1.heap.size, 2, none⟩ = some (.slice at2 l'.length (l'.length + rm2'.length)) ∧ W.cell? ⟨w1.heap.size, 3, none⟩ = some (.bool o')) (.take 0 <| .take 2 <| .take 3 <| .take 4 <| .take 5 <| .take 6 <| .run 1 <| .take 7 <| .take 8 <| .take 9 <| .take 11 <| .take 12 <| .take 13 <| .take 14 <| .run 10 <| .take 15 <| .take 16 <| .take 17 <| .take 18 <| .take 20 <| .take 21 <| .take 22 <| .take 23 <| .run 19 <| .take 24 <| .take 25 <| .done) (by kernel_rfl) (by kernel_rfl) (by kernel_rfl) (by kernel_rfl) hSt ?_
          go_wp2_with (first
            | ((with_reducible refine PlanS_isTake ?_); refine PlanS_take (v := ?_) rfl ?_ (fun w hSw => ?_) ?_; rotate_left 1; (focus rfl); (focus ((try dsimp only at hSw); (first | (go_simp; done) | (go_simp; with_reducible rfl)))); simp only [Act.put, List.setIfInBounds_toArray, List.set_cons_zero, List.set_cons_succ]) | ((with_reducible refine PlanS_isTake ?_); refine PlanS_skip rfl ?_ ?_; (focus rfl); simp only [Act.put, List.setIfInBounds_toArray, List.set_cons_zero, List.set_cons_succ]) | ((with_reducible refine PlanS_isRun ?_); refine PlanS_run rfl (fun K hK => ?_); go_simp) | ((with_reducible refine And.intro ?_ (PlanS_is ?_)); (focus (exact hSt))) | ((with_reducible refine PlanS_alt ?_ ?_)) | ((with_reducible refine PlanS_done ?_))
            | (go_at_call 20; refine (olen_ok (World.drew wt) _ _ _ _ _ _ _ _ (by exact HPt.out.drew.o) hlo).mono ?_; rintro e w' ⟨rfl, dn, rfl⟩)
            | (go_at_call 21; refine (ototal_ok _ _ _ _ _ _ _ _ _ (by exact HPt.out.drew.o) hlo).mono ?_; rintro e w' ⟨rfl, rfl⟩)
            | (go_at_call 22; refine (oover_ok _ _ _ _ _ _ _ _ _ (by exact HPt.out.drew.o) hlo).mono ?_; rintro e w' ⟨rfl, rfl⟩))
          go_roundw
          case rel => exact ⟨k + 1, l', t', o', v1', v2', pre', rm1', rm2', by omega, by go_num, HPt.out.below (below_drewN (Below.refl _ _) _), HN'.out.1, HN'.out.2.1, HN'.out.2.2⟩
          case measure => simp [intOf]; omega
        · have hpos : 0 ≤ num := by omega
          have hll2 : l.length ≤ 1048576 := by omega
          have hpre2 : pre.length ≤ 1099511627776 := by omega
          have ht2 : t ≤ 1099511627776 := by omega
          have hdl : (l.drop num.toNat).length ≤ lim := by rw [List.length_drop]; omega
          have hpl : (pre ++ l.take num.toNat).length ≤ (k + 1) * 1048576 := by rw [List.length_append, List.length_take]; omega
          have htl : t + min num.toNat l.length ≤ (k + 1) * 1048576 := by omega
          have HN3 := Lib.hid (And.intro hdl (And.intro hpl htl))
          clear hdl hpl htl
          go_wp2_with (first
            | (go_at_call 16
               refine (odrain_ok _ _ _ _ _ _ _ _ _ num (by exact HP0.out.o) hlo hhi hll hpre2 ht2 hpos).mono ?_
               rintro e w3 ⟨x, xrm, rfl, hx, ho3, hO3⟩
               obtain ⟨xa, xn, xc, rfl, hxn, -, -⟩ := hx.form2
               have HX := Lib.hid (And.intro hx hxn)
               have HP3 := Lib.hid (HP0.out.stepO ho3 (hO3.mono (fun i _ h => .inl h)) (SameOrNew.rfl _ _))
               have HB3 := Lib.hid (HB0.out.only hO3 (fun e => HG.out.1 (.inl e)))
               have e2 := HB3.out.cell 2
               simp only [List.getElem?_toArray, List.getElem?_cons_succ, List.getElem?_cons_zero] at e2
               clear hx hxn ho3 hO3)
            | (go_at_call 17
               refine (rdrain_ok _ _ _ _ _ _ _ _ num HP3.out.r hll2 ht2 hpos).mono ?_
               rintro e w4 ⟨y, yrm, v2', rm2', rfl, hy, hr4, hO4, hnew, hya⟩
               obtain ⟨ya, yn, yc, rfl, hyn, -, -⟩ := hy.form2
               have hHX := HX.out.1.only hO4 (fun j hj e => by
                 have h1 := (HX.out.1.lt j hj).1
                 have h2 := HP0.out.r.1.lt
                 omega)
               have HP4 := Lib.hid (HP3.out.stepR hr4 (hO4.mono (fun i _ h => .inl h)) (fun j hj => .inr (hnew j hj)))
               have HY := Lib.hid (And.intro (And.intro hHX (And.intro hy hyn)) (And.intro hnew (hO4.mono (G := FB w1.heap.size v2) (fun i _ h => .inl h))))
               clear hy hyn hr4 hO4 hnew hya hHX)
            | (go_at_call 18
               refine (sameBytes_any xa ya xn yn xc yc (l.take num.toNat) (l.take num.toNat) _ (by rw [HX.out.2]; exact HY.out.1.1.sl) (by rw [HY.out.1.2.2]; exact HY.out.1.2.1.sl)).mono ?_
               rintro e w' ⟨rfl, rfl⟩)
            | (go_at_call 19
               refine (overB_own _ _ _ _ _ HY.out.1.1).mono ?_
               rintro e wt ⟨rfl, hwt⟩
               have hPt := HP4.out.only hwt (fun j hj => by
                 have h1 := HX.out.1.lt j hj
                 have h3 := HP0.out.bel.size
                 refine ⟨?_, ?_, by omega⟩
                 · intro hf
                   have := HP0.out.o.lt j hf
                   omega
                 · rintro (rfl | hf)
                   · have := HP0.out.r.1.lt; omega
                   · have := HY.out.2.1 j hf; omega)
               have HPt := Lib.hid hPt
               clear hwt hPt))
          generalize l.drop num.toNat = l' at *
          generalize t + min num.toNat l.length = t' at *
          generalize pre ++ l.take num.toNat = pre' at *
          obtain ⟨o', ho'⟩ : ∃ o', o' = o := ⟨_, rfl⟩
          obtain ⟨v1', hv1'⟩ : ∃ v', v' = v1 := ⟨_, rfl⟩
          obtain ⟨rm1', hrm1'⟩ : ∃ v', v' = rm1 := ⟨_, rfl⟩
          rw [← ho', ← hv1', ← hrm1'] at HPt
          have HN' := HN3
          clear HX HY HP4 HP3 HB3 HN3 ho' hv1' hrm1'
          have hSt : wt.cell? ⟨w1.heap.size, 1, none⟩ = some (.int .i64 t') ∧ wt.cell? ⟨w1.heap.size, 2, none⟩ = some v2' ∧ wt.cell? ⟨w1.heap.size, 3, none⟩ = some (.bool o') := ⟨HPt.out.r.1.cell 1, HPt.out.r.1.cell 2, HPt.out.r.1.cell 3⟩
          obtain ⟨at2, hv2, hmx2⟩ := HPt.out.r.2.form
          rw [hv2] at hSt
          go_wp2_with fail
          refine wp_region_planS (fun W => W.cell? ⟨w1.heap.size, 1, none⟩ = some (.int .i64 t') ∧ W.cell? ⟨w1.heap.size, 2, none⟩ = some (.slice at2 l'.length (l'.length + rm2'.length)) ∧ W.cell? ⟨w1.heap.size, 3, none⟩ = some (.bool o')) (.take 0 <| .take 2 <| .take 3 <| .take 4 <| .take 5 <| .take 6 <| .run 1 <| .take 7 <| .take 8 <| .take 9 <| .take 11 <| .take 12 <| .take 13 <| .take 14 <| .run 10 <| .take 15 <| .take 16 <| .take 17 <| .take 18 <| .take 20 <| .take 21 <| .take 22 <| .take 23 <| .run 19 <| .take 24 <| .take 25 <| .done) (by kernel_rfl) (by kernel_rfl) (by kernel_rfl) (by kernel_rfl) hSt ?_
          go_wp2_with (first
            | ((with_reducible refine PlanS_isTake ?_); refine PlanS_take (v := ?_) rfl ?_ (fun w hSw => ?_) ?_; rotate_left 1; (focus rfl); (focus ((try dsimp only at hSw); (first | (go_simp; done) | (go_simp; with_reducible rfl)))); simp only [Act.put, List.setIfInBounds_toArray, List.set_cons_zero, List.set_cons_succ]) | ((with_reducible refine PlanS_isTake ?_); refine PlanS_skip rfl ?_ ?_; (focus rfl); simp only [Act.put, List.setIfInBounds_toArray, List.set_cons_zero, List.set_cons_succ]) | ((with_reducible refine PlanS_isRun ?_); refine PlanS_run rfl (fun K hK => ?_); go_simp) | ((with_reducible refine And.intro ?_ (PlanS_is ?_)); (focus (exact hSt))) | ((with_reducible refine PlanS_alt ?_ ?_)) | ((with_reducible refine PlanS_done ?_))
            | (go_at_call 20; refine (olen_ok (World.drew wt) _ _ _ _ _ _ _ _ (by exact HPt.out.drew.o) hlo).mono ?_; rintro e w' ⟨rfl, dn, rfl⟩)
            | (go_at_call 21; refine (ototal_ok _ _ _ _ _ _ _ _ _ (by exact HPt.out.drew.o) hlo).mono ?_; rintro e w' ⟨rfl, rfl⟩)
            | (go_at_call 22; refine (oover_ok _ _ _ _ _ _ _ _ _ (by exact HPt.out.drew.o) hlo).mono ?_; rintro e w' ⟨rfl, rfl⟩))
          go_roundw
          case rel => exact ⟨k + 1, l', t', o', v1', v2', pre', rm1', rm2', by omega, by go_num, HPt.out.below (below_drewN (Below.refl _ _) _), HN'.out.1, HN'.out.2.1, HN'.out.2.2⟩
          case measure => simp [intOf]; omega
    · go_wp2_with fail
      go_ret
      exact ⟨rfl, HP.out.bel⟩

theorem outScript_walk (limit : Int) (wl : (Lit.int .i64 limit).wf = true) (x : Option Addr × Nat × Nat × List (Int × List UInt8 × Int)) (w : World) (ox : OActsAt w x) :
    Calls Try.prog 3 #[.int .i64 limit, .slice x.1 x.2.1 x.2.2.1] w fun e w' => e = .returned (.bool true) ∧ Below w.heap.size w w' :=
  outScript_go limit x.1 x.2.1 x.2.2.1 x.2.2.2 w ox.2.2.2 ox.1 ox.2.1

namespace outScript
set_option linter.unusedVariables false
open Go.ChangeShapes Go.WideShapes Go.ChangeAt Go.RowKit Go.As
theorem own : ownKnob Try.prog.godebug = none := by kernel_rfl
theorem laidOut : laidOutB Try.prog = true := by kernel_rfl
set_option maxRecDepth 100000 in
theorem lifted (os : Os) (started : os.Started) (H : Type) (enc : TypeId × Value → H) :
    ReturnsInHanded {} Try.checked os 3 .any (Rows.outScriptSpec.pre6 enc Try.prog Try.f3 Rows.outScriptRow.domain false) (Rows.outScriptSpec.post enc Try.prog Try.f3 false true false false) := by
  refine returnsInHanded_of_change (C := Try.checked) own started (by kernel_rfl) Try.func3
    (ChangeSpec.witness6 (enc := enc) (C := Try.checked) false ⟨#[], #[.int .i64 0, .slice none 0 0], []⟩ 8 (by kernel_rfl) (by kernel_rfl) (by kernel_rfl) (by kernel_rfl)) ?_
  intro W base args ds gs before hval0 hW hcnd _
  have hval : ∀ (j : Nat) t v, Try.f3.params[j]? = some t → args[j]? = some v → Value.okWide Try.prog W .any base t v := hval0
  have hW' := hW
  obtain ⟨p, q, hA0, hV, hpq, hfz, hnd⟩ := hW
  have hA : DataW.TrodAll enc Try.prog W 0 (fun _ => true) true Try.f3.params.toList args.toList ds p := hA0
  have hlt : ∀ x ∈ p, x.block < W.heap.size := fun x hx => hW'.lt x (by rw [hpq]; exact List.mem_append_left _ hx)
  rw [Try.params3] at hA hval
  obtain ⟨v0, vs0, d0, ds0, p0, q0, hargs, rfl, hp0, h0, r0⟩ := trodAll_cons hA
  obtain ⟨v1, vs1, d1, ds1, p1, q1, rfl, rfl, hp1, h1, r1⟩ := trodAll_cons r0
  obtain ⟨rfl, rfl, hpn⟩ := trodAll_nil r1
  obtain rfl : args = #[v0, v1] := by cases args; simp_all
  obtain ⟨rfl, rfl⟩ := trodVars_none hV
  obtain ⟨a0, rfl, rfl, -, w0⟩ := open_int Try.underlying3 (hval 0 3 v0 rfl rfl) h0
  obtain ⟨x1, rfl, o1⟩ := oacts_open (hval 1 _ v1 rfl rfl) h1 (fun x hx => hlt x (by simp_all))
  refine (outScript_walk a0 w0 x1 W o1).mono fun e W' ⟨he, hg⟩ => ?_
  subst he
  exact ⟨_, rfl, law_post (T := 4) laidOut (by kernel_rfl) Try.underlying4 rfl rfl hW' rfl rfl rfl hg⟩
theorem over : Rows.outScriptRow.holds Try.pinned (OpenSpec.ofChange Rows.outScriptSpec) :=
  OpenClaim.holds_of_wide 3 Try.f3 rfl rfl rfl rfl rfl rfl rfl ⟨rfl, rfl, rfl, rfl, rfl⟩ rfl rfl rfl rfl rfl (by kernel_rfl) Try.func3 (by kernel_rfl)
    (of_decide_eq_true (by kernel_rfl)) (by unfold Func.isWrapper; rw [if_neg (of_decide_eq_false (by kernel_rfl))]; exact ⟨rfl, rfl⟩)
    (fun os started H enc _ => lifted os started H enc)
/-- the statement -/
theorem proved : Rows.OutScriptSaid := over
#print axioms proved
end outScript
end Go.Proofs.Ytnkbjjnopbmfnaa
