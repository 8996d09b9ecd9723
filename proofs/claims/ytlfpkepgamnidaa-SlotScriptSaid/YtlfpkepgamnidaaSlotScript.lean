/- The law SlotScript: a ring answers any calls, and how many slots any work needs is told, as the document says; every input. -/
import Derived.Test.YtlfpkepgamnidaaPair
import Derived.Test.YtlfpkepgamnidaaActs
import Derived.Deep.DeepCutAuto
import Derived.Deep.CutBlock
namespace Go.Proofs.Ytlfpkepgamnidaa
open Go.RowKit Go.As
set_option linter.unusedVariables false

set_option maxRecDepth 100000 in
set_option maxHeartbeats 3200000 in
theorem script_walk (A : Option Addr) (n c : Nat) (acts : List (Int × Int)) (work slice : Int) (w : World) (ha : Sl w 2 A n (actCells acts)) (hl : acts.length = n) (hn : n ≤ maxLen) (hw : work ≤ 9223372036854775807) :
    Calls Try.prog 7 #[.slice A n c, .int .i64 work, .int .i64 slice] w fun e w' => e = .returned (.bool true) ∧ Below w.heap.size w w' := by
  unfold maxLen at hn
  by_cases hbig : 200 < n
  · go_enter Try.func7, Try.ntmps7
    go_wp2_with fail
    go_ret
    exact ⟨rfl, Below.refl _ _⟩
  have HA := Lib.hid ha
  have HL := Lib.hid hl
  have HSl := Lib.hid (slots_both work slice hw)
  clear ha hl hw
  go_enter Try.func7, Try.ntmps7
  go_wp2_with fail
  refine (newRing_ok w).mono ?_
  rintro e w1 ⟨rfl, hr1, hb1, hz1⟩
  have H1 := Lib.hid (And.intro hr1 (And.intro hb1 hz1))
  clear hr1 hb1 hz1
  go_wp2_with fail
  have hP : Pair w (w1.alloc (.cells #[.slice none 0 0] 49)) w.heap.size (.slice none 0 0) [] w1.heap.size (.slice none 0 0) [] := by
    refine ⟨H1.out.1.below ((Below.refl _ _).alloc (Nat.le_refl _) _), ⟨Blk.new _ _ _, World.ownsRow_nil _ _ _ _⟩, by simp [Value.ownBlock], ?_, ?_, H1.out.2.1.alloc H1.out.2.1.size _⟩
    · rintro k (rfl | hk)
      · exact Nat.le_refl _
      · simp [Value.ownBlock] at hk
    · rintro k (rfl | hk)
      · exact H1.out.2.1.size
      · simp [Value.ownBlock] at hk
  have HP := Lib.hid hP
  clear hP H1
  go_loopw [9] (fun i wr => ∃ (k : Nat) (L : List Int) (v1 v2 : Value), k ≤ n ∧ i = .int .i64 k ∧ Fine L ∧ Pair w wr w.heap.size v1 L w1.heap.size v2 L) (fun i _ => n - (intOf i).toNat)
  case atStart => exact ⟨0, [], _, _, by omega, rfl, ⟨by simp, by simp⟩, HP.out⟩
  case round =>
    clear HP
    obtain ⟨k, L, v1, v2, hk, rfl, hfine, hpair⟩ := hrel
    have hsz := hpair.bel.size
    have HF := Lib.hid hfine
    have HP := Lib.hid hpair
    clear hfine hpair
    by_cases hlt : k < n
    · obtain ⟨ad, u, hA, -, -, -⟩ := (HA.out.below HP.out.bel).at_ hlt (show 0 < 2 by omega)
      obtain ⟨p, hp⟩ : ∃ p, acts[k]? = some p := ⟨_, List.getElem?_eq_getElem (by rw [HL.out]; exact hlt)⟩
      obtain ⟨kind, id⟩ := p
      have hcells := ((HA.out.below HP.out.bel).2 (by omega))
      obtain ⟨ad', hA', hadlt, hcell⟩ := hcells
      rw [hA] at hA'
      obtain rfl : ad = ad' := Option.some.inj hA'
      have c0 := hcell (k * 2) _ (actCells_at hp).1
      have c1 := hcell (k * 2 + 1) _ (actCells_at hp).2
      simp only at c0 c1
      rw [← add_add'] at c1
      have c1b : wr.cell? ⟨(ad.add (k * 2)).block, (ad.add (k * 2)).off + 1, none⟩ = some (.int .i64 id) := by simpa [Addr.add] using c1
      subst hA
      clear hp hA' hcell
      go_upto_block 2 with fail
      go_cut [11, 12, 13, 14] (fun s11 s12 s13 s14 wx => ∃ (e x : Int) (L' : List Int) (v1' v2' : Value), s11 = .int .i64 e ∧ s12 = .int .i64 e ∧ s13 = .int .i64 x ∧ s14 = .int .i64 x ∧ Fine L' ∧ Pair w wx w.heap.size v1' L' w1.heap.size v2' L' ∧ Blk wx wr.heap.size 51 #[.int .i64 kind, .int .i64 id])
      case first =>
        have HP0 := Lib.hid (HP.out.below ((Below.refl wr.heap.size wr).alloc (Nat.le_refl _) (.cells #[.int .i64 kind, .int .i64 id] 51)))
        have HB0 := Lib.hid (Blk.new wr 51 #[.int .i64 kind, .int .i64 id])
        have hg1 : ¬ FR w.heap.size v1 wr.heap.size := fun h => by have := HP.out.r.lt _ h; omega
        have hg2 : ¬ FR w1.heap.size v2 wr.heap.size := fun h => by have := HP.out.q.lt _ h; omega
        have HG := Lib.hid (And.intro hg1 hg2)
        have hS0 := HB0.out.cell 1
        simp only [List.getElem?_toArray, List.getElem?_cons_succ, List.getElem?_cons_zero] at hS0
        clear hg1 hg2
        by_cases k0 : kind = 0
        · subst k0
          go_wp2_with fail
          refine wp_region_planS (fun W => W.cell? ⟨wr.heap.size, 1, none⟩ = some (.int .i64 id)) (.take 0 <| .take 1 <| .take 2 <| .take 4 <| .take 5 <| .take 6 <| .run 3 <| .run 7 <| .take 8 <| .take 9 <| .done) (by kernel_rfl) (by kernel_rfl) (by kernel_rfl) (by kernel_rfl) hS0 ?_
          go_wp2_with (first
            | ((with_reducible refine PlanS_isTake ?_); refine PlanS_take (v := ?_) rfl ?_ (fun w hSw => ?_) ?_; rotate_left 1; (focus rfl); (focus ((try dsimp only at hSw); (first | (go_simp; done) | (go_simp; with_reducible rfl)))); simp only [Act.put, List.setIfInBounds_toArray, List.set_cons_zero, List.set_cons_succ]) | ((with_reducible refine PlanS_isTake ?_); refine PlanS_skip rfl ?_ ?_; (focus rfl); simp only [Act.put, List.setIfInBounds_toArray, List.set_cons_zero, List.set_cons_succ]) | ((with_reducible refine PlanS_isRun ?_); refine PlanS_run rfl (fun K hK => ?_); go_simp) | ((with_reducible refine And.intro ?_ (PlanS_is ?_)); (focus ((first | exact HB4.out.cell 1 | exact HB3.out.cell 1)))) | ((with_reducible refine PlanS_alt ?_ ?_)) | ((with_reducible refine PlanS_done ?_))
            | (go_at_call 27
               refine (add_ok _ _ _ _ id (by exact HP0.out.drew.r) HF.out.le).mono ?_
               rintro e w3 ⟨rfl, v1', hr3, ho3, hs3⟩
               have HP3 := Lib.hid (HP0.out.drew.stepR hr3 ho3 hs3)
               have HB3 := Lib.hid (Blk.only (w := (wr.alloc (.cells #[.int .i64 0, .int .i64 id] 51)).drew) HB0.out ho3 HG.out.1)
               clear hr3 ho3 hs3)
            | (go_at_call 28
               refine (rradd_ok _ _ _ _ id HP3.out.q HF.out.le).mono ?_
               rintro e w4 ⟨rfl, v2', hr4, ho4, hs4⟩
               have HP4 := Lib.hid (HP3.out.stepQ hr4 ho4 hs4)
               have HB4 := Lib.hid (HB3.out.only ho4 HG.out.2)
               clear hr4 ho4 hs4))
          go_meet
          case rel => exact ⟨_, _, _, _, _, rfl, rfl, rfl, rfl, HF.out.add id, HP4.out, HB4.out⟩
        by_cases k1 : kind = 1
        · subst k1
          go_wp2_with fail
          refine wp_region_planS (fun W => W.cell? ⟨wr.heap.size, 1, none⟩ = some (.int .i64 id)) (.take 0 <| .take 1 <| .take 2 <| .take 4 <| .take 5 <| .take 6 <| .run 3 <| .run 7 <| .take 8 <| .take 9 <| .done) (by kernel_rfl) (by kernel_rfl) (by kernel_rfl) (by kernel_rfl) hS0 ?_
          have hfd := HF.out.drop id
          have HFD := Lib.hid hfd
          clear hfd
          go_wp2_with (first
            | ((with_reducible refine PlanS_isTake ?_); refine PlanS_take (v := ?_) rfl ?_ (fun w hSw => ?_) ?_; rotate_left 1; (focus rfl); (focus ((try dsimp only at hSw); (first | (go_simp; done) | (go_simp; with_reducible rfl)))); simp only [Act.put, List.setIfInBounds_toArray, List.set_cons_zero, List.set_cons_succ]) | ((with_reducible refine PlanS_isTake ?_); refine PlanS_skip rfl ?_ ?_; (focus rfl); simp only [Act.put, List.setIfInBounds_toArray, List.set_cons_zero, List.set_cons_succ]) | ((with_reducible refine PlanS_isRun ?_); refine PlanS_run rfl (fun K hK => ?_); go_simp) | ((with_reducible refine And.intro ?_ (PlanS_is ?_)); (focus ((first | exact HB4.out.cell 1 | exact HB3.out.cell 1)))) | ((with_reducible refine PlanS_alt ?_ ?_)) | ((with_reducible refine PlanS_done ?_))
            | (go_at_call 29
               refine (drop_ok _ _ _ _ id (by exact HP0.out.drew.r) HF.out.le).mono ?_
               rintro e w3 ⟨rfl, v1', hr3, ho3, hs3⟩
               have HP3 := Lib.hid (HP0.out.drew.stepR hr3 ho3 hs3)
               have HB3 := Lib.hid (Blk.only (w := (wr.alloc (.cells #[.int .i64 1, .int .i64 id] 51)).drew) HB0.out ho3 HG.out.1)
               clear hr3 ho3 hs3)
            | (go_at_call 30
               refine (rrdrop_ok _ _ _ _ id HP3.out.q HF.out.le).mono ?_
               rw [HFD.out.2]
               rintro e w4 ⟨rfl, v2', hr4, ho4, hs4⟩
               have HP4 := Lib.hid (HP3.out.stepQ hr4 ho4 hs4)
               have HB4 := Lib.hid (HB3.out.only ho4 HG.out.2)
               clear hr4 ho4 hs4))
          go_meet
          case rel => exact ⟨_, _, _, _, _, rfl, rfl, rfl, rfl, HFD.out.1, HP4.out, HB4.out⟩
        by_cases k2 : kind = 2
        · subst k2
          have HFD := Lib.hid HF.out.turn
          go_wp2_with fail
          refine (rturn2_ok _ _ _ _ (by exact HP0.out.r) HF.out.le).mono ?_
          rintro e w3 ⟨rfl, v1', hr3, ho3, hs3⟩
          have HP3 := Lib.hid (HP0.out.stepR hr3 ho3 hs3)
          have HB3 := Lib.hid (HB0.out.only ho3 HG.out.1)
          clear hr3 ho3 hs3
          go_wp2_with fail
          refine (rrturn_ok _ _ _ _ HP3.out.q HF.out.le).mono ?_
          rw [HFD.out.2]
          rintro e w4 ⟨rfl, v2', hr4, ho4, hs4⟩
          have HP4 := Lib.hid (HP3.out.stepQ hr4 ho4 hs4)
          have HB4 := Lib.hid (HB3.out.only ho4 HG.out.2)
          clear hr4 ho4 hs4
          go_wp2_with fail
          go_meet
          case rel => exact ⟨_, _, _, _, _, rfl, rfl, rfl, rfl, HFD.out.1, HP4.out, HB4.out⟩
        · have b0 : (kind == 0) = false := by simpa using k0
          have b1 : (kind == 1) = false := by simpa using k1
          have b2 : (kind == 2) = false := by simpa using k2
          clear k0 k1 k2
          go_wp2_with fail
          go_meet
          case rel => exact ⟨_, _, _, _, _, rfl, rfl, rfl, rfl, HF.out, HP0.out, HB0.out⟩
      case rest =>
        obtain ⟨e, x, L', v1', v2', rfl, rfl, rfl, rfl, hfine, hpair, hbox⟩ := hcut
        have HF' := Lib.hid hfine
        have HP' := Lib.hid hpair
        have HB' := Lib.hid hbox
        clear hfine hpair hbox c0 c1 c1b
        go_wp2_with fail
        refine (all_ok _ _ _ _ HP'.out.r HF'.out.le).mono ?_
        rintro e5 w5 ⟨v3, rfl, hown, hb5⟩
        obtain ⟨a3, c3, rfl, hc3, -⟩ := own_form hown
        obtain ⟨a2, c2, rfl, -, -⟩ := own_form HP'.out.q.2
        have HP5 := Lib.hid (HP'.out.below hb5)
        have HB5 := Lib.hid (HB'.out.belowS hb5)
        have hbel5 := hb5
        have H5 := Lib.hid (And.intro hown hbel5)
        clear hown hb5 hbel5
        have hS5 : w5.cell? ⟨wr.heap.size, 1, none⟩ = some (.int .i64 id) ∧ w5.cell? ⟨w1.heap.size, 0, none⟩ = some (.slice a2 L'.length c2) := ⟨HB5.out.cell 1, HP5.out.q.1.cell 0⟩
        have hle := HF'.out.le
        go_wp2_with fail
        refine wp_region_planS (fun W => W.cell? ⟨wr.heap.size, 1, none⟩ = some (.int .i64 id) ∧ W.cell? ⟨w1.heap.size, 0, none⟩ = some (.slice a2 L'.length c2)) (.take 0 <| .take 1 <| .take 2 <| .take 3 <| .take 4 <| .take 5 <| .take 6 <| .take 7 <| .take 8 <| .take 9 <| .take 10 <| .take 11 <| .take 13 <| .take 14 <| .take 15 <| .run 12 <| .run 16 <| .take 17 <| .take 18 <| .take 19 <| .take 20 <| .take 21 <| .take 22 <| .take 23 <| .take 24 <| .run 25 <| .take 26 <| .take 27 <| .done) (by kernel_rfl) (by kernel_rfl) (by kernel_rfl) (by kernel_rfl) hS5 ?_
        go_wp2_with (first
          | ((with_reducible refine PlanS_isTake ?_); refine PlanS_take (v := ?_) rfl ?_ (fun w hSw => ?_) ?_; rotate_left 1; (focus rfl); (focus ((try dsimp only at hSw); (first | (go_simp; done) | (go_simp; with_reducible rfl)))); simp only [Act.put, List.setIfInBounds_toArray, List.set_cons_zero, List.set_cons_succ]) | ((with_reducible refine PlanS_isTake ?_); refine PlanS_skip rfl ?_ ?_; (focus rfl); simp only [Act.put, List.setIfInBounds_toArray, List.set_cons_zero, List.set_cons_succ]) | ((with_reducible refine PlanS_isRun ?_); refine PlanS_run rfl (fun K hK => ?_); go_simp) | ((with_reducible refine And.intro ?_ (PlanS_is ?_)); (focus (exact hS5))) | ((with_reducible refine PlanS_alt ?_ ?_)) | ((with_reducible refine PlanS_done ?_))
          | (go_at_call 34
             refine (has_ok _ _ _ _ id (by exact HP5.out.drew.r) HF'.out.le).mono ?_
             rintro e w' ⟨rfl, rfl⟩)
          | (go_at_call 35
             refine (rrhas_ok _ _ _ _ id (by exact HP5.out.drew.q) HF'.out.le).mono ?_
             rintro e w' ⟨rfl, rfl⟩)
          | (go_at_call 36
             refine (sameInts_any _ _ L'.length L'.length c3 c2 L' L' _ (by exact Sl.of_own H5.out.1) (by exact Sl.of_own HP5.out.q.2) (by simp only [maxLen]; omega) (by simp only [maxLen]; omega)).mono ?_
             rintro e w' ⟨rfl, dn, rfl⟩))
        have HI := Lib.hid (show (w5.drewN (1 + dn)).ownsRow wc.heap.size 3 1 (.slice a3 L'.length c3) L'.length (ints L') ∧ Below wc.heap.size wc (w5.drewN (1 + dn)) from ⟨H5.out.1, below_drewN H5.out.2 _⟩)
        have HPc := HP'
        clear HP5 HB5 H5 hS5 HP' HB' HP
        generalize w5.drewN (1 + dn) = w6 at *
        generalize L'.length = m at *
        go_loopw [16] (fun i wq => ∃ (j : Nat) (xs : List Value), j ≤ m ∧ i = .int .i64 j ∧ wq.ownsRow wc.heap.size 3 1 (.slice a3 m c3) m xs ∧ Below wc.heap.size wc wq) (fun i _ => m - (intOf i).toNat)
        case atStart => exact ⟨0, _, by omega, rfl, HI.out.1, HI.out.2⟩
        case round =>
          clear HI
          rename_i wq
          obtain ⟨j, xs, hj, rfl, hown, hbel⟩ := hrel
          have HQ := Lib.hid (And.intro hown hbel)
          clear hown hbel
          by_cases hjm : j < m
          · obtain ⟨g, cap', hv, hg1, -⟩ := HQ.out.1.form (by omega)
            injection hv with hv1 hv2 hv3
            subst hv1 hv3
            have hcl := HQ.out.1.cellAt j (by omega)
            have hxl := HQ.out.1.1
            obtain ⟨u, hu⟩ : ∃ u, xs[j]? = some u := ⟨_, List.getElem?_eq_getElem (by omega)⟩
            rw [hu] at hcl
            have hfr := HQ.out.1.frozenAt j
            have hst := HQ.out.1.stored j (.int .i64 (-5))
            have HS := Lib.hid (And.intro hst.1 (HQ.out.2.setCell (p := ⟨g, j, none⟩) hg1 (.int .i64 (-5))))
            clear hst hv2 hxl hu
            go_wp2_with fail
            go_roundw
            case rel => exact ⟨j + 1, _, by omega, by go_num, HS.out.1, HS.out.2⟩
            case measure => simp [intOf]; omega
          · go_wp2_with fail
            go_roundw
            case rel => exact ⟨k + 1, L', v1', _, by omega, by go_num, HF'.out, HPc.out.below HQ.out.2⟩
            case measure => simp [intOf]; omega
    · go_wp2_with fail
      obtain ⟨rn, re, h25, h37⟩ := HSl.out
      have HZ := Lib.hid (And.intro h25 h37)
      clear h25 h37 HSl
      obtain ⟨a2, c2, rfl, -, -⟩ := own_form HP.out.q.2
      have hS5 : wr.cell? ⟨w1.heap.size, 0, none⟩ = some (.slice a2 L.length c2) := HP.out.q.1.cell 0
      have hle := HF.out.le
      have tok := Lib.hid trivial
      go_wp2_with (first
        | (go_at_call 25; refine (HZ.out.1 _).mono ?_; rintro e w' ⟨rfl, rfl⟩)
        | (go_at_call 37; refine (HZ.out.2 _).mono ?_; rintro e w' ⟨rfl, rfl⟩))
      refine wp_region_planS (fun W => W.cell? ⟨w1.heap.size, 0, none⟩ = some (.slice a2 L.length c2)) (.take 0 <| .take 1 <| .take 2 <| .take 3 <| .take 4 <| .take 5 <| .take 6 <| .take 7 <| .take 8 <| .take 9 <| .take 11 <| .take 12 <| .take 13 <| .take 14 <| .run 10 <| .run 15 <| .take 16 <| .take 17 <| .done) (by kernel_rfl) (by kernel_rfl) (by kernel_rfl) (by kernel_rfl) hS5 ?_
      go_wp2_with (first
        | ((with_reducible refine PlanS_isTake ?_); refine PlanS_take (v := ?_) rfl ?_ (fun w hSw => ?_) ?_; rotate_left 1; (focus rfl); (focus ((try dsimp only at hSw); (first | (go_simp; done) | (go_simp; with_reducible rfl)))); simp only [Act.put, List.setIfInBounds_toArray, List.set_cons_zero, List.set_cons_succ]) | ((with_reducible refine PlanS_isTake ?_); refine PlanS_skip rfl ?_ ?_; (focus rfl); simp only [Act.put, List.setIfInBounds_toArray, List.set_cons_zero, List.set_cons_succ]) | ((with_reducible refine PlanS_isRun ?_); refine PlanS_run rfl (fun K hK => ?_); go_simp) | ((with_reducible refine And.intro ?_ (PlanS_is ?_)); (focus ((first | exact HP5.out.q.1.cell 0 | exact hS5)))) | ((with_reducible refine PlanS_alt ?_ ?_)) | ((with_reducible refine PlanS_done ?_))
        | (go_at_call 33
           refine (all_ok _ _ _ _ (by exact HP.out.drew.r) HF.out.le).mono ?_
           rintro e5 w5 ⟨v3, rfl, hown, hb5⟩
           obtain ⟨a3, c3, rfl, hc3, -⟩ := own_form hown
           have HP5 := Lib.hid (HP.out.drew.below hb5)
           have H5 := Lib.hid hown
           clear hown hb5)
        | (go_at_call 36
           refine (sameInts_any _ _ L.length L.length c3 c2 L L _ (by exact Sl.of_own H5.out) (by exact Sl.of_own HP5.out.q.2) (by simp only [maxLen]; omega) (by simp only [maxLen]; omega)).mono ?_
           rintro e w' ⟨rfl, dn, rfl⟩))
      go_ret
      exact ⟨rfl, below_drewN HP5.out.bel _⟩

theorem slotScript_walk (x : Option Addr × Nat × Nat × List (Int × Int)) (w : World) (ox : ActsAt w x) (work : Int) (ww : (Lit.int .i64 work).wf = true) (slice : Int) (ws : (Lit.int .i64 slice).wf = true) :
    Calls Try.prog 7 #[.slice x.1 x.2.1 x.2.2.1, .int .i64 work, .int .i64 slice] w fun e w' => e = .returned (.bool true) ∧ Below w.heap.size w w' :=
  script_walk x.1 x.2.1 x.2.2.1 x.2.2.2 work slice w ox.2.2 ox.1 ox.2.1 (by have := (bounds_i64 ww).2; omega)

namespace slotScript
set_option linter.unusedVariables false
open Go.ChangeShapes Go.WideShapes Go.ChangeAt Go.RowKit Go.As
theorem own : ownKnob Try.prog.godebug = none := by kernel_rfl
theorem laidOut : laidOutB Try.prog = true := by kernel_rfl
set_option maxRecDepth 100000 in
theorem lifted (os : Os) (started : os.Started) (H : Type) (enc : TypeId × Value → H) :
    ReturnsInHanded {} Try.checked os 7 .any (Rows.slotScriptSpec.pre6 enc Try.prog Try.f7 Rows.slotScriptRow.domain false) (Rows.slotScriptSpec.post enc Try.prog Try.f7 false true false false) := by
  refine returnsInHanded_of_change (C := Try.checked) own started (by kernel_rfl) Try.func7
    (ChangeSpec.witness6 (enc := enc) (C := Try.checked) false ⟨#[], #[.slice none 0 0, .int .i64 0, .int .i64 0], []⟩ 8 (by kernel_rfl) (by kernel_rfl) (by kernel_rfl) (by kernel_rfl)) ?_
  intro W base args ds gs before hval0 hW hcnd _
  have hval : ∀ (j : Nat) t v, Try.f7.params[j]? = some t → args[j]? = some v → Value.okWide Try.prog W .any base t v := hval0
  have hW' := hW
  obtain ⟨p, q, hA0, hV, hpq, hfz, hnd⟩ := hW
  have hA : DataW.TrodAll enc Try.prog W 0 (fun _ => true) true Try.f7.params.toList args.toList ds p := hA0
  have hlt : ∀ x ∈ p, x.block < W.heap.size := fun x hx => hW'.lt x (by rw [hpq]; exact List.mem_append_left _ hx)
  rw [Try.params7] at hA hval
  obtain ⟨v0, vs0, d0, ds0, p0, q0, hargs, rfl, hp0, h0, r0⟩ := trodAll_cons hA
  obtain ⟨v1, vs1, d1, ds1, p1, q1, rfl, rfl, hp1, h1, r1⟩ := trodAll_cons r0
  obtain ⟨v2, vs2, d2, ds2, p2, q2, rfl, rfl, hp2, h2, r2⟩ := trodAll_cons r1
  obtain ⟨rfl, rfl, hpn⟩ := trodAll_nil r2
  obtain rfl : args = #[v0, v1, v2] := by cases args; simp_all
  obtain ⟨rfl, rfl⟩ := trodVars_none hV
  obtain ⟨x0, rfl, o0⟩ := acts_open (hval 0 _ v0 rfl rfl) h0 (fun x hx => hlt x (by simp_all))
  obtain ⟨a1, rfl, rfl, -, w1⟩ := open_int Try.underlying3 (hval 1 3 v1 rfl rfl) h1
  obtain ⟨a2, rfl, rfl, -, w2⟩ := open_int Try.underlying3 (hval 2 3 v2 rfl rfl) h2
  refine (slotScript_walk x0 W o0 a1 w1 a2 w2).mono fun e W' ⟨he, hg⟩ => ?_
  subst he
  exact ⟨_, rfl, law_post (T := 4) laidOut (by kernel_rfl) Try.underlying4 rfl rfl hW' rfl rfl rfl hg⟩
theorem over : Rows.slotScriptRow.holds Try.pinned (OpenSpec.ofChange Rows.slotScriptSpec) :=
  OpenClaim.holds_of_wide 7 Try.f7 rfl rfl rfl rfl rfl rfl rfl ⟨rfl, rfl, rfl, rfl, rfl⟩ rfl rfl rfl rfl rfl (by kernel_rfl) Try.func7 (by kernel_rfl)
    (of_decide_eq_true (by kernel_rfl)) (by unfold Func.isWrapper; rw [if_neg (of_decide_eq_false (by kernel_rfl))]; exact ⟨rfl, rfl⟩)
    (fun os started H enc _ => lifted os started H enc)
/-- the statement -/
theorem proved : Rows.SlotScriptSaid := over
#print axioms proved
end slotScript
end Go.Proofs.Ytlfpkepgamnidaa
