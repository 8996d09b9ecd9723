/- The law SlotTurns: between two turns of one number of a ring each number that was in it all the time comes just once; every input, no conditions. -/
import Derived.Test.YtlfpkepgamnidaaPair
import Derived.Test.YtlfpkepgamnidaaRingS
import Derived.Test.YtlfpkepgamnidaaTurnsL
import Derived.Test.YtlfpkepgamnidaaActs
import Derived.Deep.DeepCutAuto
import Derived.Deep.CutBlock
namespace Go.Proofs.Ytlfpkepgamnidaa
open Go.RowKit Go.As
set_option linter.unusedVariables false

/-- the ring, those that stay, and the row of counts -/
structure TS (w W : World) (b : Nat) (v : Value) (L : List Int) (g s r q : Nat) : Prop where
  rs : RS w W b v L
  fine : Fine L
  st : staysOf s L = rot s r
  rl : r < s
  bl : Blk W g 3 (cntA s r q)
  ga : ¬ FR b v g
  gl : w.heap.size ≤ g
theorem TS.step {w W W' : World} {b : Nat} {v v' : Value} {L L' : List Int} {g s r q r' : Nat} (h : TS w W b v L g s r q) (hr : RingV W' b v' L') (ho : Only (FR b v) W W') (hs : SameOrNew W v v')
    (hf : Fine L') (hst : staysOf s L' = rot s r') (hrl : r' < s) : RS w W' b v' L' ∧ Blk W' g 3 (cntA s r q) ∧ ¬ FR b v' g := by
  refine ⟨h.rs.step hr ho hs hf.le, h.bl.only ho h.ga, ?_⟩
  rintro (e | e)
  · exact h.ga (.inl e)
  · rcases hs g e with e' | e'
    · exact h.ga (.inr e')
    · have := h.bl.lt; omega
theorem TS.same {w W W' : World} {b : Nat} {v v' : Value} {L L' : List Int} {g s r q : Nat} (h : TS w W b v L g s r q) (hr : RingV W' b v' L') (ho : Only (FR b v) W W') (hs : SameOrNew W v v')
    (hf : Fine L') (hst : staysOf s L' = rot s r) : TS w W' b v' L' g s r q := by
  obtain ⟨h1, h2, h3⟩ := h.step hr ho hs hf hst h.rl
  exact ⟨h1, hf, hst, h.rl, h2, h3, h.gl⟩
theorem TS.drewN {w W : World} {b : Nat} {v : Value} {L : List Int} {g s r q : Nat} (h : TS w W b v L g s r q) (n : Nat) : TS w (W.drewN n) b v L g s r q :=
  ⟨⟨h.rs.r, h.rs.lo, below_drewN h.rs.bel n, h.rs.le⟩, h.fine, h.st, h.rl, h.bl, h.ga, h.gl⟩
theorem stays_add {s : Nat} {L : List Int} {id : Int} (h : (s : Int) ≤ id) : staysOf s (addE L id).2 = staysOf s L := by
  unfold addE; split; rfl; split; rfl; split; rfl; exact staysOf_snoc h
theorem stays_drop {s : Nat} {L : List Int} {id : Int} (h : (s : Int) ≤ id) : staysOf s (dropE L id).2 = staysOf s L := by
  unfold dropE; split; exact staysOf_erase h; rfl
theorem addE_first (k : Nat) (hk : k < 64) : addE ((List.range k).map fun i : Nat => (i : Int)) (k : Int) = (0, (List.range (k + 1)).map fun i : Nat => (i : Int)) := by
  rw [addE, if_neg (by omega), if_neg (by simp; omega), if_neg (by simp; omega), List.range_succ]
  simp

set_option maxRecDepth 100000 in
set_option maxHeartbeats 3200000 in
theorem turns_walk (A : Option Addr) (n c : Nat) (acts : List (Int × Int)) (stay : Int) (w : World) (ha : Sl w 2 A n (actCells acts)) (hl : acts.length = n) (hn : n ≤ maxLen) :
    Calls Try.prog 8 #[.int .i64 stay, .slice A n c] w fun e w' => e = .returned (.bool true) ∧ Below w.heap.size w w' := by
  unfold maxLen at hn
  have p0 := Int.emod_nonneg stay (show (20 : Int) ≠ 0 by omega)
  have p1 := Int.emod_lt_of_pos stay (show (0 : Int) < 20 by omega)
  obtain ⟨m, hm⟩ := Int.eq_ofNat_of_zero_le p0
  have hm2 : m < 20 := by omega
  have HM := Lib.hid hm
  have HA := Lib.hid ha
  have HL := Lib.hid hl
  clear hm p0 p1 ha hl
  go_enter Try.func8, Try.ntmps8
  go_wp2_with fail
  refine (awake_ok _).mono ?_
  rintro e w1 ⟨rfl, hb1⟩
  go_wp2_with fail
  refine (pick_any stay 20 _ (by omega) (by omega)).mono ?_
  rintro e w' ⟨rfl, rfl⟩
  rw [HM.out]
  go_wp2_with fail
  refine (newRing_ok w1).mono ?_
  rintro e w2 ⟨rfl, hr2, hb2, hz2⟩
  have R0 : RS w w2 w1.heap.size (.slice none 0 0) ((List.range 0).map fun i : Nat => (i : Int)) := ⟨hr2, by
    rintro k (rfl | hk)
    · exact hb1.size
    · simp [Value.ownBlock] at hk, below_then hb1 hb2, by simp⟩
  have K0 := Lib.hid R0
  clear R0 hr2 hb2 hz2 hb1
  by_cases hbig : 100 < n
  · go_wp2_with fail
    go_ret
    exact ⟨rfl, K0.out.bel⟩
  go_wp2_with fail
  go_loopw [7] (fun i wr => ∃ (k : Nat) (v : Value), k ≤ m + 1 ∧ i = .int .i64 k ∧ RS w wr w1.heap.size v ((List.range k).map fun i : Nat => (i : Int))) (fun i _ => m + 1 - (intOf i).toNat)
  case atStart => exact ⟨0, _, by omega, rfl, K0.out⟩
  case round =>
    clear K0
    obtain ⟨k, v, hk, rfl, hrs⟩ := hrel
    have K1 := Lib.hid hrs
    clear hrs
    by_cases hlt : k < m + 1
    · go_wp2_with fail
      refine (addC w _ _ _ _ (k : Int) 0 _ (addE_first k (by omega)) (by simp; omega) K1.out).mono ?_
      rintro e w3 ⟨rfl, v3, k3⟩
      have K3 := Lib.hid k3
      clear k3 K1
      go_wp2_with fail
      go_roundw
      case rel => exact ⟨k + 1, v3, by omega, by go_num, K3.out⟩
      case measure => simp [intOf]; omega
    · have hke : k = m + 1 := by omega
      obtain ⟨k0, hk0⟩ : ∃ k0, k0 = k := ⟨_, rfl⟩
      have K2 := K1.out
      rw [hke] at K2
      clear K1
      have K1 := Lib.hid K2
      have hge0 : m + 1 ≤ k := by omega
      clear K2 hke hk0 k0
      have hmk : ∀ W, (Instr.makeSlice 28 (.int .i64 (1 + (m : Int))) (.int .i64 (1 + (m : Int)))).run Try.prog W = .ok (.slice (some ⟨W.heap.size, 0, none⟩) (m + 1) (m + 1)) (W.alloc (.cells (cntA (m + 1) 0 0) 3)) := by
        intro W
        have := run_make_zero (P := Try.prog) 28 3 _ 1 8 Try.underlying28 intInfo .i64 .i64 (m + 1) (by omega) (by omega) W
        rw [cntA_zero, show ((m + 1 : Nat) : Int) = 1 + (m : Int) by omega] at this
        exact this
      clear hk
      go_wp2_with fail
      clear hmk
      obtain ⟨wo, rfl⟩ : ∃ wo : World, wo = wr := ⟨_, rfl⟩
      have T0 : TS w (wo.alloc (.cells (cntA (m + 1) 0 0) 3)) w1.heap.size v ((List.range (m + 1)).map fun i : Nat => (i : Int)) wo.heap.size (m + 1) 0 0 := by
        refine ⟨K1.out.below ((Below.refl _ _).alloc (Nat.le_refl _) _), ⟨?_, by simp; omega⟩, by rw [staysOf_all _ _ (Nat.le_refl _), rot_zero], by omega, Blk.new _ _ _, fun h => by have := K1.out.r.lt _ h; omega, K1.out.bel.size⟩
        rw [List.nodup_iff_pairwise_ne, List.pairwise_map]
        exact List.Pairwise.imp (fun h e => by omega) (List.pairwise_lt_range (n := m + 1))
      have H0 := Lib.hid T0
      clear T0 K1
      generalize wo.heap.size = g at *
      generalize w1.heap.size = b at *
      obtain ⟨kk, rfl⟩ : ∃ kk, kk = k := ⟨_, rfl⟩
      clear hge0 hlt
      go_loopw [9] (fun i wr => ∃ (k : Nat) (v : Value) (L : List Int) (r q : Nat), k ≤ n ∧ q ≤ k ∧ i = .int .i64 k ∧ TS w wr b v L g (m + 1) r q) (fun i _ => n - (intOf i).toNat)
      case atStart => exact ⟨0, _, _, _, _, by omega, Nat.le_refl _, rfl, H0.out⟩
      case round =>
        clear H0
        obtain ⟨k, v2, L, r, q, hk, hqk, rfl, hts⟩ := hrel
        have HT := Lib.hid hts
        clear hts
        by_cases hlt : k < n
        · obtain ⟨ad, u, hA, -, -, -⟩ := (HA.out.below HT.out.rs.bel).at_ hlt (show 0 < 2 by omega)
          obtain ⟨p, hp⟩ : ∃ p, acts[k]? = some p := ⟨_, List.getElem?_eq_getElem (by rw [HL.out]; exact hlt)⟩
          obtain ⟨kind, id0⟩ := p
          obtain ⟨ad', hA', -, hcell⟩ := ((HA.out.below HT.out.rs.bel).2 (by omega))
          rw [hA] at hA'
          obtain rfl : ad = ad' := Option.some.inj hA'
          have c0 := hcell (k * 2) _ (actCells_at hp).1
          have c1 := hcell (k * 2 + 1) _ (actCells_at hp).2
          simp only at c0 c1
          rw [← add_add'] at c1
          have c1b : wr.cell? ⟨(ad.add (k * 2)).block, (ad.add (k * 2)).off + 1, none⟩ = some (.int .i64 id0) := by simpa [Addr.add] using c1
          subst hA
          clear hp hA' hcell
          have i0 := Int.emod_nonneg id0 (show (40 : Int) ≠ 0 by omega)
          have i1 := Int.emod_lt_of_pos id0 (show (0 : Int) < 40 by omega)
          go_wp2_with fail
          refine (pick_any id0 40 _ (by omega) (by omega)).mono ?_
          rintro e w' ⟨rfl, rfl⟩
          generalize id0 % 40 = id at *
          have hge : ((m + 1 : Nat) : Int) ≤ 1 + (m : Int) + id := by omega
          go_upto_block 4 with fail
          go_cut [11] (fun s11 wx => ∃ (v' : Value) (L' : List Int) (r' q' : Nat), q' ≤ q + 1 ∧ TS w wx b v' L' g (m + 1) r' q')
          case first =>
            by_cases k0 : kind = 0
            · subst k0
              go_wp2_with fail
              refine (add_ok _ _ _ _ _ HT.out.rs.r HT.out.rs.le).mono ?_
              rintro e w3 ⟨rfl, v3, hr3, ho3, hs3⟩
              have T3 := Lib.hid (HT.out.same hr3 ho3 hs3 (HT.out.fine.add _) (by rw [stays_add hge]; exact HT.out.st))
              clear hr3 ho3 hs3
              go_wp2_with fail
              go_meet
              case rel => exact ⟨_, _, _, _, by omega, T3.out⟩
            by_cases k1 : kind = 1
            · subst k1
              go_wp2_with fail
              refine (drop_ok _ _ _ _ _ HT.out.rs.r HT.out.rs.le).mono ?_
              rintro e w3 ⟨rfl, v3, hr3, ho3, hs3⟩
              have T3 := Lib.hid (HT.out.same hr3 ho3 hs3 (HT.out.fine.drop _).1 (by rw [stays_drop hge]; exact HT.out.st))
              clear hr3 ho3 hs3
              go_wp2_with fail
              go_meet
              case rel => exact ⟨_, _, _, _, by omega, T3.out⟩
            by_cases k2 : kind = 2
            · subst k2
              obtain ⟨x, t, hL, hx1, hx2⟩ := stays_turn HT.out.rl HT.out.st
              subst hL
              have HX := Lib.hid (And.intro hx1 hx2)
              have hff := HT.out.fine.turn.1
              have HFF := Lib.hid hff
              clear hx1 hx2 hff
              go_wp2_with fail
              refine (rturn2_ok _ _ _ _ HT.out.rs.r HT.out.rs.le).mono ?_
              simp only [turnE]
              rintro e w3 ⟨rfl, v3, hr3, ho3, hs3⟩
              by_cases hx : x < ((m + 1 : Nat) : Int)
              · obtain ⟨hxr, hst⟩ := HX.out.1 hx
                have hrl := HT.out.rl
                obtain ⟨t1, t2, t3⟩ := HT.out.step hr3 ho3 hs3 HFF.out hst (nextR_lt hrl)
                have cc := t2.cell r
                rw [cntA_get hrl] at cc
                have cf := t2.frozen r
                have hcb := cnt_bd r q r
                have hset := t2.set_ r (.int .i64 (cnt r q r + 1))
                rw [cntA_set hrl] at hset
                have hq2 := nextQ_le (s := m + 1) (r := r) (q := q)
                have HS := Lib.hid (And.intro t1 (And.intro hset (And.intro t3 hst)))
                clear hset t2 hst hr3 ho3 hs3 t1 t3
                subst hxr
                generalize cnt r q r = cc0 at *
                obtain ⟨hc1, hc2⟩ := hcb
                have hxm : (r : Int) < 1 + (m : Int) := by omega
                have hrm : r < m + 1 := by omega
                clear hx hrl
                go_wp2_with fail
                go_meet
                case rel =>
                  refine ⟨_, _, _, _, hq2, ⟨⟨⟨HS.out.1.r.1.far (fun e => HS.out.2.2.1 (.inl e.symm)) _, own_set HS.out.1.r.2 (p := ⟨g, r, none⟩) (fun e => HS.out.2.2.1 (.inr e)) _⟩, HS.out.1.lo, HS.out.1.bel.setCell (p := ⟨g, r, none⟩) HT.out.gl _, HS.out.1.le⟩, HFF.out, HS.out.2.2.2, nextR_lt HT.out.rl, HS.out.2.1, HS.out.2.2.1, HT.out.gl⟩⟩
              · have T3 := Lib.hid (HT.out.same hr3 ho3 hs3 HFF.out (HX.out.2 (by omega)))
                clear hr3 ho3 hs3
                have hxm : ¬ x < 1 + (m : Int) := by omega
                clear hx
                go_wp2_with fail
                go_meet
                case rel => exact ⟨_, _, _, _, by omega, T3.out⟩
            · have b0 : (kind == 0) = false := by simpa using k0
              have b1 : (kind == 1) = false := by simpa using k1
              have b2 : (kind == 2) = false := by simpa using k2
              clear k0 k1 k2
              go_wp2_with fail
              go_meet
              case rel => exact ⟨_, _, _, _, by omega, HT.out⟩
          case rest =>
            obtain ⟨v4, L4, r4, q4, hq4, ht4⟩ := hcut
            have H4 := Lib.hid ht4
            clear ht4 c0 c1 c1b HT
            obtain ⟨wo, rfl⟩ : ∃ wo : World, wo = wc := ⟨_, rfl⟩
            go_wp2_with fail
            go_loopw [13] (fun i wq => ∃ (j d : Nat), j ≤ m ∧ i = .int .i64 ((j : Int) + 1) ∧ wq = wo.drewN d) (fun i _ => m + 1 - (intOf i).toNat)
            case atStart => exact ⟨0, 0, by omega, rfl, rfl⟩
            case round =>
              obtain ⟨j, d, hj, rfl, rfl⟩ := hrel
              by_cases hjm : j < m
              · have l0 := H4.out.bl.cell 0
                have l1 := H4.out.bl.cell (j + 1)
                have l2 := H4.out.bl.cell j
                have l3 := H4.out.bl.cell m
                rw [cntA_get (by omega)] at l0 l1 l2 l3
                have e1 := cnt_le (r := r4) (q := q4) (show 1 ≤ j + 1 by omega)
                have e2 := cnt_round (r := r4) (q := q4) (s := m + 1)
                have b0 := cnt_bd r4 q4 m
                simp only [Nat.add_sub_cancel] at e1 e2
                generalize cnt r4 q4 0 = x0 at *
                generalize cnt r4 q4 (j + 1) = x1 at *
                generalize cnt r4 q4 j = x2 at *
                generalize cnt r4 q4 m = x3 at *
                obtain ⟨b1, b2⟩ := b0
                have d1 : decide (x2 < x1) = false := by simp; omega
                have d2 : decide (x3 + 1 < x0) = false := by simp; omega
                have ww : IntKind.i64.wrap (x3 + 1) = x3 + 1 := IntWalk.i64_in _ (by omega)
                have ww2 : IntKind.i64.wrap (1 + (m : Int) - 1) = m := by rw [show (1 + (m : Int) - 1) = m by omega]; exact IntWalk.i64_in _ (by omega)
                have ww3 : IntKind.i64.wrap ((j : Int) + 1 - 1) = j := by rw [show ((j : Int) + 1 - 1) = j by omega]; exact IntWalk.i64_in _ (by omega)
                have w4 : IntKind.i64.wrap (j : Int) = j := IntWalk.i64_in _ (by omega)
                have w5 : IntKind.i64.wrap (m : Int) = m := IntWalk.i64_in _ (by omega)
                have t1 : (0 : Int) ≤ (j : Int) + 1 := by omega
                have t2 : (j : Int) < (m : Int) + 1 := by omega
                have t3 : (m : Int) < (m : Int) + 1 := by omega
                have t4 : (0 : Int) < (m : Int) + 1 := by omega
                have t5 : ((j : Int) + 1).toNat = j + 1 := by omega
                have t6 : (j : Int) < (m : Int) := by omega
                go_wp2_with fail
                refine wp_region_planS (fun W => W.cell? ⟨g, 0, none⟩ = some (.int .i64 x0) ∧ W.cell? ⟨g, j + 1, none⟩ = some (.int .i64 x1) ∧ W.cell? ⟨g, j, none⟩ = some (.int .i64 x2) ∧ W.cell? ⟨g, m, none⟩ = some (.int .i64 x3)) (.take 0 <| .take 1 <| .take 2 <| .take 3 <| .take 4 <| .take 5 <| .take 6 <| .take 7 <| .take 8 <| .take 9 <| .take 10 <| .take 11 <| .take 12 <| .take 13 <| .take 14 <| .take 15 <| .take 16 <| .take 17 <| .take 18 <| .take 19 <| .take 20 <| .take 21 <| .done) (by kernel_rfl) (by kernel_rfl) (by kernel_rfl) (by kernel_rfl) ⟨l0, l1, l2, l3⟩ ?_
                go_wp2_with (first
                  | ((with_reducible refine PlanS_isTake ?_); refine PlanS_take (v := ?_) rfl ?_ (fun w hSw => ?_) ?_; rotate_left 1; (focus rfl); (focus ((try dsimp only at hSw); (first | (go_simp; done) | (go_simp; with_reducible rfl)))); simp only [Act.put, List.setIfInBounds_toArray, List.set_cons_zero, List.set_cons_succ]) | ((with_reducible refine PlanS_isTake ?_); refine PlanS_skip rfl ?_ ?_; (focus rfl); simp only [Act.put, List.setIfInBounds_toArray, List.set_cons_zero, List.set_cons_succ]) | ((with_reducible refine PlanS_isRun ?_); refine PlanS_run rfl (fun K hK => ?_); go_simp) | ((with_reducible refine And.intro ?_ (PlanS_is ?_)); (focus (exact ⟨l0, l1, l2, l3⟩))) | ((with_reducible refine PlanS_alt ?_ ?_)) | ((with_reducible refine PlanS_done ?_)))
                go_roundw
                case rel => exact ⟨j + 1, d + 1, by omega, by simp, rfl⟩
                case measure => simp [intOf]; omega
              · have hje : j = m := by omega
                subst hje
                clear hjm
                go_wp2_with fail
                go_roundw
                case rel => exact ⟨k + 1, v4, L4, r4, q4, by omega, by omega, by go_num, H4.out.drewN d⟩
                case measure => simp [intOf]; omega
        · go_wp2_with fail
          go_ret
          exact ⟨rfl, HT.out.rs.bel⟩

theorem slotTurns_walk (stay : Int) (ws : (Lit.int .i64 stay).wf = true) (x : Option Addr × Nat × Nat × List (Int × Int)) (W : World) (ox : ActsAt W x) :
    Calls Try.prog 8 #[.int .i64 stay, .slice x.1 x.2.1 x.2.2.1] W fun e w' => e = .returned (.bool true) ∧ Below W.heap.size W w' :=
  turns_walk x.1 x.2.1 x.2.2.1 x.2.2.2 stay W ox.2.2 ox.1 ox.2.1

namespace slotTurns
set_option linter.unusedVariables false
open Go.ChangeShapes Go.WideShapes Go.ChangeAt Go.RowKit Go.As
theorem own : ownKnob Try.prog.godebug = none := by kernel_rfl
theorem laidOut : laidOutB Try.prog = true := by kernel_rfl
set_option maxRecDepth 100000 in
theorem lifted (os : Os) (started : os.Started) (H : Type) (enc : TypeId × Value → H) :
    ReturnsInHanded {} Try.checked os 8 .any (Rows.slotTurnsSpec.pre6 enc Try.prog Try.f8 Rows.slotTurnsRow.domain false) (Rows.slotTurnsSpec.post enc Try.prog Try.f8 false true false false) := by
  refine returnsInHanded_of_change (C := Try.checked) own started (by kernel_rfl) Try.func8
    (ChangeSpec.witness6 (enc := enc) (C := Try.checked) false ⟨#[], #[.int .i64 0, .slice none 0 0], []⟩ 8 (by kernel_rfl) (by kernel_rfl) (by kernel_rfl) (by kernel_rfl)) ?_
  intro W base args ds gs before hval0 hW hcnd _
  have hval : ∀ (j : Nat) t v, Try.f8.params[j]? = some t → args[j]? = some v → Value.okWide Try.prog W .any base t v := hval0
  have hW' := hW
  obtain ⟨p, q, hA0, hV, hpq, hfz, hnd⟩ := hW
  have hA : DataW.TrodAll enc Try.prog W 0 (fun _ => true) true Try.f8.params.toList args.toList ds p := hA0
  have hlt : ∀ x ∈ p, x.block < W.heap.size := fun x hx => hW'.lt x (by rw [hpq]; exact List.mem_append_left _ hx)
  rw [Try.params8] at hA hval
  obtain ⟨v0, vs0, d0, ds0, p0, q0, hargs, rfl, hp0, h0, r0⟩ := trodAll_cons hA
  obtain ⟨v1, vs1, d1, ds1, p1, q1, rfl, rfl, hp1, h1, r1⟩ := trodAll_cons r0
  obtain ⟨rfl, rfl, hpn⟩ := trodAll_nil r1
  obtain rfl : args = #[v0, v1] := by cases args; simp_all
  obtain ⟨rfl, rfl⟩ := trodVars_none hV
  obtain ⟨a0, rfl, rfl, -, w0⟩ := open_int Try.underlying3 (hval 0 3 v0 rfl rfl) h0
  obtain ⟨x1, rfl, o1⟩ := acts_open (hval 1 _ v1 rfl rfl) h1 (fun x hx => hlt x (by simp_all))
  refine (slotTurns_walk a0 w0 x1 W o1).mono fun e W' ⟨he, hg⟩ => ?_
  subst he
  exact ⟨_, rfl, law_post (T := 4) laidOut (by kernel_rfl) Try.underlying4 rfl rfl hW' rfl rfl rfl hg⟩
theorem over : Rows.slotTurnsRow.holds Try.pinned (OpenSpec.ofChange Rows.slotTurnsSpec) :=
  OpenClaim.holds_of_wide 8 Try.f8 rfl rfl rfl rfl rfl rfl rfl ⟨rfl, rfl, rfl, rfl, rfl⟩ rfl rfl rfl rfl rfl (by kernel_rfl) Try.func8 (by kernel_rfl)
    (of_decide_eq_true (by kernel_rfl)) (by unfold Func.isWrapper; rw [if_neg (of_decide_eq_false (by kernel_rfl))]; exact ⟨rfl, rfl⟩)
    (fun os started H enc _ => lifted os started H enc)
/-- the statement -/
theorem proved : Rows.SlotTurnsSaid := over
#print axioms proved
end slotTurns
end Go.Proofs.Ytlfpkepgamnidaa
