/- The law ProtoReplies: the lines of replies, of any numbers and texts, and the job of any line, are the document's, or just its error is told; every input. -/
import Derived.Test.YtldkcfhigcmoaaaDoorDoor
import Derived.Test.YtldkcfhigcmoaaaDoorProtoF
import Derived.Test.YtldkcfhigcmoaaaDoorProtoH
import Derived.Test.YtldkcfhigcmoaaaDoorProtoJ
import Derived.Deep.CutBlock
import Derived.Deep.DeepCutAuto
namespace Go.Proofs.YtldkcfhigcmoaaaDoor
open Go.RowKit Go.As
set_option linter.unusedVariables false

set_option maxRecDepth 100000 in
set_option maxHeartbeats 6400000 in
theorem protoReplies_walk (id : Int) (hid : (Lit.int .i64 id).wf = true) (nn : Int) (hnn : (Lit.int .i64 nn).wf = true) (er : Int) (her : (Lit.int .i64 er).wf = true) (text : List UInt8) (htx : text.length ≤ maxLen) (line : List UInt8) (hli : line.length ≤ maxLen) (x : JArg) (w : World) (ox : JOk x) (ht : Tab w) :
    Calls Tryd.prog 6 #[.int .i64 id, .int .i64 nn, .int .i64 er, .string (str text), .string (str line), .agg (jobC x.1 x.2.1 x.2.2.1 x.2.2.2.1 x.2.2.2.2.1 x.2.2.2.2.2.1 x.2.2.2.2.2.2.1 x.2.2.2.2.2.2.2)] w fun e w' => e = .returned (.bool true) ∧ Below w.heap.size w w' := by
  obtain ⟨i1, i2⟩ := i64_bnd hid
  obtain ⟨n1, n2⟩ := i64_bnd hnn
  obtain ⟨e1, e2⟩ := i64_bnd her
  obtain ⟨ja, jb, jc, jd, je, jf, jg, jh⟩ := x
  obtain ⟨oa, ob, oc, od, oe, of_, og, oh⟩ := ox
  simp only at oa ob oc od oe of_ og oh ⊢
  replace htx : text.length ≤ 9223372036854775807 := by simp only [maxLen] at htx; omega
  replace hli : line.length ≤ 9223372036854775807 := by simp only [maxLen] at hli; omega
  have HO := Lib.hid (And.intro oa (And.intro od (And.intro oe (And.intro of_ (And.intro og oh)))))
  clear hid hnn her oa ob oc od oe of_ og oh
  unfold jobC
  have HT := Lib.hid (ht.below ((Below.refl w.heap.size w).alloc (Nat.le_refl _) (.cells (jobC ja jb jc jd je jf jg jh) 53)))
  have HB := Lib.hid ((Below.refl w.heap.size w).alloc (Nat.le_refl _) (.cells (jobC ja jb jc jd je jf jg jh) 53))
  have HJ := Lib.hid (JobAt.new w 53 ja jb jc jd je jf jg jh)
  clear ht
  by_cases hb1 : 1000 < line.length
  · have hbi : (1000 : Int) < line.length := by omega
    go_enter Tryd.func6, Tryd.ntmps6
    go_wp2_with fail
    go_ret
    exact ⟨rfl, HB.out⟩
  by_cases hb2 : 1000 < text.length
  · have hbi : ¬ (1000 : Int) < line.length := by omega
    have hbj : (1000 : Int) < text.length := by omega
    go_enter Tryd.func6, Tryd.ntmps6
    go_wp2_with fail
    go_ret
    exact ⟨rfl, HB.out⟩
  have hbi : ¬ (1000 : Int) < line.length := by omega
  have hbj : ¬ (1000 : Int) < text.length := by omega
  have HL := Lib.hid (show line.length ≤ 1048576 ∧ text.length ≤ 1048576 from ⟨by omega, by omega⟩)
  clear hb1 hb2
  obtain ⟨a0, a1, a2, a3, a4, a5, a6, a7, hJ, -⟩ := rjJ_form line
  have HJF := Lib.hid hJ
  obtain ⟨F, hF⟩ : ∃ F, F = rjF line := ⟨_, rfl⟩
  obtain ⟨G, hG⟩ : ∃ G, G = rjGood line := ⟨_, rfl⟩
  obtain ⟨WD, hWD⟩ : ∃ W, W = rjW line := ⟨_, rfl⟩
  have HFG := Lib.hid (show (F = 0 ∧ G = true) ∨ (F = 4 ∧ G = false) from by
    rw [hF, hG]
    unfold rjF
    cases rjGood line
    · exact .inr ⟨rfl, rfl⟩
    · exact .inl ⟨rfl, rfl⟩)
  have HE := Lib.hid (And.intro hF (And.intro hG hWD))
  clear hJ hF hG hWD
  go_enter Tryd.func6, Tryd.ntmps6
  go_upto_region 5 with (first
    | (go_at_call 34
       refine (oreadjob_any line HL.out.1 _ HT.out).mono ?_
       rw [HJF.out, ← HE.out.1, ← HE.out.2.2]
       unfold jobC
       rintro e' w1 ⟨rfl, hb⟩
       have HB1 := Lib.hid hb
       clear hb)
    | (go_at_call 35
       refine (rreadjob_any line HL.out.1 _).mono ?_
       rw [HJF.out, ← HE.out.2.1, ← HE.out.2.2]
       unfold jobC
       rintro e' w2 ⟨rfl, hb⟩
       have HB2 := Lib.hid hb
       clear hb))
  have b2 := HB2.out
  have hlt1 : w.heap.size < w1.heap.size := Nat.lt_of_lt_of_le (by simp) HB1.out.size
  have hba : Below w.heap.size w (w1.alloc (.cells #[.int .i64 a0, .int .i64 a1, .int .i64 a2, .int .i64 a3, .int .i64 a4, .int .i64 a5, .int .i64 a6, .int .i64 a7] 53)) := below_alloc (below_then HB.out HB1.out) _
  have hbb : Below w.heap.size w (w2.alloc (.cells #[.int .i64 a0, .int .i64 a1, .int .i64 a2, .int .i64 a3, .int .i64 a4, .int .i64 a5, .int .i64 a6, .int .i64 a7] 53)) := below_alloc (below_then hba b2) _
  have j11 : JobAt (w2.alloc (.cells #[.int .i64 a0, .int .i64 a1, .int .i64 a2, .int .i64 a3, .int .i64 a4, .int .i64 a5, .int .i64 a6, .int .i64 a7] 53)) w.heap.size ja jb jc jd je jf jg jh :=
    JobAt.below (JobAt.below (JobAt.below (JobAt.below HJ.out HB1.out (by simp)) (below_alloc (Below.refl _ _) (.cells #[.int .i64 a0, .int .i64 a1, .int .i64 a2, .int .i64 a3, .int .i64 a4, .int .i64 a5, .int .i64 a6, .int .i64 a7] 53)) hlt1) b2 (by simp; omega)) (below_alloc (Below.refl _ _) (.cells #[.int .i64 a0, .int .i64 a1, .int .i64 a2, .int .i64 a3, .int .i64 a4, .int .i64 a5, .int .i64 a6, .int .i64 a7] 53)) (Nat.lt_of_lt_of_le (by simp; omega) b2.size)
  have j14 : JobAt (w2.alloc (.cells #[.int .i64 a0, .int .i64 a1, .int .i64 a2, .int .i64 a3, .int .i64 a4, .int .i64 a5, .int .i64 a6, .int .i64 a7] 53)) w1.heap.size a0 a1 a2 a3 a4 a5 a6 a7 :=
    JobAt.below (JobAt.below (JobAt.new w1 53 a0 a1 a2 a3 a4 a5 a6 a7) b2 (by simp)) (below_alloc (Below.refl _ _) (.cells #[.int .i64 a0, .int .i64 a1, .int .i64 a2, .int .i64 a3, .int .i64 a4, .int .i64 a5, .int .i64 a6, .int .i64 a7] 53)) (Nat.lt_of_lt_of_le (by simp) b2.size)
  have j17 : JobAt (w2.alloc (.cells #[.int .i64 a0, .int .i64 a1, .int .i64 a2, .int .i64 a3, .int .i64 a4, .int .i64 a5, .int .i64 a6, .int .i64 a7] 53)) w2.heap.size a0 a1 a2 a3 a4 a5 a6 a7 := JobAt.new w2 53 a0 a1 a2 a3 a4 a5 a6 a7
  have HTT := Lib.hid (show Tab (w2.alloc (.cells #[.int .i64 a0, .int .i64 a1, .int .i64 a2, .int .i64 a3, .int .i64 a4, .int .i64 a5, .int .i64 a6, .int .i64 a7] 53)) from HT.out.below (below_alloc (below_then (below_alloc HB1.out (.cells #[.int .i64 a0, .int .i64 a1, .int .i64 a2, .int .i64 a3, .int .i64 a4, .int .i64 a5, .int .i64 a6, .int .i64 a7] 53)) b2) (.cells #[.int .i64 a0, .int .i64 a1, .int .i64 a2, .int .i64 a3, .int .i64 a4, .int .i64 a5, .int .i64 a6, .int .i64 a7] 53)))
  have HBB := Lib.hid hbb
  have HJ11 := Lib.hid j11
  have HJ14 := Lib.hid j14
  have HJ17 := Lib.hid j17
  clear b2 hba hbb j11 j14 j17 HB HT HJ HB1 HB2 hlt1
  obtain ⟨k11, hk11⟩ : ∃ k, k = w.heap.size := ⟨_, rfl⟩
  rw [← hk11] at HJ11
  simp only [← hk11]
  generalize (w2.alloc (.cells #[.int .i64 a0, .int .i64 a1, .int .i64 a2, .int .i64 a3, .int .i64 a4, .int .i64 a5, .int .i64 a6, .int .i64 a7] 53)) = W5 at *
  generalize w1.heap.size = k14 at *
  generalize w2.heap.size = k17 at *
  clear hk11
  go_cut [61] (fun sv wx => sv = .bool false ∧ wx = W5)
  case first =>
    obtain ⟨x0, x1, x2, x3, x4, x5, x6, x7⟩ := HJ14.out
    obtain ⟨y0, y1, y2, y3, y4, y5, y6, y7⟩ := HJ17.out
    have hqi := fun W => run_eqi_job a0 a1 a2 a3 a4 a5 a6 a7 a0 a1 a2 a3 a4 a5 a6 a7 W
    rw [jEq_self] at hqi
    unfold jobC at hqi
    have hgd := jobGuard
    rcases HFG.out with ⟨rfl, rfl⟩ | ⟨rfl, rfl⟩
    · go_wp2_with fail
      go_meet
      case rel => exact ⟨rfl, rfl⟩
    · go_wp2_with fail
      go_meet
      case rel => exact ⟨rfl, rfl⟩
  case rest =>
    obtain ⟨rfl, hwx⟩ := hcut
    have hwx' := hwx.symm
    subst hwx'
    clear hwx HJ14 HJ17 HFG HE HJF
    go_upto_region 7 with fail
    go_cut [19] (fun sv wx => sv = .bool true ∧ Below W5.heap.size W5 wx)
    case first =>
      have hl1 := itoa_len e1 e2
      have hl2 := itoa_len n1 n2
      have hl3 := HL.out.2
      have H0 := Lib.hid (Below.refl W5.heap.size W5)
      go_wp2_with (first
        | (go_at_call 36
           go_must (refine (odone_any id i1 i2 _ HTT.out).mono ?_
                    rintro e' wD ⟨rfl, hb⟩
                    have HTD := Lib.hid (HTT.out.below hb)
                    have HBD := Lib.hid (below_then H0.out hb)
                    clear hb))
        | (go_at_call 37
           refine (rdone_any id i1 i2 _).mono ?_
           rintro e' w' ⟨rfl, rfl⟩)
        | (go_at_call 38
           go_must (refine (ofail_any er e1 e2 _ HTD.out).mono ?_
                    rintro e' wF ⟨rfl, hb⟩
                    have HTF := Lib.hid (HTD.out.below hb)
                    have HBF := Lib.hid (below_then HBD.out hb)
                    clear hb))
        | (go_at_call 39
           go_must (refine (otrace_any nn n1 n2 text HL.out.2 _ HTF.out).mono ?_
                    rintro e' wT ⟨rfl, hb⟩
                    have HTG := Lib.hid (HTF.out.below hb)
                    have HBT := Lib.hid (below_then HBF.out hb)
                    clear hb))
        | (go_at_call 40
           go_must (refine (oend_any nn n1 n2 _ HTG.out).mono ?_
                    rintro e' wE ⟨rfl, hb⟩
                    have HBE := Lib.hid (below_then HBT.out hb)
                    clear hb))
        | (go_at_call 23
           refine (rdec_any _ (by assumption) (by assumption) _).mono ?_
           rintro e' w' ⟨rfl, rfl⟩))
      go_meet
      case rel => exact ⟨by simp, HBE.out⟩
    case rest =>
      obtain ⟨rfl, hb6⟩ := hcut
      obtain ⟨W6, hW6⟩ : ∃ W, W = wc := ⟨_, rfl⟩
      subst hW6
      replace HJ11 := Lib.hid (JobAt.below HJ11.out hb6 (World.block_lt_of_cell? W5 _ HJ11.out.1))
      replace HTT := Lib.hid (HTT.out.below hb6)
      replace HBB := Lib.hid (below_then HBB.out hb6)
      clear hb6
      go_upto_region 8 with fail
      refine wp_region_planS (fun W => W.cell? ⟨k11, 0, none⟩ = some (.int .i64 ja) ∧ W.cell? ⟨k11, 1, none⟩ = some (.int .i64 jb) ∧ W.cell? ⟨k11, 2, none⟩ = some (.int .i64 jc) ∧ W.cell? ⟨k11, 3, none⟩ = some (.int .i64 jd) ∧ W.cell? ⟨k11, 4, none⟩ = some (.int .i64 je) ∧ W.cell? ⟨k11, 5, none⟩ = some (.int .i64 jf) ∧ W.cell? ⟨k11, 6, none⟩ = some (.int .i64 jg) ∧ W.cell? ⟨k11, 7, none⟩ = some (.int .i64 jh)) (.take 0 <| .take 1 <| .take 2 <| .take 3 <| .take 5 <| .take 6 <| .run 4 <| .run 7 <| .take 8 <| .take 9 <| .take 10 <| .take 11 <| .take 13 <| .run 12 <| .run 14 <| .take 15 <| .take 16 <| .take 17 <| .take 18 <| .take 20 <| .run 19 <| .run 21 <| .take 22 <| .take 23 <| .take 24 <| .done) (by kernel_rfl) (by kernel_rfl) (by kernel_rfl) (by kernel_rfl) (by exact HJ11.out) ?_
      go_wp2_with (first
        | (go_at_call 41
           go_must (refine (ojob_any text ja jb jc jd je jf jg jh HO.out.1 HO.out.2.1 HO.out.2.2.1 HO.out.2.2.2.1 HO.out.2.2.2.2.1 HO.out.2.2.2.2.2 HL.out.2 _ (by exact HTT.out)).mono ?_
                    rintro e' w7 ⟨rfl, hb⟩
                    replace HJ11 := Lib.hid (show JobAt w7 k11 ja jb jc jd je jf jg jh from JobAt.below (by exact HJ11.out) hb (World.block_lt_of_cell? _ _ (show _ = _ from HJ11.out.1)))
                    replace HTT := Lib.hid (show Tab w7 from Tab.below (by exact HTT.out) hb)
                    replace HBB := Lib.hid (show Below w.heap.size w w7 by first | exact below_then HBB.out hb | exact below_then HBB.out.drew hb)
                    clear hb))
        | (go_at_call 42
           go_must (refine (rjob_any text ja jb jc jd je jf jg jh HO.out.1 HO.out.2.1 HO.out.2.2.1 HO.out.2.2.2.1 HO.out.2.2.2.2.1 HO.out.2.2.2.2.2 HL.out.2 _).mono ?_
                    rintro e' w8 ⟨rfl, hb⟩
                    replace HJ11 := Lib.hid (show JobAt w8 k11 ja jb jc jd je jf jg jh from JobAt.below (by exact HJ11.out) hb (World.block_lt_of_cell? _ _ (show _ = _ from HJ11.out.1)))
                    replace HTT := Lib.hid (show Tab w8 from Tab.below (by exact HTT.out) hb)
                    replace HBB := Lib.hid (show Below w.heap.size w w8 by first | exact below_then HBB.out hb | exact below_then HBB.out.drew hb)
                    clear hb))
        | (go_at_call 43
           refine (ostate_any nn _).mono ?_
           rintro e' w' ⟨rfl, rfl⟩)
        | (go_at_call 44
           go_must (refine (rstate_any nn _).mono ?_
                    rintro e' w9 ⟨rfl, hb⟩
                    replace HJ11 := Lib.hid (show JobAt w9 k11 ja jb jc jd je jf jg jh from JobAt.below (by exact HJ11.out) hb (World.block_lt_of_cell? _ _ (show _ = _ from HJ11.out.1)))
                    replace HTT := Lib.hid (show Tab w9 from Tab.below (by exact HTT.out) hb)
                    replace HBB := Lib.hid (show Below w.heap.size w w9 by first | exact below_then HBB.out hb | exact below_then HBB.out.drew hb)
                    clear hb))
        | (go_at_call 45
           refine (ohow_any nn _).mono ?_
           rintro e' w' ⟨rfl, rfl⟩)
        | (go_at_call 46
           go_must (refine (rhow_any nn _).mono ?_
                    rintro e' w10 ⟨rfl, hb⟩
                    replace HJ11 := Lib.hid (show JobAt w10 k11 ja jb jc jd je jf jg jh from JobAt.below (by exact HJ11.out) hb (World.block_lt_of_cell? _ _ (show _ = _ from HJ11.out.1)))
                    replace HTT := Lib.hid (show Tab w10 from Tab.below (by exact HTT.out) hb)
                    replace HBB := Lib.hid (show Below w.heap.size w w10 by first | exact below_then HBB.out hb | exact below_then HBB.out.drew hb)
                    clear hb))
        | ((with_reducible refine PlanS_isTake ?_); refine PlanS_take (v := ?_) rfl ?_ (fun w hSw => ?_) ?_; rotate_left 1; (focus rfl); (focus ((try dsimp only at hSw); (first | (go_simp; done) | (go_simp; with_reducible rfl)))); simp only [Act.put, List.setIfInBounds_toArray, List.set_cons_zero, List.set_cons_succ]) | ((with_reducible refine PlanS_isTake ?_); refine PlanS_skip rfl ?_ ?_; (focus rfl); simp only [Act.put, List.setIfInBounds_toArray, List.set_cons_zero, List.set_cons_succ]) | ((with_reducible refine PlanS_isRun ?_); refine PlanS_run rfl (fun K hK => ?_); go_simp) | ((with_reducible refine And.intro ?_ (PlanS_is ?_)); (focus ((exact HJ11.out)))) | ((with_reducible refine PlanS_alt ?_ ?_)) | ((with_reducible refine PlanS_done ?_)))
      go_ret
      exact ⟨rfl, HBB.out⟩
namespace protoReplies
set_option linter.unusedVariables false
open Go.ChangeShapes Go.WideShapes Go.ChangeAt Go.RowKit Go.As
theorem own : ownKnob Tryd.prog.godebug = none := by kernel_rfl
theorem laidOut : laidOutB Tryd.prog = true := by kernel_rfl
theorem door_met (os : Os) (args : Array Value) : laidMetH Tryd.prog Rows.protoRepliesRow.laid ((World.doorLaid Tryd.prog 24 os).forCall (fun _ _ => 0) ⟨#[], args, []⟩).memory :=
  laidMetH_of_parts3 (fuel := 8) (laidMet_of_run' 8 (by kernel_rfl) (by kernel_rfl)) (by kernel_rfl) (by kernel_rfl)
set_option maxRecDepth 100000 in
theorem lifted (os : Os) (started : os.Started) (H : Type) (enc : TypeId × Value → H) :
    ReturnsInHanded {} Tryd.checked os 6 .any (fun w args => (Rows.protoRepliesSpec.pre enc Tryd.prog Tryd.f6 [] false w args ∧ laidMetH Tryd.prog Rows.protoRepliesRow.laid w) ∧ sizedMet enc Tryd.prog Tryd.f6 (OpenSpec.ofChange Rows.protoRepliesSpec) false w args) (Rows.protoRepliesSpec.post enc Tryd.prog Tryd.f6 false true false false) := by
  refine returnsInHanded_of_change_and (C := Tryd.checked) (X := fun w _ => laidMetH Tryd.prog Rows.protoRepliesRow.laid w) (fun _ _ _ hh h => h.of_heap hh) own started (by kernel_rfl) Tryd.func6
    (ChangeSpec.witness_shaped (enc := enc) (C := Tryd.checked) (os := os) (X := fun w _ => laidMetH Tryd.prog Rows.protoRepliesRow.laid w) false (World.doorLaid Tryd.prog 24 os) #[.int .i64 0, .int .i64 0, .int .i64 0, .string ⟨#[]⟩, .string ⟨#[]⟩, .agg #[.int .i64 0, .int .i64 0, .int .i64 0, .int .i64 0, .int .i64 0, .int .i64 0, .int .i64 0, .int .i64 0]] 8 rfl (World.shaped_of_RefB (by kernel_rfl) (by kernel_rfl)) (by kernel_rfl) (by kernel_rfl) (by kernel_rfl) (door_met os _)) ?_
  intro W base args ds gs before hval0 hW hcnd _ hL _
  have hval : ∀ (j : Nat) t v, Tryd.f6.params[j]? = some t → args[j]? = some v → Value.okWide Tryd.prog W .any base t v := hval0
  have hW' := hW
  obtain ⟨p, q, hA0, hV, hpq, hfz, hnd⟩ := hW
  have hA : DataW.TrodAll enc Tryd.prog W 0 (fun _ => true) true Tryd.f6.params.toList args.toList ds p := hA0
  have hlt : ∀ x ∈ p, x.block < W.heap.size := fun x hx => hW'.lt x (by rw [hpq]; exact List.mem_append_left _ hx)
  rw [Tryd.params6] at hA hval
  obtain ⟨v0, vs0, d0, ds0, p0, q0, hargs, rfl, hp0, h0, r0⟩ := trodAll_cons hA
  obtain ⟨v1, vs1, d1, ds1, p1, q1, rfl, rfl, hp1, h1, r1⟩ := trodAll_cons r0
  obtain ⟨v2, vs2, d2, ds2, p2, q2, rfl, rfl, hp2, h2, r2⟩ := trodAll_cons r1
  obtain ⟨v3, vs3, d3, ds3, p3, q3, rfl, rfl, hp3, h3, r3⟩ := trodAll_cons r2
  obtain ⟨v4, vs4, d4, ds4, p4, q4, rfl, rfl, hp4, h4, r4⟩ := trodAll_cons r3
  obtain ⟨v5, vs5, d5, ds5, p5, q5, rfl, rfl, hp5, h5, r5⟩ := trodAll_cons r4
  obtain ⟨rfl, rfl, hpn⟩ := trodAll_nil r5
  obtain rfl : args = #[v0, v1, v2, v3, v4, v5] := by cases args; simp_all
  obtain ⟨rfl, rfl⟩ := trodVars_none hV
  obtain ⟨a0, rfl, rfl, -, w0⟩ := open_int Tryd.underlying3 (hval 0 3 v0 rfl rfl) h0
  obtain ⟨a1, rfl, rfl, -, w1⟩ := open_int Tryd.underlying3 (hval 1 3 v1 rfl rfl) h1
  obtain ⟨a2, rfl, rfl, -, w2⟩ := open_int Tryd.underlying25 (hval 2 25 v2 rfl rfl) h2
  obtain ⟨s3, rfl, rfl, -, w3⟩ := ChangeMaps.open_string Tryd.underlying9 (hval 3 9 v3 rfl rfl) h3
  obtain ⟨l3, rfl⟩ := exists_str s3
  rw [str_size] at w3
  obtain ⟨s4, rfl, rfl, -, w4⟩ := ChangeMaps.open_string Tryd.underlying9 (hval 4 9 v4 rfl rfl) h4
  obtain ⟨l4, rfl⟩ := exists_str s4
  rw [str_size] at w4
  obtain ⟨x5, rfl, o5⟩ := job_open (hval 5 _ v5 rfl rfl) h5 (fun x hx => hlt x (by simp_all))
  refine (protoReplies_walk a0 w0 a1 w1 a2 w2 l3 w3 l4 w4 x5 W o5 (tab_of_laid (laid := Rows.protoRepliesRow.laid) rfl hL)).mono fun e W' ⟨he, hg⟩ => ?_
  subst he
  exact ⟨_, rfl, law_post (T := 4) laidOut (by kernel_rfl) Tryd.underlying4 rfl rfl hW' rfl rfl rfl hg⟩
theorem over : Rows.protoRepliesRow.holds Tryd.pinned (OpenSpec.ofChange Rows.protoRepliesSpec) :=
  OpenClaim.holds_of_wide 6 Tryd.f6 rfl rfl rfl rfl rfl rfl rfl ⟨rfl, rfl, rfl, rfl, rfl⟩ rfl rfl rfl rfl rfl (by kernel_rfl) Tryd.func6 (by kernel_rfl)
    (of_decide_eq_true (by kernel_rfl)) (by unfold Func.isWrapper; rw [if_neg (of_decide_eq_false (by kernel_rfl))]; exact ⟨rfl, rfl⟩)
    (fun os started H enc _ => lifted os started H enc)
/-- the statement -/
theorem proved : Rows.ProtoRepliesCardSaid :=
  Claim7.holds_tied_plain_at .later [] [.data, .data, .data] true (true, "c5dbe156eb60a59730607763013cde13550478e2496cc4cac80feebce387f0b5") false over (fun _ h => by cases h) (by kernel_rfl) (fun _ h => by cases h) protoReplies_row_tie rfl ⟨rfl, rfl⟩ (by kernel_rfl) rfl
    (fun f fn hf hfn => by
      obtain rfl : f = 6 := Option.some.inj ((show Tryd.prog.funcNamed "assize/assizelaw28.ProtoReplies" = some 6 by kernel_rfl).symm.trans hf) |>.symm
      obtain rfl : fn = Tryd.f6 := (Option.some.inj (Tryd.func6.symm.trans hfn)).symm
      exact ⟨by kernel_rfl, fun j t ht => by
        rw [Tryd.params6] at ht
        have hm : t ∈ [3, 3, 25, 9, 9, 53] := by simpa using Array.mem_of_getElem? ht
        have hall : ([3, 3, 25, 9, 9, 53].all fun u => !Tryd.prog.wantsStandIn u) = true := by kernel_rfl
        exact (show Tryd.prog.wantsStandIn t = false by simpa using List.all_eq_true.1 hall t hm)⟩)
    (by kernel_rfl)
#print axioms proved
end protoReplies
end Go.Proofs.YtldkcfhigcmoaaaDoor
