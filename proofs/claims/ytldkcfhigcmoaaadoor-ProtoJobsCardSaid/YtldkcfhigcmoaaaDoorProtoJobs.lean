/- The law ProtoJobs: a job that may be is read of its line, and the line of what is read is the line; every input. -/
import Derived.Test.YtldkcfhigcmoaaaDoorDoor
import Derived.Test.YtldkcfhigcmoaaaDoorProtoF
import Derived.Test.YtldkcfhigcmoaaaDoorProtoJ
import Derived.Test.YtldkcfhigcmoaaaDoorProtoR
import Derived.Test.YtldkcfhigcmoaaaDoorProtoS
import Derived.Deep.CutBlock
import Derived.Deep.DeepCutAuto
namespace Go.Proofs.YtldkcfhigcmoaaaDoor
open Go.RowKit Go.As
set_option linter.unusedVariables false

/-- are the numbers within their bounds, do the state and the end go together -/
def bndB (a d e f g h : Int) : Bool := decide (1 ≤ a ∧ a ≤ 1073741824 ∧ 1 ≤ d ∧ d ≤ 1099511627776 ∧ 1 ≤ e ∧ e ≤ 1024 ∧ 0 ≤ f ∧ f ≤ 9223372036854775807 ∧ 0 ≤ g ∧ g ≤ 9223372036854775807 ∧ 0 ≤ h ∧ h ≤ 9223372036854775807)
def okB2 (b c : Int) : Bool := decide ((b = 2 ∧ 2 ≤ c ∧ c ≤ 5) ∨ (0 ≤ b ∧ b ≤ 4 ∧ b ≠ 2 ∧ c = 0))
theorem bndB_yes {a d e f g h : Int} (hh : bndJ a d e f g h) : bndB a d e f g h = true := by unfold bndB; exact decide_eq_true hh
theorem bndB_no {a d e f g h : Int} (hh : ¬ bndJ a d e f g h) : bndB a d e f g h = false := by unfold bndB; exact decide_eq_false hh
theorem bndB_of {a d e f g h : Int} (hh : bndB a d e f g h = true) : bndJ a d e f g h := by unfold bndB at hh; unfold bndJ; exact of_decide_eq_true hh
theorem okB2_yes {b c : Int} (hh : okJ b c) : okB2 b c = true := by unfold okB2; exact decide_eq_true hh
theorem okB2_no {b c : Int} (hh : ¬ okJ b c) : okB2 b c = false := by unfold okB2; exact decide_eq_false hh
theorem okB2_of {b c : Int} (hh : okB2 b c = true) : okJ b c := by unfold okB2 at hh; unfold okJ; exact of_decide_eq_true hh

set_option maxRecDepth 100000 in
set_option maxHeartbeats 6400000 in
theorem protoJobs_walk (line : List UInt8) (hli : line.length ≤ maxLen) (x : JArg) (w : World) (ox : JOk x) (pg : Bool) (ht : Tab w) :
    Calls Tryd.prog 10 #[.string (str line), .agg (jobC x.1 x.2.1 x.2.2.1 x.2.2.2.1 x.2.2.2.2.1 x.2.2.2.2.2.1 x.2.2.2.2.2.2.1 x.2.2.2.2.2.2.2), .bool pg] w fun e w' => e = .returned (.bool true) ∧ Below w.heap.size w w' := by
  obtain ⟨ja, jb, jc, jd, je, jf, jg, jh⟩ := x
  obtain ⟨oa, ob, oc, od, oe, of_, og, oh⟩ := ox
  simp only at oa ob oc od oe of_ og oh ⊢
  replace hli : line.length ≤ 9223372036854775807 := by simp only [maxLen] at hli; omega
  have HO := Lib.hid (And.intro oa (And.intro od (And.intro oe (And.intro of_ (And.intro og oh)))))
  clear oa ob oc od oe of_ og oh
  unfold jobC
  have HT := Lib.hid (ht.below ((Below.refl w.heap.size w).alloc (Nat.le_refl _) (.cells (jobC ja jb jc jd je jf jg jh) 53)))
  have HB := Lib.hid ((Below.refl w.heap.size w).alloc (Nat.le_refl _) (.cells (jobC ja jb jc jd je jf jg jh) 53))
  have HJ := Lib.hid (JobAt.new w 53 ja jb jc jd je jf jg jh)
  clear ht
  go_enter Tryd.func10, Tryd.ntmps10
  go_upto_region 2 with (first
    | (go_at_call 56
       refine (pawake_any _).mono ?_
       rintro e' w1 ⟨rfl, hb⟩
       have HB1 := Lib.hid hb
       clear hb))
  obtain ⟨k4, hk4⟩ : ∃ k, k = w.heap.size := ⟨_, rfl⟩
  replace HJ := Lib.hid (show JobAt w1 k4 ja jb jc jd je jf jg jh from by rw [hk4]; exact JobAt.below HJ.out HB1.out (by simp))
  replace HT := Lib.hid (HT.out.below HB1.out)
  replace HB := Lib.hid (below_then HB.out HB1.out)
  simp only [← hk4]
  clear hk4 HB1
  by_cases hbig : 1000 < line.length
  · have hbi : (1000 : Int) < line.length := by omega
    go_wp2_with fail
    go_ret
    exact ⟨rfl, HB.out⟩
  have hbi : ¬ (1000 : Int) < line.length := by omega
  have HL := Lib.hid (show line.length ≤ 1048576 from by omega)
  clear hbig
  obtain ⟨a0, a1, a2, a3, a4, a5, a6, a7, hJ, i0, i3, i4, i5, i6, i7⟩ := rjJ_form line
  have HJF := Lib.hid hJ
  have HI := Lib.hid (And.intro i0 (And.intro i3 (And.intro i4 (And.intro i5 (And.intro i6 i7)))))
  obtain ⟨F, hF⟩ : ∃ F, F = rjF line := ⟨_, rfl⟩
  obtain ⟨WD, hWD⟩ : ∃ W, W = rjW line := ⟨_, rfl⟩
  have HFG := Lib.hid (show (F = 0 ∧ jobL WD a0 a1 a2 a3 a4 a5 a6 a7 = line) ∨ F = 4 from by
    rw [hF, hWD]
    unfold rjF
    cases hg : rjGood line
    · exact .inr rfl
    · exact .inl ⟨rfl, rj_line hg hJ⟩)
  have HW := Lib.hid (show WD.length ≤ 1048576 from by rw [hWD]; exact Nat.le_trans (rjW_len line) HL.out)
  have HE := Lib.hid (And.intro hF hWD)
  clear hJ hF hWD i0 i3 i4 i5 i6 i7
  go_upto_region 5 with (first
    | (go_at_call 34
       refine (oreadjob_any line HL.out _ HT.out).mono ?_
       rw [HJF.out, ← HE.out.1, ← HE.out.2]
       unfold jobC
       rintro e' w2 ⟨rfl, hb⟩
       have HB1 := Lib.hid hb
       clear hb))
  have hb3 := below_alloc HB1.out (.cells #[.int .i64 a0, .int .i64 a1, .int .i64 a2, .int .i64 a3, .int .i64 a4, .int .i64 a5, .int .i64 a6, .int .i64 a7] 53)
  have j9 := JobAt.new w2 53 a0 a1 a2 a3 a4 a5 a6 a7
  replace HJ := Lib.hid (JobAt.below HJ.out hb3 (World.block_lt_of_cell? w1 _ HJ.out.1))
  replace HT := Lib.hid (HT.out.below hb3)
  replace HB := Lib.hid (below_then HB.out hb3)
  unfold jobC at j9
  clear hb3 HB1
  generalize w2.heap.size = k9 at *
  generalize (w2.alloc (.cells #[.int .i64 a0, .int .i64 a1, .int .i64 a2, .int .i64 a3, .int .i64 a4, .int .i64 a5, .int .i64 a6, .int .i64 a7] 53)) = W5 at *
  go_cut [36] (fun sv wx => sv = .bool false ∧ Below W5.heap.size W5 wx)
  case first =>
    rcases HFG.out with ⟨rfl, hln⟩ | rfl
    · obtain ⟨x0, x1, x2, x3, x4, x5, x6, x7⟩ := j9
      have hl0 : (jobL WD a0 a1 a2 a3 a4 a5 a6 a7 == line) = true := by simpa using hln
      clear hln
      go_wp2_with (first
        | (go_at_call 41
           go_must (refine (ojob_any WD a0 a1 a2 a3 a4 a5 a6 a7 HI.out.1 HI.out.2.1 HI.out.2.2.1 HI.out.2.2.2.1 HI.out.2.2.2.2.1 HI.out.2.2.2.2.2 HW.out _ HT.out).mono ?_
                    rintro e' w3 ⟨rfl, hb⟩
                    have HB1 := Lib.hid hb
                    clear hb)))
      go_meet
      case rel => exact ⟨rfl, HB1.out⟩
    · clear j9
      go_wp2_with fail
      go_meet
      case rel => exact ⟨rfl, Below.refl _ _⟩
  case rest =>
    obtain ⟨rfl, hb6⟩ := hcut
    obtain ⟨W6, hW6⟩ : ∃ W, W = wc := ⟨_, rfl⟩
    subst hW6
    replace HJ := Lib.hid (JobAt.below HJ.out hb6 (World.block_lt_of_cell? W5 _ HJ.out.1))
    replace HT := Lib.hid (HT.out.below hb6)
    replace HB := Lib.hid (below_then HB.out hb6)
    clear hb6 j9 HFG HE HI HW HJF
    obtain ⟨WO, hWO⟩ : ∃ WO : List UInt8, WO = if pg = true then [80, 82, 79, 71, 82, 69, 83, 83] else [74, 79, 66] := ⟨_, rfl⟩
    have HWO := Lib.hid (show isJW WO ∧ WO.length ≤ 8 from by rw [hWO]; cases pg <;> simp [isJW])
    go_upto_region 7 with fail
    refine wp_region_lit ?_
    refine wpList_val (.string (str [74, 79, 66])) rfl (by kernel_rfl) ?_
    refine wpList_nil ?_
    simp only [Exit.then, Act.put, List.setIfInBounds_toArray, List.set_cons_zero, List.set_cons_succ]
    rename_i hK
    refine hK _ _ ?_
    refine wp_seq_k (fun K2 hK2 => ?_)
    go_cut [11] (fun sv wx => sv = .string (str WO) ∧ wx = W6)
    case first =>
      cases pg with
      | true =>
        simp only [if_true] at hWO
        subst hWO
        go_wp2_with fail
        go_meet
        case rel => exact ⟨rfl, rfl⟩
      | false =>
        simp only [Bool.false_eq_true, if_false] at hWO
        subst hWO
        go_wp2_with fail
        go_meet
        case rel => exact ⟨rfl, rfl⟩
    case rest =>
      obtain ⟨rfl, hwx⟩ := hcut
      have hwx' := hwx.symm
      subst hwx'
      clear hwx hWO
      obtain ⟨b0, b1, b2, b3, b4, b5, b6, b7, hJ2, -⟩ := rjJ_form (jobL WO ja jb jc jd je jf jg jh)
      obtain ⟨F2, hF2⟩ : ∃ F, F = rjF (jobL WO ja jb jc jd je jf jg jh) := ⟨_, rfl⟩
      obtain ⟨V2, hV2⟩ : ∃ V, V = rjW (jobL WO ja jb jc jd je jf jg jh) := ⟨_, rfl⟩
      have HJ2 := Lib.hid (And.intro hJ2 (And.intro hF2 hV2))
      have HLL := Lib.hid (jobL_short WO HWO.out.2 ja jb jc jd je jf jg jh HO.out.1 HO.out.2.1 HO.out.2.2.1 HO.out.2.2.2.1 HO.out.2.2.2.2.1 HO.out.2.2.2.2.2)
      clear hJ2 hF2 hV2
      obtain ⟨x0, x1, x2, x3, x4, x5, x6, x7⟩ := HJ.out
      go_upto_region 11 with (first
        | (go_at_call 41
           go_must (refine (ojob_any WO ja jb jc jd je jf jg jh HO.out.1 HO.out.2.1 HO.out.2.2.1 HO.out.2.2.2.1 HO.out.2.2.2.2.1 HO.out.2.2.2.2.2 (Nat.le_trans HWO.out.2 (by decide)) _ HT.out).mono ?_
                    rintro e' w7 ⟨rfl, hb⟩
                    have HB7 := Lib.hid hb
                    clear hb))
        | (go_at_call 34
           go_must (refine (oreadjob_any (jobL WO ja jb jc jd je jf jg jh) HLL.out _ (HT.out.below HB7.out)).mono ?_
                    rw [HJ2.out.1, ← HJ2.out.2.1, ← HJ2.out.2.2]
                    unfold jobC
                    rintro e' w8 ⟨rfl, hb⟩
                    have HB8 := Lib.hid (below_then HB7.out hb)
                    clear hb)))
      have hb9 := below_alloc HB8.out (.cells #[.int .i64 b0, .int .i64 b1, .int .i64 b2, .int .i64 b3, .int .i64 b4, .int .i64 b5, .int .i64 b6, .int .i64 b7] 53)
      have j13 := JobAt.new w8 53 b0 b1 b2 b3 b4 b5 b6 b7
      replace HJ := Lib.hid (JobAt.below HJ.out hb9 (World.block_lt_of_cell? W6 _ HJ.out.1))
      replace HB := Lib.hid (below_then HB.out hb9)
      unfold jobC at j13
      clear hb9 HB7 HB8 HT x0 x1 x2 x3 x4 x5 x6 x7
      generalize w8.heap.size = k13 at *
      generalize (w8.alloc (.cells #[.int .i64 b0, .int .i64 b1, .int .i64 b2, .int .i64 b3, .int .i64 b4, .int .i64 b5, .int .i64 b6, .int .i64 b7] 53)) = W7 at *
      have HJ13 := Lib.hid j13
      clear j13
      go_cut [15] (fun sv wx => sv = .bool (bndB ja jd je jf jg jh) ∧ wx = W7)
      case first =>
        obtain ⟨x0, x1, x2, x3, x4, x5, x6, x7⟩ := HJ.out
        by_cases q0 : 1 ≤ ja
        case neg =>
          have HM := Lib.hid (bndB_no (a := ja) (d := jd) (e := je) (f := jf) (g := jg) (h := jh) (fun h => by unfold bndJ at h; omega))
          go_wp2_with fail
          go_meet
          case rel => exact ⟨by rw [HM.out], rfl⟩
        by_cases q1 : ja ≤ 1073741824
        case neg =>
          have HM := Lib.hid (bndB_no (a := ja) (d := jd) (e := je) (f := jf) (g := jg) (h := jh) (fun h => by unfold bndJ at h; omega))
          go_wp2_with fail
          go_meet
          case rel => exact ⟨by rw [HM.out], rfl⟩
        by_cases q2 : 1 ≤ jd
        case neg =>
          have HM := Lib.hid (bndB_no (a := ja) (d := jd) (e := je) (f := jf) (g := jg) (h := jh) (fun h => by unfold bndJ at h; omega))
          go_wp2_with fail
          go_meet
          case rel => exact ⟨by rw [HM.out], rfl⟩
        by_cases q3 : jd ≤ 1099511627776
        case neg =>
          have HM := Lib.hid (bndB_no (a := ja) (d := jd) (e := je) (f := jf) (g := jg) (h := jh) (fun h => by unfold bndJ at h; omega))
          go_wp2_with fail
          go_meet
          case rel => exact ⟨by rw [HM.out], rfl⟩
        by_cases q4 : 1 ≤ je
        case neg =>
          have HM := Lib.hid (bndB_no (a := ja) (d := jd) (e := je) (f := jf) (g := jg) (h := jh) (fun h => by unfold bndJ at h; omega))
          go_wp2_with fail
          go_meet
          case rel => exact ⟨by rw [HM.out], rfl⟩
        by_cases q5 : je ≤ 1024
        case neg =>
          have HM := Lib.hid (bndB_no (a := ja) (d := jd) (e := je) (f := jf) (g := jg) (h := jh) (fun h => by unfold bndJ at h; omega))
          go_wp2_with fail
          go_meet
          case rel => exact ⟨by rw [HM.out], rfl⟩
        by_cases q6 : 0 ≤ jf
        case neg =>
          have HM := Lib.hid (bndB_no (a := ja) (d := jd) (e := je) (f := jf) (g := jg) (h := jh) (fun h => by unfold bndJ at h; omega))
          go_wp2_with fail
          go_meet
          case rel => exact ⟨by rw [HM.out], rfl⟩
        by_cases q7 : 0 ≤ jg
        case neg =>
          have HM := Lib.hid (bndB_no (a := ja) (d := jd) (e := je) (f := jf) (g := jg) (h := jh) (fun h => by unfold bndJ at h; omega))
          go_wp2_with fail
          go_meet
          case rel => exact ⟨by rw [HM.out], rfl⟩
        by_cases q8 : 0 ≤ jh
        case neg =>
          have HM := Lib.hid (bndB_no (a := ja) (d := jd) (e := je) (f := jf) (g := jg) (h := jh) (fun h => by unfold bndJ at h; omega))
          go_wp2_with fail
          go_meet
          case rel => exact ⟨by rw [HM.out], rfl⟩
        have HM := Lib.hid (bndB_yes (a := ja) (d := jd) (e := je) (f := jf) (g := jg) (h := jh) (by have := HO.out; unfold I64 at this; unfold bndJ; omega))
        go_wp2_with fail
        go_meet
        case rel => exact ⟨by rw [HM.out], rfl⟩
      case rest =>
        obtain ⟨rfl, hwx⟩ := hcut
        have hwx' := hwx.symm
        subst hwx'
        clear hwx
        go_upto_region 12 with fail
        go_cut [16] (fun sv wx => sv = .bool (okB2 jb jc) ∧ wx = W7)
        case first =>
          obtain ⟨x0, x1, x2, x3, x4, x5, x6, x7⟩ := HJ.out
          by_cases q1 : jb = 2
          · have qb : (jb == 2) = true := by simpa using q1
            have qn : (jb != 2) = false := by simpa using q1
            by_cases q2 : 2 ≤ jc
            · by_cases q3 : jc ≤ 5
              · have HM := Lib.hid (okB2_yes (b := jb) (c := jc) (by unfold okJ; omega))
                clear q1
                go_wp2_with fail
                go_meet
                case rel => exact ⟨by rw [HM.out], rfl⟩
              · have HM := Lib.hid (okB2_no (b := jb) (c := jc) (by unfold okJ; omega))
                clear q1
                go_wp2_with fail
                go_meet
                case rel => exact ⟨by rw [HM.out], rfl⟩
            · have HM := Lib.hid (okB2_no (b := jb) (c := jc) (by unfold okJ; omega))
              clear q1
              go_wp2_with fail
              go_meet
              case rel => exact ⟨by rw [HM.out], rfl⟩
          · have qb : (jb == 2) = false := by simpa using q1
            have qn : (jb != 2) = true := by simpa using q1
            by_cases q2 : 0 ≤ jb
            · by_cases q3 : jb ≤ 4
              · by_cases q4 : jc = 0
                · have HM := Lib.hid (okB2_yes (b := jb) (c := jc) (by unfold okJ; omega))
                  have q5 : (jc == 0) = true := by simpa using q4
                  clear q1 q4
                  go_wp2_with fail
                  go_meet
                  case rel => exact ⟨by rw [HM.out], rfl⟩
                · have HM := Lib.hid (okB2_no (b := jb) (c := jc) (by unfold okJ; omega))
                  have q5 : (jc == 0) = false := by simpa using q4
                  clear q1 q4
                  go_wp2_with fail
                  go_meet
                  case rel => exact ⟨by rw [HM.out], rfl⟩
              · have HM := Lib.hid (okB2_no (b := jb) (c := jc) (by unfold okJ; omega))
                clear q1
                go_wp2_with fail
                go_meet
                case rel => exact ⟨by rw [HM.out], rfl⟩
            · have HM := Lib.hid (okB2_no (b := jb) (c := jc) (by unfold okJ; omega))
              clear q1
              go_wp2_with fail
              go_meet
              case rel => exact ⟨by rw [HM.out], rfl⟩
        case rest =>
          obtain ⟨rfl, hwx⟩ := hcut
          have hwx' := hwx.symm
          subst hwx'
          clear hwx
          rcases hb1 : bndB ja jd je jf jg jh with _ | _
          · clear hb1
            go_wp2_with fail
            go_ret
            exact ⟨rfl, HB.out⟩
          rcases hb2 : okB2 jb jc with _ | _
          · clear hb1 hb2
            go_wp2_with fail
            go_ret
            exact ⟨rfl, HB.out⟩
          obtain ⟨r1, r2, r3⟩ := rj_back HWO.out.1 (bndB_of hb1) (okB2_of hb2)
          have hF2 : F2 = 0 := by rw [HJ2.out.2.1]; unfold rjF; rw [if_pos r1]
          have hV2 : V2 = WO := by rw [HJ2.out.2.2]; exact r2
          have hC2 := HJ2.out.1
          rw [r3] at hC2
          obtain ⟨e0, e1, e2, e3, e4, e5, e6, e7⟩ := jobC_inj hC2
          subst e0 e1 e2 e3 e4 e5 e6 e7 hF2 hV2
          obtain ⟨x0, x1, x2, x3, x4, x5, x6, x7⟩ := HJ.out
          obtain ⟨y0, y1, y2, y3, y4, y5, y6, y7⟩ := HJ13.out
          have hqi := fun W => run_eqi_job ja jb jc jd je jf jg jh ja jb jc jd je jf jg jh W
          rw [jEq_self] at hqi
          unfold jobC at hqi
          have hgd := jobGuard
          clear hb1 hb2 r1 r2 r3 hC2
          go_wp2_with fail
          go_ret
          exact ⟨rfl, HB.out⟩
namespace protoJobs
set_option linter.unusedVariables false
open Go.ChangeShapes Go.WideShapes Go.ChangeAt Go.RowKit Go.As
theorem own : ownKnob Tryd.prog.godebug = none := by kernel_rfl
theorem laidOut : laidOutB Tryd.prog = true := by kernel_rfl
theorem door_met (os : Os) (args : Array Value) : laidMetH Tryd.prog Rows.protoJobsRow.laid ((World.doorLaid Tryd.prog 24 os).forCall (fun _ _ => 0) ⟨#[], args, []⟩).memory :=
  laidMetH_of_parts3 (fuel := 8) (laidMet_of_run' 8 (by kernel_rfl) (by kernel_rfl)) (by kernel_rfl) (by kernel_rfl)
set_option maxRecDepth 100000 in
theorem lifted (os : Os) (started : os.Started) (H : Type) (enc : TypeId × Value → H) :
    ReturnsInHanded {} Tryd.checked os 10 .any (fun w args => (Rows.protoJobsSpec.pre enc Tryd.prog Tryd.f10 [] false w args ∧ laidMetH Tryd.prog Rows.protoJobsRow.laid w) ∧ sizedMet enc Tryd.prog Tryd.f10 (OpenSpec.ofChange Rows.protoJobsSpec) false w args) (Rows.protoJobsSpec.post enc Tryd.prog Tryd.f10 false true false false) := by
  refine returnsInHanded_of_change_and (C := Tryd.checked) (X := fun w _ => laidMetH Tryd.prog Rows.protoJobsRow.laid w) (fun _ _ _ hh h => h.of_heap hh) own started (by kernel_rfl) Tryd.func10
    (ChangeSpec.witness_shaped (enc := enc) (C := Tryd.checked) (os := os) (X := fun w _ => laidMetH Tryd.prog Rows.protoJobsRow.laid w) false (World.doorLaid Tryd.prog 24 os) #[.string ⟨#[]⟩, .agg #[.int .i64 0, .int .i64 0, .int .i64 0, .int .i64 0, .int .i64 0, .int .i64 0, .int .i64 0, .int .i64 0], .bool false] 8 rfl (World.shaped_of_RefB (by kernel_rfl) (by kernel_rfl)) (by kernel_rfl) (by kernel_rfl) (by kernel_rfl) (door_met os _)) ?_
  intro W base args ds gs before hval0 hW hcnd _ hL _
  have hval : ∀ (j : Nat) t v, Tryd.f10.params[j]? = some t → args[j]? = some v → Value.okWide Tryd.prog W .any base t v := hval0
  have hW' := hW
  obtain ⟨p, q, hA0, hV, hpq, hfz, hnd⟩ := hW
  have hA : DataW.TrodAll enc Tryd.prog W 0 (fun _ => true) true Tryd.f10.params.toList args.toList ds p := hA0
  have hlt : ∀ x ∈ p, x.block < W.heap.size := fun x hx => hW'.lt x (by rw [hpq]; exact List.mem_append_left _ hx)
  rw [Tryd.params10] at hA hval
  obtain ⟨v0, vs0, d0, ds0, p0, q0, hargs, rfl, hp0, h0, r0⟩ := trodAll_cons hA
  obtain ⟨v1, vs1, d1, ds1, p1, q1, rfl, rfl, hp1, h1, r1⟩ := trodAll_cons r0
  obtain ⟨v2, vs2, d2, ds2, p2, q2, rfl, rfl, hp2, h2, r2⟩ := trodAll_cons r1
  obtain ⟨rfl, rfl, hpn⟩ := trodAll_nil r2
  obtain rfl : args = #[v0, v1, v2] := by cases args; simp_all
  obtain ⟨rfl, rfl⟩ := trodVars_none hV
  obtain ⟨s0, rfl, rfl, -, w0⟩ := ChangeMaps.open_string Tryd.underlying9 (hval 0 9 v0 rfl rfl) h0
  obtain ⟨l0, rfl⟩ := exists_str s0
  rw [str_size] at w0
  obtain ⟨x1, rfl, o1⟩ := job_open (hval 1 _ v1 rfl rfl) h1 (fun x hx => hlt x (by simp_all))
  obtain ⟨a2, rfl, rfl, -⟩ := open_bool Tryd.underlying4 (hval 2 4 v2 rfl rfl) h2
  refine (protoJobs_walk l0 w0 x1 W o1 a2 (tab_of_laid (laid := Rows.protoJobsRow.laid) rfl hL)).mono fun e W' ⟨he, hg⟩ => ?_
  subst he
  exact ⟨_, rfl, law_post (T := 4) laidOut (by kernel_rfl) Tryd.underlying4 rfl rfl hW' rfl rfl rfl hg⟩
theorem over : Rows.protoJobsRow.holds Tryd.pinned (OpenSpec.ofChange Rows.protoJobsSpec) :=
  OpenClaim.holds_of_wide 10 Tryd.f10 rfl rfl rfl rfl rfl rfl rfl ⟨rfl, rfl, rfl, rfl, rfl⟩ rfl rfl rfl rfl rfl (by kernel_rfl) Tryd.func10 (by kernel_rfl)
    (of_decide_eq_true (by kernel_rfl)) (by unfold Func.isWrapper; rw [if_neg (of_decide_eq_false (by kernel_rfl))]; exact ⟨rfl, rfl⟩)
    (fun os started H enc _ => lifted os started H enc)
/-- the statement -/
theorem proved : Rows.ProtoJobsCardSaid :=
  Claim7.holds_tied_plain_at .later [] [.data, .data, .data] true (true, "c5dbe156eb60a59730607763013cde13550478e2496cc4cac80feebce387f0b5") false over (fun _ h => by cases h) (by kernel_rfl) (fun _ h => by cases h) protoJobs_row_tie rfl ⟨rfl, rfl⟩ (by kernel_rfl) rfl
    (fun f fn hf hfn => by
      obtain rfl : f = 10 := Option.some.inj ((show Tryd.prog.funcNamed "assize/assizelaw28.ProtoJobs" = some 10 by kernel_rfl).symm.trans hf) |>.symm
      obtain rfl : fn = Tryd.f10 := (Option.some.inj (Tryd.func10.symm.trans hfn)).symm
      exact ⟨by kernel_rfl, fun j t ht => by
        rw [Tryd.params10] at ht
        have hm : t ∈ [9, 53, 4] := by simpa using Array.mem_of_getElem? ht
        have hall : ([9, 53, 4].all fun u => !Tryd.prog.wantsStandIn u) = true := by kernel_rfl
        exact (show Tryd.prog.wantsStandIn t = false by simpa using List.all_eq_true.1 hall t hm)⟩)
    (by kernel_rfl)
#print axioms proved
end protoJobs
end Go.Proofs.YtldkcfhigcmoaaaDoor
