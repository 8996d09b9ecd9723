/- The law ProtoBack: what is printed of a request is read as it, and what is read of a line is printed as the line; every input. -/
import Derived.Test.YtldkcfhigcmoaaaDoorDoor
import Derived.Test.YtldkcfhigcmoaaaDoorProtoV
import Derived.Test.YtldkcfhigcmoaaaDoorProtoR
import Derived.Deep.CutBlock
import Derived.Deep.DeepCutAuto
namespace Go.Proofs.YtldkcfhigcmoaaaDoor
open Go.RowKit Go.As
set_option linter.unusedVariables false

theorem i64_0 : I64 0 := by unfold I64; omega
theorem rjX_i (s : List UInt8) (i : Nat) (m : Int) : I64 (rjX s i m) := by have := rdE_lo (wd (JWS s) i) m; unfold I64 rjX; omega
theorem pr_i64 (s : List UInt8) : I64 (prE s).id ∧ I64 (prE s).sp ∧ I64 (prE s).wk ∧ I64 (prE s).ln := by
  unfold prE prK pBad
  repeat' split
  all_goals (refine ⟨?_, ?_, ?_, ?_⟩ <;> first | exact i64_0 | exact rjX_i _ _ _)
theorem ptL_len (k : Int) (tok : List UInt8) (id sp wk ln : Int) (hid : I64 id) (hsp : I64 sp) (hwk : I64 wk) (hln : I64 ln) : (ptL k tok id sp wk ln).length ≤ 1048576 := by
  unfold ptL
  split
  · rename_i h
    unfold ptOk at h
    simp only [Bool.and_eq_true, decide_eq_true_eq] at h
    have := lineL_len k tok id sp wk ln h.1 hid hsp hwk hln
    omega
  · simp
/-- what is printed is read as it was -/
theorem pt_read {k : Int} {tok : List UInt8} {id sp wk ln : Int} (h : ptF k tok id sp wk ln = 0) : (prE (ptL k tok id sp wk ln)).err = 0 ∧ sameB (prE (ptL k tok id sp wk ln)) k tok id sp wk ln = true := by
  have ho : ptOk k tok id sp wk ln = true := by
    unfold ptF at h
    by_cases hh : ptOk k tok id sp wk ln = true
    · exact hh
    · rw [if_neg hh] at h; exact absurd h (by decide)
  have hl : ptL k tok id sp wk ln = lineL k tok id sp wk ln := by unfold ptL; rw [if_pos ho]
  rw [hl]
  unfold ptOk at ho
  simp only [Bool.and_eq_true, decide_eq_true_eq] at ho
  exact ⟨ho.2.1, ho.2.2⟩
theorem ptF_or (k : Int) (tok : List UInt8) (id sp wk ln : Int) : ptF k tok id sp wk ln = 0 ∨ ptF k tok id sp wk ln = 2 := by
  unfold ptF
  split
  · exact .inl rfl
  · exact .inr rfl

set_option maxRecDepth 100000 in
set_option maxHeartbeats 6400000 in
theorem protoBack_walk (line : List UInt8) (hli : line.length ≤ maxLen) (x : QArg) (w : World) (ox : QAt w x) (ht : Tab w) :
    Calls Tryd.prog 9 #[.string (str line), .agg (rqC x.1 (.slice x.2.1.1 x.2.1.2.1 x.2.1.2.2.1) x.2.2.1 x.2.2.2.1 x.2.2.2.2.1 x.2.2.2.2.2)] w fun e w' => e = .returned (.bool true) ∧ Below w.heap.size w w' := by
  obtain ⟨k, ⟨a, n, c, tok⟩, id, sp, wk, ln⟩ := x
  obtain ⟨obt, ok_, oid, osp, owk, oln⟩ := ox
  simp only at obt ok_ oid osp owk oln ⊢
  obtain ⟨bl, bn, bm, -, bs⟩ := obt
  simp only at bl bn bm bs
  replace hli : line.length ≤ 9223372036854775807 := by simp only [maxLen] at hli; omega
  have hnm : n ≤ 9223372036854775807 := by simp only [maxLen] at bm; omega
  have HI := Lib.hid (And.intro oid (And.intro osp (And.intro owk oln)))
  have hB := (Below.refl w.heap.size w).alloc (Nat.le_refl _) (.cells (rqC k (.slice a n c) id sp wk ln) 69)
  have HT := Lib.hid (ht.below hB)
  have HS := Lib.hid (bs.below hB)
  have HR := Lib.hid (Blk.new w 69 (rqC k (.slice a n c) id sp wk ln))
  have HB := Lib.hid hB
  clear ok_ oid osp owk oln bl bn bm bs ht hB
  unfold rqC at *
  go_enter Tryd.func9, Tryd.ntmps9
  go_upto_region 2 with (first
    | (go_at_call 56
       refine (pawake_any _).mono ?_
       rintro e' w1 ⟨rfl, hb⟩
       have H1 := Lib.hid hb
       clear hb))
  obtain ⟨k3, hk3⟩ : ∃ q, q = w.heap.size := ⟨_, rfl⟩
  replace HR := Lib.hid (show Blk w1 k3 69 (rqC k (.slice a n c) id sp wk ln) from by rw [hk3]; exact HR.out.belowS H1.out)
  replace HT := Lib.hid (HT.out.below H1.out)
  replace HS := Lib.hid (HS.out.below H1.out)
  replace HB := Lib.hid (below_then HB.out H1.out)
  simp only [← hk3]
  clear hk3 H1
  by_cases hbig : 1000 < line.length
  · have hbi : (1000 : Int) < line.length := by omega
    go_wp2_with fail
    go_ret
    exact ⟨rfl, HB.out⟩
  have hbi : ¬ (1000 : Int) < line.length := by omega
  obtain ⟨x0, x1, x2, x3, x4, x5⟩ := Blk.rq HR.out
  by_cases hbn : 300 < n
  · have hbj : (300 : Int) < n := by omega
    go_wp2_with fail
    go_ret
    exact ⟨rfl, HB.out⟩
  have hbj : ¬ (300 : Int) < n := by omega
  have HL := Lib.hid (show line.length ≤ 1048576 from by omega)
  clear hbig hbn
  obtain ⟨P, hP⟩ : ∃ P, P = prE line := ⟨_, rfl⟩
  have hpi := pr_i64 line
  have hpb := fun h => pt_back (s := line) h
  rw [← hP] at hpi hpb
  obtain ⟨pk, pt, pi, ps, pw, pl, pe⟩ := P
  simp only at hpi hpb
  obtain ⟨BL, hBL⟩ : ∃ B, B = ptL pk pt pi ps pw pl := ⟨_, rfl⟩
  obtain ⟨BF, hBF⟩ : ∃ B, B = ptF pk pt pi ps pw pl := ⟨_, rfl⟩
  obtain ⟨CL, hCL⟩ : ∃ B, B = ptL k tok id sp wk ln := ⟨_, rfl⟩
  obtain ⟨CF, hCF⟩ : ∃ B, B = ptF k tok id sp wk ln := ⟨_, rfl⟩
  rw [← hBL, ← hBF] at hpb
  have HP := Lib.hid (And.intro hP (And.intro hpi hpb))
  have HC := Lib.hid (show BL = ptL pk pt pi ps pw pl ∧ BF = ptF pk pt pi ps pw pl ∧ CL = ptL k tok id sp wk ln ∧ CF = ptF k tok id sp wk ln from ⟨hBL, hBF, hCL, hCF⟩)
  have HCL := Lib.hid (show CL.length ≤ 1048576 from by rw [hCL]; exact ptL_len k tok id sp wk ln HI.out.1 HI.out.2.1 HI.out.2.2.1 HI.out.2.2.2)
  obtain ⟨D, hD⟩ : ∃ D, D = prE CL := ⟨_, rfl⟩
  have hdr : CF = 0 → D.err = 0 ∧ sameB D k tok id sp wk ln = true := fun h => by rw [hD, hCL]; exact pt_read (by rw [← hCF]; exact h)
  have hcf : CF = 0 ∨ CF = 2 := by rw [hCF]; exact ptF_or k tok id sp wk ln
  obtain ⟨dk, dt, di, ds, dw, dl, de⟩ := D
  simp only at hdr
  have HD := Lib.hid (And.intro hD (And.intro hdr hcf))
  clear hP hpi hpb hBL hBF hCL hCF hD hdr hcf
  go_upto_region 5 with (first
    | (go_at_call 50
       go_must (refine (oparse_any line HL.out _).mono ?_
                rw [← HP.out.1]
                rintro e' w2 ⟨tv, rfl, ⟨a2, n2, c2, rfl, hs2⟩, hb⟩
                unfold rqC
                have H2 := Lib.hid (And.intro hb hs2)
                clear hb hs2)))
  clear x0 x1 x2 x3 x4 x5
  go_upto_region 6 with (first
    | (go_at_call 52
       go_must (refine (oprint_any pk pi ps pw pl a2 n2 c2 pt _ (H2.out.2.below (below_alloc (Below.refl _ _) _)) HP.out.2.1.1 HP.out.2.1.2.1 HP.out.2.1.2.2.1 HP.out.2.1.2.2.2 (HT.out.below (below_alloc H2.out.1 _))).mono ?_
                rw [← HC.out.1, ← HC.out.2.1]
                rintro e' w3 ⟨rfl, hb⟩
                have H3 := Lib.hid (below_then (below_alloc H2.out.1 _) hb)
                obtain ⟨x0, x1, x2, x3, x4, x5⟩ := Blk.rq (HR.out.belowS (below_then (below_alloc H2.out.1 _) hb))
                clear hb)))
  go_upto_region 7 with (first
    | (go_at_call 52
       go_must (refine (oprint_any k id sp wk ln a n c tok _ (HS.out.below H3.out) HI.out.1 HI.out.2.1 HI.out.2.2.1 HI.out.2.2.2 (HT.out.below H3.out)).mono ?_
                rw [← HC.out.2.2.1, ← HC.out.2.2.2]
                rintro e' w4 ⟨rfl, hb⟩
                have H4 := Lib.hid (below_then H3.out hb)
                clear hb)))
  clear x0 x1 x2 x3 x4 x5
  go_upto_region 8 with (first
    | (go_at_call 50
       go_must (refine (oparse_any CL HCL.out _).mono ?_
                rw [← HD.out.1]
                rintro e' w5 ⟨tv, rfl, ⟨a5, n5, c5, rfl, hs5⟩, hb⟩
                unfold rqC
                have H5 := Lib.hid (And.intro (below_then H4.out hb) hs5)
                clear hb hs5)))
  have hb8 := below_alloc H5.out.1 (.cells #[.int .i64 dk, .slice a5 n5 c5, .int .i64 di, .int .i64 ds, .int .i64 dw, .int .i64 dl] 69)
  have r3 := HR.out.belowS hb8
  have r12 : Blk (w5.alloc (.cells #[.int .i64 dk, .slice a5 n5 c5, .int .i64 di, .int .i64 ds, .int .i64 dw, .int .i64 dl] 69)) w5.heap.size 69 (rqC dk (.slice a5 n5 c5) di ds dw dl) := Blk.new w5 69 _
  have HS1 := Lib.hid (HS.out.below hb8)
  have HS5 := Lib.hid (H5.out.2.below (below_alloc (Below.refl _ _) (.cells #[.int .i64 dk, .slice a5 n5 c5, .int .i64 di, .int .i64 ds, .int .i64 dw, .int .i64 dl] 69)))
  have HB8 := Lib.hid (below_then HB.out hb8)
  have HR3 := Lib.hid r3
  have HR12 := Lib.hid r12
  clear hb8 r3 r12 H2 H3 H4 H5 HR HS HB HT
  generalize w5.heap.size = k12 at *
  generalize (w5.alloc (.cells #[.int .i64 dk, .slice a5 n5 c5, .int .i64 di, .int .i64 ds, .int .i64 dw, .int .i64 dl] 69)) = W8 at *
  go_cut [56] (fun sv wx => sv = .bool false ∧ wx = W8)
  case first =>
    by_cases he : pe = 0
    · obtain ⟨h1, h2⟩ := HP.out.2.2 he
      have heb : (pe == 0) = true := by simpa using he
      subst h1 h2
      have hl0 : (BL == BL) = true := by simp
      clear he
      go_wp2_with fail
      go_meet
      case rel => exact ⟨rfl, rfl⟩
    · have heb : (pe == 0) = false := by simpa using he
      clear he
      go_wp2_with fail
      go_meet
      case rel => exact ⟨rfl, rfl⟩
  case rest =>
    obtain ⟨rfl, hwx⟩ := hcut
    have hwx' := hwx.symm
    subst hwx'
    clear hwx
    go_upto_region 10 with fail
    go_cut [14] (fun sv wx => sv = .bool (sameB ⟨dk, dt, di, ds, dw, dl, de⟩ k tok id sp wk ln) ∧ wx = W8)
    case first =>
      obtain ⟨x0, x1, x2, x3, x4, x5⟩ := Blk.rq HR3.out
      obtain ⟨y0, y1, y2, y3, y4, y5⟩ := Blk.rq HR12.out
      by_cases q0 : dk = k
      case neg =>
        have t0 : (dk == k) = false := by simpa using q0
        have HM := Lib.hid (show sameB ⟨dk, dt, di, ds, dw, dl, de⟩ k tok id sp wk ln = false from by unfold sameB; simp only; rw [t0]; simp)
        clear q0
        go_wp2_with fail
        go_meet
        case rel => exact ⟨by rw [HM.out], rfl⟩
      have t0 : (dk == k) = true := by simpa using q0
      clear q0
      have HTQ := Lib.hid (show decide (dt = tok) = (dt == tok) from by by_cases h : dt = tok <;> simp [h])
      by_cases q1 : dt = tok
      case neg =>
        have t1 : (dt == tok) = false := by simpa using q1
        have HM := Lib.hid (show sameB ⟨dk, dt, di, ds, dw, dl, de⟩ k tok id sp wk ln = false from by unfold sameB; simp only; rw [t1]; simp)
        rw [t1] at HTQ
        clear q1
        go_wp2_with (first
          | (go_at_call 19
             go_must (refine (sameBytes_any a5 a n5 n c5 c dt tok _ HS5.out HS1.out).mono ?_
                      rw [HTQ.out]
                      rintro e' w' ⟨rfl, rfl⟩)))
        go_meet
        case rel => exact ⟨by rw [HM.out], rfl⟩
      have t1 : (dt == tok) = true := by simpa using q1
      clear q1
      rw [t1] at HTQ
      by_cases q2 : di = id
      case neg =>
        have t2 : (di == id) = false := by simpa using q2
        have HM := Lib.hid (show sameB ⟨dk, dt, di, ds, dw, dl, de⟩ k tok id sp wk ln = false from by unfold sameB; simp only; rw [t2]; simp)
        clear q2
        go_wp2_with (first
          | (go_at_call 19
             go_must (refine (sameBytes_any a5 a n5 n c5 c dt tok _ HS5.out HS1.out).mono ?_
                      rw [HTQ.out]
                      rintro e' w' ⟨rfl, rfl⟩)))
        go_meet
        case rel => exact ⟨by rw [HM.out], rfl⟩
      have t2 : (di == id) = true := by simpa using q2
      clear q2
      by_cases q3 : ds = sp
      case neg =>
        have t3 : (ds == sp) = false := by simpa using q3
        have HM := Lib.hid (show sameB ⟨dk, dt, di, ds, dw, dl, de⟩ k tok id sp wk ln = false from by unfold sameB; simp only; rw [t3]; simp)
        clear q3
        go_wp2_with (first
          | (go_at_call 19
             go_must (refine (sameBytes_any a5 a n5 n c5 c dt tok _ HS5.out HS1.out).mono ?_
                      rw [HTQ.out]
                      rintro e' w' ⟨rfl, rfl⟩)))
        go_meet
        case rel => exact ⟨by rw [HM.out], rfl⟩
      have t3 : (ds == sp) = true := by simpa using q3
      clear q3
      by_cases q4 : dw = wk
      case neg =>
        have t4 : (dw == wk) = false := by simpa using q4
        have HM := Lib.hid (show sameB ⟨dk, dt, di, ds, dw, dl, de⟩ k tok id sp wk ln = false from by unfold sameB; simp only; rw [t4]; simp)
        clear q4
        go_wp2_with (first
          | (go_at_call 19
             go_must (refine (sameBytes_any a5 a n5 n c5 c dt tok _ HS5.out HS1.out).mono ?_
                      rw [HTQ.out]
                      rintro e' w' ⟨rfl, rfl⟩)))
        go_meet
        case rel => exact ⟨by rw [HM.out], rfl⟩
      have t4 : (dw == wk) = true := by simpa using q4
      clear q4
      by_cases q5 : dl = ln
      case neg =>
        have t5 : (dl == ln) = false := by simpa using q5
        have HM := Lib.hid (show sameB ⟨dk, dt, di, ds, dw, dl, de⟩ k tok id sp wk ln = false from by unfold sameB; simp only; rw [t5]; simp)
        clear q5
        go_wp2_with (first
          | (go_at_call 19
             go_must (refine (sameBytes_any a5 a n5 n c5 c dt tok _ HS5.out HS1.out).mono ?_
                      rw [HTQ.out]
                      rintro e' w' ⟨rfl, rfl⟩)))
        go_meet
        case rel => exact ⟨by rw [HM.out], rfl⟩
      have t5 : (dl == ln) = true := by simpa using q5
      clear q5
      have HM := Lib.hid (show sameB ⟨dk, dt, di, ds, dw, dl, de⟩ k tok id sp wk ln = true from by unfold sameB; simp only; rw [t0, t1, t2, t3, t4, t5]; rfl)
      go_wp2_with (first
        | (go_at_call 19
           go_must (refine (sameBytes_any a5 a n5 n c5 c dt tok _ HS5.out HS1.out).mono ?_
                    rw [HTQ.out]
                    rintro e' w' ⟨rfl, rfl⟩)))
      go_meet
      case rel => exact ⟨by rw [HM.out], rfl⟩
    case rest =>
      obtain ⟨rfl, hwx⟩ := hcut
      have hwx' := hwx.symm
      subst hwx'
      clear hwx
      rcases HD.out.2.2 with hc | hc
      · obtain ⟨h1, h2⟩ := HD.out.2.1 hc
        subst hc
        subst h1
        rw [h2]
        clear h2
        go_wp2_with fail
        go_ret
        exact ⟨rfl, HB8.out⟩
      · subst hc
        go_wp2_with fail
        go_ret
        exact ⟨rfl, HB8.out⟩
namespace protoBack
set_option linter.unusedVariables false
open Go.ChangeShapes Go.WideShapes Go.ChangeAt Go.RowKit Go.As
theorem own : ownKnob Tryd.prog.godebug = none := by kernel_rfl
theorem laidOut : laidOutB Tryd.prog = true := by kernel_rfl
theorem door_met (os : Os) (args : Array Value) : laidMetH Tryd.prog Rows.protoBackRow.laid ((World.doorLaid Tryd.prog 24 os).forCall (fun _ _ => 0) ⟨#[], args, []⟩).memory :=
  laidMetH_of_parts3 (fuel := 8) (laidMet_of_run' 8 (by kernel_rfl) (by kernel_rfl)) (by kernel_rfl) (by kernel_rfl)
set_option maxRecDepth 100000 in
theorem lifted (os : Os) (started : os.Started) (H : Type) (enc : TypeId × Value → H) :
    ReturnsInHanded {} Tryd.checked os 9 .any (fun w args => (Rows.protoBackSpec.pre enc Tryd.prog Tryd.f9 [] false w args ∧ laidMetH Tryd.prog Rows.protoBackRow.laid w) ∧ sizedMet enc Tryd.prog Tryd.f9 (OpenSpec.ofChange Rows.protoBackSpec) false w args) (Rows.protoBackSpec.post enc Tryd.prog Tryd.f9 false true false false) := by
  refine returnsInHanded_of_change_and (C := Tryd.checked) (X := fun w _ => laidMetH Tryd.prog Rows.protoBackRow.laid w) (fun _ _ _ hh h => h.of_heap hh) own started (by kernel_rfl) Tryd.func9
    (ChangeSpec.witness_shaped (enc := enc) (C := Tryd.checked) (os := os) (X := fun w _ => laidMetH Tryd.prog Rows.protoBackRow.laid w) false (World.doorLaid Tryd.prog 24 os) #[.string ⟨#[]⟩, .agg #[.int .i64 0, .slice none 0 0, .int .i64 0, .int .i64 0, .int .i64 0, .int .i64 0]] 8 rfl (World.shaped_of_RefB (by kernel_rfl) (by kernel_rfl)) (by kernel_rfl) (by kernel_rfl) (by kernel_rfl) (door_met os _)) ?_
  intro W base args ds gs before hval0 hW hcnd _ hL _
  have hval : ∀ (j : Nat) t v, Tryd.f9.params[j]? = some t → args[j]? = some v → Value.okWide Tryd.prog W .any base t v := hval0
  have hW' := hW
  obtain ⟨p, q, hA0, hV, hpq, hfz, hnd⟩ := hW
  have hA : DataW.TrodAll enc Tryd.prog W 0 (fun _ => true) true Tryd.f9.params.toList args.toList ds p := hA0
  have hlt : ∀ x ∈ p, x.block < W.heap.size := fun x hx => hW'.lt x (by rw [hpq]; exact List.mem_append_left _ hx)
  rw [Tryd.params9] at hA hval
  obtain ⟨v0, vs0, d0, ds0, p0, q0, hargs, rfl, hp0, h0, r0⟩ := trodAll_cons hA
  obtain ⟨v1, vs1, d1, ds1, p1, q1, rfl, rfl, hp1, h1, r1⟩ := trodAll_cons r0
  obtain ⟨rfl, rfl, hpn⟩ := trodAll_nil r1
  obtain rfl : args = #[v0, v1] := by cases args; simp_all
  obtain ⟨rfl, rfl⟩ := trodVars_none hV
  obtain ⟨s0, rfl, rfl, -, w0⟩ := ChangeMaps.open_string Tryd.underlying9 (hval 0 9 v0 rfl rfl) h0
  obtain ⟨l0, rfl⟩ := exists_str s0
  rw [str_size] at w0
  obtain ⟨x1, rfl, o1⟩ := req_open (hval 1 _ v1 rfl rfl) h1 (fun x hx => hlt x (by simp_all))
  refine (protoBack_walk l0 w0 x1 W o1 (tab_of_laid (laid := Rows.protoBackRow.laid) rfl hL)).mono fun e W' ⟨he, hg⟩ => ?_
  subst he
  exact ⟨_, rfl, law_post (T := 4) laidOut (by kernel_rfl) Tryd.underlying4 rfl rfl hW' rfl rfl rfl hg⟩
theorem over : Rows.protoBackRow.holds Tryd.pinned (OpenSpec.ofChange Rows.protoBackSpec) :=
  OpenClaim.holds_of_wide 9 Tryd.f9 rfl rfl rfl rfl rfl rfl rfl ⟨rfl, rfl, rfl, rfl, rfl⟩ rfl rfl rfl rfl rfl (by kernel_rfl) Tryd.func9 (by kernel_rfl)
    (of_decide_eq_true (by kernel_rfl)) (by unfold Func.isWrapper; rw [if_neg (of_decide_eq_false (by kernel_rfl))]; exact ⟨rfl, rfl⟩)
    (fun os started H enc _ => lifted os started H enc)
/-- the statement -/
theorem proved : Rows.ProtoBackCardSaid :=
  Claim7.holds_tied_plain_at .later [] [.data, .data, .data] true (true, "c5dbe156eb60a59730607763013cde13550478e2496cc4cac80feebce387f0b5") false over (fun _ h => by cases h) (by kernel_rfl) (fun _ h => by cases h) protoBack_row_tie rfl ⟨rfl, rfl⟩ (by kernel_rfl) rfl
    (fun f fn hf hfn => by
      obtain rfl : f = 9 := Option.some.inj ((show Tryd.prog.funcNamed "assize/assizelaw28.ProtoBack" = some 9 by kernel_rfl).symm.trans hf) |>.symm
      obtain rfl : fn = Tryd.f9 := (Option.some.inj (Tryd.func9.symm.trans hfn)).symm
      exact ⟨by kernel_rfl, fun j t ht => by
        rw [Tryd.params9] at ht
        have hm : t ∈ [9, 69] := by simpa using Array.mem_of_getElem? ht
        have hall : ([9, 69].all fun u => !Tryd.prog.wantsStandIn u) = true := by kernel_rfl
        exact (show Tryd.prog.wantsStandIn t = false by simpa using List.all_eq_true.1 hall t hm)⟩)
    (by kernel_rfl)
#print axioms proved
end protoBack
end Go.Proofs.YtldkcfhigcmoaaaDoor
