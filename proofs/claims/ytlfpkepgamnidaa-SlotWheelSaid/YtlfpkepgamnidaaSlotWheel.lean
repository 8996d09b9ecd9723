/- The law SlotWheel: a wheel turns as the document's does, and goes back when it is told to; every input, no conditions. -/
import Derived.Test.YtlfpkepgamnidaaSlotB
import Derived.Test.YtlfpkepgamnidaaPlan
namespace Go.Proofs.Ytlfpkepgamnidaa
open Go.RowKit Go.As
set_option linter.unusedVariables false

/-- the document's wheel of n at a place -/
def RWheelAt (w : World) (b : Nat) (n at_ : Int) : Prop := Blk w b 37 #[.int .i64 n, .int .i64 at_]
theorem RWheelAt.set {w : World} {b : Nat} {n at_ : Int} (h : RWheelAt w b n at_) (x : Int) : RWheelAt (w.setCell ⟨b, 1, none⟩ (.int .i64 x)) b n x := by
  have := Blk.set_ h 1 (.int .i64 x)
  simpa [RWheelAt] using this

theorem rnew_bad (n : Int) (w : World) (h : n < 1 ∨ 64 < n) :
    Calls Try.prog 20 #[.int .i64 n] w fun e w' => e = .returned (.tuple #[.pointer none, .int .i64 2]) ∧ w = w' := by
  rcases h with h | h
  · go_enter Try.func20, Try.ntmps20
    go_wp2
    go_ret2
    exact ⟨rfl, rfl⟩
  · have h' : ¬ n < 1 := by omega
    go_enter Try.func20, Try.ntmps20
    go_wp2
    go_ret2
    exact ⟨rfl, rfl⟩

theorem rnew_ok (n : Int) (w : World) (h : 1 ≤ n) (h2 : n ≤ 64) :
    Calls Try.prog 20 #[.int .i64 n] w fun e w' => e = .returned (.tuple #[.pointer (some ⟨w.heap.size, 0, none⟩), .int .i64 0]) ∧ w' = w.alloc (.cells #[.int .i64 n, .int .i64 0] 37) := by
  go_enter Try.func20, Try.ntmps20
  go_wp2
  go_ret2
  exact ⟨rfl, rfl⟩

theorem rturn_ok (b : Nat) (n at_ : Int) (w : World) (hb : RWheelAt w b n at_) (h : 1 ≤ n) (h2 : n ≤ 64) (h3 : 0 ≤ at_) (h4 : at_ < n) :
    Calls Try.prog 24 #[.pointer (some ⟨b, 0, none⟩)] w fun e w' => e = .returned (.int .i64 at_) ∧ w' = w.setCell ⟨b, 1, none⟩ (.int .i64 ((at_ + 1) % n)) := by
  have c0 : w.cell? ⟨b, 0, none⟩ = some (.int .i64 n) := hb.cell 0
  have c1 : w.cell? ⟨b, 1, none⟩ = some (.int .i64 at_) := hb.cell 1
  have f1 : w.frozen? ⟨b, 1, none⟩ = false := hb.frozen 1
  have HB := Lib.hid hb
  clear hb
  go_enter Try.func24, Try.ntmps24
  go_wp2
  go_ret
  exact ⟨rfl, rfl⟩

/-- both wheels stand alike -/
def Both (w0 w : World) (a b : Nat) (n at_ : Int) : Prop := WheelAt w a n at_ ∧ RWheelAt w b n at_ ∧ Below w0.heap.size w0 w ∧ a ≠ b ∧ w0.heap.size ≤ a ∧ w0.heap.size ≤ b

set_option maxRecDepth 100000 in
set_option maxHeartbeats 1600000 in
theorem slotWheel_walk (n : Int) (wn : (Lit.int .i64 n).wf = true) (turns : Int) (wt : (Lit.int .i64 turns).wf = true) (back : Int) (wb : (Lit.int .i64 back).wf = true) (w : World) :
    Calls Try.prog 5 #[.int .i64 n, .int .i64 turns, .int .i64 back] w fun e w' => e = .returned (.bool true) ∧ Below w.heap.size w w' := by
  by_cases hin : 1 ≤ n ∧ n ≤ 64
  · obtain ⟨h0, h1⟩ := hin
    go_enter Try.func5, Try.ntmps5
    go_wp2_with fail
    refine (wnew_ok _ _ h0 h1).mono ?_
    rintro e w1 ⟨rfl, hw1⟩
    have hz : w1.heap.size = w.heap.size + 1 := by rw [hw1]; simp
    have hb1 : Below w.heap.size w w1 := by rw [hw1]; exact (Below.refl _ _).alloc (Nat.le_refl _) _
    have hW1 : WheelAt w1 w.heap.size n 0 := by rw [hw1]; exact Blk.new _ _ _
    have H1 := Lib.hid (And.intro hb1 (And.intro hW1 hz))
    clear hb1 hW1 hw1 hz
    go_wp2_with fail
    refine (rnew_ok _ _ h0 h1).mono ?_
    rintro e w2 ⟨rfl, hw2⟩
    have hB2 : Both w w2 w.heap.size w1.heap.size n 0 := by
      refine ⟨?_, ?_, ?_, ?_, Nat.le_refl _, H1.out.1.size⟩
      · rw [hw2]; exact Blk.alloc H1.out.2.1 _
      · rw [hw2]; exact Blk.new _ _ _
      · rw [hw2]; exact H1.out.1.alloc H1.out.1.size _
      · have := H1.out.2.2; omega
    have H2 := Lib.hid hB2
    clear hB2 hw2
    go_wp2_with fail
    go_loopw [11] (fun i wr => ∃ (k : Nat) (q : Int), k ≤ 300 ∧ i = .int .i64 k ∧ 0 ≤ q ∧ q < n ∧ Both w wr w.heap.size w1.heap.size n q) (fun i _ => 300 - (intOf i).toNat)
    case atStart => exact ⟨0, 0, by omega, rfl, by omega, by omega, H2.out⟩
    case round =>
      clear H2
      obtain ⟨k, q, hk, rfl, hq0, hq1, hboth⟩ := hrel
      have HB := Lib.hid hboth
      clear hboth
      generalize w.heap.size = a at *
      generalize w1.heap.size = b at *
      by_cases hlt : (k : Int) < turns ∧ k < 300
      · obtain ⟨hl1, hl2⟩ := hlt
        by_cases hbk : (k : Int) = back
        · have hbk' : ((k : Int) == back) = true := by simpa using hbk
          have c1 := HB.out.2.1.cell 1
          have f1 := HB.out.2.1.frozen 1
          simp at c1 f1
          clear hbk
          go_wp2_with fail
          have hW4 : WheelAt (wr.setCell ⟨b, 1, none⟩ (.int .i64 0)) a n q := HB.out.1.far HB.out.2.2.2.1 _
          have hR4 : RWheelAt (wr.setCell ⟨b, 1, none⟩ (.int .i64 0)) b n 0 := HB.out.2.1.set 0
          have hb4 := HB.out.2.2.1.setCell (p := ⟨b, 1, none⟩) HB.out.2.2.2.2.2 (.int .i64 0)
          refine (reset_ok _ n q _ hW4 h0).mono ?_
          rintro e w5 ⟨rfl, hW5, hO5⟩
          have hB5 : Both w w5 a b n 0 := ⟨hW5, hR4.only hO5 (fun e => HB.out.2.2.2.1 e.symm), hO5.below' hb4 (fun i hi e => by subst e; have := HB.out.2.2.2.2.1; omega), HB.out.2.2.2⟩
          obtain ⟨q2, hq2⟩ : ∃ q2 : Int, q2 = 0 := ⟨0, rfl⟩
          rw [← hq2] at hB5
          have hq20 : 0 ≤ q2 := by omega
          have hq21 : q2 < n := by omega
          have HB2 := Lib.hid hB5
          clear hW4 hR4 hb4 hW5 hO5 hB5 HB hq0 hq1 hq2 c1 f1
          go_wp2_with fail
          refine (next_ok _ _ _ _ HB2.out.1 h0).mono ?_
          rintro e w' ⟨rfl, rfl⟩
          go_wp2_with fail
          refine (turn_ok _ n q2 _ HB2.out.1 h0 h1 hq20 hq21).mono ?_
          rintro e w3 ⟨rfl, hW3, hO3⟩
          have hR3 : RWheelAt w3 b n q2 := HB2.out.2.1.only hO3 (fun e => HB2.out.2.2.2.1 e.symm)
          have hb3 : Below w.heap.size w w3 := hO3.below' HB2.out.2.2.1 (fun i hi e => by subst e; have := HB2.out.2.2.2.2.1; omega)
          have c0 := hR3.cell 0
          have c1 := hR3.cell 1
          simp at c0 c1
          go_wp2_with fail
          have hne : a ≠ b := HB2.out.2.2.2.1
          have HT := Lib.hid (fun W (hw : RWheelAt W b n q2) => rturn_ok b n q2 W hw h0 h1 hq20 hq21)
          have HX := Lib.hid (fun W (hw : WheelAt W a n ((q2 + 1) % n)) => next_ok a n _ W hw h0)
          have HR := Lib.hid (And.intro hR3 (And.intro hW3 hb3))
          clear hR3 hW3 hO3 hb3
          refine wp_region_plan (.take 0 <| .take 1 <| .take 2 <| .take 3 <| .run 4 <| .take 5 <| .take 6 <| .take 7 <| .take 8 <| .take 9 <| .take 10 <| .take 11 <| .take 12 <| .run 13 <| .take 14 <| .take 15 <| .take 16 <| .take 17 <| .take 19 <| .take 20 <| .take 21 <| .alt (.run 18 <| .run 22 <| .take 23 <| .take 24 <| .done) (.run 22 <| .run 18 <| .take 23 <| .take 24 <| .done)) (by kernel_rfl) (by kernel_rfl) (by kernel_rfl) (by kernel_rfl) ?_
          go_wp2_with (first
            | ((with_reducible refine wpPlan_isTake ?_); refine wpPlan_take (v := ?_) rfl ?_ (fun w => ?_) ?_; rotate_left 1; (focus rfl); (focus (first | (go_simp; done) | (go_simp; with_reducible rfl))); simp only [Act.put, List.setIfInBounds_toArray, List.set_cons_zero, List.set_cons_succ]) | ((with_reducible refine wpPlan_isTake ?_); refine wpPlan_skip rfl ?_ ?_; (focus rfl); simp only [Act.put, List.setIfInBounds_toArray, List.set_cons_zero, List.set_cons_succ]) | ((with_reducible refine wpPlan_isRun ?_); refine wpPlan_run rfl (fun K hK => ?_); go_simp) | ((with_reducible refine wpPlan_alt ?_ ?_)) | ((with_reducible refine wpPlan_done ?_))
            | (go_at_call 24; refine (HT.out _ ?_).mono ?_; exact HR.out.1; rintro e w4 ⟨rfl, rfl⟩)
            | (go_at_call 22; refine (HX.out _ ?_).mono ?_; exact HR.out.2.1.far hne _; rintro e w4 ⟨rfl, rfl⟩))
          all_goals
            go_roundw
            case rel =>
              refine ⟨k + 1, (q2 + 1) % n, by omega, by go_num, Int.emod_nonneg _ (by omega), Int.emod_lt_of_pos _ (by omega), ?_, ?_, ?_, HB2.out.2.2.2⟩
              · exact HR.out.2.1.far hne _
              · exact HR.out.1.set _
              · exact (HR.out.2.2.setCell (p := ⟨b, 1, none⟩) HB2.out.2.2.2.2.2 _).drew
            case measure => simp [intOf]; omega
        · have hbk' : ((k : Int) == back) = false := by simpa using hbk
          clear hbk
          obtain ⟨q2, rfl⟩ : ∃ q2, q2 = q := ⟨q, rfl⟩
          have hq20 := hq0
          have hq21 := hq1
          have HB2 := HB
          clear HB hq0 hq1
          go_wp2_with fail
          refine (next_ok _ _ _ _ HB2.out.1 h0).mono ?_
          rintro e w' ⟨rfl, rfl⟩
          go_wp2_with fail
          refine (turn_ok _ n q2 _ HB2.out.1 h0 h1 hq20 hq21).mono ?_
          rintro e w3 ⟨rfl, hW3, hO3⟩
          have hR3 : RWheelAt w3 b n q2 := HB2.out.2.1.only hO3 (fun e => HB2.out.2.2.2.1 e.symm)
          have hb3 : Below w.heap.size w w3 := hO3.below' HB2.out.2.2.1 (fun i hi e => by subst e; have := HB2.out.2.2.2.2.1; omega)
          have c0 := hR3.cell 0
          have c1 := hR3.cell 1
          simp at c0 c1
          go_wp2_with fail
          have hne : a ≠ b := HB2.out.2.2.2.1
          have HT := Lib.hid (fun W (hw : RWheelAt W b n q2) => rturn_ok b n q2 W hw h0 h1 hq20 hq21)
          have HX := Lib.hid (fun W (hw : WheelAt W a n ((q2 + 1) % n)) => next_ok a n _ W hw h0)
          have HR := Lib.hid (And.intro hR3 (And.intro hW3 hb3))
          clear hR3 hW3 hO3 hb3
          refine wp_region_plan (.take 0 <| .take 1 <| .take 2 <| .take 3 <| .run 4 <| .take 5 <| .take 6 <| .take 7 <| .take 8 <| .take 9 <| .take 10 <| .take 11 <| .take 12 <| .run 13 <| .take 14 <| .take 15 <| .take 16 <| .take 17 <| .take 19 <| .take 20 <| .take 21 <| .alt (.run 18 <| .run 22 <| .take 23 <| .take 24 <| .done) (.run 22 <| .run 18 <| .take 23 <| .take 24 <| .done)) (by kernel_rfl) (by kernel_rfl) (by kernel_rfl) (by kernel_rfl) ?_
          go_wp2_with (first
            | ((with_reducible refine wpPlan_isTake ?_); refine wpPlan_take (v := ?_) rfl ?_ (fun w => ?_) ?_; rotate_left 1; (focus rfl); (focus (first | (go_simp; done) | (go_simp; with_reducible rfl))); simp only [Act.put, List.setIfInBounds_toArray, List.set_cons_zero, List.set_cons_succ]) | ((with_reducible refine wpPlan_isTake ?_); refine wpPlan_skip rfl ?_ ?_; (focus rfl); simp only [Act.put, List.setIfInBounds_toArray, List.set_cons_zero, List.set_cons_succ]) | ((with_reducible refine wpPlan_isRun ?_); refine wpPlan_run rfl (fun K hK => ?_); go_simp) | ((with_reducible refine wpPlan_alt ?_ ?_)) | ((with_reducible refine wpPlan_done ?_))
            | (go_at_call 24; refine (HT.out _ ?_).mono ?_; exact HR.out.1; rintro e w4 ⟨rfl, rfl⟩)
            | (go_at_call 22; refine (HX.out _ ?_).mono ?_; exact HR.out.2.1.far hne _; rintro e w4 ⟨rfl, rfl⟩))
          all_goals
            go_roundw
            case rel =>
              refine ⟨k + 1, (q2 + 1) % n, by omega, by go_num, Int.emod_nonneg _ (by omega), Int.emod_lt_of_pos _ (by omega), ?_, ?_, ?_, HB2.out.2.2.2⟩
              · exact HR.out.2.1.far hne _
              · exact HR.out.1.set _
              · exact (HR.out.2.2.setCell (p := ⟨b, 1, none⟩) HB2.out.2.2.2.2.2 _).drew
            case measure => simp [intOf]; omega
      · have hcases : turns ≤ (k : Int) ∨ ((k : Int) < turns ∧ k = 300) := by omega
        clear hlt
        rcases hcases with hl | ⟨hl, rfl⟩
        all_goals
          go_wp2_with fail
          go_ret
          exact ⟨rfl, HB.out.2.2.1⟩
  · have hcases : n < 1 ∨ (1 ≤ n ∧ 64 < n) := by omega
    clear hin
    rcases hcases with h0 | ⟨h0, h1⟩
    all_goals
      go_enter Try.func5, Try.ntmps5
      go_wp2_with fail
      refine (wnew_bad _ _ (by omega)).mono ?_
      rintro e w' ⟨rfl, rfl⟩
      go_wp2_with fail
      refine (rnew_bad _ _ (by omega)).mono ?_
      rintro e w' ⟨rfl, rfl⟩
      go_wp2_with fail
      go_loopw [11] (fun i wr => wr = w) (fun _ _ => 0)
      case atStart => exact rfl
      case round =>
        obtain rfl := hrel
        go_wp2_with fail
        go_ret
        exact ⟨rfl, Below.refl _ _⟩

namespace slotWheel
set_option linter.unusedVariables false
open Go.ChangeShapes Go.WideShapes Go.ChangeAt Go.RowKit Go.As
theorem own : ownKnob Try.prog.godebug = none := by kernel_rfl
theorem laidOut : laidOutB Try.prog = true := by kernel_rfl
set_option maxRecDepth 100000 in
theorem lifted (os : Os) (started : os.Started) (H : Type) (enc : TypeId × Value → H) :
    ReturnsInHanded {} Try.checked os 5 .any (Rows.slotWheelSpec.pre6 enc Try.prog Try.f5 Rows.slotWheelRow.domain false) (Rows.slotWheelSpec.post enc Try.prog Try.f5 false true false false) := by
  refine returnsInHanded_of_change (C := Try.checked) own started (by kernel_rfl) Try.func5
    (ChangeSpec.witness6 (enc := enc) (C := Try.checked) false ⟨#[], #[.int .i64 0, .int .i64 0, .int .i64 0], []⟩ 8 (by kernel_rfl) (by kernel_rfl) (by kernel_rfl) (by kernel_rfl)) ?_
  intro W base args ds gs before hval0 hW hcnd _
  have hval : ∀ (j : Nat) t v, Try.f5.params[j]? = some t → args[j]? = some v → Value.okWide Try.prog W .any base t v := hval0
  have hW' := hW
  obtain ⟨p, q, hA0, hV, hpq, hfz, hnd⟩ := hW
  have hA : DataW.TrodAll enc Try.prog W 0 (fun _ => true) true Try.f5.params.toList args.toList ds p := hA0
  have hlt : ∀ x ∈ p, x.block < W.heap.size := fun x hx => hW'.lt x (by rw [hpq]; exact List.mem_append_left _ hx)
  rw [Try.params5] at hA hval
  obtain ⟨v0, vs0, d0, ds0, p0, q0, hargs, rfl, hp0, h0, r0⟩ := trodAll_cons hA
  obtain ⟨v1, vs1, d1, ds1, p1, q1, rfl, rfl, hp1, h1, r1⟩ := trodAll_cons r0
  obtain ⟨v2, vs2, d2, ds2, p2, q2, rfl, rfl, hp2, h2, r2⟩ := trodAll_cons r1
  obtain ⟨rfl, rfl, hpn⟩ := trodAll_nil r2
  obtain rfl : args = #[v0, v1, v2] := by cases args; simp_all
  obtain ⟨rfl, rfl⟩ := trodVars_none hV
  obtain ⟨a0, rfl, rfl, -, w0⟩ := open_int Try.underlying3 (hval 0 3 v0 rfl rfl) h0
  obtain ⟨a1, rfl, rfl, -, w1⟩ := open_int Try.underlying3 (hval 1 3 v1 rfl rfl) h1
  obtain ⟨a2, rfl, rfl, -, w2⟩ := open_int Try.underlying3 (hval 2 3 v2 rfl rfl) h2
  refine (slotWheel_walk a0 w0 a1 w1 a2 w2 W).mono fun e W' ⟨he, hg⟩ => ?_
  subst he
  exact ⟨_, rfl, law_post (T := 4) laidOut (by kernel_rfl) Try.underlying4 rfl rfl hW' rfl rfl rfl hg⟩
theorem over : Rows.slotWheelRow.holds Try.pinned (OpenSpec.ofChange Rows.slotWheelSpec) :=
  OpenClaim.holds_of_wide 5 Try.f5 rfl rfl rfl rfl rfl rfl rfl ⟨rfl, rfl, rfl, rfl, rfl⟩ rfl rfl rfl rfl rfl (by kernel_rfl) Try.func5 (by kernel_rfl)
    (of_decide_eq_true (by kernel_rfl)) (by unfold Func.isWrapper; rw [if_neg (of_decide_eq_false (by kernel_rfl))]; exact ⟨rfl, rfl⟩)
    (fun os started H enc _ => lifted os started H enc)
/-- the statement -/
theorem proved : Rows.SlotWheelSaid := over
#print axioms proved
end slotWheel
end Go.Proofs.Ytlfpkepgamnidaa
