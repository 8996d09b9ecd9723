/- The law SlotNeeds: so many slices are as much as the work, and one less is not; every input, no conditions. -/
import Derived.Test.YtlfpkepgamnidaaSlotB
namespace Go.Proofs.Ytlfpkepgamnidaa
open Go.RowKit Go.As
set_option linter.unusedVariables false

theorem needs_facts (work slice : Int) (h : 0 ≤ work) (h1 : 1 ≤ slice) (hw : work ≤ 2147483648) (hs : slice ≤ 2147483648) :
    0 ≤ slotsI work slice ∧ slotsI work slice ≤ 2147483648 ∧ work ≤ slotsI work slice * slice ∧ slotsI work slice * slice < work + slice ∧ (slotsI work slice - 1) * slice < work ∧ -slice ≤ (slotsI work slice - 1) * slice := by
  have hd0 : 0 ≤ work / slice := Int.ediv_nonneg h (by omega)
  have hm0 : 0 ≤ work % slice := Int.emod_nonneg _ (by omega)
  have hm1 : work % slice < slice := Int.emod_lt_of_pos _ (by omega)
  have he : work / slice * slice + work % slice = work := Int.ediv_mul_add_emod ..
  have hle : work / slice * 1 ≤ work / slice * slice := Int.mul_le_mul_of_nonneg_left (by omega) hd0
  unfold slotsI
  split
  · rename_i hr
    have e1 : (work / slice + 1) * slice = work / slice * slice + slice := by rw [Int.add_mul, Int.one_mul]
    have e2 : (work / slice + 1 - 1) * slice = work / slice * slice := by congr 1; omega
    rw [e1, e2]
    omega
  · rename_i hr
    have e2 : (work / slice - 1) * slice = work / slice * slice - slice := by rw [Int.sub_mul, Int.one_mul]
    rw [e2]
    omega

set_option maxHeartbeats 800000 in
theorem slotNeeds_walk (work : Int) (ww : (Lit.int .i64 work).wf = true) (slice : Int) (ws : (Lit.int .i64 slice).wf = true) (w : World) :
    Calls Try.prog 6 #[.int .i64 work, .int .i64 slice] w fun e w' => e = .returned (.bool true) ∧ Below w.heap.size w w' := by
  by_cases hin : 0 ≤ work ∧ work ≤ 2147483648 ∧ 1 ≤ slice ∧ slice ≤ 2147483648
  · obtain ⟨h0, h1, h2, h3⟩ := hin
    obtain ⟨f1, f2, f3, f4, f5, f6⟩ := needs_facts work slice h0 h2 h1 h3
    have hs := Lib.hid (slots_ok work slice)
    generalize hq : slotsI work slice = q at *
    clear hq
    have hz : q = 0 → work ≤ 0 := by
      intro e
      rw [e, Int.zero_mul] at f3
      exact f3
    have HZ := Lib.hid hz
    clear hz
    generalize hp : q * slice = p at *
    generalize hp2 : (q - 1) * slice = p2 at *
    have g1 : IntKind.i64.wrap (q * slice) = q * slice := IntWalk.i64_in _ (by rw [hp]; omega)
    have g2 : IntKind.i64.wrap ((q - 1) * slice) = (q - 1) * slice := IntWalk.i64_in _ (by rw [hp2]; omega)
    have e1 : decide (work ≤ q * slice) = true := by simp [hp]; omega
    have e2 : decide ((q - 1) * slice < work) = true := by simp [hp2]; omega
    clear hp hp2
    go_enter Try.func6, Try.ntmps6
    go_wp2_with fail
    refine (awake_ok _).mono ?_
    rintro e w1 ⟨rfl, hb1⟩
    go_wp2_with fail
    refine (hs.out _ h0 h2 (by omega)).mono ?_
    rintro e w' ⟨rfl, rfl⟩
    by_cases hq0 : q = 0
    · have hw0 := HZ.out hq0
      subst hq0
      go_wp2_with fail
      go_ret
      exact ⟨rfl, hb1⟩
    · have hq0' : (q == 0) = false := by simpa using hq0
      go_wp2_with fail
      go_ret
      exact ⟨rfl, hb1⟩
  · have hcases : work < 0 ∨ (0 ≤ work ∧ 2147483648 < work) ∨ (0 ≤ work ∧ work ≤ 2147483648 ∧ slice < 1) ∨ (0 ≤ work ∧ work ≤ 2147483648 ∧ 1 ≤ slice ∧ 2147483648 < slice) := by omega
    clear hin
    rcases hcases with h0 | ⟨h0, h1⟩ | ⟨h0, h1, h2⟩ | ⟨h0, h1, h2, h3⟩
    all_goals
      go_enter Try.func6, Try.ntmps6
      go_wp2_with fail
      refine (awake_ok _).mono ?_
      rintro e w1 ⟨rfl, hb1⟩
      go_wp2_with fail
      go_ret
      exact ⟨rfl, hb1⟩

namespace slotNeeds
set_option linter.unusedVariables false
open Go.ChangeShapes Go.WideShapes Go.ChangeAt Go.RowKit Go.As
theorem own : ownKnob Try.prog.godebug = none := by kernel_rfl
theorem laidOut : laidOutB Try.prog = true := by kernel_rfl
set_option maxRecDepth 100000 in
theorem lifted (os : Os) (started : os.Started) (H : Type) (enc : TypeId × Value → H) :
    ReturnsInHanded {} Try.checked os 6 .any (Rows.slotNeedsSpec.pre6 enc Try.prog Try.f6 Rows.slotNeedsRow.domain false) (Rows.slotNeedsSpec.post enc Try.prog Try.f6 false true false false) := by
  refine returnsInHanded_of_change (C := Try.checked) own started (by kernel_rfl) Try.func6
    (ChangeSpec.witness6 (enc := enc) (C := Try.checked) false ⟨#[], #[.int .i64 0, .int .i64 0], []⟩ 8 (by kernel_rfl) (by kernel_rfl) (by kernel_rfl) (by kernel_rfl)) ?_
  intro W base args ds gs before hval0 hW hcnd _
  have hval : ∀ (j : Nat) t v, Try.f6.params[j]? = some t → args[j]? = some v → Value.okWide Try.prog W .any base t v := hval0
  have hW' := hW
  obtain ⟨p, q, hA0, hV, hpq, hfz, hnd⟩ := hW
  have hA : DataW.TrodAll enc Try.prog W 0 (fun _ => true) true Try.f6.params.toList args.toList ds p := hA0
  have hlt : ∀ x ∈ p, x.block < W.heap.size := fun x hx => hW'.lt x (by rw [hpq]; exact List.mem_append_left _ hx)
  rw [Try.params6] at hA hval
  obtain ⟨v0, vs0, d0, ds0, p0, q0, hargs, rfl, hp0, h0, r0⟩ := trodAll_cons hA
  obtain ⟨v1, vs1, d1, ds1, p1, q1, rfl, rfl, hp1, h1, r1⟩ := trodAll_cons r0
  obtain ⟨rfl, rfl, hpn⟩ := trodAll_nil r1
  obtain rfl : args = #[v0, v1] := by cases args; simp_all
  obtain ⟨rfl, rfl⟩ := trodVars_none hV
  obtain ⟨a0, rfl, rfl, -, w0⟩ := open_int Try.underlying3 (hval 0 3 v0 rfl rfl) h0
  obtain ⟨a1, rfl, rfl, -, w1⟩ := open_int Try.underlying3 (hval 1 3 v1 rfl rfl) h1
  refine (slotNeeds_walk a0 w0 a1 w1 W).mono fun e W' ⟨he, hg⟩ => ?_
  subst he
  exact ⟨_, rfl, law_post (T := 4) laidOut (by kernel_rfl) Try.underlying4 rfl rfl hW' rfl rfl rfl hg⟩
theorem over : Rows.slotNeedsRow.holds Try.pinned (OpenSpec.ofChange Rows.slotNeedsSpec) :=
  OpenClaim.holds_of_wide 6 Try.f6 rfl rfl rfl rfl rfl rfl rfl ⟨rfl, rfl, rfl, rfl, rfl⟩ rfl rfl rfl rfl rfl (by kernel_rfl) Try.func6 (by kernel_rfl)
    (of_decide_eq_true (by kernel_rfl)) (by unfold Func.isWrapper; rw [if_neg (of_decide_eq_false (by kernel_rfl))]; exact ⟨rfl, rfl⟩)
    (fun os started H enc _ => lifted os started H enc)
/-- the statement -/
theorem proved : Rows.SlotNeedsSaid := over
#print axioms proved
end slotNeeds
end Go.Proofs.Ytlfpkepgamnidaa
