/- The law LexNames: lex.Name and lex.Word answer as assizeref04 does, on every string; every input, no conditions. -/
import Derived.Test.YtlfpkepgamnidaaLexB
import Derived.Test.YtlfpkepgamnidaaFrame
namespace Go.Proofs.Ytlfpkepgamnidaa
open Go.RowKit Go.As

theorem allN_run (l : List UInt8) : (runL (fun c => letterB c || digitB c) l 0 = l.length) ↔ allN l = true := by
  simp only [runL, allN, List.drop_zero, Nat.zero_add]
  constructor
  · intro h
    rw [List.all_eq_true]
    have hp := List.takeWhile_prefix (l := l) (fun c => letterB (c.toNat : Int) || digitB (c.toNat : Int))
    have := hp.eq_of_length h
    intro x hx
    rw [← this] at hx
    have := List.all_takeWhile (p := fun c : UInt8 => letterB (c.toNat : Int) || digitB (c.toNat : Int)) (l := l)
    rw [List.all_eq_true] at this
    exact this x hx
  · intro h
    rw [List.all_eq_true] at h
    congr 1
    induction l with
    | nil => rfl
    | cons c r ih =>
      have hc : (letterB (c.toNat : Int) || digitB (c.toNat : Int)) = true := h c (by simp)
      rw [List.takeWhile_cons, if_pos hc]
      rw [ih (fun x hx => h x (by simp [hx]))]

set_option maxHeartbeats 800000 in
theorem name_any (l : List UInt8) (w : World) (hl : l.length ≤ maxLen) : Calls Try.prog 11 #[.string (str l)] w fun e w' => e = .returned (.bool (nameB l)) ∧ w = w' := by
  have hrun := run_any 40 (fun c => letterB c || digitB c) l 0 w hl (by omega) (fun args w => by simp [go_sem]) (fun c w => name1_any c w)
  have HR := Lib.hid hrun
  clear hrun
  unfold maxLen at hl
  by_cases h0 : l.length < 1
  · have : l = [] := List.eq_nil_of_length_eq_zero (by omega)
    subst this
    go_enter Try.func11, Try.ntmps11
    go_wp2_with fail
    go_ret
    exact ⟨ret_bool (by simp [nameB]), rfl⟩
  have hne : l.isEmpty = false := by cases l <;> simp_all
  have hne' : (l == []) = false := by cases l <;> simp_all
  by_cases h1 : 24 < l.length
  · go_enter Try.func11, Try.ntmps11
    go_wp2_with fail
    go_ret
    exact ⟨ret_bool (by simp [nameB, h1]), rfl⟩
  have h00 : 0 < l.length := by omega
  cases hL : letterB (l[0].toNat : Int)
  · have HL := Lib.hid hL
    clear hL
    go_enter Try.func11, Try.ntmps11
    go_wp2_with (go_at_call 38; refine (letter_any _ _).mono ?_; rintro e w' ⟨rfl, rfl⟩; have hL := HL.out)
    go_ret
    exact ⟨ret_bool (by simp only [nameB, head_get h00, HL.out]; simp), rfl⟩
  cases hw : wordB l
  all_goals
    have HL := Lib.hid hL
    have HW := Lib.hid hw
    clear hL hw
    go_enter Try.func11, Try.ntmps11
    go_wp2_with (first | (go_at_call 38; refine (letter_any _ _).mono ?_; rintro e w' ⟨rfl, rfl⟩; have hL := HL.out) | (go_at_call 13; refine (word_any _ _).mono ?_; rintro e w1 ⟨rfl, rfl⟩; have hw := HW.out) | (go_at_call 39; refine (HR.out).mono ?_; rintro e w1 ⟨rfl, rfl⟩))
  · go_ret
    refine ⟨ret_bool ?_, rfl⟩
    rw [Bool.eq_iff_iff]
    simp only [nameB, head_get h00, HL.out, HW.out, if_neg h0, if_neg h1]
    simp
    rw [← allN_run]
    omega
  · go_ret
    exact ⟨ret_bool (by simp only [nameB, head_get h00, HL.out, HW.out]; simp), rfl⟩

set_option maxHeartbeats 800000 in
theorem lexNames_walk (l : List UInt8) (hl : l.length ≤ maxLen) (w : World) : Calls Try.prog 3 #[.string (str l)] w fun e w' => e = .returned (.bool true) ∧ Below w.heap.size w w' := by
  have hx : nameB [120] = true := by decide
  have HX := Lib.hid hx
  clear hx
  generalize hn : nameB l = n
  generalize hw : wordB l = u
  have HN := Lib.hid hn
  have HW := Lib.hid hw
  clear hn hw
  go_enter Try.func3, Try.ntmps3
  go_wp2_with fail
  refine (name_any _ _ hl).mono ?_
  rintro e w' ⟨rfl, rfl⟩
  rw [HN.out]
  go_wp2_with fail
  refine (nameR_any _ _ hl).mono ?_
  rintro e w1 ⟨rfl, hb1⟩
  rw [HN.out]
  go_wp2_with fail
  refine (word_any _ _).mono ?_
  rintro e w' ⟨rfl, rfl⟩
  rw [HW.out]
  go_wp2_with fail
  refine (wordR_any _ _).mono ?_
  rintro e w2 ⟨rfl, hb2⟩
  rw [HW.out]
  go_wp2_with fail
  refine (name_any [120] _ (by decide)).mono ?_
  rintro e w' ⟨rfl, rfl⟩
  rw [HX.out]
  go_wp2_with fail
  go_ret
  exact ⟨rfl, below_then hb1 hb2⟩

namespace lexNames
set_option linter.unusedVariables false
open Go.ChangeShapes Go.WideShapes Go.ChangeAt Go.RowKit Go.As
theorem own : ownKnob Try.prog.godebug = none := by kernel_rfl
theorem laidOut : laidOutB Try.prog = true := by kernel_rfl
set_option maxRecDepth 100000 in
theorem lifted (os : Os) (started : os.Started) (H : Type) (enc : TypeId × Value → H) :
    ReturnsInHanded {} Try.checked os 3 .any (Rows.lexNamesSpec.pre6 enc Try.prog Try.f3 Rows.lexNamesRow.domain false) (Rows.lexNamesSpec.post enc Try.prog Try.f3 false true false false) := by
  refine returnsInHanded_of_change (C := Try.checked) own started (by kernel_rfl) Try.func3
    (ChangeSpec.witness6 (enc := enc) (C := Try.checked) false ⟨#[], #[.string ⟨#[]⟩], []⟩ 8 (by kernel_rfl) (by kernel_rfl) (by kernel_rfl) (by kernel_rfl)) ?_
  intro W base args ds gs before hval0 hW hcnd _
  have hval : ∀ (j : Nat) t v, Try.f3.params[j]? = some t → args[j]? = some v → Value.okWide Try.prog W .any base t v := hval0
  have hW' := hW
  obtain ⟨p, q, hA0, hV, hpq, hfz, hnd⟩ := hW
  have hA : DataW.TrodAll enc Try.prog W 0 (fun _ => true) true Try.f3.params.toList args.toList ds p := hA0
  have hlt : ∀ x ∈ p, x.block < W.heap.size := fun x hx => hW'.lt x (by rw [hpq]; exact List.mem_append_left _ hx)
  rw [Try.params3] at hA hval
  obtain ⟨v0, vs0, d0, ds0, p0, q0, hargs, rfl, hp0, h0, r0⟩ := trodAll_cons hA
  obtain ⟨rfl, rfl, hpn⟩ := trodAll_nil r0
  obtain rfl : args = #[v0] := by cases args; simp_all
  obtain ⟨rfl, rfl⟩ := trodVars_none hV
  obtain ⟨s0, rfl, rfl, -, w0⟩ := ChangeMaps.open_string Try.underlying9 (hval 0 9 v0 rfl rfl) h0
  obtain ⟨l0, rfl⟩ := exists_str s0
  rw [str_size] at w0
  refine (lexNames_walk l0 w0 W).mono fun e W' ⟨he, hg⟩ => ?_
  subst he
  exact ⟨_, rfl, law_post (T := 4) laidOut (by kernel_rfl) Try.underlying4 rfl rfl hW' rfl rfl rfl hg⟩
theorem over : Rows.lexNamesRow.holds Try.pinned (OpenSpec.ofChange Rows.lexNamesSpec) :=
  OpenClaim.holds_of_wide 3 Try.f3 rfl rfl rfl rfl rfl rfl rfl ⟨rfl, rfl, rfl, rfl, rfl⟩ rfl rfl rfl rfl rfl (by kernel_rfl) Try.func3 (by kernel_rfl)
    (of_decide_eq_true (by kernel_rfl)) (by unfold Func.isWrapper; rw [if_neg (of_decide_eq_false (by kernel_rfl))]; exact ⟨rfl, rfl⟩)
    (fun os started H enc _ => lifted os started H enc)
/-- the statement -/
theorem proved : Rows.LexNamesSaid := over
#print axioms proved
end lexNames
end Go.Proofs.Ytlfpkepgamnidaa
