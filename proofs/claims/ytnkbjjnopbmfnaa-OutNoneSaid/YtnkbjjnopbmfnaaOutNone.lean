/- The law OutNone: a buffer that is nil, or that nobody made, answers ErrNil, and tells nothing; every input. -/
import Derived.Test.YtnkbjjnopbmfnaaOutS
import Derived.Test.YtnkbjjnopbmfnaaFrame
import Derived.Test.YtnkbjjnopbmfnaaRows
namespace Go.Proofs.Ytnkbjjnopbmfnaa
open Go.RowKit Go.As
set_option linter.unusedVariables false

/-- no buffer: nil, or nobody's -/
def NoB (w : World) (p : Value) : Prop := p = .pointer none ∨ ∃ b, p = .pointer (some ⟨b, 0, none⟩) ∧ Blk w b 44 #[.int .i64 0, .slice none 0 0, .int .i64 0, .int .i64 0, .bool false]

theorem none_none (w : World) (p : Value) (h : NoB w p) : Calls Try.prog 38 #[p] w fun e w' => e = .returned (.bool true) ∧ w = w' := by
  rcases h with rfl | ⟨b, rfl, hb⟩
  · go_enter Try.func38, Try.ntmps38
    go_wp2
    go_ret
    exact ⟨rfl, rfl⟩
  · have c0 := hb.cell 0
    simp at c0
    clear hb
    go_enter Try.func38, Try.ntmps38
    go_wp2
    go_ret
    exact ⟨rfl, rfl⟩
theorem drain_none (w : World) (p : Value) (n : Int) (h : NoB w p) : Calls Try.prog 16 #[p, .int .i64 n] w fun e w' => e = .returned (.tuple #[.slice none 0 0, .int .i64 1]) ∧ w = w' := by
  have HN := Lib.hid (none_none w p h)
  clear h
  go_enter Try.func16, Try.ntmps16
  go_wp2_with (go_at_call 38; refine HN.out.mono ?_; rintro e w' ⟨rfl, rfl⟩)
  go_ret2
  exact ⟨rfl, rfl⟩
theorem put_none (w : World) (p : Value) (l : List UInt8) (h : NoB w p) : Calls Try.prog 14 #[p, .string (str l)] w fun e w' => e = .returned (.int .i64 1) ∧ w = w' := by
  have HN := Lib.hid (none_none w p h)
  clear h
  go_enter Try.func14, Try.ntmps14
  go_wp2_with (go_at_call 38; refine HN.out.mono ?_; rintro e w' ⟨rfl, rfl⟩)
  go_ret
  exact ⟨rfl, rfl⟩
theorem len_none (w : World) (p : Value) (h : NoB w p) : Calls Try.prog 20 #[p] w fun e w' => e = .returned (.int .i64 0) ∧ w = w' := by
  have HN := Lib.hid (none_none w p h)
  clear h
  go_enter Try.func20, Try.ntmps20
  go_wp2_with (go_at_call 38; refine HN.out.mono ?_; rintro e w' ⟨rfl, rfl⟩)
  go_ret
  exact ⟨rfl, rfl⟩
theorem total_none (w : World) (p : Value) (h : NoB w p) : Calls Try.prog 21 #[p] w fun e w' => e = .returned (.int .i64 0) ∧ w = w' := by
  have HN := Lib.hid (none_none w p h)
  clear h
  go_enter Try.func21, Try.ntmps21
  go_wp2_with (go_at_call 38; refine HN.out.mono ?_; rintro e w' ⟨rfl, rfl⟩)
  go_ret
  exact ⟨rfl, rfl⟩
theorem over_none (w : World) (p : Value) (h : NoB w p) : Calls Try.prog 22 #[p] w fun e w' => e = .returned (.bool false) ∧ w = w' := by
  have HN := Lib.hid (none_none w p h)
  clear h
  go_enter Try.func22, Try.ntmps22
  go_wp2_with (go_at_call 38; refine HN.out.mono ?_; rintro e w' ⟨rfl, rfl⟩)
  go_ret
  exact ⟨rfl, rfl⟩

set_option maxRecDepth 100000 in
set_option maxHeartbeats 1600000 in
theorem outNone_walk (l : List UInt8) (hl : l.length ≤ maxLen) (n : Int) (wi : (Lit.int .i64 n).wf = true) (w : World) :
    Calls Try.prog 4 #[.string (str l), .int .i64 n] w fun e w' => e = .returned (.bool true) ∧ Below w.heap.size w w' := by
  clear hl wi
  go_enter Try.func4, Try.ntmps4
  go_wp2_with fail
  obtain ⟨W, hW⟩ : ∃ W, W = (w.alloc (.cells #[.int .i64 0, .slice none 0 0, .int .i64 0, .int .i64 0, .bool false] 44)).alloc (.cells #[.pointer none, .pointer (some ⟨w.heap.size, 0, none⟩)] 23) := ⟨_, rfl⟩
  rw [← hW]
  have hb : Below w.heap.size w W := by rw [hW]; exact (((Below.refl _ _).alloc (Nat.le_refl _) _).alloc (by simp) _)
  have k1 : Blk W w.heap.size 44 #[.int .i64 0, .slice none 0 0, .int .i64 0, .int .i64 0, .bool false] := by rw [hW]; exact (Blk.new _ _ _).alloc _
  have k2 : Blk W (w.heap.size + 1) 23 #[.pointer none, .pointer (some ⟨w.heap.size, 0, none⟩)] := by
    rw [hW]; have := Blk.new (w.alloc (.cells #[.int .i64 0, .slice none 0 0, .int .i64 0, .int .i64 0, .bool false] 44)) 23 #[.pointer none, .pointer (some ⟨w.heap.size, 0, none⟩)]; simpa using this
  have H := Lib.hid (And.intro hb (And.intro k1 k2))
  clear hW hb k1 k2
  go_loop [6] (fun i => ∃ k : Nat, k ≤ 2 ∧ i = .int .i64 k) (fun i => 2 - (intOf i).toNat)
  case atStart => exact ⟨0, by omega, rfl⟩
  case round =>
    obtain ⟨k, hk, rfl⟩ := hrel
    by_cases hlt : k < 2
    · obtain ⟨p, hp, hcp⟩ : ∃ p, NoB W p ∧ W.cell? ⟨w.heap.size + 1, k, none⟩ = some p := by
        have h2 := H.out.2.2.cell k
        rcases (show k = 0 ∨ k = 1 by omega) with rfl | rfl
        · exact ⟨_, .inl rfl, h2⟩
        · exact ⟨_, .inr ⟨_, rfl, H.out.2.1⟩, h2⟩
      have HP := Lib.hid hp
      clear hp
      go_wp2_with (first
        | (go_at_call 16; refine (drain_none _ _ _ HP.out).mono ?_; rintro e w' ⟨rfl, rfl⟩)
        | (go_at_call 14; refine (put_none _ _ _ HP.out).mono ?_; rintro e w' ⟨rfl, rfl⟩)
        | (go_at_call 20; refine (len_none _ _ HP.out).mono ?_; rintro e w' ⟨rfl, rfl⟩)
        | (go_at_call 21; refine (total_none _ _ HP.out).mono ?_; rintro e w' ⟨rfl, rfl⟩)
        | (go_at_call 22; refine (over_none _ _ HP.out).mono ?_; rintro e w' ⟨rfl, rfl⟩))
      go_round
      case rel => exact ⟨k + 1, by omega, by go_num⟩
      case measure => simp [intOf]; omega
    · go_wp2_with fail
      refine (oawake_ok _).mono ?_
      rintro e w1 ⟨rfl, hb1⟩
      go_wp2_with fail
      go_ret
      exact ⟨rfl, below_then H.out.1 hb1⟩

namespace outNone
set_option linter.unusedVariables false
open Go.ChangeShapes Go.WideShapes Go.ChangeAt Go.RowKit Go.As
theorem own : ownKnob Try.prog.godebug = none := by kernel_rfl
theorem laidOut : laidOutB Try.prog = true := by kernel_rfl
set_option maxRecDepth 100000 in
theorem lifted (os : Os) (started : os.Started) (H : Type) (enc : TypeId × Value → H) :
    ReturnsInHanded {} Try.checked os 4 .any (Rows.outNoneSpec.pre6 enc Try.prog Try.f4 Rows.outNoneRow.domain false) (Rows.outNoneSpec.post enc Try.prog Try.f4 false true false false) := by
  refine returnsInHanded_of_change (C := Try.checked) own started (by kernel_rfl) Try.func4
    (ChangeSpec.witness6 (enc := enc) (C := Try.checked) false ⟨#[], #[.string ⟨#[]⟩, .int .i64 0], []⟩ 8 (by kernel_rfl) (by kernel_rfl) (by kernel_rfl) (by kernel_rfl)) ?_
  intro W base args ds gs before hval0 hW hcnd _
  have hval : ∀ (j : Nat) t v, Try.f4.params[j]? = some t → args[j]? = some v → Value.okWide Try.prog W .any base t v := hval0
  have hW' := hW
  obtain ⟨p, q, hA0, hV, hpq, hfz, hnd⟩ := hW
  have hA : DataW.TrodAll enc Try.prog W 0 (fun _ => true) true Try.f4.params.toList args.toList ds p := hA0
  have hlt : ∀ x ∈ p, x.block < W.heap.size := fun x hx => hW'.lt x (by rw [hpq]; exact List.mem_append_left _ hx)
  rw [Try.params4] at hA hval
  obtain ⟨v0, vs0, d0, ds0, p0, q0, hargs, rfl, hp0, h0, r0⟩ := trodAll_cons hA
  obtain ⟨v1, vs1, d1, ds1, p1, q1, rfl, rfl, hp1, h1, r1⟩ := trodAll_cons r0
  obtain ⟨rfl, rfl, hpn⟩ := trodAll_nil r1
  obtain rfl : args = #[v0, v1] := by cases args; simp_all
  obtain ⟨rfl, rfl⟩ := trodVars_none hV
  obtain ⟨s0, rfl, rfl, -, w0⟩ := ChangeMaps.open_string Try.underlying9 (hval 0 9 v0 rfl rfl) h0
  obtain ⟨l0, rfl⟩ := exists_str s0
  rw [str_size] at w0
  obtain ⟨a1, rfl, rfl, -, w1⟩ := open_int Try.underlying3 (hval 1 3 v1 rfl rfl) h1
  refine (outNone_walk l0 w0 a1 w1 W).mono fun e W' ⟨he, hg⟩ => ?_
  subst he
  exact ⟨_, rfl, law_post (T := 4) laidOut (by kernel_rfl) Try.underlying4 rfl rfl hW' rfl rfl rfl hg⟩
theorem over : Rows.outNoneRow.holds Try.pinned (OpenSpec.ofChange Rows.outNoneSpec) :=
  OpenClaim.holds_of_wide 4 Try.f4 rfl rfl rfl rfl rfl rfl rfl ⟨rfl, rfl, rfl, rfl, rfl⟩ rfl rfl rfl rfl rfl (by kernel_rfl) Try.func4 (by kernel_rfl)
    (of_decide_eq_true (by kernel_rfl)) (by unfold Func.isWrapper; rw [if_neg (of_decide_eq_false (by kernel_rfl))]; exact ⟨rfl, rfl⟩)
    (fun os started H enc _ => lifted os started H enc)
/-- the statement -/
theorem proved : Rows.OutNoneSaid := over
#print axioms proved
end outNone
end Go.Proofs.Ytnkbjjnopbmfnaa
