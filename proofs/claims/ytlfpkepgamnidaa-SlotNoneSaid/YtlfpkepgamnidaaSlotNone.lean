/- The law SlotNone: a wheel and a ring that are nil, or that nobody made, answer ErrNil, and tell nothing; every input. -/
import Derived.Test.YtlfpkepgamnidaaSlotB
import Derived.Test.YtlfpkepgamnidaaRing
namespace Go.Proofs.Ytlfpkepgamnidaa
open Go.RowKit Go.As
set_option linter.unusedVariables false

/-- no wheel: nil, or nobody's -/
def NoW (w : World) (p : Value) : Prop := p = .pointer none ∨ ∃ b, p = .pointer (some ⟨b, 0, none⟩) ∧ Blk w b 59 #[.int .i64 0, .int .i64 0]
/-- no ring: nil, or nobody's -/
def NoR (w : World) (p : Value) : Prop := p = .pointer none ∨ ∃ b, p = .pointer (some ⟨b, 0, none⟩) ∧ Blk w b 62 #[.bool false, .slice none 0 0]

theorem wturn_none (w : World) (p : Value) (h : NoW w p) : Calls Try.prog 23 #[p] w fun e w' => e = .returned (.tuple #[.int .i64 0, .int .i64 1]) ∧ w = w' := by
  rcases h with rfl | ⟨b, rfl, hb⟩
  · go_enter Try.func23, Try.ntmps23
    go_wp2
    go_ret2
    exact ⟨rfl, rfl⟩
  · have c0 := hb.cell 0
    simp at c0
    clear hb
    go_enter Try.func23, Try.ntmps23
    go_wp2
    go_ret2
    exact ⟨rfl, rfl⟩

theorem wnext_none (w : World) (p : Value) (h : NoW w p) : Calls Try.prog 22 #[p] w fun e w' => e = .returned (.int .i64 0) ∧ w = w' := by
  rcases h with rfl | ⟨b, rfl, hb⟩
  · go_enter Try.func22, Try.ntmps22
    go_wp2
    go_ret
    exact ⟨rfl, rfl⟩
  · have c0 := hb.cell 0
    simp at c0
    clear hb
    go_enter Try.func22, Try.ntmps22
    go_wp2
    go_ret
    exact ⟨rfl, rfl⟩

theorem wreset_none (w : World) (p : Value) (h : NoW w p) : Calls Try.prog 21 #[p] w fun e w' => e = .returned (.int .i64 1) ∧ w = w' := by
  rcases h with rfl | ⟨b, rfl, hb⟩
  · go_enter Try.func21, Try.ntmps21
    go_wp2
    go_ret
    exact ⟨rfl, rfl⟩
  · have c0 := hb.cell 0
    simp at c0
    clear hb
    go_enter Try.func21, Try.ntmps21
    go_wp2
    go_ret
    exact ⟨rfl, rfl⟩

theorem gturn_none (w : World) (p : Value) (h : NoR w p) : Calls Try.prog 31 #[p] w fun e w' => e = .returned (.tuple #[.int .i64 0, .int .i64 1]) ∧ w = w' := by
  rcases h with rfl | ⟨b, rfl, hb⟩
  · go_enter Try.func31, Try.ntmps31
    go_wp2
    go_ret2
    exact ⟨rfl, rfl⟩
  · have c0 := hb.cell 0
    simp at c0
    clear hb
    go_enter Try.func31, Try.ntmps31
    go_wp2
    go_ret2
    exact ⟨rfl, rfl⟩

theorem gadd_none (w : World) (p : Value) (h : NoR w p) (id : Int) : Calls Try.prog 27 #[p, .int .i64 id] w fun e w' => e = .returned (.int .i64 1) ∧ w = w' := by
  rcases h with rfl | ⟨b, rfl, hb⟩
  · go_enter Try.func27, Try.ntmps27
    go_wp2
    go_ret
    exact ⟨rfl, rfl⟩
  · have c0 := hb.cell 0
    simp at c0
    clear hb
    go_enter Try.func27, Try.ntmps27
    go_wp2
    go_ret
    exact ⟨rfl, rfl⟩

theorem gdrop_none (w : World) (p : Value) (h : NoR w p) (id : Int) : Calls Try.prog 29 #[p, .int .i64 id] w fun e w' => e = .returned (.int .i64 1) ∧ w = w' := by
  rcases h with rfl | ⟨b, rfl, hb⟩
  · go_enter Try.func29, Try.ntmps29
    go_wp2
    go_ret
    exact ⟨rfl, rfl⟩
  · have c0 := hb.cell 0
    simp at c0
    clear hb
    go_enter Try.func29, Try.ntmps29
    go_wp2
    go_ret
    exact ⟨rfl, rfl⟩

theorem gall_none (w : World) (p : Value) (h : NoR w p) : Calls Try.prog 33 #[p] w fun e w' => e = .returned (.slice none 0 0) ∧ w = w' := by
  rcases h with rfl | ⟨b, rfl, hb⟩
  · go_enter Try.func33, Try.ntmps33
    go_wp2
    go_ret
    exact ⟨rfl, rfl⟩
  · have c0 := hb.cell 0
    simp at c0
    clear hb
    go_enter Try.func33, Try.ntmps33
    go_wp2
    go_ret
    exact ⟨rfl, rfl⟩

theorem ghas_none (w : World) (p : Value) (h : NoR w p) (id : Int) : Calls Try.prog 34 #[p, .int .i64 id] w fun e w' => e = .returned (.bool false) ∧ w = w' := by
  rcases h with rfl | ⟨b, rfl, hb⟩
  · go_enter Try.func34, Try.ntmps34
    go_wp2
    go_ret
    exact ⟨rfl, rfl⟩
  · have c0 := hb.cell 0
    simp at c0
    clear hb
    go_enter Try.func34, Try.ntmps34
    go_wp2
    go_ret
    exact ⟨rfl, rfl⟩


set_option maxRecDepth 100000 in
set_option maxHeartbeats 1600000 in
theorem slotNone_walk (id : Int) (wi : (Lit.int .i64 id).wf = true) (w : World) :
    Calls Try.prog 9 #[.int .i64 id] w fun e w' => e = .returned (.bool true) ∧ Below w.heap.size w w' := by
  go_enter Try.func9, Try.ntmps9
  go_wp2_with fail
  obtain ⟨W, hW⟩ : ∃ W, W = (((w.alloc (.cells #[.int .i64 0, .int .i64 0] 59)).alloc (.cells #[.pointer none, .pointer (some ⟨w.heap.size, 0, none⟩)] 24)).alloc (.cells #[.bool false, .slice none 0 0] 62)).alloc (.cells #[.pointer none, .pointer (some ⟨w.heap.size + 1 + 1, 0, none⟩)] 45) := ⟨_, rfl⟩
  rw [← hW]
  have hb : Below w.heap.size w W := by rw [hW]; exact (((((Below.refl _ _).alloc (Nat.le_refl _) _).alloc (by simp) _).alloc (by simp; omega) _).alloc (by simp; omega) _)
  have k1 : Blk W w.heap.size 59 #[.int .i64 0, .int .i64 0] := by rw [hW]; exact (((Blk.new _ _ _).alloc _).alloc _).alloc _
  have k2 : Blk W (w.heap.size + 1) 24 #[.pointer none, .pointer (some ⟨w.heap.size, 0, none⟩)] := by
    rw [hW]; have := (((Blk.new (w.alloc (.cells #[.int .i64 0, .int .i64 0] 59)) 24 #[.pointer none, .pointer (some ⟨w.heap.size, 0, none⟩)]).alloc (.cells #[.bool false, .slice none 0 0] 62)).alloc (.cells #[.pointer none, .pointer (some ⟨w.heap.size + 1 + 1, 0, none⟩)] 45)); simpa using this
  have k3 : Blk W (w.heap.size + 1 + 1) 62 #[.bool false, .slice none 0 0] := by
    rw [hW]; have := (Blk.new ((w.alloc (.cells #[.int .i64 0, .int .i64 0] 59)).alloc (.cells #[.pointer none, .pointer (some ⟨w.heap.size, 0, none⟩)] 24)) 62 #[.bool false, .slice none 0 0]).alloc (.cells #[.pointer none, .pointer (some ⟨w.heap.size + 1 + 1, 0, none⟩)] 45); simpa using this
  have k4 : Blk W (w.heap.size + 1 + 1 + 1) 45 #[.pointer none, .pointer (some ⟨w.heap.size + 1 + 1, 0, none⟩)] := by
    rw [hW]; have := (Blk.new (((w.alloc (.cells #[.int .i64 0, .int .i64 0] 59)).alloc (.cells #[.pointer none, .pointer (some ⟨w.heap.size, 0, none⟩)] 24)).alloc (.cells #[.bool false, .slice none 0 0] 62)) 45 #[.pointer none, .pointer (some ⟨w.heap.size + 1 + 1, 0, none⟩)]); simpa using this
  have H := Lib.hid (And.intro hb (And.intro k1 (And.intro k2 (And.intro k3 k4))))
  clear hW hb k1 k2 k3 k4
  go_loop [5] (fun i => ∃ k : Nat, k ≤ 2 ∧ i = .int .i64 k) (fun i => 2 - (intOf i).toNat)
  case atStart => exact ⟨0, by omega, rfl⟩
  case round =>
    obtain ⟨k, hk, rfl⟩ := hrel
    by_cases hlt : k < 2
    · obtain ⟨p, q, hp, hq, hcp, hcq⟩ : ∃ p q, NoW W p ∧ NoR W q ∧ W.cell? ⟨w.heap.size + 1, k, none⟩ = some p ∧ W.cell? ⟨w.heap.size + 1 + 1 + 1, k, none⟩ = some q := by
        have h2 := H.out.2.2.1.cell k
        have h4 := H.out.2.2.2.2.cell k
        rcases (show k = 0 ∨ k = 1 by omega) with rfl | rfl
        · exact ⟨_, _, .inl rfl, .inl rfl, h2, h4⟩
        · exact ⟨_, _, .inr ⟨_, rfl, H.out.2.1⟩, .inr ⟨_, rfl, H.out.2.2.2.1⟩, h2, h4⟩
      have HP := Lib.hid (And.intro hp hq)
      clear hp hq
      go_wp2_with (first
        | (go_at_call 23; refine (wturn_none _ _ HP.out.1).mono ?_; rintro e w' ⟨rfl, rfl⟩)
        | (go_at_call 22; refine (wnext_none _ _ HP.out.1).mono ?_; rintro e w' ⟨rfl, rfl⟩)
        | (go_at_call 21; refine (wreset_none _ _ HP.out.1).mono ?_; rintro e w' ⟨rfl, rfl⟩)
        | (go_at_call 31; refine (gturn_none _ _ HP.out.2).mono ?_; rintro e w' ⟨rfl, rfl⟩)
        | (go_at_call 27; refine (gadd_none _ _ HP.out.2 _).mono ?_; rintro e w' ⟨rfl, rfl⟩)
        | (go_at_call 29; refine (gdrop_none _ _ HP.out.2 _).mono ?_; rintro e w' ⟨rfl, rfl⟩)
        | (go_at_call 33; refine (gall_none _ _ HP.out.2).mono ?_; rintro e w' ⟨rfl, rfl⟩)
        | (go_at_call 34; refine (ghas_none _ _ HP.out.2 _).mono ?_; rintro e w' ⟨rfl, rfl⟩))
      go_round
      case rel => exact ⟨k + 1, by omega, by go_num⟩
      case measure => simp [intOf]; omega
    · go_wp2_with fail
      refine (awake_ok _).mono ?_
      rintro e w1 ⟨rfl, hb1⟩
      go_wp2_with fail
      go_ret
      exact ⟨rfl, below_then H.out.1 hb1⟩

namespace slotNone
set_option linter.unusedVariables false
open Go.ChangeShapes Go.WideShapes Go.ChangeAt Go.RowKit Go.As
theorem own : ownKnob Try.prog.godebug = none := by kernel_rfl
theorem laidOut : laidOutB Try.prog = true := by kernel_rfl
set_option maxRecDepth 100000 in
theorem lifted (os : Os) (started : os.Started) (H : Type) (enc : TypeId × Value → H) :
    ReturnsInHanded {} Try.checked os 9 .any (Rows.slotNoneSpec.pre6 enc Try.prog Try.f9 Rows.slotNoneRow.domain false) (Rows.slotNoneSpec.post enc Try.prog Try.f9 false true false false) := by
  refine returnsInHanded_of_change (C := Try.checked) own started (by kernel_rfl) Try.func9
    (ChangeSpec.witness6 (enc := enc) (C := Try.checked) false ⟨#[], #[.int .i64 0], []⟩ 8 (by kernel_rfl) (by kernel_rfl) (by kernel_rfl) (by kernel_rfl)) ?_
  intro W base args ds gs before hval0 hW hcnd _
  have hval : ∀ (j : Nat) t v, Try.f9.params[j]? = some t → args[j]? = some v → Value.okWide Try.prog W .any base t v := hval0
  have hW' := hW
  obtain ⟨p, q, hA0, hV, hpq, hfz, hnd⟩ := hW
  have hA : DataW.TrodAll enc Try.prog W 0 (fun _ => true) true Try.f9.params.toList args.toList ds p := hA0
  have hlt : ∀ x ∈ p, x.block < W.heap.size := fun x hx => hW'.lt x (by rw [hpq]; exact List.mem_append_left _ hx)
  rw [Try.params9] at hA hval
  obtain ⟨v0, vs0, d0, ds0, p0, q0, hargs, rfl, hp0, h0, r0⟩ := trodAll_cons hA
  obtain ⟨rfl, rfl, hpn⟩ := trodAll_nil r0
  obtain rfl : args = #[v0] := by cases args; simp_all
  obtain ⟨rfl, rfl⟩ := trodVars_none hV
  obtain ⟨a0, rfl, rfl, -, w0⟩ := open_int Try.underlying3 (hval 0 3 v0 rfl rfl) h0
  refine (slotNone_walk a0 w0 W).mono fun e W' ⟨he, hg⟩ => ?_
  subst he
  exact ⟨_, rfl, law_post (T := 4) laidOut (by kernel_rfl) Try.underlying4 rfl rfl hW' rfl rfl rfl hg⟩
theorem over : Rows.slotNoneRow.holds Try.pinned (OpenSpec.ofChange Rows.slotNoneSpec) :=
  OpenClaim.holds_of_wide 9 Try.f9 rfl rfl rfl rfl rfl rfl rfl ⟨rfl, rfl, rfl, rfl, rfl⟩ rfl rfl rfl rfl rfl (by kernel_rfl) Try.func9 (by kernel_rfl)
    (of_decide_eq_true (by kernel_rfl)) (by unfold Func.isWrapper; rw [if_neg (of_decide_eq_false (by kernel_rfl))]; exact ⟨rfl, rfl⟩)
    (fun os started H enc _ => lifted os started H enc)
/-- the statement -/
theorem proved : Rows.SlotNoneSaid := over
#print axioms proved
end slotNone
end Go.Proofs.Ytlfpkepgamnidaa
