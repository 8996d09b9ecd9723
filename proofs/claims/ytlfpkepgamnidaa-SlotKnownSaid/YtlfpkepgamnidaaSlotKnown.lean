/- The law SlotKnown: the chapter's examples are answered as it says; a closed statement. -/
import Derived.Test.YtlfpkepgamnidaaSlotB
import Derived.Test.YtlfpkepgamnidaaRing2
namespace Go.Proofs.Ytlfpkepgamnidaa
open Go.RowKit Go.As
set_option linter.unusedVariables false

/-- a ring of the call's own -/
structure RS (w W : World) (b : Nat) (v : Value) (L : List Int) : Prop where
  r : RingV W b v L
  lo : ∀ k, FR b v k → w.heap.size ≤ k
  bel : Below w.heap.size w W
  le : L.length ≤ 64
theorem RS.step {w W W' : World} {b : Nat} {v v' : Value} {L L' : List Int} (h : RS w W b v L) (hr : RingV W' b v' L') (ho : Only (FR b v) W W') (hs : SameOrNew W v v') (hl : L'.length ≤ 64) : RS w W' b v' L' := by
  refine ⟨hr, ?_, ho.below' h.bel (fun k hk hF => by have := h.lo k hF; omega), hl⟩
  rintro k (rfl | hk)
  · exact h.lo _ (.inl rfl)
  · rcases hs k hk with e' | e'
    · exact h.lo _ (.inr e')
    · have := h.bel.size; omega
theorem RS.below {w W W' : World} {b : Nat} {v : Value} {L : List Int} (h : RS w W b v L) (hb : Below W.heap.size W W') : RS w W' b v L :=
  ⟨h.r.below hb, h.lo, below_then h.bel hb, h.le⟩
theorem addC (w W : World) (b : Nat) (v : Value) (L : List Int) (id e : Int) (L' : List Int) (he : addE L id = (e, L')) (hl : L'.length ≤ 64) (h : RS w W b v L) :
    Calls Try.prog 27 #[.pointer (some ⟨b, 0, none⟩), .int .i64 id] W fun e' W' => e' = .returned (.int .i64 e) ∧ ∃ v', RS w W' b v' L' := by
  have := add_ok W b v L id h.r h.le
  rw [he] at this
  exact this.mono fun _ _ ⟨h1, v', h2, h3, h4⟩ => ⟨h1, v', h.step h2 h3 h4 hl⟩
theorem dropC (w W : World) (b : Nat) (v : Value) (L : List Int) (id e : Int) (L' : List Int) (he : dropE L id = (e, L')) (hl : L'.length ≤ 64) (h : RS w W b v L) :
    Calls Try.prog 29 #[.pointer (some ⟨b, 0, none⟩), .int .i64 id] W fun e' W' => e' = .returned (.int .i64 e) ∧ ∃ v', RS w W' b v' L' := by
  have := drop_ok W b v L id h.r h.le
  rw [he] at this
  exact this.mono fun _ _ ⟨h1, v', h2, h3, h4⟩ => ⟨h1, v', h.step h2 h3 h4 hl⟩
theorem turnC (w W : World) (b : Nat) (v : Value) (L : List Int) (x e : Int) (L' : List Int) (he : turnE L = (x, e, L')) (hl : L'.length ≤ 64) (h : RS w W b v L) :
    Calls Try.prog 31 #[.pointer (some ⟨b, 0, none⟩)] W fun e' W' => e' = .returned (.tuple #[.int .i64 x, .int .i64 e]) ∧ ∃ v', RS w W' b v' L' := by
  have := rturn2_ok W b v L h.r h.le
  rw [he] at this
  exact this.mono fun _ _ ⟨h1, v', h2, h3, h4⟩ => ⟨h1, v', h.step h2 h3 h4 hl⟩
theorem allC (w W : World) (b : Nat) (v : Value) (L : List Int) (h : RS w W b v L) :
    Calls Try.prog 33 #[.pointer (some ⟨b, 0, none⟩)] W fun e' W' => ∃ a c, e' = .returned (.slice a L.length c) ∧ Sl W' 1 a L.length (ints L) ∧ RS w W' b v L :=
  (all_ok W b v L h.r h.le).mono fun _ _ ⟨v', h1, h2, h3⟩ => by
    obtain ⟨a, c, rfl, -, -⟩ := own_form h2
    exact ⟨a, c, h1, Sl.of_own h2, h.below h3⟩
theorem lit_new {w : World} (l : List Int) (t : TypeId) : Sl (w.alloc (.cells (ints l).toArray t)) 1 (some ⟨w.heap.size, 0, none⟩) l.length (ints l) := by
  refine ⟨by simp [ints], fun _ => ⟨_, rfl, by simp, fun j u hu => ?_⟩⟩
  have : (⟨w.heap.size, 0, none⟩ : Addr).add j = ⟨w.heap.size, j, none⟩ := by unfold Addr.add; split <;> simp_all
  rw [this, World.cell?_alloc_at _ _ _ _ rfl]
  simpa using hu

set_option maxRecDepth 100000 in
set_option maxHeartbeats 3200000 in
theorem slotKnown_walk (w : World) : Calls Try.prog 10 #[] w fun e w' => e = .returned (.bool true) ∧ Below w.heap.size w w' := by
  go_enter Try.func10, Try.ntmps10
  go_wp2_with fail
  refine (wnew_ok 3 _ (by omega) (by omega)).mono ?_
  rintro e w1 ⟨rfl, hw1⟩
  have hb1 : Below w.heap.size w w1 := by rw [hw1]; exact (Below.refl _ _).alloc (Nat.le_refl _) _
  have hW1 : WheelAt w1 w.heap.size 3 0 := by rw [hw1]; exact Blk.new _ _ _
  have H1 := Lib.hid (And.intro hb1 hW1)
  clear hb1 hW1 hw1
  go_wp2_with fail
  refine (turns_ok w.heap.size 3 0 4 w1 H1.out.2 (by omega) (by omega) (by omega) (by omega) (by omega)).mono ?_
  rintro e w2 ⟨v2, rfl, -, hW2, hO2⟩
  have H2 := Lib.hid (And.intro (hO2.below' H1.out.1 (fun k hk => by omega)) hW2)
  clear hW2 hO2 H1
  go_wp2_with fail
  refine (reset_ok _ _ _ _ H2.out.2 (by omega)).mono ?_
  rintro e w3 ⟨rfl, hW3, hO3⟩
  have H3 := Lib.hid (And.intro (hO3.below' H2.out.1 (fun k hk => by omega)) hW3)
  clear hW3 hO3 H2
  go_wp2_with fail
  refine (next_ok _ _ _ _ H3.out.2 (by omega)).mono ?_
  rintro e w' ⟨rfl, rfl⟩
  go_wp2_with fail
  refine (wnew_bad 0 _ (by omega)).mono ?_
  rintro e w' ⟨rfl, rfl⟩
  go_wp2_with fail
  refine (wnew_bad 65 _ (by omega)).mono ?_
  rintro e w' ⟨rfl, rfl⟩
  go_wp2_with fail
  refine (newRing_ok _).mono ?_
  rintro e w4 ⟨rfl, hr4, hb4, -⟩
  have R0 : RS w w4 w3.heap.size (.slice none 0 0) [] := ⟨hr4, by
    rintro k (rfl | hk)
    · exact H3.out.1.size
    · simp [Value.ownBlock] at hk, below_then H3.out.1 hb4, by simp⟩
  have K0 := Lib.hid R0
  clear R0 hr4 hb4
  go_wp2_with fail
  refine (addC w _ _ _ [] (5) 0 [5] (by decide) (by decide) K0.out).mono ?_
  rintro e x1 ⟨rfl, v1', k1⟩
  have K1 := Lib.hid k1
  clear k1 K0
  go_wp2_with fail
  refine (addC w _ _ _ [5] (7) 0 [5, 7] (by decide) (by decide) K1.out).mono ?_
  rintro e x2 ⟨rfl, v2', k2⟩
  have K2 := Lib.hid k2
  clear k2 K1
  go_wp2_with fail
  refine (addC w _ _ _ [5, 7] (9) 0 [5, 7, 9] (by decide) (by decide) K2.out).mono ?_
  rintro e x3 ⟨rfl, v3', k3⟩
  have K3 := Lib.hid k3
  clear k3 K2
  go_wp2_with fail
  refine (turnC w _ _ _ [5, 7, 9] (5) 0 [7, 9, 5] (by decide) (by decide) K3.out).mono ?_
  rintro e x4 ⟨rfl, v4', k4⟩
  have K4 := Lib.hid k4
  clear k4 K3
  go_wp2_with fail
  refine (allC w _ _ _ [7, 9, 5] K4.out).mono ?_
  rintro e x5 ⟨a5, c5, rfl, s5, k5⟩
  have K5 := Lib.hid (And.intro s5 k5)
  clear k5 s5 K4
  go_wp2_with fail
  refine (sameInts_any a5 (some ⟨x5.heap.size, 0, none⟩) 3 3 c5 3 [7, 9, 5] [7, 9, 5] _ (by exact K5.out.1.below ((Below.refl _ _).alloc (Nat.le_refl _) _)) (by exact lit_new [7, 9, 5] _) (by decide) (by decide)).mono ?_
  rintro e y5 ⟨rfl, dn5, hy5⟩
  have k5 : RS w y5 w3.heap.size v4' [7, 9, 5] := by
    rw [hy5]
    have := K5.out.2.below ((Below.refl x5.heap.size x5).alloc (Nat.le_refl _) (.cells (ints [7, 9, 5]).toArray 3))
    exact ⟨this.r, this.lo, below_drewN this.bel _, this.le⟩
  clear hy5 K5
  have K5 := Lib.hid k5
  clear k5
  go_wp2_with fail
  refine (dropC w _ _ _ [7, 9, 5] (9) 0 [7, 5] (by decide) (by decide) K5.out).mono ?_
  rintro e x6 ⟨rfl, v6', k6⟩
  have K6 := Lib.hid k6
  clear k6 K5
  go_wp2_with fail
  refine (turnC w _ _ _ [7, 5] (7) 0 [5, 7] (by decide) (by decide) K6.out).mono ?_
  rintro e x7 ⟨rfl, v7', k7⟩
  have K7 := Lib.hid k7
  clear k7 K6
  go_wp2_with fail
  refine (turnC w _ _ _ [5, 7] (5) 0 [7, 5] (by decide) (by decide) K7.out).mono ?_
  rintro e x8 ⟨rfl, v8', k8⟩
  have K8 := Lib.hid k8
  clear k8 K7
  go_wp2_with fail
  refine (allC w _ _ _ [7, 5] K8.out).mono ?_
  rintro e x9 ⟨a9, c9, rfl, s9, k9⟩
  have K9 := Lib.hid (And.intro s9 k9)
  clear k9 s9 K8
  go_wp2_with fail
  refine (sameInts_any a9 (some ⟨x9.heap.size, 0, none⟩) 2 2 c9 2 [7, 5] [7, 5] _ (by exact K9.out.1.below ((Below.refl _ _).alloc (Nat.le_refl _) _)) (by exact lit_new [7, 5] _) (by decide) (by decide)).mono ?_
  rintro e y9 ⟨rfl, dn9, hy9⟩
  have k9 : RS w y9 w3.heap.size v8' [7, 5] := by
    rw [hy9]
    have := K9.out.2.below ((Below.refl x9.heap.size x9).alloc (Nat.le_refl _) (.cells (ints [7, 5]).toArray 3))
    exact ⟨this.r, this.lo, below_drewN this.bel _, this.le⟩
  clear hy9 K9
  have K9 := Lib.hid k9
  clear k9
  go_wp2_with fail
  refine (addC w _ _ _ [7, 5] (5) 7 [7, 5] (by decide) (by decide) K9.out).mono ?_
  rintro e x10 ⟨rfl, v10', k10⟩
  have K10 := Lib.hid k10
  clear k10 K9
  go_wp2_with fail
  refine (dropC w _ _ _ [7, 5] (8) 6 [7, 5] (by decide) (by decide) K10.out).mono ?_
  rintro e x11 ⟨rfl, v11', k11⟩
  have K11 := Lib.hid k11
  clear k11 K10
  go_wp2_with fail
  refine (addC w _ _ _ [7, 5] (-1) 2 [7, 5] (by decide) (by decide) K11.out).mono ?_
  rintro e x12 ⟨rfl, v12', k12⟩
  have K12 := Lib.hid k12
  clear k12 K11
  go_wp2_with fail
  refine (slots_ok 10 4 _ (by omega) (by omega) (by omega)).mono ?_
  rintro e w' ⟨rfl, rfl⟩
  rw [show slotsI 10 4 = 3 by decide]
  go_wp2_with fail
  refine (slots_ok 0 4 _ (by omega) (by omega) (by omega)).mono ?_
  rintro e w' ⟨rfl, rfl⟩
  rw [show slotsI 0 4 = 0 by decide]
  go_wp2_with fail
  refine (slots_ok 8 4 _ (by omega) (by omega) (by omega)).mono ?_
  rintro e w' ⟨rfl, rfl⟩
  rw [show slotsI 8 4 = 2 by decide]
  go_wp2_with fail
  refine (slots_bad 1 0 _ (by omega)).mono ?_
  rintro e w' ⟨rfl, rfl⟩
  go_wp2_with fail
  refine (awake_ok _).mono ?_
  rintro e w9 ⟨rfl, hb9⟩
  go_wp2_with fail
  go_ret
  exact ⟨rfl, below_then K12.out.bel hb9⟩

namespace slotKnown
set_option linter.unusedVariables false
open Go.ChangeShapes Go.WideShapes Go.ChangeAt Go.RowKit Go.As
theorem own : ownKnob Try.prog.godebug = none := by kernel_rfl
theorem laidOut : laidOutB Try.prog = true := by kernel_rfl
set_option maxRecDepth 100000 in
theorem lifted (os : Os) (started : os.Started) (H : Type) (enc : TypeId × Value → H) :
    ReturnsInHanded {} Try.checked os 10 .any (Rows.slotKnownSpec.pre6 enc Try.prog Try.f10 Rows.slotKnownRow.domain false) (Rows.slotKnownSpec.post enc Try.prog Try.f10 false true false false) := by
  refine returnsInHanded_of_change (C := Try.checked) own started (by kernel_rfl) Try.func10
    (ChangeSpec.witness6 (enc := enc) (C := Try.checked) false ⟨#[], #[], []⟩ 8 (by kernel_rfl) (by kernel_rfl) (by kernel_rfl) (by kernel_rfl)) ?_
  intro W base args ds gs before hval0 hW hcnd _
  have hval : ∀ (j : Nat) t v, Try.f10.params[j]? = some t → args[j]? = some v → Value.okWide Try.prog W .any base t v := hval0
  have hW' := hW
  obtain ⟨p, q, hA0, hV, hpq, hfz, hnd⟩ := hW
  have hA : DataW.TrodAll enc Try.prog W 0 (fun _ => true) true Try.f10.params.toList args.toList ds p := hA0
  have hlt : ∀ x ∈ p, x.block < W.heap.size := fun x hx => hW'.lt x (by rw [hpq]; exact List.mem_append_left _ hx)
  rw [Try.params10] at hA hval
  obtain ⟨hargs, rfl, hpn⟩ := trodAll_nil hA
  obtain rfl : args = #[] := by cases args; simp_all
  obtain ⟨rfl, rfl⟩ := trodVars_none hV
  refine (slotKnown_walk  W).mono fun e W' ⟨he, hg⟩ => ?_
  subst he
  exact ⟨_, rfl, law_post (T := 4) laidOut (by kernel_rfl) Try.underlying4 rfl rfl hW' rfl rfl rfl hg⟩
theorem over : Rows.slotKnownRow.holds Try.pinned (OpenSpec.ofChange Rows.slotKnownSpec) :=
  OpenClaim.holds_of_wide 10 Try.f10 rfl rfl rfl rfl rfl rfl rfl ⟨rfl, rfl, rfl, rfl, rfl⟩ rfl rfl rfl rfl rfl (by kernel_rfl) Try.func10 (by kernel_rfl)
    (of_decide_eq_true (by kernel_rfl)) (by unfold Func.isWrapper; rw [if_neg (of_decide_eq_false (by kernel_rfl))]; exact ⟨rfl, rfl⟩)
    (fun os started H enc _ => lifted os started H enc)
/-- the statement -/
theorem proved : Rows.SlotKnownSaid := over
#print axioms proved
end slotKnown
end Go.Proofs.Ytlfpkepgamnidaa
