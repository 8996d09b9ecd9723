/- What slots.Ring's Drop does, and the document's ring (assizeref25). Conditions: a ring of at most 64 numbers. -/
import Derived.Test.YtlfpkepgamnidaaRing
namespace Go.Proofs.Ytlfpkepgamnidaa
open Go.RowKit Go.As
set_option linter.unusedVariables false

/-- what Drop answers, and the list behind it -/
def dropE (L : List Int) (id : Int) : Int × List Int := if id ∈ L then (0, L.erase id) else (6, L)
theorem erase_cut (L : List Int) (id : Int) : L.erase id = L.take (L.idxOf id) ++ L.drop (L.idxOf id + 1) := by
  induction L with
  | nil => rfl
  | cons x r ih =>
    rw [List.erase_cons, List.idxOf_cons]
    by_cases h : x = id
    · subst h; simp
    · have hb : (x == id) = false := by simpa using h
      rw [hb, ih]; simp

theorem two_new {w : World} (u v : Value) (t : TypeId) : Sl (w.alloc (.cells #[u, v] t)) 1 (some ⟨w.heap.size, 0, none⟩) 2 [u, v] := by
  refine ⟨rfl, fun _ => ⟨_, rfl, by simp, fun j x hx => ?_⟩⟩
  have : (⟨w.heap.size, 0, none⟩ : Addr).add j = ⟨w.heap.size, j, none⟩ := by unfold Addr.add; split <;> simp_all
  rw [this, World.cell?_alloc_at _ _ _ _ rfl]
  simpa using hx

set_option maxHeartbeats 1600000 in
theorem drop_ok (w : World) (b : Nat) (v : Value) (L : List Int) (id : Int) (h : RingV w b v L) (hl : L.length ≤ 64) :
    Calls Try.prog 29 #[.pointer (some ⟨b, 0, none⟩), .int .i64 id] w fun e w' => e = .returned (.int .i64 (dropE L id).1) ∧
      ∃ v', RingV w' b v' (dropE L id).2 ∧ Only (FR b v) w w' ∧ SameOrNew w v v' := by
  have HN := Lib.hid (rnone_ok w b v L h)
  have HV := Lib.hid h
  obtain ⟨a, c, rfl, hcap, -⟩ := own_form h.2
  have c1 := h.1.cell 1
  simp at c1
  have hS := Sl.of_own h.2
  have HI := Lib.hid (index_any a L.length c L id w hS (by simp only [maxLen]; omega))
  by_cases hid : id ∈ L
  · have hE : dropE L id = (0, L.take (L.idxOf id) ++ L.drop (L.idxOf id + 1)) := by rw [dropE, if_pos hid, erase_cut]
    have hk : L.idxOf id < L.length := List.idxOf_lt_length_iff.2 hid
    have hK : idxI L id = (L.idxOf id : Nat) := by simp [idxI, hid]
    generalize L.idxOf id = k at *
    have HK := Lib.hid hK
    have HE := Lib.hid hE
    obtain ⟨g, cap', hv, -, -⟩ := h.2.form (by omega)
    injection hv with hv1 hv2 hv3
    subst hv1 hv3
    clear hv2 hK hE hid
    have hP1 : (Part.mk (some ⟨g, 0, none⟩) k c (L.take k)).ok w := by
      have := hS.take (k := k) (by omega)
      simpa [Part.ok, ints, List.map_take] using this
    have hcut := hS.cut (k := k + 1) (cap := c) (by omega) hcap
    have hs1 := fun (W : World) => run_slice_hi (P := Try.prog) 28 3 _ 1 8 Try.underlying28 intInfo (some ⟨g, 0, none⟩) L.length c .i64 (k : Int) (by omega) (by omega) W
    have e1 : ((k : Int) + 1).toNat = k + 1 := by omega
    simp only [Int.toNat_natCast] at hs1
    obtain ⟨ad2, hP2, hs2⟩ : ∃ ad2, (Part.mk (some ad2) (L.length - (k + 1)) (c - (k + 1)) (L.drop (k + 1))).ok w ∧
        ∀ W, (Instr.slice 28 (.slice (some ⟨g, 0, none⟩) L.length c) (some (.int .i64 ((k : Int) + 1))) none none).run Try.prog W = .ok (.slice (some ad2) (L.length - (k + 1)) (c - (k + 1))) W := by
      have hs := fun (W : World) => run_slice_lo (P := Try.prog) 28 3 _ 1 8 Try.underlying28 intInfo (some ⟨g, 0, none⟩) L.length c .i64 ((k : Int) + 1) (by omega) (by omega) W
      simp only [e1] at hs
      by_cases hc1 : c = k + 1
      · rw [if_pos hc1] at hcut
        simp only [if_pos hc1] at hs
        exact ⟨_, by simpa [Part.ok, ints, List.map_drop] using hcut, hs⟩
      · rw [if_neg hc1] at hcut
        simp only [if_neg hc1] at hs
        exact ⟨_, by simpa [Part.ok, ints, List.map_drop] using hcut, hs⟩
    have HC := Lib.hid (fun (W : World) (hW : Below w.heap.size w W) (hs : Sl W 1 (some ⟨w.heap.size, 0, none⟩) 2 [.slice (some ⟨g, 0, none⟩) k c, .slice (some ad2) (L.length - (k + 1)) (c - (k + 1))]) =>
      concat_any (some ⟨w.heap.size, 0, none⟩) 2 2 [Part.mk (some ⟨g, 0, none⟩) k c (L.take k), Part.mk (some ad2) (L.length - (k + 1)) (c - (k + 1)) (L.drop (k + 1))] W hs
        (by intro p hp; simp at hp; rcases hp with rfl | rfl; exact hP1.below hW; exact hP2.below hW) (by omega) (by simp [flatL]; omega))
    have hw : IntKind.i64.wrap ((k : Int) + 1) = (k : Int) + 1 := IntWalk.i64_in _ (by omega)
    have HF : flatL [Part.mk (some ⟨g, 0, none⟩) k c (L.take k), Part.mk (some ad2) (L.length - (k + 1)) (c - (k + 1)) (L.drop (k + 1))] = L.take k ++ L.drop (k + 1) := by simp [flatL]
    simp only [HF] at HC
    clear HF
    generalize L.take k ++ L.drop (k + 1) = R at HC HE
    clear h hS hP1 hP2 hcut e1
    go_enter Try.func29, Try.ntmps29
    go_wp2_with (first
      | (go_at_call 46; refine HN.out.mono ?_; rintro e w' ⟨rfl, rfl⟩)
      | (go_at_call 47; refine HI.out.mono ?_; rintro e w' ⟨rfl, rfl⟩; rw [HK.out]))
    refine wp_region_plan (.take 0 <| .take 1 <| .take 2 <| .take 3 <| .take 5 <| .take 7 <| .take 8 <| .take 9 <| .take 11 <| .take 12 <| .alt (.run 4 <| .take 6 <| .run 10 <| .take 13 <| .run 14 <| .run 15 <| .take 16 <| .take 17 <| .run 18 <| .done) (.run 10 <| .take 13 <| .run 4 <| .take 6 <| .run 14 <| .run 15 <| .take 16 <| .take 17 <| .run 18 <| .done)) (by kernel_rfl) (by kernel_rfl) (by kernel_rfl) (by kernel_rfl) ?_
    go_wp2_with (first
      | ((with_reducible refine wpPlan_isTake ?_); refine wpPlan_take (v := ?_) rfl ?_ (fun w => ?_) ?_; rotate_left 1; (focus rfl); (focus (first | (go_simp; done) | (go_simp; with_reducible rfl))); simp only [Act.put, List.setIfInBounds_toArray, List.set_cons_zero, List.set_cons_succ]) | ((with_reducible refine wpPlan_isTake ?_); refine wpPlan_skip rfl ?_ ?_; (focus rfl); simp only [Act.put, List.setIfInBounds_toArray, List.set_cons_zero, List.set_cons_succ]) | ((with_reducible refine wpPlan_isRun ?_); refine wpPlan_run rfl (fun K hK => ?_); go_simp) | ((with_reducible refine wpPlan_alt ?_ ?_)) | ((with_reducible refine wpPlan_done ?_))
      | (go_at_call 48
         refine (HC.out _ (by exact ((Below.refl _ _).alloc (Nat.le_refl _) _).drew) (by exact two_new _ _ _)).mono ?_
         rintro e w1 ⟨v1, rfl, hown1, hb1⟩
         have hb2 : Below w.heap.size w w1 := Below.trans (((Below.refl w.heap.size w).alloc (Nat.le_refl _) _).drew) (hb1.mono (by simp))
         have hB2 := HV.out.1.belowS hb2
         have hnew : ∀ q, v1.ownBlock = some q → w.heap.size ≤ q := fun q hq => by have := (hown1.lt q hq).1; simp at this; omega
         obtain ⟨a', c', rfl, -, -⟩ := own_form hown1
         have c1' := hB2.cell 1
         have f1' := hB2.frozen 1
         simp at c1' f1'
         have H2 := Lib.hid (And.intro hown1 (And.intro hB2 (And.intro hb2 hnew)))
         clear hown1 hB2 hb2 hnew hb1))
    all_goals
      go_ret
      rw [HE.out]
      refine ⟨rfl, .slice a' R.length c', ⟨?_, ?_⟩, (Only.of_below H2.out.2.2.1 _).set (p := ⟨b, 1, none⟩) (.inl (.inl rfl)) _, fun q hq => .inr (H2.out.2.2.2 q hq)⟩
      · exact H2.out.2.1.set_ 1 (.slice a' R.length c')
      · exact own_mono (own_set H2.out.1 (p := ⟨b, 1, none⟩) (fun e => by have h1 : w.heap.size ≤ b := H2.out.2.2.2 _ e; have := HV.out.1.lt; omega) (.slice a' R.length c')) (Nat.zero_le _)
  · have hE := Lib.hid (show dropE L id = (6, L) by simp [dropE, hid])
    have hK := Lib.hid (idxI_no hid)
    clear hid h hS
    go_enter Try.func29, Try.ntmps29
    go_wp2_with (first
      | (go_at_call 46; refine HN.out.mono ?_; rintro e w' ⟨rfl, rfl⟩)
      | (go_at_call 47; refine HI.out.mono ?_; rintro e w' ⟨rfl, rfl⟩; rw [hK.out]))
    go_ret
    rw [hE.out]
    exact ⟨rfl, _, HV.out, Only.refl _ _, SameOrNew.rfl _ _⟩
end Go.Proofs.Ytlfpkepgamnidaa
