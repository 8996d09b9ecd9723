/- A ring of slots and the document's ring beside each other: what one call leaves of the other. Conditions: those in each theorem. -/
import Derived.Test.YtlfpkepgamnidaaRing4
import Derived.Test.YtlfpkepgamnidaaSlotB
namespace Go.Proofs.Ytlfpkepgamnidaa
open Go.RowKit Go.As
set_option linter.unusedVariables false

structure Pair (w0 w : World) (b1 : Nat) (v1 : Value) (L1 : List Int) (b2 : Nat) (v2 : Value) (L2 : List Int) : Prop where
  r : RingV w b1 v1 L1
  q : RRingV w b2 v2 L2
  ap : ∀ k, v1.ownBlock = some k → v2.ownBlock ≠ some k
  lo1 : ∀ k, FR b1 v1 k → w0.heap.size ≤ k
  lo2 : ∀ k, FR b2 v2 k → w0.heap.size ≤ k
  bel : Below w0.heap.size w0 w

section
variable {w0 w w' : World} {b1 b2 : Nat} {v1 v2 v1' v2' : Value} {L1 L2 L : List Int}
theorem Pair.apart (h : Pair w0 w b1 v1 L1 b2 v2 L2) : ∀ k, FR b1 v1 k → ¬ FR b2 v2 k := by
  rintro k (rfl | hk) (e | e)
  · exact Blk.ne_ h.r.1 h.q.1 (by decide) e
  · exact own_ne h.q.2 h.r.1 (by decide) e
  · subst e; exact own_ne h.r.2 h.q.1 (by decide) hk
  · exact h.ap k hk e
theorem Pair.stepR (h : Pair w0 w b1 v1 L1 b2 v2 L2) (hr : RingV w' b1 v1' L) (ho : Only (FR b1 v1) w w') (hs : SameOrNew w v1 v1') : Pair w0 w' b1 v1' L b2 v2 L2 := by
  refine ⟨hr, h.q.only ho (fun k hk hk' => h.apart k hk' hk), fun k hk e => ?_, ?_, h.lo2, ho.below' h.bel (fun k hk hF => by have := h.lo1 k hF; omega)⟩
  · rcases hs k hk with e' | e'
    · exact h.ap k e' e
    · have := h.q.lt k (.inr e); omega
  · rintro k (rfl | hk)
    · exact h.lo1 _ (.inl rfl)
    · rcases hs k hk with e' | e'
      · exact h.lo1 _ (.inr e')
      · have := h.bel.size; omega
theorem Pair.stepQ (h : Pair w0 w b1 v1 L1 b2 v2 L2) (hr : RRingV w' b2 v2' L) (ho : Only (FR b2 v2) w w') (hs : SameOrNew w v2 v2') : Pair w0 w' b1 v1 L1 b2 v2' L := by
  refine ⟨h.r.only ho (fun k hk hk' => h.apart k hk hk'), hr, fun k hk e => ?_, h.lo1, ?_, ho.below' h.bel (fun k hk hF => by have := h.lo2 k hF; omega)⟩
  · rcases hs k e with e' | e'
    · exact h.ap k hk e'
    · have := h.r.lt k (.inr hk); omega
  · rintro k (rfl | hk)
    · exact h.lo2 _ (.inl rfl)
    · rcases hs k hk with e' | e'
      · exact h.lo2 _ (.inr e')
      · have := h.bel.size; omega
theorem Pair.below (h : Pair w0 w b1 v1 L1 b2 v2 L2) (hb : Below w.heap.size w w') : Pair w0 w' b1 v1 L1 b2 v2 L2 :=
  ⟨h.r.below hb, h.q.below hb, h.ap, h.lo1, h.lo2, below_then h.bel hb⟩
theorem Pair.drew (h : Pair w0 w b1 v1 L1 b2 v2 L2) : Pair w0 w.drew b1 v1 L1 b2 v2 L2 := ⟨h.r, h.q, h.ap, h.lo1, h.lo2, h.bel.drew⟩
theorem Pair.drewN (h : Pair w0 w b1 v1 L1 b2 v2 L2) (n : Nat) : Pair w0 (w.drewN n) b1 v1 L1 b2 v2 L2 := ⟨h.r, h.q, h.ap, h.lo1, h.lo2, below_drewN h.bel n⟩
end

/-- a list of a ring -/
structure Fine (L : List Int) : Prop where
  nd : L.Nodup
  le : L.length ≤ 64
theorem Fine.add {L : List Int} (h : Fine L) (id : Int) : Fine (addE L id).2 := by
  unfold addE
  split
  · exact h
  split
  · exact h
  split
  · exact h
  · rename_i h1 h2
    refine ⟨?_, by simp; omega⟩
    rw [List.nodup_append]
    refine ⟨h.nd, by simp, ?_⟩
    intro a ha b hb e
    simp at hb
    subst hb; subst e
    exact h1 ha
theorem Fine.drop {L : List Int} (h : Fine L) (id : Int) : Fine (dropE L id).2 ∧ rdropE L id = dropE L id := by
  unfold dropE rdropE
  split
  · rename_i hm
    refine ⟨⟨h.nd.erase _, by have := List.length_erase_of_mem hm; have := h.le; simp only; omega⟩, ?_⟩
    rw [h.nd.erase_eq_filter]; rfl
  · exact ⟨h, rfl⟩
theorem Fine.turn {L : List Int} (h : Fine L) : Fine (turnE L).2.2 ∧ rrturnE L = turnE L := by
  cases L with
  | nil => exact ⟨⟨by simp [turnE], by simp [turnE]⟩, rfl⟩
  | cons x r =>
    have hnd := h.nd
    rw [List.nodup_cons] at hnd
    have hf : withoutI (x :: r) x = r := by
      rw [withoutI, List.filter_cons]
      simp
      intro a ha e
      subst e; exact hnd.1 ha
    refine ⟨⟨?_, by have := h.le; simpa [turnE] using this⟩, by rw [rrturnE, hf, turnE]⟩
    simp only [turnE]
    rw [List.nodup_append]
    refine ⟨hnd.2, by simp, ?_⟩
    intro a ha b hb e
    simp at hb
    subst hb; subst e
    exact hnd.1 ha

theorem rslots_bad (work slice : Int) (w : World) (h : work < 0 ∨ slice < 1) :
    Calls Try.prog 37 #[.int .i64 work, .int .i64 slice] w fun e w' => e = .returned (.tuple #[.int .i64 0, .int .i64 2]) ∧ w = w' := by
  rcases h with h | h
  · go_enter Try.func37, Try.ntmps37
    go_wp2
    go_ret2
    exact ⟨rfl, rfl⟩
  · by_cases h0 : work < 0
    all_goals
      go_enter Try.func37, Try.ntmps37
      go_wp2
      go_ret2
      exact ⟨rfl, rfl⟩
theorem rslots_ok (work slice : Int) (w : World) (h : 0 ≤ work) (h1 : 1 ≤ slice) (hw : work ≤ 9223372036854775807) :
    Calls Try.prog 37 #[.int .i64 work, .int .i64 slice] w fun e w' => e = .returned (.tuple #[.int .i64 (slotsI work slice), .int .i64 0]) ∧ w = w' := by
  have hd0 : 0 ≤ work / slice := Int.ediv_nonneg h (by omega)
  have hd1 : work / slice ≤ work := Int.ediv_le_self _ h
  have hm0 : 0 ≤ work % slice := Int.emod_nonneg _ (by omega)
  have hm1 : work % slice < slice := Int.emod_lt_of_pos _ (by omega)
  by_cases hr : 0 < work % slice
  · have hlt : work / slice < 9223372036854775807 := by
      by_cases h2 : slice = 1
      · subst h2; simp at hr
      · have : work / slice * slice ≤ work := Int.ediv_mul_le _ (by omega)
        have h2' : work / slice * 2 ≤ work / slice * slice := Int.mul_le_mul_of_nonneg_left (by omega) hd0
        omega
    have HS := Lib.hid (show slotsI work slice = work / slice + 1 by simp [slotsI, hr])
    go_enter Try.func37, Try.ntmps37
    go_wp2
    go_ret2
    exact ⟨by rw [HS.out]; rfl, rfl⟩
  · have HS := Lib.hid (show slotsI work slice = work / slice by simp [slotsI, hr])
    go_enter Try.func37, Try.ntmps37
    go_wp2
    go_ret2
    exact ⟨by rw [HS.out]; rfl, rfl⟩
theorem slots_both (work slice : Int) (hw : work ≤ 9223372036854775807) : ∃ n e : Int,
    (∀ w, Calls Try.prog 25 #[.int .i64 work, .int .i64 slice] w fun e' w' => e' = .returned (.tuple #[.int .i64 n, .int .i64 e]) ∧ w = w') ∧
    (∀ w, Calls Try.prog 37 #[.int .i64 work, .int .i64 slice] w fun e' w' => e' = .returned (.tuple #[.int .i64 n, .int .i64 e]) ∧ w = w') := by
  by_cases h : work < 0 ∨ slice < 1
  · exact ⟨0, 2, fun w => slots_bad _ _ w h, fun w => rslots_bad _ _ w h⟩
  · exact ⟨_, 0, fun w => slots_ok _ _ w (by omega) (by omega) hw, fun w => rslots_ok _ _ w (by omega) (by omega) hw⟩
end Go.Proofs.Ytlfpkepgamnidaa
