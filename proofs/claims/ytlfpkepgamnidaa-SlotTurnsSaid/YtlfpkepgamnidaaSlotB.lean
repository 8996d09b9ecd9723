/- What the statements' own helpers of layer 25 answer (awake, once), and slots.Slots; and the laws SlotFair and SlotNeeds: every input. -/
import Derived.Test.YtlfpkepgamnidaaSlotA
import Derived.Test.YtlfpkepgamnidaaFrame
namespace Go.Proofs.Ytlfpkepgamnidaa
open Go.RowKit Go.As

theorem awake_ok (w : World) : Calls Try.prog 15 #[] w fun e w' => e = .returned (.bool true) ∧ Below w.heap.size w w' := by
  go_enter Try.func15, Try.ntmps15
  go_wp2_with fail
  refine (wnew_ok 3 _ (by omega) (by omega)).mono ?_
  rintro e w1 ⟨rfl, hw1⟩
  have hb1 : Below w.heap.size w w1 := by rw [hw1]; exact (Below.refl _ _).alloc (Nat.le_refl _) _
  have hW1 : WheelAt w1 w.heap.size 3 0 := by rw [hw1]; exact Blk.new _ _ _
  clear hw1
  have h1 := Lib.hid (And.intro hb1 hW1)
  clear hb1 hW1
  go_wp2_with fail
  refine (turns_ok w.heap.size 3 0 4 w1 h1.out.2 (by omega) (by omega) (by omega) (by omega) (by omega)).mono ?_
  rintro e w2 ⟨v, rfl, hown, hW2, hO2⟩
  have hb2 : Below w.heap.size w w2 := hO2.below' h1.out.1 (fun k hk => by omega)
  obtain ⟨a, c, rfl, -, -⟩ := own_form hown
  have h2 := Lib.hid (And.intro hb2 (And.intro hW2 (Sl.of_own hown)))
  clear hb2 hW2 hown hO2 h1
  have hsz := h2.out.1.size
  go_wp2_with fail
  have hb3 : Below w.heap.size w (w2.alloc (.cells #[.int .i64 0, .int .i64 1, .int .i64 2, .int .i64 0] 3)) := h2.out.1.alloc hsz _
  have hS3 : Sl (w2.alloc (.cells #[.int .i64 0, .int .i64 1, .int .i64 2, .int .i64 0] 3)) 1 (some ⟨w2.heap.size, 0, none⟩) 4 (ints [0, 1, 2, 0]) := by
    refine ⟨rfl, fun _ => ⟨_, rfl, by simp, fun j u hu => ?_⟩⟩
    have : (⟨w2.heap.size, 0, none⟩ : Addr).add j = ⟨w2.heap.size, j, none⟩ := by unfold Addr.add; split <;> simp_all
    rw [this, World.cell?_alloc_at _ _ _ _ rfl]
    simpa [ints] using hu
  have hS4 := h2.out.2.2.below ((Below.refl w2.heap.size w2).alloc (Nat.le_refl _) (.cells #[.int .i64 0, .int .i64 1, .int .i64 2, .int .i64 0] 3))
  refine (sameInts_any _ _ 4 4 _ _ _ [0, 1, 2, 0] _ hS4 hS3 (by decide) (by decide)).mono ?_
  rintro e w' ⟨rfl, k, rfl⟩
  have hW4 : WheelAt ((w2.alloc (.cells #[.int .i64 0, .int .i64 1, .int .i64 2, .int .i64 0] 3)).drewN k) w.heap.size 3 1 := Blk.alloc h2.out.2.1 _
  generalize hw4 : (w2.alloc (.cells #[.int .i64 0, .int .i64 1, .int .i64 2, .int .i64 0] 3)).drewN k = w4 at *
  have hb4 : Below w.heap.size w w4 := by rw [← hw4]; exact below_drewN hb3 k
  clear hw4 hb3 hS3 hS4
  have h4 := Lib.hid (And.intro hb4 hW4)
  clear hb4 hW4
  have hd : decide (turnsI 3 0 4 = [0, 1, 2, 0]) = true := by decide
  rw [hd]
  clear hd
  go_wp2_with fail
  refine (next_ok _ _ _ _ h4.out.2 (by omega)).mono ?_
  rintro e w' ⟨rfl, rfl⟩
  go_wp2_with fail
  go_ret
  exact ⟨rfl, h4.out.1⟩

theorem slots_bad (work slice : Int) (w : World) (h : work < 0 ∨ slice < 1) :
    Calls Try.prog 25 #[.int .i64 work, .int .i64 slice] w fun e w' => e = .returned (.tuple #[.int .i64 0, .int .i64 2]) ∧ w = w' := by
  rcases h with h | h
  · go_enter Try.func25, Try.ntmps25
    go_wp2
    go_ret2
    exact ⟨rfl, rfl⟩
  · by_cases h0 : work < 0
    all_goals
      go_enter Try.func25, Try.ntmps25
      go_wp2
      go_ret2
      exact ⟨rfl, rfl⟩

def slotsI (work slice : Int) : Int := if 0 < work % slice then work / slice + 1 else work / slice
theorem slots_ok (work slice : Int) (w : World) (h : 0 ≤ work) (h1 : 1 ≤ slice) (hw : work ≤ 9223372036854775807) :
    Calls Try.prog 25 #[.int .i64 work, .int .i64 slice] w fun e w' => e = .returned (.tuple #[.int .i64 (slotsI work slice), .int .i64 0]) ∧ w = w' := by
  have hd0 : 0 ≤ work / slice := Int.ediv_nonneg h (by omega)
  have hd1 : work / slice ≤ work := Int.ediv_le_self _ h
  have hm0 : 0 ≤ work % slice := Int.emod_nonneg _ (by omega)
  have hm1 : work % slice < slice := Int.emod_lt_of_pos _ (by omega)
  by_cases hr : 0 < work % slice
  · have hlt : work / slice < 9223372036854775807 := by
      by_cases h2 : slice = 1
      · subst h2; simp at hr
      · have : work / slice * slice ≤ work := Int.ediv_mul_le _ (by omega)
        have h2' : work / slice * 2 ≤ work / slice * slice := Int.mul_le_mul_of_nonneg_left (by omega) hd0
        omega
    have HS := Lib.hid (show slotsI work slice = work / slice + 1 by simp [slotsI, hr])
    go_enter Try.func25, Try.ntmps25
    go_wp2
    go_ret2
    exact ⟨by rw [HS.out]; rfl, rfl⟩
  · have HS := Lib.hid (show slotsI work slice = work / slice by simp [slotsI, hr])
    go_enter Try.func25, Try.ntmps25
    go_wp2
    go_ret2
    exact ⟨by rw [HS.out]; rfl, rfl⟩
end Go.Proofs.Ytlfpkepgamnidaa
