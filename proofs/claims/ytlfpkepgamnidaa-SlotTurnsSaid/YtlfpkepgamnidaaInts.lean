/- assizekit.SameInts tells whether two lists of numbers are the same. Lists that fit in memory. -/
import Derived.Test.YtlfpkepgamnidaaRows
import Derived.Test.YtlfpkepgamnidaaOps
import Derived.Deep.QuietTactic
import Derived.BigQuiet
namespace Go.Proofs.Ytlfpkepgamnidaa
open Go.RowKit Go.As

def ints (l : List Int) : List Value := l.map (Value.int .i64)
theorem ints_one (l : List Int) : ∀ u ∈ ints l, u.oneCell' = true := by
  intro u hu
  simp only [ints, List.mem_map] at hu
  obtain ⟨x, _, rfl⟩ := hu
  rfl
theorem ints_get {l : List Int} {k : Nat} {u : Value} (h : (ints l)[k]? = some u) : ∃ x, l[k]? = some x ∧ u = .int .i64 x := by
  simp only [ints, List.getElem?_map, Option.map_eq_some_iff] at h
  obtain ⟨x, hx, rfl⟩ := h
  exact ⟨x, hx, rfl⟩
theorem take_same {α : Type} {xs ys : List α} {k : Nat} {x : α} (h : xs.take k = ys.take k) (hx : xs[k]? = some x) (hy : ys[k]? = some x) : xs.take (k + 1) = ys.take (k + 1) := by
  rw [List.take_add_one, List.take_add_one, h, hx, hy]

set_option maxHeartbeats 400000 in
theorem sameInts_any (A B : Option Addr) (n m c d : Nat) (xs ys : List Int) (w : World) (ha : Sl w 1 A n (ints xs)) (hb : Sl w 1 B m (ints ys)) (hn : n ≤ maxLen) (hm : m ≤ maxLen) :
    Calls Try.prog 36 #[.slice A n c, .slice B m d] w fun e w' => e = .returned (.bool (decide (xs = ys))) ∧ ∃ k, w' = w.drewN k := by
  have hl1 : xs.length = n := by have := ha.len1; simpa [ints] using this
  have hl2 : ys.length = m := by have := hb.len1; simpa [ints] using this
  have HA := Lib.hid ha
  have HB := Lib.hid hb
  have HL1 := Lib.hid hl1
  have HL2 := Lib.hid hl2
  clear ha hb hl1 hl2
  unfold maxLen at hn hm
  by_cases hnm : n = m
  · subst hnm
    go_enter Try.func36, Try.ntmps36
    go_wp2_with fail
    go_loopw [5] (fun i wr => ∃ k : Nat, k ≤ n ∧ i = .int .i64 k ∧ xs.take k = ys.take k ∧ ∃ q, wr = w.drewN q) (fun i _ => n - (intOf i).toNat)
    case atStart => exact ⟨0, by omega, rfl, rfl, 0, rfl⟩
    case round =>
      obtain ⟨k, hk, rfl, he, q, rfl⟩ := hrel
      have HE := Lib.hid he
      clear he
      by_cases hlt : k < n
      · obtain ⟨ad, u, hA, -, hu, hc⟩ := HA.out.at1 hlt
        obtain ⟨bd, u2, hB, -, hu2, hc2⟩ := HB.out.at1 hlt
        subst hA hB
        obtain ⟨x, hx, rfl⟩ := ints_get hu
        obtain ⟨y, hy, rfl⟩ := ints_get hu2
        have HX := Lib.hid (And.intro hx hy)
        clear hu hu2 hx hy
        by_cases hxy : x = y
        · subst hxy
          go_wp2_with fail
          go_quiet (fail)
          go_wp2_with fail
          go_roundw
          case rel => exact ⟨k + 1, by omega, by go_num, take_same HE.out HX.out.1 HX.out.2, _, rfl⟩
          case measure => simp [intOf]; omega
        · have hxy' : (x == y) = false := by simpa using hxy
          have HN := Lib.hid hxy
          clear hxy
          go_wp2_with fail
          go_quiet (fail)
          go_wp2_with fail
          go_ret
          refine ⟨ret_bool ?_, _, World.drewN_drewN ..⟩
          symm
          rw [decide_eq_false_iff_not]
          intro e
          have := HX.out
          rw [e, this.2] at this
          exact HN.out (by simpa using this.1.symm)
      · have : k = n := by omega
        subst this
        go_wp2_with fail
        go_ret
        refine ⟨ret_bool ?_, _, rfl⟩
        have := HE.out
        rw [List.take_of_length_le (by rw [HL1.out]; omega), List.take_of_length_le (by rw [HL2.out]; omega)] at this
        simp [this]
  · have hne : (n == m) = false := by simpa using hnm
    go_enter Try.func36, Try.ntmps36
    go_wp2_with fail
    go_ret
    refine ⟨ret_bool ?_, 0, rfl⟩
    symm
    rw [decide_eq_false_iff_not]
    intro e
    exact hnm (by rw [← HL1.out, ← HL2.out, e])
end Go.Proofs.Ytlfpkepgamnidaa
