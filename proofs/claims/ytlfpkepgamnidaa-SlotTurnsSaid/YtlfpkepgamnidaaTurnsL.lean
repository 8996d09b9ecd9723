/- Plain facts on numbers that go round: which of a ring's numbers stay, in which order, and how often each has come. -/
import Derived.Test.YtlfpkepgamnidaaSlices
namespace Go.Proofs.Ytlfpkepgamnidaa
open Go.RowKit Go.As
set_option linter.unusedVariables false

/-- those of a list that are below s -/
def staysOf (s : Nat) (L : List Int) : List Int := L.filter fun x => decide (x < (s : Int))
/-- the numbers from 0 to s - 1, from r on, round and round -/
def rot (s r : Nat) : List Int := (List.range' r (s - r) ++ List.range r).map fun i : Nat => (i : Int)
def nextR (s r : Nat) : Nat := if r + 1 < s then r + 1 else 0
def nextQ (s r q : Nat) : Nat := if r + 1 < s then q else q + 1
theorem nextR_lt {s r : Nat} (h : r < s) : nextR s r < s := by unfold nextR; split <;> omega
theorem nextQ_le {s r q : Nat} : nextQ s r q ≤ q + 1 := by unfold nextQ; split <;> omega

theorem rot_cons {s r : Nat} (h : r < s) : rot s r = (r : Int) :: (List.range' (r + 1) (s - (r + 1)) ++ List.range r).map fun i : Nat => (i : Int) := by
  unfold rot
  rw [show s - r = (s - (r + 1)) + 1 by omega, List.range'_succ]
  rfl
theorem rot_next {s r : Nat} (h : r < s) : ((List.range' (r + 1) (s - (r + 1)) ++ List.range r).map fun i : Nat => (i : Int)) ++ [(r : Int)] = rot s (nextR s r) := by
  have e : ((List.range' (r + 1) (s - (r + 1)) ++ List.range r).map fun i : Nat => (i : Int)) ++ [(r : Int)] = (List.range' (r + 1) (s - (r + 1)) ++ List.range (r + 1)).map fun i : Nat => (i : Int) := by
    rw [List.range_succ]; simp
  rw [e]
  unfold nextR rot
  split
  · rfl
  · have hs : s = r + 1 := by omega
    subst hs
    simp [List.range_eq_range']
theorem rot_zero (s : Nat) : rot s 0 = (List.range s).map fun i : Nat => (i : Int) := by
  simp [rot, List.range_eq_range']

theorem staysOf_snoc {s : Nat} {L : List Int} {id : Int} (h : (s : Int) ≤ id) : staysOf s (L ++ [id]) = staysOf s L := by
  simp only [staysOf, List.filter_append]
  have : decide (id < (s : Int)) = false := by simp; omega
  simp [this]
theorem staysOf_erase {s : Nat} {L : List Int} {id : Int} (h : (s : Int) ≤ id) : staysOf s (L.erase id) = staysOf s L := by
  induction L with
  | nil => rfl
  | cons x r ih =>
    rw [List.erase_cons]
    by_cases e : x = id
    · subst e
      have : decide (x < (s : Int)) = false := by simp; omega
      simp [staysOf, this]
    · have : (x == id) = false := by simpa using e
      rw [this]
      simp only [staysOf, List.filter_cons] at ih ⊢
      simp only [Bool.false_eq_true, if_false, List.filter_cons]
      split <;> simp_all
theorem staysOf_all (s k : Nat) (h : k ≤ s) : staysOf s ((List.range k).map fun i : Nat => (i : Int)) = (List.range k).map fun i : Nat => (i : Int) := by
  unfold staysOf
  rw [List.filter_eq_self]
  intro x hx
  simp only [List.mem_map, List.mem_range] at hx
  obtain ⟨i, hi, rfl⟩ := hx
  simp; omega
theorem stays_turn {s r : Nat} {L : List Int} (hr : r < s) (h : staysOf s L = rot s r) :
    ∃ x t, L = x :: t ∧ (x < (s : Int) → x = r ∧ staysOf s (t ++ [x]) = rot s (nextR s r)) ∧ ((s : Int) ≤ x → staysOf s (t ++ [x]) = rot s r) := by
  cases L with
  | nil => rw [rot_cons hr] at h; simp [staysOf] at h
  | cons x t =>
    refine ⟨x, t, rfl, fun hx => ?_, fun hx => ?_⟩
    · have hd : decide (x < (s : Int)) = true := by simpa using hx
      rw [rot_cons hr, staysOf, List.filter_cons, hd] at h
      simp only [if_true] at h
      injection h with h1 h2
      refine ⟨h1, ?_⟩
      rw [staysOf, List.filter_append, h2, ← rot_next hr, h1]
      simp
      omega
    · rw [staysOf_snoc hx]
      have hd : decide (x < (s : Int)) = false := by simp; omega
      rw [staysOf, List.filter_cons, hd] at h
      simpa [staysOf] using h

/-- how often each has come -/
def cnt (r q k : Nat) : Int := (q : Int) + if k < r then 1 else 0
def cntA (s r q : Nat) : Array Value := ((List.range s).map fun k => Value.int .i64 (cnt r q k)).toArray
theorem cntA_get {s r q k : Nat} (h : k < s) : (cntA s r q)[k]? = some (.int .i64 (cnt r q k)) := by simp [cntA, h]
theorem cntA_zero (s : Nat) : madeCells (Value.int .i64 0).cells (s * 1) = cntA s 0 0 := by
  apply Array.ext
  · simp [cntA, madeCells]
  · intro i h1 h2
    simp [cntA, madeCells, Value.cells, Nat.mod_one, cnt]
theorem cntA_set {s r q : Nat} (h : r < s) : (cntA s r q).setIfInBounds r (.int .i64 (cnt r q r + 1)) = cntA s (nextR s r) (nextQ s r q) := by
  apply Array.ext
  · simp [cntA]
  · intro i h1 h2
    have hi : i < s := by simpa [cntA] using h2
    rw [Array.getElem_setIfInBounds (by simpa [cntA] using hi)]
    simp only [cntA, List.getElem_toArray, List.getElem_map, List.getElem_range, cnt, nextR, nextQ]
    by_cases e : r = i
    · subst e
      rw [if_pos rfl]
      congr 1
      by_cases hh : r + 1 < s <;> simp [hh] <;> omega
    · rw [if_neg e]
      congr 1
      by_cases hh : r + 1 < s
      · simp only [hh, if_true]
        by_cases h3 : i < r
        · rw [if_pos h3, if_pos (by omega)]
        · rw [if_neg h3, if_neg (by omega)]
      · simp only [hh, if_false]
        have h3 : i < r := by omega
        rw [if_pos h3]
        simp
theorem cnt_le {r q k : Nat} (h : 1 ≤ k) : cnt r q k ≤ cnt r q (k - 1) := by unfold cnt; split <;> split <;> omega
theorem cnt_round {r q s : Nat} : cnt r q 0 ≤ cnt r q (s - 1) + 1 := by unfold cnt; split <;> split <;> omega
theorem cnt_bd (r q k : Nat) : 0 ≤ cnt r q k ∧ cnt r q k ≤ q + 1 := by unfold cnt; split <;> omega
end Go.Proofs.Ytlfpkepgamnidaa
