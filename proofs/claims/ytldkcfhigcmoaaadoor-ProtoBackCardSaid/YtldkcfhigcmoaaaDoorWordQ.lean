/- Words of a line put together again: plain laws. No program is named; no conditions but those in each theorem. -/
import Derived.Test.YtldkcfhigcmoaaaDoorOctP
import Derived.Lib.Join
namespace Go.As
open Go
set_option linter.unusedVariables false

theorem splitW_no (s : List UInt8) : ∀ x ∈ splitW s, (32 : UInt8) ∉ x := by
  induction s with
  | nil => intro x hx; simp [splitW] at hx; subst hx; simp
  | cons c r ih =>
    intro x hx
    simp only [splitW] at hx
    split at hx
    · rw [List.mem_cons] at hx
      rcases hx with rfl | hx
      · simp
      · exact ih x hx
    · rename_i hc
      split at hx
      · rw [List.mem_singleton] at hx; subst hx
        rw [List.mem_singleton]; exact fun e => hc e.symm
      · rename_i w ws hs
        rw [List.mem_cons] at hx
        rcases hx with rfl | hx
        · rw [List.mem_cons]
          rintro (e | e)
          · exact hc e.symm
          · exact ih w (by rw [hs]; simp) e
        · exact ih x (by rw [hs]; simp [hx])
theorem join_splitW (s : List UInt8) : Lib.join (splitW s) [32] = s := by
  induction s with
  | nil => rfl
  | cons c r ih =>
    simp only [splitW]
    split
    · rename_i hc
      subst hc
      cases hs : splitW r with
      | nil => exact absurd hs (splitW_ne r)
      | cons w ws =>
        rw [hs] at ih
        rw [Lib.join_cons] at ih ⊢
        simp only [Lib.joinTail, List.map_cons, List.flatten_cons, List.nil_append, List.append_assoc] at ih ⊢
        rw [ih]; rfl
    · split
      · rename_i hs; exact absurd hs (splitW_ne r)
      · rename_i w ws hs
        rw [hs, Lib.join_cons] at ih
        rw [Lib.join_cons, List.cons_append, ih]
theorem splitW_len (l : List UInt8) : (splitW l).length ≤ l.length + 1 := by
  induction l with
  | nil => simp [splitW]
  | cons c r ih =>
    simp only [splitW]
    split
    · simp; omega
    · split
      · simp
      · rename_i h; rw [h] at ih; simp at ih ⊢; omega
/-- what Words tells: an error and nothing, or the pieces, none of them empty -/
theorem wordsE_cases (s : List UInt8) : wordsE s = (4, []) ∨ wordsE s = (3, []) ∨ (wordsE s = (0, splitW s) ∧ (splitW s).length ≤ 64 ∧ (∀ x ∈ splitW s, x ≠ []) ∧ s.all okB = true) := by
  unfold wordsE
  split
  · exact .inl rfl
  · rename_i h1
    split
    · exact .inl rfl
    · rename_i h2
      split
      · exact .inr (.inl rfl)
      · refine .inr (.inr ⟨rfl, by omega, fun x hx e => ?_, by simpa using h1⟩)
        subst e
        exact h2 (List.any_eq_true.2 ⟨[], hx, rfl⟩)
/-- pieces without blanks, put together with blanks, are cut as they were -/
theorem splitW_plain : ∀ {x : List UInt8}, (32 : UInt8) ∉ x → splitW x = [x]
  | [], _ => rfl
  | c :: r, h => by
    rw [List.mem_cons, not_or] at h
    simp only [splitW, if_neg (Ne.symm h.1), splitW_plain h.2]
theorem splitW_piece : ∀ {x : List UInt8} (r : List UInt8), (32 : UInt8) ∉ x → splitW (x ++ 32 :: r) = x :: splitW r
  | [], r, _ => by simp [splitW]
  | c :: x, r, h => by
    rw [List.mem_cons, not_or] at h
    simp only [List.cons_append, splitW, if_neg (Ne.symm h.1), splitW_piece r h.2]
theorem splitW_join (x : List UInt8) (xs : List (List UInt8)) (h : ∀ y ∈ x :: xs, (32 : UInt8) ∉ y) : splitW (Lib.join (x :: xs) [32]) = x :: xs := by
  induction xs generalizing x with
  | nil => rw [Lib.join_one]; exact splitW_plain (h x (by simp))
  | cons y ys ih =>
    have e : Lib.join (x :: y :: ys) [32] = x ++ 32 :: Lib.join (y :: ys) [32] := by
      rw [Lib.join_cons, Lib.join_cons]
      simp [Lib.joinTail]
    rw [e, splitW_piece _ (h x (by simp)), ih y (fun z hz => h z (by simp [hz]))]
end Go.As
