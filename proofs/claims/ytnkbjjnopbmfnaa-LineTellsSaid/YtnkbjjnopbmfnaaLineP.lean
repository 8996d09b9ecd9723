/- Lines of bytes, byte by byte: plain laws. No program is named; the conditions are in each theorem. -/
import Derived.Test.YtnkbjjnopbmfnaaLineA
namespace Go.Proofs.Ytnkbjjnopbmfnaa
open Go.RowKit Go.As
set_option linter.unusedVariables false

abbrev Ln := Int × List UInt8
abbrev LSt := List UInt8 × Bool
/-- one byte more -/
def stepB (lim : Nat) (s : LSt) (c : UInt8) : List Ln × LSt :=
  if c = 10 then (if s.2 = true then [] else [toldL s.1], ([], false))
  else if s.2 = true then ([], s)
  else if s.1.length = lim then ([(1, [])], ([], true))
  else ([], (s.1 ++ [c], false))
/-- all bytes -/
def feedB (lim : Nat) : LSt → List UInt8 → List Ln × LSt
  | s, [] => ([], s)
  | s, c :: r => ((stepB lim s c).1 ++ (feedB lim (stepB lim s c).2 r).1, (feedB lim (stepB lim s c).2 r).2)
def okS (lim : Nat) (s : LSt) : Prop := s.1.length ≤ lim ∧ (s.2 = true → s.1 = [])

theorem feedB_append (lim : Nat) (a b : List UInt8) : ∀ s : LSt, feedB lim s (a ++ b) = ((feedB lim s a).1 ++ (feedB lim (feedB lim s a).2 b).1, (feedB lim (feedB lim s a).2 b).2) := by
  induction a with
  | nil => intro s; simp [feedB]
  | cons c r ih => intro s; simp only [List.cons_append, feedB, ih, List.append_assoc]
theorem stepB_ok {lim : Nat} {s : LSt} (c : UInt8) (h : okS lim s) : okS lim (stepB lim s c).2 := by
  unfold stepB
  split
  · exact ⟨Nat.zero_le _, fun _ => rfl⟩
  · split
    · exact h
    · split
      · exact ⟨Nat.zero_le _, fun _ => rfl⟩
      · rename_i h1 h2 h3
        refine ⟨?_, by simp⟩
        have := h.1
        simp only [List.length_append, List.length_singleton]
        omega
theorem feedB_ok {lim : Nat} : ∀ (l : List UInt8) {s : LSt}, okS lim s → okS lim (feedB lim s l).2 := by
  intro l
  induction l with
  | nil => intro s h; exact h
  | cons c r ih => intro s h; exact ih (stepB_ok c h)
theorem feedB_skip (lim : Nat) (cur : List UInt8) : ∀ (p : List UInt8), (10 : UInt8) ∉ p → feedB lim (cur, true) p = ([], (cur, true)) := by
  intro p
  induction p with
  | nil => intro _; rfl
  | cons c r ih =>
    intro h
    simp only [List.mem_cons, not_or] at h
    have hs : stepB lim (cur, true) c = ([], (cur, true)) := by simp [stepB, Ne.symm h.1]
    simp [feedB, hs, ih h.2]
theorem feedB_plain (lim : Nat) : ∀ (p cur : List UInt8), (10 : UInt8) ∉ p → cur.length ≤ lim →
    feedB lim (cur, false) p = if lim < cur.length + p.length then ([(1, [])], ([], true)) else ([], (cur ++ p, false)) := by
  intro p
  induction p with
  | nil => intro cur _ h; rw [if_neg (by simp; omega)]; simp [feedB]
  | cons c r ih =>
    intro cur h hl
    simp only [List.mem_cons, not_or] at h
    by_cases he : cur.length = lim
    · have hs : stepB lim (cur, false) c = ([(1, [])], ([], true)) := by simp [stepB, Ne.symm h.1, he]
      rw [if_pos (by simp; omega)]
      simp [feedB, hs, feedB_skip lim [] r h.2]
    · have hs : stepB lim (cur, false) c = ([], (cur ++ [c], false)) := by simp [stepB, Ne.symm h.1, he]
      have := ih (cur ++ [c]) h.2 (by simp; omega)
      simp only [feedB, hs, this, List.nil_append]
      by_cases hf : lim < cur.length + (r.length + 1)
      · rw [if_pos (by simp; omega), if_pos (by simpa using hf)]
      · rw [if_neg (by simp; omega), if_neg (by simpa using hf)]
        simp
theorem stepB_ten (lim : Nat) (s : LSt) : stepB lim s 10 = (if s.2 = true then [] else [toldL s.1], ([], false)) := by simp [stepB]
/-- one byte more, behind others -/
theorem feedB_snoc (lim : Nat) (s : LSt) (l : List UInt8) (c : UInt8) : feedB lim s (l ++ [c]) = ((feedB lim s l).1 ++ (stepB lim (feedB lim s l).2 c).1, (stepB lim (feedB lim s l).2 c).2) := by
  rw [feedB_append]; simp [feedB]
theorem feedB_line (lim : Nat) (s : LSt) (p r : List UInt8) : feedB lim s (p ++ 10 :: r) =
    (((feedB lim s p).1 ++ (if (feedB lim s p).2.2 = true then [] else [toldL (feedB lim s p).2.1])) ++ (feedB lim ([], false) r).1, (feedB lim ([], false) r).2) := by
  rw [feedB_append]
  simp only [feedB, stepB_ten, List.append_assoc]
/-- a list without a newline, or the first newline -/
theorem split_ten (l : List UInt8) : (10 : UInt8) ∉ l ∨ ∃ p r, l = p ++ 10 :: r ∧ (10 : UInt8) ∉ p := by
  induction l with
  | nil => exact .inl (by simp)
  | cons c l ih =>
    by_cases hc : c = 10
    · subst hc; exact .inr ⟨[], l, rfl, by simp⟩
    · rcases ih with h | ⟨p, r, rfl, h⟩
      · left
        intro hm
        rcases List.mem_cons.1 hm with e | e
        · exact hc e.symm
        · exact h e
      · refine .inr ⟨c :: p, r, rfl, ?_⟩
        intro hm
        rcases List.mem_cons.1 hm with e | e
        · exact hc e.symm
        · exact h e
/-- how many lines at most -/
theorem stepB_len (lim : Nat) (s : LSt) (c : UInt8) : (stepB lim s c).1.length ≤ 1 := by
  unfold stepB
  split
  · split <;> simp
  · split
    · simp
    · split <;> simp
theorem feedB_len (lim : Nat) : ∀ (l : List UInt8) (s : LSt), (feedB lim s l).1.length ≤ l.length := by
  intro l
  induction l with
  | nil => intro s; simp [feedB]
  | cons c r ih =>
    intro s
    have h1 := stepB_len lim s c
    have h2 := ih (stepB lim s c).2
    simp only [feedB, List.length_append, List.length_cons]
    omega

/-- the cells of a line -/
def lnC (p : Ln) : List Value := [.int .i64 p.1, .string (str p.2)]
theorem lnC_len (p : Ln) : (lnC p).length = 2 := rfl
theorem lns_len (l : List Ln) : (l.flatMap lnC).length = l.length * 2 := by
  induction l with
  | nil => rfl
  | cons p r ih => rw [List.flatMap_cons, List.length_append, ih, lnC_len, List.length_cons]; omega
theorem lns_app (a b : List Ln) : (a ++ b).flatMap lnC = a.flatMap lnC ++ b.flatMap lnC := by simp
theorem lnC_one (p : Ln) : ∀ u ∈ lnC p, u.oneCell' = true := by
  intro u hu
  simp only [lnC, List.mem_cons, List.not_mem_nil, or_false] at hu
  rcases hu with rfl | rfl <;> rfl
theorem lns_one (l : List Ln) : ∀ u ∈ l.flatMap lnC, u.oneCell' = true := by
  intro u hu
  obtain ⟨p, _, hp⟩ := List.mem_flatMap.1 hu
  exact lnC_one p u hp
end Go.Proofs.Ytnkbjjnopbmfnaa
