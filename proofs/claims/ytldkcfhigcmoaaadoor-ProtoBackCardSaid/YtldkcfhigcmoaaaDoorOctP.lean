/- Digits of bytes and words of a line: plain laws. No program is named; the conditions are in each theorem. -/
import Derived.Test.YtldkcfhigcmoaaaDoorBytes
namespace Go.As
open Go Go.RowKit
set_option linter.unusedVariables false

/-- the digit of a number below 16 -/
def hexC (n : Nat) : UInt8 := if n < 10 then UInt8.ofNat (48 + n) else UInt8.ofNat (87 + n)
def hex2 (b : UInt8) : List UInt8 := [hexC (b.toNat / 16), hexC (b.toNat % 16)]
def hexL (l : List UInt8) : List UInt8 := l.flatMap hex2
/-- a digit's value, 16 of none -/
def digV (c : UInt8) : Nat := if 48 ≤ c.toNat ∧ c.toNat ≤ 57 then c.toNat - 48 else if 97 ≤ c.toNat ∧ c.toNat ≤ 102 then c.toNat - 87 else 16
def unhexL : List UInt8 → Option (List UInt8)
  | [] => some []
  | [_] => none
  | a :: b :: r => if 15 < digV a ∨ 15 < digV b then none else (unhexL r).map (UInt8.ofNat (16 * digV a + digV b) :: ·)
theorem unhexL_len : ∀ (n : Nat) (l : List UInt8), l.length ≤ n → ∀ out, unhexL l = some out → l.length = 2 * out.length := by
  intro n
  induction n with
  | zero => intro l hl out h; obtain rfl : l = [] := List.eq_nil_of_length_eq_zero (by omega); simp [unhexL] at h; subst h; rfl
  | succ n ih =>
    intro l hl out h
    match l, hl, h with
    | [], _, h => simp [unhexL] at h; subst h; rfl
    | [_], _, h => simp [unhexL] at h
    | a :: b :: r, hl, h =>
      simp only [unhexL] at h
      split at h
      · cases h
      · rw [Option.map_eq_some_iff] at h
        obtain ⟨o, ho, rfl⟩ := h
        have := ih r (by simp at hl; omega) o ho
        simp; omega
/-- two digits more, behind others -/
theorem unhexL_snoc : ∀ (n : Nat) (l : List UInt8), l.length ≤ n → ∀ out a b, unhexL l = some out → unhexL (l ++ [a, b]) = if 15 < digV a ∨ 15 < digV b then none else some (out ++ [UInt8.ofNat (16 * digV a + digV b)]) := by
  intro n
  induction n with
  | zero =>
    intro l hl out a b h
    obtain rfl : l = [] := List.eq_nil_of_length_eq_zero (by omega)
    simp [unhexL] at h; subst h
    simp [unhexL]
  | succ n ih =>
    intro l hl out a b h
    match l, hl, h with
    | [], _, h => simp [unhexL] at h; subst h; simp [unhexL]
    | [_], _, h => simp [unhexL] at h
    | c :: d :: r, hl, h =>
      simp only [unhexL] at h
      split at h
      · cases h
      · rename_i hcd
        rw [Option.map_eq_some_iff] at h
        obtain ⟨o, ho, rfl⟩ := h
        have := ih r (by simp at hl; omega) o a b ho
        simp only [List.cons_append, unhexL, if_neg hcd, this]
        split <;> simp
/-- none stays none -/
theorem unhexL_none : ∀ (n : Nat) (l : List UInt8), l.length ≤ n → l.length % 2 = 0 → ∀ r, unhexL l = none → unhexL (l ++ r) = none := by
  intro n
  induction n with
  | zero => intro l hl _ r h; obtain rfl : l = [] := List.eq_nil_of_length_eq_zero (by omega); simp [unhexL] at h
  | succ n ih =>
    intro l hl hev r h
    match l, hl, hev, h with
    | [], _, _, h => simp [unhexL] at h
    | [_], _, hev, _ => simp at hev
    | c :: d :: t, hl, hev, h =>
      simp only [unhexL] at h
      simp only [List.cons_append, unhexL]
      split
      · rfl
      · rename_i hcd
        rw [if_neg hcd, Option.map_eq_none_iff] at h
        rw [ih t (by simp at hl; omega) (by simp at hev; omega) r h]; rfl
theorem unhexL_odd : ∀ (n : Nat) (l : List UInt8), l.length ≤ n → l.length % 2 = 1 → unhexL l = none := by
  intro n
  induction n with
  | zero => intro l hl h; omega
  | succ n ih =>
    intro l hl h
    match l, hl, h with
    | [], _, h => simp at h
    | [_], _, _ => rfl
    | a :: b :: r, hl, h =>
      simp only [unhexL]
      split
      · rfl
      · rw [ih r (by simp at hl; omega) (by simp at h; omega)]; rfl
theorem take_two {l : List UInt8} {k : Nat} (h : k + 1 < l.length) : l.take (k + 2) = l.take k ++ [l[k], l[k + 1]] := by
  rw [show k + 2 = k + 1 + 1 from rfl, List.take_succ_eq_append_getElem (by omega : k + 1 < l.length), List.take_succ_eq_append_getElem (by omega : k < l.length), List.append_assoc]
  rfl

/-! words -/
/-- the pieces between blanks -/
def splitW : List UInt8 → List (List UInt8)
  | [] => [[]]
  | c :: r => if c = 32 then [] :: splitW r else match splitW r with
    | [] => [[c]]
    | w :: ws => (c :: w) :: ws
theorem splitW_ne (l : List UInt8) : splitW l ≠ [] := by
  cases l with
  | nil => simp [splitW]
  | cons c r =>
    simp only [splitW]
    split
    · simp
    · split <;> simp
/-- a byte more, behind others: into the last piece, or a new one -/
theorem splitW_snoc (l : List UInt8) (c : UInt8) (out : List (List UInt8)) (cur : List UInt8) (h : splitW l = out ++ [cur]) :
    splitW (l ++ [c]) = if c = 32 then out ++ [cur] ++ [[]] else out ++ [cur ++ [c]] := by
  induction l generalizing out cur with
  | nil =>
    have : out = [] ∧ cur = [] := by
      simp only [splitW] at h
      cases out with
      | nil => simpa using h.symm
      | cons a t => have := congrArg List.length h; simp at this
    obtain ⟨rfl, rfl⟩ := this
    by_cases hc : c = 32 <;> simp [splitW, hc]
  | cons d r ih =>
    simp only [List.cons_append, splitW] at h ⊢
    by_cases hd : d = 32
    · simp only [hd, if_true] at h ⊢
      cases out with
      | nil =>
        simp only [List.nil_append, List.cons.injEq] at h
        exact absurd h.2 (splitW_ne r)
      | cons a t =>
        simp only [List.cons_append, List.cons.injEq] at h
        obtain ⟨rfl, h⟩ := h
        rw [ih t cur h]
        split <;> simp
    · simp only [if_neg hd] at h ⊢
      cases hs : splitW r with
      | nil => exact absurd hs (splitW_ne r)
      | cons w ws =>
        rw [hs] at h
        simp only at h
        cases out with
        | nil =>
          simp only [List.nil_append, List.cons.injEq] at h
          obtain ⟨rfl, rfl⟩ := h
          rw [ih [] w (by rw [hs]; rfl)]
          by_cases hc : c = 32 <;> simp [hc]
        | cons a t =>
          simp only [List.cons_append, List.cons.injEq] at h
          obtain ⟨rfl, h⟩ := h
          rw [ih (w :: t) cur (by rw [hs, h]; rfl)]
          by_cases hc : c = 32 <;> simp [hc]
/-- the words that are whole stay, whatever comes behind -/
theorem splitW_mem (l r : List UInt8) (out : List (List UInt8)) (cur : List UInt8) (h : splitW l = out ++ [cur]) : ∃ cur' out', splitW (l ++ r) = out ++ (cur ++ cur') :: out' := by
  induction r generalizing l out cur with
  | nil => exact ⟨[], [], by simpa using h⟩
  | cons c r ih =>
    have h2 := splitW_snoc l c out cur h
    by_cases hc : c = 32
    · rw [if_pos hc] at h2
      obtain ⟨cur', out', h3⟩ := ih (l ++ [c]) (out ++ [cur]) [] h2
      refine ⟨[], ([] ++ cur') :: out', ?_⟩
      rw [List.append_assoc] at h3
      rw [show l ++ c :: r = l ++ ([c] ++ r) by simp, h3]
      simp
    · rw [if_neg hc] at h2
      obtain ⟨cur', out', h3⟩ := ih (l ++ [c]) out (cur ++ [c]) h2
      refine ⟨c :: cur', out', ?_⟩
      rw [List.append_assoc] at h3
      rw [show l ++ c :: r = l ++ ([c] ++ r) by simp, h3]
      simp
def okB (c : UInt8) : Bool := decide (32 ≤ c.toNat ∧ c.toNat ≤ 126)
/-- the words of a line: the error's number, and the words -/
def wordsE (s : List UInt8) : Int × List (List UInt8) :=
  if s.all okB = false then (4, []) else if (splitW s).any (·.isEmpty) then (4, []) else if 64 < (splitW s).length then (3, []) else (0, splitW s)
theorem wordsE_bad {s : List UInt8} {k : Nat} (h : k < s.length) (hx : okB s[k] = false) : wordsE s = (4, []) := by
  have : s.all okB = false := by
    rw [List.all_eq_false]
    exact ⟨s[k], List.getElem_mem _, by simp [hx]⟩
  simp [wordsE, this]
theorem wordsE_empty {s : List UInt8} (h : [] ∈ splitW s) : wordsE s = (4, []) := by
  have : (splitW s).any (·.isEmpty) = true := List.any_eq_true.2 ⟨[], h, rfl⟩
  unfold wordsE
  rw [this]
  split <;> rfl
theorem wordsE_ok {s : List UInt8} (h1 : s.all okB = true) (h2 : ∀ x ∈ splitW s, x ≠ []) : wordsE s = if 64 < (splitW s).length then (3, []) else (0, splitW s) := by
  have : (splitW s).any (·.isEmpty) = false := by
    rw [List.any_eq_false]
    intro x hx
    have := h2 x hx
    cases x with
    | nil => exact absurd rfl this
    | cons a b => simp
  simp [wordsE, h1, this]
end Go.As
