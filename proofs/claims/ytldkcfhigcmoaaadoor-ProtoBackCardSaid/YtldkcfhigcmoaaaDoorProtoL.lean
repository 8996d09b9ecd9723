/- The plain side of reading a job's line: which states and ends a line can have. No program is named but in the imports; conditions: those in each theorem. -/
import Derived.Test.YtldkcfhigcmoaaaDoorProtoE
import Derived.Test.YtldkcfhigcmoaaaDoorWordQ
namespace Go.Proofs.YtldkcfhigcmoaaaDoor
open Go.RowKit Go.As
set_option linter.unusedVariables false

theorem dg_no (u j : Nat) : Lib.dg u j ≠ 32 := by
  unfold Lib.dg
  have h : ∀ k : Fin 10, UInt8.ofNat (48 + k.val) ≠ 32 := by decide
  exact h ⟨u / 10 ^ j % 10, Nat.mod_lt _ (by omega)⟩
theorem dec_no (u : Nat) : (32 : UInt8) ∉ Lib.decDigits u := by
  rw [Lib.decDigits_eq, List.mem_map]
  rintro ⟨t, -, h⟩
  exact dg_no _ _ h
theorem itoa_no (n : Int) : (32 : UInt8) ∉ Lib.itoa n := by
  unfold Lib.itoa
  split
  · rw [List.mem_cons]
    rintro (h | h)
    · exact absurd h (by decide)
    · exact dec_no _ h
  · exact dec_no _
theorem stateL_no (n : Int) : (32 : UInt8) ∉ stateL n := by
  unfold stateL
  repeat' split
  all_goals decide
theorem howT_no (s n : Int) : (32 : UInt8) ∉ howT s n := by
  unfold howT
  split
  · unfold howL
    repeat' split
    all_goals decide
  · decide

def wd (ws : List (List UInt8)) (i : Nat) : List UInt8 := ws.getD i []
/-- the last state below k whose word is x -/
def stUp (x : List UInt8) : Nat → Int
  | 0 => -1
  | k + 1 => if stateL k = x then k else stUp x k
def stIx (x : List UInt8) : Int := stUp x 5
def hoUp (x : List UInt8) : Nat → Int
  | 0 => 0
  | k + 1 => if howL ((k : Int) + 2) = x then (k : Int) + 2 else hoUp x k
def hoIx (x : List UInt8) : Int := hoUp x 4
theorem stUp_yes {x : List UInt8} {k : Nat} (h : stateL k = x) : stUp x (k + 1) = k := by simp only [stUp]; rw [if_pos h]
theorem stUp_no {x : List UInt8} {k : Nat} (h : ¬ stateL k = x) : stUp x (k + 1) = stUp x k := by
  conv => lhs; unfold stUp
  rw [if_neg h]
theorem hoUp_yes {x : List UInt8} {k : Nat} (h : howL ((k : Int) + 2) = x) : hoUp x (k + 1) = (k : Int) + 2 := by simp only [hoUp]; rw [if_pos h]
theorem hoUp_no {x : List UInt8} {k : Nat} (h : ¬ howL ((k : Int) + 2) = x) : hoUp x (k + 1) = hoUp x k := by
  conv => lhs; unfold hoUp
  rw [if_neg h]
/-- a state and an end that go together -/
def okJ (a b : Int) : Prop := (a = 2 ∧ 2 ≤ b ∧ b ≤ 5) ∨ (0 ≤ a ∧ a ≤ 4 ∧ a ≠ 2 ∧ b = 0)
def JWS (s : List UInt8) : List (List UInt8) := (wordsE s).2
def rjX (s : List UInt8) (i : Nat) (most : Int) : Int := (rdE (wd (JWS s) i) most).1
def rjS (s : List UInt8) : Int := stIx (wd (JWS s) 2)
def rjH (s : List UInt8) : Int := hoIx (wd (JWS s) 3)
def rjLine (s : List UInt8) (a b : Int) : List UInt8 := jobL (wd (JWS s) 0) (rjX s 1 1073741824) a b (rjX s 4 1099511627776) (rjX s 5 1024) (rjX s 6 9223372036854775807) (rjX s 7 9223372036854775807) (rjX s 8 9223372036854775807)
def rjHead (s : List UInt8) : Bool := decide ((wordsE s).1 = 0 ∧ (JWS s).length = 9 ∧ (wd (JWS s) 0 = [74, 79, 66] ∨ wd (JWS s) 0 = [80, 82, 79, 71, 82, 69, 83, 83]))
def rjNum (s : List UInt8) (i : Nat) (least most : Int) : Bool := numOk (wd (JWS s) i) least most
def rjNums (s : List UInt8) : Bool := rjNum s 1 1 1073741824 && rjNum s 4 1 1099511627776 && rjNum s 5 1 1024 && rjNum s 6 0 9223372036854775807 && rjNum s 7 0 9223372036854775807 && rjNum s 8 0 9223372036854775807
def rjFit (s : List UInt8) : Bool := decide (0 ≤ rjS s ∧ (rjS s = 2 → rjH s ≠ 0) ∧ (rjS s ≠ 2 → rjH s = 0) ∧ rjLine s (rjS s) (rjH s) = s)
def rjGood (s : List UInt8) : Bool := rjHead s && rjNums s && rjFit s
/-- what is read: the word, the job's cells, the error's number -/
def rjW (s : List UInt8) : List UInt8 := if rjGood s = true then wd (JWS s) 0 else []
def rjJ (s : List UInt8) : Array Value := if rjGood s = true then jobC (rjX s 1 1073741824) (rjS s) (rjH s) (rjX s 4 1099511627776) (rjX s 5 1024) (rjX s 6 9223372036854775807) (rjX s 7 9223372036854775807) (rjX s 8 9223372036854775807) else jobC 0 0 0 0 0 0 0 0
def rjF (s : List UInt8) : Int := if rjGood s = true then 0 else 4

theorem stUp_range (x : List UInt8) (k : Nat) : -1 ≤ stUp x k ∧ stUp x k < k := by
  induction k with
  | zero => simp [stUp]
  | succ k ih =>
    by_cases h : stateL k = x
    · rw [stUp_yes h]; omega
    · rw [stUp_no h]; omega
theorem hoUp_range (x : List UInt8) (k : Nat) : hoUp x k = 0 ∨ (2 ≤ hoUp x k ∧ hoUp x k < (k : Int) + 2) := by
  induction k with
  | zero => simp [hoUp]
  | succ k ih =>
    by_cases h : howL ((k : Int) + 2) = x
    · rw [hoUp_yes h]; omega
    · rw [hoUp_no h]; omega
theorem stIx_range (x : List UInt8) : -1 ≤ stIx x ∧ stIx x ≤ 4 := by have := stUp_range x 5; unfold stIx; omega
theorem hoIx_range (x : List UInt8) : hoIx x = 0 ∨ (2 ≤ hoIx x ∧ hoIx x ≤ 5) := by have := hoUp_range x 4; unfold hoIx; omega
theorem stIx_state {a : Int} (h0 : 0 ≤ a) (h1 : a ≤ 4) : stIx (stateL a) = a := by
  rcases (show a = 0 ∨ a = 1 ∨ a = 2 ∨ a = 3 ∨ a = 4 by omega) with rfl | rfl | rfl | rfl | rfl <;> decide
theorem hoIx_how {a b : Int} (h : okJ a b) : hoIx (howT a b) = b := by
  rcases h with ⟨rfl, h2, h3⟩ | ⟨h0, h1, h2, rfl⟩
  · rcases (show b = 2 ∨ b = 3 ∨ b = 4 ∨ b = 5 by omega) with rfl | rfl | rfl | rfl <;> decide
  · unfold howT
    rw [if_neg h2]
    decide
theorem okJ_range {a b : Int} (h : okJ a b) : 0 ≤ a ∧ a ≤ 4 := by
  unfold okJ at h
  omega
theorem words_pick {word : List UInt8} {a b c d e f g h : Int} {s : List UInt8} (hw : (32 : UInt8) ∉ word) (hj : jobL word a b c d e f g h = s) : splitW s = jobWs word a b c d e f g h := by
  rw [← hj]
  unfold jobL jobWs
  refine splitW_join _ _ fun y hy => ?_
  simp only [List.mem_cons, List.not_mem_nil, or_false] at hy
  rcases hy with rfl | rfl | rfl | rfl | rfl | rfl | rfl | rfl | rfl
  · exact hw
  · exact itoa_no _
  · exact stateL_no _
  · exact howT_no _ _
  all_goals exact itoa_no _
theorem JWS_split {s : List UInt8} (h : (wordsE s).1 = 0) : JWS s = splitW s := by
  unfold JWS
  rcases wordsE_cases s with he | he | ⟨he, -⟩
  · rw [he] at h; exact absurd h (by decide)
  · rw [he] at h; exact absurd h (by decide)
  · rw [he]
/-- which pair's line is the line -/
theorem rj_pick {s : List UInt8} (hh : rjHead s = true) {a b : Int} (hok : okJ a b) (hl : rjLine s a b = s) : rjFit s = true ∧ a = rjS s ∧ b = rjH s := by
  unfold rjHead at hh
  obtain ⟨h0, h9, -⟩ := of_decide_eq_true hh
  have hsp := JWS_split h0
  have hw : (32 : UInt8) ∉ wd (JWS s) 0 := by
    refine splitW_no s _ ?_
    rw [hsp] at h9 ⊢
    unfold wd
    rw [List.getD_eq_getElem?_getD, List.getElem?_eq_getElem (by omega), Option.getD_some]
    exact List.getElem_mem _
  have hp := words_pick hw hl
  rw [← hsp] at hp
  have h2 : wd (JWS s) 2 = stateL a := by rw [hp]; rfl
  have h3 : wd (JWS s) 3 = howT a b := by rw [hp]; rfl
  have ea : rjS s = a := by unfold rjS; rw [h2]; exact stIx_state (okJ_range hok).1 (okJ_range hok).2
  have eb : rjH s = b := by unfold rjH; rw [h3]; exact hoIx_how hok
  refine ⟨?_, ea.symm, eb.symm⟩
  unfold rjFit
  rw [ea, eb]
  refine decide_eq_true ⟨(okJ_range hok).1, fun h => ?_, fun h => ?_, hl⟩ <;> unfold okJ at hok <;> omega
theorem rjFit_ok {s : List UInt8} (h : rjFit s = true) : okJ (rjS s) (rjH s) ∧ rjLine s (rjS s) (rjH s) = s := by
  unfold rjFit at h
  obtain ⟨h0, h2, h3, h4⟩ := of_decide_eq_true h
  refine ⟨?_, h4⟩
  have r1 := stIx_range (wd (JWS s) 2)
  have r2 := hoIx_range (wd (JWS s) 3)
  unfold okJ
  unfold rjS at h0 h2 h3 ⊢
  unfold rjH at h2 h3 ⊢
  by_cases hs : stIx (wd (JWS s) 2) = 2
  · have := h2 hs; omega
  · have := h3 hs; omega
/-- the test of one pair -/
theorem rj_test {s : List UInt8} (hh : rjHead s = true) {a b : Int} (hok : okJ a b) : decide (rjLine s a b = s) = (rjFit s && decide (a = rjS s) && decide (b = rjH s)) := by
  by_cases hl : rjLine s a b = s
  · obtain ⟨h1, h2, h3⟩ := rj_pick hh hok hl
    rw [decide_eq_true hl, h1, decide_eq_true h2, decide_eq_true h3]
    rfl
  · rw [decide_eq_false hl]
    cases hf : rjFit s with
    | false => rfl
    | true =>
      by_cases h2 : a = rjS s
      · by_cases h3 : b = rjH s
        · exact absurd (by rw [h2, h3]; exact (rjFit_ok hf).2) hl
        · rw [decide_eq_false h3]; simp
      · rw [decide_eq_false h2]; simp
end Go.Proofs.YtldkcfhigcmoaaaDoor
