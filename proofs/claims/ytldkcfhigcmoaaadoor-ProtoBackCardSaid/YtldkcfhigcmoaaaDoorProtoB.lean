/- What State and How answer, the program's and the document's. No conditions. -/
import Derived.Test.YtldkcfhigcmoaaaDoorOctA
import Derived.Test.YtldkcfhigcmoaaaDoorOAwake
namespace Go.Proofs.YtldkcfhigcmoaaaDoor
open Go.RowKit Go.As
set_option linter.unusedVariables false

def stateL (n : Int) : List UInt8 := if n = 0 then [119, 97, 105, 116, 105, 110, 103] else if n = 1 then [112, 114, 111, 118, 101, 100] else if n = 2 then [114, 101, 102, 117, 116, 101, 100] else if n = 3 then [101, 120, 104, 97, 117, 115, 116, 101, 100] else if n = 4 then [99, 97, 110, 99, 101, 108, 108, 101, 100] else [63]
theorem stateL_bad {n : Int} (h : n < 0 ∨ 4 < n) : stateL n = [63] := by
  unfold stateL
  rw [if_neg (by omega), if_neg (by omega), if_neg (by omega), if_neg (by omega), if_neg (by omega)]
set_option maxRecDepth 100000 in
theorem run_buildState (W : World) : (Instr.build 87 #[(0, .string (str [119, 97, 105, 116, 105, 110, 103])), (1, .string (str [112, 114, 111, 118, 101, 100])), (2, .string (str [114, 101, 102, 117, 116, 101, 100])), (3, .string (str [101, 120, 104, 97, 117, 115, 116, 101, 100])), (4, .string (str [99, 97, 110, 99, 101, 108, 108, 101, 100]))]).run Tryd.prog W = .ok (.agg #[.string (str [119, 97, 105, 116, 105, 110, 103]), .string (str [112, 114, 111, 118, 101, 100]), .string (str [114, 101, 102, 117, 116, 101, 100]), .string (str [101, 120, 104, 97, 117, 115, 116, 101, 100]), .string (str [99, 97, 110, 99, 101, 108, 108, 101, 100])]) W := by kernel_rfl
set_option maxRecDepth 100000 in
theorem run_idxState0 (W : World) : (Instr.index 87 (.agg #[.string (str [119, 97, 105, 116, 105, 110, 103]), .string (str [112, 114, 111, 118, 101, 100]), .string (str [114, 101, 102, 117, 116, 101, 100]), .string (str [101, 120, 104, 97, 117, 115, 116, 101, 100]), .string (str [99, 97, 110, 99, 101, 108, 108, 101, 100])]) (.int .i64 0)).run Tryd.prog W = .ok (.string (str [119, 97, 105, 116, 105, 110, 103])) W := by kernel_rfl
set_option maxRecDepth 100000 in
theorem run_idxState1 (W : World) : (Instr.index 87 (.agg #[.string (str [119, 97, 105, 116, 105, 110, 103]), .string (str [112, 114, 111, 118, 101, 100]), .string (str [114, 101, 102, 117, 116, 101, 100]), .string (str [101, 120, 104, 97, 117, 115, 116, 101, 100]), .string (str [99, 97, 110, 99, 101, 108, 108, 101, 100])]) (.int .i64 1)).run Tryd.prog W = .ok (.string (str [112, 114, 111, 118, 101, 100])) W := by kernel_rfl
set_option maxRecDepth 100000 in
theorem run_idxState2 (W : World) : (Instr.index 87 (.agg #[.string (str [119, 97, 105, 116, 105, 110, 103]), .string (str [112, 114, 111, 118, 101, 100]), .string (str [114, 101, 102, 117, 116, 101, 100]), .string (str [101, 120, 104, 97, 117, 115, 116, 101, 100]), .string (str [99, 97, 110, 99, 101, 108, 108, 101, 100])]) (.int .i64 2)).run Tryd.prog W = .ok (.string (str [114, 101, 102, 117, 116, 101, 100])) W := by kernel_rfl
set_option maxRecDepth 100000 in
theorem run_idxState3 (W : World) : (Instr.index 87 (.agg #[.string (str [119, 97, 105, 116, 105, 110, 103]), .string (str [112, 114, 111, 118, 101, 100]), .string (str [114, 101, 102, 117, 116, 101, 100]), .string (str [101, 120, 104, 97, 117, 115, 116, 101, 100]), .string (str [99, 97, 110, 99, 101, 108, 108, 101, 100])]) (.int .i64 3)).run Tryd.prog W = .ok (.string (str [101, 120, 104, 97, 117, 115, 116, 101, 100])) W := by kernel_rfl
set_option maxRecDepth 100000 in
theorem run_idxState4 (W : World) : (Instr.index 87 (.agg #[.string (str [119, 97, 105, 116, 105, 110, 103]), .string (str [112, 114, 111, 118, 101, 100]), .string (str [114, 101, 102, 117, 116, 101, 100]), .string (str [101, 120, 104, 97, 117, 115, 116, 101, 100]), .string (str [99, 97, 110, 99, 101, 108, 108, 101, 100])]) (.int .i64 4)).run Tryd.prog W = .ok (.string (str [99, 97, 110, 99, 101, 108, 108, 101, 100])) W := by kernel_rfl
set_option maxRecDepth 100000 in
set_option maxHeartbeats 1600000 in
theorem ostate_any (n : Int) (w : World) :
    Calls Tryd.prog 43 #[.int .i64 n] w fun e w' => e = .returned (.string (str (stateL n))) ∧ w = w' := by
  by_cases h1 : n < 0
  · have HB := Lib.hid (stateL_bad (.inl h1))
    go_enter Tryd.func43, Tryd.ntmps43
    go_wp2_with fail
    go_ret
    rw [HB.out]
    exact ⟨rfl, rfl⟩
  by_cases h2 : 4 < n
  · have HB := Lib.hid (stateL_bad (.inr h2))
    go_enter Tryd.func43, Tryd.ntmps43
    go_wp2_with fail
    go_ret
    rw [HB.out]
    exact ⟨rfl, rfl⟩
  have hbd := run_buildState
  rcases (show n = 0 ∨ n = 1 ∨ n = 2 ∨ n = 3 ∨ n = 4 by omega) with rfl | rfl | rfl | rfl | rfl
  · clear h1 h2
    have hix := run_idxState0
    go_enter Tryd.func43, Tryd.ntmps43
    go_wp2_with fail
    go_ret
    exact ⟨rfl, rfl⟩
  · clear h1 h2
    have hix := run_idxState1
    go_enter Tryd.func43, Tryd.ntmps43
    go_wp2_with fail
    go_ret
    exact ⟨rfl, rfl⟩
  · clear h1 h2
    have hix := run_idxState2
    go_enter Tryd.func43, Tryd.ntmps43
    go_wp2_with fail
    go_ret
    exact ⟨rfl, rfl⟩
  · clear h1 h2
    have hix := run_idxState3
    go_enter Tryd.func43, Tryd.ntmps43
    go_wp2_with fail
    go_ret
    exact ⟨rfl, rfl⟩
  · clear h1 h2
    have hix := run_idxState4
    go_enter Tryd.func43, Tryd.ntmps43
    go_wp2_with fail
    go_ret
    exact ⟨rfl, rfl⟩
set_option maxRecDepth 100000 in
set_option maxHeartbeats 1600000 in
theorem rstate_any (n : Int) (w : World) :
    Calls Tryd.prog 44 #[.int .i64 n] w fun e w' => e = .returned (.string (str (stateL n))) ∧ Below w.heap.size w w' := by
  by_cases h1 : n < 0
  · have HB := Lib.hid (stateL_bad (.inl h1))
    go_enter Tryd.func44, Tryd.ntmps44
    go_wp2_with fail
    go_ret
    rw [HB.out]
    exact ⟨rfl, (Below.refl _ _).alloc (Nat.le_refl _) _⟩
  by_cases h2 : 4 < n
  · have HB := Lib.hid (stateL_bad (.inr h2))
    go_enter Tryd.func44, Tryd.ntmps44
    go_wp2_with fail
    go_ret
    rw [HB.out]
    exact ⟨rfl, (Below.refl _ _).alloc (Nat.le_refl _) _⟩
  rcases (show n = 0 ∨ n = 1 ∨ n = 2 ∨ n = 3 ∨ n = 4 by omega) with rfl | rfl | rfl | rfl | rfl
  all_goals
    clear h1 h2
    go_enter Tryd.func44, Tryd.ntmps44
    go_wp2_with fail
    go_ret
    exact ⟨rfl, (Below.refl _ _).alloc (Nat.le_refl _) _⟩
def howL (n : Int) : List UInt8 := if n = 0 then [114, 117, 110, 110, 105, 110, 103] else if n = 1 then [100, 111, 110, 101] else if n = 2 then [102, 97, 105, 108, 101, 100] else if n = 3 then [116, 114, 97, 112, 112, 101, 100] else if n = 4 then [100, 101, 97, 100, 108, 111, 99, 107] else if n = 5 then [111, 118, 101, 114, 114, 117, 110] else [63]
theorem howL_bad {n : Int} (h : n < 0 ∨ 5 < n) : howL n = [63] := by
  unfold howL
  rw [if_neg (by omega), if_neg (by omega), if_neg (by omega), if_neg (by omega), if_neg (by omega), if_neg (by omega)]
set_option maxRecDepth 100000 in
theorem run_buildHow (W : World) : (Instr.build 88 #[(0, .string (str [114, 117, 110, 110, 105, 110, 103])), (1, .string (str [100, 111, 110, 101])), (2, .string (str [102, 97, 105, 108, 101, 100])), (3, .string (str [116, 114, 97, 112, 112, 101, 100])), (4, .string (str [100, 101, 97, 100, 108, 111, 99, 107])), (5, .string (str [111, 118, 101, 114, 114, 117, 110]))]).run Tryd.prog W = .ok (.agg #[.string (str [114, 117, 110, 110, 105, 110, 103]), .string (str [100, 111, 110, 101]), .string (str [102, 97, 105, 108, 101, 100]), .string (str [116, 114, 97, 112, 112, 101, 100]), .string (str [100, 101, 97, 100, 108, 111, 99, 107]), .string (str [111, 118, 101, 114, 114, 117, 110])]) W := by kernel_rfl
set_option maxRecDepth 100000 in
theorem run_idxHow0 (W : World) : (Instr.index 88 (.agg #[.string (str [114, 117, 110, 110, 105, 110, 103]), .string (str [100, 111, 110, 101]), .string (str [102, 97, 105, 108, 101, 100]), .string (str [116, 114, 97, 112, 112, 101, 100]), .string (str [100, 101, 97, 100, 108, 111, 99, 107]), .string (str [111, 118, 101, 114, 114, 117, 110])]) (.int .i64 0)).run Tryd.prog W = .ok (.string (str [114, 117, 110, 110, 105, 110, 103])) W := by kernel_rfl
set_option maxRecDepth 100000 in
theorem run_idxHow1 (W : World) : (Instr.index 88 (.agg #[.string (str [114, 117, 110, 110, 105, 110, 103]), .string (str [100, 111, 110, 101]), .string (str [102, 97, 105, 108, 101, 100]), .string (str [116, 114, 97, 112, 112, 101, 100]), .string (str [100, 101, 97, 100, 108, 111, 99, 107]), .string (str [111, 118, 101, 114, 114, 117, 110])]) (.int .i64 1)).run Tryd.prog W = .ok (.string (str [100, 111, 110, 101])) W := by kernel_rfl
set_option maxRecDepth 100000 in
theorem run_idxHow2 (W : World) : (Instr.index 88 (.agg #[.string (str [114, 117, 110, 110, 105, 110, 103]), .string (str [100, 111, 110, 101]), .string (str [102, 97, 105, 108, 101, 100]), .string (str [116, 114, 97, 112, 112, 101, 100]), .string (str [100, 101, 97, 100, 108, 111, 99, 107]), .string (str [111, 118, 101, 114, 114, 117, 110])]) (.int .i64 2)).run Tryd.prog W = .ok (.string (str [102, 97, 105, 108, 101, 100])) W := by kernel_rfl
set_option maxRecDepth 100000 in
theorem run_idxHow3 (W : World) : (Instr.index 88 (.agg #[.string (str [114, 117, 110, 110, 105, 110, 103]), .string (str [100, 111, 110, 101]), .string (str [102, 97, 105, 108, 101, 100]), .string (str [116, 114, 97, 112, 112, 101, 100]), .string (str [100, 101, 97, 100, 108, 111, 99, 107]), .string (str [111, 118, 101, 114, 114, 117, 110])]) (.int .i64 3)).run Tryd.prog W = .ok (.string (str [116, 114, 97, 112, 112, 101, 100])) W := by kernel_rfl
set_option maxRecDepth 100000 in
theorem run_idxHow4 (W : World) : (Instr.index 88 (.agg #[.string (str [114, 117, 110, 110, 105, 110, 103]), .string (str [100, 111, 110, 101]), .string (str [102, 97, 105, 108, 101, 100]), .string (str [116, 114, 97, 112, 112, 101, 100]), .string (str [100, 101, 97, 100, 108, 111, 99, 107]), .string (str [111, 118, 101, 114, 114, 117, 110])]) (.int .i64 4)).run Tryd.prog W = .ok (.string (str [100, 101, 97, 100, 108, 111, 99, 107])) W := by kernel_rfl
set_option maxRecDepth 100000 in
theorem run_idxHow5 (W : World) : (Instr.index 88 (.agg #[.string (str [114, 117, 110, 110, 105, 110, 103]), .string (str [100, 111, 110, 101]), .string (str [102, 97, 105, 108, 101, 100]), .string (str [116, 114, 97, 112, 112, 101, 100]), .string (str [100, 101, 97, 100, 108, 111, 99, 107]), .string (str [111, 118, 101, 114, 114, 117, 110])]) (.int .i64 5)).run Tryd.prog W = .ok (.string (str [111, 118, 101, 114, 114, 117, 110])) W := by kernel_rfl
set_option maxRecDepth 100000 in
set_option maxHeartbeats 1600000 in
theorem ohow_any (n : Int) (w : World) :
    Calls Tryd.prog 45 #[.int .i64 n] w fun e w' => e = .returned (.string (str (howL n))) ∧ w = w' := by
  by_cases h1 : n < 0
  · have HB := Lib.hid (howL_bad (.inl h1))
    go_enter Tryd.func45, Tryd.ntmps45
    go_wp2_with fail
    go_ret
    rw [HB.out]
    exact ⟨rfl, rfl⟩
  by_cases h2 : 5 < n
  · have HB := Lib.hid (howL_bad (.inr h2))
    go_enter Tryd.func45, Tryd.ntmps45
    go_wp2_with fail
    go_ret
    rw [HB.out]
    exact ⟨rfl, rfl⟩
  have hbd := run_buildHow
  rcases (show n = 0 ∨ n = 1 ∨ n = 2 ∨ n = 3 ∨ n = 4 ∨ n = 5 by omega) with rfl | rfl | rfl | rfl | rfl | rfl
  · clear h1 h2
    have hix := run_idxHow0
    go_enter Tryd.func45, Tryd.ntmps45
    go_wp2_with fail
    go_ret
    exact ⟨rfl, rfl⟩
  · clear h1 h2
    have hix := run_idxHow1
    go_enter Tryd.func45, Tryd.ntmps45
    go_wp2_with fail
    go_ret
    exact ⟨rfl, rfl⟩
  · clear h1 h2
    have hix := run_idxHow2
    go_enter Tryd.func45, Tryd.ntmps45
    go_wp2_with fail
    go_ret
    exact ⟨rfl, rfl⟩
  · clear h1 h2
    have hix := run_idxHow3
    go_enter Tryd.func45, Tryd.ntmps45
    go_wp2_with fail
    go_ret
    exact ⟨rfl, rfl⟩
  · clear h1 h2
    have hix := run_idxHow4
    go_enter Tryd.func45, Tryd.ntmps45
    go_wp2_with fail
    go_ret
    exact ⟨rfl, rfl⟩
  · clear h1 h2
    have hix := run_idxHow5
    go_enter Tryd.func45, Tryd.ntmps45
    go_wp2_with fail
    go_ret
    exact ⟨rfl, rfl⟩
set_option maxRecDepth 100000 in
set_option maxHeartbeats 1600000 in
theorem rhow_any (n : Int) (w : World) :
    Calls Tryd.prog 46 #[.int .i64 n] w fun e w' => e = .returned (.string (str (howL n))) ∧ Below w.heap.size w w' := by
  by_cases h1 : n < 0
  · have HB := Lib.hid (howL_bad (.inl h1))
    go_enter Tryd.func46, Tryd.ntmps46
    go_wp2_with fail
    go_ret
    rw [HB.out]
    exact ⟨rfl, (Below.refl _ _).alloc (Nat.le_refl _) _⟩
  by_cases h2 : 5 < n
  · have HB := Lib.hid (howL_bad (.inr h2))
    go_enter Tryd.func46, Tryd.ntmps46
    go_wp2_with fail
    go_ret
    rw [HB.out]
    exact ⟨rfl, (Below.refl _ _).alloc (Nat.le_refl _) _⟩
  rcases (show n = 0 ∨ n = 1 ∨ n = 2 ∨ n = 3 ∨ n = 4 ∨ n = 5 by omega) with rfl | rfl | rfl | rfl | rfl | rfl
  all_goals
    clear h1 h2
    go_enter Tryd.func46, Tryd.ntmps46
    go_wp2_with fail
    go_ret
    exact ⟨rfl, (Below.refl _ _).alloc (Nat.le_refl _) _⟩
end Go.Proofs.YtldkcfhigcmoaaaDoor
