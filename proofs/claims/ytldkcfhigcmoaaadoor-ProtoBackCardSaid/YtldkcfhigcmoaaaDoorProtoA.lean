/- What Done, Fail, Trace, End, State and How answer, the program's and the document's. Conditions: strconv's table lies as it was laid. -/
import Derived.Test.YtldkcfhigcmoaaaDoorDecB
import Derived.Test.YtldkcfhigcmoaaaDoorBnd
namespace Go.Proofs.YtldkcfhigcmoaaaDoor
open Go.RowKit Go.As
set_option linter.unusedVariables false

def doneL (id : Int) : List UInt8 := if id < 1 then [79, 75] else [79, 75, 32] ++ Lib.itoa id
theorem doneL_small {id : Int} (h : id < 1) : doneL id = [79, 75] := by simp [doneL, h]
theorem doneL_big {id : Int} (h : ¬ id < 1) : doneL id = [79, 75, 32] ++ Lib.itoa id := by simp [doneL, h]

set_option maxRecDepth 100000 in
theorem odone_any (id : Int) (h0 : -9223372036854775808 ≤ id) (h1 : id ≤ 9223372036854775807) (w : World) (ht : Tab w) :
    Calls Tryd.prog 36 #[.int .i64 id] w fun e w' => e = .returned (.string (str (doneL id))) ∧ Below w.heap.size w w' := by
  have HT := Lib.hid ht
  clear ht
  have hl := itoa_len h0 h1
  by_cases h : id < 1
  · have HD := Lib.hid (doneL_small h)
    go_enter Tryd.func36, Tryd.ntmps36
    go_wp2_with fail
    go_ret
    rw [HD.out]
    exact ⟨rfl, Below.refl _ _⟩
  · have HD := Lib.hid (doneL_big h)
    go_enter Tryd.func36, Tryd.ntmps36
    go_wp2_with (first
      | (go_at_call 22
         refine (odec_any _ h0 h1 _ HT.out).mono ?_
         rintro e w1 ⟨rfl, hb1⟩
         have H1 := Lib.hid hb1
         clear hb1))
    go_ret
    rw [HD.out]
    exact ⟨rfl, H1.out⟩
set_option maxRecDepth 100000 in
theorem ofail_any (id : Int) (h0 : -9223372036854775808 ≤ id) (h1 : id ≤ 9223372036854775807) (w : World) (ht : Tab w) :
    Calls Tryd.prog 38 #[.int .i64 id] w fun e w' => e = .returned (.string (str ([69, 82, 82, 32] ++ Lib.itoa id))) ∧ Below w.heap.size w w' := by
  have HT := Lib.hid ht
  clear ht
  have hl := itoa_len h0 h1
  go_enter Tryd.func38, Tryd.ntmps38
  go_wp2_with (first
    | (go_at_call 22
       refine (odec_any _ h0 h1 _ HT.out).mono ?_
       rintro e w1 ⟨rfl, hb1⟩
       have H1 := Lib.hid hb1
       clear hb1))
  go_ret
  exact ⟨by simp, H1.out⟩
set_option maxRecDepth 100000 in
theorem oend_any (id : Int) (h0 : -9223372036854775808 ≤ id) (h1 : id ≤ 9223372036854775807) (w : World) (ht : Tab w) :
    Calls Tryd.prog 40 #[.int .i64 id] w fun e w' => e = .returned (.string (str ([69, 78, 68, 32] ++ Lib.itoa id))) ∧ Below w.heap.size w w' := by
  have HT := Lib.hid ht
  clear ht
  have hl := itoa_len h0 h1
  go_enter Tryd.func40, Tryd.ntmps40
  go_wp2_with (first
    | (go_at_call 22
       refine (odec_any _ h0 h1 _ HT.out).mono ?_
       rintro e w1 ⟨rfl, hb1⟩
       have H1 := Lib.hid hb1
       clear hb1))
  go_ret
  exact ⟨by simp, H1.out⟩
set_option maxRecDepth 100000 in
theorem otrace_any (id : Int) (h0 : -9223372036854775808 ≤ id) (h1 : id ≤ 9223372036854775807) (t : List UInt8) (htl : t.length ≤ 1048576) (w : World) (ht : Tab w) :
    Calls Tryd.prog 39 #[.int .i64 id, .string (str t)] w fun e w' => e = .returned (.string (str ([84, 82, 65, 67, 69, 32] ++ Lib.itoa id ++ [32] ++ t))) ∧ Below w.heap.size w w' := by
  have HT := Lib.hid ht
  clear ht
  have hl := itoa_len h0 h1
  go_enter Tryd.func39, Tryd.ntmps39
  go_wp2_with (first
    | (go_at_call 22
       refine (odec_any _ h0 h1 _ HT.out).mono ?_
       rintro e w1 ⟨rfl, hb1⟩
       have H1 := Lib.hid hb1
       clear hb1))
  go_ret
  exact ⟨by simp, H1.out⟩
set_option maxRecDepth 100000 in
theorem rdone_any (id : Int) (h0 : -9223372036854775808 ≤ id) (h1 : id ≤ 9223372036854775807) (w : World) :
    Calls Tryd.prog 37 #[.int .i64 id] w fun e w' => e = .returned (.string (str (doneL id))) ∧ w = w' := by
  have hl := itoa_len h0 h1
  by_cases h : id < 1
  · have HD := Lib.hid (doneL_small h)
    go_enter Tryd.func37, Tryd.ntmps37
    go_wp2_with fail
    go_ret
    rw [HD.out]
    exact ⟨rfl, rfl⟩
  · have HD := Lib.hid (doneL_big h)
    go_enter Tryd.func37, Tryd.ntmps37
    go_wp2_with (first
      | (go_at_call 23
         refine (rdec_any _ h0 h1 _).mono ?_
         rintro e w' ⟨rfl, rfl⟩))
    go_ret
    rw [HD.out]
    exact ⟨rfl, rfl⟩

end Go.Proofs.YtldkcfhigcmoaaaDoor
