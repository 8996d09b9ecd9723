/- What ReadJob answers, the document's. Conditions: those in the theorem. -/
import Derived.Test.YtldkcfhigcmoaaaDoorProtoM
namespace Go.Proofs.YtldkcfhigcmoaaaDoor
open Go.RowKit Go.As
set_option linter.unusedVariables false

set_option maxRecDepth 100000 in
set_option maxHeartbeats 1600000 in
theorem rnum_any (s : List UInt8) (least most : Int) (w : World) (hs : s.length ≤ 9223372036854775807) (hm1 : -9223372036854775808 ≤ most) (hm2 : most ≤ 9223372036854775807) :
    Calls Tryd.prog 64 #[.string (str s), .int .i64 least, .int .i64 most] w fun e w' => e = .returned (.tuple #[.int .i64 (rdE s most).1, .bool (numOk s least most)]) ∧ w = w' := by
  obtain ⟨R, hR⟩ : ∃ R, R = rdE s most := ⟨_, rfl⟩
  obtain ⟨x, f⟩ := R
  have HN := Lib.hid (show numOk s least most = decide (f = 0 ∧ least ≤ x) by unfold numOk; rw [← hR])
  rw [← hR]
  have HR := Lib.hid hR
  clear hR
  by_cases hf : f = 0
  · subst hf
    go_enter Tryd.func64, Tryd.ntmps64
    go_wp2_with (first
      | (go_at_call 28
         refine (rreaddec_any s most _ hs hm1 hm2).mono ?_
         rintro e' w' ⟨rfl, rfl⟩
         rw [← HR.out]))
    go_ret2
    rw [HN.out]
    exact ⟨by simp, rfl⟩
  · have HN2 := Lib.hid (show numOk s least most = false by rw [HN.out]; simp [hf])
    have hfb : (f == 0) = false := by simpa using hf
    clear hf HN
    go_enter Tryd.func64, Tryd.ntmps64
    go_wp2_with (first
      | (go_at_call 28
         refine (rreaddec_any s most _ hs hm1 hm2).mono ?_
         rintro e' w' ⟨rfl, rfl⟩
         rw [← HR.out]))
    go_ret2
    rw [HN2.out]
    exact ⟨rfl, rfl⟩
end Go.Proofs.YtldkcfhigcmoaaaDoor
