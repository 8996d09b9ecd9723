/- What the machine asks of this program: its functions' names. Conditions: those in each theorem. -/
import Derived.Test.YtaehpjaleceppaaGreatDoorSy17
import Derived.Test.YtaehpjaleceppaaGreatDoorBase
import Derived.Test.YtaehpjaleceppaaGreatDoorRows
import Derived.Laws.Externs
namespace Go.Proofs.YtaehpjaleceppaaGreatDoor
open Go.RowKit Go.As Go.Sy
set_option linter.unusedVariables false

def evId (f : Nat) : Bool := Nat.beq f 255
theorem noEscape (x : Value) (w : World) : (callFunc 255 #[x]).run Tryz.prog w = .ok (.value x) w := by
  rw [run_callFunc_extern (P := Tryz.prog) Tryz.func255 (by kernel_rfl) (by kernel_rfl) (e := Extern.AbiNoEscape.same) (by kernel_rfl) (by kernel_rfl)]
  rfl
theorem evId_ok (f : Nat) (hf : evId f = true) (x : Value) (w : World) : (callFunc f #[x]).run Tryz.prog w = .ok (.value x) w := by
  have := Nat.eq_of_beq_eq_true hf
  subst this
  exact noEscape x w
def syI : Sy.Aux := ⟨evId, fun _ _ => none, fun _ => True⟩
theorem sy_fine : Sy.Fine Tryz.prog syI := Sy.fine_of evId_ok (fun f args av h => by cases h) (fun w w' h hb => trivial) (by kernel_rfl)
theorem sy_mixed : Tryz.prog.follows .mixedOrders = true := by kernel_rfl
theorem sy_cx (B : Nat → Prop) (w0 : World) : Sy.Cx Tryz.prog syI B w0 := ⟨sy_mixed, sy_fine, fun _ _ => trivial⟩
theorem wr64 {n : Int} (h1 : -9223372036854775808 ≤ n) (h2 : n < 9223372036854775808) : wrapF .i64 n = n := by rw [wrapF_eq, IntKind.wrap_i64]; omega
theorem lt_t {a b : Int} (h : a < b) : intLt a b = true := by rw [intLt_eq]; exact decide_eq_true h
theorem lt_f {a b : Int} (h : ¬ a < b) : intLt a b = false := by rw [intLt_eq]; exact decide_eq_false h
theorem eq_t {a b : Int} (h : a = b) : intEq a b = true := by rw [intEq_eq]; simp [h]
theorem eq_f {a b : Int} (h : a ≠ b) : intEq a b = false := by rw [intEq_eq]; simp [h]
theorem slice_str (s : List UInt8) (a b : Nat) (hab : a ≤ b) (hb : b ≤ s.length) (t : List UInt8) (ht : (s.drop a).take (b - a) = t) {P : Program} (ty : TypeId) (hu : P.underlying ty = some .string) (w : World) :
    (Instr.sliceAt ty (.string (str s)) (some (.int .i64 (a : Int))) (some (.int .i64 (b : Int))) none).run P w = .ok (.string (str t)) w := by
  rw [run_sliceAt_string _ _ _ _ _ _ hu]
  have h2 : (b : Int) ≤ ((str s).size : Nat) := by rw [str_size]; omega
  simp [Instr.slice, run_underlying hu, Instr.sliceBounds, run_sliceBound, h2, (by omega : (a : Int) ≤ b), str_extract, ht]
end Go.Proofs.YtaehpjaleceppaaGreatDoor
