/- What the small functions on reals answer, the program's. No conditions beyond those in each theorem. -/
import Derived.Test.YtoonkajdmhmdpaaDoorRealP
import Derived.Test.YtoonkajdmhmdpaaDoorRows
import Derived.Handy
import Derived.WalkLawsBesides
namespace Go.Proofs.YtoonkajdmhmdpaaDoor
open Go.RowKit Go.As
set_option linter.unusedVariables false

theorem frombits (a : Int) (w : World) : (callFunc 43 #[.int .u64 a]).run Tryd.prog w = .ok (.value (.float .f64 a.toNat)) w := by
  rw [run_callFunc_extern (P := Tryd.prog) Tryd.func43 (by kernel_rfl) (by kernel_rfl) (e := Extern.MathFloatBits.float64frombits) (by kernel_rfl) (by kernel_rfl)]
  rfl
theorem tobits (b : Nat) (w : World) : (callFunc 44 #[.float .f64 b]).run Tryd.prog w = .ok (.value (.int .u64 b)) w := by
  rw [run_callFunc_extern (P := Tryd.prog) Tryd.func44 (by kernel_rfl) (by kernel_rfl) (e := Extern.MathFloatBits.float64bits) (by kernel_rfl) (by kernel_rfl)]
  rfl


theorem pof_any (a : Int) (w : World) : Calls Tryd.prog 28 #[.int .u64 a] w fun e w' => e = .returned (.float .f64 a.toNat) ∧ w = w' := by
  have h1 := frombits
  go_enter Tryd.func28, Tryd.ntmps28
  go_wp2
  go_ret
  exact ⟨rfl, rfl⟩
theorem pto_any (b : Nat) (w : World) : Calls Tryd.prog 29 #[.float .f64 b] w fun e w' => e = .returned (.int .u64 (toN b)) ∧ w = w' := by
  have h1 := tobits
  rcases toN_cases b with ⟨h2, h3⟩ | ⟨h2, h3⟩
  · rw [h3]
    clear h3
    go_enter Tryd.func29, Tryd.ntmps29
    go_wp2
    go_ret
    exact ⟨rfl, rfl⟩
  · rw [h3]
    clear h3
    go_enter Tryd.func29, Tryd.ntmps29
    go_wp2
    go_ret
    exact ⟨rfl, rfl⟩
theorem pcanon_any (a : Int) (w : World) : Calls Tryd.prog 13 #[.int .u64 a] w fun e w' => e = .returned (.int .u64 (toN a.toNat)) ∧ w = w' := by
  go_enter Tryd.func13, Tryd.ntmps13
  go_wp2_with (first
    | (go_at_call 28; refine (pof_any _ _).mono ?_; rintro e w' ⟨rfl, rfl⟩)
    | (go_at_call 29; refine (pto_any _ _).mono ?_; rintro e w' ⟨rfl, rfl⟩))
  go_ret
  exact ⟨rfl, rfl⟩
theorem pmay_any (a : Int) (w : World) : Calls Tryd.prog 21 #[.int .u64 a] w fun e w' => e = .returned (.bool (((toN a.toNat : Nat) : Int) == a)) ∧ w = w' := by
  go_enter Tryd.func21, Tryd.ntmps21
  go_wp2_with (first
    | (go_at_call 13; refine (pcanon_any _ _).mono ?_; rintro e w' ⟨rfl, rfl⟩))
  go_ret
  exact ⟨rfl, rfl⟩
theorem pequal_any (a b : Int) (w : World) : Calls Tryd.prog 15 #[.int .u64 a, .int .u64 b] w fun e w' => e = .returned (.bool (FloatKind.f64.format.order a.toNat b.toNat == some .eq)) ∧ w = w' := by
  go_enter Tryd.func15, Tryd.ntmps15
  go_wp2_with (first
    | (go_at_call 28; refine (pof_any _ _).mono ?_; rintro e w' ⟨rfl, rfl⟩))
  go_ret
  exact ⟨rfl, rfl⟩
theorem pless_any (a b : Int) (w : World) : Calls Tryd.prog 14 #[.int .u64 a, .int .u64 b] w fun e w' => e = .returned (.bool (FloatKind.f64.format.order a.toNat b.toNat == some .lt)) ∧ w = w' := by
  go_enter Tryd.func14, Tryd.ntmps14
  go_wp2_with (first
    | (go_at_call 28; refine (pof_any _ _).mono ?_; rintro e w' ⟨rfl, rfl⟩))
  go_ret
  exact ⟨rfl, rfl⟩
theorem pfromint_any (n : Int) (w : World) : Calls Tryd.prog 12 #[.int .i64 n] w fun e w' => e = .returned (.int .u64 (toN (floatOfInt .f64 n))) ∧ w = w' := by
  go_enter Tryd.func12, Tryd.ntmps12
  go_wp2_with (first
    | (go_at_call 29; refine (pto_any _ _).mono ?_; rintro e w' ⟨rfl, rfl⟩))
  go_ret
  exact ⟨rfl, rfl⟩
theorem padd_any (a b : Int) (w : World) : Calls Tryd.prog 17 #[.int .u64 a, .int .u64 b] w fun e w' => e = .returned (.int .u64 (arN .add a.toNat b.toNat)) ∧ ∃ q, w' = w.drewN q := by
  cases h : floatBits .add .f64 a.toNat b.toNat with
  | some r =>
    have hrun := fun w t => run_float_arith (P := Tryd.prog) w .add t .f64 _ _ _ h
    have HE := Lib.hid (show arN .add a.toNat b.toNat = toN r by simp [arN, h])
    clear h
    go_enter Tryd.func17, Tryd.ntmps17
    go_wp2_with (first
      | (go_at_call 28; refine (pof_any _ _).mono ?_; rintro e w' ⟨rfl, rfl⟩)
      | (go_at_call 29; refine (pto_any _ _).mono ?_; rintro e w' ⟨rfl, rfl⟩))
    go_ret
    exact ⟨by rw [HE.out]; rfl, 0, rfl⟩
  | none =>
    obtain ⟨r, hrun, hnan⟩ := run_float_nan (P := Tryd.prog) w .add 43 _ _ (.inl rfl) h
    have HE := Lib.hid (show ((toN r : Nat) : Int) = (arN .add a.toNat b.toNat : Nat) by simp [arN, h, toN, hnan])
    clear h hnan
    go_enter Tryd.func17, Tryd.ntmps17
    go_wp2_with (first
      | (go_at_call 28; refine (pof_any _ _).mono ?_; rintro e w' ⟨rfl, rfl⟩)
      | (go_at_call 29; refine (pto_any _ _).mono ?_; rintro e w' ⟨rfl, rfl⟩))
    go_ret
    exact ⟨by rw [HE.out]; rfl, 1, rfl⟩
theorem psub_any (a b : Int) (w : World) : Calls Tryd.prog 19 #[.int .u64 a, .int .u64 b] w fun e w' => e = .returned (.int .u64 (arN .sub a.toNat b.toNat)) ∧ ∃ q, w' = w.drewN q := by
  cases h : floatBits .sub .f64 a.toNat b.toNat with
  | some r =>
    have hrun := fun w t => run_float_arith (P := Tryd.prog) w .sub t .f64 _ _ _ h
    have HE := Lib.hid (show arN .sub a.toNat b.toNat = toN r by simp [arN, h])
    clear h
    go_enter Tryd.func19, Tryd.ntmps19
    go_wp2_with (first
      | (go_at_call 28; refine (pof_any _ _).mono ?_; rintro e w' ⟨rfl, rfl⟩)
      | (go_at_call 29; refine (pto_any _ _).mono ?_; rintro e w' ⟨rfl, rfl⟩))
    go_ret
    exact ⟨by rw [HE.out]; rfl, 0, rfl⟩
  | none =>
    obtain ⟨r, hrun, hnan⟩ := run_float_nan (P := Tryd.prog) w .sub 43 _ _ (.inr (.inl rfl)) h
    have HE := Lib.hid (show ((toN r : Nat) : Int) = (arN .sub a.toNat b.toNat : Nat) by simp [arN, h, toN, hnan])
    clear h hnan
    go_enter Tryd.func19, Tryd.ntmps19
    go_wp2_with (first
      | (go_at_call 28; refine (pof_any _ _).mono ?_; rintro e w' ⟨rfl, rfl⟩)
      | (go_at_call 29; refine (pto_any _ _).mono ?_; rintro e w' ⟨rfl, rfl⟩))
    go_ret
    exact ⟨by rw [HE.out]; rfl, 1, rfl⟩
theorem pmul_any (a b : Int) (w : World) : Calls Tryd.prog 18 #[.int .u64 a, .int .u64 b] w fun e w' => e = .returned (.int .u64 (arN .mul a.toNat b.toNat)) ∧ ∃ q, w' = w.drewN q := by
  cases h : floatBits .mul .f64 a.toNat b.toNat with
  | some r =>
    have hrun := fun w t => run_float_arith (P := Tryd.prog) w .mul t .f64 _ _ _ h
    have HE := Lib.hid (show arN .mul a.toNat b.toNat = toN r by simp [arN, h])
    clear h
    go_enter Tryd.func18, Tryd.ntmps18
    go_wp2_with (first
      | (go_at_call 28; refine (pof_any _ _).mono ?_; rintro e w' ⟨rfl, rfl⟩)
      | (go_at_call 29; refine (pto_any _ _).mono ?_; rintro e w' ⟨rfl, rfl⟩))
    go_ret
    exact ⟨by rw [HE.out]; rfl, 0, rfl⟩
  | none =>
    obtain ⟨r, hrun, hnan⟩ := run_float_nan (P := Tryd.prog) w .mul 43 _ _ (.inr (.inr (.inl rfl))) h
    have HE := Lib.hid (show ((toN r : Nat) : Int) = (arN .mul a.toNat b.toNat : Nat) by simp [arN, h, toN, hnan])
    clear h hnan
    go_enter Tryd.func18, Tryd.ntmps18
    go_wp2_with (first
      | (go_at_call 28; refine (pof_any _ _).mono ?_; rintro e w' ⟨rfl, rfl⟩)
      | (go_at_call 29; refine (pto_any _ _).mono ?_; rintro e w' ⟨rfl, rfl⟩))
    go_ret
    exact ⟨by rw [HE.out]; rfl, 1, rfl⟩
theorem pquo_any (a b : Int) (w : World) : Calls Tryd.prog 20 #[.int .u64 a, .int .u64 b] w fun e w' => e = .returned (.int .u64 (arN .quo a.toNat b.toNat)) ∧ ∃ q, w' = w.drewN q := by
  cases h : floatBits .quo .f64 a.toNat b.toNat with
  | some r =>
    have hrun := fun w t => run_float_arith (P := Tryd.prog) w .quo t .f64 _ _ _ h
    have HE := Lib.hid (show arN .quo a.toNat b.toNat = toN r by simp [arN, h])
    clear h
    go_enter Tryd.func20, Tryd.ntmps20
    go_wp2_with (first
      | (go_at_call 28; refine (pof_any _ _).mono ?_; rintro e w' ⟨rfl, rfl⟩)
      | (go_at_call 29; refine (pto_any _ _).mono ?_; rintro e w' ⟨rfl, rfl⟩))
    go_ret
    exact ⟨by rw [HE.out]; rfl, 0, rfl⟩
  | none =>
    obtain ⟨r, hrun, hnan⟩ := run_float_nan (P := Tryd.prog) w .quo 43 _ _ (.inr (.inr (.inr rfl))) h
    have HE := Lib.hid (show ((toN r : Nat) : Int) = (arN .quo a.toNat b.toNat : Nat) by simp [arN, h, toN, hnan])
    clear h hnan
    go_enter Tryd.func20, Tryd.ntmps20
    go_wp2_with (first
      | (go_at_call 28; refine (pof_any _ _).mono ?_; rintro e w' ⟨rfl, rfl⟩)
      | (go_at_call 29; refine (pto_any _ _).mono ?_; rintro e w' ⟨rfl, rfl⟩))
    go_ret
    exact ⟨by rw [HE.out]; rfl, 1, rfl⟩

end Go.Proofs.YtoonkajdmhmdpaaDoor
