/- What the small functions on reals answer, the program's and the document's. No conditions beyond those in each theorem. -/
import Derived.Test.YtoonkajdmhmdpaaRealP
import Derived.Test.YtoonkajdmhmdpaaRows
import Derived.Handy
import Derived.WalkLawsBesides
namespace Go.Proofs.Ytoonkajdmhmdpaa
open Go.RowKit Go.As
set_option linter.unusedVariables false

theorem frombits (a : Int) (w : World) : (callFunc 30 #[.int .u64 a]).run Try.prog w = .ok (.value (.float .f64 a.toNat)) w := by
  rw [run_callFunc_extern (P := Try.prog) Try.func30 (by kernel_rfl) (by kernel_rfl) (e := Extern.MathFloatBits.float64frombits) (by kernel_rfl) (by kernel_rfl)]
  rfl
theorem tobits (b : Nat) (w : World) : (callFunc 31 #[.float .f64 b]).run Try.prog w = .ok (.value (.int .u64 b)) w := by
  rw [run_callFunc_extern (P := Try.prog) Try.func31 (by kernel_rfl) (by kernel_rfl) (e := Extern.MathFloatBits.float64bits) (by kernel_rfl) (by kernel_rfl)]
  rfl


theorem pof_any (a : Int) (w : World) : Calls Try.prog 26 #[.int .u64 a] w fun e w' => e = .returned (.float .f64 a.toNat) ∧ w = w' := by
  have h1 := frombits
  go_enter Try.func26, Try.ntmps26
  go_wp2
  go_ret
  exact ⟨rfl, rfl⟩
theorem pto_any (b : Nat) (w : World) : Calls Try.prog 28 #[.float .f64 b] w fun e w' => e = .returned (.int .u64 (toN b)) ∧ w = w' := by
  have h1 := tobits
  rcases toN_cases b with ⟨h2, h3⟩ | ⟨h2, h3⟩
  · rw [h3]
    clear h3
    go_enter Try.func28, Try.ntmps28
    go_wp2
    go_ret
    exact ⟨rfl, rfl⟩
  · rw [h3]
    clear h3
    go_enter Try.func28, Try.ntmps28
    go_wp2
    go_ret
    exact ⟨rfl, rfl⟩
theorem pcanon_any (a : Int) (w : World) : Calls Try.prog 18 #[.int .u64 a] w fun e w' => e = .returned (.int .u64 (toN a.toNat)) ∧ w = w' := by
  go_enter Try.func18, Try.ntmps18
  go_wp2_with (first
    | (go_at_call 26; refine (pof_any _ _).mono ?_; rintro e w' ⟨rfl, rfl⟩)
    | (go_at_call 28; refine (pto_any _ _).mono ?_; rintro e w' ⟨rfl, rfl⟩))
  go_ret
  exact ⟨rfl, rfl⟩
theorem pmay_any (a : Int) (w : World) : Calls Try.prog 16 #[.int .u64 a] w fun e w' => e = .returned (.bool (((toN a.toNat : Nat) : Int) == a)) ∧ w = w' := by
  go_enter Try.func16, Try.ntmps16
  go_wp2_with (first
    | (go_at_call 18; refine (pcanon_any _ _).mono ?_; rintro e w' ⟨rfl, rfl⟩))
  go_ret
  exact ⟨rfl, rfl⟩
theorem pequal_any (a b : Int) (w : World) : Calls Try.prog 20 #[.int .u64 a, .int .u64 b] w fun e w' => e = .returned (.bool (FloatKind.f64.format.order a.toNat b.toNat == some .eq)) ∧ w = w' := by
  go_enter Try.func20, Try.ntmps20
  go_wp2_with (first
    | (go_at_call 26; refine (pof_any _ _).mono ?_; rintro e w' ⟨rfl, rfl⟩))
  go_ret
  exact ⟨rfl, rfl⟩
theorem pless_any (a b : Int) (w : World) : Calls Try.prog 22 #[.int .u64 a, .int .u64 b] w fun e w' => e = .returned (.bool (FloatKind.f64.format.order a.toNat b.toNat == some .lt)) ∧ w = w' := by
  go_enter Try.func22, Try.ntmps22
  go_wp2_with (first
    | (go_at_call 26; refine (pof_any _ _).mono ?_; rintro e w' ⟨rfl, rfl⟩))
  go_ret
  exact ⟨rfl, rfl⟩
theorem pfromint_any (n : Int) (w : World) : Calls Try.prog 24 #[.int .i64 n] w fun e w' => e = .returned (.int .u64 (toN (floatOfInt .f64 n))) ∧ w = w' := by
  go_enter Try.func24, Try.ntmps24
  go_wp2_with (first
    | (go_at_call 28; refine (pto_any _ _).mono ?_; rintro e w' ⟨rfl, rfl⟩))
  go_ret
  exact ⟨rfl, rfl⟩
theorem padd_any (a b : Int) (w : World) : Calls Try.prog 6 #[.int .u64 a, .int .u64 b] w fun e w' => e = .returned (.int .u64 (arN .add a.toNat b.toNat)) ∧ ∃ q, w' = w.drewN q := by
  cases h : floatBits .add .f64 a.toNat b.toNat with
  | some r =>
    have hrun := fun w t => run_float_arith (P := Try.prog) w .add t .f64 _ _ _ h
    have HE := Lib.hid (show arN .add a.toNat b.toNat = toN r by simp [arN, h])
    clear h
    go_enter Try.func6, Try.ntmps6
    go_wp2_with (first
      | (go_at_call 26; refine (pof_any _ _).mono ?_; rintro e w' ⟨rfl, rfl⟩)
      | (go_at_call 28; refine (pto_any _ _).mono ?_; rintro e w' ⟨rfl, rfl⟩))
    go_ret
    exact ⟨by rw [HE.out]; rfl, 0, rfl⟩
  | none =>
    obtain ⟨r, hrun, hnan⟩ := run_float_nan (P := Try.prog) w .add 31 _ _ (.inl rfl) h
    have HE := Lib.hid (show ((toN r : Nat) : Int) = (arN .add a.toNat b.toNat : Nat) by simp [arN, h, toN, hnan])
    clear h hnan
    go_enter Try.func6, Try.ntmps6
    go_wp2_with (first
      | (go_at_call 26; refine (pof_any _ _).mono ?_; rintro e w' ⟨rfl, rfl⟩)
      | (go_at_call 28; refine (pto_any _ _).mono ?_; rintro e w' ⟨rfl, rfl⟩))
    go_ret
    exact ⟨by rw [HE.out]; rfl, 1, rfl⟩
theorem psub_any (a b : Int) (w : World) : Calls Try.prog 8 #[.int .u64 a, .int .u64 b] w fun e w' => e = .returned (.int .u64 (arN .sub a.toNat b.toNat)) ∧ ∃ q, w' = w.drewN q := by
  cases h : floatBits .sub .f64 a.toNat b.toNat with
  | some r =>
    have hrun := fun w t => run_float_arith (P := Try.prog) w .sub t .f64 _ _ _ h
    have HE := Lib.hid (show arN .sub a.toNat b.toNat = toN r by simp [arN, h])
    clear h
    go_enter Try.func8, Try.ntmps8
    go_wp2_with (first
      | (go_at_call 26; refine (pof_any _ _).mono ?_; rintro e w' ⟨rfl, rfl⟩)
      | (go_at_call 28; refine (pto_any _ _).mono ?_; rintro e w' ⟨rfl, rfl⟩))
    go_ret
    exact ⟨by rw [HE.out]; rfl, 0, rfl⟩
  | none =>
    obtain ⟨r, hrun, hnan⟩ := run_float_nan (P := Try.prog) w .sub 31 _ _ (.inr (.inl rfl)) h
    have HE := Lib.hid (show ((toN r : Nat) : Int) = (arN .sub a.toNat b.toNat : Nat) by simp [arN, h, toN, hnan])
    clear h hnan
    go_enter Try.func8, Try.ntmps8
    go_wp2_with (first
      | (go_at_call 26; refine (pof_any _ _).mono ?_; rintro e w' ⟨rfl, rfl⟩)
      | (go_at_call 28; refine (pto_any _ _).mono ?_; rintro e w' ⟨rfl, rfl⟩))
    go_ret
    exact ⟨by rw [HE.out]; rfl, 1, rfl⟩
theorem pmul_any (a b : Int) (w : World) : Calls Try.prog 10 #[.int .u64 a, .int .u64 b] w fun e w' => e = .returned (.int .u64 (arN .mul a.toNat b.toNat)) ∧ ∃ q, w' = w.drewN q := by
  cases h : floatBits .mul .f64 a.toNat b.toNat with
  | some r =>
    have hrun := fun w t => run_float_arith (P := Try.prog) w .mul t .f64 _ _ _ h
    have HE := Lib.hid (show arN .mul a.toNat b.toNat = toN r by simp [arN, h])
    clear h
    go_enter Try.func10, Try.ntmps10
    go_wp2_with (first
      | (go_at_call 26; refine (pof_any _ _).mono ?_; rintro e w' ⟨rfl, rfl⟩)
      | (go_at_call 28; refine (pto_any _ _).mono ?_; rintro e w' ⟨rfl, rfl⟩))
    go_ret
    exact ⟨by rw [HE.out]; rfl, 0, rfl⟩
  | none =>
    obtain ⟨r, hrun, hnan⟩ := run_float_nan (P := Try.prog) w .mul 31 _ _ (.inr (.inr (.inl rfl))) h
    have HE := Lib.hid (show ((toN r : Nat) : Int) = (arN .mul a.toNat b.toNat : Nat) by simp [arN, h, toN, hnan])
    clear h hnan
    go_enter Try.func10, Try.ntmps10
    go_wp2_with (first
      | (go_at_call 26; refine (pof_any _ _).mono ?_; rintro e w' ⟨rfl, rfl⟩)
      | (go_at_call 28; refine (pto_any _ _).mono ?_; rintro e w' ⟨rfl, rfl⟩))
    go_ret
    exact ⟨by rw [HE.out]; rfl, 1, rfl⟩
theorem pquo_any (a b : Int) (w : World) : Calls Try.prog 12 #[.int .u64 a, .int .u64 b] w fun e w' => e = .returned (.int .u64 (arN .quo a.toNat b.toNat)) ∧ ∃ q, w' = w.drewN q := by
  cases h : floatBits .quo .f64 a.toNat b.toNat with
  | some r =>
    have hrun := fun w t => run_float_arith (P := Try.prog) w .quo t .f64 _ _ _ h
    have HE := Lib.hid (show arN .quo a.toNat b.toNat = toN r by simp [arN, h])
    clear h
    go_enter Try.func12, Try.ntmps12
    go_wp2_with (first
      | (go_at_call 26; refine (pof_any _ _).mono ?_; rintro e w' ⟨rfl, rfl⟩)
      | (go_at_call 28; refine (pto_any _ _).mono ?_; rintro e w' ⟨rfl, rfl⟩))
    go_ret
    exact ⟨by rw [HE.out]; rfl, 0, rfl⟩
  | none =>
    obtain ⟨r, hrun, hnan⟩ := run_float_nan (P := Try.prog) w .quo 31 _ _ (.inr (.inr (.inr rfl))) h
    have HE := Lib.hid (show ((toN r : Nat) : Int) = (arN .quo a.toNat b.toNat : Nat) by simp [arN, h, toN, hnan])
    clear h hnan
    go_enter Try.func12, Try.ntmps12
    go_wp2_with (first
      | (go_at_call 26; refine (pof_any _ _).mono ?_; rintro e w' ⟨rfl, rfl⟩)
      | (go_at_call 28; refine (pto_any _ _).mono ?_; rintro e w' ⟨rfl, rfl⟩))
    go_ret
    exact ⟨by rw [HE.out]; rfl, 1, rfl⟩

theorem qof_any (a : Int) (w : World) : Calls Try.prog 27 #[.int .u64 a] w fun e w' => e = .returned (.float .f64 a.toNat) ∧ w = w' := by
  have h1 := frombits
  go_enter Try.func27, Try.ntmps27
  go_wp2
  go_ret
  exact ⟨rfl, rfl⟩
theorem qto_any (b : Nat) (w : World) : Calls Try.prog 29 #[.float .f64 b] w fun e w' => e = .returned (.int .u64 (toN b)) ∧ w = w' := by
  have h1 := tobits
  rcases toN_cases b with ⟨h2, h3⟩ | ⟨h2, h3⟩
  · rw [h3]
    clear h3
    go_enter Try.func29, Try.ntmps29
    go_wp2
    go_ret
    exact ⟨rfl, rfl⟩
  · rw [h3]
    clear h3
    go_enter Try.func29, Try.ntmps29
    go_wp2
    go_ret
    exact ⟨rfl, rfl⟩
theorem qcanon_any (a : Int) (w : World) : Calls Try.prog 19 #[.int .u64 a] w fun e w' => e = .returned (.int .u64 (toN a.toNat)) ∧ w = w' := by
  go_enter Try.func19, Try.ntmps19
  go_wp2_with (first
    | (go_at_call 27; refine (qof_any _ _).mono ?_; rintro e w' ⟨rfl, rfl⟩)
    | (go_at_call 29; refine (qto_any _ _).mono ?_; rintro e w' ⟨rfl, rfl⟩))
  go_ret
  exact ⟨rfl, rfl⟩
theorem qmay_any (a : Int) (w : World) : Calls Try.prog 17 #[.int .u64 a] w fun e w' => e = .returned (.bool (((toN a.toNat : Nat) : Int) == a)) ∧ w = w' := by
  go_enter Try.func17, Try.ntmps17
  go_wp2_with (first
    | (go_at_call 19; refine (qcanon_any _ _).mono ?_; rintro e w' ⟨rfl, rfl⟩))
  go_ret
  exact ⟨rfl, rfl⟩
theorem qequal_any (a b : Int) (w : World) : Calls Try.prog 21 #[.int .u64 a, .int .u64 b] w fun e w' => e = .returned (.bool (FloatKind.f64.format.order a.toNat b.toNat == some .eq)) ∧ w = w' := by
  go_enter Try.func21, Try.ntmps21
  go_wp2_with (first
    | (go_at_call 27; refine (qof_any _ _).mono ?_; rintro e w' ⟨rfl, rfl⟩))
  go_ret
  exact ⟨rfl, rfl⟩
theorem qless_any (a b : Int) (w : World) : Calls Try.prog 23 #[.int .u64 a, .int .u64 b] w fun e w' => e = .returned (.bool (FloatKind.f64.format.order a.toNat b.toNat == some .lt)) ∧ w = w' := by
  go_enter Try.func23, Try.ntmps23
  go_wp2_with (first
    | (go_at_call 27; refine (qof_any _ _).mono ?_; rintro e w' ⟨rfl, rfl⟩))
  go_ret
  exact ⟨rfl, rfl⟩
theorem qfromint_any (n : Int) (w : World) : Calls Try.prog 25 #[.int .i64 n] w fun e w' => e = .returned (.int .u64 (toN (floatOfInt .f64 n))) ∧ w = w' := by
  go_enter Try.func25, Try.ntmps25
  go_wp2_with (first
    | (go_at_call 29; refine (qto_any _ _).mono ?_; rintro e w' ⟨rfl, rfl⟩))
  go_ret
  exact ⟨rfl, rfl⟩
theorem qadd_any (a b : Int) (w : World) : Calls Try.prog 7 #[.int .u64 a, .int .u64 b] w fun e w' => e = .returned (.int .u64 (arN .add a.toNat b.toNat)) ∧ ∃ q, w' = w.drewN q := by
  cases h : floatBits .add .f64 a.toNat b.toNat with
  | some r =>
    have hrun := fun w t => run_float_arith (P := Try.prog) w .add t .f64 _ _ _ h
    have HE := Lib.hid (show arN .add a.toNat b.toNat = toN r by simp [arN, h])
    clear h
    go_enter Try.func7, Try.ntmps7
    go_wp2_with (first
      | (go_at_call 27; refine (qof_any _ _).mono ?_; rintro e w' ⟨rfl, rfl⟩)
      | (go_at_call 29; refine (qto_any _ _).mono ?_; rintro e w' ⟨rfl, rfl⟩))
    go_ret
    exact ⟨by rw [HE.out]; rfl, 0, rfl⟩
  | none =>
    obtain ⟨r, hrun, hnan⟩ := run_float_nan (P := Try.prog) w .add 31 _ _ (.inl rfl) h
    have HE := Lib.hid (show ((toN r : Nat) : Int) = (arN .add a.toNat b.toNat : Nat) by simp [arN, h, toN, hnan])
    clear h hnan
    go_enter Try.func7, Try.ntmps7
    go_wp2_with (first
      | (go_at_call 27; refine (qof_any _ _).mono ?_; rintro e w' ⟨rfl, rfl⟩)
      | (go_at_call 29; refine (qto_any _ _).mono ?_; rintro e w' ⟨rfl, rfl⟩))
    go_ret
    exact ⟨by rw [HE.out]; rfl, 1, rfl⟩
theorem qsub_any (a b : Int) (w : World) : Calls Try.prog 9 #[.int .u64 a, .int .u64 b] w fun e w' => e = .returned (.int .u64 (arN .sub a.toNat b.toNat)) ∧ ∃ q, w' = w.drewN q := by
  cases h : floatBits .sub .f64 a.toNat b.toNat with
  | some r =>
    have hrun := fun w t => run_float_arith (P := Try.prog) w .sub t .f64 _ _ _ h
    have HE := Lib.hid (show arN .sub a.toNat b.toNat = toN r by simp [arN, h])
    clear h
    go_enter Try.func9, Try.ntmps9
    go_wp2_with (first
      | (go_at_call 27; refine (qof_any _ _).mono ?_; rintro e w' ⟨rfl, rfl⟩)
      | (go_at_call 29; refine (qto_any _ _).mono ?_; rintro e w' ⟨rfl, rfl⟩))
    go_ret
    exact ⟨by rw [HE.out]; rfl, 0, rfl⟩
  | none =>
    obtain ⟨r, hrun, hnan⟩ := run_float_nan (P := Try.prog) w .sub 31 _ _ (.inr (.inl rfl)) h
    have HE := Lib.hid (show ((toN r : Nat) : Int) = (arN .sub a.toNat b.toNat : Nat) by simp [arN, h, toN, hnan])
    clear h hnan
    go_enter Try.func9, Try.ntmps9
    go_wp2_with (first
      | (go_at_call 27; refine (qof_any _ _).mono ?_; rintro e w' ⟨rfl, rfl⟩)
      | (go_at_call 29; refine (qto_any _ _).mono ?_; rintro e w' ⟨rfl, rfl⟩))
    go_ret
    exact ⟨by rw [HE.out]; rfl, 1, rfl⟩
theorem qmul_any (a b : Int) (w : World) : Calls Try.prog 11 #[.int .u64 a, .int .u64 b] w fun e w' => e = .returned (.int .u64 (arN .mul a.toNat b.toNat)) ∧ ∃ q, w' = w.drewN q := by
  cases h : floatBits .mul .f64 a.toNat b.toNat with
  | some r =>
    have hrun := fun w t => run_float_arith (P := Try.prog) w .mul t .f64 _ _ _ h
    have HE := Lib.hid (show arN .mul a.toNat b.toNat = toN r by simp [arN, h])
    clear h
    go_enter Try.func11, Try.ntmps11
    go_wp2_with (first
      | (go_at_call 27; refine (qof_any _ _).mono ?_; rintro e w' ⟨rfl, rfl⟩)
      | (go_at_call 29; refine (qto_any _ _).mono ?_; rintro e w' ⟨rfl, rfl⟩))
    go_ret
    exact ⟨by rw [HE.out]; rfl, 0, rfl⟩
  | none =>
    obtain ⟨r, hrun, hnan⟩ := run_float_nan (P := Try.prog) w .mul 31 _ _ (.inr (.inr (.inl rfl))) h
    have HE := Lib.hid (show ((toN r : Nat) : Int) = (arN .mul a.toNat b.toNat : Nat) by simp [arN, h, toN, hnan])
    clear h hnan
    go_enter Try.func11, Try.ntmps11
    go_wp2_with (first
      | (go_at_call 27; refine (qof_any _ _).mono ?_; rintro e w' ⟨rfl, rfl⟩)
      | (go_at_call 29; refine (qto_any _ _).mono ?_; rintro e w' ⟨rfl, rfl⟩))
    go_ret
    exact ⟨by rw [HE.out]; rfl, 1, rfl⟩
theorem qquo_any (a b : Int) (w : World) : Calls Try.prog 13 #[.int .u64 a, .int .u64 b] w fun e w' => e = .returned (.int .u64 (arN .quo a.toNat b.toNat)) ∧ ∃ q, w' = w.drewN q := by
  cases h : floatBits .quo .f64 a.toNat b.toNat with
  | some r =>
    have hrun := fun w t => run_float_arith (P := Try.prog) w .quo t .f64 _ _ _ h
    have HE := Lib.hid (show arN .quo a.toNat b.toNat = toN r by simp [arN, h])
    clear h
    go_enter Try.func13, Try.ntmps13
    go_wp2_with (first
      | (go_at_call 27; refine (qof_any _ _).mono ?_; rintro e w' ⟨rfl, rfl⟩)
      | (go_at_call 29; refine (qto_any _ _).mono ?_; rintro e w' ⟨rfl, rfl⟩))
    go_ret
    exact ⟨by rw [HE.out]; rfl, 0, rfl⟩
  | none =>
    obtain ⟨r, hrun, hnan⟩ := run_float_nan (P := Try.prog) w .quo 31 _ _ (.inr (.inr (.inr rfl))) h
    have HE := Lib.hid (show ((toN r : Nat) : Int) = (arN .quo a.toNat b.toNat : Nat) by simp [arN, h, toN, hnan])
    clear h hnan
    go_enter Try.func13, Try.ntmps13
    go_wp2_with (first
      | (go_at_call 27; refine (qof_any _ _).mono ?_; rintro e w' ⟨rfl, rfl⟩)
      | (go_at_call 29; refine (qto_any _ _).mono ?_; rintro e w' ⟨rfl, rfl⟩))
    go_ret
    exact ⟨by rw [HE.out]; rfl, 1, rfl⟩
end Go.Proofs.Ytoonkajdmhmdpaa
