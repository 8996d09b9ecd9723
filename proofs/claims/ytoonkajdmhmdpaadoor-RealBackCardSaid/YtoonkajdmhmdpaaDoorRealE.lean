/- What ToInt and Neg on reals answer, and the document's small functions. Conditions: those in each theorem. -/
import Derived.Test.YtoonkajdmhmdpaaDoorRealC
namespace Go.Proofs.YtoonkajdmhmdpaaDoor
open Go.RowKit Go.As
set_option linter.unusedVariables false

/-- the other sign, with one NaN -/
def ngN (a : Int) : Int := if FloatKind.f64.format.order a.toNat a.toNat = some .eq then bits .xor .u64 a 9223372036854775808 else 9221120237041090560
theorem nan_const : FloatKind.f64.format.order 9221120237041090560 9221120237041090560 = none := by decide
theorem toN_const (b : Nat) : (((toN b : Nat) : Int) == 9221120237041090560) = (FloatKind.f64.format.order b b != some .eq) := by
  rcases toN_cases b with ⟨h1, h2⟩ | ⟨h1, h2⟩
  · rw [h2, h1]
    by_cases hb : b = 9221120237041090560
    · subst hb; rw [nan_const] at h1; cases h1
    · have : ((b : Int) == 9221120237041090560) = false := by simp; omega
      rw [this]; rfl
  · rw [h2, h1]; rfl
theorem pneg_any (a : Int) (w : World) : Calls Tryd.prog 16 #[.int .u64 a] w fun e w' => e = .returned (.int .u64 (ngN a)) ∧ w = w' := by
  by_cases h : FloatKind.f64.format.order a.toNat a.toNat = some .eq
  · rw [show ngN a = bits .xor .u64 a 9223372036854775808 by simp [ngN, h]]
    go_enter Tryd.func16, Tryd.ntmps16
    go_wp2_with (first
      | (go_at_call 28; refine (pof_any _ _).mono ?_; rintro e w' ⟨rfl, rfl⟩))
    go_ret
    exact ⟨rfl, rfl⟩
  · rw [show ngN a = 9221120237041090560 by simp [ngN, h]]
    have hb : (FloatKind.f64.format.order a.toNat a.toNat != some .eq) = true := by simpa using h
    clear h
    go_enter Tryd.func16, Tryd.ntmps16
    go_wp2_with (first
      | (go_at_call 28; refine (pof_any _ _).mono ?_; rintro e w' ⟨rfl, rfl⟩))
    go_ret
    exact ⟨rfl, rfl⟩
theorem qof_any (a : Int) (w : World) : Calls Tryd.prog 37 #[.int .u64 a] w fun e w' => e = .returned (.float .f64 a.toNat) ∧ w = w' := by
  have h1 := frombits
  go_enter Tryd.func37, Tryd.ntmps37
  go_wp2
  go_ret
  exact ⟨rfl, rfl⟩
theorem qto_any (b : Nat) (w : World) : Calls Tryd.prog 33 #[.float .f64 b] w fun e w' => e = .returned (.int .u64 (toN b)) ∧ w = w' := by
  have h1 := tobits
  rcases toN_cases b with ⟨h2, h3⟩ | ⟨h2, h3⟩
  · rw [h3]
    clear h3
    go_enter Tryd.func33, Tryd.ntmps33
    go_wp2
    go_ret
    exact ⟨rfl, rfl⟩
  · rw [h3]
    clear h3
    go_enter Tryd.func33, Tryd.ntmps33
    go_wp2
    go_ret
    exact ⟨rfl, rfl⟩
theorem qcanon_any (a : Int) (w : World) : Calls Tryd.prog 36 #[.int .u64 a] w fun e w' => e = .returned (.int .u64 (toN a.toNat)) ∧ w = w' := by
  go_enter Tryd.func36, Tryd.ntmps36
  go_wp2_with (first
    | (go_at_call 37; refine (qof_any _ _).mono ?_; rintro e w' ⟨rfl, rfl⟩)
    | (go_at_call 33; refine (qto_any _ _).mono ?_; rintro e w' ⟨rfl, rfl⟩))
  go_ret
  exact ⟨rfl, rfl⟩
theorem qneg_any (a : Int) (w : World) : Calls Tryd.prog 42 #[.int .u64 a] w fun e w' => e = .returned (.int .u64 (ngN a)) ∧ w = w' := by
  have hc := toN_const a.toNat
  by_cases h : FloatKind.f64.format.order a.toNat a.toNat = some .eq
  · rw [show ngN a = bits .xor .u64 a 9223372036854775808 by simp [ngN, h]]
    rw [h] at hc
    have hc' : (((toN a.toNat : Nat) : Int) == 9221120237041090560) = false := by rw [hc]; rfl
    clear hc h
    go_enter Tryd.func42, Tryd.ntmps42
    go_wp2_with (first
      | (go_at_call 36; refine (qcanon_any _ _).mono ?_; rintro e w' ⟨rfl, rfl⟩))
    go_ret
    exact ⟨rfl, rfl⟩
  · rw [show ngN a = 9221120237041090560 by simp [ngN, h]]
    have hb : (FloatKind.f64.format.order a.toNat a.toNat != some .eq) = true := by simpa using h
    rw [hb] at hc
    clear h hb
    go_enter Tryd.func42, Tryd.ntmps42
    go_wp2_with (first
      | (go_at_call 36; refine (qcanon_any _ _).mono ?_; rintro e w' ⟨rfl, rfl⟩))
    go_ret
    exact ⟨rfl, rfl⟩


theorem ptoint_any (a : Int) (w : World) : Calls Tryd.prog 11 #[.int .u64 a] w fun e w' => e = .returned (.tuple #[.int .i64 (tiN a.toNat).1, .bool (tiN a.toNat).2]) ∧ w = w' := by
  obtain ⟨b, hb⟩ : ∃ b, b = a.toNat := ⟨_, rfl⟩
  have HO := Lib.hid (fun w => pof_any a w)
  rw [← hb] at HO ⊢
  clear hb
  rcases ti_cases b with ⟨h1, h2, h3⟩ | ⟨c, d, h1, h2, h3⟩
  · have ht : tiN b = (0, false) := by simp [tiN, h2]
    rw [ht]
    clear ht
    go_enter Tryd.func11, Tryd.ntmps11
    go_wp2_with (go_at_call 28; refine (HO.out _).mono ?_; rintro e w' ⟨rfl, rfl⟩)
    go_ret2
    exact ⟨rfl, rfl⟩
  · have hcv : ∀ (n : Int), floatToIntVal .f64 b .i64 = some n → ∀ w, (convert 43 2 (.float .f64 b)).run Tryd.prog w = .ok (.int .i64 n) w := fun n h w => run_convert_float_int (P := Tryd.prog) w 43 2 .f64 .i64 b n (by kernel_rfl) Tryd.underlying2 h
    have hin := fun (h2 : FloatKind.f64.format.order b 4890909195324358656 = some .lt) h3 => @ti_val b h2 h3
    cases c
    case lt =>
      cases d
      case lt =>
        have ht : tiN b = (0, false) := by simp [tiN, h3]
        rw [ht]
        clear ht hcv hin
        go_enter Tryd.func11, Tryd.ntmps11
        go_wp2_with (go_at_call 28; refine (HO.out _).mono ?_; rintro e w' ⟨rfl, rfl⟩)
        go_ret2
        exact ⟨rfl, rfl⟩
      case eq =>
        obtain ⟨hv, ht⟩ := hin h2 (.inr h3)
        have hrun := hcv _ hv
        rw [ht]
        generalize (tiN b).1 = n at *
        clear ht hcv hin hv
        go_enter Tryd.func11, Tryd.ntmps11
        go_wp2_with (go_at_call 28; refine (HO.out _).mono ?_; rintro e w' ⟨rfl, rfl⟩)
        go_ret2
        exact ⟨rfl, rfl⟩
      case gt =>
        obtain ⟨hv, ht⟩ := hin h2 (.inl h3)
        have hrun := hcv _ hv
        rw [ht]
        generalize (tiN b).1 = n at *
        clear ht hcv hin hv
        go_enter Tryd.func11, Tryd.ntmps11
        go_wp2_with (go_at_call 28; refine (HO.out _).mono ?_; rintro e w' ⟨rfl, rfl⟩)
        go_ret2
        exact ⟨rfl, rfl⟩
    all_goals
      have ht : tiN b = (0, false) := by simp [tiN, h2]
      rw [ht]
      clear ht hcv hin
      cases d
      all_goals
        go_enter Tryd.func11, Tryd.ntmps11
        go_wp2_with (go_at_call 28; refine (HO.out _).mono ?_; rintro e w' ⟨rfl, rfl⟩)
        go_ret2
        exact ⟨rfl, rfl⟩

end Go.Proofs.YtoonkajdmhmdpaaDoor
