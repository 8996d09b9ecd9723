/- The law RealNearest: the real of any whole number is the nearest one: no farther from it than half the step to the next reals; every input. -/
import Derived.Test.YtoonkajdmhmdpaaDoorRealK
import Derived.Test.YtoonkajdmhmdpaaDoorAwR
import Derived.Test.YtoonkajdmhmdpaaDoorDoor
namespace Go.Proofs.YtoonkajdmhmdpaaDoor
open Go.RowKit Go.As
set_option linter.unusedVariables false

theorem tdiv_own {Y D : Int} (h : D ≠ 0) : (Y * D).tdiv D = Y := Int.mul_tdiv_cancel Y h
theorem tmod_own {Y D : Int} : (Y * D).tmod D = 0 := by rw [Int.mul_comm]; exact Int.mul_tmod_right D Y
theorem even_tmod {Y : Int} (h : Y % 2 = 0) : Y.tmod 2 = 0 := by
  have : ∃ z, Y = z * 2 := ⟨Y / 2, by omega⟩
  obtain ⟨z, rfl⟩ := this
  exact tmod_own
set_option maxRecDepth 100000 in
set_option maxHeartbeats 3200000 in
theorem realNearest_walk (n : Int) (wn : (Lit.int .i64 n).wf = true) (w : World) (ht : Tab w) :
    Calls Tryd.prog 3 #[.int .i64 n] w fun e w' => e = .returned (.bool true) ∧ Below w.heap.size w w' := by
  obtain ⟨hlo, hhi⟩ := i64_bounds wn
  clear wn
  obtain ⟨A, hA⟩ : ∃ A, toN (floatOfInt .f64 n) = A := ⟨_, rfl⟩
  have c1 := fun W => kfromint W hA
  by_cases hs : -9007199254740992 < n ∧ n < 9007199254740992
  · have t1 := fun W => ktoint (a := A) (n := n) (c := true) W (by
      have hI := isI_int (N := n) (by omega)
      rw [← hA, toN_of hI.nan]
      exact isI_ti hI (by omega))
    obtain ⟨h1, h2⟩ := hs
    clear hA hlo hhi
    go_enter Tryd.func3, Tryd.ntmps3
    go_wp2_with (first
      | (go_at_call 10; refine (awake03 w ht).mono ?_; rintro e w1 ⟨rfl, hb⟩; have HB := Lib.hid hb; clear hb)
      | (go_at_call 12; (with_reducible refine (c1 _).mono ?_); rintro e w' ⟨rfl, rfl⟩)
      | (go_at_call 11; (with_reducible refine (t1 _).mono ?_); rintro e w' ⟨rfl, rfl⟩))
    go_ret
    exact ⟨rfl, HB.out⟩
  · obtain ⟨X, hX, hX2, hX3, hk⟩ := near_law hlo hhi (by omega)
    rw [hA] at hX
    by_cases hlt : X < 9223372036854775808
    · rw [if_pos hlt] at hX
      have t1 := fun W => ktoint W hX
      have HN := Lib.hid hk
      have HX := Lib.hid (And.intro hX3 hlt)
      have hsmall : n ≤ -9007199254740992 ∨ 9007199254740992 ≤ n := by omega
      clear hX hX2 hX3 hk hs hA hlt
      rcases hsmall with hsm | hsm
      · have hsmall : n < 0 := by omega
        have z1 : ¬ -9007199254740992 < n := by omega
        clear hsm
        go_enter Tryd.func3, Tryd.ntmps3
        go_wp2_with (first
          | (go_at_call 10; refine (awake03 w ht).mono ?_; rintro e w1 ⟨rfl, hb⟩; have HB := Lib.hid hb; clear hb)
          | (go_at_call 12; (with_reducible refine (c1 _).mono ?_); rintro e w' ⟨rfl, rfl⟩)
          | (go_at_call 11; (with_reducible refine (t1 _).mono ?_); rintro e w' ⟨rfl, rfl⟩))
        go_loopw [6, 7] (fun sv kv wr => ∃ (k : Nat) (D : Int), k ≤ 10 ∧ sv = .int .i64 D ∧ kv = .int .i64 k ∧ wr = w1 ∧ D = 2 ^ k ∧ (k = 0 ∨ 9007199254740992 * 2 ^ (k - 1) ≤ n ∨ n < -(9007199254740992 * 2 ^ (k - 1)))) (fun _ kv _ => 10 - (intOf kv).toNat)
        case atStart => exact ⟨0, 1, by omega, rfl, rfl, rfl, by simp, .inl rfl⟩
        case round =>
          obtain ⟨k, D, hk, rfl, rfl, rfl, hD, hkk⟩ := hrel
          have hD0 : 1 ≤ D := by
            have : (0 : Int) < 2 ^ k := Int.pow_pos (by omega)
            omega
          by_cases hk10 : k < 10
          · have hD9 : D ≤ 512 := by
              have : (2 : Nat) ^ k ≤ 2 ^ 9 := Nat.pow_le_pow_right (by omega) (by omega)
              have e : ((2 ^ k : Nat) : Int) = 2 ^ k := by rw [Int.natCast_pow]; rfl
              omega
            have w2 : IntKind.i64.wrap (9007199254740992 * D) = 9007199254740992 * D := wrap_in (by omega) (by omega)
            have w3 : IntKind.i64.wrap (-9007199254740992 * D) = -9007199254740992 * D := wrap_in (by omega) (by omega)
            have w3' : IntKind.i64.wrap (-(9007199254740992 * D)) = -(9007199254740992 * D) := wrap_in (by omega) (by omega)
            have w4 : IntKind.i64.wrap (2 * D) = 2 * D := wrap_in (by omega) (by omega)
            have hki : (k : Int) < 10 := by omega
            have hnext : (2 : Int) * D = 2 ^ (k + 1) := by rw [Int.pow_succ, hD]; omega
            by_cases hc1 : 9007199254740992 * D ≤ n
            · have HK := Lib.hid (show 2 * D = 2 ^ (k + 1) ∧ (k + 1 = 0 ∨ 9007199254740992 * 2 ^ (k + 1 - 1) ≤ n ∨ n < -(9007199254740992 * 2 ^ (k + 1 - 1))) from ⟨hnext, .inr (.inl (by rw [Nat.add_sub_cancel, ← hD]; exact hc1))⟩)
              clear hD hkk hk hnext hsmall
              go_wp2_with fail
              go_roundw
              case rel => exact ⟨k + 1, 2 * D, by omega, by go_num, by go_num, trivial, HK.out.1, HK.out.2⟩
              case measure => simp [intOf]; omega
            · by_cases hc2 : n < -(9007199254740992 * D)
              · have HK := Lib.hid (show 2 * D = 2 ^ (k + 1) ∧ (k + 1 = 0 ∨ 9007199254740992 * 2 ^ (k + 1 - 1) ≤ n ∨ n < -(9007199254740992 * 2 ^ (k + 1 - 1))) from ⟨hnext, .inr (.inr (by rw [Nat.add_sub_cancel, ← hD]; exact hc2))⟩)
                have hc2' : n < -9007199254740992 * D := by omega
                clear hD hkk hk hnext hsmall
                go_wp2_with fail
                go_roundw
                case rel => exact ⟨k + 1, 2 * D, by omega, by go_num, by go_num, trivial, HK.out.1, HK.out.2⟩
                case measure => simp [intOf]; omega
              · have hc2' : ¬ n < -9007199254740992 * D := by omega
                obtain ⟨Y, hY, hnear⟩ := HN.out k hk hkk (.inr ⟨by rw [← hD]; omega, by rw [← hD]; omega⟩)
                rw [← hD] at hY hnear
                clear hnext
                have e1 : X.tmod D = 0 := by rw [hY]; exact tmod_own
                have e2 : X.tdiv D = Y := by rw [hY]; exact tdiv_own (by omega)
                have hD1 : D ≠ 0 := by omega
                obtain ⟨d, hd⟩ : ∃ d, n - X = d := ⟨_, rfl⟩
                have hnear' : (2 * d < D ∧ 2 * (-d) < D) ∨ ((2 * d = D ∨ 2 * (-d) = D) ∧ Y % 2 = 0) := by
                  rw [← hd]
                  rcases hnear with h | h
                  · left; omega
                  · right; omega
                have hdb : -1024 ≤ d ∧ d ≤ 1024 := by omega
                have v1 : IntKind.i64.wrap (n - X) = d := by rw [hd]; exact wrap_in (by omega) (by omega)
                have v2 : IntKind.i64.wrap (-d) = -d := wrap_in (by omega) (by omega)
                have v3 : IntKind.i64.wrap (2 * d) = 2 * d := wrap_in (by omega) (by omega)
                have v4 : IntKind.i64.wrap (2 * (-d)) = 2 * (-d) := wrap_in (by omega) (by omega)
                have hYb : -9223372036854775808 ≤ Y ∧ Y ≤ 9223372036854775807 := by
                  have := HX.out
                  rw [hY] at this
                  by_cases h0 : 0 ≤ Y
                  · have := Int.mul_le_mul_of_nonneg_left hD0 h0
                    omega
                  · have := Int.mul_le_mul_of_nonneg_left hD0 (show 0 ≤ -Y by omega)
                    rw [Int.mul_one, Int.neg_mul] at this
                    omega
                have v5 : IntKind.i64.wrap Y = Y := wrap_in hYb.1 hYb.2
                clear hD hkk hY hnear hsmall hYb hd
                by_cases hdn : d < 0
                · rcases hnear' with h | ⟨h, hev⟩
                  · have q1 : 2 * (-d) < D := h.2
                    clear h
                    go_wp2_with fail
                    go_ret
                    exact ⟨rfl, HB.out⟩
                  · have q1 : ¬ 2 * (-d) < D := by omega
                    have q2 : 2 * (-d) = D := by omega
                    have q3 : (2 * (-d) == D) = true := beq_iff_eq.2 q2
                    have e3 := even_tmod hev
                    clear h hev q2
                    go_wp2_with fail
                    go_ret
                    exact ⟨rfl, HB.out⟩
                · rcases hnear' with h | ⟨h, hev⟩
                  · have q1 : 2 * d < D := h.1
                    clear h
                    go_wp2_with fail
                    go_ret
                    exact ⟨rfl, HB.out⟩
                  · have q1 : ¬ 2 * d < D := by omega
                    have q2 : 2 * d = D := by omega
                    have q3 : (2 * d == D) = true := beq_iff_eq.2 q2
                    have e3 := even_tmod hev
                    clear h hev q2
                    go_wp2_with fail
                    go_ret
                    exact ⟨rfl, HB.out⟩
          · obtain rfl : k = 10 := by omega
            obtain ⟨Y, hY, hnear⟩ := HN.out 10 hk hkk (.inl rfl)
            rw [← hD] at hY hnear
            have hD9 : D ≤ 1024 := by omega
            have hki : ¬ ((10 : Nat) : Int) < 10 := by omega
            have e1 : X.tmod D = 0 := by rw [hY]; exact tmod_own
            have e2 : X.tdiv D = Y := by rw [hY]; exact tdiv_own (by omega)
            have hD1 : D ≠ 0 := by omega
            obtain ⟨d, hd⟩ : ∃ d, n - X = d := ⟨_, rfl⟩
            have hnear' : (2 * d < D ∧ 2 * (-d) < D) ∨ ((2 * d = D ∨ 2 * (-d) = D) ∧ Y % 2 = 0) := by
              rw [← hd]
              rcases hnear with h | h
              · left; omega
              · right; omega
            have hdb : -1024 ≤ d ∧ d ≤ 1024 := by omega
            have v1 : IntKind.i64.wrap (n - X) = d := by rw [hd]; exact wrap_in (by omega) (by omega)
            have v2 : IntKind.i64.wrap (-d) = -d := wrap_in (by omega) (by omega)
            have v3 : IntKind.i64.wrap (2 * d) = 2 * d := wrap_in (by omega) (by omega)
            have v4 : IntKind.i64.wrap (2 * (-d)) = 2 * (-d) := wrap_in (by omega) (by omega)
            have hYb : -9223372036854775808 ≤ Y ∧ Y ≤ 9223372036854775807 := by
              have := HX.out
              rw [hY] at this
              by_cases h0 : 0 ≤ Y
              · have := Int.mul_le_mul_of_nonneg_left hD0 h0
                omega
              · have := Int.mul_le_mul_of_nonneg_left hD0 (show 0 ≤ -Y by omega)
                rw [Int.mul_one, Int.neg_mul] at this
                omega
            have v5 : IntKind.i64.wrap Y = Y := wrap_in hYb.1 hYb.2
            clear hD hkk hY hnear hsmall hYb hd
            by_cases hdn : d < 0
            · rcases hnear' with h | ⟨h, hev⟩
              · have q1 : 2 * (-d) < D := h.2
                clear h
                go_wp2_with fail
                go_ret
                exact ⟨rfl, HB.out⟩
              · have q1 : ¬ 2 * (-d) < D := by omega
                have q2 : 2 * (-d) = D := by omega
                have q3 : (2 * (-d) == D) = true := beq_iff_eq.2 q2
                have e3 := even_tmod hev
                clear h hev q2
                go_wp2_with fail
                go_ret
                exact ⟨rfl, HB.out⟩
            · rcases hnear' with h | ⟨h, hev⟩
              · have q1 : 2 * d < D := h.1
                clear h
                go_wp2_with fail
                go_ret
                exact ⟨rfl, HB.out⟩
              · have q1 : ¬ 2 * d < D := by omega
                have q2 : 2 * d = D := by omega
                have q3 : (2 * d == D) = true := beq_iff_eq.2 q2
                have e3 := even_tmod hev
                clear h hev q2
                go_wp2_with fail
                go_ret
                exact ⟨rfl, HB.out⟩
      · have hsmall : 0 < n := by omega
        have z1 : -9007199254740992 < n := by omega
        have z2 : ¬ n < 9007199254740992 := by omega
        clear hsm
        go_enter Tryd.func3, Tryd.ntmps3
        go_wp2_with (first
          | (go_at_call 10; refine (awake03 w ht).mono ?_; rintro e w1 ⟨rfl, hb⟩; have HB := Lib.hid hb; clear hb)
          | (go_at_call 12; (with_reducible refine (c1 _).mono ?_); rintro e w' ⟨rfl, rfl⟩)
          | (go_at_call 11; (with_reducible refine (t1 _).mono ?_); rintro e w' ⟨rfl, rfl⟩))
        go_loopw [6, 7] (fun sv kv wr => ∃ (k : Nat) (D : Int), k ≤ 10 ∧ sv = .int .i64 D ∧ kv = .int .i64 k ∧ wr = w1 ∧ D = 2 ^ k ∧ (k = 0 ∨ 9007199254740992 * 2 ^ (k - 1) ≤ n ∨ n < -(9007199254740992 * 2 ^ (k - 1)))) (fun _ kv _ => 10 - (intOf kv).toNat)
        case atStart => exact ⟨0, 1, by omega, rfl, rfl, rfl, by simp, .inl rfl⟩
        case round =>
          obtain ⟨k, D, hk, rfl, rfl, rfl, hD, hkk⟩ := hrel
          have hD0 : 1 ≤ D := by
            have : (0 : Int) < 2 ^ k := Int.pow_pos (by omega)
            omega
          by_cases hk10 : k < 10
          · have hD9 : D ≤ 512 := by
              have : (2 : Nat) ^ k ≤ 2 ^ 9 := Nat.pow_le_pow_right (by omega) (by omega)
              have e : ((2 ^ k : Nat) : Int) = 2 ^ k := by rw [Int.natCast_pow]; rfl
              omega
            have w2 : IntKind.i64.wrap (9007199254740992 * D) = 9007199254740992 * D := wrap_in (by omega) (by omega)
            have w3 : IntKind.i64.wrap (-9007199254740992 * D) = -9007199254740992 * D := wrap_in (by omega) (by omega)
            have w3' : IntKind.i64.wrap (-(9007199254740992 * D)) = -(9007199254740992 * D) := wrap_in (by omega) (by omega)
            have w4 : IntKind.i64.wrap (2 * D) = 2 * D := wrap_in (by omega) (by omega)
            have hki : (k : Int) < 10 := by omega
            have hnext : (2 : Int) * D = 2 ^ (k + 1) := by rw [Int.pow_succ, hD]; omega
            by_cases hc1 : 9007199254740992 * D ≤ n
            · have HK := Lib.hid (show 2 * D = 2 ^ (k + 1) ∧ (k + 1 = 0 ∨ 9007199254740992 * 2 ^ (k + 1 - 1) ≤ n ∨ n < -(9007199254740992 * 2 ^ (k + 1 - 1))) from ⟨hnext, .inr (.inl (by rw [Nat.add_sub_cancel, ← hD]; exact hc1))⟩)
              clear hD hkk hk hnext hsmall
              go_wp2_with fail
              go_roundw
              case rel => exact ⟨k + 1, 2 * D, by omega, by go_num, by go_num, trivial, HK.out.1, HK.out.2⟩
              case measure => simp [intOf]; omega
            · by_cases hc2 : n < -(9007199254740992 * D)
              · have HK := Lib.hid (show 2 * D = 2 ^ (k + 1) ∧ (k + 1 = 0 ∨ 9007199254740992 * 2 ^ (k + 1 - 1) ≤ n ∨ n < -(9007199254740992 * 2 ^ (k + 1 - 1))) from ⟨hnext, .inr (.inr (by rw [Nat.add_sub_cancel, ← hD]; exact hc2))⟩)
                have hc2' : n < -9007199254740992 * D := by omega
                clear hD hkk hk hnext hsmall
                go_wp2_with fail
                go_roundw
                case rel => exact ⟨k + 1, 2 * D, by omega, by go_num, by go_num, trivial, HK.out.1, HK.out.2⟩
                case measure => simp [intOf]; omega
              · have hc2' : ¬ n < -9007199254740992 * D := by omega
                obtain ⟨Y, hY, hnear⟩ := HN.out k hk hkk (.inr ⟨by rw [← hD]; omega, by rw [← hD]; omega⟩)
                rw [← hD] at hY hnear
                clear hnext
                have e1 : X.tmod D = 0 := by rw [hY]; exact tmod_own
                have e2 : X.tdiv D = Y := by rw [hY]; exact tdiv_own (by omega)
                have hD1 : D ≠ 0 := by omega
                obtain ⟨d, hd⟩ : ∃ d, n - X = d := ⟨_, rfl⟩
                have hnear' : (2 * d < D ∧ 2 * (-d) < D) ∨ ((2 * d = D ∨ 2 * (-d) = D) ∧ Y % 2 = 0) := by
                  rw [← hd]
                  rcases hnear with h | h
                  · left; omega
                  · right; omega
                have hdb : -1024 ≤ d ∧ d ≤ 1024 := by omega
                have v1 : IntKind.i64.wrap (n - X) = d := by rw [hd]; exact wrap_in (by omega) (by omega)
                have v2 : IntKind.i64.wrap (-d) = -d := wrap_in (by omega) (by omega)
                have v3 : IntKind.i64.wrap (2 * d) = 2 * d := wrap_in (by omega) (by omega)
                have v4 : IntKind.i64.wrap (2 * (-d)) = 2 * (-d) := wrap_in (by omega) (by omega)
                have hYb : -9223372036854775808 ≤ Y ∧ Y ≤ 9223372036854775807 := by
                  have := HX.out
                  rw [hY] at this
                  by_cases h0 : 0 ≤ Y
                  · have := Int.mul_le_mul_of_nonneg_left hD0 h0
                    omega
                  · have := Int.mul_le_mul_of_nonneg_left hD0 (show 0 ≤ -Y by omega)
                    rw [Int.mul_one, Int.neg_mul] at this
                    omega
                have v5 : IntKind.i64.wrap Y = Y := wrap_in hYb.1 hYb.2
                clear hD hkk hY hnear hsmall hYb hd
                by_cases hdn : d < 0
                · rcases hnear' with h | ⟨h, hev⟩
                  · have q1 : 2 * (-d) < D := h.2
                    clear h
                    go_wp2_with fail
                    go_ret
                    exact ⟨rfl, HB.out⟩
                  · have q1 : ¬ 2 * (-d) < D := by omega
                    have q2 : 2 * (-d) = D := by omega
                    have q3 : (2 * (-d) == D) = true := beq_iff_eq.2 q2
                    have e3 := even_tmod hev
                    clear h hev q2
                    go_wp2_with fail
                    go_ret
                    exact ⟨rfl, HB.out⟩
                · rcases hnear' with h | ⟨h, hev⟩
                  · have q1 : 2 * d < D := h.1
                    clear h
                    go_wp2_with fail
                    go_ret
                    exact ⟨rfl, HB.out⟩
                  · have q1 : ¬ 2 * d < D := by omega
                    have q2 : 2 * d = D := by omega
                    have q3 : (2 * d == D) = true := beq_iff_eq.2 q2
                    have e3 := even_tmod hev
                    clear h hev q2
                    go_wp2_with fail
                    go_ret
                    exact ⟨rfl, HB.out⟩
          · obtain rfl : k = 10 := by omega
            obtain ⟨Y, hY, hnear⟩ := HN.out 10 hk hkk (.inl rfl)
            rw [← hD] at hY hnear
            have hD9 : D ≤ 1024 := by omega
            have hki : ¬ ((10 : Nat) : Int) < 10 := by omega
            have e1 : X.tmod D = 0 := by rw [hY]; exact tmod_own
            have e2 : X.tdiv D = Y := by rw [hY]; exact tdiv_own (by omega)
            have hD1 : D ≠ 0 := by omega
            obtain ⟨d, hd⟩ : ∃ d, n - X = d := ⟨_, rfl⟩
            have hnear' : (2 * d < D ∧ 2 * (-d) < D) ∨ ((2 * d = D ∨ 2 * (-d) = D) ∧ Y % 2 = 0) := by
              rw [← hd]
              rcases hnear with h | h
              · left; omega
              · right; omega
            have hdb : -1024 ≤ d ∧ d ≤ 1024 := by omega
            have v1 : IntKind.i64.wrap (n - X) = d := by rw [hd]; exact wrap_in (by omega) (by omega)
            have v2 : IntKind.i64.wrap (-d) = -d := wrap_in (by omega) (by omega)
            have v3 : IntKind.i64.wrap (2 * d) = 2 * d := wrap_in (by omega) (by omega)
            have v4 : IntKind.i64.wrap (2 * (-d)) = 2 * (-d) := wrap_in (by omega) (by omega)
            have hYb : -9223372036854775808 ≤ Y ∧ Y ≤ 9223372036854775807 := by
              have := HX.out
              rw [hY] at this
              by_cases h0 : 0 ≤ Y
              · have := Int.mul_le_mul_of_nonneg_left hD0 h0
                omega
              · have := Int.mul_le_mul_of_nonneg_left hD0 (show 0 ≤ -Y by omega)
                rw [Int.mul_one, Int.neg_mul] at this
                omega
            have v5 : IntKind.i64.wrap Y = Y := wrap_in hYb.1 hYb.2
            clear hD hkk hY hnear hsmall hYb hd
            by_cases hdn : d < 0
            · rcases hnear' with h | ⟨h, hev⟩
              · have q1 : 2 * (-d) < D := h.2
                clear h
                go_wp2_with fail
                go_ret
                exact ⟨rfl, HB.out⟩
              · have q1 : ¬ 2 * (-d) < D := by omega
                have q2 : 2 * (-d) = D := by omega
                have q3 : (2 * (-d) == D) = true := beq_iff_eq.2 q2
                have e3 := even_tmod hev
                clear h hev q2
                go_wp2_with fail
                go_ret
                exact ⟨rfl, HB.out⟩
            · rcases hnear' with h | ⟨h, hev⟩
              · have q1 : 2 * d < D := h.1
                clear h
                go_wp2_with fail
                go_ret
                exact ⟨rfl, HB.out⟩
              · have q1 : ¬ 2 * d < D := by omega
                have q2 : 2 * d = D := by omega
                have q3 : (2 * d == D) = true := beq_iff_eq.2 q2
                have e3 := even_tmod hev
                clear h hev q2
                go_wp2_with fail
                go_ret
                exact ⟨rfl, HB.out⟩
    · rw [if_neg hlt] at hX
      have t1 := fun W => ktoint W hX
      have hn : 9223372036854775295 < n := hX2 hlt
      have z1 : -9007199254740992 < n := by omega
      have z2 : ¬ n < 9007199254740992 := by omega
      clear hX hX2 hX3 hk hs hA hlt
      go_enter Tryd.func3, Tryd.ntmps3
      go_wp2_with (first
        | (go_at_call 10; refine (awake03 w ht).mono ?_; rintro e w1 ⟨rfl, hb⟩; have HB := Lib.hid hb; clear hb)
        | (go_at_call 12; (with_reducible refine (c1 _).mono ?_); rintro e w' ⟨rfl, rfl⟩)
        | (go_at_call 11; (with_reducible refine (t1 _).mono ?_); rintro e w' ⟨rfl, rfl⟩))
      go_ret
      exact ⟨rfl, HB.out⟩

namespace realNearest
set_option linter.unusedVariables false
open Go.ChangeShapes Go.WideShapes Go.ChangeAt Go.RowKit Go.As
theorem own : ownKnob Tryd.prog.godebug = none := by kernel_rfl
theorem laidOut : laidOutB Tryd.prog = true := by kernel_rfl
theorem door_met (os : Os) (args : Array Value) : laidMetH Tryd.prog Rows.realNearestRow.laid ((World.doorLaid Tryd.prog 24 os).forCall (fun _ _ => 0) ⟨#[], args, []⟩).memory :=
  laidMetH_of_parts3 (fuel := 8) (laidMet_of_run' 8 (by kernel_rfl) (by kernel_rfl)) (by kernel_rfl) (by kernel_rfl)
set_option maxRecDepth 100000 in
theorem lifted (os : Os) (started : os.Started) (H : Type) (enc : TypeId × Value → H) :
    ReturnsInHanded {} Tryd.checked os 3 .any (fun w args => (Rows.realNearestSpec.pre enc Tryd.prog Tryd.f3 [] false w args ∧ laidMetH Tryd.prog Rows.realNearestRow.laid w) ∧ sizedMet enc Tryd.prog Tryd.f3 (OpenSpec.ofChange Rows.realNearestSpec) false w args) (Rows.realNearestSpec.post enc Tryd.prog Tryd.f3 false true false false) := by
  refine returnsInHanded_of_change_and (C := Tryd.checked) (X := fun w _ => laidMetH Tryd.prog Rows.realNearestRow.laid w) (fun _ _ _ hh h => h.of_heap hh) own started (by kernel_rfl) Tryd.func3
    (ChangeSpec.witness_shaped (enc := enc) (C := Tryd.checked) (os := os) (X := fun w _ => laidMetH Tryd.prog Rows.realNearestRow.laid w) false (World.doorLaid Tryd.prog 24 os) #[.int .i64 0] 8 rfl (World.shaped_of_RefB (by kernel_rfl) (by kernel_rfl)) (by kernel_rfl) (by kernel_rfl) (by kernel_rfl) (door_met os _)) ?_
  intro W base args ds gs before hval0 hW hcnd _ hL _
  have hval : ∀ (j : Nat) t v, Tryd.f3.params[j]? = some t → args[j]? = some v → Value.okWide Tryd.prog W .any base t v := hval0
  have hW' := hW
  obtain ⟨p, q, hA0, hV, hpq, hfz, hnd⟩ := hW
  have hA : DataW.TrodAll enc Tryd.prog W 0 (fun _ => true) true Tryd.f3.params.toList args.toList ds p := hA0
  have hlt : ∀ x ∈ p, x.block < W.heap.size := fun x hx => hW'.lt x (by rw [hpq]; exact List.mem_append_left _ hx)
  rw [Tryd.params3] at hA hval
  obtain ⟨v0, vs0, d0, ds0, p0, q0, hargs, rfl, hp0, h0, r0⟩ := trodAll_cons hA
  obtain ⟨rfl, rfl, hpn⟩ := trodAll_nil r0
  obtain rfl : args = #[v0] := by cases args; simp_all
  obtain ⟨rfl, rfl⟩ := trodVars_none hV
  obtain ⟨a0, rfl, rfl, -, w0⟩ := open_int Tryd.underlying2 (hval 0 2 v0 rfl rfl) h0
  refine (realNearest_walk a0 w0 W (tab_of_laid (laid := Rows.realNearestRow.laid) rfl hL)).mono fun e W' ⟨he, hg⟩ => ?_
  subst he
  exact ⟨_, rfl, law_post (T := 4) laidOut (by kernel_rfl) Tryd.underlying4 rfl rfl hW' rfl rfl rfl hg⟩
theorem over : Rows.realNearestRow.holds Tryd.pinned (OpenSpec.ofChange Rows.realNearestSpec) :=
  OpenClaim.holds_of_wide 3 Tryd.f3 rfl rfl rfl rfl rfl rfl rfl ⟨rfl, rfl, rfl, rfl, rfl⟩ rfl rfl rfl rfl rfl (by kernel_rfl) Tryd.func3 (by kernel_rfl)
    (of_decide_eq_true (by kernel_rfl)) (by unfold Func.isWrapper; rw [if_neg (of_decide_eq_false (by kernel_rfl))]; exact ⟨rfl, rfl⟩)
    (fun os started H enc _ => lifted os started H enc)
/-- the statement -/
theorem proved : Rows.RealNearestCardSaid :=
  Claim7.holds_tied_plain_at .later [] [.data, .data, .data] true (true, "7e8a5e3ef04c6f126ea9b2dcb9de6630f871d33b2f365b3a025e1e7c8e672a72") false over (fun _ h => by cases h) (by kernel_rfl) (fun _ h => by cases h) realNearest_row_tie rfl ⟨rfl, rfl⟩ (by kernel_rfl) rfl
    (fun f fn hf hfn => by
      obtain rfl : f = 3 := Option.some.inj ((show Tryd.prog.funcNamed "assize/assizelaw03.RealNearest" = some 3 by kernel_rfl).symm.trans hf) |>.symm
      obtain rfl : fn = Tryd.f3 := (Option.some.inj (Tryd.func3.symm.trans hfn)).symm
      exact ⟨by kernel_rfl, fun j t ht => by
        rw [Tryd.params3] at ht
        have hm : t ∈ [2] := by simpa using Array.mem_of_getElem? ht
        have hall : ([2].all fun u => !Tryd.prog.wantsStandIn u) = true := by kernel_rfl
        exact (show Tryd.prog.wantsStandIn t = false by simpa using List.all_eq_true.1 hall t hm)⟩)
    (by kernel_rfl)
#print axioms proved
end realNearest
end Go.Proofs.YtoonkajdmhmdpaaDoor
