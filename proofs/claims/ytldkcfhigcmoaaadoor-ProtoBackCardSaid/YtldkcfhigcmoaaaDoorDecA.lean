/- What ReadDec answers, the program's and the document's. Conditions: those in each theorem. -/
import Derived.Test.YtldkcfhigcmoaaaDoorDecP
import Derived.Test.YtldkcfhigcmoaaaDoorNumB
namespace Go.Proofs.YtldkcfhigcmoaaaDoor
open Go.RowKit Go.As
set_option linter.unusedVariables false

theorem one48 {s : List UInt8} (hp : 0 < s.length) (h0 : ¬ (s[0] = 48 ∧ 1 < s.length)) (h : s[0] = 48) : s = [48] := by
  match s, hp, h0, h with
  | [a], _, _, h => simp at h; rw [h]
  | a :: b :: r, _, h0, h => exact absurd ⟨h, by simp⟩ h0

set_option maxRecDepth 100000 in
set_option maxHeartbeats 1600000 in
theorem oreaddec_any (s : List UInt8) (most : Int) (w : World) (hs : s.length ≤ 9223372036854775807) (hm1 : -9223372036854775808 ≤ most) (hm2 : most ≤ 9223372036854775807) :
    Calls Tryd.prog 17 #[.string (str s), .int .i64 most] w fun e w' => e = .returned (.tuple #[.int .i64 (rdE s most).1, .int .i64 (rdE s most).2]) ∧ w = w' := by
  by_cases hneg : most < 0
  · have HN := Lib.hid (rdE_arg (s := s) hneg)
    go_enter Tryd.func17, Tryd.ntmps17
    go_wp2_with fail
    go_ret2
    rw [HN.out]
    exact ⟨rfl, rfl⟩
  by_cases hnil : s = []
  · subst hnil
    have HN := Lib.hid (rdE_form (s := []) hneg (.inl rfl))
    go_enter Tryd.func17, Tryd.ntmps17
    go_wp2_with fail
    go_ret2
    rw [HN.out]
    exact ⟨rfl, rfl⟩
  have hnb : (s == []) = false := by simpa using hnil
  by_cases h19 : 19 < s.length
  · have HN := Lib.hid (rdE_form (s := s) hneg (.inr (.inl h19)))
    clear hnil
    go_enter Tryd.func17, Tryd.ntmps17
    go_wp2_with fail
    go_ret2
    rw [HN.out]
    exact ⟨rfl, rfl⟩
  have hpos : 0 < s.length := by cases s <;> simp_all
  have hhd : s.head? = some s[0] := by cases s <;> simp_all
  have hi0 := run_idx s 0 0 rfl hpos
  by_cases h0 : s[0] = 48 ∧ 1 < s.length
  · have HN := Lib.hid (rdE_form (s := s) hneg (.inr (.inr ⟨by rw [hhd, h0.1], h0.2⟩)))
    have hb0 : ((s[0].toNat : Int) == 48) = true := by rw [h0.1]; rfl
    have hbs : (s == [48]) = false := by
      have : s ≠ [48] := fun e => by have := congrArg List.length e; have := h0.2; simp at *; omega
      simpa using this
    have hbn : (s != [48]) = true := by rw [bne, hbs]; rfl
    have hl1 : decide (1 < (s.length : Int)) = true := by have := h0.2; simp; omega
    clear hhd h0 hnil
    go_enter Tryd.func17, Tryd.ntmps17
    go_wp2_with fail
    go_ret2
    rw [HN.out]
    exact ⟨rfl, rfl⟩
  have HF := Lib.hid (show ¬ (s = [] ∨ 19 < s.length ∨ (s.head? = some 48 ∧ 1 < s.length)) by
    rintro (h | h | ⟨h, h1⟩)
    · exact hnil h
    · exact h19 h
    · rw [hhd] at h
      exact h0 ⟨Option.some.inj h, h1⟩)
  have h48 := one48 hpos h0
  have hd1 : decide ((s.length : Int) < 1) = false := by simp; omega
  have hd19 : decide (19 < (s.length : Int)) = false := by simp; omega
  have HK := Lib.hid (rdE_ok hneg HF.out)
  have HX := Lib.hid (show ∀ (k : Nat) (hk : k < s.length), isDig s[k] = false → rdE s most = (0, 4) from fun k hk hx => rdE_bad hneg hk hx)
  clear hhd h0 hnil
  by_cases hz : s[0] = 48
  · have hb0 : ((s[0].toNat : Int) == 48) = true := by rw [hz]; rfl
    have hs1 := h48 hz
    have hbs : (s == [48]) = true := by rw [hs1]; rfl
    have hbn : (s != [48]) = false := by rw [hs1]; rfl
    have hl1 : decide (1 < (s.length : Int)) = false := by rw [hs1]; rfl
    clear hz h48 hs1
    go_enter Tryd.func17, Tryd.ntmps17
    go_wp2_with fail
    clear hi0 hb0 hbs hbn hl1 hnb hd1 hd19
    go_loopw [6, 28] (fun nv iv wr => ∃ k : Nat, k ≤ s.length ∧ nv = .int .u64 (dnum (s.take k)) ∧ iv = .int .i64 k ∧ (s.take k).all isDig = true ∧ wr = w) (fun _ iv _ => s.length - (intOf iv).toNat)
    case atStart => exact ⟨0, by omega, by simp [dnum], rfl, rfl, rfl⟩
    case round =>
      obtain ⟨k, hk, rfl, rfl, hall, rfl⟩ := hrel
      have HA := Lib.hid hall
      clear hall
      by_cases hlt : k < s.length
      · have h18 := dnum_lt18 hk (by omega) HA.out
        have hbl := s[k].toNat_lt
        cases hd : isDig s[k]
        · have HN := Lib.hid (HX.out k hlt hd)
          have hlo : s[k].toNat < 48 ∨ 57 < s[k].toNat := by
            simp only [isDig, decide_eq_false_iff_not] at hd; omega
          clear hd
          rcases hlo with h1 | h1
          · go_wp2_with fail
            go_ret2
            rw [HN.out]
            exact ⟨rfl, rfl⟩
          · have h2 : ¬ s[k].toNat < 48 := by omega
            go_wp2_with fail
            go_ret2
            rw [HN.out]
            exact ⟨rfl, rfl⟩
        · have HN := Lib.hid (And.intro (dig_step hlt rfl HA.out hd) (dnum_step hlt rfl))
          simp only [isDig, decide_eq_true_eq] at hd
          obtain ⟨h1, h2⟩ := hd
          have hw : IntKind.u8.wrap ((s[k].toNat : Int) - 48) = ((s[k].toNat - 48 : Nat) : Int) := by rw [IntKind.wrap_u8]; omega
          generalize dnum (s.take k) = X at *
          go_wp2_with fail
          go_roundw
          case rel => exact ⟨k + 1, by omega, by rw [HN.out.2]; congr 1 <;> omega, by go_num, HN.out.1, trivial⟩
          case measure => simp [intOf]; omega
      · have hfull : s.take k = s := List.take_of_length_le (by omega)
        have HD := Lib.hid (HK.out (by rw [← hfull]; exact HA.out))
        rw [hfull]
        have h19' := dnum_lt19 (l := s) (by omega) (by rw [← hfull]; exact HA.out)
        clear hfull
        generalize dnum s = X at *
        by_cases hbig : 9223372036854775807 < X
        · rw [if_pos hbig] at HD
          go_wp2_with fail
          go_ret2
          rw [HD.out]
          exact ⟨rfl, rfl⟩
        · rw [if_neg hbig] at HD
          by_cases hmost : most < X
          · rw [if_pos hmost] at HD
            go_wp2_with fail
            go_ret2
            rw [HD.out]
            exact ⟨rfl, rfl⟩
          · rw [if_neg hmost] at HD
            go_wp2_with fail
            go_ret2
            rw [HD.out]
            exact ⟨by congr 4 <;> omega, rfl⟩
  · have hb0 : ((s[0].toNat : Int) == 48) = false := by
      have : s[0].toNat ≠ 48 := fun e => hz (UInt8.toNat_inj.1 e)
      simp; omega
    clear hz h48
    go_enter Tryd.func17, Tryd.ntmps17
    go_wp2_with fail
    clear hi0 hb0 hnb hd1 hd19
    go_loopw [6, 28] (fun nv iv wr => ∃ k : Nat, k ≤ s.length ∧ nv = .int .u64 (dnum (s.take k)) ∧ iv = .int .i64 k ∧ (s.take k).all isDig = true ∧ wr = w) (fun _ iv _ => s.length - (intOf iv).toNat)
    case atStart => exact ⟨0, by omega, by simp [dnum], rfl, rfl, rfl⟩
    case round =>
      obtain ⟨k, hk, rfl, rfl, hall, rfl⟩ := hrel
      have HA := Lib.hid hall
      clear hall
      by_cases hlt : k < s.length
      · have h18 := dnum_lt18 hk (by omega) HA.out
        have hbl := s[k].toNat_lt
        cases hd : isDig s[k]
        · have HN := Lib.hid (HX.out k hlt hd)
          have hlo : s[k].toNat < 48 ∨ 57 < s[k].toNat := by
            simp only [isDig, decide_eq_false_iff_not] at hd; omega
          clear hd
          rcases hlo with h1 | h1
          · go_wp2_with fail
            go_ret2
            rw [HN.out]
            exact ⟨rfl, rfl⟩
          · have h2 : ¬ s[k].toNat < 48 := by omega
            go_wp2_with fail
            go_ret2
            rw [HN.out]
            exact ⟨rfl, rfl⟩
        · have HN := Lib.hid (And.intro (dig_step hlt rfl HA.out hd) (dnum_step hlt rfl))
          simp only [isDig, decide_eq_true_eq] at hd
          obtain ⟨h1, h2⟩ := hd
          have hw : IntKind.u8.wrap ((s[k].toNat : Int) - 48) = ((s[k].toNat - 48 : Nat) : Int) := by rw [IntKind.wrap_u8]; omega
          generalize dnum (s.take k) = X at *
          go_wp2_with fail
          go_roundw
          case rel => exact ⟨k + 1, by omega, by rw [HN.out.2]; congr 1 <;> omega, by go_num, HN.out.1, trivial⟩
          case measure => simp [intOf]; omega
      · have hfull : s.take k = s := List.take_of_length_le (by omega)
        have HD := Lib.hid (HK.out (by rw [← hfull]; exact HA.out))
        rw [hfull]
        have h19' := dnum_lt19 (l := s) (by omega) (by rw [← hfull]; exact HA.out)
        clear hfull
        generalize dnum s = X at *
        by_cases hbig : 9223372036854775807 < X
        · rw [if_pos hbig] at HD
          go_wp2_with fail
          go_ret2
          rw [HD.out]
          exact ⟨rfl, rfl⟩
        · rw [if_neg hbig] at HD
          by_cases hmost : most < X
          · rw [if_pos hmost] at HD
            go_wp2_with fail
            go_ret2
            rw [HD.out]
            exact ⟨rfl, rfl⟩
          · rw [if_neg hmost] at HD
            go_wp2_with fail
            go_ret2
            rw [HD.out]
            exact ⟨by congr 4 <;> omega, rfl⟩

set_option maxRecDepth 100000 in
set_option maxHeartbeats 1600000 in
theorem rreaddec_any (s : List UInt8) (most : Int) (w : World) (hs : s.length ≤ 9223372036854775807) (hm1 : -9223372036854775808 ≤ most) (hm2 : most ≤ 9223372036854775807) :
    Calls Tryd.prog 28 #[.string (str s), .int .i64 most] w fun e w' => e = .returned (.tuple #[.int .i64 (rdE s most).1, .int .i64 (rdE s most).2]) ∧ w = w' := by
  by_cases hneg : most < 0
  · have HN := Lib.hid (rdE_arg (s := s) hneg)
    go_enter Tryd.func28, Tryd.ntmps28
    go_wp2_with fail
    go_ret2
    rw [HN.out]
    exact ⟨rfl, rfl⟩
  by_cases hnil : s = []
  · subst hnil
    have HN := Lib.hid (rdE_form (s := []) hneg (.inl rfl))
    go_enter Tryd.func28, Tryd.ntmps28
    go_wp2_with fail
    go_ret2
    rw [HN.out]
    exact ⟨rfl, rfl⟩
  have hnb : (s == []) = false := by simpa using hnil
  by_cases h19 : 19 < s.length
  · have HN := Lib.hid (rdE_form (s := s) hneg (.inr (.inl h19)))
    clear hnil
    go_enter Tryd.func28, Tryd.ntmps28
    go_wp2_with fail
    go_ret2
    rw [HN.out]
    exact ⟨rfl, rfl⟩
  have hpos : 0 < s.length := by cases s <;> simp_all
  have hhd : s.head? = some s[0] := by cases s <;> simp_all
  have hi0 := run_idx s 0 0 rfl hpos
  by_cases h0 : s[0] = 48 ∧ 1 < s.length
  · have HN := Lib.hid (rdE_form (s := s) hneg (.inr (.inr ⟨by rw [hhd, h0.1], h0.2⟩)))
    have hb0 : ((s[0].toNat : Int) == 48) = true := by rw [h0.1]; rfl
    have hbs : (s == [48]) = false := by
      have : s ≠ [48] := fun e => by have := congrArg List.length e; have := h0.2; simp at *; omega
      simpa using this
    have hbn : (s != [48]) = true := by rw [bne, hbs]; rfl
    have hl1 : decide (1 < (s.length : Int)) = true := by have := h0.2; simp; omega
    clear hhd h0 hnil
    go_enter Tryd.func28, Tryd.ntmps28
    go_wp2_with fail
    go_ret2
    rw [HN.out]
    exact ⟨rfl, rfl⟩
  have HF := Lib.hid (show ¬ (s = [] ∨ 19 < s.length ∨ (s.head? = some 48 ∧ 1 < s.length)) by
    rintro (h | h | ⟨h, h1⟩)
    · exact hnil h
    · exact h19 h
    · rw [hhd] at h
      exact h0 ⟨Option.some.inj h, h1⟩)
  have h48 := one48 hpos h0
  have hd1 : decide ((s.length : Int) < 1) = false := by simp; omega
  have hd19 : decide (19 < (s.length : Int)) = false := by simp; omega
  have HK := Lib.hid (rdE_ok hneg HF.out)
  have HX := Lib.hid (show ∀ (k : Nat) (hk : k < s.length), isDig s[k] = false → rdE s most = (0, 4) from fun k hk hx => rdE_bad hneg hk hx)
  clear hhd h0 hnil
  by_cases hz : s[0] = 48
  · have hb0 : ((s[0].toNat : Int) == 48) = true := by rw [hz]; rfl
    have hs1 := h48 hz
    have hbs : (s == [48]) = true := by rw [hs1]; rfl
    have hbn : (s != [48]) = false := by rw [hs1]; rfl
    have hl1 : decide (1 < (s.length : Int)) = false := by rw [hs1]; rfl
    clear hz h48 hs1
    go_enter Tryd.func28, Tryd.ntmps28
    go_wp2_with fail
    clear hi0 hb0 hbs hbn hl1 hnb hd1 hd19
    go_loopw [6, 7] (fun nv iv wr => ∃ k : Nat, k ≤ s.length ∧ nv = .int .u64 (dnum (s.take k)) ∧ iv = .int .i64 k ∧ (s.take k).all isDig = true ∧ wr = w) (fun _ iv _ => s.length - (intOf iv).toNat)
    case atStart => exact ⟨0, by omega, by simp [dnum], rfl, rfl, rfl⟩
    case round =>
      obtain ⟨k, hk, rfl, rfl, hall, rfl⟩ := hrel
      have HA := Lib.hid hall
      clear hall
      by_cases hlt : k < s.length
      · have h18 := dnum_lt18 hk (by omega) HA.out
        have hbl := s[k].toNat_lt
        cases hd : isDig s[k]
        · have HN := Lib.hid (HX.out k hlt hd)
          have hlo : s[k].toNat < 48 ∨ 57 < s[k].toNat := by
            simp only [isDig, decide_eq_false_iff_not] at hd; omega
          clear hd
          rcases hlo with h1 | h1
          · go_wp2_with fail
            go_ret2
            rw [HN.out]
            exact ⟨rfl, rfl⟩
          · have h2 : ¬ s[k].toNat < 48 := by omega
            go_wp2_with fail
            go_ret2
            rw [HN.out]
            exact ⟨rfl, rfl⟩
        · have HN := Lib.hid (And.intro (dig_step hlt rfl HA.out hd) (dnum_step hlt rfl))
          simp only [isDig, decide_eq_true_eq] at hd
          obtain ⟨h1, h2⟩ := hd
          have hw : IntKind.u8.wrap ((s[k].toNat : Int) - 48) = ((s[k].toNat - 48 : Nat) : Int) := by rw [IntKind.wrap_u8]; omega
          generalize dnum (s.take k) = X at *
          go_wp2_with fail
          go_roundw
          case rel => exact ⟨k + 1, by omega, by rw [HN.out.2]; congr 1 <;> omega, by go_num, HN.out.1, trivial⟩
          case measure => simp [intOf]; omega
      · have hfull : s.take k = s := List.take_of_length_le (by omega)
        have HD := Lib.hid (HK.out (by rw [← hfull]; exact HA.out))
        rw [hfull]
        have h19' := dnum_lt19 (l := s) (by omega) (by rw [← hfull]; exact HA.out)
        clear hfull
        generalize dnum s = X at *
        by_cases hbig : 9223372036854775807 < X
        · rw [if_pos hbig] at HD
          go_wp2_with fail
          go_ret2
          rw [HD.out]
          exact ⟨rfl, rfl⟩
        · rw [if_neg hbig] at HD
          by_cases hmost : most < X
          · rw [if_pos hmost] at HD
            go_wp2_with fail
            go_ret2
            rw [HD.out]
            exact ⟨rfl, rfl⟩
          · rw [if_neg hmost] at HD
            go_wp2_with fail
            go_ret2
            rw [HD.out]
            exact ⟨by congr 4 <;> omega, rfl⟩
  · have hb0 : ((s[0].toNat : Int) == 48) = false := by
      have : s[0].toNat ≠ 48 := fun e => hz (UInt8.toNat_inj.1 e)
      simp; omega
    clear hz h48
    go_enter Tryd.func28, Tryd.ntmps28
    go_wp2_with fail
    clear hi0 hb0 hnb hd1 hd19
    go_loopw [6, 7] (fun nv iv wr => ∃ k : Nat, k ≤ s.length ∧ nv = .int .u64 (dnum (s.take k)) ∧ iv = .int .i64 k ∧ (s.take k).all isDig = true ∧ wr = w) (fun _ iv _ => s.length - (intOf iv).toNat)
    case atStart => exact ⟨0, by omega, by simp [dnum], rfl, rfl, rfl⟩
    case round =>
      obtain ⟨k, hk, rfl, rfl, hall, rfl⟩ := hrel
      have HA := Lib.hid hall
      clear hall
      by_cases hlt : k < s.length
      · have h18 := dnum_lt18 hk (by omega) HA.out
        have hbl := s[k].toNat_lt
        cases hd : isDig s[k]
        · have HN := Lib.hid (HX.out k hlt hd)
          have hlo : s[k].toNat < 48 ∨ 57 < s[k].toNat := by
            simp only [isDig, decide_eq_false_iff_not] at hd; omega
          clear hd
          rcases hlo with h1 | h1
          · go_wp2_with fail
            go_ret2
            rw [HN.out]
            exact ⟨rfl, rfl⟩
          · have h2 : ¬ s[k].toNat < 48 := by omega
            go_wp2_with fail
            go_ret2
            rw [HN.out]
            exact ⟨rfl, rfl⟩
        · have HN := Lib.hid (And.intro (dig_step hlt rfl HA.out hd) (dnum_step hlt rfl))
          simp only [isDig, decide_eq_true_eq] at hd
          obtain ⟨h1, h2⟩ := hd
          have hw : IntKind.u8.wrap ((s[k].toNat : Int) - 48) = ((s[k].toNat - 48 : Nat) : Int) := by rw [IntKind.wrap_u8]; omega
          generalize dnum (s.take k) = X at *
          go_wp2_with fail
          go_roundw
          case rel => exact ⟨k + 1, by omega, by rw [HN.out.2]; congr 1 <;> omega, by go_num, HN.out.1, trivial⟩
          case measure => simp [intOf]; omega
      · have hfull : s.take k = s := List.take_of_length_le (by omega)
        have HD := Lib.hid (HK.out (by rw [← hfull]; exact HA.out))
        rw [hfull]
        have h19' := dnum_lt19 (l := s) (by omega) (by rw [← hfull]; exact HA.out)
        clear hfull
        generalize dnum s = X at *
        by_cases hbig : 9223372036854775807 < X
        · rw [if_pos hbig] at HD
          go_wp2_with fail
          go_ret2
          rw [HD.out]
          exact ⟨rfl, rfl⟩
        · rw [if_neg hbig] at HD
          by_cases hmost : most < X
          · rw [if_pos hmost] at HD
            go_wp2_with fail
            go_ret2
            rw [HD.out]
            exact ⟨rfl, rfl⟩
          · rw [if_neg hmost] at HD
            go_wp2_with fail
            go_ret2
            rw [HD.out]
            exact ⟨by congr 4 <;> omega, rfl⟩
end Go.Proofs.YtldkcfhigcmoaaaDoor
