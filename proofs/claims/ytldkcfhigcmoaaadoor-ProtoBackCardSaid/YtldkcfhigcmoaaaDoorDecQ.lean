/- Digits told and read: plain laws. No program is named; the conditions are in each theorem. -/
import Derived.Test.YtldkcfhigcmoaaaDoorDecP
import Derived.Test.YtldkcfhigcmoaaaDoorOctP
import Derived.Lib.ItoaNum
namespace Go.As
open Go
set_option linter.unusedVariables false

theorem decD_big {m : Nat} (h : ¬ m < 10) : Lib.decDigits m = Lib.decDigits (m / 10) ++ [UInt8.ofNat (48 + m % 10)] := by
  rw [Lib.decDigits, dif_neg h]
theorem dig_nat {d : Nat} (h : d < 10) : (UInt8.ofNat (48 + d)).toNat = 48 + d := by rw [UInt8.toNat_ofNat']; omega
theorem dec_all (u : Nat) : (Lib.decDigits u).all isDig = true := by
  induction u using Nat.strongRecOn with
  | _ u ih =>
    by_cases h : u < 10
    · rw [Lib.decDigits_one h]
      simp only [List.all_cons, List.all_nil, Bool.and_true, isDig, decide_eq_true_eq]
      rw [dig_nat h]; omega
    · rw [decD_big h, List.all_append, ih (u / 10) (by omega)]
      simp only [List.all_cons, List.all_nil, Bool.and_true, Bool.true_and, isDig, decide_eq_true_eq]
      rw [dig_nat (by omega)]; omega
theorem dnum_dec (u : Nat) : dnum (Lib.decDigits u) = u := by
  induction u using Nat.strongRecOn with
  | _ u ih =>
    by_cases h : u < 10
    · rw [Lib.decDigits_one h, show [UInt8.ofNat (48 + u)] = [] ++ [UInt8.ofNat (48 + u)] from rfl, dnum_snoc, dig_nat h]
      simp [dnum]
    · rw [decD_big h, dnum_snoc, ih (u / 10) (by omega), dig_nat (by omega)]; omega
theorem dec_ne (u : Nat) : Lib.decDigits u ≠ [] := by
  by_cases h : u < 10
  · rw [Lib.decDigits_one h]; simp
  · rw [decD_big h]; simp
theorem dec_head {u : Nat} (h0 : 0 < u) : (Lib.decDigits u).head? ≠ some 48 := by
  induction u using Nat.strongRecOn with
  | _ u ih =>
    by_cases h : u < 10
    · rw [Lib.decDigits_one h]
      intro e
      have e1 := congrArg UInt8.toNat (Option.some.inj e)
      rw [dig_nat h] at e1
      simp at e1; omega
    · rw [decD_big h]
      have := ih (u / 10) (by omega) (by omega)
      cases hd : Lib.decDigits (u / 10) with
      | nil => exact absurd hd (dec_ne _)
      | cons a r => rw [hd] at this; simpa using this
theorem dec_len : ∀ (k u : Nat), u < 10 ^ (k + 1) → (Lib.decDigits u).length ≤ k + 1
  | 0, u, h => by rw [Lib.decDigits_one (by simpa using h)]; simp
  | k + 1, u, h => by
    by_cases h1 : u < 10
    · rw [Lib.decDigits_one h1]; simp
    · rw [decD_big h1, List.length_append]
      have := dec_len k (u / 10) (by rw [Nat.pow_succ] at h; omega)
      simp; omega
/-- digits that are told are read as the number -/
theorem rdE_dec {u : Nat} {most : Int} (hu : u ≤ 9223372036854775807) (hm : (u : Int) ≤ most) : rdE (Lib.decDigits u) most = ((u : Int), 0) := by
  rw [rdE_ok (by omega) ?_ (dec_all u), dnum_dec, if_neg (by omega), if_neg (by omega)]
  rintro (h | h | ⟨h, h1⟩)
  · exact dec_ne u h
  · have := dec_len 18 u (by omega); omega
  · rcases Nat.eq_zero_or_pos u with h0 | h0
    · subst h0
      rw [Lib.decDigits_one (by omega)] at h1; simp at h1
    · exact dec_head h0 h
theorem rdE_neg {n most : Int} (hn : n < 0) (hm : ¬ most < 0) : rdE (Lib.itoa n) most = (0, 4) := by
  unfold Lib.itoa
  rw [if_pos hn]
  exact rdE_bad (k := 0) hm (by simp) (by rfl)
theorem dnum_pos : ∀ (n : Nat) (l : List UInt8), l.length ≤ n → l ≠ [] → l.all isDig = true → l.head? ≠ some 48 → 0 < dnum l := by
  intro n
  induction n with
  | zero => intro l h h0; exact absurd (List.eq_nil_of_length_eq_zero (by omega)) h0
  | succ n ih =>
    intro l h h0 ha hh
    obtain ⟨r, b, rfl⟩ : ∃ r b, l = r ++ [b] := ⟨l.dropLast, l.getLast h0, (List.dropLast_concat_getLast h0).symm⟩
    rw [List.all_append, Bool.and_eq_true] at ha
    have hb : isDig b = true := by simpa using ha.2
    simp only [isDig, decide_eq_true_eq] at hb
    rw [dnum_snoc]
    by_cases hr : r = []
    · subst hr
      have : b.toNat ≠ 48 := fun e => hh (by simp; exact UInt8.toNat_inj.1 e)
      omega
    · have := ih r (by simp at h; omega) hr ha.1 (by cases r with | nil => exact absurd rfl hr | cons a t => simpa using hh)
      omega
/-- digits that are read are told again -/
theorem dec_dnum : ∀ (n : Nat) (l : List UInt8), l.length ≤ n → l ≠ [] → l.all isDig = true → (l.head? ≠ some 48 ∨ l.length = 1) → Lib.decDigits (dnum l) = l := by
  intro n
  induction n with
  | zero => intro l h h0; exact absurd (List.eq_nil_of_length_eq_zero (by omega)) h0
  | succ n ih =>
    intro l h h0 ha hh
    obtain ⟨r, b, rfl⟩ : ∃ r b, l = r ++ [b] := ⟨l.dropLast, l.getLast h0, (List.dropLast_concat_getLast h0).symm⟩
    rw [List.all_append, Bool.and_eq_true] at ha
    have hb : isDig b = true := by simpa using ha.2
    simp only [isDig, decide_eq_true_eq] at hb
    have hbb : UInt8.ofNat (48 + (b.toNat - 48)) = b := by
      apply UInt8.toNat_inj.1
      rw [UInt8.toNat_ofNat']; omega
    rw [dnum_snoc]
    by_cases hr : r = []
    · subst hr
      have : dnum [] * 10 + (b.toNat - 48) = b.toNat - 48 := by simp [dnum]
      rw [this, Lib.decDigits_one (by omega), hbb]; rfl
    · have hh2 : r.head? ≠ some 48 := by
        rcases hh with hh | hh
        · cases r with
          | nil => exact absurd rfl hr
          | cons a t => simpa using hh
        · exfalso
          cases r with
          | nil => exact hr rfl
          | cons a t => simp at hh
      have hp := dnum_pos _ r (Nat.le_refl _) hr ha.1 hh2
      have hi := ih r (by simp at h; omega) hr ha.1 (.inl hh2)
      have e1 : (dnum r * 10 + (b.toNat - 48)) / 10 = dnum r := by omega
      have e2 : (dnum r * 10 + (b.toNat - 48)) % 10 = b.toNat - 48 := by omega
      rw [decD_big (by omega), e1, e2, hi, hbb]
/-- what ReadDec tells: an error and 0, or a number whose digits are the text -/
theorem rdE_cases (s : List UInt8) (most : Int) : (∃ e : Int, rdE s most = (0, e) ∧ 2 ≤ e ∧ e ≤ 4) ∨ ∃ N : Nat, rdE s most = ((N : Int), 0) ∧ Lib.decDigits N = s ∧ N ≤ 9223372036854775807 ∧ (N : Int) ≤ most := by
  unfold rdE
  split
  · exact .inl ⟨2, rfl, by omega, by omega⟩
  · split
    · exact .inl ⟨4, rfl, by omega, by omega⟩
    · rename_i h0 hf
      split
      · exact .inl ⟨4, rfl, by omega, by omega⟩
      · rename_i ha
        split
        · exact .inl ⟨4, rfl, by omega, by omega⟩
        · split
          · exact .inl ⟨3, rfl, by omega, by omega⟩
          · refine .inr ⟨dnum s, rfl, ?_, by omega, by omega⟩
            have hne : s ≠ [] := fun e => hf (.inl e)
            refine dec_dnum _ s (Nat.le_refl _) hne (by simpa using ha) ?_
            by_cases h1 : s.length = 1
            · exact .inr h1
            · left
              intro e
              have : 0 < s.length := List.length_pos_iff.2 hne
              exact hf (.inr (.inr ⟨e, by omega⟩))
theorem itoa_nat (N : Nat) : Lib.itoa (N : Int) = Lib.decDigits N := by
  unfold Lib.itoa
  rw [if_neg (by omega), Int.toNat_natCast]

/-! digits of bytes -/
theorem hexC_digV {c : UInt8} (h : ¬ 15 < digV c) : hexC (digV c) = c := by
  unfold digV at h ⊢
  split
  · rename_i hc
    unfold hexC
    rw [if_pos (by omega)]
    apply UInt8.toNat_inj.1
    rw [UInt8.toNat_ofNat']; omega
  · split
    · rename_i hc
      unfold hexC
      rw [if_neg (by omega)]
      apply UInt8.toNat_inj.1
      rw [UInt8.toNat_ofNat']; omega
    · rename_i h1 h2
      rw [if_neg h1, if_neg h2] at h
      omega
theorem hexL_unhexL : ∀ (n : Nat) (s : List UInt8), s.length ≤ n → ∀ b, unhexL s = some b → hexL b = s := by
  intro n
  induction n with
  | zero => intro s h b hb; obtain rfl : s = [] := List.eq_nil_of_length_eq_zero (by omega); simp [unhexL] at hb; subst hb; rfl
  | succ n ih =>
    intro s h b hb
    match s, h, hb with
    | [], _, hb => simp [unhexL] at hb; subst hb; rfl
    | [_], _, hb => simp [unhexL] at hb
    | x :: y :: r, h, hb =>
      simp only [unhexL] at hb
      split at hb
      · cases hb
      · rename_i hxy
        rw [Option.map_eq_some_iff] at hb
        obtain ⟨o, ho, rfl⟩ := hb
        have hx : ¬ 15 < digV x := fun h => hxy (.inl h)
        have hy : ¬ 15 < digV y := fun h => hxy (.inr h)
        have hi := ih r (by simp at h; omega) o ho
        have hn : (UInt8.ofNat (16 * digV x + digV y)).toNat = 16 * digV x + digV y := by rw [UInt8.toNat_ofNat']; omega
        have e1 : (16 * digV x + digV y) / 16 = digV x := by omega
        have e2 : (16 * digV x + digV y) % 16 = digV y := by omega
        unfold hexL at hi ⊢
        rw [List.flatMap_cons, hi]
        simp only [hex2, hn, e1, e2, hexC_digV hx, hexC_digV hy]
        rfl
theorem digV_hexC : ∀ d : Fin 16, digV (hexC d.val) = d.val := by decide
theorem unhexL_hexL (b : List UInt8) : unhexL (hexL b) = some b := by
  induction b with
  | nil => rfl
  | cons x r ih =>
    have hx := x.toNat_lt
    have e1 := digV_hexC ⟨x.toNat / 16, by omega⟩
    have e2 := digV_hexC ⟨x.toNat % 16, by omega⟩
    simp only at e1 e2
    have e3 : UInt8.ofNat (16 * (x.toNat / 16) + x.toNat % 16) = x := by
      apply UInt8.toNat_inj.1
      rw [UInt8.toNat_ofNat']; omega
    unfold hexL at ih ⊢
    rw [List.flatMap_cons]
    show unhexL (hexC (x.toNat / 16) :: hexC (x.toNat % 16) :: r.flatMap hex2) = _
    simp only [unhexL, e1, e2]
    rw [if_neg (by omega), ih, e3]; rfl
end Go.As
