/- The plain law of RealBack: what is printed is read again; texts tell reals apart. No program in sight but in the last. -/
import Derived.Test.YtoonkajdmhmdpaaDoorRealM
namespace Go.Proofs.YtoonkajdmhmdpaaDoor
open Go.RowKit Go.As
set_option linter.unusedVariables false

theorem lit_head (n k : Nat) : ∃ d r, litS n k = d :: r ∧ 48 ≤ d.toNat ∧ d.toNat ≤ 57 := by
  unfold litS
  have h1 := decDigits_ne (n / 10 ^ k)
  have h2 := decDigits_all (n / 10 ^ k)
  cases h : Lib.decDigits (n / 10 ^ k) with
  | nil => exact absurd h h1
  | cons d r =>
    rw [h, List.all_cons, Bool.and_eq_true] at h2
    have := digB_val h2.1
    exact ⟨d, r ++ 46 :: dgw k n, rfl, this.1, this.2⟩
/-- the kind of a text, by its first letters -/
def tk : List UInt8 → Nat
  | [] => 9
  | x :: r => if x.toNat = 35 then 3 else if x.toNat = 110 then 0 else if x.toNat = 105 then 1 else if x.toNat = 45 then (match r with | [] => 9 | y :: _ => if y.toNat = 105 then 2 else 5) else 4
theorem tk_lit (n k : Nat) : tk (litS n k) = 4 := by
  obtain ⟨d, r, e, h1, h2⟩ := lit_head n k
  rw [e]
  show (if d.toNat = 35 then 3 else if d.toNat = 110 then 0 else if d.toNat = 105 then 1 else if d.toNat = 45 then (match r with | [] => 9 | y :: _ => if y.toNat = 105 then 2 else 5) else 4) = 4
  rw [if_neg (by omega), if_neg (by omega), if_neg (by omega), if_neg (by omega)]
theorem tk_neg (n k : Nat) : tk (45 :: litS n k) = 5 := by
  obtain ⟨d, r, e, h1, h2⟩ := lit_head n k
  rw [e]
  show (if d.toNat = 105 then 2 else 5) = 5
  rw [if_neg (by omega)]
theorem PSpec.lit {c : Nat} {s : List UInt8} (h : PSpec c s 0) : ∃ k n, LitIs c k n ∧ s = litS n k := by
  rcases h with ⟨_, k, n, h1, h2, _⟩ | ⟨h, _⟩
  · exact ⟨k, n, h1, h2⟩
  · cases h
theorem PSpec.tk {c : Nat} {s : List UInt8} (h : PSpec c s 0) : tk s = 4 := by
  obtain ⟨k, n, _, rfl⟩ := h.lit
  exact tk_lit n k
theorem PSpec.tkn {c : Nat} {s : List UInt8} (h : PSpec c s 0) : Go.Proofs.YtoonkajdmhmdpaaDoor.tk (45 :: s) = 5 := by
  obtain ⟨k, n, _, rfl⟩ := h.lit
  exact tk_neg n k
theorem PSpec.inj {c d : Nat} {s : List UInt8} (h : PSpec c s 0) (g : PSpec d s 0) : c = d := by
  obtain ⟨k, n, h1, h2⟩ := h.lit
  obtain ⟨l, m, g1, g2⟩ := g.lit
  obtain ⟨e1, e2⟩ := lit_inj (h2.symm.trans g2)
  subst e1
  subst e2
  rw [← h1.2.2.2, ← g1.2.2.2]
theorem TSpec.inj {c d : Nat} {s : List UInt8} (hc : c < 18446744073709551616) (hd : d < 18446744073709551616) (h : TSpec c s) (g : TSpec d s) : c = d := by
  have kn : Go.Proofs.YtoonkajdmhmdpaaDoor.tk [110, 97, 110] = 0 := rfl
  have ki : Go.Proofs.YtoonkajdmhmdpaaDoor.tk [105, 110, 102] = 1 := rfl
  have km : Go.Proofs.YtoonkajdmhmdpaaDoor.tk [45, 105, 110, 102] = 2 := rfl
  have kh : ∀ l, Go.Proofs.YtoonkajdmhmdpaaDoor.tk (35 :: l) = 3 := fun l => rfl
  have cls : ∀ {c : Nat} {s : List UInt8}, TSpec c s → (tk s = 0 ∧ c = 9221120237041090560) ∨ (tk s = 1 ∧ c = 9218868437227405312) ∨ (tk s = 2 ∧ c = 18442240474082181120) ∨ (tk s = 4 ∧ PSpec c s 0) ∨ (tk s = 5 ∧ ∃ t, PSpec (negW c) t 0 ∧ s = 45 :: t) ∨ (tk s = 3 ∧ s = 35 :: hexd 16 c) := by
    intro c s h
    rcases h with ⟨h1, rfl⟩ | ⟨h1, rfl⟩ | ⟨h1, rfl⟩ | ⟨h1, h2, h3, h4 | ⟨_, ⟨t, h5, rfl⟩ | ⟨_, rfl⟩⟩⟩
    · exact .inl ⟨kn, h1⟩
    · exact .inr (.inl ⟨ki, h1⟩)
    · exact .inr (.inr (.inl ⟨km, h1⟩))
    · exact .inr (.inr (.inr (.inl ⟨h4.tk, h4⟩)))
    · exact .inr (.inr (.inr (.inr (.inl ⟨h5.tkn, t, h5, rfl⟩))))
    · exact .inr (.inr (.inr (.inr (.inr ⟨kh _, rfl⟩))))
  have H := cls h
  have G := cls g
  obtain ⟨K, hK⟩ : ∃ K, K = tk s := ⟨_, rfl⟩
  rw [← hK] at H G
  clear hK h g cls kn ki km kh
  rcases H with ⟨a, b⟩ | ⟨a, b⟩ | ⟨a, b⟩ | ⟨a, b⟩ | ⟨a, t, b, e⟩ | ⟨a, b⟩
  all_goals rcases G with ⟨a', b'⟩ | ⟨a', b'⟩ | ⟨a', b'⟩ | ⟨a', b'⟩ | ⟨a', t', b', e'⟩ | ⟨a', b'⟩
  all_goals first
    | (exfalso; clear b b'; omega)
    | (exfalso; clear b; omega)
    | (exfalso; clear b'; omega)
    | (exfalso; omega)
    | (rw [b, b'])
    | exact b.inj b'
    | skip
  · have : t = t' := by
      have := e.symm.trans e'
      injection this
    subst this
    have h1 := b.inj b'
    rw [← negW_negW hc, ← negW_negW hd, h1]
  · have : hexd 16 c = hexd 16 d := by
      have := b.symm.trans b'
      injection this
    exact hexd_inj 16 hc hd this
/-- a literal that is read is printed no longer than it was, and is read again as the same -/
theorem back {s : List UInt8} (h : rpOk s = true) : ∃ x t, rpB s = x ∧ rpF s = 0 ∧ x < 18446744073709551616 ∧ PSpec (toN x) t 0 ∧ TSpec (toN x) t ∧ rpB t = x ∧ rpF t = 0 ∧ t.length ≤ s.length := by
  obtain ⟨n0, k0, hs, hn, h1, h6, hx⟩ := ok_lit h
  have hf : rpF s = 0 := by unfold rpF; rw [h, if_pos rfl]
  obtain ⟨x, hxx⟩ : ∃ x, x = quoW n0 k0 := ⟨_, rfl⟩
  rw [← hxx] at hx
  have hL : LitIs x k0 n0 := ⟨h1, h6, hn, hxx.symm⟩
  have hb := hL.bound
  have hto : toN x = x := toN_of hb.2.1
  rcases PSpec.total x with ⟨t, hp⟩ | hp
  · have hp' := hp
    rcases hp' with ⟨_, k, n, hl, ht, hno⟩ | ⟨e, _⟩
    · have hkk : k ≤ k0 := by
        rcases Nat.lt_or_ge k0 k with c | c
        · exact absurd hL (hno k0 n0 c)
        · exact c
      have hpar := lit_parse hl.2.2.1 hl.1 hl.2.1
      rw [← ht, hl.2.2.2] at hpar
      have hne : x ≠ 9221120237041090560 := by
        intro e
        have := hb.2.1
        rw [e, nan_lit] at this
        cases this
      have hni : x ≠ 9218868437227405312 := by
        intro e
        have := hb.1
        rw [e] at this
        revert this
        decide
      have hnm : x ≠ 18442240474082181120 := by
        intro e
        have := hb.2.2
        omega
      have hlen : t.length ≤ s.length := by
        rw [ht, hs, lit_len, lit_len]
        rcases Nat.lt_or_ge k k0 with c | c
        · have ha := hl.across hL c
          have : n0 / 10 ^ k0 = n / 10 ^ k := by
            rw [← ha, show k0 = (k0 - k) + k by omega, Nat.pow_add, show k0 - k + k - k = k0 - k by omega, Nat.mul_comm n, Nat.mul_div_mul_left _ _ (Nat.pos_of_ne_zero (by simp))]
          rw [this]
          omega
        · have : k = k0 := by omega
          subst this
          have := hl.uniq hL
          subst this
          exact Nat.le_refl _
      refine ⟨x, t, hx, hf, by omega, by rw [hto]; exact hp, ?_, hpar.1, hpar.2, hlen⟩
      rw [hto]
      exact .inr (.inr (.inr ⟨hne, hni, hnm, .inl hp⟩))
    · cases e
  · rcases hp with ⟨e, _⟩ | ⟨_, _, hno⟩
    · cases e
    · exact absurd hL (hno k0 n0)
theorem again {a : Nat} {t : List UInt8} (h : PSpec (toN a) t 0) : rpB t = toN a ∧ rpF t = 0 := by
  obtain ⟨k, n, hl, ht⟩ := h.lit
  have hpar := lit_parse hl.2.2.1 hl.1 hl.2.1
  rw [← ht, hl.2.2.2] at hpar
  exact hpar
end Go.Proofs.YtoonkajdmhmdpaaDoor
