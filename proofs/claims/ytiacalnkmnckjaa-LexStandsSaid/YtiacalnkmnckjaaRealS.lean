/- Which texts are literals of reals, and the literal of a number. Plain laws; no program is named; the conditions are in each theorem. -/
import Derived.Test.YtiacalnkmnckjaaRealL
import Derived.Lib.IndexMore
import Derived.Lib.IndexBytes
import Derived.Lib.ItoaNum
namespace Go.As
open Go Ieee
set_option linter.unusedVariables false

/-! which texts are literals -/
def digB (c : UInt8) : Bool := decide (48 ≤ c.toNat ∧ c.toNat ≤ 57)
def decV (l : List UInt8) : Nat := l.foldl (fun n c => 10 * n + (c.toNat - 48)) 0
def rpW (s : List UInt8) : List UInt8 := (Lib.cut s [46]).1
def rpP (s : List UInt8) : List UInt8 := (Lib.cut s [46]).2.1
def rpO (s : List UInt8) : Bool := (Lib.cut s [46]).2.2
def fmtB (o : Bool) (x p : List UInt8) : Bool := decide (o = true ∧ x ≠ [] ∧ p ≠ [] ∧ p.length ≤ 6 ∧ x.length + p.length ≤ 15 ∧ ¬ (x.head? = some 48 ∧ x ≠ [48]))
def rpOk (s : List UInt8) : Bool := fmtB (rpO s) (rpW s) (rpP s) && (rpW s ++ rpP s).all digB
def rpB (s : List UInt8) : Nat := if rpOk s = true then arN .quo (floatOfInt .f64 (decV (rpW s ++ rpP s))) (powT (rpP s).length) else 0
def rpF (s : List UInt8) : Int := if rpOk s = true then 0 else 4
theorem rp_bad {s : List UInt8} (h : rpOk s = false) : rpB s = 0 ∧ rpF s = 4 := by unfold rpB rpF; rw [h]; exact ⟨rfl, rfl⟩
theorem decV_succ (l : List UInt8) (c : UInt8) : decV (l ++ [c]) = 10 * decV l + (c.toNat - 48) := by unfold decV; rw [List.foldl_append]; rfl
theorem cut_len (s : List UInt8) : (Lib.cut s [46]).1.length ≤ s.length := by
  unfold Lib.cut
  split
  · simp only [List.length_take]; omega
  · simp
theorem digB_val {c : UInt8} (h : digB c = true) : 48 ≤ c.toNat ∧ c.toNat ≤ 57 := by unfold digB at h; exact of_decide_eq_true h
theorem decV_lt : ∀ (l : List UInt8), l.all digB = true → decV l < 10 ^ l.length := by
  have key : ∀ (l : List UInt8) (a n : Nat), a < 10 ^ n → l.all digB = true → l.foldl (fun n c => 10 * n + (c.toNat - 48)) a < 10 ^ (n + l.length) := by
    intro l
    induction l with
    | nil => intro a n h _; simpa using h
    | cons c r ih =>
      intro a n h hd
      rw [List.all_cons, Bool.and_eq_true] at hd
      have hc := digB_val hd.1
      rw [List.foldl_cons, List.length_cons, show n + (r.length + 1) = (n + 1) + r.length by omega]
      exact ih _ _ (by rw [Nat.pow_succ]; omega) hd.2
  intro l h
  have := key l 0 0 (by simp) h
  unfold decV
  simpa using this
/-- where the point stands -/
theorem indexByte_app : ∀ (X P : List UInt8), (46 : UInt8) ∉ X → Lib.indexByte (X ++ 46 :: P) 46 = (X.length : Nat)
  | [], P, _ => by simp [Lib.indexByte]
  | c :: X, P, h => by
    have hc : (c == 46) = false := by simp; intro e; exact h (by simp [e])
    have ih := indexByte_app X P (fun e => h (by simp [e]))
    rw [List.cons_append, Lib.indexByte, hc, if_neg (by decide), ih]
    have : (((X.length : Nat) : Int) == -1) = false := beq_false_of_ne (by omega)
    rw [this, if_neg (by decide)]
    simp
theorem indexByte_none : ∀ (s : List UInt8), (46 : UInt8) ∉ s → Lib.indexByte s 46 = -1
  | [], _ => rfl
  | c :: s, h => by
    have hc : (c == 46) = false := by simp; intro e; exact h (by simp [e])
    rw [Lib.indexByte, hc, if_neg (by decide), indexByte_none s (fun e => h (by simp [e]))]
    rfl
theorem cut_app {X P : List UInt8} (h : (46 : UInt8) ∉ X) : Lib.cut (X ++ 46 :: P) [46] = (X, P, true) := by
  unfold Lib.cut
  rw [Lib.index_one, indexByte_app X P h, if_pos (by omega)]
  simp
theorem cut_no {s : List UInt8} (h : (46 : UInt8) ∉ s) : Lib.cut s [46] = (s, [], false) := by
  unfold Lib.cut
  rw [Lib.index_one, indexByte_none s h, if_neg (by decide)]
theorem cut_split : ∀ (s : List UInt8), ((46 : UInt8) ∉ s) ∨ ∃ X P, s = X ++ 46 :: P ∧ (46 : UInt8) ∉ X
  | [] => .inl (by simp)
  | c :: s => by
    by_cases hc : c = 46
    · exact .inr ⟨[], s, by simp [hc], by simp⟩
    · rcases cut_split s with h | ⟨X, P, h1, h2⟩
      · exact .inl (fun e => by rcases List.mem_cons.1 e with e | e; exact hc e.symm; exact h e)
      · exact .inr ⟨c :: X, P, by simp [h1], fun e => by rcases List.mem_cons.1 e with e | e; exact hc e.symm; exact h2 e⟩
theorem rp_point {s : List UInt8} (h : rpO s = true) : s = rpW s ++ 46 :: rpP s ∧ (46 : UInt8) ∉ rpW s := by
  rcases cut_split s with h1 | ⟨X, P, h1, h2⟩
  · unfold rpO at h; rw [cut_no h1] at h; cases h
  · have : rpW s = X ∧ rpP s = P := by unfold rpW rpP; rw [h1, cut_app h2]; exact ⟨rfl, rfl⟩
    rw [this.1, this.2]
    exact ⟨h1, h2⟩

/-! digits -/
def digC (d : Nat) : UInt8 := UInt8.ofNat (48 + d)
theorem digC_val {d : Nat} (h : d < 10) : (digC d).toNat = 48 + d := by unfold digC; rw [UInt8.toNat_ofNat']; omega
theorem digC_digB {d : Nat} (h : d < 10) : digB (digC d) = true := by unfold digB; rw [digC_val h]; exact decide_eq_true (by omega)
theorem digC_of {c : UInt8} (h : digB c = true) : digC (c.toNat - 48) = c := by
  have hc := digB_val h
  apply UInt8.toNat_inj.1
  rw [digC_val (by omega)]
  omega
/-- the lowest w digits -/
def dgw : Nat → Nat → List UInt8
  | 0, _ => []
  | w + 1, n => dgw w (n / 10) ++ [digC (n % 10)]
theorem dgw_length : ∀ (w n : Nat), (dgw w n).length = w
  | 0, n => rfl
  | w + 1, n => by rw [dgw, List.length_append, dgw_length]; rfl
theorem dgw_all : ∀ (w n : Nat), (dgw w n).all digB = true
  | 0, n => rfl
  | w + 1, n => by rw [dgw, List.all_append, dgw_all w]; simp [digC_digB (Nat.mod_lt n (by decide : 10 > 0))]
theorem decV_dgw (X : List UInt8) : ∀ (w n : Nat), decV (X ++ dgw w n) = decV X * 10 ^ w + n % 10 ^ w
  | 0, n => by simp [dgw, Nat.mod_one]
  | w + 1, n => by
    rw [dgw, ← List.append_assoc, decV_succ, decV_dgw X w (n / 10), digC_val (Nat.mod_lt n (by decide : 10 > 0)), Nat.pow_succ]
    have h1 := Nat.mod_mul (a := 10) (b := 10 ^ w) (x := n)
    rw [Nat.mul_comm (10 ^ w) 10, h1]
    generalize decV X = v at *
    generalize (n / 10) % 10 ^ w = z at *
    rw [Nat.mul_left_comm]
    generalize v * 10 ^ w = u at *
    omega
theorem dgw_mod : ∀ (w n : Nat), dgw w (n % 10 ^ w) = dgw w n
  | 0, n => rfl
  | w + 1, n => by
    rw [dgw, dgw, Nat.pow_succ, Nat.mul_comm (10 ^ w) 10, Nat.mod_mul_right_mod]
    congr 1
    rw [Nat.mod_mul_right_div_self]
    exact dgw_mod w (n / 10)
theorem decDigits_small {n : Nat} (h : n < 10) : Lib.decDigits n = [digC n] := by rw [Lib.decDigits, dif_pos h]; rfl
theorem decDigits_big {n : Nat} (h : ¬ n < 10) : Lib.decDigits n = Lib.decDigits (n / 10) ++ [digC (n % 10)] := by rw [Lib.decDigits, dif_neg h]; rfl
theorem decDigits_all (n : Nat) : (Lib.decDigits n).all digB = true := by
  induction n using Nat.strongRecOn with
  | _ n ih =>
    by_cases h : n < 10
    · rw [decDigits_small h]; simp [digC_digB h]
    · rw [decDigits_big h, List.all_append, ih (n / 10) (by omega)]; simp [digC_digB (Nat.mod_lt n (by decide : 10 > 0))]
theorem decV_decDigits (n : Nat) : decV (Lib.decDigits n) = n := by
  induction n using Nat.strongRecOn with
  | _ n ih =>
    by_cases h : n < 10
    · rw [decDigits_small h]
      have := decV_succ [] (digC n)
      rw [List.nil_append, digC_val h] at this
      rw [this]
      simp [decV]
    · rw [decDigits_big h, decV_succ, ih (n / 10) (by omega), digC_val (Nat.mod_lt n (by decide : 10 > 0))]
      omega
theorem decDigits_ne (n : Nat) : Lib.decDigits n ≠ [] := by
  intro h
  have := Lib.decDigits_length n
  rw [h] at this
  have := Lib.nDigits_pos n
  simp at *
  omega
theorem decDigits_head {n : Nat} (h0 : 0 < n) : (Lib.decDigits n).head? ≠ some 48 := by
  induction n using Nat.strongRecOn with
  | _ n ih =>
    by_cases h : n < 10
    · rw [decDigits_small h]
      simp only [List.head?_cons]
      intro e
      injection e with e
      have := congrArg UInt8.toNat e
      rw [digC_val h] at this
      simp at this
      omega
    · rw [decDigits_big h, List.head?_append, Option.or_of_isSome]
      · exact ih (n / 10) (by omega) (by omega)
      · cases hd : Lib.decDigits (n / 10) with
        | nil => exact absurd hd (decDigits_ne _)
        | cons a l => rfl
theorem no_point {l : List UInt8} (h : l.all digB = true) : (46 : UInt8) ∉ l := by
  intro hm
  have := List.all_eq_true.1 h 46 hm
  revert this
  decide
theorem decV_pos : ∀ {l : List UInt8}, l ≠ [] → l.all digB = true → l.head? ≠ some 48 → 0 < decV l := by
  have key : ∀ (l : List UInt8) (a : Nat), 0 < a → 0 < l.foldl (fun n (c : UInt8) => 10 * n + (c.toNat - 48)) a := by
    intro l
    induction l with
    | nil => intro a h; exact h
    | cons c r ih => intro a h; exact ih (10 * a + (c.toNat - 48)) (by omega)
  intro l h1 h2 h3
  cases l with
  | nil => exact absurd rfl h1
  | cons c r =>
    rw [List.all_cons, Bool.and_eq_true] at h2
    have hc := digB_val h2.1
    have : c.toNat ≠ 48 := fun e => h3 (by simp; exact UInt8.toNat_inj.1 e)
    exact key r (10 * 0 + (c.toNat - 48)) (by omega)
/-- digits without a nought ahead are the number's own -/
theorem decDigits_own : ∀ (m : Nat) {l : List UInt8}, l.length = m → l ≠ [] → l.all digB = true → (l.head? ≠ some 48 ∨ l = [48]) → Lib.decDigits (decV l) = l
  | 0, l, hl, h1, _, _ => absurd (List.eq_nil_of_length_eq_zero hl) h1
  | m + 1, l, hl, h1, h2, h3 => by
    obtain ⟨l', c, rfl⟩ : ∃ l' c, l = l' ++ [c] := ⟨l.dropLast, l.getLast h1, (List.dropLast_concat_getLast h1).symm⟩
    rw [List.all_append, Bool.and_eq_true] at h2
    have hc : digB c = true := by simpa using h2.2
    have hcv := digB_val hc
    rw [decV_succ]
    by_cases hn : l' = []
    · subst hn
      rw [show 10 * decV [] + (c.toNat - 48) = c.toNat - 48 by simp [decV], decDigits_small (by omega), digC_of hc]
      rfl
    · have hh : l'.head? ≠ some 48 := by
        rcases h3 with h3 | h3
        · intro e; apply h3
          rw [List.head?_append, e]; rfl
        · exfalso
          have := congrArg List.length h3
          simp at this
          exact hn this
      have hp := decV_pos hn h2.1 hh
      rw [decDigits_big (by omega), show (10 * decV l' + (c.toNat - 48)) / 10 = decV l' by omega, show (10 * decV l' + (c.toNat - 48)) % 10 = c.toNat - 48 by omega, digC_of hc,
        decDigits_own m (by simp at hl; exact hl) hn h2.1 (.inl hh)]
theorem decV_split (X : List UInt8) : ∀ (w : Nat) {P : List UInt8}, P.length = w → P.all digB = true → decV (X ++ P) / 10 ^ w = decV X ∧ dgw w (decV (X ++ P)) = P
  | 0, P, hl, _ => by
    obtain rfl := List.eq_nil_of_length_eq_zero hl
    simp [dgw]
  | w + 1, P, hl, h2 => by
    have h1 : P ≠ [] := fun e => by rw [e] at hl; simp at hl
    obtain ⟨P', c, rfl⟩ : ∃ P' c, P = P' ++ [c] := ⟨P.dropLast, P.getLast h1, (List.dropLast_concat_getLast h1).symm⟩
    rw [List.all_append, Bool.and_eq_true] at h2
    have hc : digB c = true := by simpa using h2.2
    have hcv := digB_val hc
    have ih := decV_split X w (P := P') (by simp at hl; exact hl) h2.1
    rw [← List.append_assoc, decV_succ, Nat.pow_succ, Nat.mul_comm (10 ^ w) 10, ← Nat.div_div_eq_div_mul, show (10 * decV (X ++ P') + (c.toNat - 48)) / 10 = decV (X ++ P') by omega]
    refine ⟨ih.1, ?_⟩
    rw [dgw, show (10 * decV (X ++ P') + (c.toNat - 48)) / 10 = decV (X ++ P') by omega, show (10 * decV (X ++ P') + (c.toNat - 48)) % 10 = c.toNat - 48 by omega, digC_of hc, ih.2]

/-! the literal of a number -/
def litS (n k : Nat) : List UInt8 := Lib.decDigits (n / 10 ^ k) ++ 46 :: dgw k n
theorem nDigits_le {n w : Nat} (h : n < 10 ^ (w + 1)) : Lib.nDigits n ≤ w + 1 := by
  induction w generalizing n with
  | zero => rw [Lib.nDigits_small (by simpa using h)]; omega
  | succ w ih =>
    by_cases h1 : n < 10
    · rw [Lib.nDigits_small h1]; omega
    · rw [Lib.nDigits_big h1]
      have := ih (n := n / 10) (by rw [Nat.pow_succ] at h; omega)
      omega
theorem lit_cut (n k : Nat) : Lib.cut (litS n k) [46] = (Lib.decDigits (n / 10 ^ k), dgw k n, true) := cut_app (no_point (decDigits_all _))
theorem lit_val (n k : Nat) : decV (Lib.decDigits (n / 10 ^ k) ++ dgw k n) = n := by
  rw [decV_dgw, decV_decDigits]
  have := Nat.div_add_mod n (10 ^ k)
  rw [Nat.mul_comm]
  exact this
theorem lit_ok {n k : Nat} (hn : n < 1000000000000000) (h1 : 1 ≤ k) (h6 : k ≤ 6) : rpOk (litS n k) = true := by
  unfold rpOk rpO rpW rpP
  rw [lit_cut, List.all_append, decDigits_all, dgw_all]
  have hd : Lib.nDigits (n / 10 ^ k) ≤ 14 - k + 1 := nDigits_le ((Nat.div_lt_iff_lt_mul (Nat.pos_of_ne_zero (by simp))).2 (by
    rw [← Nat.pow_add, show 14 - k + 1 + k = 15 by omega]; exact hn))
  have : fmtB true (Lib.decDigits (n / 10 ^ k)) (dgw k n) = true := by
    unfold fmtB
    refine decide_eq_true ⟨rfl, decDigits_ne _, ?_, by rw [dgw_length]; exact h6, by rw [Lib.decDigits_length, dgw_length]; omega, ?_⟩
    · intro e
      have := dgw_length k n
      rw [e] at this
      simp at this
      omega
    · rintro ⟨e1, e2⟩
      rcases Nat.eq_zero_or_pos (n / 10 ^ k) with h0 | h0
      · rw [h0, decDigits_small (by omega)] at e2
        exact e2 rfl
      · exact decDigits_head h0 e1
  rw [this]; rfl
theorem lit_parse {n k : Nat} (hn : n < 1000000000000000) (h1 : 1 ≤ k) (h6 : k ≤ 6) : rpB (litS n k) = quoW n k ∧ rpF (litS n k) = 0 := by
  unfold rpB rpF
  rw [if_pos (lit_ok hn h1 h6), if_pos (lit_ok hn h1 h6)]
  unfold rpW rpP
  rw [lit_cut]
  simp only [lit_val, dgw_length]
  exact ⟨rfl, trivial⟩
theorem lit_bad {n k : Nat} (hn : 1000000000000000 ≤ n) (h6 : k ≤ 6) : rpB (litS n k) = 0 ∧ rpF (litS n k) = 4 := by
  apply rp_bad
  unfold rpOk rpO rpW rpP
  rw [lit_cut, Bool.and_eq_false_iff]
  left
  unfold fmtB
  refine decide_eq_false (fun h => ?_)
  have h5 := h.2.2.2.2.1
  rw [Lib.decDigits_length, dgw_length] at h5
  have := Lib.lt_pow_nDigits (n / 10 ^ k)
  have h7 : n < 10 ^ (Lib.nDigits (n / 10 ^ k) + k) := by
    rw [Nat.pow_add]
    exact (Nat.div_lt_iff_lt_mul (Nat.pos_of_ne_zero (by simp))).1 this
  have h8 : 10 ^ (Lib.nDigits (n / 10 ^ k) + k) ≤ 10 ^ 15 := Nat.pow_le_pow_right (by omega) h5
  have : (10 : Nat) ^ 15 = 1000000000000000 := by decide
  omega
/-- what is read is the literal of its number -/
theorem ok_lit {s : List UInt8} (h : rpOk s = true) : ∃ n k, s = litS n k ∧ n < 1000000000000000 ∧ 1 ≤ k ∧ k ≤ 6 ∧ rpB s = quoW n k := by
  have h0 := h
  unfold rpOk at h
  rw [Bool.and_eq_true] at h
  obtain ⟨h1, h2⟩ := h
  unfold fmtB at h1
  obtain ⟨o1, o2, o3, o4, o5, o6⟩ := of_decide_eq_true h1
  obtain ⟨hp, hnp⟩ := rp_point o1
  have ha := h2
  rw [List.all_append, Bool.and_eq_true] at h2
  have hs := decV_split (rpW s) (rpP s).length rfl h2.2
  have hX := decDigits_own (rpW s).length rfl o2 h2.1 (by
    by_cases e : (rpW s).head? = some 48
    · right
      exact Classical.byContradiction fun e2 => o6 ⟨e, e2⟩
    · exact .inl e)
  have hk1 : 1 ≤ (rpP s).length := by
    rcases Nat.eq_zero_or_pos (rpP s).length with e | e
    · exact absurd (List.eq_nil_of_length_eq_zero e) o3
    · exact e
  have hlt := decV_lt _ ha
  rw [List.length_append] at hlt
  have hn : decV (rpW s ++ rpP s) < 1000000000000000 := Nat.lt_of_lt_of_le hlt (by
    have := Nat.pow_le_pow_right (n := 10) (by omega) o5
    exact this)
  refine ⟨decV (rpW s ++ rpP s), (rpP s).length, ?_, hn, hk1, o4, ?_⟩
  · unfold litS
    rw [hs.1, hs.2, hX]
    exact hp
  · unfold rpB
    rw [if_pos h0]
    rfl
theorem lit_inj {n m k l : Nat} (h : litS n k = litS m l) : n = m ∧ k = l := by
  have e1 := lit_cut n k
  have e2 := lit_cut m l
  rw [h, e2] at e1
  injection e1 with a1 a2
  injection a2 with a2 _
  have hl := congrArg List.length a2
  rw [dgw_length, dgw_length] at hl
  refine ⟨?_, hl.symm⟩
  rw [← lit_val n k, ← lit_val m l, a1, a2]
theorem lit_len (n k : Nat) : (litS n k).length = Lib.nDigits (n / 10 ^ k) + 1 + k := by
  unfold litS
  rw [List.length_append, List.length_cons, Lib.decDigits_length, dgw_length]
  omega
/-- the digits, with noughts ahead, cut at the point -/
theorem pad_lit : ∀ (k n : Nat), List.replicate (k + 1 - Lib.nDigits n) 48 ++ Lib.decDigits n = Lib.decDigits (n / 10 ^ k) ++ dgw k n
  | 0, n => by
    have := Lib.nDigits_pos n
    rw [show 0 + 1 - Lib.nDigits n = 0 by omega]
    simp [dgw]
  | k + 1, n => by
    rw [dgw, ← List.append_assoc, Nat.pow_succ, Nat.mul_comm (10 ^ k) 10, ← Nat.div_div_eq_div_mul, ← pad_lit k (n / 10)]
    by_cases h : n < 10
    · rw [Lib.nDigits_small h, decDigits_small h, show n / 10 = 0 by omega, Lib.nDigits_small (by omega), decDigits_small (by omega), Nat.mod_eq_of_lt h, show k + 1 + 1 - 1 = k + 1 by omega, show k + 1 - 1 = k by omega, List.replicate_succ']
      rfl
    · rw [Lib.nDigits_big h, decDigits_big h, show k + 1 + 1 - (Lib.nDigits (n / 10) + 1) = k + 1 - Lib.nDigits (n / 10) by omega, List.append_assoc]
theorem dgw_nDigits (n : Nat) : dgw (Lib.nDigits n) n = Lib.decDigits n := by
  induction n using Nat.strongRecOn with
  | _ n ih =>
    by_cases h : n < 10
    · rw [Lib.nDigits_small h, decDigits_small h, dgw, dgw, Nat.mod_eq_of_lt h]; rfl
    · rw [Lib.nDigits_big h, decDigits_big h, dgw, ih (n / 10) (by omega)]
end Go.As
