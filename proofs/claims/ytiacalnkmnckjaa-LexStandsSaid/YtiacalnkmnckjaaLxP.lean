/- Plain laws on tokens: where they stand, and that joined by blanks they are the same. No conditions but those in each theorem. -/
import Derived.Test.YtiacalnkmnckjaaLxH
namespace Go.Proofs.Ytiacalnkmnckjaa
open Go.RowKit Go.As
set_option linter.unusedVariables false
set_option linter.unusedSimpArgs false

theorem skN_bet : ∀ (b : Bool) (r : List UInt8), betB b (r.take (skN b r)) = true
  | b, [] => by cases b <;> rfl
  | false, c :: r => by
    show betB false ((c :: r).take (if blkB (c.toNat : Int) then skN false r + 1 else if c.toNat = 35 then skN true r + 1 else 0)) = true
    by_cases hb : blkB (c.toNat : Int) = true
    · rw [if_pos hb, List.take_succ_cons]
      have ih := skN_bet false r
      unfold betB
      unfold blkB at hb
      have hb := of_decide_eq_true hb
      split
      · exact ih
      · split
        · omega
        · split
          · rename_i h; cases h
          · rw [if_pos (by omega)]
            exact ih
    · rw [if_neg hb]
      split
      · rename_i h35
        rw [List.take_succ_cons]
        have ih := skN_bet true r
        unfold betB
        rw [if_neg (by omega), if_pos h35]
        exact ih
      · rfl
  | true, c :: r => by
    show betB true ((c :: r).take (if offB (c.toNat : Int) then skN true r + 1 else skN false r + 1)) = true
    by_cases hb : offB (c.toNat : Int) = true
    · rw [if_pos hb, List.take_succ_cons]
      have ih := skN_bet true r
      unfold betB
      unfold offB at hb
      have hb := of_decide_eq_true hb
      rw [if_neg (by omega)]
      split
      · exact ih
      · rw [if_pos rfl]
        exact ih
    · rw [if_neg hb, List.take_succ_cons]
      have ih := skN_bet false r
      unfold betB
      unfold offB at hb
      have hb : ¬ (c.toNat : Int) ≠ 10 := fun h => hb (decide_eq_true h)
      rw [if_pos (by omega)]
      exact ih
/-- where tokens stand, from a place behind one on -/
def Chain (s : List UInt8) : Nat → List (Nat × TR) → Prop
  | at_, [] => at_ ≤ s.length ∧ betB false (s.drop at_) = true
  | at_, (k, R) :: l => at_ ≤ k ∧ k < s.length ∧ betB false ((s.drop at_).take (k - at_)) = true ∧ R = tokR (s.drop k) ∧ R.err = 0 ∧ Chain s (k + R.len) l
theorem drop_ne {s : List UInt8} {k : Nat} (h : k < s.length) : s.drop k ≠ [] := fun e => by
  have := congrArg List.length e
  rw [List.length_drop] at this
  simp at this
  omega
theorem lex_chain (s : List UInt8) : ∀ (f at_ : Nat) (l : List (Nat × TR)), at_ ≤ s.length → s.length < f + nxN s at_ → lexF s f (nxN s at_) = .ok l → Chain s at_ l
  | 0, at_, l, h1, h2, h => by
    have := nxN_le h1
    omega
  | f + 1, at_, l, h1, h2, h => by
    have hnx := nxN_le h1
    obtain ⟨k, hk⟩ : ∃ k, k = nxN s at_ := ⟨_, rfl⟩
    have hbet : betB false ((s.drop at_).take (k - at_)) = true := by
      rw [hk]
      unfold nxN
      rw [Nat.add_sub_cancel_left]
      exact skN_bet false _
    rw [← hk] at h h2 hnx
    unfold lexF at h
    split at h
    · rename_i hlt
      split at h
      · rename_i herr
        split at h
        · rename_i l' hl'
          injection h with h
          subst h
          have hlen := tok_len (drop_ne hlt) herr
          rw [List.length_drop] at hlen
          have hnx2 := nxN_le (s := s) (k := k + (tokR (s.drop k)).len) (by omega)
          exact ⟨hnx.1, hlt, hbet, rfl, herr, lex_chain s f _ l' (by omega) (by omega) hl'⟩
        · cases h
      · cases h
    · injection h with h
      subst h
      have hke : k = s.length := by omega
      refine ⟨h1, ?_⟩
      rw [hke, List.take_of_length_le (by rw [List.length_drop]; omega)] at hbet
      exact hbet

/-! a token again -/
theorem tw_again (p : UInt8 → Bool) (r : List UInt8) (c : UInt8) (q : List UInt8) (hc : p c = false) : (r.take (r.takeWhile p).length ++ c :: q).takeWhile p = r.takeWhile p := by
  rw [← List.prefix_iff_eq_take.1 (List.takeWhile_prefix (p := p) (l := r)), List.takeWhile_append_of_pos (fun a ha => List.all_eq_true.1 (List.all_takeWhile (p := p) (l := r)) a ha), List.takeWhile_cons]
  simp [hc]
theorem nmRun_again (r q : List UInt8) : nmRun (r.take (nmRun r) ++ 32 :: q) = nmRun r := by
  unfold nmRun
  rw [tw_again _ r 32 q (by decide)]
theorem dgN_again (r : List UInt8) (c : UInt8) (q : List UInt8) (hc : digI (c.toNat : Int) = false) : dgN (r.take (dgN r) ++ c :: q) = dgN r := by
  unfold dgN
  rw [tw_again _ r c q hc]
theorem getElem_app {r : List UInt8} {n : Nat} (h : n ≤ r.length) (c : UInt8) (q : List UInt8) : (r.take n ++ c :: q)[n]? = some c := by
  rw [List.getElem?_append_right (by rw [List.length_take]; omega), List.length_take, show n - min n r.length = 0 by omega]
  rfl
theorem drop_app {r : List UInt8} {n : Nat} (h : n ≤ r.length) (c : UInt8) (q : List UInt8) : (r.take n ++ c :: q).drop (n + 1) = q := by
  rw [List.drop_append, List.length_take, show n + 1 - min n r.length = 1 by omega, List.drop_eq_nil_of_le (by rw [List.length_take]; omega)]
  rfl
theorem take_mid (a x : List UInt8) (c : UInt8) (n : Nat) : (a ++ c :: x).take (a.length + 1 + n) = a ++ c :: x.take n := by
  rw [List.take_append, show a.length + 1 + n - a.length = n + 1 by omega, List.take_succ_cons, List.take_of_length_le (by omega)]
theorem num_again (r q : List UInt8) : nmLen (r.take (nmLen r) ++ 32 :: q) = nmLen r ∧ ptN (r.take (nmLen r) ++ 32 :: q) = ptN r := by
  have hd := dgN_le r
  obtain ⟨r', hr'⟩ : ∃ r', r' = r.take (nmLen r) ++ 32 :: q := ⟨_, rfl⟩
  rw [← hr']
  by_cases hp : ptN r = true
  · have hpt := hp
    unfold ptN at hpt
    rw [Bool.and_eq_true] at hpt
    obtain ⟨h1, h2⟩ := hpt
    have h1 := eq_of_beq h1
    have hlt := (List.getElem?_eq_some_iff.1 h1).1
    obtain ⟨x, hx⟩ : ∃ x, x = r.drop (dgN r + 1) := ⟨_, rfl⟩
    obtain ⟨a, ha⟩ : ∃ a, a = r.take (dgN r) := ⟨_, rfl⟩
    have hal : a.length = dgN r := by rw [ha, List.length_take]; omega
    have hx2 := dgN_le x
    have hn : nmLen r = dgN r + 1 + dgN x := by unfold nmLen; rw [if_pos hp, ← hx]
    have hr : r = a ++ 46 :: x := by
      have h3 := (List.getElem?_eq_some_iff.1 h1).2
      have h4 := (List.take_append_drop (dgN r) r).symm
      rw [List.drop_eq_getElem_cons hlt, h3, ← ha, ← hx] at h4
      exact h4
    have ht : r.take (nmLen r) = a ++ 46 :: x.take (dgN x) := by
      rw [hn, ← hal]
      have := take_mid a x 46 (dgN x)
      rw [← hr] at this
      exact this
    have e1 : r' = a ++ 46 :: (x.take (dgN x) ++ 32 :: q) := by rw [hr', ht, List.append_assoc]; rfl
    have e2 : dgN r' = dgN r := by rw [e1, ha]; exact dgN_again r 46 _ (by decide)
    have e3 : r'[dgN r]? = some 46 := by rw [e1, ha]; exact getElem_app hd 46 _
    have e4 : r'.drop (dgN r + 1) = x.take (dgN x) ++ 32 :: q := by rw [e1, ha]; exact drop_app hd 46 _
    have hx1 : 0 < dgN x := by
      cases hx' : x with
      | nil => rw [← hx, hx'] at h2; cases h2
      | cons a b =>
        rw [← hx, hx'] at h2
        have h2 : digI (a.toNat : Int) = true := by simpa using h2
        unfold dgN
        rw [List.takeWhile_cons, if_pos h2]
        simp
    have e5 : ptN r' = true := by
      unfold ptN
      rw [e2, e3, e4]
      cases hx' : x with
      | nil => rw [hx'] at hx1; cases hx1
      | cons a b =>
        rw [← hx, hx'] at h2
        rw [hx'] at hx1
        obtain ⟨m, hm⟩ : ∃ m, dgN (a :: b) = m + 1 := ⟨dgN (a :: b) - 1, by omega⟩
        rw [hm, List.take_succ_cons]
        simpa using h2
    refine ⟨?_, e5.trans hp.symm⟩
    have : nmLen r' = dgN r' + 1 + dgN (r'.drop (dgN r' + 1)) := by unfold nmLen; rw [if_pos e5]
    rw [this, e2, e4, dgN_again x 32 q (by decide), hn]
  · have hn : nmLen r = dgN r := by unfold nmLen; rw [if_neg hp]
    rw [hn] at hr'
    have e2 : dgN r' = dgN r := by rw [hr']; exact dgN_again r 32 _ (by decide)
    have e3 : r'[dgN r]? = some 32 := by rw [hr']; exact getElem_app hd 32 _
    have e5 : ptN r' = false := by
      unfold ptN
      rw [e2, e3]
      rfl
    refine ⟨?_, by rw [e5]; simpa using hp⟩
    have : nmLen r' = dgN r' := by unfold nmLen; rw [if_neg (by rw [e5]; decide)]
    rw [this, e2, hn]
theorem sign2_no (c : UInt8) (t : List UInt8) (h : signOf ((c :: t).take 2) c = 1) : signOf [c, 32] c = 1 := by
  unfold signOf at h
  unfold signOf
  have h6 : ∀ d e : UInt8, e ≠ 32 → ¬ (([c, 32] == [d, e]) = true) := fun d e he h => he (by
    have := eq_of_beq h
    injection this with _ this
    injection this with this _
    exact this.symm)
  rw [if_neg (h6 61 61 (by decide)), if_neg (h6 33 61 (by decide)), if_neg (h6 60 61 (by decide)), if_neg (h6 62 61 (by decide)), if_neg (h6 38 38 (by decide)), if_neg (h6 124 124 (by decide))]
  by_cases g6161 : (((c :: t).take 2) == [61, 61]) = true
  · rw [if_pos g6161] at h; cases h
  rw [if_neg g6161] at h
  by_cases g3361 : (((c :: t).take 2) == [33, 61]) = true
  · rw [if_pos g3361] at h; cases h
  rw [if_neg g3361] at h
  by_cases g6061 : (((c :: t).take 2) == [60, 61]) = true
  · rw [if_pos g6061] at h; cases h
  rw [if_neg g6061] at h
  by_cases g6261 : (((c :: t).take 2) == [62, 61]) = true
  · rw [if_pos g6261] at h; cases h
  rw [if_neg g6261] at h
  by_cases g3838 : (((c :: t).take 2) == [38, 38]) = true
  · rw [if_pos g3838] at h; cases h
  rw [if_neg g3838] at h
  by_cases g124124 : (((c :: t).take 2) == [124, 124]) = true
  · rw [if_pos g124124] at h; cases h
  rw [if_neg g124124] at h
  exact h
theorem sign_again (r q : List UInt8) (hs : signN r ≠ 0) : signN (r.take (signN r) ++ 32 :: q) = signN r := by
  cases r with
  | nil => exact absurd rfl hs
  | cons c t =>
    have h2 := signN_le (c :: t)
    have hl := signN_two (r := c :: t)
    have he : signN (c :: t) = 1 ∨ signN (c :: t) = 2 := by omega
    rcases he with h1 | h1
    · rw [h1]
      show signOf (([c] ++ 32 :: q).take 2) c = 1
      exact sign2_no c t h1
    · have := hl h1
      rw [h1]
      cases t with
      | nil => simp at this
      | cons d t =>
        show signOf (([c, d] ++ 32 :: q).take 2) c = 2
        exact h1
/-- a token in front of a blank is the same token -/
theorem tok_again {r : List UInt8} (hr : r ≠ []) (h : (tokR r).err = 0) (q : List UInt8) : tokR (r.take (tokR r).len ++ 32 :: q) = tokR r := by
  have hlen := tok_len hr h
  obtain ⟨n, hn⟩ : ∃ n, n = (tokR r).len := ⟨_, rfl⟩
  rw [← hn] at hlen ⊢
  cases r with
  | nil => exact absurd rfl hr
  | cons c t =>
    obtain ⟨m, rfl⟩ : ∃ m, n = m + 1 := ⟨n - 1, by omega⟩
    have e0 : tokR ((c :: t).take (m + 1) ++ 32 :: q) = tokC (c.toNat : Int) ((c :: t).take (m + 1) ++ 32 :: q) := rfl
    have e1 : tokR (c :: t) = tokC (c.toNat : Int) (c :: t) := rfl
    rw [e0, e1]
    rw [e1] at h hn
    unfold tokC at h hn ⊢
    by_cases hle : letB (c.toNat : Int) = true
    · rw [if_pos hle] at h hn ⊢
      rw [if_pos hle]
      by_cases h24 : 24 < nmRun (c :: t)
      · rw [if_pos h24] at h; cases h
      · rw [if_neg h24] at hn ⊢
        have hn : m + 1 = nmRun (c :: t) := hn
        rw [hn, nmRun_again, if_neg h24]
    · rw [if_neg hle] at h hn ⊢
      rw [if_neg hle]
      by_cases hdi : digI (c.toNat : Int) = true
      · rw [if_pos hdi] at h hn ⊢
        rw [if_pos hdi]
        by_cases hok : nmOk (c :: t) = true
        · rw [if_pos hok] at h hn ⊢
          by_cases hst : stopB (c :: t)[nmLen (c :: t)]? = true
          · rw [if_pos hst] at h; cases h
          · rw [if_neg hst] at hn ⊢
            have hn : m + 1 = nmLen (c :: t) := hn
            rw [hn]
            obtain ⟨a1, a2⟩ := num_again (c :: t) q
            have a3 : nmTxt ((c :: t).take (nmLen (c :: t)) ++ 32 :: q) = nmTxt (c :: t) := by
              unfold nmTxt
              rw [a1, List.take_append_of_le_length (by rw [List.length_take]; omega), List.take_take, Nat.min_self]
            have a4 : nmOk ((c :: t).take (nmLen (c :: t)) ++ 32 :: q) = nmOk (c :: t) := by unfold nmOk; rw [a2, a3]
            have a5 : nmK ((c :: t).take (nmLen (c :: t)) ++ 32 :: q) = nmK (c :: t) := by unfold nmK; rw [a2]
            have a6 : nmT ((c :: t).take (nmLen (c :: t)) ++ 32 :: q) = nmT (c :: t) := by unfold nmT; rw [a2, a3]
            have a7 : nmV ((c :: t).take (nmLen (c :: t)) ++ 32 :: q) = nmV (c :: t) := by unfold nmV; rw [a2, a3]
            rw [a4, if_pos hok, a1, getElem_app (by omega), if_neg (by decide), a5, a6, a7]
        · rw [if_neg hok] at h; cases h
      · rw [if_neg hdi] at h hn ⊢
        rw [if_neg hdi]
        by_cases hs : signN (c :: t) = 0
        · rw [if_pos hs] at h; cases h
        · rw [if_neg hs] at hn ⊢
          have hn : m + 1 = signN (c :: t) := hn
          rw [hn, sign_again _ _ hs, if_neg hs]
/-- a token's first byte is no blank and begins no comment -/
theorem tok_first {c : UInt8} {t : List UInt8} (h : (tokR (c :: t)).err = 0) : skN false (c :: t) = 0 := by
  show (if blkB (c.toNat : Int) then skN false t + 1 else if c.toNat = 35 then skN true t + 1 else 0) = 0
  have h : (tokC (c.toNat : Int) (c :: t)).err = 0 := h
  have key : ¬ ((c.toNat : Int) = 9 ∨ (c.toNat : Int) = 10 ∨ (c.toNat : Int) = 13 ∨ (c.toNat : Int) = 32 ∨ (c.toNat : Int) = 35) := by
    intro hc
    unfold tokC at h
    rw [if_neg (by unfold letB; simp; omega), if_neg (by unfold digI; simp; omega)] at h
    have : signN (c :: t) = 0 := by
      show signOf ((c :: t).take 2) c = 0
      have hcc : c = 9 ∨ c = 10 ∨ c = 13 ∨ c = 32 ∨ c = 35 := by
        have h5 : c.toNat = 9 ∨ c.toNat = 10 ∨ c.toNat = 13 ∨ c.toNat = 32 ∨ c.toNat = 35 := by omega
        rcases h5 with e | e | e | e | e
        · exact .inl (UInt8.toNat_inj.1 e)
        · exact .inr (.inl (UInt8.toNat_inj.1 e))
        · exact .inr (.inr (.inl (UInt8.toNat_inj.1 e)))
        · exact .inr (.inr (.inr (.inl (UInt8.toNat_inj.1 e))))
        · exact .inr (.inr (.inr (.inr (UInt8.toNat_inj.1 e))))
      have h2 : ∀ d e : UInt8, c ≠ d → ((c :: t).take 2 == [d, e]) = false := fun d e hd => by
        cases t <;> simp [hd]
      unfold signOf
      rcases hcc with rfl | rfl | rfl | rfl | rfl <;> simp [h2]
    rw [if_pos this] at h
    cases h
  rw [if_neg (by unfold blkB; simp; omega), if_neg (by omega)]
/-- the tokens' bytes, each with a blank behind it -/
def joinT (s : List UInt8) (l : List (Nat × TR)) : List UInt8 := l.flatMap fun p => (s.drop p.1).take p.2.len ++ [32]
/-- where they stand then -/
def relist : Nat → List (Nat × TR) → List (Nat × TR)
  | _, [] => []
  | p, (k, R) :: l => (p, R) :: relist (p + R.len + 1) l
theorem joinT_cons (s : List UInt8) (k : Nat) (R : TR) (l : List (Nat × TR)) : joinT s ((k, R) :: l) = (s.drop k).take R.len ++ 32 :: joinT s l := by
  unfold joinT
  rw [List.flatMap_cons, List.append_assoc]
  rfl
theorem tok_cons {s : List UInt8} {k : Nat} {R : TR} (hk : k < s.length) (hR : R = tokR (s.drop k)) (he : R.err = 0) : ∃ c t, (s.drop k).take R.len = c :: t ∧ t.length + 1 = R.len := by
  have hlen := tok_len (drop_ne hk) (hR ▸ he)
  rw [← hR] at hlen
  cases hT : (s.drop k).take R.len with
  | nil =>
    have := congrArg List.length hT
    rw [List.length_take] at this
    simp at this
    omega
  | cons c t =>
    refine ⟨c, t, rfl, ?_⟩
    have := congrArg List.length hT
    rw [List.length_take, List.length_cons] at this
    omega
/-- at a token's beginning nothing is skipped -/
theorem skip_none {s : List UInt8} {at_ : Nat} {l : List (Nat × TR)} (h : Chain s at_ l) : skN false (joinT s l) = 0 := by
  cases l with
  | nil => rfl
  | cons p l =>
    obtain ⟨k, R⟩ := p
    obtain ⟨_, hk, _, hR, he, _⟩ := h
    rw [joinT_cons]
    have := tok_again (drop_ne hk) (hR ▸ he) (joinT s l)
    rw [← hR] at this
    obtain ⟨c, t, hT, _⟩ := tok_cons hk hR he
    rw [hT] at this ⊢
    exact tok_first (by show (tokR (c :: (t ++ 32 :: joinT s l))).err = 0; rw [List.cons_append] at this; rw [this]; exact he)
theorem relex (s : List UInt8) : ∀ (l : List (Nat × TR)) (at_ f : Nat) (pre : List UInt8), Chain s at_ l → (pre ++ joinT s l).length < f + pre.length → lexF (pre ++ joinT s l) f pre.length = .ok (relist pre.length l)
  | [], at_, f, pre, h, hf => by
    cases f with
    | zero => rfl
    | succ f =>
      unfold lexF
      rw [if_neg (by show ¬ pre.length < (pre ++ []).length; simp)]
      rfl
  | (k, R) :: l, at_, f, pre, h, hf => by
    obtain ⟨h1, hk, h3, hR, he, hc⟩ := h
    obtain ⟨c, t, hT, hTl⟩ := tok_cons hk hR he
    have hJ : pre ++ joinT s ((k, R) :: l) = (pre ++ ((c :: t) ++ [32])) ++ joinT s l := by rw [joinT_cons, hT]; simp
    have hl : (pre ++ ((c :: t) ++ [32])).length = pre.length + R.len + 1 := by simp; omega
    obtain ⟨J, hJJ⟩ : ∃ J, J = pre ++ joinT s ((k, R) :: l) := ⟨_, rfl⟩
    have hJl : J.length = pre.length + R.len + 1 + (joinT s l).length := by rw [hJJ, hJ, List.length_append, hl]
    rw [← hJJ] at hf ⊢
    have hd : J.drop pre.length = (s.drop k).take R.len ++ 32 :: joinT s l := by rw [hJJ, List.drop_left, joinT_cons]
    have htok : tokR (J.drop pre.length) = R := by
      rw [hd]
      have := tok_again (drop_ne hk) (hR ▸ he) (joinT s l)
      rw [← hR] at this
      exact this
    have hskip := skip_none hc
    have hnx : nxN J (pre.length + R.len) = pre.length + R.len + 1 := by
      unfold nxN
      have : J.drop (pre.length + R.len) = 32 :: joinT s l := by
        rw [← List.drop_drop, hd, hT]
        have : (c :: t).length = R.len := by rw [List.length_cons]; exact hTl
        rw [← this, List.drop_left]
      rw [this]
      show _ + (skN false (joinT s l) + 1) = _
      rw [hskip]
    cases f with
    | zero => omega
    | succ f =>
      have ih := relex s l _ f (pre ++ ((c :: t) ++ [32])) hc (by rw [← hJ, ← hJJ, hl]; omega)
      rw [← hJ, ← hJJ, hl] at ih
      unfold lexF
      rw [if_pos (by omega), htok, if_pos he, hnx, ih]
      rfl
/-- joined by blanks the tokens are the same -/
theorem lex_joined {s : List UInt8} {at_ : Nat} {l : List (Nat × TR)} (h : Chain s at_ l) (hl : ¬ 16384 < (joinT s l).length) : lexS (joinT s l) = .ok (relist 0 l) := by
  unfold lexS
  rw [if_neg hl]
  have hn : nxN (joinT s l) 0 = 0 := by
    unfold nxN
    rw [List.drop_zero, skip_none h]
  rw [hn]
  have := relex s l at_ ((joinT s l).length + 1) [] h (by simp)
  simpa using this
end Go.Proofs.Ytiacalnkmnckjaa
