/- The plain side of ProtoJobs: a job that may be is read of its line, and the line of what is read is the line. Conditions: those in each theorem. -/
import Derived.Test.YtldkcfhigcmoaaaDoorProtoM
import Derived.Test.YtldkcfhigcmoaaaDoorDecQ
namespace Go.Proofs.YtldkcfhigcmoaaaDoor
open Go.RowKit Go.As
set_option linter.unusedVariables false

theorem rdE_itoa {n most : Int} (h0 : 0 ≤ n) (h1 : n ≤ most) (h2 : most ≤ 9223372036854775807) : rdE (Lib.itoa n) most = (n, 0) := by
  obtain ⟨N, rfl⟩ := Int.eq_ofNat_of_zero_le h0
  rw [itoa_nat]
  exact rdE_dec (by omega) h1
theorem okB_dg (u j : Nat) : okB (Lib.dg u j) = true := by
  unfold Lib.dg
  have h : ∀ k : Fin 10, okB (UInt8.ofNat (48 + k.val)) = true := by decide
  exact h ⟨u / 10 ^ j % 10, Nat.mod_lt _ (by omega)⟩
theorem okB_dec (u : Nat) : (Lib.decDigits u).all okB = true := by
  rw [Lib.decDigits_eq, List.all_eq_true]
  intro x hx
  obtain ⟨t, -, rfl⟩ := List.mem_map.1 hx
  exact okB_dg _ _
theorem okB_itoa (n : Int) : (Lib.itoa n).all okB = true := by
  unfold Lib.itoa
  split
  · rw [List.all_cons, okB_dec]; rfl
  · exact okB_dec _
theorem dec_ne (u : Nat) : Lib.decDigits u ≠ [] := by
  intro h
  have := Lib.decDigits_length u
  rw [h] at this
  have h2 := Lib.nDigits_pos u
  simp at this; omega
theorem itoa_ne (n : Int) : Lib.itoa n ≠ [] := by
  unfold Lib.itoa
  split
  · simp
  · exact dec_ne _
theorem stateL_ok (n : Int) : (stateL n).all okB = true ∧ stateL n ≠ [] := by
  unfold stateL
  repeat' split
  all_goals decide
theorem howT_ok (s n : Int) : (howT s n).all okB = true ∧ howT s n ≠ [] := by
  unfold howT
  split
  · unfold howL
    repeat' split
    all_goals decide
  · decide
theorem okB_join : ∀ (x : List UInt8) (xs : List (List UInt8)), (∀ y ∈ x :: xs, y.all okB = true) → (Lib.join (x :: xs) [32]).all okB = true
  | x, [], h => by rw [Lib.join_one]; exact h x (by simp)
  | x, y :: ys, h => by
    have e : Lib.join (x :: y :: ys) [32] = x ++ 32 :: Lib.join (y :: ys) [32] := by
      rw [Lib.join_cons, Lib.join_cons]
      simp [Lib.joinTail]
    rw [e, List.all_append, List.all_cons, h x (by simp), okB_join y ys (fun z hz => h z (by simp [hz]))]
    rfl
/-- the two words of a job's line -/
def isJW (word : List UInt8) : Prop := word = [74, 79, 66] ∨ word = [80, 82, 79, 71, 82, 69, 83, 83]
theorem words_job {word : List UInt8} (hw : isJW word) (a b c d e f g h : Int) : wordsE (jobL word a b c d e f g h) = (0, jobWs word a b c d e f g h) := by
  have h32 : (32 : UInt8) ∉ word := by rcases hw with rfl | rfl <;> decide
  have hok : word.all okB = true := by rcases hw with rfl | rfl <;> decide
  have hne : word ≠ [] := by rcases hw with rfl | rfl <;> simp
  have hsp := words_pick (s := jobL word a b c d e f g h) h32 rfl
  have hmem : ∀ y ∈ jobWs word a b c d e f g h, y.all okB = true ∧ y ≠ [] := by
    intro y hy
    unfold jobWs at hy
    simp only [List.mem_cons, List.not_mem_nil, or_false] at hy
    rcases hy with rfl | rfl | rfl | rfl | rfl | rfl | rfl | rfl | rfl
    · exact ⟨hok, hne⟩
    · exact ⟨okB_itoa _, itoa_ne _⟩
    · exact stateL_ok _
    · exact howT_ok _ _
    all_goals exact ⟨okB_itoa _, itoa_ne _⟩
  rw [wordsE_ok (by unfold jobL jobWs; exact okB_join _ _ (fun y hy => (hmem y hy).1)) (by rw [hsp]; exact fun y hy => (hmem y hy).2), hsp]
  rw [if_neg (by unfold jobWs; simp)]
def bndJ (a d e f g h : Int) : Prop := 1 ≤ a ∧ a ≤ 1073741824 ∧ 1 ≤ d ∧ d ≤ 1099511627776 ∧ 1 ≤ e ∧ e ≤ 1024 ∧ 0 ≤ f ∧ f ≤ 9223372036854775807 ∧ 0 ≤ g ∧ g ≤ 9223372036854775807 ∧ 0 ≤ h ∧ h ≤ 9223372036854775807
theorem rj_back {word : List UInt8} (hw : isJW word) {a b c d e f g h : Int} (hb : bndJ a d e f g h) (hok : okJ b c) :
    rjGood (jobL word a b c d e f g h) = true ∧ rjW (jobL word a b c d e f g h) = word ∧ rjJ (jobL word a b c d e f g h) = jobC a b c d e f g h := by
  obtain ⟨a1, a2, d1, d2, e1, e2, f1, f2, g1, g2, h1, h2⟩ := hb
  have hE := words_job hw a b c d e f g h
  generalize hL : jobL word a b c d e f g h = L at *
  have hJ : JWS L = jobWs word a b c d e f g h := by unfold JWS; rw [hE]
  have w0 : wd (JWS L) 0 = word := by rw [hJ]; rfl
  have w1 : wd (JWS L) 1 = Lib.itoa a := by rw [hJ]; rfl
  have w2 : wd (JWS L) 2 = stateL b := by rw [hJ]; rfl
  have w3 : wd (JWS L) 3 = howT b c := by rw [hJ]; rfl
  have w4 : wd (JWS L) 4 = Lib.itoa d := by rw [hJ]; rfl
  have w5 : wd (JWS L) 5 = Lib.itoa e := by rw [hJ]; rfl
  have w6 : wd (JWS L) 6 = Lib.itoa f := by rw [hJ]; rfl
  have w7 : wd (JWS L) 7 = Lib.itoa g := by rw [hJ]; rfl
  have w8 : wd (JWS L) 8 = Lib.itoa h := by rw [hJ]; rfl
  have x1 : rjX L 1 1073741824 = a := by unfold rjX; rw [w1, rdE_itoa (by omega) a2 (by omega)]
  have x4 : rjX L 4 1099511627776 = d := by unfold rjX; rw [w4, rdE_itoa (by omega) d2 (by omega)]
  have x5 : rjX L 5 1024 = e := by unfold rjX; rw [w5, rdE_itoa (by omega) e2 (by omega)]
  have x6 : rjX L 6 9223372036854775807 = f := by unfold rjX; rw [w6, rdE_itoa f1 f2 (by omega)]
  have x7 : rjX L 7 9223372036854775807 = g := by unfold rjX; rw [w7, rdE_itoa g1 g2 (by omega)]
  have x8 : rjX L 8 9223372036854775807 = h := by unfold rjX; rw [w8, rdE_itoa h1 h2 (by omega)]
  have sS : rjS L = b := by unfold rjS; rw [w2]; exact stIx_state (okJ_range hok).1 (okJ_range hok).2
  have sH : rjH L = c := by unfold rjH; rw [w3]; exact hoIx_how hok
  have hln : rjLine L b c = L := by unfold rjLine; rw [w0, x1, x4, x5, x6, x7, x8]; exact hL
  have gH : rjHead L = true := by
    unfold rjHead
    exact decide_eq_true ⟨by rw [hE], by rw [hJ]; rfl, by rw [w0]; exact hw⟩
  have gN : rjNums L = true := by
    unfold rjNums rjNum numOk
    rw [w1, w4, w5, w6, w7, w8, rdE_itoa (by omega) a2 (by omega), rdE_itoa (by omega) d2 (by omega), rdE_itoa (by omega) e2 (by omega), rdE_itoa f1 f2 (by omega), rdE_itoa g1 g2 (by omega), rdE_itoa h1 h2 (by omega)]
    simp [a1, d1, e1, f1, g1, h1]
  have gF : rjFit L = true := by
    unfold rjFit
    rw [sS, sH]
    refine decide_eq_true ⟨(okJ_range hok).1, fun e => ?_, fun e => ?_, hln⟩ <;> unfold okJ at hok <;> omega
  have gG : rjGood L = true := by unfold rjGood; rw [gH, gN, gF]; rfl
  obtain ⟨r1, r2, r3⟩ := rj_good gG
  exact ⟨gG, by rw [r1, w0], by rw [r2, x1, x4, x5, x6, x7, x8, sS, sH]⟩
theorem jobC_inj {a b c d e f g h a' b' c' d' e' f' g' h' : Int} (hh : jobC a b c d e f g h = jobC a' b' c' d' e' f' g' h') : a = a' ∧ b = b' ∧ c = c' ∧ d = d' ∧ e = e' ∧ f = f' ∧ g = g' ∧ h = h' := by
  unfold jobC at hh
  simpa using hh
/-- the line of what is read is the line -/
theorem rj_line {s : List UInt8} (hg : rjGood s = true) {a b c d e f g h : Int} (hj : rjJ s = jobC a b c d e f g h) : jobL (rjW s) a b c d e f g h = s := by
  obtain ⟨r1, r2, -⟩ := rj_good hg
  rw [r2] at hj
  obtain ⟨rfl, rfl, rfl, rfl, rfl, rfl, rfl, rfl⟩ := jobC_inj hj
  rw [r1]
  have hf : rjFit s = true := by
    unfold rjGood at hg
    simp at hg
    exact hg.2
  exact (rjFit_ok hf).2
theorem jobL_short (word : List UInt8) (hw : word.length ≤ 8) (a b c d e f g h : Int) (ha : I64 a) (hd : I64 d) (he : I64 e) (hf : I64 f) (hg : I64 g) (hh : I64 h) : (jobL word a b c d e f g h).length ≤ 1048576 := by
  have q1 := itoa_len ha.1 ha.2
  have q2 := itoa_len hd.1 hd.2
  have q3 := itoa_len he.1 he.2
  have q4 := itoa_len hf.1 hf.2
  have q5 := itoa_len hg.1 hg.2
  have q6 := itoa_len hh.1 hh.2
  have q7 := stateL_len b
  have q8 := howT_len b c
  unfold jobL jobWs
  rw [Lib.join_cons]
  simp only [Lib.joinTail, List.map_cons, List.map_nil, List.flatten_cons, List.flatten_nil, List.length_append, List.length_cons, List.length_nil]
  omega
theorem rjW_len (s : List UInt8) : (rjW s).length ≤ s.length := by
  unfold rjW
  split
  · exact wd_len 0
  · simp
end Go.Proofs.YtldkcfhigcmoaaaDoor
