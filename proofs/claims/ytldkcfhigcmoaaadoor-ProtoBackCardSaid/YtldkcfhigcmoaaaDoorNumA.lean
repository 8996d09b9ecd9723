/- What Bytes, Fits, Number answer, the program's and the document's. Conditions: those in each theorem. -/
import Derived.Test.YtldkcfhigcmoaaaDoorReadS
namespace Go.Proofs.YtldkcfhigcmoaaaDoor
open Go.RowKit Go.As
set_option linter.unusedVariables false

theorem shr_nat (n k : Nat) (i : Int) (h : i = k) : (n : Int) / 2 ^ (8 * i).toNat = ((n / 256 ^ k : Nat) : Int) := by
  subst h
  have h2 : (256 : Nat) ^ k = 2 ^ (8 * k) := by rw [Nat.pow_mul]
  rw [show (8 * (k : Int)).toNat = 8 * k by omega, h2]
  simp
theorem shr_nat2 (n k : Nat) : (n : Int) / 2 ^ (8 * k) = ((n / 256 ^ k : Nat) : Int) := by
  have h2 : (256 : Nat) ^ k = 2 ^ (8 * k) := by rw [Nat.pow_mul]
  rw [h2]
  simp
/-- may a number have so many bytes? -/
def fitsN (n : Nat) (s : Int) : Bool := decide (1 ≤ s ∧ s ≤ 8 ∧ n < 256 ^ s.toNat)
/-- the error's number, and the bytes -/
def bytE (n : Nat) (s : Int) : Int × List UInt8 := if fitsN n s then (0, beL n s.toNat) else (2, [])
theorem bytE_no {n : Nat} {s : Int} (h : fitsN n s = false) : bytE n s = (2, []) := by simp [bytE, h]
theorem bytE_yes {n S : Nat} (h : fitsN n S = true) : bytE n S = (0, beL n S) := by simp [bytE, h]
theorem fits_div (n k : Nat) : n / 256 ^ k = 0 ↔ n < 256 ^ k := by
  rw [Nat.div_eq_zero_iff]
  have : 0 < 256 ^ k := Nat.pow_pos (by decide)
  omega

set_option maxRecDepth 100000 in
set_option maxHeartbeats 1600000 in
theorem rbytes_any (n s : Nat) (w : World) (hn : n < 18446744073709551616) (hs : s ≤ 8) :
    Calls Tryd.prog 25 #[.int .u64 n, .int .i64 s] w fun e w' => ∃ v rm, e = .returned v ∧ RowB w' w.heap.size 5 v (beL n s) rm ∧ Below w.heap.size w w' := by
  go_enter Tryd.func25, Tryd.ntmps25
  go_wp2_with fail
  go_loopw [5, 6] (fun ov i wr => ∃ (k : Nat) (out rm : List UInt8) (v : Value), k ≤ s ∧ out.length ≤ 8 ∧ i = .int .i64 ((k : Int) - 1) ∧ ov = v ∧ out ++ beL n k = beL n s ∧ RowB wr w.heap.size 5 v out rm ∧ Below w.heap.size w wr) (fun _ i _ => ((intOf i) + 1).toNat)
  case atStart => exact ⟨s, [], [], _, by omega, by simp, by go_num, rfl, rfl, RowB.nil _ _ _, Below.refl _ _⟩
  case round =>
    obtain ⟨k, out, rm, v, hk, hol, rfl, hv, hout, hrow, hbel⟩ := hrel
    have hv' := hv.symm
    subst hv'
    have HR := Lib.hid (And.intro hrow (And.intro hbel hout))
    have hsz := hbel.size
    clear hrow hbel hout
    cases k with
    | zero =>
      have he := HR.out.2.2
      simp only [beL, List.append_nil] at he
      go_wp2_with fail
      go_ret
      first | exact ⟨_, rfl, ⟨rm, by rw [← he]; exact HR.out.1⟩, HR.out.2.1⟩ | exact ⟨_, rm, rfl, by rw [← he]; exact HR.out.1, HR.out.2.1⟩
    | succ k =>
      have hq := shr_nat n k k rfl
      have hb1 := byte_wrap (n / 256 ^ k)
      have hb2 := byte_mod (n / 256 ^ k)
      have HE := Lib.hid (show out ++ [UInt8.ofNat (n / 256 ^ k)] ++ beL n k = beL n s by rw [← HR.out.2.2]; simp [beL])
      have hpe : (out ++ [UInt8.ofNat (n / 256 ^ k)]).length ≤ 8 := by
        have := congrArg List.length HE.out
        simp [beL_len] at this ⊢; omega
      generalize n / 256 ^ k = q at *
      generalize UInt8.ofNat q = B at *
      go_wp2_with (first
        | (at_builtin
           refine wpl_appB1 rfl _ _ _ rfl w.heap.size 5 Tryd.underlying23 byteInfo v out rm HR.out.1 rfl B _ rfl rfl (by omega) hsz ?_
           intro v5 rm5 w5 hown5 hg5 hs5
           have H5 := Lib.hid (And.intro hown5 (HR.out.2.1.grown hg5 hsz (fun j hj => (HR.out.1.lt j hj).1)))
           clear hown5 hg5 hs5))
      go_roundw
      case rel => exact ⟨k, out ++ [B], rm5, v5, by omega, hpe, by go_num, rfl, HE.out, H5.out.1, H5.out.2⟩
      case measure => simp [intOf] <;> omega

set_option maxRecDepth 100000 in
set_option maxHeartbeats 1600000 in
theorem rfits_any (n : Nat) (s : Int) (w : World) (hn : n < 18446744073709551616) (hs1 : -9223372036854775808 ≤ s) (hs2 : s ≤ 9223372036854775807) :
    Calls Tryd.prog 24 #[.int .u64 n, .int .i64 s] w fun e w' => e = .returned (.bool (fitsN n s)) ∧ w = w' := by
  by_cases h1 : s < 1
  · have HF := Lib.hid (show fitsN n s = false by unfold fitsN; simp; omega)
    go_enter Tryd.func24, Tryd.ntmps24
    go_wp2_with fail
    go_ret
    exact ⟨ret_bool (by rw [HF.out]), rfl⟩
  by_cases h2 : 8 < s
  · have HF := Lib.hid (show fitsN n s = false by unfold fitsN; simp; omega)
    go_enter Tryd.func24, Tryd.ntmps24
    go_wp2_with fail
    go_ret
    exact ⟨ret_bool (by rw [HF.out]), rfl⟩
  obtain ⟨S, rfl⟩ : ∃ S : Nat, s = S := ⟨s.toNat, by omega⟩
  by_cases h8 : S = 8
  · have HF := Lib.hid (show fitsN n S = true by unfold fitsN; subst h8; simp; omega)
    have hb : ((S : Int) == 8) = true := by simp; omega
    clear h8
    go_enter Tryd.func24, Tryd.ntmps24
    go_wp2_with fail
    go_ret
    exact ⟨ret_bool (by rw [HF.out]), rfl⟩
  · have hb : ((S : Int) == 8) = false := by simp; omega
    have HF := Lib.hid (show fitsN n S = decide (n / 256 ^ S = 0) by
      unfold fitsN
      rw [Int.toNat_natCast]
      exact decide_eq_decide.2 ⟨fun h => (fits_div n S).2 h.2.2, fun h => ⟨by omega, by omega, (fits_div n S).1 h⟩⟩)
    have hq := shr_nat n S S rfl
    have hq2 := shr_nat2 n S
    generalize n / 256 ^ S = q at *
    go_enter Tryd.func24, Tryd.ntmps24
    go_wp2_with fail
    all_goals
      go_ret
      exact ⟨ret_bool (by rw [HF.out]; first | rfl | (by_cases hq0 : q = 0 <;> simp [hq0]; done) | (by_cases hq0 : q = 0 <;> simp [hq0] <;> omega)), rfl⟩

set_option maxRecDepth 100000 in
set_option maxHeartbeats 1600000 in
theorem obytes_any (n : Nat) (s : Int) (w : World) (hn : n < 18446744073709551616) (hs1 : -9223372036854775808 ≤ s) (hs2 : s ≤ 9223372036854775807) :
    Calls Tryd.prog 14 #[.int .u64 n, .int .i64 s] w fun e w' => ∃ v rm, e = .returned (.tuple #[v, .int .i64 (bytE n s).1]) ∧ RowB w' w.heap.size 5 v (bytE n s).2 rm ∧ Below w.heap.size w w' := by
  by_cases h1 : s < 1
  · have HF := Lib.hid (bytE_no (n := n) (s := s) (by unfold fitsN; simp; omega))
    go_enter Tryd.func14, Tryd.ntmps14
    go_wp2_with fail
    go_ret2
    rw [HF.out]
    first | exact ⟨_, rfl, ⟨[], RowB.nil _ _ _⟩, Below.refl _ _⟩ | exact ⟨_, [], rfl, RowB.nil _ _ _, Below.refl _ _⟩
  by_cases h2 : 8 < s
  · have HF := Lib.hid (bytE_no (n := n) (s := s) (by unfold fitsN; simp; omega))
    go_enter Tryd.func14, Tryd.ntmps14
    go_wp2_with fail
    go_ret2
    rw [HF.out]
    first | exact ⟨_, rfl, ⟨[], RowB.nil _ _ _⟩, Below.refl _ _⟩ | exact ⟨_, [], rfl, RowB.nil _ _ _, Below.refl _ _⟩
  obtain ⟨S, rfl⟩ : ∃ S : Nat, s = S := ⟨s.toNat, by omega⟩
  have hs : S ≤ 8 := by omega
  have hw := n
  by_cases h8 : S = 8
  · have HF := Lib.hid (bytE_yes (n := n) (S := S) (by unfold fitsN; subst h8; simp; omega))
    have hlt : ¬ (S : Int) < 8 := by omega
    clear h8
    go_enter Tryd.func14, Tryd.ntmps14
    go_wp2_with fail
    go_loopw [6, 7] (fun ov i wr => ∃ (k : Nat) (out rm : List UInt8) (v : Value), k ≤ S ∧ out.length ≤ 8 ∧ i = .int .i64 ((k : Int) - 1) ∧ ov = v ∧ out ++ beL n k = beL n S ∧ RowB wr w.heap.size 5 v out rm ∧ Below w.heap.size w wr) (fun _ i _ => ((intOf i) + 1).toNat)
    case atStart => exact ⟨S, [], [], _, by omega, by simp, by go_num, rfl, rfl, RowB.nil _ _ _, Below.refl _ _⟩
    case round =>
      obtain ⟨k, out, rm, v, hk, hol, rfl, hv, hout, hrow, hbel⟩ := hrel
      have hv' := hv.symm
      subst hv'
      have HR := Lib.hid (And.intro hrow (And.intro hbel hout))
      have hsz := hbel.size
      clear hrow hbel hout
      cases k with
      | zero =>
        have he := HR.out.2.2
        simp only [beL, List.append_nil] at he
        go_wp2_with fail
        go_ret2
        rw [HF.out]
        first | exact ⟨_, rfl, ⟨rm, by show RowB _ _ _ _ (beL n S) _; rw [← he]; exact HR.out.1⟩, HR.out.2.1⟩ | exact ⟨_, rm, rfl, by show RowB _ _ _ _ (beL n S) _; rw [← he]; exact HR.out.1, HR.out.2.1⟩
      | succ k =>
        have hq := shr_nat n k k rfl
        have hb1 := byte_wrap (n / 256 ^ k)
        have hb2 := byte_mod (n / 256 ^ k)
        have HE := Lib.hid (show out ++ [UInt8.ofNat (n / 256 ^ k)] ++ beL n k = beL n S by rw [← HR.out.2.2]; simp [beL])
        have hpe : (out ++ [UInt8.ofNat (n / 256 ^ k)]).length ≤ 8 := by
          have := congrArg List.length HE.out
          simp [beL_len] at this ⊢; omega
        generalize n / 256 ^ k = q at *
        generalize UInt8.ofNat q = B at *
        go_wp2_with (first
          | (at_builtin
             refine wpl_appB1 rfl _ _ _ rfl w.heap.size 5 Tryd.underlying23 byteInfo v out rm HR.out.1 rfl B _ rfl rfl (by omega) hsz ?_
             intro v5 rm5 w5 hown5 hg5 hs5
             have H5 := Lib.hid (And.intro hown5 (HR.out.2.1.grown hg5 hsz (fun j hj => (HR.out.1.lt j hj).1)))
             clear hown5 hg5 hs5))
        go_roundw
        case rel => exact ⟨k, out ++ [B], rm5, v5, by omega, hpe, by go_num, rfl, HE.out, H5.out.1, H5.out.2⟩
        case measure => simp [intOf] <;> omega
  · have hlt : (S : Int) < 8 := by omega
    have hq := shr_nat n S S rfl
    have hq2 := shr_nat2 n S
    by_cases hz : n / 256 ^ S = 0
    · have HF := Lib.hid (bytE_yes (n := n) (S := S) (by
        unfold fitsN
        rw [Int.toNat_natCast]
        exact decide_eq_true ⟨by omega, by omega, (fits_div n S).1 hz⟩))
      rw [hz] at hq hq2
      clear h8 hz
      go_enter Tryd.func14, Tryd.ntmps14
      go_wp2_with fail
      clear hq hq2
      go_loopw [6, 7] (fun ov i wr => ∃ (k : Nat) (out rm : List UInt8) (v : Value), k ≤ S ∧ out.length ≤ 8 ∧ i = .int .i64 ((k : Int) - 1) ∧ ov = v ∧ out ++ beL n k = beL n S ∧ RowB wr w.heap.size 5 v out rm ∧ Below w.heap.size w wr) (fun _ i _ => ((intOf i) + 1).toNat)
      case atStart => exact ⟨S, [], [], _, by omega, by simp, by go_num, rfl, rfl, RowB.nil _ _ _, Below.refl _ _⟩
      case round =>
        obtain ⟨k, out, rm, v, hk, hol, rfl, hv, hout, hrow, hbel⟩ := hrel
        have hv' := hv.symm
        subst hv'
        have HR := Lib.hid (And.intro hrow (And.intro hbel hout))
        have hsz := hbel.size
        clear hrow hbel hout
        cases k with
        | zero =>
          have he := HR.out.2.2
          simp only [beL, List.append_nil] at he
          go_wp2_with fail
          go_ret2
          rw [HF.out]
          first | exact ⟨_, rfl, ⟨rm, by show RowB _ _ _ _ (beL n S) _; rw [← he]; exact HR.out.1⟩, HR.out.2.1⟩ | exact ⟨_, rm, rfl, by show RowB _ _ _ _ (beL n S) _; rw [← he]; exact HR.out.1, HR.out.2.1⟩
        | succ k =>
          have hq := shr_nat n k k rfl
          have hb1 := byte_wrap (n / 256 ^ k)
          have hb2 := byte_mod (n / 256 ^ k)
          have HE := Lib.hid (show out ++ [UInt8.ofNat (n / 256 ^ k)] ++ beL n k = beL n S by rw [← HR.out.2.2]; simp [beL])
          have hpe : (out ++ [UInt8.ofNat (n / 256 ^ k)]).length ≤ 8 := by
            have := congrArg List.length HE.out
            simp [beL_len] at this ⊢; omega
          generalize n / 256 ^ k = q at *
          generalize UInt8.ofNat q = B at *
          go_wp2_with (first
            | (at_builtin
               refine wpl_appB1 rfl _ _ _ rfl w.heap.size 5 Tryd.underlying23 byteInfo v out rm HR.out.1 rfl B _ rfl rfl (by omega) hsz ?_
               intro v5 rm5 w5 hown5 hg5 hs5
               have H5 := Lib.hid (And.intro hown5 (HR.out.2.1.grown hg5 hsz (fun j hj => (HR.out.1.lt j hj).1)))
               clear hown5 hg5 hs5))
          go_roundw
          case rel => exact ⟨k, out ++ [B], rm5, v5, by omega, hpe, by go_num, rfl, HE.out, H5.out.1, H5.out.2⟩
          case measure => simp [intOf] <;> omega
    · have HF := Lib.hid (bytE_no (n := n) (s := S) (by
        unfold fitsN
        rw [Int.toNat_natCast]
        exact decide_eq_false (fun h => hz ((fits_div n S).2 h.2.2))))
      have hz2 : 0 < n / 256 ^ S := Nat.pos_of_ne_zero hz
      generalize n / 256 ^ S = q at *
      clear h8 hz
      go_enter Tryd.func14, Tryd.ntmps14
      go_wp2_with fail
      go_ret2
      rw [HF.out]
      first | exact ⟨_, rfl, ⟨[], RowB.nil _ _ _⟩, Below.refl _ _⟩ | exact ⟨_, [], rfl, RowB.nil _ _ _, Below.refl _ _⟩
end Go.Proofs.YtldkcfhigcmoaaaDoor
