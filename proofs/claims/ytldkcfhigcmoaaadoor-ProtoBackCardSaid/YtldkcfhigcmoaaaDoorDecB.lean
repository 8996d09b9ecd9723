/- What Dec answers, the program's and the document's; the library's table. Conditions: those in each theorem. -/
import Derived.Test.YtldkcfhigcmoaaaDoorDecA
import Derived.Test.YtldkcfhigcmoaaaDoorShelf
import Derived.LaidSub
import Derived.Sort.Grow
import Derived.Lib.ItoaLen
namespace Go.Proofs.YtldkcfhigcmoaaaDoor
open Go.RowKit Go.As
set_option linter.unusedVariables false

/-- strconv's table of powers lies as its initialiser lays it -/
def Tab (W : World) : Prop := Lib.TabIs Tryd.prog W "internal/strconv.uint64pow10" .u64 Lib.pow10Tab
theorem Tab.below {w w' : World} (h : Tab w) (hb : Below w.heap.size w w') : Tab w' := by
  unfold Tab Lib.TabIs World.var? at *
  cases hg : Tryd.prog.globalNamed "internal/strconv.uint64pow10" with
  | none => simp [hg] at h
  | some g =>
    simp only [hg, Option.bind_some] at h ⊢
    have hlt : g < w.heap.size := by
      rcases Nat.lt_or_ge g w.heap.size with h' | h'
      · exact h'
      · rw [Array.getElem?_eq_none h'] at h; simp at h
    rw [hb.block g hlt]
    exact h
theorem Tab.drew {w : World} (h : Tab w) : Tab w.drew := h
theorem tab_of_laid {laid : List (String × DataW Unit)} {W : World} (hl : laid.filter (fun x => x.1 == "internal/strconv.uint64pow10") = [("internal/strconv.uint64pow10", Lib.tabData .u64 Lib.pow10Tab)]) (h : laidMetH Tryd.prog laid W) : Tab W := by
  have h2 := h.filter (fun x => x.1 == "internal/strconv.uint64pow10")
  rw [hl] at h2
  have h2 : laidMet Tryd.prog [("internal/strconv.uint64pow10", Lib.tabData .u64 Lib.pow10Tab)] W := h2
  exact Lib.tabIs_of_head (P := Tryd.prog) (g := 1) (t := 130) (e := 22) (n := 20) (by kernel_rfl) (by kernel_rfl) Tryd.underlying130 Tryd.underlying22 (by kernel_rfl) (by kernel_rfl) h2

theorem itoa_len {n : Int} (h0 : -9223372036854775808 ≤ n) (h1 : n ≤ 9223372036854775807) : (Lib.itoa n).length ≤ 21 := Lib.itoa_length_le n h0 h1

theorem below_growK (w : World) (k : Nat) (os : Array Obj) : Below w.heap.size w (Go.Sort.grow (w.drewN k) os) :=
  ⟨rfl, rfl, rfl, by simp [Go.Sort.grow, World.drewN], fun i hi => by
    simp only [Go.Sort.grow, World.drewN]
    exact Array.getElem?_append_left hi⟩
set_option maxRecDepth 100000 in
theorem odec_any (n : Int) (h0 : -9223372036854775808 ≤ n) (h1 : n ≤ 9223372036854775807) (w : World) (ht : Tab w) :
    Calls Tryd.prog 22 #[.int .i64 n] w fun e w' => e = .returned (.string (str (Lib.itoa n))) ∧ Below w.heap.size w w' := by
  have HT := Lib.hid ht
  clear ht
  go_enter Tryd.func22, Tryd.ntmps22
  go_wp2_with (first
    | (go_at_call 59
       refine (Tryd.strconv_Itoa n h0 h1 _ HT.out).mono ?_
       rintro e w1 ⟨rfl, k, os, rfl⟩))
  go_ret
  exact ⟨rfl, below_growK _ _ _⟩

theorem run_dec1 (i : Int) (j : Nat) (hij : i = j) (hj : j < 10) (W : World) : (Instr.slice 9 (.string (str [48, 49, 50, 51, 52, 53, 54, 55, 56, 57])) (some (.int .i64 i)) (some (.int .i64 (i + 1))) none).run Tryd.prog W = .ok (.string (str [UInt8.ofNat (48 + j)])) W := by
  subst hij
  rw [run_slice_string W 9 (str [48, 49, 50, 51, 52, 53, 54, 55, 56, 57]) .i64 .i64 (j : Int) ((j : Int) + 1) Tryd.underlying9 (by omega) (by omega) (by rw [str_size]; simp; omega)]
  rw [str_extract]
  have e1 : ((j : Int)).toNat = j := by omega
  have e2 : ((j : Int) + 1).toNat = j + 1 := by omega
  rw [e1, e2]
  have key : ∀ j : Fin 10, (([48, 49, 50, 51, 52, 53, 54, 55, 56, 57] : List UInt8).drop j.val).take (j.val + 1 - j.val) = [UInt8.ofNat (48 + j.val)] := by decide
  rw [key ⟨j, hj⟩]
theorem dec_big {m : Nat} (h : ¬ m < 10) : Lib.decDigits m = Lib.decDigits (m / 10) ++ [UInt8.ofNat (48 + m % 10)] := by
  rw [Lib.decDigits, dif_neg h]
/-- what is left of a number, ahead of the digits that are told -/
def decA (m : Nat) : List UInt8 := if m = 0 then [] else Lib.decDigits m
theorem decA_step {m : Nat} (h : m ≠ 0) : decA m = decA (m / 10) ++ [UInt8.ofNat (48 + m % 10)] := by
  unfold decA
  rw [if_neg h]
  by_cases h10 : m < 10
  · rw [if_pos (by omega), Lib.decDigits_one h10, Nat.mod_eq_of_lt h10]; rfl
  · rw [if_neg (by omega), dec_big h10]

set_option maxRecDepth 100000 in
set_option maxHeartbeats 1600000 in
theorem rdec_any (n : Int) (h0 : -9223372036854775808 ≤ n) (h1 : n ≤ 9223372036854775807) (w : World) :
    Calls Tryd.prog 23 #[.int .i64 n] w fun e w' => e = .returned (.string (str (Lib.itoa n))) ∧ w = w' := by
  have hlen := itoa_len h0 h1
  by_cases hneg : n < 0
  · obtain ⟨N, rfl⟩ : ∃ N : Nat, n = -(N : Int) := ⟨n.natAbs, by omega⟩
    have hI : Lib.itoa (-(N : Int)) = 45 :: decA N := by
      unfold Lib.itoa decA
      rw [if_pos hneg, if_neg (by omega), Int.natAbs_neg, Int.natAbs_natCast]
    rw [hI] at hlen ⊢
    simp only [List.length_cons] at hlen
    go_enter Tryd.func23, Tryd.ntmps23
    go_wp2_with fail
    go_loopw [0, 3] (fun nv sv wr => ∃ (m : Nat) (t : List UInt8), m ≤ N ∧ nv = .int .i64 (-(m : Int)) ∧ sv = .string (str t) ∧ decA m ++ t = decA N ∧ wr = w) (fun nv _ _ => (-(intOf nv)).toNat)
    case atStart => exact ⟨N, [], by omega, rfl, rfl, by simp, rfl⟩
    case round =>
      obtain ⟨m, t, hm, rfl, rfl, he, rfl⟩ := hrel
      have htl : t.length ≤ 21 := by
        have := congrArg List.length he
        rw [List.length_append] at this; omega
      by_cases hm0 : m = 0
      · subst hm0
        have HE := Lib.hid (show t = decA N by simpa [decA] using he)
        clear he
        go_wp2_with fail
        go_ret
        rw [HE.out]
        exact ⟨rfl, rfl⟩
      · have HE := Lib.hid (show decA (m / 10) ++ (UInt8.ofNat (48 + m % 10) :: t) = decA N by rw [← he, decA_step hm0]; simp)
        have hs1 := run_dec1 (m % 10 : Nat) (m % 10) rfl (by omega)
        have hd : (-(m : Int)).tmod 10 = -((m % 10 : Nat) : Int) := by rw [Int.neg_tmod, Int.tmod_eq_emod_of_nonneg (by omega)]; omega
        have hq : (-(m : Int)).tdiv 10 = -((m / 10 : Nat) : Int) := by rw [Int.neg_tdiv, Int.tdiv_eq_ediv_of_nonneg (by omega)]; omega
        have hmlt : m / 10 < m := by omega
        have hd10 : m % 10 < 10 := by omega
        clear he
        generalize UInt8.ofNat (48 + m % 10) = B at *
        generalize m % 10 = r at *
        generalize m / 10 = q at *
        have hw1 : IntKind.i64.wrap ((r : Int) + 1) = (r : Int) + 1 := by rw [IntKind.wrap_i64]; omega
        go_wp2_with fail
        go_roundw
        case rel => exact ⟨q, B :: t, by omega, by first | rfl | (congr 1; omega), by simp, HE.out, trivial⟩
        case measure => simp [intOf]; omega
  · obtain ⟨N, rfl⟩ : ∃ N : Nat, n = (N : Int) := ⟨n.toNat, by omega⟩
    have hI : Lib.itoa (N : Int) = Lib.decDigits N := by
      unfold Lib.itoa
      rw [if_neg hneg, Int.toNat_natCast]
    rw [hI] at hlen ⊢
    go_enter Tryd.func23, Tryd.ntmps23
    go_wp2_with fail
    go_loopw [0, 5] (fun nv sv wr => ∃ (m : Nat) (t : List UInt8), m ≤ N ∧ nv = .int .i64 (m : Int) ∧ sv = .string (str t) ∧ Lib.decDigits m ++ t = Lib.decDigits N ∧ wr = w) (fun nv _ _ => (intOf nv).toNat)
    case atStart => exact ⟨N, [], by omega, rfl, rfl, by simp, rfl⟩
    case round =>
      obtain ⟨m, t, hm, rfl, rfl, he, rfl⟩ := hrel
      have htl : t.length ≤ 21 := by
        have := congrArg List.length he
        rw [List.length_append] at this; omega
      by_cases h10 : m < 10
      · have HE := Lib.hid (show [UInt8.ofNat (48 + m)] ++ t = Lib.decDigits N by rw [← he, Lib.decDigits_one h10])
        have hs1 := run_dec1 (m : Nat) m rfl h10
        have hw1 : IntKind.i64.wrap ((m : Int) + 1) = (m : Int) + 1 := by rw [IntKind.wrap_i64]; omega
        clear he
        go_wp2_with fail
        go_ret
        rw [← HE.out]
        exact ⟨by simp, rfl⟩
      · have HE := Lib.hid (show Lib.decDigits (m / 10) ++ (UInt8.ofNat (48 + m % 10) :: t) = Lib.decDigits N by rw [← he, dec_big h10]; simp)
        have hs1 := run_dec1 (m % 10 : Nat) (m % 10) rfl (by omega)
        have hd : (m : Int).tmod 10 = ((m % 10 : Nat) : Int) := by rw [Int.tmod_eq_emod_of_nonneg (by omega)]; omega
        have hq : (m : Int).tdiv 10 = ((m / 10 : Nat) : Int) := by rw [Int.tdiv_eq_ediv_of_nonneg (by omega)]; omega
        have hd2 : (m : Int) % 10 = ((m % 10 : Nat) : Int) := by omega
        have hq2 : (m : Int) / 10 = ((m / 10 : Nat) : Int) := by omega
        have hmlt : m / 10 < m := by omega
        have hd10 : m % 10 < 10 := by omega
        clear he
        generalize UInt8.ofNat (48 + m % 10) = B at *
        generalize m % 10 = r at *
        generalize m / 10 = q at *
        have hw1 : IntKind.i64.wrap ((r : Int) + 1) = (r : Int) + 1 := by rw [IntKind.wrap_i64]; omega
        go_wp2_with fail
        go_roundw
        case rel => exact ⟨q, B :: t, by omega, by first | rfl | (congr 1; omega), by simp, HE.out, trivial⟩
        case measure => simp [intOf]; omega
end Go.Proofs.YtldkcfhigcmoaaaDoor
