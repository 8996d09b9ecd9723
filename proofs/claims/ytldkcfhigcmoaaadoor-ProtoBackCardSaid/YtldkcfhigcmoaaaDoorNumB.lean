/- What Number answers, the program's and the document's. Conditions: those in each theorem. -/
import Derived.Test.YtldkcfhigcmoaaaDoorNumA
namespace Go.Proofs.YtldkcfhigcmoaaaDoor
open Go.RowKit Go.As
set_option linter.unusedVariables false

theorem or_shift {x b : Nat} (hx : x < 72057594037927936) (hb : b < 256) : bits .or .u64 ((x : Int) * 256) (b : Int) = ((x * 256 + b : Nat) : Int) := by
  have : (x : Int) * 256 = ((x * 256 : Nat) : Int) := by omega
  rw [this, or_nat (by omega) (by omega)]
  have h := Nat.two_pow_add_eq_or_of_lt (i := 8) (b := b) (by omega) x
  rw [show x * 256 = 2 ^ 8 * x by omega, ← h]
set_option maxRecDepth 100000 in
set_option maxHeartbeats 1600000 in
theorem rnumber_any (A : Option Addr) (n c : Nat) (l : List UInt8) (w : World) (ha : Sl w 1 A n (byt l)) (hn : n ≤ 8) :
    Calls Tryd.prog 26 #[.slice A n c] w fun e w' => e = .returned (.int .u64 (numL l)) ∧ w = w' := by
  have hl : l.length = n := by have := ha.len1; simpa [byt] using this
  have HL := Lib.hid hl
  have HA := Lib.hid ha
  clear ha hl
  go_enter Tryd.func26, Tryd.ntmps26
  go_wp2_with fail
  go_loopw [3, 4] (fun nv iv wr => ∃ k : Nat, k ≤ n ∧ nv = .int .u64 (numL (l.take k)) ∧ iv = .int .i64 k ∧ wr = w) (fun _ iv _ => n - (intOf iv).toNat)
  case atStart => exact ⟨0, by omega, by simp [numL, numF], rfl, rfl⟩
  case round =>
    obtain ⟨k, hk, rfl, rfl, rfl⟩ := hrel
    by_cases hlt : k < n
    · obtain ⟨ad, u, hA, -, hu, hca⟩ := HA.out.at1 hlt
      obtain ⟨b, hb, rfl⟩ := byt_get hu
      subst hA
      have hbl := b.toNat_lt
      have HN := Lib.hid (num_step (l := l) (b := b) (k := k) hb)
      have hvl := num_lt7 (l := l) (k := k) (by omega)
      clear hu hb
      generalize numL (l.take k) = X at *
      have e1 : ((X : Int) * 256 + (b.toNat : Int)) % 18446744073709551616 = ((X * 256 + b.toNat : Nat) : Int) := by omega
      go_wp2_with fail
      go_roundw
      case rel => exact ⟨k + 1, by omega, by rw [HN.out]; first | rfl | (rw [e1]; rfl) | (rw [← e1]; rfl), by go_num, trivial⟩
      case measure => simp [intOf]; omega
    · have HE := Lib.hid (show l.take k = l from List.take_of_length_le (by rw [HL.out]; omega))
      go_wp2_with fail
      go_ret
      rw [HE.out]
      exact ⟨rfl, rfl⟩
set_option maxRecDepth 100000 in
set_option maxHeartbeats 1600000 in
theorem onumber_any (A : Option Addr) (n c : Nat) (l : List UInt8) (w : World) (ha : Sl w 1 A n (byt l)) (hn : n ≤ 8) (h0 : 0 < n) :
    Calls Tryd.prog 15 #[.slice A n c] w fun e w' => e = .returned (.tuple #[.int .u64 (numL l), .int .i64 0]) ∧ w = w' := by
  have hl : l.length = n := by have := ha.len1; simpa [byt] using this
  have HL := Lib.hid hl
  have HA := Lib.hid ha
  clear ha hl
  go_enter Tryd.func15, Tryd.ntmps15
  go_wp2_with fail
  go_loopw [4, 17] (fun nv iv wr => ∃ k : Nat, k ≤ n ∧ nv = .int .u64 (numL (l.take k)) ∧ iv = .int .i64 k ∧ wr = w) (fun _ iv _ => n - (intOf iv).toNat)
  case atStart => exact ⟨0, by omega, by simp [numL, numF], rfl, rfl⟩
  case round =>
    obtain ⟨k, hk, rfl, rfl, rfl⟩ := hrel
    by_cases hlt : k < n
    · obtain ⟨ad, u, hA, -, hu, hca⟩ := HA.out.at1 hlt
      obtain ⟨b, hb, rfl⟩ := byt_get hu
      subst hA
      have hbl := b.toNat_lt
      have HN := Lib.hid (num_step (l := l) (b := b) (k := k) hb)
      have hvl := num_lt7 (l := l) (k := k) (by omega)
      clear hu hb
      generalize numL (l.take k) = X at *
      have e2 : bits .or .u64 ((X : Int) * 256) (b.toNat : Int) = ((X * 256 + b.toNat : Nat) : Int) := or_shift (by omega) hbl
      have e3 : bits .or .u64 ((X : Int) * 256 % 18446744073709551616) (b.toNat : Int) = ((X * 256 + b.toNat : Nat) : Int) := by
        rw [show (X : Int) * 256 % 18446744073709551616 = (X : Int) * 256 by omega]; exact e2
      have e1 : ((X : Int) * 256 + (b.toNat : Int)) % 18446744073709551616 = ((X * 256 + b.toNat : Nat) : Int) := by omega
      go_wp2_with fail
      go_roundw
      case rel => exact ⟨k + 1, by omega, by rw [HN.out]; first | rfl | (rw [e1]; rfl) | (rw [← e1]; rfl), by go_num, trivial⟩
      case measure => simp [intOf]; omega
    · have HE := Lib.hid (show l.take k = l from List.take_of_length_le (by rw [HL.out]; omega))
      go_wp2_with fail
      go_ret2
      rw [HE.out]
      exact ⟨rfl, rfl⟩
set_option maxRecDepth 100000 in
theorem onumber_bad (A : Option Addr) (n c : Nat) (w : World) (hn : n < 1 ∨ 8 < n) (hm : n ≤ 9223372036854775807) :
    Calls Tryd.prog 15 #[.slice A n c] w fun e w' => e = .returned (.tuple #[.int .u64 0, .int .i64 4]) ∧ w = w' := by
  rcases hn with h | h
  · go_enter Tryd.func15, Tryd.ntmps15
    go_wp2_with fail
    go_ret2
    exact ⟨rfl, rfl⟩
  · have h1 : ¬ n < 1 := by omega
    go_enter Tryd.func15, Tryd.ntmps15
    go_wp2_with fail
    go_ret2
    exact ⟨rfl, rfl⟩
end Go.Proofs.YtldkcfhigcmoaaaDoor
