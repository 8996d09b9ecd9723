/- What the document's Hex answers. Conditions: those in each theorem. -/
import Derived.Test.YtldkcfhigcmoaaaOctH
namespace Go.Proofs.Ytldkcfhigcmoaaa
open Go.RowKit Go.As
set_option linter.unusedVariables false

theorem run_dig1 (i : Int) (j : Nat) (hij : i = j) (hj : j < 16) (W : World) : (Instr.slice 9 (.string (str [48, 49, 50, 51, 52, 53, 54, 55, 56, 57, 97, 98, 99, 100, 101, 102])) (some (.int .i64 i)) (some (.int .i64 (i + 1))) none).run Try.prog W = .ok (.string (str [hexC j])) W := by
  subst hij
  show (Instr.slice 9 (.string (str digs)) (some (.int .i64 (j : Int))) (some (.int .i64 ((j : Int) + 1))) none).run Try.prog W = _
  rw [run_slice_string W 9 (str digs) .i64 .i64 (j : Int) ((j : Int) + 1) Try.underlying9 (by omega) (by omega) (by rw [str_size]; simp [digs]; omega)]
  rw [str_extract]
  have e1 : ((j : Int)).toNat = j := by omega
  have e2 : ((j : Int) + 1).toNat = j + 1 := by omega
  rw [e1, e2]
  have key : ∀ j : Fin 16, (digs.drop j.val).take (j.val + 1 - j.val) = [hexC j.val] := by decide
  rw [key ⟨j, hj⟩]

set_option maxRecDepth 100000 in
set_option maxHeartbeats 1600000 in
theorem rhex_any (A : Option Addr) (n c : Nat) (l : List UInt8) (w : World) (ha : Sl w 1 A n (byt l)) (hn : n ≤ 1048576) :
    Calls Try.prog 9 #[.slice A n c] w fun e w' => e = .returned (.string (str (hexL l))) ∧ Below w.heap.size w w' := by
  have hl : l.length = n := by have := ha.len1; simpa [byt] using this
  have HA := Lib.hid ha
  clear ha
  go_enter Try.func9, Try.ntmps9
  go_wp2_with fail
  go_loopw [3, 4, 5, 6] (fun sv i _ _ wr => ∃ (k : Nat), k ≤ n ∧ i = .int .i64 k ∧ sv = .string (str (hexL (l.take k))) ∧ ∃ q, wr = w.drewN q) (fun _ i _ _ _ => n - (intOf i).toNat)
  case atStart => exact ⟨0, by omega, rfl, rfl, 0, rfl⟩
  case round =>
    obtain ⟨k, hk, rfl, rfl, q, rfl⟩ := hrel
    by_cases hlt : k < n
    · obtain ⟨ad, u, hA, -, hu, hc⟩ := HA.out.at1 hlt
      subst hA
      obtain ⟨x, hx, rfl⟩ := byt_get hu
      have HX := Lib.hid (hexL_succ hx)
      have hxl := x.toNat_lt
      have hol : (hexL (l.take k)).length ≤ 2097152 := by rw [hexL_len, List.length_take]; omega
      have hs1 := run_dig1 ((x.toNat : Int) / 16) (x.toNat / 16) (by omega) (by omega)
      have hs2 := run_dig1 ((x.toNat : Int) % 16) (x.toNat % 16) (by omega) (by omega)
      have hw1 : IntKind.i64.wrap ((x.toNat : Int) / 16 + 1) = (x.toNat : Int) / 16 + 1 := by rw [IntKind.wrap_i64]; omega
      have hw2 : IntKind.i64.wrap ((x.toNat : Int) % 16 + 1) = (x.toNat : Int) % 16 + 1 := by rw [IntKind.wrap_i64]; omega
      generalize hexL (l.take k) = S at *
      clear hu hx
      go_wp2_with fail
      go_quiet (fail)
      obtain ⟨q2, hq2⟩ : ∃ q2, q2 = nq := ⟨_, rfl⟩
      rw [← hq2]
      clear hq2
      go_wp2_with fail
      go_quiet (fail)
      go_wp2_with fail
      have HS : S ++ [hexC (x.toNat / 16)] ++ [hexC (x.toNat % 16)] = hexL (l.take (k + 1)) := by rw [HX.out]; simp [hex2]
      have HS2 := Lib.hid HS
      clear HS
      go_roundw
      case rel => exact ⟨k + 1, by omega, by go_num, by rw [← HS2.out]; simp, _, rfl⟩
      case measure => simp [intOf]; omega
    · have hfull : l.take k = l := List.take_of_length_le (by omega)
      rw [hfull]
      clear hfull
      go_wp2_with fail
      go_ret
      exact ⟨rfl, below_drewN (Below.refl _ _) _⟩
end Go.Proofs.Ytldkcfhigcmoaaa
