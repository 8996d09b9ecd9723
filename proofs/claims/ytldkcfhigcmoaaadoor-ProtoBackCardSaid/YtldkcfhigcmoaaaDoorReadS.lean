/- What ReadShort answers, the program's and the document's. Conditions: those in each theorem. -/
import Derived.Test.YtldkcfhigcmoaaaDoorShort
namespace Go.Proofs.YtldkcfhigcmoaaaDoor
open Go.RowKit Go.As
set_option linter.unusedVariables false

/-- the number, how many bytes it has, the error's number -/
def rsE (l : List UInt8) : Nat × Nat × Int := match readS 0 l with | some x => (x.1, x.2, 0) | none => (0, 0, 4)
theorem rsE_none {l : List UInt8} (h : readS 0 l = none) : rsE l = (0, 0, 4) := by simp [rsE, h]
theorem rsE_some {l : List UInt8} {v u : Nat} (h : readS 0 l = some (v, u)) : rsE l = (v, u, 0) := by simp [rsE, h]

theorem or_nat {a b : Nat} (ha : a < 18446744073709551616) (hb : b < 18446744073709551616) : bits .or .u64 (a : Int) (b : Int) = ((a ||| b : Nat) : Int) := by
  have hx : a ||| b < 2 ^ 64 := Nat.or_lt_two_pow (by omega) (by omega)
  have h1 : (BitVec.ofInt 64 (a : Int)).toNat = a := by
    rw [BitVec.ofInt_natCast, BitVec.toNat_ofNat]; exact Nat.mod_eq_of_lt (by omega)
  have h2 : (BitVec.ofInt 64 (b : Int)).toNat = b := by
    rw [BitVec.ofInt_natCast, BitVec.toNat_ofNat]; exact Nat.mod_eq_of_lt (by omega)
  show IntKind.u64.wrap ((BitVec.ofInt 64 (a : Int) ||| BitVec.ofInt 64 (b : Int)).toNat : Int) = _
  rw [BitVec.toNat_or, h1, h2, IntKind.wrap_u64]
  omega
set_option maxRecDepth 100000 in
theorem and127 {b : Nat} (hb : b < 256) : bits .and .u8 (b : Int) 127 = ((b % 128 : Nat) : Int) := by
  have key : ∀ b : Fin 256, bits .and .u8 (b.val : Int) 127 = ((b.val % 128 : Nat) : Int) := by decide
  exact key ⟨b, hb⟩
theorem pow7 (k : Nat) : (128 : Nat) ^ k = 2 ^ (7 * k) := by rw [Nat.pow_mul]
theorem or_short {v k b : Nat} (hk : k ≤ 9) (hv : v < 128 ^ k) (hb : b < 256) :
    bits .or .u64 (v : Int) (IntKind.u64.wrap (IntKind.u64.wrap (bits .and .u8 (b : Int) 127) * 2 ^ (7 * k))) = (((v + b % 128 * 128 ^ k) % 18446744073709551616 : Nat) : Int) := by
  rw [and127 hb]
  have e1 : IntKind.u64.wrap ((b % 128 : Nat) : Int) = ((b % 128 : Nat) : Int) := by rw [IntKind.wrap_u64]; omega
  have e2 : IntKind.u64.wrap (((b % 128 : Nat) : Int) * 2 ^ (7 * k)) = ((b % 128 * 128 ^ k % 18446744073709551616 : Nat) : Int) := by
    rw [IntKind.wrap_u64, pow7]
    have : ((b % 128 : Nat) : Int) * 2 ^ (7 * k) = ((b % 128 * 2 ^ (7 * k) : Nat) : Int) := by simp
    rw [this]; omega
  rw [e1, e2]
  have hd : (128 : Nat) ^ k ∣ 18446744073709551616 := by
    rw [pow7, show (18446744073709551616 : Nat) = 2 ^ 64 from rfl]
    exact Nat.pow_dvd_pow _ (by omega)
  obtain ⟨q, hq⟩ := hd
  have hq' : 18446744073709551616 = q * 128 ^ k := by rw [hq, Nat.mul_comm]
  have hp : 0 < 128 ^ k := Nat.pow_pos (by decide)
  have h9 : 128 ^ k ≤ 128 ^ 9 := Nat.pow_le_pow_right (by decide) hk
  have hm : b % 128 * 128 ^ k % 18446744073709551616 = (b % 128 % q) * 128 ^ k := by
    rw [hq', Nat.mul_mod_mul_right]
  have hq0 : 0 < q := by
    rcases Nat.eq_zero_or_pos q with h | h
    · rw [h] at hq; simp at hq
    · exact h
  have hlt : v + (b % 128 % q) * 128 ^ k < 18446744073709551616 := by
    have h1 : b % 128 % q + 1 ≤ q := Nat.mod_lt _ hq0
    have h2 := Nat.mul_le_mul_right (128 ^ k) h1
    rw [Nat.add_mul, ← hq'] at h2
    omega
  rw [or_nat (by omega) (by omega), hm]
  have hor : v ||| (b % 128 % q) * 128 ^ k = v + (b % 128 % q) * 128 ^ k := by
    have := Nat.two_pow_add_eq_or_of_lt (i := 7 * k) (b := v) (by rw [← pow7]; exact hv) (b % 128 % q)
    rw [Nat.or_comm, Nat.mul_comm, pow7, ← this]; omega
  rw [hor]
  congr 1
  rw [Nat.add_mod, hm, Nat.mod_eq_of_lt (show v < 18446744073709551616 by omega), Nat.mod_eq_of_lt hlt]

theorem val_done {v k b : Nat} (hk : k ≤ 9) (hv : v < 128 ^ k) (hb : b < 128) (hs : ¬ (9 < k ∨ (k = 9 ∧ 1 < b))) : (v + b % 128 * 128 ^ k) % 18446744073709551616 = v + b * 128 ^ k := by
  rw [Nat.mod_eq_of_lt hb]
  refine Nat.mod_eq_of_lt ?_
  by_cases h9 : k = 9
  · subst h9
    have : b * 128 ^ 9 ≤ 1 * 128 ^ 9 := Nat.mul_le_mul_right _ (by omega)
    omega
  · have hp : 128 ^ k ≤ 128 ^ 8 := Nat.pow_le_pow_right (by decide) (by omega)
    have : b * 128 ^ k ≤ 127 * 128 ^ 8 := Nat.mul_le_mul (by omega) hp
    omega
theorem val_more {l : List UInt8} {b : UInt8} {k : Nat} (hk : k ≤ 8) (hkl : k < l.length) (hv : valL (l.take k) < 128 ^ k) (ht : l.take (k + 1) = l.take k ++ [b]) :
    (valL (l.take k) + b.toNat % 128 * 128 ^ k) % 18446744073709551616 = valL (l.take (k + 1)) := by
  rw [ht, valL_snoc, show (l.take k).length = k by rw [List.length_take]; omega]
  refine Nat.mod_eq_of_lt ?_
  have hp : 128 ^ k ≤ 128 ^ 8 := Nat.pow_le_pow_right (by decide) (by omega)
  have : b.toNat % 128 * 128 ^ k ≤ 127 * 128 ^ 8 := Nat.mul_le_mul (by omega) hp
  omega

set_option maxRecDepth 100000 in
set_option maxHeartbeats 1600000 in
theorem oreads_any (A : Option Addr) (n c : Nat) (l : List UInt8) (w : World) (ha : Sl w 1 A n (byt l)) (hn : n ≤ 9223372036854775807) :
    Calls Tryd.prog 16 #[.slice A n c] w fun e w' => e = .returned (.tuple #[.int .u64 (rsE l).1, .int .i64 (rsE l).2.1, .int .i64 (rsE l).2.2]) ∧ w = w' := by
  have hl : l.length = n := by have := ha.len1; simpa [byt] using this
  have HL := Lib.hid hl
  have HA := Lib.hid ha
  clear ha hl
  go_enter Tryd.func16, Tryd.ntmps16
  go_wp2_with fail
  go_loopw [5, 10] (fun nv iv wr => ∃ k : Nat, k ≤ n ∧ k ≤ 10 ∧ nv = .int .u64 (valL (l.take k)) ∧ iv = .int .i64 k ∧ readS 0 l = addS (l.take k) (readS k (l.drop k)) ∧ (∀ x ∈ l.take k, 128 ≤ x.toNat) ∧ wr = w) (fun _ iv _ => n - (intOf iv).toNat)
  case atStart => exact ⟨0, by omega, by omega, by simp [valL], rfl, by simp [addS_nil], by simp, rfl⟩
  case round =>
    obtain ⟨k, hk, hk10, rfl, rfl, hread, hall, rfl⟩ := hrel
    have HR := Lib.hid (And.intro hread hall)
    clear hread hall
    by_cases hlt : k < n
    · obtain ⟨ad, u, hA, -, hu, hca⟩ := HA.out.at1 hlt
      obtain ⟨b, hb, rfl⟩ := byt_get hu
      subst hA
      have hbl := b.toNat_lt
      have hvl := valL_lt (l.take k)
      clear hu
      have hkl : k < l.length := by rw [HL.out]; exact hlt
      have hbk : l[k] = b := by
        have := List.getElem?_eq_getElem hkl
        rw [hb] at this; exact (Option.some.inj this).symm
      have hlen : (l.take k).length = k := by rw [List.length_take]; omega
      rw [hlen] at hvl
      have HB := Lib.hid (show ∃ h : k < l.length, l[k] = b from ⟨hkl, hbk⟩)
      have HV := Lib.hid hvl
      clear hvl hbk hb hkl hlen
      by_cases hstop : 9 < k ∨ (k = 9 ∧ 1 < b.toNat)
      · have HN := Lib.hid (show rsE l = _ by obtain ⟨q1, q2⟩ := HB.out; exact rsE_none (readS_stop q1 HR.out.1 (by rw [q2]; exact hstop)))
        by_cases h9 : 9 < k
        · clear hstop
          go_wp2_with fail
          go_ret3
          rw [HN.out]
          first | exact ⟨rfl, rfl⟩ | exact rfl
        · have hk9 : k = 9 := by omega
          have hb1 : 1 < b.toNat := by omega
          have hki : ((k : Int) == 9) = true := by simp; omega
          clear hstop h9 hk9
          go_wp2_with fail
          all_goals (go_ret3; rw [HN.out]; first | exact ⟨rfl, rfl⟩ | exact rfl)
      · have HO := Lib.hid (or_short (k := k) (b := b.toNat) (by omega) HV.out hbl)
        by_cases h128 : b.toNat < 128
        · by_cases h0 : b.toNat = 0 ∧ 0 < k
          · have HN := Lib.hid (show rsE l = _ by obtain ⟨q1, q2⟩ := HB.out; exact rsE_none (readS_zero q1 HR.out.1 (by rw [q2]; exact h0.1) h0.2))
            obtain ⟨h0, h1⟩ := h0
            have h9 : ¬ 9 < k := by omega
            by_cases hk9 : k = 9
            · have hki : ((k : Int) == 9) = true := by simp; omega
              clear hk9
              go_wp2_with fail
              go_ret3
              rw [HN.out]
              first | exact ⟨rfl, rfl⟩ | exact rfl
            · go_wp2_with fail
              go_ret3
              rw [HN.out]
              first | exact ⟨rfl, rfl⟩ | exact rfl
          · have HN := Lib.hid (show rsE l = (valL (l.take k) + b.toNat * 128 ^ k, k + 1, 0) by obtain ⟨q1, q2⟩ := HB.out; rw [← q2]; exact rsE_some (readS_done q1 HR.out.1 (by rw [q2]; exact hstop) (by rw [q2]; exact h128) (by rw [q2]; exact h0)))
            have HM := Lib.hid (show (valL (l.take k) + b.toNat % 128 * 128 ^ k) % 18446744073709551616 = valL (l.take k) + b.toNat * 128 ^ k from val_done (by omega) HV.out h128 hstop)
            have h9 : ¬ 9 < k := by omega
            by_cases hk9 : k = 9
            · have hki : ((k : Int) == 9) = true := by simp; omega
              have hb1 : b.toNat = 1 := by omega
              clear hk9
              go_wp2_with fail
              go_ret3
              rw [HN.out]
              have h := HO.out
              rw [HM.out, hb1] at h
              refine ⟨?_, rfl⟩
              rw [hb1, ← h]; rfl
            · by_cases hb0 : b.toNat = 0
              · have hk0 : ¬ 0 < k := by omega
                clear h0 hstop
                go_wp2_with fail
                go_ret3
                rw [HN.out]
                have h := HO.out
                rw [HM.out, hb0] at h
                refine ⟨?_, rfl⟩
                rw [hb0, ← h]; rfl
              · clear h0 hstop
                go_wp2_with fail
                go_ret3
                rw [HN.out]
                refine ⟨?_, rfl⟩
                rw [HO.out, HM.out]; rfl
        · have hk8 : k ≤ 8 := by omega
          have HN := Lib.hid (show readS 0 l = addS (l.take (k + 1)) (readS (k + 1) (l.drop (k + 1))) ∧ l.take (k + 1) = l.take k ++ [b] from by obtain ⟨q1, q2⟩ := HB.out; exact ⟨readS_more q1 HR.out.1 (by rw [q2]; exact hstop) (by rw [q2]; exact h128), by rw [List.take_succ_eq_append_getElem q1, q2]⟩)
          have HM := Lib.hid (val_more (l := l) (b := b) (k := k) hk8 (by obtain ⟨q1, q2⟩ := HB.out; omega) HV.out HN.out.2)
          clear hstop
          go_wp2_with fail
          go_roundw
          case rel => exact ⟨k + 1, by omega, by omega, by rw [HO.out, HM.out], by go_num, HN.out.1, by rw [HN.out.2]; intro x hx; rcases List.mem_append.1 hx with h | h; exact HR.out.2 x h; rw [List.mem_singleton] at h; subst h; omega, trivial⟩
          case measure => simp [intOf]; omega
    · have HN := Lib.hid (rsE_none (readS_end (b := l) (by have := HR.out.1; rwa [show k = l.length by rw [HL.out]; omega] at this)))
      go_wp2_with fail
      go_ret3
      rw [HN.out]
      first | exact ⟨rfl, rfl⟩ | exact rfl
end Go.Proofs.YtldkcfhigcmoaaaDoor
