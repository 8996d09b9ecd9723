/- What Short answers, the program's and the document's. Conditions: those in each theorem. -/
import Derived.Test.YtldkcfhigcmoaaaDoorNumP
import Derived.Test.YtldkcfhigcmoaaaDoorOctB
import Derived.WalkArith
namespace Go.Proofs.YtldkcfhigcmoaaaDoor
open Go.RowKit Go.As
set_option linter.unusedVariables false

theorem byte_wrap (n : Nat) : IntKind.u8.wrap (n : Int) = ((UInt8.ofNat n).toNat : Int) := by
  rw [IntKind.wrap_u8, UInt8.toNat_ofNat']; omega
theorem byte_mod (n : Nat) : (n : Int) % 256 = ((UInt8.ofNat n).toNat : Int) := by
  rw [UInt8.toNat_ofNat']; omega

set_option maxRecDepth 100000 in
theorem bits_or_high (m : Nat) : bits .or .u8 ((m : Int) % 256) 128 = ((UInt8.ofNat (m % 128 + 128)).toNat : Int) := by
  have key : ∀ b : Fin 256, bits .or .u8 (b.val : Int) 128 = ((UInt8.ofNat (b.val % 128 + 128)).toNat : Int) := by decide
  have h := key ⟨m % 256, by omega⟩
  simp only at h
  rw [show ((m : Int) % 256) = ((m % 256 : Nat) : Int) by omega, h, show m % 256 % 128 = m % 128 by omega]


set_option maxRecDepth 100000 in
set_option maxHeartbeats 1600000 in
theorem oshort_any (n : Nat) (w : World) (hn : n < 18446744073709551616) :
    Calls Tryd.prog 20 #[.int .u64 n] w fun e w' => ∃ v rm, e = .returned v ∧ RowB w' w.heap.size 5 v (shortL n) rm ∧ Below w.heap.size w w' := by
  go_enter Tryd.func20, Tryd.ntmps20
  go_wp2_with fail
  go_loopw [0, 3] (fun nv ov wr => ∃ (m : Nat) (out rm : List UInt8) (v : Value), m < 18446744073709551616 ∧ nv = .int .u64 m ∧ ov = v ∧ out ++ shortL m = shortL n ∧ RowB wr w.heap.size 5 v out rm ∧ Below w.heap.size w wr) (fun nv _ _ => (intOf nv).toNat)
  case atStart => exact ⟨n, [], [], _, hn, rfl, rfl, rfl, RowB.nil _ _ _, Below.refl _ _⟩
  case round =>
    have hnl := shortL_len10 hn
    clear hn
    obtain ⟨m, out, rm, v, hm, rfl, hv, hout, hrow, hbel⟩ := hrel
    have hv' := hv.symm
    subst hv'
    have hol : out.length ≤ 10 := by
      have := congrArg List.length hout
      rw [List.length_append] at this
      omega
    have HR := Lib.hid (And.intro hrow (And.intro hbel hout))
    have hsz := hbel.size
    clear hrow hbel hout hnl
    by_cases hlt : 127 < m
    · have HE := Lib.hid (shortL_big (n := m) (by omega))
      have hor := bits_or_high m
      have hor2 : ((m : Int) % 128 % 256 + 128) % 256 = ((UInt8.ofNat (m % 128 + 128)).toNat : Int) := by
        rw [UInt8.toNat_ofNat']; omega
      have hor3 : ((m : Int) % 128 + 128) % 256 = ((UInt8.ofNat (m % 128 + 128)).toNat : Int) := by
        rw [UInt8.toNat_ofNat']; omega
      have hor4 : (m : Int) % 128 + 128 = ((UInt8.ofNat (m % 128 + 128)).toNat : Int) := by
        rw [UInt8.toNat_ofNat']; omega
      have hdv : (m : Int).tdiv 128 = ((m / 128 : Nat) : Int) := by rw [Int.tdiv_eq_ediv_of_nonneg (by omega)]; omega
      have hdv2 : (m : Int) / 128 = ((m / 128 : Nat) : Int) := by omega
      have hdm : m / 128 < m := by omega
      generalize UInt8.ofNat (m % 128 + 128) = B at *
      generalize m / 128 = M at *
      go_wp2_with (first
        | (at_builtin
           refine wpl_appB1 rfl _ _ _ rfl w.heap.size 5 Tryd.underlying23 byteInfo v out rm HR.out.1 rfl B _ rfl rfl (by omega) hsz ?_
           intro v5 rm5 w5 hown5 hg5 hs5
           have H5 := Lib.hid (And.intro hown5 (HR.out.2.1.grown hg5 hsz (fun j hj => (HR.out.1.lt j hj).1)))
           clear hown5 hg5 hs5))
      go_roundw
      case rel => exact ⟨M, out ++ [B], rm5, v5, by omega, rfl, rfl, by rw [← HR.out.2.2, HE.out]; simp, H5.out.1, H5.out.2⟩
      case measure => simp [intOf]; omega
    · have HE := Lib.hid (shortL_small (n := m) (by omega))
      have hb2 := byte_mod m
      have hb3 : (m : Int) = ((UInt8.ofNat m).toNat : Int) := by rw [UInt8.toNat_ofNat']; omega
      generalize UInt8.ofNat m = B at *
      go_wp2_with (first
        | (at_builtin
           refine wpl_appB1 rfl _ _ _ rfl w.heap.size 5 Tryd.underlying23 byteInfo v out rm HR.out.1 rfl B _ rfl rfl (by omega) hsz ?_
           intro v5 rm5 w5 hown5 hg5 hs5
           have H5 := Lib.hid (And.intro hown5 (HR.out.2.1.grown hg5 hsz (fun j hj => (HR.out.1.lt j hj).1)))
           clear hown5 hg5 hs5))
      go_ret
      exact ⟨_, rfl, ⟨rm5, by rw [← HR.out.2.2, HE.out]; exact H5.out.1⟩, H5.out.2⟩
set_option maxRecDepth 100000 in
set_option maxHeartbeats 1600000 in
theorem rshort_any (n : Nat) (w : World) (hn : n < 18446744073709551616) :
    Calls Tryd.prog 21 #[.int .u64 n] w fun e w' => ∃ v rm, e = .returned v ∧ RowB w' w.heap.size 5 v (shortL n) rm ∧ Below w.heap.size w w' := by
  go_enter Tryd.func21, Tryd.ntmps21
  go_wp2_with fail
  go_loopw [0, 3] (fun nv ov wr => ∃ (m : Nat) (out rm : List UInt8) (v : Value), m < 18446744073709551616 ∧ nv = .int .u64 m ∧ ov = v ∧ out ++ shortL m = shortL n ∧ RowB wr w.heap.size 5 v out rm ∧ Below w.heap.size w wr) (fun nv _ _ => (intOf nv).toNat)
  case atStart => exact ⟨n, [], [], _, hn, rfl, rfl, rfl, RowB.nil _ _ _, Below.refl _ _⟩
  case round =>
    have hnl := shortL_len10 hn
    clear hn
    obtain ⟨m, out, rm, v, hm, rfl, hv, hout, hrow, hbel⟩ := hrel
    have hv' := hv.symm
    subst hv'
    have hol : out.length ≤ 10 := by
      have := congrArg List.length hout
      rw [List.length_append] at this
      omega
    have HR := Lib.hid (And.intro hrow (And.intro hbel hout))
    have hsz := hbel.size
    clear hrow hbel hout hnl
    by_cases hlt : 127 < m
    · have HE := Lib.hid (shortL_big (n := m) (by omega))
      have hor := bits_or_high m
      have hor2 : ((m : Int) % 128 % 256 + 128) % 256 = ((UInt8.ofNat (m % 128 + 128)).toNat : Int) := by
        rw [UInt8.toNat_ofNat']; omega
      have hor3 : ((m : Int) % 128 + 128) % 256 = ((UInt8.ofNat (m % 128 + 128)).toNat : Int) := by
        rw [UInt8.toNat_ofNat']; omega
      have hor4 : (m : Int) % 128 + 128 = ((UInt8.ofNat (m % 128 + 128)).toNat : Int) := by
        rw [UInt8.toNat_ofNat']; omega
      have hdv : (m : Int).tdiv 128 = ((m / 128 : Nat) : Int) := by rw [Int.tdiv_eq_ediv_of_nonneg (by omega)]; omega
      have hdv2 : (m : Int) / 128 = ((m / 128 : Nat) : Int) := by omega
      have hdm : m / 128 < m := by omega
      generalize UInt8.ofNat (m % 128 + 128) = B at *
      generalize m / 128 = M at *
      go_wp2_with (first
        | (at_builtin
           refine wpl_appB1 rfl _ _ _ rfl w.heap.size 5 Tryd.underlying23 byteInfo v out rm HR.out.1 rfl B _ rfl rfl (by omega) hsz ?_
           intro v5 rm5 w5 hown5 hg5 hs5
           have H5 := Lib.hid (And.intro hown5 (HR.out.2.1.grown hg5 hsz (fun j hj => (HR.out.1.lt j hj).1)))
           clear hown5 hg5 hs5))
      go_roundw
      case rel => exact ⟨M, out ++ [B], rm5, v5, by omega, rfl, rfl, by rw [← HR.out.2.2, HE.out]; simp, H5.out.1, H5.out.2⟩
      case measure => simp [intOf]; omega
    · have HE := Lib.hid (shortL_small (n := m) (by omega))
      have hb2 := byte_mod m
      have hb3 : (m : Int) = ((UInt8.ofNat m).toNat : Int) := by rw [UInt8.toNat_ofNat']; omega
      generalize UInt8.ofNat m = B at *
      go_wp2_with (first
        | (at_builtin
           refine wpl_appB1 rfl _ _ _ rfl w.heap.size 5 Tryd.underlying23 byteInfo v out rm HR.out.1 rfl B _ rfl rfl (by omega) hsz ?_
           intro v5 rm5 w5 hown5 hg5 hs5
           have H5 := Lib.hid (And.intro hown5 (HR.out.2.1.grown hg5 hsz (fun j hj => (HR.out.1.lt j hj).1)))
           clear hown5 hg5 hs5))
      go_ret
      exact ⟨_, rfl, ⟨rm5, by rw [← HR.out.2.2, HE.out]; exact H5.out.1⟩, H5.out.2⟩
end Go.Proofs.YtldkcfhigcmoaaaDoor
