/- What Floor and the literal of a number answer, the program's. Conditions: those in each theorem. -/
import Derived.Test.YtoonkajdmhmdpaaDoorRealD
import Derived.Test.YtoonkajdmhmdpaaDoorRealE
import Derived.Test.YtoonkajdmhmdpaaDoorEvT
import Derived.Test.YtoonkajdmhmdpaaDoorShelf2
import Derived.Sort.Grow
import Derived.Lib.ItoaLen
namespace Go.Proofs.YtoonkajdmhmdpaaDoor
open Go.RowKit Go.As
set_option linter.unusedVariables false

theorem toIntegral_eq (b : Nat) : Extern.MathFloor.toIntegral "math.archFloor" .down #[.float .f64 b] = (match FloatKind.f64.decode b with
    | .nan s t =>
      if FloatKind.f64.format.quiet t = t then pure (.float .f64 b) else do
      let kept ← choose (.extern "math.Floor,Ceil,Trunc,RoundToEven.signallingNaN kept" 2)
      pure (.float .f64 (if kept == 1 then b else FloatKind.f64.encode (.nan s (FloatKind.f64.format.quiet t))))
    | d => pure (.float .f64 (FloatKind.f64.encode (d.integral .down)))) := rfl
theorem archFloor_run (b : Nat) (h : nanW b = false) (w : World) : (callFunc 46 #[.float .f64 b]).run Tryd.prog w = .ok (.value (.float .f64 (flW b))) w := by
  rw [run_callFunc_extern (P := Tryd.prog) Tryd.func46 (by kernel_rfl) (by kernel_rfl) (e := Extern.MathFloor.toIntegral "math.archFloor" .down) (by kernel_rfl) (by kernel_rfl)]
  unfold nanW at h
  obtain ⟨D, hD⟩ : ∃ D, fd.read b = D := ⟨_, rfl⟩
  have hfl : flW b = FloatKind.f64.encode (D.integral .down) := by unfold flW; rw [hD]; rfl
  rw [hfl]
  rw [hD] at h
  have hdec : FloatKind.f64.decode b = D := hD
  rw [toIntegral_eq, hdec]
  cases D with
  | nan s p => cases h
  | infinity s => rfl
  | number s m i => rfl
theorem floor_any (b : Nat) (h : nanW b = false) (w : World) : Calls Tryd.prog 34 #[.float .f64 b] w fun e w' => e = .returned (.float .f64 (flW b)) ∧ w = w' := by
  have h1 := archFloor_run b h
  clear h
  go_enter Tryd.func34, Tryd.ntmps34
  go_wp2
  go_ret
  exact ⟨rfl, rfl⟩

theorem below_growK (w : World) (k : Nat) (os : Array Obj) : Below w.heap.size w (Go.Sort.grow (w.drewN k) os) :=
  ⟨rfl, rfl, rfl, by simp [Go.Sort.grow, World.drewN], fun i hi => by
    simp only [Go.Sort.grow, World.drewN]
    exact Array.getElem?_append_left hi⟩
theorem itoa_any (n : Nat) (hn : n < 9223372036854775808) (w : World) (ht : Tab w) : Calls Tryd.prog 48 #[.int .i64 (n : Int)] w fun e w' => e = .returned (.string (str (Lib.decDigits n))) ∧ Below w.heap.size w w' := by
  refine (Tryd.strconv_Itoa (n : Int) (by omega) (by omega) w ht).mono ?_
  rintro e w' ⟨rfl, k, os, rfl⟩
  refine ⟨?_, below_growK _ _ _⟩
  unfold Lib.itoa
  rw [if_neg (by omega), Int.toNat_natCast]
  rfl
def strLen : Value → Nat
  | .string s => s.size
  | _ => 0
theorem strLen_str (l : List UInt8) : strLen (.string (str l)) = l.length := str_size l
set_option maxRecDepth 100000 in
theorem literal_any (n k : Nat) (hn : n < 10000000000000000) (h1 : 1 ≤ k) (h6 : k ≤ 6) (w : World) (ht : Tab w) :
    Calls Tryd.prog 35 #[.int .i64 (n : Int), .int .i64 (k : Int)] w fun e w' => e = .returned (.string (str (litS n k))) ∧ Below w.heap.size w w' := by
  obtain ⟨D, hD⟩ : ∃ D, D = Lib.decDigits n := ⟨_, rfl⟩
  have hDl : D.length = Lib.nDigits n := by rw [hD]; exact Lib.decDigits_length n
  have hnd : Lib.nDigits n ≤ 16 := nDigits_le (w := 15) (by omega)
  have hnd1 := Lib.nDigits_pos n
  obtain ⟨d, hd⟩ : ∃ d, d = Lib.nDigits n := ⟨_, rfl⟩
  rw [← hd] at hDl hnd hnd1
  have hpad := pad_lit k n
  rw [← hD, ← hd] at hpad
  have HP := Lib.hid (And.intro hpad (show litS n k = Lib.decDigits (n / 10 ^ k) ++ 46 :: dgw k n from rfl))
  have HI := Lib.hid (show ∀ W, Tab W → Calls Tryd.prog 48 #[.int .i64 (n : Int)] W fun e w' => e = .returned (.string (str D)) ∧ Below W.heap.size W w' from fun W hW => by rw [hD]; exact itoa_any n (by omega) W hW)
  have HDL := Lib.hid hDl
  have hDl' : D.length ≤ 16 := by omega
  clear hD hpad hn hd hDl
  go_enter Tryd.func35, Tryd.ntmps35
  go_wp2_with (go_at_call 48
               refine (HI.out _ ht).mono ?_
               rintro e w1 ⟨rfl, hb⟩
               have HB := Lib.hid hb
               clear hb)
  go_loopw [5] (fun sv wr => ∃ j : Nat, sv = .string (str (List.replicate j 48 ++ D)) ∧ wr = w1 ∧ (j = 0 ∨ j + d ≤ k + 1)) (fun sv _ => 20 - strLen sv)
  case atStart => exact ⟨0, rfl, rfl, .inl rfl⟩
  case round =>
    obtain ⟨j, rfl, rfl, hj⟩ := hrel
    obtain ⟨S, hS⟩ : ∃ S, S = List.replicate j 48 ++ D := ⟨_, rfl⟩
    have hSl : S.length = j + d := by rw [hS, List.length_append, List.length_replicate, HDL.out]
    rw [← hS]
    have HS := Lib.hid (And.intro hS hSl)
    by_cases hc : j + d ≤ k
    · have hc1 : S.length ≤ k := by omega
      have hsum : ∀ W, (Op.stringOp .add (str [48]) (str S)).run Tryd.prog W = .ok (.string (str (48 :: S))) W := fun W => by
        rw [run_string_add_sum (P := Tryd.prog) (w := W) (str [48]) (str S) (by rw [str_size, str_size]; simp; omega), str_append]; rfl
      have HJ := Lib.hid (show (48 : UInt8) :: S = List.replicate (j + 1) 48 ++ D ∧ (j + 1 = 0 ∨ j + 1 + d ≤ k + 1) from ⟨by rw [hS, List.replicate_succ]; rfl, .inr (by omega)⟩)
      have HM := Lib.hid (show 20 - strLen (.string (str (48 :: S))) < 20 - strLen (.string (str S)) from by rw [strLen_str, strLen_str, List.length_cons]; omega)
      clear hS hSl hj hc
      go_wp2_with fail
      go_roundw
      case rel => exact ⟨j + 1, by rw [← HJ.out.1], trivial, HJ.out.2⟩
      case measure => exact HM.out
    · have hc1 : ¬ S.length ≤ k := by omega
      obtain ⟨X, hX⟩ : ∃ X, X = Lib.decDigits (n / 10 ^ k) := ⟨_, rfl⟩
      obtain ⟨Y, hY⟩ : ∃ Y, Y = dgw k n := ⟨_, rfl⟩
      have hYl : Y.length = k := by rw [hY]; exact dgw_length k n
      have hSXY : S = X ++ Y := by
        rw [hS, hX, hY, ← HP.out.1]
        congr 2
        omega
      have hL : S.length = X.length + k := by rw [hSXY, List.length_append, hYl]
      obtain ⟨x, hx⟩ : ∃ x, x = X.length := ⟨_, rfl⟩
      have hlit : litS n k = X ++ 46 :: Y := by rw [HP.out.2, hX, hY]
      have HLIT := Lib.hid hlit
      have hSl2 : S.length ≤ 30 := by omega
      have e1 : List.take x S = X := by rw [hSXY, hx]; simp
      have e2 : List.take (S.length - x) (List.drop x S) = Y := by
        rw [List.take_of_length_le (by rw [List.length_drop]; omega), hSXY, hx]; simp
      have hz0 : (S.length : Int) - k = x := by omega
      have hwr : IntKind.i64.wrap (x : Int) = x := by rw [IntKind.wrap_i64]; omega
      have hz1 : (x : Int) ≤ S.length := by omega
      have hz3 : x ≤ S.length := by omega
      have hXl : X.length ≤ 30 := by omega
      have hs1 : ∀ W, (Op.stringOp .add (str X) (str [46])).run Tryd.prog W = .ok (.string (str (X ++ [46]))) W := fun W => by
        rw [run_string_add_sum (P := Tryd.prog) (w := W) (str X) (str [46]) (by rw [str_size, str_size]; simp; omega), str_append]
      have hs2 : ∀ W, (Op.stringOp .add (str (X ++ [46])) (str Y)).run Tryd.prog W = .ok (.string (str (X ++ 46 :: Y))) W := fun W => by
        rw [run_string_add_sum (P := Tryd.prog) (w := W) (str (X ++ [46])) (str Y) (by rw [str_size, str_size]; simp; omega), str_append, List.append_assoc]; rfl
      clear hS hSl hj hc hX hY hYl hSXY hL hx hlit hSl2 hXl
      go_wp2_with fail
      go_quiet (fail)
      go_wp2_with fail
      go_ret
      rw [HLIT.out]
      exact ⟨rfl, below_drewN HB.out _⟩
end Go.Proofs.YtoonkajdmhmdpaaDoor
