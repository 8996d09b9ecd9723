/- What Parse of a real's literal answers, the program's. Conditions: those in the theorem. -/
import Derived.Test.YtiacalnkmnckjaaRealC0
import Derived.Test.YtiacalnkmnckjaaRealS
import Derived.Test.YtiacalnkmnckjaaStrB
import Derived.Test.YtiacalnkmnckjaaPlan
import Derived.Test.YtiacalnkmnckjaaShelf
import Derived.Lib.IndexMore
import Derived.Deep.CutBlock
import Derived.Deep.DeepCutAuto
namespace Go.Proofs.Ytiacalnkmnckjaa
open Go.RowKit Go.As
set_option linter.unusedVariables false

theorem run_idx0 (s : List UInt8) (j : Nat) (hj : j < s.length) (W : World) : (Instr.index 9 (.string (str s)) (.int .i64 (j : Int))).run Try.prog W = .ok (.int .u8 (s[j].toNat : Nat)) W := by
  rw [run_index_string W 9 (str s) .i64 _ Try.underlying9, dif_pos ⟨by omega, by rw [str_size]; omega⟩]
  simp only [Int.toNat_natCast, str_get]

set_option maxRecDepth 100000 in
theorem run_buildPow (W : World) : (Instr.build 59 #[(0, .float .f64 4607182418800017408), (1, .float .f64 4621819117588971520), (2, .float .f64 4636737291354636288), (3, .float .f64 4652007308841189376), (4, .float .f64 4666723172467343360), (5, .float .f64 4681608360884174848), (6, .float .f64 4696837146684686336)]).run Try.prog W = .ok (.agg #[.float .f64 4607182418800017408, .float .f64 4621819117588971520, .float .f64 4636737291354636288, .float .f64 4652007308841189376, .float .f64 4666723172467343360, .float .f64 4681608360884174848, .float .f64 4696837146684686336]) W := by kernel_rfl
set_option maxRecDepth 100000 in
theorem run_idxPow0 (W : World) : (Instr.index 59 (.agg #[.float .f64 4607182418800017408, .float .f64 4621819117588971520, .float .f64 4636737291354636288, .float .f64 4652007308841189376, .float .f64 4666723172467343360, .float .f64 4681608360884174848, .float .f64 4696837146684686336]) (.int .i64 0)).run Try.prog W = .ok (.float .f64 4607182418800017408) W := by kernel_rfl
set_option maxRecDepth 100000 in
theorem run_idxPow1 (W : World) : (Instr.index 59 (.agg #[.float .f64 4607182418800017408, .float .f64 4621819117588971520, .float .f64 4636737291354636288, .float .f64 4652007308841189376, .float .f64 4666723172467343360, .float .f64 4681608360884174848, .float .f64 4696837146684686336]) (.int .i64 1)).run Try.prog W = .ok (.float .f64 4621819117588971520) W := by kernel_rfl
set_option maxRecDepth 100000 in
theorem run_idxPow2 (W : World) : (Instr.index 59 (.agg #[.float .f64 4607182418800017408, .float .f64 4621819117588971520, .float .f64 4636737291354636288, .float .f64 4652007308841189376, .float .f64 4666723172467343360, .float .f64 4681608360884174848, .float .f64 4696837146684686336]) (.int .i64 2)).run Try.prog W = .ok (.float .f64 4636737291354636288) W := by kernel_rfl
set_option maxRecDepth 100000 in
theorem run_idxPow3 (W : World) : (Instr.index 59 (.agg #[.float .f64 4607182418800017408, .float .f64 4621819117588971520, .float .f64 4636737291354636288, .float .f64 4652007308841189376, .float .f64 4666723172467343360, .float .f64 4681608360884174848, .float .f64 4696837146684686336]) (.int .i64 3)).run Try.prog W = .ok (.float .f64 4652007308841189376) W := by kernel_rfl
set_option maxRecDepth 100000 in
theorem run_idxPow4 (W : World) : (Instr.index 59 (.agg #[.float .f64 4607182418800017408, .float .f64 4621819117588971520, .float .f64 4636737291354636288, .float .f64 4652007308841189376, .float .f64 4666723172467343360, .float .f64 4681608360884174848, .float .f64 4696837146684686336]) (.int .i64 4)).run Try.prog W = .ok (.float .f64 4666723172467343360) W := by kernel_rfl
set_option maxRecDepth 100000 in
theorem run_idxPow5 (W : World) : (Instr.index 59 (.agg #[.float .f64 4607182418800017408, .float .f64 4621819117588971520, .float .f64 4636737291354636288, .float .f64 4652007308841189376, .float .f64 4666723172467343360, .float .f64 4681608360884174848, .float .f64 4696837146684686336]) (.int .i64 5)).run Try.prog W = .ok (.float .f64 4681608360884174848) W := by kernel_rfl
set_option maxRecDepth 100000 in
theorem run_idxPow6 (W : World) : (Instr.index 59 (.agg #[.float .f64 4607182418800017408, .float .f64 4621819117588971520, .float .f64 4636737291354636288, .float .f64 4652007308841189376, .float .f64 4666723172467343360, .float .f64 4681608360884174848, .float .f64 4696837146684686336]) (.int .i64 6)).run Try.prog W = .ok (.float .f64 4696837146684686336) W := by kernel_rfl
set_option maxRecDepth 100000 in
set_option maxHeartbeats 1600000 in
theorem rpowers_any (k : Nat) (hk : k ≤ 6) (w : World) : Calls Try.prog 23 #[.int .i64 (k : Int)] w fun e w' => e = .returned (.float .f64 (powT k)) ∧ w = w' := by
  have hbd := run_buildPow
  rcases (show k = 0 ∨ k = 1 ∨ k = 2 ∨ k = 3 ∨ k = 4 ∨ k = 5 ∨ k = 6 by omega) with rfl | rfl | rfl | rfl | rfl | rfl | rfl
  · have hix := run_idxPow0
    go_enter Try.func23, Try.ntmps23
    go_wp2_with fail
    go_ret
    exact ⟨rfl, rfl⟩
  · have hix := run_idxPow1
    go_enter Try.func23, Try.ntmps23
    go_wp2_with fail
    go_ret
    exact ⟨rfl, rfl⟩
  · have hix := run_idxPow2
    go_enter Try.func23, Try.ntmps23
    go_wp2_with fail
    go_ret
    exact ⟨rfl, rfl⟩
  · have hix := run_idxPow3
    go_enter Try.func23, Try.ntmps23
    go_wp2_with fail
    go_ret
    exact ⟨rfl, rfl⟩
  · have hix := run_idxPow4
    go_enter Try.func23, Try.ntmps23
    go_wp2_with fail
    go_ret
    exact ⟨rfl, rfl⟩
  · have hix := run_idxPow5
    go_enter Try.func23, Try.ntmps23
    go_wp2_with fail
    go_ret
    exact ⟨rfl, rfl⟩
  · have hix := run_idxPow6
    go_enter Try.func23, Try.ntmps23
    go_wp2_with fail
    go_ret
    exact ⟨rfl, rfl⟩
/-- the library's cut at a point -/
theorem slcut_dot (s : List UInt8) (hs : s.length ≤ 1048576) (w : World) : Calls Try.prog 26 #[.string (str s), .string ⟨#[46]⟩] w fun e w' => e = .returned (.tuple #[.string (str (rpW s)), .string (str (rpP s)), .bool (rpO s)]) ∧ ∃ q, w' = w.drewN q := by
  have hix := Try.stringslite_Index_one (str s) 46
  rw [str_data] at hix
  rcases cut_split s with h | ⟨X, P, rfl, h⟩
  · have hr : rpW s = s ∧ rpP s = [] ∧ rpO s = false := by unfold rpW rpP rpO; rw [cut_no h]; exact ⟨rfl, rfl, rfl⟩
    rw [hr.1, hr.2.1, hr.2.2]
    rw [indexByte_none s h] at hix
    clear h hr
    go_enter Try.func26, Try.ntmps26
    go_wp2_with (go_at_call 28; refine (hix _).mono ?_; rintro e w' ⟨rfl, rfl⟩)
    go_ret3
    exact ⟨rfl, 0, rfl⟩
  · have hr : rpW (X ++ 46 :: P) = X ∧ rpP (X ++ 46 :: P) = P ∧ rpO (X ++ 46 :: P) = true := by unfold rpW rpP rpO; rw [cut_app h]; exact ⟨rfl, rfl, rfl⟩
    rw [hr.1, hr.2.1, hr.2.2]
    rw [indexByte_app X P h] at hix
    obtain ⟨n, hn⟩ : ∃ n, n = X.length := ⟨_, rfl⟩
    rw [← hn] at hix
    obtain ⟨S, hS⟩ : ∃ S, S = X ++ 46 :: P := ⟨_, rfl⟩
    rw [← hS] at hix ⊢
    have hsl : S.length ≤ 1048576 := by rw [hS]; exact hs
    have hnl : n + 1 ≤ S.length := by rw [hS, hn]; simp
    have hx1 : (S.take n) = X := by rw [hS, hn]; simp
    have hx2 : (S.drop (n + 1)) = P := by rw [hS, hn]; simp
    have e9 : List.take (S.length - (n + 1)) (List.drop (n + 1) S) = P := by rw [List.take_of_length_le (by rw [List.length_drop]; omega)]; exact hx2
    have hz1 : (n : Int) ≤ S.length := by omega
    have hz2 : (n : Int) + 1 ≤ S.length := by omega
    have hz3 : n ≤ S.length := by omega
    have hz4 : (n : Int) < S.length := by omega
    have hz5 : n < S.length := by omega
    have hz6 : (0 : Int) ≤ (n : Int) + 1 := by omega
    have hwr : IntKind.i64.wrap ((n : Int) + 1) = (n : Int) + 1 := by rw [IntKind.wrap_i64]; omega
    clear h hr hS hn hs hx2
    go_enter Try.func26, Try.ntmps26
    go_wp2_with (go_at_call 28; refine (hix _).mono ?_; rintro e w' ⟨rfl, rfl⟩)
    go_quiet (fail)
    go_wp2_with fail
    go_ret3
    exact ⟨rfl, _, rfl⟩
theorem cut_dot (s : List UInt8) (hs : s.length ≤ 1048576) (w : World) : Calls Try.prog 21 #[.string (str s), .string ⟨#[46]⟩] w fun e w' => e = .returned (.tuple #[.string (str (rpW s)), .string (str (rpP s)), .bool (rpO s)]) ∧ ∃ q, w' = w.drewN q := by
  go_enter Try.func21, Try.ntmps21
  go_wp2_with (go_at_call 26; refine (slcut_dot s hs _).mono ?_; rintro e w' ⟨rfl, q, rfl⟩)
  go_ret3
  exact ⟨rfl, q, rfl⟩

set_option maxRecDepth 100000 in
set_option maxHeartbeats 3200000 in
theorem rparse_any (s : List UInt8) (hs : s.length ≤ 1048576) (w : World) :
    Calls Try.prog 19 #[.string (str s)] w fun e w' => e = .returned (.tuple #[.int .u64 (rpB s), .int .i64 (rpF s)]) ∧ Below w.heap.size w w' := by
  obtain ⟨X, hX⟩ : ∃ X, X = rpW s := ⟨_, rfl⟩
  obtain ⟨P, hP⟩ : ∃ P, P = rpP s := ⟨_, rfl⟩
  obtain ⟨O, hO⟩ : ∃ O, O = rpO s := ⟨_, rfl⟩
  have HC := Lib.hid (show (Lib.cut s [46]).1 = X ∧ (Lib.cut s [46]).2.1 = P ∧ (Lib.cut s [46]).2.2 = O from ⟨hX.symm, hP.symm, hO.symm⟩)
  have HR := Lib.hid (show rpOk s = (fmtB O X P && (X ++ P).all digB) ∧ rpB s = (if rpOk s = true then arN .quo (floatOfInt .f64 (decV (X ++ P))) (powT P.length) else 0) from by
    unfold rpB rpOk; rw [hX, hP, hO]; exact ⟨rfl, rfl⟩)
  have HM := Lib.hid (And.intro trivial hs)
  clear hX hP hO hs
  go_enter Try.func19, Try.ntmps19
  go_upto_region 2 with (first
    | (go_at_call 21
       go_must (refine (cut_dot s HM.out.2 _).mono ?_
                rw [show rpW s = X from HC.out.1, show rpP s = P from HC.out.2.1, show rpO s = O from HC.out.2.2]
                rintro e' w1 ⟨rfl, q, hw⟩
                have HB := Lib.hid (show Below w.heap.size w w1 from by rw [hw]; exact below_drewN (Below.refl _ _) q)
                clear hw)))
  go_cut [47] (fun sv wx => sv = .bool (!fmtB O X P) ∧ wx = w1)
  case first =>
    cases O with
    | false =>
      have HF := Lib.hid (show fmtB false X P = false from by unfold fmtB; exact decide_eq_false (fun h => by simp at h))
      go_wp2_with fail
      go_meet
      case rel => exact ⟨by rw [HF.out]; rfl, rfl⟩
    | true =>
      cases X with
      | nil =>
        have HF := Lib.hid (show fmtB true [] P = false from by unfold fmtB; exact decide_eq_false (fun h => by simp at h))
        go_wp2_with fail
        go_meet
        case rel => exact ⟨by rw [HF.out]; rfl, rfl⟩
      | cons x r =>
        by_cases hp0 : P = []
        · subst hp0
          have HF := Lib.hid (show fmtB true (x :: r) [] = false from by unfold fmtB; exact decide_eq_false (fun h => by simp at h))
          go_wp2_with fail
          go_meet
          case rel => exact ⟨by rw [HF.out]; rfl, rfl⟩
        have hpb : (P == []) = false := by simpa using hp0
        by_cases hp6 : 6 < P.length
        · have h6 : (6 : Int) < P.length := by omega
          have HF := Lib.hid (show fmtB true (x :: r) P = false from by unfold fmtB; exact decide_eq_false (fun h => by have := h.2.2.2.1; omega))
          clear hp0 hp6
          go_wp2_with fail
          go_meet
          case rel => exact ⟨by rw [HF.out]; rfl, rfl⟩
        have h6 : ¬ (6 : Int) < P.length := by omega
        by_cases hp15 : 15 < (x :: r).length + P.length
        · have h15 : (15 : Int) < (x :: r).length + P.length := by omega
          have h15' : (15 : Int) < r.length + 1 + P.length := by simp at hp15; omega
          have HF := Lib.hid (show fmtB true (x :: r) P = false from by unfold fmtB; exact decide_eq_false (fun h => by have := h.2.2.2.2.1; omega))
          have hrl : r.length + 1 ≤ 1048576 := by have := cut_len s; rw [HC.out.1] at this; simp at this; have := HM.out.2; omega
          clear hp0 hp6 hp15
          go_wp2_with fail
          go_meet
          case rel => exact ⟨by rw [HF.out]; rfl, rfl⟩
        have h15 : ¬ (15 : Int) < r.length + 1 + P.length := by simp at hp15; omega
        have h15b : r.length + 1 + P.length ≤ 15 := by simp at hp15; omega
        have hidx : ∀ W, (Instr.index 9 (.string (str (x :: r))) (.int .i64 0)).run Try.prog W = .ok (.int .u8 (x.toNat : Nat)) W := fun W => run_idx0 (x :: r) 0 (by simp) W
        by_cases hx : x = 48
        · subst hx
          cases r with
          | nil =>
            have h15c : ¬ (15 : Int) < 1 + P.length := by simp at h15b; omega
            have HF := Lib.hid (show fmtB true [48] P = true from by unfold fmtB; exact decide_eq_true ⟨rfl, by simp, hp0, by omega, by simp at h15b ⊢; omega, by simp⟩)
            clear hp0 hp6 hp15
            go_wp2_with fail
            go_meet
            case rel => exact ⟨by rw [HF.out]; rfl, rfl⟩
          | cons y r =>
            have h15d : ¬ (15 : Int) < r.length + 1 + 1 + P.length := by simp at h15b; omega
            have HF := Lib.hid (show fmtB true (48 :: y :: r) P = false from by unfold fmtB; exact decide_eq_false (fun h => h.2.2.2.2.2 ⟨rfl, by simp⟩))
            clear hp0 hp6 hp15
            go_wp2_with fail
            go_meet
            case rel => exact ⟨by rw [HF.out]; rfl, rfl⟩
        · have hx48 : ((x.toNat : Int) == 48) = false := by
            have : x.toNat ≠ 48 := fun e => hx (UInt8.toNat.inj (by rw [e]; rfl))
            simp; omega
          have HF := Lib.hid (show fmtB true (x :: r) P = true from by unfold fmtB; exact decide_eq_true ⟨rfl, by simp, hp0, by omega, by simp; omega, fun h => hx (by simpa using h.1)⟩)
          clear hp0 hp6 hp15 hx
          go_wp2_with fail
          go_meet
          case rel => exact ⟨by rw [HF.out]; rfl, rfl⟩
  case rest =>
    obtain ⟨rfl, hwx⟩ := hcut
    have hwx' := hwx.symm
    subst hwx'
    clear hwx
    rcases hf : fmtB O X P with _ | _
    · have HK := Lib.hid (rp_bad (s := s) (by rw [HR.out.1, hf]; rfl))
      simp only [Bool.not_false]
      clear hf
      go_wp2_with fail
      go_ret2
      rw [HK.out.1, HK.out.2]
      exact ⟨rfl, HB.out⟩
    · simp only [Bool.not_true]
      have hfd : O = true ∧ X ≠ [] ∧ P ≠ [] ∧ P.length ≤ 6 ∧ X.length + P.length ≤ 15 ∧ ¬ (X.head? = some 48 ∧ X ≠ [48]) := by unfold fmtB at hf; exact of_decide_eq_true hf
      have hp6 : P.length ≤ 6 := hfd.2.2.2.1
      have hxp : X.length + P.length ≤ 15 := hfd.2.2.2.2.1
      have HFT := Lib.hid hf
      clear hf hfd
      obtain ⟨D, hD⟩ : ∃ D, D = X ++ P := ⟨_, rfl⟩
      have hDl : D.length ≤ 15 := by rw [hD, List.length_append]; omega
      have hsum : ∀ W, (Op.stringOp .add (str X) (str P)).run Try.prog W = .ok (.string (str D)) W := fun W => by
        have := run_string_add_sum (P := Try.prog) (w := W) (str X) (str P) (by rw [str_size, str_size]; omega)
        rw [this, str_append, hD]
      have HD := Lib.hid hD
      obtain ⟨n, hn⟩ : ∃ n, n = D.length := ⟨_, rfl⟩
      have kb := fun (w : World) (l : List UInt8) => Lib.run_convert_string_bytes (P := Try.prog) w 9 52 5 (str l) Try.underlying9 Try.underlying52 Try.underlying5
      have HN := Lib.hid hn
      clear hD hn
      go_wp2_with fail
      have hbw := bw_below w1 5 D
      have HS := Lib.hid (bw_slN w1 5 D n HN.out.symm)
      have HB2 := Lib.hid (below_then HB.out hbw)
      have hnl : n ≤ 15 := by rw [HN.out]; exact hDl
      clear hbw hsum kb
      generalize hk : w1.heap.size = k51 at *
      generalize (Lib.bytesWorld w1 5 (str D)) = W2 at *
      have HK1 := Lib.hid hk
      clear hk
      go_loopw [7, 53] (fun nv iv wr => ∃ k : Nat, k ≤ n ∧ nv = .int .i64 (decV (D.take k) : Nat) ∧ iv = .int .i64 k ∧ wr = W2 ∧ (D.take k).all digB = true) (fun _ iv _ => n - (intOf iv).toNat)
      case atStart => exact ⟨0, by omega, by simp [decV], rfl, rfl, by simp⟩
      case round =>
        obtain ⟨k, hk, rfl, rfl, rfl, hall⟩ := hrel
        have hnD : D.length = n := HN.out.symm
        by_cases hlt : k < n
        · have hkD : k < D.length := by omega
          obtain ⟨x, hx⟩ : ∃ x, D[k]? = some x := ⟨_, List.getElem?_eq_getElem hkD⟩
          obtain ⟨ad, u, hA, -, hu, hca⟩ := HS.out.at1 hlt
          have hu2 : u = .int .u8 (x.toNat : Int) := by
            have := hu
            unfold byt at this
            rw [List.getElem?_map, hx] at this
            exact (Option.some.inj this).symm
          subst hu2
          have hA' := Option.some.inj hA
          subst hA'
          have hca2 : wr.cell? ⟨k51, k, none⟩ = some (.int .u8 (x.toNat : Int)) := by
            have h := hca
            simp only [Addr.add, Nat.zero_add] at h
            split at h
            · rename_i h0
              rw [h0]
              exact h
            · exact h
          have htk : D.take (k + 1) = D.take k ++ [x] := by rw [List.take_add_one, hx]; rfl
          obtain ⟨V, hV⟩ : ∃ V, V = decV (D.take k) := ⟨_, rfl⟩
          have hVb : V < 10 ^ 15 := by
            have h1 := decV_lt _ hall
            rw [← hV, List.length_take] at h1
            exact Nat.lt_of_lt_of_le h1 (Nat.pow_le_pow_right (by omega) (by omega))
          have h1515 : (10 : Nat) ^ 15 = 1000000000000000 := by decide
          have hVi : (V : Int) ≤ 1000000000000000 := by omega
          clear h1515
          have hV0 : (0 : Int) ≤ V := by omega
          have hx255 : x.toNat ≤ 255 := by have := x.toNat_lt; omega
          have hki : (k : Int) < n := by omega
          rw [← hV]
          by_cases hx1 : (x.toNat : Int) < 48
          · have HK := Lib.hid (rp_bad (s := s) (by
              rw [HR.out.1, ← HD.out]
              have : D.all digB = false := List.all_eq_false.2 ⟨x, List.mem_of_getElem? hx, by unfold digB; simp; omega⟩
              rw [this]; simp))
            have HB := HB2
            clear hu hA hca hx htk hall hV hVb hnD
            go_wp2_with fail
            go_ret2
            rw [HK.out.1, HK.out.2]
            exact ⟨rfl, HB.out⟩
          by_cases hx2 : (57 : Int) < x.toNat
          · have HK := Lib.hid (rp_bad (s := s) (by
              rw [HR.out.1, ← HD.out]
              have : D.all digB = false := List.all_eq_false.2 ⟨x, List.mem_of_getElem? hx, by unfold digB; simp; omega⟩
              rw [this]; simp))
            have HB := HB2
            clear hu hA hca hx htk hall hV hVb hnD
            go_wp2_with fail
            go_ret2
            rw [HK.out.1, HK.out.2]
            exact ⟨rfl, HB.out⟩
          · have HT := Lib.hid (show ((10 * V + (x.toNat - 48) : Nat) : Int) = ((decV (D.take (k + 1)) : Nat) : Int) ∧ (D.take (k + 1)).all digB = true from by
              refine ⟨by rw [htk, decV_succ, ← hV], ?_⟩
              rw [htk, List.all_append, hall]
              have : digB x = true := by unfold digB; exact decide_eq_true ⟨by omega, by omega⟩
              simp [this])
            have hx3 : (48 : Int) ≤ x.toNat := by omega
            have hx4 : (x.toNat : Int) ≤ 57 := by omega
            clear hu hA hca hx htk hall hV hVb hnD hx1
            go_wp2_with fail
            go_roundw
            case rel => exact ⟨k + 1, by omega, by rw [← HT.out.1]; congr 1; omega, by go_num, trivial, HT.out.2⟩
            case measure => simp [intOf]; omega
        · have hkn : k = n := by omega
          have hld : ¬ k < D.length := by omega
          have htk : D.take k = D := List.take_of_length_le (by omega)
          rw [htk] at hall ⊢
          have HOK := Lib.hid (show rpB s = arN .quo (floatOfInt .f64 (decV D)) (powT P.length) ∧ rpF s = 0 from by
            have hok : rpOk s = true := by rw [HR.out.1, HFT.out, ← HD.out, hall]; rfl
            rw [HR.out.2, if_pos hok, ← HD.out]
            unfold rpF
            rw [if_pos hok]
            exact ⟨rfl, rfl⟩)
          clear htk hall hnD hk hkn
          cases h : floatBits .quo .f64 (floatOfInt .f64 (decV D)) (powT P.length) with
          | some r =>
            have hrun := fun w t => run_float_arith (P := Try.prog) w .quo t .f64 _ _ _ h
            have HE := Lib.hid (show arN .quo (floatOfInt .f64 (decV D)) (powT P.length) = toN r by simp [arN, h])
            clear h
            go_wp2_with (first
              | (go_at_call 23; refine (rpowers_any P.length hp6 _).mono ?_; rintro e w' ⟨rfl, rfl⟩)
              | (go_at_call 22; refine (pto_any _ _).mono ?_; rintro e w' ⟨rfl, rfl⟩))
            go_ret2
            rw [HOK.out.1, HOK.out.2, HE.out]
            exact ⟨rfl, HB2.out⟩
          | none =>
            obtain ⟨r, hrun, hnan⟩ := run_float_nan (P := Try.prog) wr .quo 54 _ _ (.inr (.inr (.inr rfl))) h
            have HE := Lib.hid (show arN .quo (floatOfInt .f64 (decV D)) (powT P.length) = toN r by simp [arN, h, toN, hnan])
            clear h hnan
            go_wp2_with (first
              | (go_at_call 23; refine (rpowers_any P.length hp6 _).mono ?_; rintro e w' ⟨rfl, rfl⟩)
              | (go_at_call 22; refine (pto_any _ _).mono ?_; rintro e w' ⟨rfl, rfl⟩))
            go_ret2
            rw [HOK.out.1, HOK.out.2, HE.out]
            exact ⟨rfl, HB2.out.drew⟩
end Go.Proofs.Ytiacalnkmnckjaa
