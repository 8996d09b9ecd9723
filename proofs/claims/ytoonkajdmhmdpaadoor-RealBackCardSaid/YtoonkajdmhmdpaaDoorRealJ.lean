/- What Print of a real answers, the program's: the walk. Conditions: those in the theorem. -/
import Derived.Test.YtoonkajdmhmdpaaDoorRealI
namespace Go.Proofs.YtoonkajdmhmdpaaDoor
open Go.RowKit Go.As
set_option linter.unusedVariables false

theorem kof (a : Nat) (w : World) : Calls Tryd.prog 28 #[.int .u64 (a : Int)] w fun e w' => e = .returned (.float .f64 a) ∧ w = w' := by
  have := pof_any (a : Int) w
  rw [Int.toNat_natCast] at this
  exact this
set_option maxRecDepth 100000 in
set_option maxHeartbeats 3200000 in
theorem rprint_any (b : Nat) (hb : b < 18446744073709551616) (w : World) (ht : Tab w) :
    Calls Tryd.prog 24 #[.int .u64 (b : Int)] w fun e w' => ∃ s z, e = .returned (.tuple #[.string (str s), .int .i64 z]) ∧ PSpec (toN b) s z ∧ Below w.heap.size w w' := by
  obtain ⟨c, hc⟩ : ∃ c, c = toN b := ⟨_, rfl⟩
  have hcl : c < 18446744073709551616 := by
    rw [hc]; unfold toN; split <;> omega
  have g1 := fun W => kcanon (a := b) (r := c) W hc.symm
  have g2 := fun W => kof c W
  have HPS := Lib.hid hc
  rw [← hc]
  clear hc hb
  have hord := nanW_iff c
  cases hnan : nanW c with
  | true =>
    have HNL := Lib.hid (show ∀ k n, ¬ LitIs c k n from fun k n h => by have := h.bound.2.1; rw [hnan] at this; cases this)
    rw [hnan, if_pos rfl] at hord
    clear hnan hcl
    go_enter Tryd.func24, Tryd.ntmps24
    go_wp2_with (first
      | (go_at_call 13; (with_reducible refine (g1 _).mono ?_); rintro e w' ⟨rfl, rfl⟩)
      | (go_at_call 28; (with_reducible refine (g2 _).mono ?_); rintro e w' ⟨rfl, rfl⟩))
    go_ret2
    exact ⟨[], 2, rfl, .inr ⟨rfl, rfl, HNL.out⟩, Below.refl _ _⟩
  | false =>
    rw [hnan, if_neg (by decide)] at hord
    by_cases h63 : c < 9223372036854775808
    · have i63 : ¬ (9223372036854775808 : Int) ≤ c := by omega
      have horder := fun (h : fd.order c w15 ≠ some .lt) => (fun k n hl => h (LitIs.bound hl).1 : ∀ k n, ¬ LitIs c k n)
      obtain ⟨B, hB⟩ := big_is
      have hov := order_val hB (x := c) (y := w15) hnan (by decide)
      rcases hcmp : compare (val B (fd.read c)) (val B (fd.read w15)) with _ | _ | _
      · -- below the bound
        rw [hcmp] at hov
        have ho : FloatKind.f64.format.order c 4831355200913801216 = some .lt := hov
        have hnum : ∃ m i, fd.read c = .number false m i := by
          cases hr : fd.read c with
          | nan s p => unfold nanW at hnan; rw [hr] at hnan; cases hnan
          | infinity s =>
            cases s with
            | true =>
              have h1 := read_inf hcl hr
              rw [fd_inf] at h1
              unfold Ieee.Format.word at h1
              rw [if_pos rfl, fd_sw] at h1
              omega
            | false =>
              have h1 : fd.order c w15 = some .gt := by
                unfold Ieee.Format.order
                rw [hr, w15_read]
                simp only [Ieee.Datum.order, Bool.false_eq_true, if_false]
              exact absurd (hov.symm.trans h1) (by decide)
          | number s m i =>
            cases s with
            | false => exact ⟨m, i, rfl⟩
            | true =>
              have := (read_canon hcl hr).1
              unfold Ieee.Format.word at this
              rw [if_pos rfl, fd_sw] at this
              omega
        obtain ⟨m, i, hrd⟩ := hnum
        have HLT := Lib.hid (And.intro hrd hov)
        have I63 := Lib.hid i63
        clear hov hcmp hrd hnan h63 hcl horder hB
        go_enter Tryd.func24, Tryd.ntmps24
        go_upto_region 3 with (first
          | (go_at_call 13; (with_reducible refine (g1 _).mono ?_); rintro e w' ⟨rfl, rfl⟩)
          | (go_at_call 28; (with_reducible refine (g2 _).mono ?_); rintro e w' ⟨rfl, rfl⟩))
        go_cut [26] (fun sv wx => sv = .bool false ∧ wx = w)
        case first =>
          go_wp2_with fail
          go_meet
          case rel => exact ⟨by rw [decide_eq_false (by have := I63.out; omega)], rfl⟩
        case rest =>
          obtain ⟨rfl, hwx⟩ := hcut
          have hwx' := hwx.symm
          subst hwx'
          clear hwx i63
          go_wp2_with fail
          go_loopw [5] (fun kv wr => ∃ k : Nat, 1 ≤ k ∧ k ≤ 7 ∧ kv = .int .i64 k ∧ Below w.heap.size w wr ∧ NoLit c k) (fun kv _ => 7 - (intOf kv).toNat)
          case atStart => exact ⟨1, by omega, by omega, rfl, Below.refl _ _, noLit_one c⟩
          case round =>
            obtain ⟨k, hk1, hk7, rfl, hbw, hnl⟩ := hrel
            have HB := Lib.hid hbw
            have HN := Lib.hid hnl
            clear hbw hnl
            by_cases hk6 : k ≤ 6
            · have ik6 : (k : Int) ≤ 6 := by omega
              have hwk : IntKind.i64.wrap ((k : Int) + 1) = (k : Int) + 1 := by rw [IntKind.wrap_i64]; omega
              obtain ⟨r, c', e', hmul, hread⟩ := prod_gen HLT.out.1 HLT.out.2 hk1 hk6
              have hrn : nanW r = false := by unfold nanW; rw [hread]; rfl
              have hrun := fun w t => run_float_arith (P := Tryd.prog) w .mul t .f64 _ _ _ hmul
              have hfl := floor_or hread
              have hflo := floor_any r hrn
              obtain ⟨N, hN⟩ : ∃ N, N = flW r := ⟨_, rfl⟩
              rw [← hN] at hfl
              have HF := Lib.hid (show ∀ W, Calls Tryd.prog 34 #[.float .f64 r] W fun e w' => e = .returned (.float .f64 N) ∧ W = w' from fun W => by rw [hN]; exact hflo W)
              have HMU := Lib.hid hmul
              by_cases hgt : fd.order N w15 = some .gt
              · have hog : FloatKind.f64.format.order N 4831355200913801216 = some .gt := hgt
                have HNL := Lib.hid (noLit_great hk1 hmul HN.out (fun V hV hI => gt_not hV (by rw [hN]; exact hI) hgt))
                clear hmul hread hrn hfl hflo hN hgt
                go_wp2_with (first
                  | (go_at_call 31; refine (rpowers_any k (by omega) _).mono ?_; rintro e w' ⟨rfl, rfl⟩)
                  | (go_at_call 34; (with_reducible refine (HF.out _).mono ?_); rintro e w' ⟨rfl, rfl⟩))
                go_ret2
                exact ⟨[], 2, rfl, .inr ⟨rfl, rfl, HNL.out⟩, HB.out⟩
              · obtain ⟨V, hV53, hI⟩ : ∃ V : Nat, V < 9007199254740992 ∧ IsI N V := by
                  rcases hfl with ⟨h1, h2⟩ | ⟨_, h2, _⟩
                  · exact ⟨_, h1, h2⟩
                  · exact absurd h2 hgt
                have hV15 : V ≤ 1000000000000000 := by
                  rw [isI_order hI w15_int] at hgt
                  rcases Nat.lt_or_ge 1000000000000000 V with h | h
                  · exfalso
                    apply hgt
                    rw [Int.compare_eq_gt.2 (by omega)]
                  · exact h
                have hon : ∃ o, FloatKind.f64.format.order N 4831355200913801216 = some o ∧ o ≠ .gt := ⟨_, isI_order hI w15_int, fun e => hgt (by rw [isI_order hI w15_int, e])⟩
                obtain ⟨o, hoo, hog⟩ := hon
                have hob : ((some o : Option Ordering) == some .gt) = false := by cases o <;> first | rfl | exact absurd rfl hog
                have hcv : ∀ w, (convert 43 3 (.float .f64 N)).run Tryd.prog w = .ok (.int .i64 (V : Int)) w := fun w => run_convert_float_int (P := Tryd.prog) w 43 3 .f64 .i64 N V (by kernel_rfl) Tryd.underlying3 (by
                  unfold floatToIntVal FloatKind.decode
                  rw [show (FloatKind.f64.format.read N).toInt .zero = some (V : Int) from isI_toInt hI]
                  have e1 : IntKind.i64.min = -9223372036854775808 := by decide
                  have e2 : IntKind.i64.max = 9223372036854775807 := by decide
                  simp only [e1, e2]
                  rw [if_pos ⟨by omega, by omega⟩])
                have HFL := Lib.hid (show ∀ n, LitIs c k n → n = V ∨ n = V + 1 from fun n hl => by
                  obtain ⟨r', V', e1, _, e3, e4⟩ := hl.floor
                  rw [HMU.out] at e1
                  injection e1 with e1
                  subst e1
                  rw [← hN] at e3
                  have := isI_inj hI e3
                  omega)
                have hv1 : IntKind.i64.wrap ((V : Int) - 1) = (V : Int) - 1 := by rw [IntKind.wrap_i64]; omega
                have hv2 : IntKind.i64.wrap ((V : Int) + 1) = (V : Int) + 1 := by rw [IntKind.wrap_i64]; omega
                have harr := run_arr3 V
                clear hmul hread hrn hfl hflo hN hgt hI hog hV53
                go_wp2_with (first
                  | (go_at_call 31; refine (rpowers_any k (by omega) _).mono ?_; rintro e w' ⟨rfl, rfl⟩)
                  | (go_at_call 34; (with_reducible refine (HF.out _).mono ?_); rintro e w' ⟨rfl, rfl⟩))
                go_loopw [47] (fun xv wq => ∃ j : Nat, j ≤ 3 ∧ xv = .int .i64 j ∧ Below w.heap.size w wq ∧ ∀ i : Nat, i < j → ∀ m : Nat, (m : Int) = (V : Int) - 1 + (i : Int) → ¬ LitIs c k m) (fun xv _ => 3 - (intOf xv).toNat)
                case atStart => exact ⟨0, by omega, rfl, HB.out, fun i hi => by omega⟩
                case round =>
                  obtain ⟨j, hj3, rfl, hbq, htried⟩ := hrel
                  have HQ := Lib.hid hbq
                  have HT := Lib.hid htried
                  clear hbq htried
                  by_cases hj : j < 3
                  · have ij : (j : Int) < 3 := by omega
                    have hat := run_at V j hj
                    have hwj : IntKind.i64.wrap ((j : Int) + 1) = (j : Int) + 1 := by rw [IntKind.wrap_i64]; omega
                    by_cases hneg : (V : Int) - 1 + (j : Int) < 0
                    · have HJ := Lib.hid (show ∀ i : Nat, i < j + 1 → ∀ m : Nat, (m : Int) = (V : Int) - 1 + (i : Int) → ¬ LitIs c k m from fun i hi m hm => by omega)
                      go_wp2_with fail
                      go_roundw
                      case rel => exact ⟨j + 1, by omega, by go_num, HQ.out, HJ.out⟩
                      case measure => simp [intOf]; omega
                    · obtain ⟨m, hm⟩ : ∃ m : Nat, (m : Int) = (V : Int) - 1 + (j : Int) := ⟨((V : Int) - 1 + (j : Int)).toNat, by omega⟩
                      rw [← hm] at hat hneg
                      have hm16 : m < 10000000000000000 := by omega
                      have hls := lit_short hm16 hk6
                      have hstep := fun (hno : ¬ LitIs c k m) => (fun i hi m' hm' => by
                        rcases Nat.lt_or_ge i j with h | h
                        · exact HT.out i h m' hm'
                        · have : i = j := by omega
                          subst this
                          have : m' = m := by omega
                          subst this
                          exact hno : ∀ i : Nat, i < j + 1 → ∀ m' : Nat, (m' : Int) = (V : Int) - 1 + (i : Int) → ¬ LitIs c k m')
                      obtain ⟨L, hL⟩ : ∃ L, L = litS m k := ⟨_, rfl⟩
                      have HLt := Lib.hid (show ∀ W, Tab W → Calls Tryd.prog 35 #[.int .i64 (m : Int), .int .i64 (k : Int)] W fun e w' => e = .returned (.string (str L)) ∧ Below W.heap.size W w' from fun W hW => by rw [hL]; exact literal_any m k hm16 hk1 hk6 W hW)
                      have HTB := Lib.hid (ht.below HQ.out)
                      obtain ⟨qv, hqv⟩ : ∃ qv, qv = rpB L := ⟨_, rfl⟩
                      obtain ⟨qz, hqz⟩ : ∃ qz, qz = rpF L := ⟨_, rfl⟩
                      have HPr := Lib.hid (show ∀ W, Calls Tryd.prog 22 #[.string (str L)] W fun e w' => e = .returned (.tuple #[.int .u64 (qv : Int), .int .i64 qz]) ∧ Below W.heap.size W w' from fun W => by rw [hqv, hqz]; exact rparse_any L (by rw [hL]; exact hls) W)
                      have hnn : ¬ (m : Int) < 0 := by omega
                      have hcp := cand_parse m k hk1 hk6
                      rw [← hL, ← hqv, ← hqz] at hcp
                      rcases hcp with ⟨h15, hq1, hq2⟩ | ⟨h15, hq1, hq2⟩
                      · by_cases hqc : qv = c
                        · have HFound := Lib.hid (show PSpec c L 0 from .inl ⟨rfl, k, m, ⟨hk1, hk6, h15, by rw [← hq1, hqc]⟩, hL, HN.out⟩)
                          have hqb : ((qv : Int) == c) = true := beq_iff_eq.2 (by omega)
                          subst hq2
                          clear hm hm16 hls hstep hL hqv hqz hneg h15 hq1 hqc
                          go_wp2_with (first
                            | (go_at_call 35
                               go_must ((with_reducible refine (HLt.out _ HTB.out).mono ?_)
                                        rintro e w2 ⟨rfl, hb2⟩
                                        have HQ1 := Lib.hid (below_then HQ.out hb2)
                                        clear hb2))
                            | (go_at_call 22
                               go_must ((with_reducible refine (HPr.out _).mono ?_)
                                        rintro e w3 ⟨rfl, hb3⟩
                                        have HQ2 := Lib.hid (below_then HQ1.out hb3)
                                        clear hb3)))
                          go_ret2
                          exact ⟨L, 0, rfl, HFound.out, HQ2.out⟩
                        · have hqb : ((qv : Int) == c) = false := beq_false_of_ne (by omega)
                          have HJ := Lib.hid (hstep (fun hl => hqc (by rw [hq1]; exact hl.2.2.2)))
                          subst hq2
                          clear hm hm16 hls hstep hL hqv hqz hneg h15 hq1 hqc
                          go_wp2_with (first
                            | (go_at_call 35
                               go_must ((with_reducible refine (HLt.out _ HTB.out).mono ?_)
                                        rintro e w2 ⟨rfl, hb2⟩
                                        have HQ1 := Lib.hid (below_then HQ.out hb2)
                                        clear hb2))
                            | (go_at_call 22
                               go_must ((with_reducible refine (HPr.out _).mono ?_)
                                        rintro e w3 ⟨rfl, hb3⟩
                                        have HQ2 := Lib.hid (below_then HQ1.out hb3)
                                        clear hb3)))
                          go_roundw
                          case rel => exact ⟨j + 1, by omega, by go_num, HQ2.out, HJ.out⟩
                          case measure => simp [intOf]; omega
                      · have HJ := Lib.hid (hstep (fun hl => by have := hl.2.2.1; omega))
                        subst hq2
                        clear hm hm16 hls hstep hL hqv hqz hneg h15 hq1
                        go_wp2_with (first
                          | (go_at_call 35
                             go_must ((with_reducible refine (HLt.out _ HTB.out).mono ?_)
                                      rintro e w2 ⟨rfl, hb2⟩
                                      have HQ1 := Lib.hid (below_then HQ.out hb2)
                                      clear hb2))
                          | (go_at_call 22
                             go_must ((with_reducible refine (HPr.out _).mono ?_)
                                      rintro e w3 ⟨rfl, hb3⟩
                                      have HQ2 := Lib.hid (below_then HQ1.out hb3)
                                      clear hb3)))
                        go_roundw
                        case rel => exact ⟨j + 1, by omega, by go_num, HQ2.out, HJ.out⟩
                        case measure => simp [intOf]; omega
                  · have ij : ¬ (j : Int) < 3 := by omega
                    have hj' : j = 3 := by omega
                    have HNN := Lib.hid (noLit_succ HN.out (fun n hl => by
                      rcases HFL.out n hl with e | e
                      · exact HT.out 1 (by omega) n (by omega) hl
                      · exact HT.out 2 (by omega) n (by omega) hl))
                    clear hj'
                    go_wp2_with fail
                    go_roundw
                    case rel => exact ⟨k + 1, by omega, by omega, by go_num, HQ.out, HNN.out⟩
                    case measure => simp [intOf]; omega
            · have ik6 : ¬ (k : Int) ≤ 6 := by omega
              have hk7' : k = 7 := by omega
              have HNL := Lib.hid (noLit_all (hk7' ▸ HN.out))
              clear hk7'
              go_wp2_with fail
              go_ret2
              exact ⟨[], 2, rfl, .inr ⟨rfl, rfl, HNL.out⟩, HB.out⟩
      · rw [hcmp] at hov
        have ho : FloatKind.f64.format.order c 4831355200913801216 = some .eq := hov
        have HNL := Lib.hid (horder (by rw [hov]; simp))
        clear hov hcmp horder hB hnan hcl h63
        go_enter Tryd.func24, Tryd.ntmps24
        go_wp2_with (first
          | (go_at_call 13; (with_reducible refine (g1 _).mono ?_); rintro e w' ⟨rfl, rfl⟩)
          | (go_at_call 28; (with_reducible refine (g2 _).mono ?_); rintro e w' ⟨rfl, rfl⟩))
        go_ret2
        exact ⟨[], 2, rfl, .inr ⟨rfl, rfl, HNL.out⟩, Below.refl _ _⟩
      · rw [hcmp] at hov
        have ho : FloatKind.f64.format.order c 4831355200913801216 = some .gt := hov
        have HNL := Lib.hid (horder (by rw [hov]; simp))
        clear hov hcmp horder hB hnan hcl h63
        go_enter Tryd.func24, Tryd.ntmps24
        go_wp2_with (first
          | (go_at_call 13; (with_reducible refine (g1 _).mono ?_); rintro e w' ⟨rfl, rfl⟩)
          | (go_at_call 28; (with_reducible refine (g2 _).mono ?_); rintro e w' ⟨rfl, rfl⟩))
        go_ret2
        exact ⟨[], 2, rfl, .inr ⟨rfl, rfl, HNL.out⟩, Below.refl _ _⟩
    · have i63 : (9223372036854775808 : Int) ≤ c := by omega
      have HNL := Lib.hid (show ∀ k n, ¬ LitIs c k n from fun k n h => h63 h.bound.2.2)
      clear h63 hcl hnan
      go_enter Tryd.func24, Tryd.ntmps24
      go_wp2_with (first
        | (go_at_call 13; (with_reducible refine (g1 _).mono ?_); rintro e w' ⟨rfl, rfl⟩)
        | (go_at_call 28; (with_reducible refine (g2 _).mono ?_); rintro e w' ⟨rfl, rfl⟩))
      go_ret2
      exact ⟨[], 2, rfl, .inr ⟨rfl, rfl, HNL.out⟩, Below.refl _ _⟩
end Go.Proofs.YtoonkajdmhmdpaaDoor
