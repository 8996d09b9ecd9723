/- What Print of a real answers, the document's: the walk. Conditions: those in the theorem. -/
import Derived.Test.YtoonkajdmhmdpaaDoorRealT
import Derived.Test.YtoonkajdmhmdpaaDoorRealJ
namespace Go.Proofs.YtoonkajdmhmdpaaDoor
open Go.RowKit Go.As
set_option linter.unusedVariables false

set_option maxRecDepth 100000 in
set_option maxHeartbeats 3200000 in
theorem qprint_any (b : Nat) (hb : b < 18446744073709551616) (w : World) :
    Calls Tryd.prog 25 #[.int .u64 (b : Int)] w fun e w' => ∃ s z, e = .returned (.tuple #[.string (str s), .int .i64 z]) ∧ PSpec (toN b) s z ∧ Below w.heap.size w w' := by
  obtain ⟨c, hc⟩ : ∃ c, c = toN b := ⟨_, rfl⟩
  have hcl : c < 18446744073709551616 := by
    rw [hc]; unfold toN; split <;> omega
  have g1 := fun W => qcanon' (a := b) (r := c) W hc.symm
  have g2 := fun W => qof' c W
  have hcc : toN c = c := by rw [hc, toN_toN]
  rw [← hc]
  clear hc hb
  cases hnan : nanW c with
  | true =>
    have HNL := Lib.hid (show ∀ k n, ¬ LitIs c k n from fun k n h => by have := h.bound.2.1; rw [hnan] at this; cases this)
    rw [toN_nanW hnan] at hcc
    have hq : ((c : Int) == 9221120237041090560) = true := beq_iff_eq.2 (by omega)
    clear hnan hcl hcc
    go_enter Tryd.func25, Tryd.ntmps25
    go_wp2_with (first
      | (go_at_call 36; (with_reducible refine (g1 _).mono ?_); rintro e w' ⟨rfl, rfl⟩)
      | (go_at_call 37; (with_reducible refine (g2 _).mono ?_); rintro e w' ⟨rfl, rfl⟩))
    go_ret2
    exact ⟨[], 2, rfl, .inr ⟨rfl, rfl, HNL.out⟩, Below.refl _ _⟩
  | false =>
    have hne : c ≠ 9221120237041090560 := fun e => by rw [e, nan_lit] at hnan; cases hnan
    have hq : ((c : Int) == 9221120237041090560) = false := beq_false_of_ne (by omega)
    clear hcc hne
    by_cases h63 : c < 9223372036854775808
    · have hsh : (c : Int) / 9223372036854775808 = 0 := by omega
      have horder := fun (h : fd.order c w15 ≠ some .lt) => (fun k n hl => h (LitIs.bound hl).1 : ∀ k n, ¬ LitIs c k n)
      obtain ⟨B, hB⟩ := big_is
      have hov := order_val hB (x := c) (y := w15) hnan (by decide)
      rcases hcmp : compare (val B (fd.read c)) (val B (fd.read w15)) with _ | _ | _
      · rw [hcmp] at hov
        have ho : FloatKind.f64.format.order c 4831355200913801216 = some .lt := hov
        have hnum : ∃ m i, fd.read c = .number false m i := by
          cases hr : fd.read c with
          | nan s p => unfold nanW at hnan; rw [hr] at hnan; cases hnan
          | infinity s =>
            cases s with
            | true =>
              have h1 := read_inf hcl hr
              rw [fd_inf] at h1
              unfold Ieee.Format.word at h1
              rw [if_pos rfl, fd_sw] at h1
              omega
            | false =>
              have h1 : fd.order c w15 = some .gt := by
                unfold Ieee.Format.order
                rw [hr, w15_read]
                simp only [Ieee.Datum.order, Bool.false_eq_true, if_false]
              exact absurd (hov.symm.trans h1) (by decide)
          | number s m i =>
            cases s with
            | false => exact ⟨m, i, rfl⟩
            | true =>
              have := (read_canon hcl hr).1
              unfold Ieee.Format.word at this
              rw [if_pos rfl, fd_sw] at this
              omega
        obtain ⟨m, i, hrd⟩ := hnum
        have HLT := Lib.hid (And.intro hrd hov)
        clear hov hcmp hrd hnan h63 hcl horder hB
        go_enter Tryd.func25, Tryd.ntmps25
        go_wp2_with (first
          | (go_at_call 36; (with_reducible refine (g1 _).mono ?_); rintro e w' ⟨rfl, rfl⟩)
          | (go_at_call 37; (with_reducible refine (g2 _).mono ?_); rintro e w' ⟨rfl, rfl⟩))
        go_loopw [5, 6] (fun pv kv wr => ∃ k : Nat, 1 ≤ k ∧ k ≤ 7 ∧ pv = .int .i64 ((10 ^ (k - 1) : Nat) : Int) ∧ kv = .int .i64 k ∧ Below w.heap.size w wr ∧ NoLit c k) (fun _ kv _ => 7 - (intOf kv).toNat)
        case atStart => exact ⟨1, by omega, by omega, rfl, rfl, Below.refl _ _, noLit_one c⟩
        case round =>
          obtain ⟨k, hk1, hk7, rfl, rfl, hbw, hnl⟩ := hrel
          have HB := Lib.hid hbw
          have HN := Lib.hid hnl
          clear hbw hnl
          by_cases hk6 : k ≤ 6
          · have ik6 : (k : Int) ≤ 6 := by omega
            have hwk : IntKind.i64.wrap ((k : Int) + 1) = (k : Int) + 1 := by rw [IntKind.wrap_i64]; omega
            obtain ⟨P0, hP0⟩ : ∃ P0, P0 = 10 ^ (k - 1) := ⟨_, rfl⟩
            obtain ⟨P, hP⟩ : ∃ P, P = 10 ^ k := ⟨_, rfl⟩
            have hPP : P = 10 * P0 := by rw [hP, hP0, ← Nat.pow_succ']; congr 1; omega
            have hPle : P ≤ 1000000 := by
              rw [hP]
              have : (10 : Nat) ^ k ≤ 10 ^ 6 := Nat.pow_le_pow_right (by omega) hk6
              exact this
            have hPge : 10 ≤ P := by rw [hP]; exact pow10_ge hk1
            have hw10 : IntKind.i64.wrap (10 * (P0 : Int)) = (P : Int) := by rw [IntKind.wrap_i64]; omega
            have hpf : floatOfInt .f64 (P : Int) = powT k := by rw [hP]; exact powT_int hk6
            have HP := Lib.hid hP
            rw [← hP0]
            obtain ⟨r, c', e', hmul, hread⟩ := prod_gen HLT.out.1 HLT.out.2 hk1 hk6
            have hrn : nanW r = false := by unfold nanW; rw [hread]; rfl
            have hrun := fun w t => run_float_arith (P := Tryd.prog) w .mul t .f64 _ _ _ hmul
            have hfl := floor_or hread
            have hneg : (FloatKind.f64.decode r).neg = false := by
              show (fd.read r).neg = false
              rw [hread]; rfl
            obtain ⟨o, ho2⟩ : ∃ o, fd.order r w2e = some o := ⟨_, order_val big_is.choose_spec hrn (by decide)⟩
            have hmin := fun ts t w => min_run (P := Tryd.prog) ts t r o ho2 hneg w
            -- the whole part of the lesser
            have hM : ∃ M : Nat, M ≤ 2000000000000000 ∧ nanW (if o = .lt then r else w2e) = false ∧ IsI (flW (if o = .lt then r else w2e)) M ∧ ∀ n, LitIs c k n → n = M ∨ n = M + 1 := by
              by_cases hol : o = .lt
              · rw [if_pos hol]
                rw [hol] at ho2
                have hV := (whV_lt hread).1 ho2
                rcases hfl with ⟨_, h2⟩ | ⟨h2, _⟩
                · refine ⟨whV c' e', by omega, hrn, h2, fun n hl => ?_⟩
                  obtain ⟨r', V', e1, _, e3, e4⟩ := hl.floor
                  rw [hmul] at e1
                  injection e1 with e1
                  subst e1
                  have := isI_inj h2 e3
                  omega
                · omega
              · rw [if_neg hol]
                have hfw : IsI (flW w2e) ((2000000000000000 : Nat) : Int) := by
                  rcases floor_or w2e_read with ⟨_, h2⟩ | ⟨h2, _⟩
                  · have : whV 8000000000000000 (-2) = 2000000000000000 := by decide
                    rw [this] at h2
                    exact h2
                  · have : whV 8000000000000000 (-2) = 2000000000000000 := by decide
                    omega
                refine ⟨2000000000000000, by omega, by decide, hfw, fun n hl => ?_⟩
                exfalso
                obtain ⟨r', V', e1, _, e3, e4⟩ := hl.floor
                rw [hmul] at e1
                injection e1 with e1
                subst e1
                have hn15 := hl.2.2.1
                have : whV c' e' < 2000000000000000 := by
                  rcases hfl with ⟨_, h2⟩ | ⟨_, h2, _⟩
                  · have := isI_inj h2 e3
                    omega
                  · exact absurd h2 (gt_not (by omega) e3)
                have := (whV_lt hread).2 this
                rw [ho2] at this
                injection this with this
                exact hol this
            obtain ⟨M, hM2, hmn, hMI, hML⟩ := hM
            obtain ⟨Z, hZ⟩ : ∃ Z, Z = (if o = .lt then r else w2e) := ⟨_, rfl⟩
            rw [← hZ] at hmn hMI
            have hmin' : ∀ ts t w, (Builtin.min_ ts t #[.float .f64 r, .float .f64 4835858800541171712]).run Tryd.prog w = .ok (.float .f64 Z) w := fun ts t w => by rw [hZ]; exact hmin ts t w
            obtain ⟨N, hN⟩ : ∃ N, N = flW Z := ⟨_, rfl⟩
            rw [← hN] at hMI
            have HF := Lib.hid (show ∀ W, Calls Tryd.prog 34 #[.float .f64 Z] W fun e w' => e = .returned (.float .f64 N) ∧ W = w' from fun W => by rw [hN]; exact floor_any Z hmn W)
            have hcv : ∀ w, (convert 43 3 (.float .f64 N)).run Tryd.prog w = .ok (.int .i64 (M : Int)) w := fun w => run_convert_float_int (P := Tryd.prog) w 43 3 .f64 .i64 N M (by kernel_rfl) Tryd.underlying3 (by
              unfold floatToIntVal FloatKind.decode
              rw [show (FloatKind.f64.format.read N).toInt .zero = some (M : Int) from isI_toInt hMI]
              have e1 : IntKind.i64.min = -9223372036854775808 := by decide
              have e2 : IntKind.i64.max = 9223372036854775807 := by decide
              simp only [e1, e2]
              rw [if_pos ⟨by omega, by omega⟩])
            have HML := Lib.hid hML
            have hv1 : IntKind.i64.wrap ((M : Int) - 2) = (M : Int) - 2 := by rw [IntKind.wrap_i64]; omega
            have hv2 : IntKind.i64.wrap ((M : Int) + 2) = (M : Int) + 2 := by rw [IntKind.wrap_i64]; omega
            have hpow1 : ((10 ^ (k + 1 - 1) : Nat) : Int) = (P : Int) := by rw [Nat.add_sub_cancel, hP]
            have HPW := Lib.hid hpow1
            clear hP hP0 hPP hmul hread hrn hfl hneg ho2 hmin hmn hZ hN hMI hML hpow1
            go_wp2_with (go_at_call 34; (with_reducible refine (HF.out _).mono ?_); rintro e w' ⟨rfl, rfl⟩)
            go_loopw [8] (fun nv wq => ∃ n : Nat, M - 2 ≤ n ∧ n ≤ M + 3 ∧ nv = .int .i64 n ∧ Below w.heap.size w wq ∧ ∀ n' : Nat, M - 2 ≤ n' → n' < n → ¬ LitIs c k n') (fun nv _ => M + 3 - (intOf nv).toNat)
            case atStart => exact ⟨M - 2, by omega, by omega, congrArg (Value.int .i64) (by omega), HB.out, fun n' h1 h2 => by omega⟩
            case round =>
              obtain ⟨n, hn1, hn2, rfl, hbq, htried⟩ := hrel
              have HQ := Lib.hid hbq
              have HT := Lib.hid htried
              clear hbq htried
              by_cases hn : n ≤ M + 2
              · have jn : (n : Int) ≤ (M : Int) + 2 := by omega
                have hwn : IntKind.i64.wrap ((n : Int) + 1) = (n : Int) + 1 := by rw [IntKind.wrap_i64]; omega
                have hn16 : n < 10000000000000000 := by omega
                obtain ⟨q, hq2⟩ : ∃ q, q = n / P := ⟨_, rfl⟩
                obtain ⟨t, ht2⟩ : ∃ t, t = n % P := ⟨_, rfl⟩
                have hql : q ≤ n := by rw [hq2]; exact Nat.div_le_self _ _
                have t1 : Int.tdiv (n : Int) (P : Int) = (q : Int) := by rw [hq2]; exact (Int.ofNat_tdiv n P).symm
                have t2 : Int.tmod (n : Int) (P : Int) = (t : Int) := by rw [ht2]; exact (Int.ofNat_tmod n P).symm
                have t10 : P ≠ 0 := by omega
                have t11 : ¬ P = 0 := by omega
                have t6 : n / P = q := hq2.symm
                have t7 : n % P = t := ht2.symm
                have t8 : (n : Int) / (P : Int) = (q : Int) := by rw [hq2]; exact (Int.natCast_ediv n P).symm
                have t9 : (n : Int) % (P : Int) = (t : Int) := by rw [ht2]; exact (Int.natCast_emod n P).symm
                have t3 : IntKind.i64.wrap (q : Int) = (q : Int) := by rw [IntKind.wrap_i64]; omega
                have t4 : (P : Int) ≠ 0 := by omega
                have t5 : ((P : Int) == 0) = false := beq_false_of_ne t4
                obtain ⟨X, hX⟩ : ∃ X, X = Lib.decDigits q := ⟨_, rfl⟩
                obtain ⟨Y, hY⟩ : ∃ Y, Y = dgw k n := ⟨_, rfl⟩
                obtain ⟨L, hL⟩ : ∃ L, L = litS n k := ⟨_, rfl⟩
                have hLX : L = X ++ 46 :: Y := by rw [hL, hX, hY, hq2, HP.out]; rfl
                have hXl : X.length ≤ 16 := by
                  rw [hX, Lib.decDigits_length]
                  have : Lib.nDigits q ≤ 15 + 1 := nDigits_le (by omega)
                  omega
                have hYl : Y.length ≤ 6 := by rw [hY, dgw_length]; exact hk6
                have hLl : L.length ≤ 30 := by rw [hLX, List.length_append, List.length_cons]; omega
                have HD1 := Lib.hid (show ∀ W, Calls Tryd.prog 38 #[.int .i64 (q : Int), .int .i64 1] W fun e w' => e = .returned (.string (str X)) ∧ ∃ z, w' = W.drewN z from fun W => by rw [hX]; exact dec_one q (by omega) W)
                have HD2 := Lib.hid (show ∀ W, Calls Tryd.prog 38 #[.int .i64 (t : Int), .int .i64 (k : Int)] W fun e w' => e = .returned (.string (str Y)) ∧ ∃ z, w' = W.drewN z from fun W => by rw [hY, ht2, HP.out]; exact dec_pad n k hk1 hk6 W)
                have hs1 : ∀ W, (Op.stringOp .add (str X) (str [46])).run Tryd.prog W = .ok (.string (str (X ++ [46]))) W := fun W => by
                  rw [run_string_add_sum (P := Tryd.prog) (w := W) (str X) (str [46]) (by rw [str_size, str_size]; simp; omega), str_append]
                have hs2 : ∀ W, (Op.stringOp .add (str (X ++ [46])) (str Y)).run Tryd.prog W = .ok (.string (str L)) W := fun W => by
                  rw [run_string_add_sum (P := Tryd.prog) (w := W) (str (X ++ [46])) (str Y) (by rw [str_size, str_size]; simp; omega), str_append, List.append_assoc, hLX]; rfl
                have hstep := fun (hno : ¬ LitIs c k n) => (fun n' h1 h2 => by
                  rcases Nat.lt_or_ge n' n with h | h
                  · exact HT.out n' h1 h
                  · have : n' = n := by omega
                    subst this
                    exact hno : ∀ n' : Nat, M - 2 ≤ n' → n' < n + 1 → ¬ LitIs c k n')
                obtain ⟨qv, hqv⟩ : ∃ qv, qv = rpB L := ⟨_, rfl⟩
                obtain ⟨qz, hqz⟩ : ∃ qz, qz = rpF L := ⟨_, rfl⟩
                have HPr := Lib.hid (show ∀ W, Calls Tryd.prog 23 #[.string (str L)] W fun e w' => e = .returned (.tuple #[.int .u64 (qv : Int), .int .i64 qz]) ∧ W = w' from fun W => by rw [hqv, hqz]; exact qparse_any L (by omega) W)
                have hcp := cand_parse n k hk1 hk6
                rw [← hL, ← hqv, ← hqz] at hcp
                rcases hcp with ⟨h15, hq1, hqz2⟩ | ⟨h15, hq1, hqz2⟩
                · by_cases hqc : qv = c
                  · have HFound := Lib.hid (show PSpec c L 0 from .inl ⟨rfl, k, n, ⟨hk1, hk6, h15, by rw [← hq1, hqc]⟩, hL, HN.out⟩)
                    have hqb : ((qv : Int) == c) = true := beq_iff_eq.2 (by omega)
                    subst hqz2
                    clear hq2 ht2 hql hX hY hL hLX hXl hYl hLl hstep hqv hqz h15 hq1 hqc hn hn16
                    go_wp2_with fail
                    go_quiet (first
                      | (go_at_call 38; first | (with_reducible exact Calls.quiet_of (HD1.out _)) | (with_reducible exact Calls.quiet_of (HD2.out _))))
                    go_wp2_with (go_at_call 23
                                 go_must ((with_reducible refine (HPr.out _).mono ?_)
                                          rintro e w3 ⟨rfl, hw3⟩
                                          have HQ2 := Lib.hid (show Below w.heap.size w w3 from by rw [← hw3]; exact below_drewN HQ.out _)
                                          clear hw3))
                    go_ret2
                    exact ⟨L, 0, rfl, HFound.out, HQ2.out⟩
                  · have hqb : ((qv : Int) == c) = false := beq_false_of_ne (by omega)
                    have HJ := Lib.hid (hstep (fun hl => hqc (by rw [hq1]; exact hl.2.2.2)))
                    subst hqz2
                    clear hq2 ht2 hql hX hY hL hLX hXl hYl hLl hstep hqv hqz h15 hq1 hqc hn hn16
                    go_wp2_with fail
                    go_quiet (first
                      | (go_at_call 38; first | (with_reducible exact Calls.quiet_of (HD1.out _)) | (with_reducible exact Calls.quiet_of (HD2.out _))))
                    go_wp2_with (go_at_call 23
                                 go_must ((with_reducible refine (HPr.out _).mono ?_)
                                          rintro e w3 ⟨rfl, hw3⟩
                                          have HQ2 := Lib.hid (show Below w.heap.size w w3 from by rw [← hw3]; exact below_drewN HQ.out _)
                                          clear hw3))
                    go_roundw
                    case rel => exact ⟨n + 1, by omega, by omega, by go_num, HQ2.out, HJ.out⟩
                    case measure => simp [intOf]; omega
                · have HJ := Lib.hid (hstep (fun hl => by have := hl.2.2.1; omega))
                  subst hqz2
                  clear hq2 ht2 hql hX hY hL hLX hXl hYl hLl hstep hqv hqz h15 hq1 hn hn16
                  go_wp2_with fail
                  go_quiet (first
                    | (go_at_call 38; first | (with_reducible exact Calls.quiet_of (HD1.out _)) | (with_reducible exact Calls.quiet_of (HD2.out _))))
                  go_wp2_with (go_at_call 23
                               go_must ((with_reducible refine (HPr.out _).mono ?_)
                                        rintro e w3 ⟨rfl, hw3⟩
                                        have HQ2 := Lib.hid (show Below w.heap.size w w3 from by rw [← hw3]; exact below_drewN HQ.out _)
                                        clear hw3))
                  go_roundw
                  case rel => exact ⟨n + 1, by omega, by omega, by go_num, HQ2.out, HJ.out⟩
                  case measure => simp [intOf]; omega
              · have jn : ¬ (n : Int) ≤ (M : Int) + 2 := by omega
                have HNN := Lib.hid (noLit_succ HN.out (fun n' hl => by
                  rcases HML.out n' hl with e | e
                  · exact HT.out n' (by omega) (by omega) hl
                  · exact HT.out n' (by omega) (by omega) hl))
                clear hn
                go_wp2_with fail
                go_roundw
                case rel => exact ⟨k + 1, by omega, by omega, by rw [HPW.out], by go_num, HQ.out, HNN.out⟩
                case measure => simp [intOf]; omega
          · have ik6 : ¬ (k : Int) ≤ 6 := by omega
            have hk7' : k = 7 := by omega
            have HNL := Lib.hid (noLit_all (hk7' ▸ HN.out))
            clear hk7'
            go_wp2_with fail
            go_ret2
            exact ⟨[], 2, rfl, .inr ⟨rfl, rfl, HNL.out⟩, HB.out⟩
      · rw [hcmp] at hov
        have ho : FloatKind.f64.format.order c 4831355200913801216 = some .eq := hov
        have HNL := Lib.hid (horder (by rw [hov]; simp))
        clear hov hcmp horder hB hnan hcl h63
        go_enter Tryd.func25, Tryd.ntmps25
        go_wp2_with (first
          | (go_at_call 36; (with_reducible refine (g1 _).mono ?_); rintro e w' ⟨rfl, rfl⟩)
          | (go_at_call 37; (with_reducible refine (g2 _).mono ?_); rintro e w' ⟨rfl, rfl⟩))
        go_ret2
        exact ⟨[], 2, rfl, .inr ⟨rfl, rfl, HNL.out⟩, Below.refl _ _⟩
      · rw [hcmp] at hov
        have ho : FloatKind.f64.format.order c 4831355200913801216 = some .gt := hov
        have HNL := Lib.hid (horder (by rw [hov]; simp))
        clear hov hcmp horder hB hnan hcl h63
        go_enter Tryd.func25, Tryd.ntmps25
        go_wp2_with (first
          | (go_at_call 36; (with_reducible refine (g1 _).mono ?_); rintro e w' ⟨rfl, rfl⟩)
          | (go_at_call 37; (with_reducible refine (g2 _).mono ?_); rintro e w' ⟨rfl, rfl⟩))
        go_ret2
        exact ⟨[], 2, rfl, .inr ⟨rfl, rfl, HNL.out⟩, Below.refl _ _⟩
    · have hsh : (c : Int) / 9223372036854775808 = 1 := by omega
      have HNL := Lib.hid (show ∀ k n, ¬ LitIs c k n from fun k n h => h63 h.bound.2.2)
      clear h63 hcl hnan
      go_enter Tryd.func25, Tryd.ntmps25
      go_wp2_with (first
        | (go_at_call 36; (with_reducible refine (g1 _).mono ?_); rintro e w' ⟨rfl, rfl⟩)
        | (go_at_call 37; (with_reducible refine (g2 _).mono ?_); rintro e w' ⟨rfl, rfl⟩))
      go_ret2
      exact ⟨[], 2, rfl, .inr ⟨rfl, rfl, HNL.out⟩, Below.refl _ _⟩
end Go.Proofs.YtoonkajdmhmdpaaDoor
