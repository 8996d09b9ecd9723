/- What ReadJob answers, the program's. Conditions: those in the theorem. -/
import Derived.Test.YtldkcfhigcmoaaaDoorProtoM
namespace Go.Proofs.YtldkcfhigcmoaaaDoor
open Go.RowKit Go.As
set_option linter.unusedVariables false

theorem onum_int (I least most : Int) (A : Option Addr) (n c Bw Be : Nat) (err : Int) (ws : List (List UInt8)) (w : World) (hw : Blk w Bw 62 #[.slice A n c]) (he : Blk w Be 25 #[.int .i64 err])
    (hA : Sl w 1 A n (ws.flatMap txC)) (hl : ws.length = n) (hI : 0 ≤ I) (hin : I < n) (hn : n ≤ 9223372036854775807) (hs : ∀ i, (wd ws i).length ≤ 9223372036854775807) (hm1 : -9223372036854775808 ≤ most) (hm2 : most ≤ 9223372036854775807) :
    Calls Tryd.prog 62 #[.int .i64 I, .int .i64 least, .int .i64 most, .pointer (some ⟨Bw, 0, none⟩), .pointer (some ⟨Be, 0, none⟩)] w fun e w' => e = .returned (.int .i64 (rdE (wd ws I.toNat) most).1) ∧ Only (· = Be) w w' ∧ Blk w' Be 25 #[.int .i64 (errE (numOk (wd ws I.toNat) least most) err)] := by
  obtain ⟨i, rfl⟩ := Int.eq_ofNat_of_zero_le hI
  have := onum_any i least most A n c Bw Be (wd ws i) err ws w hw he hA (wd_get (by omega)) (by omega) hn (hs i) hm1 hm2
  simpa using this


theorem rj_err {s : List UInt8} {LL : List (List UInt8)} {er : Int} (h : JWS s = LL) (he : errE (numOk (wd LL (Int.toNat 8)) 0 9223372036854775807) (errE (numOk (wd LL (Int.toNat 7)) 0 9223372036854775807) (errE (numOk (wd LL (Int.toNat 6)) 0 9223372036854775807) (errE (numOk (wd LL (Int.toNat 5)) 1 1024) (errE (numOk (wd LL (Int.toNat 4)) 1 1099511627776) (errE (numOk (wd LL (Int.toNat 1)) 1 1073741824) 0))))) = er) :
    (er = 0 ∧ rjNums s = true) ∨ (er = 4 ∧ rjNums s = false) := by
  subst h
  unfold rjNums rjNum
  simp only [show (8 : Int).toNat = 8 from rfl, show (7 : Int).toNat = 7 from rfl, show (6 : Int).toNat = 6 from rfl, show (5 : Int).toNat = 5 from rfl, show (4 : Int).toNat = 4 from rfl, show (1 : Int).toNat = 1 from rfl] at he
  generalize numOk (wd (JWS s) 1) 1 1073741824 = b1 at *
  generalize numOk (wd (JWS s) 4) 1 1099511627776 = b4 at *
  generalize numOk (wd (JWS s) 5) 1 1024 = b5 at *
  generalize numOk (wd (JWS s) 6) 0 9223372036854775807 = b6 at *
  generalize numOk (wd (JWS s) 7) 0 9223372036854775807 = b7 at *
  generalize numOk (wd (JWS s) 8) 0 9223372036854775807 = b8 at *
  unfold errE at he
  cases b1 <;> cases b4 <;> cases b5 <;> cases b6 <;> cases b7 <;> cases b8 <;> simp at he <;> subst he <;> simp
theorem ostate_q (n : Int) (w : World) : Calls Tryd.prog 43 #[.int .i64 n] w fun e w' => e = .returned (.string (str (stateL n))) ∧ ∃ k, w' = w.drewN k :=
  (ostate_any n w).mono fun e w' ⟨h1, h2⟩ => ⟨h1, 0, h2.symm⟩
theorem ohow_q (n : Int) (w : World) : Calls Tryd.prog 45 #[.int .i64 n] w fun e w' => e = .returned (.string (str (howL n))) ∧ ∃ k, w' = w.drewN k :=
  (ohow_any n w).mono fun e w' ⟨h1, h2⟩ => ⟨h1, 0, h2.symm⟩
/-- what the last test reads -/
def RJ (W : World) (k5 k8 : Nat) (ad : Addr) (tc : Nat) (x0 : List UInt8) (er a b c d e f g h : Int) : Prop :=
  W.cell? ⟨k5 + 1, 0, none⟩ = some (.int .i64 er) ∧ W.cell? ⟨k5, 0, none⟩ = some (.slice (some ad) 9 tc) ∧ W.cell? ad = some (.string (str x0)) ∧ JobAt W k8 a b c d e f g h
theorem RJ.below {w w' : World} {k5 k8 tc : Nat} {ad : Addr} {x0 : List UInt8} {er a b c d e f g h : Int} (hr : RJ w k5 k8 ad tc x0 er a b c d e f g h) (hb : Below w.heap.size w w') : RJ w' k5 k8 ad tc x0 er a b c d e f g h := by
  obtain ⟨h1, h2, h3, h4⟩ := hr
  exact ⟨(hb.cell (World.block_lt_of_cell? w _ h1)).trans h1, (hb.cell (World.block_lt_of_cell? w _ h2)).trans h2, (hb.cell (World.block_lt_of_cell? w _ h3)).trans h3, h4.below hb (World.block_lt_of_cell? w _ h4.1)⟩
theorem RJ.drew {w : World} {k5 k8 tc : Nat} {ad : Addr} {x0 : List UInt8} {er a b c d e f g h : Int} (hr : RJ w k5 k8 ad tc x0 er a b c d e f g h) : RJ w.drew k5 k8 ad tc x0 er a b c d e f g h := hr
theorem RJ.only {F : Nat → Prop} {w w' : World} {k5 k8 tc : Nat} {ad : Addr} {x0 : List UInt8} {er a b c d e f g h : Int} (hr : RJ w k5 k8 ad tc x0 er a b c d e f g h) (ho : Only F w w') (f1 : ¬ F (k5 + 1)) (f2 : ¬ F k5) (f3 : ¬ F ad.block) (f4 : ¬ F k8) : RJ w' k5 k8 ad tc x0 er a b c d e f g h := by
  obtain ⟨h1, h2, h3, h40, h41, h42, h43, h44, h45, h46, h47⟩ := hr
  exact ⟨cell_only h1 ho f1, cell_only h2 ho f2, cell_only h3 ho f3, cell_only h40 ho f4, cell_only h41 ho f4, cell_only h42 ho f4, cell_only h43 ho f4, cell_only h44 ho f4, cell_only h45 ho f4, cell_only h46 ho f4, cell_only h47 ho f4⟩
set_option maxRecDepth 100000 in
set_option maxHeartbeats 6400000 in
theorem oreadjob_any (s : List UInt8) (hs : s.length ≤ 1048576) (w : World) (ht : Tab w) :
    Calls Tryd.prog 34 #[.string (str s)] w fun e w' => e = .returned (.tuple #[.string (str (rjW s)), .agg (rjJ s), .int .i64 (rjF s)]) ∧ Below w.heap.size w w' := by
  obtain ⟨LL, err, hLL⟩ : ∃ LL err, wordsE s = (err, LL) := ⟨_, _, rfl⟩
  have HE := Lib.hid hLL
  clear hLL
  have hmf : ∀ fn first cap w, (Instr.makeFunc fn first cap).run Tryd.prog w = .ok (.func fn first cap) w := fun _ _ _ _ => rfl
  go_enter Tryd.func34, Tryd.ntmps34
  go_upto_region 2 with (first
    | (go_at_call 47
       refine (owords_any s _ hs).mono ?_
       rw [HE.out]
       rintro e' w1 ⟨tv, rfl, hr1, hb1⟩
       obtain ⟨ta, tc, rfl, hnc, -⟩ := own_form hr1
       have HOB := Lib.hid (own_base hr1)
       have H1 := Lib.hid (And.intro hb1 (Sl.of_own hr1))
       clear hr1 hb1))
  obtain ⟨k3, hk3⟩ : ∃ k, k = w.heap.size := ⟨_, rfl⟩
  have hb0 := H1.out.1
  have hb1 : Below w.heap.size w w1 := below_then ((Below.refl _ _).alloc (Nat.le_refl _) _) hb0
  have hlt3 : w.heap.size < w1.heap.size := Nat.lt_of_lt_of_le (by simp) hb0.size
  have h3 : Blk w1 w.heap.size 53 (jobC 0 0 0 0 0 0 0 0) := (Blk.new w 53 _).belowS hb0
  have hB := below_alloc (below_alloc hb1 (.cells #[.slice ta LL.length tc] 62)) (.cells #[.int .i64 err] 25)
  have h5 := (Blk.new w1 62 #[.slice ta LL.length tc]).alloc (.cells #[.int .i64 err] 25)
  have h6 := Blk.new (w1.alloc (.cells #[.slice ta LL.length tc] 62)) 25 #[.int .i64 err]
  have h3' := (h3.alloc (.cells #[.slice ta LL.length tc] 62)).alloc (.cells #[.int .i64 err] 25)
  have hS := H1.out.2.below (below_alloc (below_alloc (Below.refl _ _) (.cells #[.slice ta LL.length tc] 62)) (.cells #[.int .i64 err] 25))
  rw [show (w1.alloc (.cells #[.slice ta LL.length tc] 62)).heap.size = w1.heap.size + 1 by simp] at h6
  rw [← hk3] at h3' hlt3 hB
  simp only [← hk3]
  have HTA := Lib.hid (show ∀ ad, 0 < LL.length → ta = some ad → ad.block < w1.heap.size from fun ad h0 e => by
    obtain ⟨ad', e', hb, -⟩ := H1.out.2.2 h0
    rw [e] at e'
    injection e' with e'
    rw [e']; exact hb)
  have HT3 := Lib.hid (show ∀ ad, ta = some ad → ¬ ad.block = k3 from fun ad e hk => by
    have := HOB.out ad e
    rw [hk, hk3] at this
    simp at this
    omega)
  have HT3 := Lib.hid (show ∀ ad, ta = some ad → ¬ ad.block = k3 from fun ad e hk => by
    have := HOB.out ad e
    rw [hk, hk3] at this
    simp at this
    omega)
  clear HOB
  have HB := Lib.hid hB
  have H3 := Lib.hid h3'
  have H5 := Lib.hid h5
  have H6 := Lib.hid h6
  have HS := Lib.hid hS
  have HT := Lib.hid ht
  clear hb0 hb1 h3 hB h5 h6 h3' hS H1 ht
  generalize hk5 : w1.heap.size = k5 at *
  generalize ((w1.alloc (.cells #[.slice ta LL.length tc] 62)).alloc (.cells #[.int .i64 err] 25)) = W at *
  generalize hn : LL.length = n at *
  have c5 := H5.out.cell 0
  have c6 := H6.out.cell 0
  simp only [List.getElem?_toArray, List.getElem?_cons_zero] at c5 c6
  have HN := Lib.hid hn
  have HK3 := Lib.hid (And.intro hk3 hlt3)
  clear hk5 hn hk3 hlt3
  by_cases he : err = 0
  · subst he
    have HJW := Lib.hid (show JWS s = LL from by unfold JWS; rw [HE.out])
    have HE0 := Lib.hid (show (wordsE s).1 = 0 from by rw [HE.out])
    clear HE
    by_cases h9 : n = 9
    · subst h9
      obtain ⟨ad, u, hA, -, hu, hca⟩ := HS.out.at1 (k := 0) (by omega)
      rw [txs_get (wd_get (by rw [HN.out]; omega))] at hu
      obtain rfl := Option.some.inj hu
      subst hA
      have hca0 : W.cell? ad = some (.string (str (wd LL 0))) := by simpa [Addr.add] using hca
      clear hca
      obtain ⟨x0, hx0⟩ : ∃ x, x = wd LL 0 := ⟨_, rfl⟩
      rw [← hx0] at hca0
      have HX := Lib.hid hx0
      clear hx0
      by_cases hj : x0 = [74, 79, 66] ∨ x0 = [80, 82, 79, 71, 82, 69, 83, 83]
      · have HH := Lib.hid (show rjHead s = true from by
          unfold rjHead
          refine decide_eq_true ⟨HE0.out, by rw [HJW.out, HN.out], ?_⟩
          rw [HJW.out, ← HX.out]; exact hj)
        go_cut [34] (fun s34 wx => s34 = .bool false ∧ wx = W)
        case first =>
          by_cases hj1 : x0 = [74, 79, 66]
          · have hj2 : (x0 == [74, 79, 66]) = true := by simpa using hj1
            clear hj hj1
            go_wp2_with fail
            go_meet
            case rel => exact ⟨rfl, rfl⟩
          · have hj2 : (x0 == [74, 79, 66]) = false := by simpa using hj1
            have hj3 : (x0 == [80, 82, 79, 71, 82, 69, 83, 83]) = true := by simpa using hj.resolve_left hj1
            clear hj hj1
            go_wp2_with fail
            go_meet
            case rel => exact ⟨rfl, rfl⟩
        case rest =>
          obtain ⟨rfl, hwx⟩ := hcut
          have hwx' := hwx.symm
          subst hwx'
          clear hwx hj
          clear c5 c6 hca0
          have HAD3 := Lib.hid (show ¬ ad.block = k3 from HT3.out ad rfl)
          have HAD3 := Lib.hid (show ¬ ad.block = k3 from HT3.out ad rfl)
          have HAD := Lib.hid (show ¬ ad.block = k5 + 1 from by have := HTA.out ad (by omega) rfl; omega)
          have HWL := Lib.hid (show ∀ i, (wd LL i).length ≤ 9223372036854775807 from fun i => by have := wd_len (s := s) i; rw [HJW.out] at this; omega)
          go_wp2_with (go_at_call 62
                       refine (onum_int _ _ _ (some ad) 9 tc k5 (k5 + 1) _ LL _ H5.out H6.out HS.out HN.out (by decide) (by decide) (by decide) HWL.out (by decide) (by decide)).mono ?_
                       rintro e' W1 ⟨rfl, ho, h6⟩
                       replace H6 := Lib.hid h6
                       replace H5 := Lib.hid (H5.out.only ho (by simp))
                       replace H3 := Lib.hid (H3.out.only ho (by have := HK3.out; omega))
                       replace HS := Lib.hid (HS.out.only ho (fun ad' e => by injection e with e; subst e; exact HAD.out))
                       replace HB := Lib.hid (below_only HK3.out.1 HB.out ho (fun j hj => by have := HK3.out.2; omega))
                       clear ho h6)
          generalize hX1 : (rdE (wd LL 1) 1073741824).1 = X1 at *
          generalize hX4 : (rdE (wd LL 4) 1099511627776).1 = X4 at *
          generalize hX5 : (rdE (wd LL 5) 1024).1 = X5 at *
          generalize hX6 : (rdE (wd LL 6) 9223372036854775807).1 = X6 at *
          generalize hX7 : (rdE (wd LL 7) 9223372036854775807).1 = X7 at *
          generalize hX8 : (rdE (wd LL 8) 9223372036854775807).1 = X8 at *
          have hI1 : I64 X1 := by rw [← hX1]; have := rdE_lo (wd LL 1) 1073741824; unfold I64; omega
          have hI4 : I64 X4 := by rw [← hX4]; have := rdE_lo (wd LL 4) 1099511627776; unfold I64; omega
          have hI5 : I64 X5 := by rw [← hX5]; have := rdE_lo (wd LL 5) 1024; unfold I64; omega
          have hI6 : I64 X6 := by rw [← hX6]; have := rdE_lo (wd LL 6) 9223372036854775807; unfold I64; omega
          have hI7 : I64 X7 := by rw [← hX7]; have := rdE_lo (wd LL 7) 9223372036854775807; unfold I64; omega
          have hI8 : I64 X8 := by rw [← hX8]; have := rdE_lo (wd LL 8) 9223372036854775807; unfold I64; omega
          have HI := Lib.hid (And.intro hI1 (And.intro hI4 (And.intro hI5 (And.intro hI6 (And.intro hI7 hI8)))))
          clear hI1 hI4 hI5 hI6 hI7 hI8
          have HJ := Lib.hid (show (∀ b c, rjLine s b c = jobL x0 X1 b c X4 X5 X6 X7 X8) ∧ (∀ b c, jobC (rjX s 1 1073741824) b c (rjX s 4 1099511627776) (rjX s 5 1024) (rjX s 6 9223372036854775807) (rjX s 7 9223372036854775807) (rjX s 8 9223372036854775807) = jobC X1 b c X4 X5 X6 X7 X8) from by
            unfold rjLine rjX
            rw [HJW.out, hX1, hX4, hX5, hX6, hX7, hX8, ← HX.out]
            exact ⟨fun _ _ => rfl, fun _ _ => rfl⟩)
          clear hX1 hX4 hX5 hX6 hX7 hX8
          have h6 := H6.out
          generalize hER : errE _ _ = ER at h6
          have HER := Lib.hid (rj_err HJW.out hER)
          clear hER
          obtain ⟨k8, hk8⟩ : ∃ k, k = W1.heap.size := ⟨_, rfl⟩
          have hk58 : k5 + 1 < k8 := by rw [hk8]; exact h6.lt
          have hk38 : k3 < k8 := by rw [hk8]; exact H3.out.lt
          have hadk : ad.block < k8 := by rw [hk8]; exact sl_blk HS.out (by omega)
          have HB8 := Lib.hid (below_only HK3.out.1 HB.out (Only.of_below (below_alloc (Below.refl _ _) (.cells #[.int .i64 X1, .int .i64 (-1), .int .i64 0, .int .i64 X4, .int .i64 X5, .int .i64 X6, .int .i64 X7, .int .i64 X8] 53)) (fun _ => False)) (fun j _ h => h))
          replace H6 := Lib.hid (h6.alloc (.cells #[.int .i64 X1, .int .i64 (-1), .int .i64 0, .int .i64 X4, .int .i64 X5, .int .i64 X6, .int .i64 X7, .int .i64 X8] 53))
          replace H5 := Lib.hid (H5.out.alloc (.cells #[.int .i64 X1, .int .i64 (-1), .int .i64 0, .int .i64 X4, .int .i64 X5, .int .i64 X6, .int .i64 X7, .int .i64 X8] 53))
          replace H3 := Lib.hid (H3.out.alloc (.cells #[.int .i64 X1, .int .i64 (-1), .int .i64 0, .int .i64 X4, .int .i64 X5, .int .i64 X6, .int .i64 X7, .int .i64 X8] 53))
          replace HS := Lib.hid (HS.out.below (below_alloc (Below.refl _ _) (.cells #[.int .i64 X1, .int .i64 (-1), .int .i64 0, .int .i64 X4, .int .i64 X5, .int .i64 X6, .int .i64 X7, .int .i64 X8] 53)))
          have H8 := Lib.hid (show Blk (W1.alloc (.cells #[.int .i64 X1, .int .i64 (-1), .int .i64 0, .int .i64 X4, .int .i64 X5, .int .i64 X6, .int .i64 X7, .int .i64 X8] 53)) k8 53 (jobC X1 (-1) 0 X4 X5 X6 X7 X8) from by rw [hk8]; exact Blk.new _ _ _)
          rw [← hk8]
          clear h6 HB
          generalize (W1.alloc (.cells #[.int .i64 X1, .int .i64 (-1), .int .i64 0, .int .i64 X4, .int .i64 X5, .int .i64 X6, .int .i64 X7, .int .i64 X8] 53)) = W2 at *
          have HKK := Lib.hid (And.intro hk58 (And.intro hk38 hadk))
          clear hk8 hk58 hk38 hadk
          obtain ⟨x2, hx2⟩ : ∃ x, x = wd LL 2 := ⟨_, rfl⟩
          obtain ⟨x3, hx3⟩ : ∃ x, x = wd LL 3 := ⟨_, rfl⟩
          have HX2 := Lib.hid (And.intro hx2 hx3)
          clear hx2 hx3
          go_loopw [50] (fun iv wr => ∃ k : Nat, k ≤ 5 ∧ iv = .int .i64 k ∧ Only (· = k8) W2 wr ∧ Blk wr k8 53 (jobC X1 (stUp x2 k) 0 X4 X5 X6 X7 X8)) (fun iv _ => 5 - (intOf iv).toNat)
          case atStart => exact ⟨0, by omega, rfl, Only.refl _ _, H8.out⟩
          case round =>
            obtain ⟨k, hk, rfl, ho, h8⟩ := hrel
            have hkk := HKK.out
            have c5 := (H5.out.only ho (by omega)).cell 0
            obtain ⟨ad2, v2, e2, -, hu2, c2⟩ := (HS.out.only ho (fun ad' e => by injection e with e; subst e; omega)).at1 (k := 2) (by omega)
            rw [txs_get (wd_get (by rw [HN.out]; omega)), ← HX2.out.1] at hu2
            obtain rfl := Option.some.inj hu2
            injection e2 with e2
            subst e2
            simp only [List.getElem?_toArray, List.getElem?_cons_zero] at c5
            clear hu2
            have c2' : wr.cell? ⟨ad.block, ad.off + 2, none⟩ = some (.string (str x2)) := by simpa [Addr.add] using c2
            by_cases hlt : k < 5
            · have hki : (k : Int) < 5 := by omega
              have c81 := h8.cell 1
              have f81 := h8.frozen 1
              by_cases hx : stateL k = x2
              · have HU := Lib.hid (stUp_yes hx)
                have hxb : (stateL k == x2) = true := by simpa using hx
                have H8S := Lib.hid (fun u => h8.set_ 1 u)
                have HO := Lib.hid ho
                clear hx h8 hkk ho
                go_wp2_with fail
                go_quiet (first | (go_at_call 43; exact Calls.quiet_of (ostate_q _ _)))
                go_wp2_with fail
                go_roundw
                case rel => exact ⟨k + 1, by omega, by go_num, (HO.out.drewN _).set (p := ⟨k8, 1, none⟩) (.inl rfl) _, by rw [HU.out]; exact H8S.out _⟩
                case measure => simp [intOf]; omega
              · have HU := Lib.hid (stUp_no hx)
                have hxb : (stateL k == x2) = false := by simpa using hx
                have HO := Lib.hid (And.intro ho h8)
                clear hx h8 hkk ho
                go_wp2_with fail
                go_quiet (first | (go_at_call 43; exact Calls.quiet_of (ostate_q _ _)))
                go_wp2_with fail
                go_roundw
                case rel => exact ⟨k + 1, by omega, by go_num, HO.out.1.drewN _, by rw [HU.out]; exact HO.out.2.drewN _⟩
                case measure => simp [intOf]; omega
            · obtain rfl : k = 5 := by omega
              obtain ⟨S, hS⟩ : ∃ S, S = stUp x2 5 := ⟨_, rfl⟩
              rw [← hS] at h8
              have HSS := Lib.hid (show S = rjS s from by rw [hS, HX2.out.1, ← HJW.out]; rfl)
              have HW3 := Lib.hid (And.intro ho h8)
              clear hS hlt hk ho h8 hkk c5 c2 c2'
              go_wp2_with fail
              go_loopw [10] (fun iv wz => ∃ k : Nat, k ≤ 4 ∧ iv = .int .i64 ((k : Int) + 2) ∧ Only (· = k8) W2 wz ∧ Blk wz k8 53 (jobC X1 S (hoUp x3 k) X4 X5 X6 X7 X8)) (fun iv _ => 6 - (intOf iv).toNat)
              case atStart => exact ⟨0, by omega, rfl, HW3.out.1, HW3.out.2⟩
              case round =>
                obtain ⟨k, hk, rfl, ho, h8⟩ := hrel
                have hkk := HKK.out
                have c5 := (H5.out.only ho (by omega)).cell 0
                obtain ⟨ad2, v2, e2, -, hu2, c2⟩ := (HS.out.only ho (fun ad' e => by injection e with e; subst e; omega)).at1 (k := 3) (by omega)
                rw [txs_get (wd_get (by rw [HN.out]; omega)), ← HX2.out.2] at hu2
                obtain rfl := Option.some.inj hu2
                injection e2 with e2
                subst e2
                simp only [List.getElem?_toArray, List.getElem?_cons_zero] at c5
                clear hu2
                have c2' : wr.cell? ⟨ad.block, ad.off + 3, none⟩ = some (.string (str x3)) := by simpa [Addr.add] using c2
                by_cases hlt : k < 4
                · have hki : (k : Int) + 2 ≤ 5 := by omega
                  have c81 := h8.cell 2
                  have f81 := h8.frozen 2
                  by_cases hx : howL ((k : Int) + 2) = x3
                  · have HU := Lib.hid (hoUp_yes hx)
                    have hxb : (howL ((k : Int) + 2) == x3) = true := by simpa using hx
                    have H8S := Lib.hid (fun u => h8.set_ 2 u)
                    have HO := Lib.hid ho
                    clear hx h8 hkk ho
                    go_wp2_with fail
                    go_quiet (first | (go_at_call 45; exact Calls.quiet_of (ohow_q _ _)))
                    go_wp2_with fail
                    go_roundw
                    case rel =>
                      refine ⟨_, _, _, _, _, _, _, _, _, _, _, _, _, ?_, rfl⟩
                      exact ⟨k + 1, by omega, by go_num, (HO.out.drewN _).set (p := ⟨k8, 2, none⟩) (.inl rfl) _, by rw [HU.out]; exact H8S.out _⟩
                    case measure => simp [intOf]; omega
                  · have HU := Lib.hid (hoUp_no hx)
                    have hxb : (howL ((k : Int) + 2) == x3) = false := by simpa using hx
                    have HO := Lib.hid (And.intro ho h8)
                    clear hx h8 hkk ho
                    go_wp2_with fail
                    go_quiet (first | (go_at_call 45; exact Calls.quiet_of (ohow_q _ _)))
                    go_wp2_with fail
                    go_roundw
                    case rel => exact ⟨k + 1, by omega, by go_num, HO.out.1.drewN _, by rw [HU.out]; exact HO.out.2.drewN _⟩
                    case measure => simp [intOf]; omega
                · obtain rfl : k = 4 := by omega
                  obtain ⟨Hh, hH⟩ : ∃ H, H = hoUp x3 4 := ⟨_, rfl⟩
                  rw [← hH] at h8
                  have HHH := Lib.hid (show Hh = rjH s from by rw [hH, HX2.out.2, ← HJW.out]; rfl)
                  have h6 := (H6.out.only ho (by omega)).cell 0
                  simp only [List.getElem?_toArray, List.getElem?_cons_zero] at h6
                  have hc0 : wr.cell? ad = some (.string (str x0)) := by
                    obtain ⟨ad2, v2, e2, -, hu2, c0⟩ := (HS.out.only ho (fun ad' e => by injection e with e; subst e; omega)).at1 (k := 0) (by omega)
                    rw [txs_get (wd_get (by rw [HN.out]; omega)), ← HX.out] at hu2
                    obtain rfl := Option.some.inj hu2
                    injection e2 with e2
                    subst e2
                    simpa [Addr.add] using c0
                  have HRJ := Lib.hid (show RJ wr k5 k8 ad tc x0 ER X1 S Hh X4 X5 X6 X7 X8 from ⟨h6, c5, hc0, Blk.job h8⟩)
                  replace H3 := Lib.hid (H3.out.only ho (by omega))
                  have HB := Lib.hid (below_only HK3.out.1 HB8.out ho (fun j hj => by have := HK3.out.2; omega))
                  have hxl : x0.length ≤ 1048576 := by have := wd_len (s := s) 0; rw [HJW.out, ← HX.out] at this; omega
                  have HXL := Lib.hid hxl
                  clear hH hlt hk ho h8 hkk c5 c2 c2' h6 hc0 hxl H5 H6 HS H8 HB8 HW3
                  go_wp2_with fail
                  have HTT := Lib.hid (show Tab wr.drew from (HT.out.below (by rw [← HK3.out.1]; exact HB.out)).drew)
                  have HB2 := Lib.hid (show Below wr.heap.size wr wr.drew from (Below.refl wr.heap.size wr).drew)
                  go_cut [109] (fun sv wx => sv = .bool (!rjGood s) ∧ Below wr.heap.size wr wx)
                  case first =>
                    obtain ⟨rfl, hn⟩ | ⟨rfl, hn⟩ := HER.out
                    · by_cases hS1 : S < 0
                      · have HG := Lib.hid (show rjGood s = false from by
                          unfold rjGood rjFit; rw [← HSS.out, decide_eq_false (fun e => by have := e.1; omega)]; simp)
                        have hd1 : decide (S < 0) = true := by simpa using hS1
                        clear hS1 hn
                        refine wp_region_planS (fun W => W.cell? ⟨k5 + 1, 0, none⟩ = some (.int .i64 0) ∧ W.cell? ⟨k5, 0, none⟩ = some (.slice (some ad) 9 tc) ∧ W.cell? ad = some (.string (str x0)) ∧ W.cell? ⟨k8, 0, none⟩ = some (.int .i64 X1) ∧ W.cell? ⟨k8, 1, none⟩ = some (.int .i64 S) ∧ W.cell? ⟨k8, 2, none⟩ = some (.int .i64 Hh) ∧ W.cell? ⟨k8, 3, none⟩ = some (.int .i64 X4) ∧ W.cell? ⟨k8, 4, none⟩ = some (.int .i64 X5) ∧ W.cell? ⟨k8, 5, none⟩ = some (.int .i64 X6) ∧ W.cell? ⟨k8, 6, none⟩ = some (.int .i64 X7) ∧ W.cell? ⟨k8, 7, none⟩ = some (.int .i64 X8)) (.take 0 <| .take 1 <| .take 2 <| .take 3 <| .take 4 <| .take 5 <| .take 6 <| .take 7 <| .take 8 <| .take 9 <| .take 10 <| .take 11 <| .take 12 <| .take 13 <| .take 14 <| .take 15 <| .take 16 <| .take 17 <| .take 18 <| .take 19 <| .take 20 <| .take 21 <| .take 23 <| .run 22 <| .take 24 <| .take 25 <| .take 26 <| .take 27 <| .take 28 <| .take 29 <| .take 30 <| .take 31 <| .take 32 <| .take 33 <| .take 34 <| .take 35 <| .done) (by kernel_rfl) (by kernel_rfl) (by kernel_rfl) (by kernel_rfl) (by exact HRJ.out) ?_
                        go_wp2_with (first
                          | (go_at_call 41
                             go_must (refine (ojob_any x0 X1 S Hh X4 X5 X6 X7 X8 HI.out.1 HI.out.2.1 HI.out.2.2.1 HI.out.2.2.2.1 HI.out.2.2.2.2.1 HI.out.2.2.2.2.2 HXL.out _ (by exact HTT.out)).mono ?_
                                      rintro e' w2 ⟨rfl, hb2⟩
                                      replace HRJ := Lib.hid (RJ.below (by exact HRJ.out) hb2)
                                      replace HB2 := Lib.hid (show Below wr.heap.size wr w2 from below_then HB2.out hb2)
                                      clear hb2))
                          | ((with_reducible refine PlanS_isTake ?_); refine PlanS_take (v := ?_) rfl ?_ (fun w hSw => ?_) ?_; rotate_left 1; (focus rfl); (focus ((try dsimp only at hSw); (first | (go_simp; done) | (go_simp; with_reducible rfl)))); simp only [Act.put, List.setIfInBounds_toArray, List.set_cons_zero, List.set_cons_succ]) | ((with_reducible refine PlanS_isTake ?_); refine PlanS_skip rfl ?_ ?_; (focus rfl); simp only [Act.put, List.setIfInBounds_toArray, List.set_cons_zero, List.set_cons_succ]) | ((with_reducible refine PlanS_isRun ?_); refine PlanS_run rfl (fun K hK => ?_); go_simp) | ((with_reducible refine And.intro ?_ (PlanS_is ?_)); (focus ((exact HRJ.out)))) | ((with_reducible refine PlanS_alt ?_ ?_)) | ((with_reducible refine PlanS_done ?_)))
                        go_meet
                        case rel => exact ⟨by rw [HG.out]; rfl, HB2.out⟩
                      have hd1 : decide (S < 0) = false := by simpa using hS1
                      by_cases hS2 : S = 2
                      · subst hS2
                        by_cases hH0 : Hh = 0
                        · subst hH0
                          have HG := Lib.hid (show rjGood s = false from by
                            unfold rjGood rjFit; rw [← HSS.out, ← HHH.out, decide_eq_false (fun e => e.2.1 rfl rfl)]; simp)
                          clear hS1 hn hd1
                          refine wp_region_planS (fun W => W.cell? ⟨k5 + 1, 0, none⟩ = some (.int .i64 0) ∧ W.cell? ⟨k5, 0, none⟩ = some (.slice (some ad) 9 tc) ∧ W.cell? ad = some (.string (str x0)) ∧ W.cell? ⟨k8, 0, none⟩ = some (.int .i64 X1) ∧ W.cell? ⟨k8, 1, none⟩ = some (.int .i64 2) ∧ W.cell? ⟨k8, 2, none⟩ = some (.int .i64 0) ∧ W.cell? ⟨k8, 3, none⟩ = some (.int .i64 X4) ∧ W.cell? ⟨k8, 4, none⟩ = some (.int .i64 X5) ∧ W.cell? ⟨k8, 5, none⟩ = some (.int .i64 X6) ∧ W.cell? ⟨k8, 6, none⟩ = some (.int .i64 X7) ∧ W.cell? ⟨k8, 7, none⟩ = some (.int .i64 X8)) (.take 0 <| .take 1 <| .take 2 <| .take 3 <| .take 4 <| .take 5 <| .take 6 <| .take 7 <| .take 8 <| .take 9 <| .take 10 <| .take 11 <| .take 12 <| .take 13 <| .take 14 <| .take 15 <| .take 16 <| .take 17 <| .take 18 <| .take 19 <| .take 20 <| .take 21 <| .take 23 <| .run 22 <| .take 24 <| .take 25 <| .take 26 <| .take 27 <| .take 28 <| .take 29 <| .take 30 <| .take 31 <| .take 32 <| .take 33 <| .take 34 <| .take 35 <| .done) (by kernel_rfl) (by kernel_rfl) (by kernel_rfl) (by kernel_rfl) (by exact HRJ.out) ?_
                          go_wp2_with (first
                            | (go_at_call 41
                               go_must (refine (ojob_any x0 X1 2 0 X4 X5 X6 X7 X8 HI.out.1 HI.out.2.1 HI.out.2.2.1 HI.out.2.2.2.1 HI.out.2.2.2.2.1 HI.out.2.2.2.2.2 HXL.out _ (by exact HTT.out)).mono ?_
                                        rintro e' w2 ⟨rfl, hb2⟩
                                        replace HRJ := Lib.hid (RJ.below (by exact HRJ.out) hb2)
                                        replace HB2 := Lib.hid (show Below wr.heap.size wr w2 from below_then HB2.out hb2)
                                        clear hb2))
                            | ((with_reducible refine PlanS_isTake ?_); refine PlanS_take (v := ?_) rfl ?_ (fun w hSw => ?_) ?_; rotate_left 1; (focus rfl); (focus ((try dsimp only at hSw); (first | (go_simp; done) | (go_simp; with_reducible rfl)))); simp only [Act.put, List.setIfInBounds_toArray, List.set_cons_zero, List.set_cons_succ]) | ((with_reducible refine PlanS_isTake ?_); refine PlanS_skip rfl ?_ ?_; (focus rfl); simp only [Act.put, List.setIfInBounds_toArray, List.set_cons_zero, List.set_cons_succ]) | ((with_reducible refine PlanS_isRun ?_); refine PlanS_run rfl (fun K hK => ?_); go_simp) | ((with_reducible refine And.intro ?_ (PlanS_is ?_)); (focus ((exact HRJ.out)))) | ((with_reducible refine PlanS_alt ?_ ?_)) | ((with_reducible refine PlanS_done ?_)))
                          go_meet
                          case rel => exact ⟨by rw [HG.out]; rfl, HB2.out⟩
                        have hh0 : (Hh == 0) = false := by simpa using hH0
                        by_cases hln : jobL x0 X1 2 Hh X4 X5 X6 X7 X8 = s
                        · have HG := Lib.hid (show rjGood s = true from by
                            unfold rjGood rjFit; rw [HH.out, hn, ← HSS.out, ← HHH.out, HJ.out.1, decide_eq_true ⟨by omega, fun _ => hH0, fun h => absurd rfl h, hln⟩]; rfl)
                          have hl0 : (jobL x0 X1 2 Hh X4 X5 X6 X7 X8 == s) = true := by simpa using hln
                          clear hS1 hn hd1 hH0 hln
                          refine wp_region_planS (fun W => W.cell? ⟨k5 + 1, 0, none⟩ = some (.int .i64 0) ∧ W.cell? ⟨k5, 0, none⟩ = some (.slice (some ad) 9 tc) ∧ W.cell? ad = some (.string (str x0)) ∧ W.cell? ⟨k8, 0, none⟩ = some (.int .i64 X1) ∧ W.cell? ⟨k8, 1, none⟩ = some (.int .i64 2) ∧ W.cell? ⟨k8, 2, none⟩ = some (.int .i64 Hh) ∧ W.cell? ⟨k8, 3, none⟩ = some (.int .i64 X4) ∧ W.cell? ⟨k8, 4, none⟩ = some (.int .i64 X5) ∧ W.cell? ⟨k8, 5, none⟩ = some (.int .i64 X6) ∧ W.cell? ⟨k8, 6, none⟩ = some (.int .i64 X7) ∧ W.cell? ⟨k8, 7, none⟩ = some (.int .i64 X8)) (.take 0 <| .take 1 <| .take 2 <| .take 3 <| .take 4 <| .take 5 <| .take 6 <| .take 7 <| .take 8 <| .take 9 <| .take 10 <| .take 11 <| .take 12 <| .take 13 <| .take 14 <| .take 15 <| .take 16 <| .take 17 <| .take 18 <| .take 19 <| .take 20 <| .take 21 <| .take 23 <| .run 22 <| .take 24 <| .take 25 <| .take 26 <| .take 27 <| .take 28 <| .take 29 <| .take 30 <| .take 31 <| .take 32 <| .take 33 <| .take 34 <| .take 35 <| .done) (by kernel_rfl) (by kernel_rfl) (by kernel_rfl) (by kernel_rfl) (by exact HRJ.out) ?_
                          go_wp2_with (first
                            | (go_at_call 41
                               go_must (refine (ojob_any x0 X1 2 Hh X4 X5 X6 X7 X8 HI.out.1 HI.out.2.1 HI.out.2.2.1 HI.out.2.2.2.1 HI.out.2.2.2.2.1 HI.out.2.2.2.2.2 HXL.out _ (by exact HTT.out)).mono ?_
                                        rintro e' w2 ⟨rfl, hb2⟩
                                        replace HRJ := Lib.hid (RJ.below (by exact HRJ.out) hb2)
                                        replace HB2 := Lib.hid (show Below wr.heap.size wr w2 from below_then HB2.out hb2)
                                        clear hb2))
                            | ((with_reducible refine PlanS_isTake ?_); refine PlanS_take (v := ?_) rfl ?_ (fun w hSw => ?_) ?_; rotate_left 1; (focus rfl); (focus ((try dsimp only at hSw); (first | (go_simp; done) | (go_simp; with_reducible rfl)))); simp only [Act.put, List.setIfInBounds_toArray, List.set_cons_zero, List.set_cons_succ]) | ((with_reducible refine PlanS_isTake ?_); refine PlanS_skip rfl ?_ ?_; (focus rfl); simp only [Act.put, List.setIfInBounds_toArray, List.set_cons_zero, List.set_cons_succ]) | ((with_reducible refine PlanS_isRun ?_); refine PlanS_run rfl (fun K hK => ?_); go_simp) | ((with_reducible refine And.intro ?_ (PlanS_is ?_)); (focus ((exact HRJ.out)))) | ((with_reducible refine PlanS_alt ?_ ?_)) | ((with_reducible refine PlanS_done ?_)))
                          go_meet
                          case rel => exact ⟨by rw [HG.out]; rfl, HB2.out⟩
                        · have HG := Lib.hid (show rjGood s = false from by
                            unfold rjGood rjFit; rw [← HSS.out, ← HHH.out, HJ.out.1, decide_eq_false (fun e => hln e.2.2.2)]; simp)
                          have hl0 : (jobL x0 X1 2 Hh X4 X5 X6 X7 X8 == s) = false := by simpa using hln
                          clear hS1 hn hd1 hH0 hln
                          refine wp_region_planS (fun W => W.cell? ⟨k5 + 1, 0, none⟩ = some (.int .i64 0) ∧ W.cell? ⟨k5, 0, none⟩ = some (.slice (some ad) 9 tc) ∧ W.cell? ad = some (.string (str x0)) ∧ W.cell? ⟨k8, 0, none⟩ = some (.int .i64 X1) ∧ W.cell? ⟨k8, 1, none⟩ = some (.int .i64 2) ∧ W.cell? ⟨k8, 2, none⟩ = some (.int .i64 Hh) ∧ W.cell? ⟨k8, 3, none⟩ = some (.int .i64 X4) ∧ W.cell? ⟨k8, 4, none⟩ = some (.int .i64 X5) ∧ W.cell? ⟨k8, 5, none⟩ = some (.int .i64 X6) ∧ W.cell? ⟨k8, 6, none⟩ = some (.int .i64 X7) ∧ W.cell? ⟨k8, 7, none⟩ = some (.int .i64 X8)) (.take 0 <| .take 1 <| .take 2 <| .take 3 <| .take 4 <| .take 5 <| .take 6 <| .take 7 <| .take 8 <| .take 9 <| .take 10 <| .take 11 <| .take 12 <| .take 13 <| .take 14 <| .take 15 <| .take 16 <| .take 17 <| .take 18 <| .take 19 <| .take 20 <| .take 21 <| .take 23 <| .run 22 <| .take 24 <| .take 25 <| .take 26 <| .take 27 <| .take 28 <| .take 29 <| .take 30 <| .take 31 <| .take 32 <| .take 33 <| .take 34 <| .take 35 <| .done) (by kernel_rfl) (by kernel_rfl) (by kernel_rfl) (by kernel_rfl) (by exact HRJ.out) ?_
                          go_wp2_with (first
                            | (go_at_call 41
                               go_must (refine (ojob_any x0 X1 2 Hh X4 X5 X6 X7 X8 HI.out.1 HI.out.2.1 HI.out.2.2.1 HI.out.2.2.2.1 HI.out.2.2.2.2.1 HI.out.2.2.2.2.2 HXL.out _ (by exact HTT.out)).mono ?_
                                        rintro e' w2 ⟨rfl, hb2⟩
                                        replace HRJ := Lib.hid (RJ.below (by exact HRJ.out) hb2)
                                        replace HB2 := Lib.hid (show Below wr.heap.size wr w2 from below_then HB2.out hb2)
                                        clear hb2))
                            | ((with_reducible refine PlanS_isTake ?_); refine PlanS_take (v := ?_) rfl ?_ (fun w hSw => ?_) ?_; rotate_left 1; (focus rfl); (focus ((try dsimp only at hSw); (first | (go_simp; done) | (go_simp; with_reducible rfl)))); simp only [Act.put, List.setIfInBounds_toArray, List.set_cons_zero, List.set_cons_succ]) | ((with_reducible refine PlanS_isTake ?_); refine PlanS_skip rfl ?_ ?_; (focus rfl); simp only [Act.put, List.setIfInBounds_toArray, List.set_cons_zero, List.set_cons_succ]) | ((with_reducible refine PlanS_isRun ?_); refine PlanS_run rfl (fun K hK => ?_); go_simp) | ((with_reducible refine And.intro ?_ (PlanS_is ?_)); (focus ((exact HRJ.out)))) | ((with_reducible refine PlanS_alt ?_ ?_)) | ((with_reducible refine PlanS_done ?_)))
                          go_meet
                          case rel => exact ⟨by rw [HG.out]; rfl, HB2.out⟩
                      · have hs2 : (S == 2) = false := by simpa using hS2
                        have hs3 : (S != 2) = true := by simpa using hS2
                        by_cases hln : jobL x0 X1 S Hh X4 X5 X6 X7 X8 = s
                        · have hl0 : (jobL x0 X1 S Hh X4 X5 X6 X7 X8 == s) = true := by simpa using hln
                          by_cases hH0 : Hh = 0
                          · subst hH0
                            have HG := Lib.hid (show rjGood s = true from by
                              unfold rjGood rjFit; rw [HH.out, hn, ← HSS.out, ← HHH.out, HJ.out.1, decide_eq_true ⟨by omega, fun h => absurd h hS2, fun _ => rfl, hln⟩]; rfl)
                            clear hS1 hn hS2 hln
                            refine wp_region_planS (fun W => W.cell? ⟨k5 + 1, 0, none⟩ = some (.int .i64 0) ∧ W.cell? ⟨k5, 0, none⟩ = some (.slice (some ad) 9 tc) ∧ W.cell? ad = some (.string (str x0)) ∧ W.cell? ⟨k8, 0, none⟩ = some (.int .i64 X1) ∧ W.cell? ⟨k8, 1, none⟩ = some (.int .i64 S) ∧ W.cell? ⟨k8, 2, none⟩ = some (.int .i64 0) ∧ W.cell? ⟨k8, 3, none⟩ = some (.int .i64 X4) ∧ W.cell? ⟨k8, 4, none⟩ = some (.int .i64 X5) ∧ W.cell? ⟨k8, 5, none⟩ = some (.int .i64 X6) ∧ W.cell? ⟨k8, 6, none⟩ = some (.int .i64 X7) ∧ W.cell? ⟨k8, 7, none⟩ = some (.int .i64 X8)) (.take 0 <| .take 1 <| .take 2 <| .take 3 <| .take 4 <| .take 5 <| .take 6 <| .take 7 <| .take 8 <| .take 9 <| .take 10 <| .take 11 <| .take 12 <| .take 13 <| .take 14 <| .take 15 <| .take 16 <| .take 17 <| .take 18 <| .take 19 <| .take 20 <| .take 21 <| .take 23 <| .run 22 <| .take 24 <| .take 25 <| .take 26 <| .take 27 <| .take 28 <| .take 29 <| .take 30 <| .take 31 <| .take 32 <| .take 33 <| .take 34 <| .take 35 <| .done) (by kernel_rfl) (by kernel_rfl) (by kernel_rfl) (by kernel_rfl) (by exact HRJ.out) ?_
                            go_wp2_with (first
                              | (go_at_call 41
                                 go_must (refine (ojob_any x0 X1 S 0 X4 X5 X6 X7 X8 HI.out.1 HI.out.2.1 HI.out.2.2.1 HI.out.2.2.2.1 HI.out.2.2.2.2.1 HI.out.2.2.2.2.2 HXL.out _ (by exact HTT.out)).mono ?_
                                          rintro e' w2 ⟨rfl, hb2⟩
                                          replace HRJ := Lib.hid (RJ.below (by exact HRJ.out) hb2)
                                          replace HB2 := Lib.hid (show Below wr.heap.size wr w2 from below_then HB2.out hb2)
                                          clear hb2))
                              | ((with_reducible refine PlanS_isTake ?_); refine PlanS_take (v := ?_) rfl ?_ (fun w hSw => ?_) ?_; rotate_left 1; (focus rfl); (focus ((try dsimp only at hSw); (first | (go_simp; done) | (go_simp; with_reducible rfl)))); simp only [Act.put, List.setIfInBounds_toArray, List.set_cons_zero, List.set_cons_succ]) | ((with_reducible refine PlanS_isTake ?_); refine PlanS_skip rfl ?_ ?_; (focus rfl); simp only [Act.put, List.setIfInBounds_toArray, List.set_cons_zero, List.set_cons_succ]) | ((with_reducible refine PlanS_isRun ?_); refine PlanS_run rfl (fun K hK => ?_); go_simp) | ((with_reducible refine And.intro ?_ (PlanS_is ?_)); (focus ((exact HRJ.out)))) | ((with_reducible refine PlanS_alt ?_ ?_)) | ((with_reducible refine PlanS_done ?_)))
                            go_meet
                            case rel => exact ⟨by rw [HG.out]; rfl, HB2.out⟩
                          · have hh0 : (Hh != 0) = true := by simpa using hH0
                            have HG := Lib.hid (show rjGood s = false from by
                              unfold rjGood rjFit; rw [← HSS.out, ← HHH.out, decide_eq_false (fun e => hH0 (e.2.2.1 hS2))]; simp)
                            clear hS1 hn hS2 hln hH0
                            refine wp_region_planS (fun W => W.cell? ⟨k5 + 1, 0, none⟩ = some (.int .i64 0) ∧ W.cell? ⟨k5, 0, none⟩ = some (.slice (some ad) 9 tc) ∧ W.cell? ad = some (.string (str x0)) ∧ W.cell? ⟨k8, 0, none⟩ = some (.int .i64 X1) ∧ W.cell? ⟨k8, 1, none⟩ = some (.int .i64 S) ∧ W.cell? ⟨k8, 2, none⟩ = some (.int .i64 Hh) ∧ W.cell? ⟨k8, 3, none⟩ = some (.int .i64 X4) ∧ W.cell? ⟨k8, 4, none⟩ = some (.int .i64 X5) ∧ W.cell? ⟨k8, 5, none⟩ = some (.int .i64 X6) ∧ W.cell? ⟨k8, 6, none⟩ = some (.int .i64 X7) ∧ W.cell? ⟨k8, 7, none⟩ = some (.int .i64 X8)) (.take 0 <| .take 1 <| .take 2 <| .take 3 <| .take 4 <| .take 5 <| .take 6 <| .take 7 <| .take 8 <| .take 9 <| .take 10 <| .take 11 <| .take 12 <| .take 13 <| .take 14 <| .take 15 <| .take 16 <| .take 17 <| .take 18 <| .take 19 <| .take 20 <| .take 21 <| .take 23 <| .run 22 <| .take 24 <| .take 25 <| .take 26 <| .take 27 <| .take 28 <| .take 29 <| .take 30 <| .take 31 <| .take 32 <| .take 33 <| .take 34 <| .take 35 <| .done) (by kernel_rfl) (by kernel_rfl) (by kernel_rfl) (by kernel_rfl) (by exact HRJ.out) ?_
                            go_wp2_with (first
                              | (go_at_call 41
                                 go_must (refine (ojob_any x0 X1 S Hh X4 X5 X6 X7 X8 HI.out.1 HI.out.2.1 HI.out.2.2.1 HI.out.2.2.2.1 HI.out.2.2.2.2.1 HI.out.2.2.2.2.2 HXL.out _ (by exact HTT.out)).mono ?_
                                          rintro e' w2 ⟨rfl, hb2⟩
                                          replace HRJ := Lib.hid (RJ.below (by exact HRJ.out) hb2)
                                          replace HB2 := Lib.hid (show Below wr.heap.size wr w2 from below_then HB2.out hb2)
                                          clear hb2))
                              | ((with_reducible refine PlanS_isTake ?_); refine PlanS_take (v := ?_) rfl ?_ (fun w hSw => ?_) ?_; rotate_left 1; (focus rfl); (focus ((try dsimp only at hSw); (first | (go_simp; done) | (go_simp; with_reducible rfl)))); simp only [Act.put, List.setIfInBounds_toArray, List.set_cons_zero, List.set_cons_succ]) | ((with_reducible refine PlanS_isTake ?_); refine PlanS_skip rfl ?_ ?_; (focus rfl); simp only [Act.put, List.setIfInBounds_toArray, List.set_cons_zero, List.set_cons_succ]) | ((with_reducible refine PlanS_isRun ?_); refine PlanS_run rfl (fun K hK => ?_); go_simp) | ((with_reducible refine And.intro ?_ (PlanS_is ?_)); (focus ((exact HRJ.out)))) | ((with_reducible refine PlanS_alt ?_ ?_)) | ((with_reducible refine PlanS_done ?_)))
                            go_meet
                            case rel => exact ⟨by rw [HG.out]; rfl, HB2.out⟩
                        · have hl0 : (jobL x0 X1 S Hh X4 X5 X6 X7 X8 == s) = false := by simpa using hln
                          have HG := Lib.hid (show rjGood s = false from by
                            unfold rjGood rjFit; rw [← HSS.out, ← HHH.out, HJ.out.1, decide_eq_false (fun e => hln e.2.2.2)]; simp)
                          clear hS1 hn hS2 hln
                          refine wp_region_planS (fun W => W.cell? ⟨k5 + 1, 0, none⟩ = some (.int .i64 0) ∧ W.cell? ⟨k5, 0, none⟩ = some (.slice (some ad) 9 tc) ∧ W.cell? ad = some (.string (str x0)) ∧ W.cell? ⟨k8, 0, none⟩ = some (.int .i64 X1) ∧ W.cell? ⟨k8, 1, none⟩ = some (.int .i64 S) ∧ W.cell? ⟨k8, 2, none⟩ = some (.int .i64 Hh) ∧ W.cell? ⟨k8, 3, none⟩ = some (.int .i64 X4) ∧ W.cell? ⟨k8, 4, none⟩ = some (.int .i64 X5) ∧ W.cell? ⟨k8, 5, none⟩ = some (.int .i64 X6) ∧ W.cell? ⟨k8, 6, none⟩ = some (.int .i64 X7) ∧ W.cell? ⟨k8, 7, none⟩ = some (.int .i64 X8)) (.take 0 <| .take 1 <| .take 2 <| .take 3 <| .take 4 <| .take 5 <| .take 6 <| .take 7 <| .take 8 <| .take 9 <| .take 10 <| .take 11 <| .take 12 <| .take 13 <| .take 14 <| .take 15 <| .take 16 <| .take 17 <| .take 18 <| .take 19 <| .take 20 <| .take 21 <| .take 23 <| .run 22 <| .take 24 <| .take 25 <| .take 26 <| .take 27 <| .take 28 <| .take 29 <| .take 30 <| .take 31 <| .take 32 <| .take 33 <| .take 34 <| .take 35 <| .done) (by kernel_rfl) (by kernel_rfl) (by kernel_rfl) (by kernel_rfl) (by exact HRJ.out) ?_
                          go_wp2_with (first
                            | (go_at_call 41
                               go_must (refine (ojob_any x0 X1 S Hh X4 X5 X6 X7 X8 HI.out.1 HI.out.2.1 HI.out.2.2.1 HI.out.2.2.2.1 HI.out.2.2.2.2.1 HI.out.2.2.2.2.2 HXL.out _ (by exact HTT.out)).mono ?_
                                        rintro e' w2 ⟨rfl, hb2⟩
                                        replace HRJ := Lib.hid (RJ.below (by exact HRJ.out) hb2)
                                        replace HB2 := Lib.hid (show Below wr.heap.size wr w2 from below_then HB2.out hb2)
                                        clear hb2))
                            | ((with_reducible refine PlanS_isTake ?_); refine PlanS_take (v := ?_) rfl ?_ (fun w hSw => ?_) ?_; rotate_left 1; (focus rfl); (focus ((try dsimp only at hSw); (first | (go_simp; done) | (go_simp; with_reducible rfl)))); simp only [Act.put, List.setIfInBounds_toArray, List.set_cons_zero, List.set_cons_succ]) | ((with_reducible refine PlanS_isTake ?_); refine PlanS_skip rfl ?_ ?_; (focus rfl); simp only [Act.put, List.setIfInBounds_toArray, List.set_cons_zero, List.set_cons_succ]) | ((with_reducible refine PlanS_isRun ?_); refine PlanS_run rfl (fun K hK => ?_); go_simp) | ((with_reducible refine And.intro ?_ (PlanS_is ?_)); (focus ((exact HRJ.out)))) | ((with_reducible refine PlanS_alt ?_ ?_)) | ((with_reducible refine PlanS_done ?_)))
                          go_meet
                          case rel => exact ⟨by rw [HG.out]; rfl, HB2.out⟩
                    · have HG := Lib.hid (show rjGood s = false from by unfold rjGood; rw [hn]; simp)
                      clear hn
                      refine wp_region_planS (fun W => W.cell? ⟨k5 + 1, 0, none⟩ = some (.int .i64 4) ∧ W.cell? ⟨k5, 0, none⟩ = some (.slice (some ad) 9 tc) ∧ W.cell? ad = some (.string (str x0)) ∧ W.cell? ⟨k8, 0, none⟩ = some (.int .i64 X1) ∧ W.cell? ⟨k8, 1, none⟩ = some (.int .i64 S) ∧ W.cell? ⟨k8, 2, none⟩ = some (.int .i64 Hh) ∧ W.cell? ⟨k8, 3, none⟩ = some (.int .i64 X4) ∧ W.cell? ⟨k8, 4, none⟩ = some (.int .i64 X5) ∧ W.cell? ⟨k8, 5, none⟩ = some (.int .i64 X6) ∧ W.cell? ⟨k8, 6, none⟩ = some (.int .i64 X7) ∧ W.cell? ⟨k8, 7, none⟩ = some (.int .i64 X8)) (.take 0 <| .take 1 <| .take 2 <| .take 3 <| .take 4 <| .take 5 <| .take 6 <| .take 7 <| .take 8 <| .take 9 <| .take 10 <| .take 11 <| .take 12 <| .take 13 <| .take 14 <| .take 15 <| .take 16 <| .take 17 <| .take 18 <| .take 19 <| .take 20 <| .take 21 <| .take 23 <| .run 22 <| .take 24 <| .take 25 <| .take 26 <| .take 27 <| .take 28 <| .take 29 <| .take 30 <| .take 31 <| .take 32 <| .take 33 <| .take 34 <| .take 35 <| .done) (by kernel_rfl) (by kernel_rfl) (by kernel_rfl) (by kernel_rfl) (by exact HRJ.out) ?_
                      go_wp2_with (first
                        | (go_at_call 41
                           go_must (refine (ojob_any x0 X1 S Hh X4 X5 X6 X7 X8 HI.out.1 HI.out.2.1 HI.out.2.2.1 HI.out.2.2.2.1 HI.out.2.2.2.2.1 HI.out.2.2.2.2.2 HXL.out _ (by exact HTT.out)).mono ?_
                                    rintro e' w2 ⟨rfl, hb2⟩
                                    replace HRJ := Lib.hid (RJ.below (by exact HRJ.out) hb2)
                                    replace HB2 := Lib.hid (show Below wr.heap.size wr w2 from below_then HB2.out hb2)
                                    clear hb2))
                        | ((with_reducible refine PlanS_isTake ?_); refine PlanS_take (v := ?_) rfl ?_ (fun w hSw => ?_) ?_; rotate_left 1; (focus rfl); (focus ((try dsimp only at hSw); (first | (go_simp; done) | (go_simp; with_reducible rfl)))); simp only [Act.put, List.setIfInBounds_toArray, List.set_cons_zero, List.set_cons_succ]) | ((with_reducible refine PlanS_isTake ?_); refine PlanS_skip rfl ?_ ?_; (focus rfl); simp only [Act.put, List.setIfInBounds_toArray, List.set_cons_zero, List.set_cons_succ]) | ((with_reducible refine PlanS_isRun ?_); refine PlanS_run rfl (fun K hK => ?_); go_simp) | ((with_reducible refine And.intro ?_ (PlanS_is ?_)); (focus ((exact HRJ.out)))) | ((with_reducible refine PlanS_alt ?_ ?_)) | ((with_reducible refine PlanS_done ?_)))
                      go_meet
                      case rel => exact ⟨by rw [HG.out]; rfl, HB2.out⟩
                  case rest =>
                    obtain ⟨rfl, hb4⟩ := hcut
                    clear HAD HWL HTA
                    obtain ⟨W, hWc⟩ : ∃ W, W = wc := ⟨_, rfl⟩
                    subst hWc
                    replace HRJ := Lib.hid (RJ.below HRJ.out hb4)
                    replace H3 := Lib.hid (H3.out.belowS hb4)
                    replace HB := Lib.hid (below_only HK3.out.1 HB.out (Only.of_below hb4 (fun _ => False)) (fun j _ h => h))
                    clear hb4 HB2 HTT
                    rcases hg : rjGood s with _ | _
                    · have HK := Lib.hid (rj_bad hg)
                      simp only [Bool.not_false]
                      clear hg
                      go_upto_region 18 with fail
                      refine wp_region_lit ?_
                      refine wpList_val (.agg (jobC 0 0 0 0 0 0 0 0)) rfl (by kernel_rfl) ?_
                      refine wpList_val (.string (str [])) rfl (by kernel_rfl) ?_
                      refine wpList_store_mid rfl 53 (.tmp 3) (.tmp 110) rfl k3 0 (jobC 0 0 0 0 0 0 0 0) rfl rfl (H3.out.there (by decide)) (by kernel_rfl) (by kernel_rfl) ?_
                      refine wpList_val (.int .i64 4) rfl (by kernel_rfl) ?_
                      refine wpList_nil ?_
                      simp only [Exit.then]
                      rename_i hK
                      refine hK _ _ ?_
                      refine wp_ret ?_
                      (try simp only [Exit.then])
                      refine bodyPost_ret (v := .tuple #[.string (str []), .agg (jobC 0 0 0 0 0 0 0 0), .int .i64 4]) (results_tct k3 53 (jobC 0 0 0 0 0 0 0 0) (0, 0) _ rfl rfl rfl rfl (H3.out.setCells (jobC 0 0 0 0 0 0 0 0).toList rfl) Tryd.underlying53 rfl (by kernel_rfl)) rfl ?_
                      rw [HK.out.1, HK.out.2.1, HK.out.2.2]
                      exact ⟨rfl, by rw [← HK3.out.1]; exact below_only HK3.out.1 HB.out ((Only.refl (· = k3) _).setCells _ _ (.inl rfl)) (fun j hj => by omega)⟩
                    · have HK := Lib.hid (show rjW s = x0 ∧ rjJ s = jobC X1 S Hh X4 X5 X6 X7 X8 ∧ rjF s = 0 from by
                        obtain ⟨g1, g2, g3⟩ := rj_good hg
                        rw [g1, g2, g3, HJ.out.2, ← HSS.out, ← HHH.out, HX.out, HJW.out]
                        exact ⟨rfl, rfl, rfl⟩)
                      simp only [Bool.not_true]
                      clear hg
                      go_upto_region 19 with fail
                      go_cut [2, 4] (fun s2 s4 wx => s2 = .string (str x0) ∧ s4 = .int .i64 0 ∧ Blk wx k3 53 (jobC X1 S Hh X4 X5 X6 X7 X8) ∧ Below k3 w wx)
                      case first =>
                        refine wp_region_planS (fun W => W.cell? ⟨k5 + 1, 0, none⟩ = some (.int .i64 ER) ∧ W.cell? ⟨k5, 0, none⟩ = some (.slice (some ad) 9 tc) ∧ W.cell? ad = some (.string (str x0)) ∧ W.cell? ⟨k8, 0, none⟩ = some (.int .i64 X1) ∧ W.cell? ⟨k8, 1, none⟩ = some (.int .i64 S) ∧ W.cell? ⟨k8, 2, none⟩ = some (.int .i64 Hh) ∧ W.cell? ⟨k8, 3, none⟩ = some (.int .i64 X4) ∧ W.cell? ⟨k8, 4, none⟩ = some (.int .i64 X5) ∧ W.cell? ⟨k8, 5, none⟩ = some (.int .i64 X6) ∧ W.cell? ⟨k8, 6, none⟩ = some (.int .i64 X7) ∧ W.cell? ⟨k8, 7, none⟩ = some (.int .i64 X8)) (.take 0 <| .take 1 <| .take 2 <| .take 3 <| .take 4 <| .run 5 <| .take 6 <| .done) (by kernel_rfl) (by kernel_rfl) (by kernel_rfl) (by kernel_rfl) (by exact HRJ.out) ?_
                        go_wp2_with (first
                          | ((with_reducible refine PlanS_isRun ?_)
                             go_must (refine PlanS_store rfl rfl 53 (.tmp 3) (.tmp 114) rfl k3 (jobC X1 S Hh X4 X5 X6 X7 X8) rfl rfl (Blk.there (w := W.drew) H3.out (Nat.le_refl 8)) (by kernel_rfl) (by kernel_rfl) (RJ.only (w := W.drew) HRJ.out ((Only.refl (· = k3) W.drew).setCells _ 0 (.inl rfl)) (by have := HK3.out.2; omega) (by have := HK3.out.2; omega) HAD3.out (by have := HKK.out.2.1; omega)) ?_)
                             simp only [Act.put])
                          | ((with_reducible refine PlanS_isTake ?_); refine PlanS_take (v := ?_) rfl ?_ (fun w hSw => ?_) ?_; rotate_left 1; (focus rfl); (focus ((try dsimp only at hSw); (first | (go_simp; done) | (go_simp; with_reducible rfl)))); simp only [Act.put, List.setIfInBounds_toArray, List.set_cons_zero, List.set_cons_succ]) | ((with_reducible refine PlanS_isTake ?_); refine PlanS_skip rfl ?_ ?_; (focus rfl); simp only [Act.put, List.setIfInBounds_toArray, List.set_cons_zero, List.set_cons_succ]) | ((with_reducible refine PlanS_isRun ?_); refine PlanS_run rfl (fun K hK => ?_); go_simp) | ((with_reducible refine And.intro ?_ (PlanS_is ?_)); (focus ((exact RJ.only (w := W.drew) HRJ.out ((Only.refl (· = k3) W.drew).setCells [.int .i64 X1, .int .i64 S, .int .i64 Hh, .int .i64 X4, .int .i64 X5, .int .i64 X6, .int .i64 X7, .int .i64 X8] 0 (.inl rfl)) (by have := HK3.out.2; omega) (by have := HK3.out.2; omega) HAD3.out (by have := HKK.out.2.1; omega))))) | ((with_reducible refine PlanS_alt ?_ ?_)) | ((with_reducible refine PlanS_done ?_)))
                        go_meet
                        case rel => exact ⟨rfl, rfl, H3.out.drewN 1 |>.setCells [.int .i64 X1, .int .i64 S, .int .i64 Hh, .int .i64 X4, .int .i64 X5, .int .i64 X6, .int .i64 X7, .int .i64 X8] rfl, below_only HK3.out.1 (HB.out.drew) ((Only.refl (· = k3) W.drew).setCells [.int .i64 X1, .int .i64 S, .int .i64 Hh, .int .i64 X4, .int .i64 X5, .int .i64 X6, .int .i64 X7, .int .i64 X8] 0 (.inl rfl)) (fun j hj => by omega)⟩
                      case rest =>
                        obtain ⟨rfl, rfl, h3, hb5⟩ := hcut
                        rename_i hK
                        refine hK _ _ ?_
                        refine wp_ret ?_
                        (try simp only [Exit.then])
                        refine bodyPost_ret (v := .tuple #[.string (str x0), .agg (jobC X1 S Hh X4 X5 X6 X7 X8), .int .i64 0]) (results_tct k3 53 (jobC X1 S Hh X4 X5 X6 X7 X8) (0, 0) _ rfl rfl rfl rfl h3 Tryd.underlying53 rfl (by kernel_rfl)) rfl ?_
                        rw [HK.out.1, HK.out.2.1, HK.out.2.2]
                        exact ⟨rfl, by rw [← HK3.out.1]; exact hb5⟩
      · have hj2 : (x0 == [74, 79, 66]) = false := by simpa using fun e => hj (.inl e)
        have hj3 : (x0 == [80, 82, 79, 71, 82, 69, 83, 83]) = false := by simpa using fun e => hj (.inr e)
        have HK := Lib.hid (rj_bad (s := s) (by
          unfold rjGood rjHead
          rw [decide_eq_false (fun e => hj (by rw [HX.out, ← HJW.out]; exact e.2.2))]; rfl))
        clear hj
        go_upto_region 3 with fail
        refine wp_region_lit ?_
        refine wpList_val (.agg (jobC 0 0 0 0 0 0 0 0)) rfl (by kernel_rfl) ?_
        refine wpList_val (.string (str [])) rfl (by kernel_rfl) ?_
        refine wpList_store_mid rfl 53 (.tmp 3) (.tmp 35) rfl k3 0 (jobC 0 0 0 0 0 0 0 0) rfl rfl (H3.out.there (by decide)) (by kernel_rfl) (by kernel_rfl) ?_
        refine wpList_val (.int .i64 4) rfl (by kernel_rfl) ?_
        refine wpList_nil ?_
        simp only [Exit.then]
        rename_i hK
        refine hK _ _ ?_
        refine wp_ret ?_
        (try simp only [Exit.then])
        refine bodyPost_ret (v := .tuple #[.string (str []), .agg (jobC 0 0 0 0 0 0 0 0), .int .i64 4]) (results_tct k3 53 (jobC 0 0 0 0 0 0 0 0) (0, 0) _ rfl rfl rfl rfl (H3.out.setCells (jobC 0 0 0 0 0 0 0 0).toList rfl) Tryd.underlying53 rfl (by kernel_rfl)) rfl ?_
        rw [HK.out.1, HK.out.2.1, HK.out.2.2]
        exact ⟨rfl, by rw [← HK3.out.1]; exact below_only HK3.out.1 HB.out ((Only.refl (· = k3) _).setCells _ _ (.inl rfl)) (fun j hj => by omega)⟩
    · have hnb : ((n : Int) != 9) = true := by simp; omega
      have HK := Lib.hid (rj_bad (s := s) (by
        unfold rjGood rjHead
        rw [decide_eq_false (fun e => h9 (by rw [← HN.out, ← HJW.out]; exact e.2.1))]; rfl))
      clear h9
      go_upto_region 3 with fail
      refine wp_region_lit ?_
      refine wpList_val (.agg (jobC 0 0 0 0 0 0 0 0)) rfl (by kernel_rfl) ?_
      refine wpList_val (.string (str [])) rfl (by kernel_rfl) ?_
      refine wpList_store_mid rfl 53 (.tmp 3) (.tmp 35) rfl k3 0 (jobC 0 0 0 0 0 0 0 0) rfl rfl (H3.out.there (by decide)) (by kernel_rfl) (by kernel_rfl) ?_
      refine wpList_val (.int .i64 4) rfl (by kernel_rfl) ?_
      refine wpList_nil ?_
      simp only [Exit.then]
      rename_i hK
      refine hK _ _ ?_
      refine wp_ret ?_
      (try simp only [Exit.then])
      refine bodyPost_ret (v := .tuple #[.string (str []), .agg (jobC 0 0 0 0 0 0 0 0), .int .i64 4]) (results_tct k3 53 (jobC 0 0 0 0 0 0 0 0) (0, 0) _ rfl rfl rfl rfl (H3.out.setCells (jobC 0 0 0 0 0 0 0 0).toList rfl) Tryd.underlying53 rfl (by kernel_rfl)) rfl ?_
      rw [HK.out.1, HK.out.2.1, HK.out.2.2]
      exact ⟨rfl, by rw [← HK3.out.1]; exact below_only HK3.out.1 HB.out ((Only.refl (· = k3) _).setCells _ _ (.inl rfl)) (fun j hj => by omega)⟩
  · have heb : (err != 0) = true := by simpa using he
    have HK := Lib.hid (rj_bad (s := s) (by unfold rjGood rjHead; rw [show (wordsE s).1 = err by rw [HE.out]]; simp [he]))
    clear he
    go_upto_region 3 with fail
    refine wp_region_lit ?_
    refine wpList_val (.agg (jobC 0 0 0 0 0 0 0 0)) rfl (by kernel_rfl) ?_
    refine wpList_val (.string (str [])) rfl (by kernel_rfl) ?_
    refine wpList_store_mid rfl 53 (.tmp 3) (.tmp 35) rfl k3 0 (jobC 0 0 0 0 0 0 0 0) rfl rfl (H3.out.there (by decide)) (by kernel_rfl) (by kernel_rfl) ?_
    refine wpList_val (.int .i64 4) rfl (by kernel_rfl) ?_
    refine wpList_nil ?_
    simp only [Exit.then]
    rename_i hK
    refine hK _ _ ?_
    refine wp_ret ?_
    (try simp only [Exit.then])
    refine bodyPost_ret (v := .tuple #[.string (str []), .agg (jobC 0 0 0 0 0 0 0 0), .int .i64 4]) (results_tct k3 53 (jobC 0 0 0 0 0 0 0 0) (0, 0) _ rfl rfl rfl rfl (H3.out.setCells (jobC 0 0 0 0 0 0 0 0).toList rfl) Tryd.underlying53 rfl (by kernel_rfl)) rfl ?_
    rw [HK.out.1, HK.out.2.1, HK.out.2.2]
    exact ⟨rfl, by rw [← HK3.out.1]; exact below_only HK3.out.1 HB.out ((Only.refl (· = k3) _).setCells _ _ (.inl rfl)) (fun j hj => by omega)⟩
end Go.Proofs.YtldkcfhigcmoaaaDoor
