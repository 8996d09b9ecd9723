/- What ReadJob answers, the document's. Conditions: those in the theorem. -/
import Derived.Test.YtldkcfhigcmoaaaDoorProtoG
namespace Go.Proofs.YtldkcfhigcmoaaaDoor
open Go.RowKit Go.As
set_option linter.unusedVariables false

/-- the numbers' places, bounds and least values -/
def atT (k : Nat) : Nat := [1, 4, 5, 6, 7, 8].getD k 0
def bdT (k : Nat) : Int := [1073741824, 1099511627776, 1024, 9223372036854775807, 9223372036854775807, 9223372036854775807].getD k 0
def leT (k : Nat) : Int := if k < 3 then 1 else 0
def intsA (l : List Int) : Array Value := (l.map (Value.int .i64)).toArray
def okV (s : List UInt8) (k : Nat) : Bool := rjNum s (atT k) (leT k) (bdT k)
def nUp (s : List UInt8) : Nat → Array Value
  | 0 => intsA [0, 0, 0, 0, 0, 0]
  | k + 1 => (nUp s k).setIfInBounds k (.int .i64 (rjX s (atT k) (bdT k)))
theorem nUp_size (s : List UInt8) (k : Nat) : (nUp s k).size = 6 := by
  induction k with
  | zero => rfl
  | succ k ih => unfold nUp; rw [Array.size_setIfInBounds, ih]
theorem tabs {k : Nat} (h : k < 6) : (intsA [1, 4, 5, 6, 7, 8])[k]? = some (.int .i64 (atT k)) ∧ (intsA [1073741824, 1099511627776, 1024, 9223372036854775807, 9223372036854775807, 9223372036854775807])[k]? = some (.int .i64 (bdT k)) ∧ atT k < 9 ∧ 0 < atT k ∧ 0 < bdT k ∧ bdT k ≤ 9223372036854775807 := by
  rcases (show k = 0 ∨ k = 1 ∨ k = 2 ∨ k = 3 ∨ k = 4 ∨ k = 5 by omega) with rfl | rfl | rfl | rfl | rfl | rfl <;> exact ⟨rfl, rfl, by decide, by decide, by decide, by decide⟩
theorem rnum_q (s : List UInt8) (least most : Int) {V : Int} {b : Bool} (hV : V = (rdE s most).1) (hb : numOk s least most = b) (w : World) (hs : s.length ≤ 9223372036854775807) (hm1 : 0 < most) (hm2 : most ≤ 9223372036854775807) :
    Calls Tryd.prog 64 #[.string (str s), .int .i64 least, .int .i64 most] w fun e w' => e = .returned (.tuple #[.int .i64 V, .bool b]) ∧ ∃ k, w' = w.drewN k := by
  subst hV hb
  exact (rnum_any s least most w hs (by omega) hm2).mono fun e w' ⟨h1, h2⟩ => ⟨h1, 0, h2.symm⟩
theorem rjX_i64 (s : List UInt8) (i : Nat) (most : Int) : I64 (rjX s i most) := by have := rdE_lo (wd (JWS s) i) most; unfold I64 rjX; omega
def mayB (k m : Nat) : Bool := if k = 2 then decide (2 ≤ m) else decide (m = 0)
theorem may_ok {k m : Nat} (hk : (k : Int) ≤ 4) (hm : (m : Int) ≤ 5) (h : mayB k m = true) : okJ k m := by
  unfold mayB at h
  unfold okJ
  split at h
  · simp at h; omega
  · simp at h; omega
theorem ok_may {k m : Nat} (h : okJ k m) : mayB k m = true := by
  unfold okJ at h
  unfold mayB
  split
  · simp; omega
  · simp; omega
/-- what the test of one pair reads -/
def RQ (W : World) (k : Nat) (ad : Addr) (x0 : List UInt8) (a b c d e f g h : Int) : Prop := W.cell? ad = some (.string (str x0)) ∧ JobAt W k a b c d e f g h
theorem RQ.below {w w' : World} {k : Nat} {ad : Addr} {x0 : List UInt8} {a b c d e f g h : Int} (hr : RQ w k ad x0 a b c d e f g h) (hb : Below w.heap.size w w') : RQ w' k ad x0 a b c d e f g h :=
  ⟨(hb.cell (World.block_lt_of_cell? w _ hr.1)).trans hr.1, hr.2.below hb (World.block_lt_of_cell? w _ hr.2.1)⟩
theorem RQ.drew {w : World} {k : Nat} {ad : Addr} {x0 : List UInt8} {a b c d e f g h : Int} (hr : RQ w k ad x0 a b c d e f g h) : RQ w.drew k ad x0 a b c d e f g h := hr
theorem RQ.only {F : Nat → Prop} {w w' : World} {k : Nat} {ad : Addr} {x0 : List UInt8} {a b c d e f g h : Int} (hr : RQ w k ad x0 a b c d e f g h) (ho : Only F w w') (f3 : ¬ F ad.block) (f4 : ¬ F k) : RQ w' k ad x0 a b c d e f g h := by
  obtain ⟨h3, h40, h41, h42, h43, h44, h45, h46, h47⟩ := hr
  exact ⟨cell_only h3 ho f3, cell_only h40 ho f4, cell_only h41 ho f4, cell_only h42 ho f4, cell_only h43 ho f4, cell_only h44 ho f4, cell_only h45 ho f4, cell_only h46 ho f4, cell_only h47 ho f4⟩
theorem nums_all {s : List UInt8} (h : ∀ j, j < 6 → okV s j = true) : rjNums s = true := by
  have h0 := h 0 (by omega)
  have h1 := h 1 (by omega)
  have h2 := h 2 (by omega)
  have h3 := h 3 (by omega)
  have h4 := h 4 (by omega)
  have h5 := h 5 (by omega)
  unfold rjNums
  simp only [okV, atT, leT, bdT] at h0 h1 h2 h3 h4 h5
  simp at h0 h1 h2 h3 h4 h5
  rw [h0, h1, h2, h3, h4, h5]; rfl
theorem nums_bad {s : List UInt8} {k : Nat} (hk : k < 6) (h : okV s k = false) : rjNums s = false := by
  unfold rjNums
  rcases (show k = 0 ∨ k = 1 ∨ k = 2 ∨ k = 3 ∨ k = 4 ∨ k = 5 by omega) with rfl | rfl | rfl | rfl | rfl | rfl <;> simp [okV, atT, leT, bdT] at h <;> simp [h]



set_option maxRecDepth 100000 in
set_option maxHeartbeats 6400000 in
theorem rreadjob_any (s : List UInt8) (hs : s.length ≤ 1048576) (w : World) :
    Calls Tryd.prog 35 #[.string (str s)] w fun e w' => e = .returned (.tuple #[.string (str (rjW s)), .agg (rjJ s), .bool (rjGood s)]) ∧ Below w.heap.size w w' := by
  obtain ⟨LL, err, hLL⟩ : ∃ LL err, wordsE s = (err, LL) := ⟨_, _, rfl⟩
  have HE := Lib.hid hLL
  clear hLL
  go_enter Tryd.func35, Tryd.ntmps35
  go_upto_region 2 with (first
    | (go_at_call 63
       refine (rwords_any s _ hs).mono ?_
       rw [HE.out]
       rintro e' w1 ⟨tv, rfl, hr1, hb1⟩
       obtain ⟨ta, tc, rfl, hnc, -⟩ := own_form hr1
       have HOB := Lib.hid (own_base hr1)
       have H1 := Lib.hid (And.intro hb1 (Sl.of_own hr1))
       clear hr1 hb1))
  obtain ⟨k3, hk3⟩ : ∃ k, k = w.heap.size := ⟨_, rfl⟩
  have hb0 := H1.out.1
  have hb1 : Below w.heap.size w w1 := below_then ((Below.refl _ _).alloc (Nat.le_refl _) _) hb0
  have hlt3 : w.heap.size < w1.heap.size := Nat.lt_of_lt_of_le (by simp) hb0.size
  have h3 : Blk w1 w.heap.size 53 (jobC 0 0 0 0 0 0 0 0) := (Blk.new w 53 _).belowS hb0
  rw [← hk3] at h3 hb1 hlt3
  simp only [← hk3]
  have HT3 := Lib.hid (show ∀ ad, ta = some ad → ¬ ad.block = k3 from fun ad e hk => by
    have := HOB.out ad e
    rw [hk, hk3] at this
    simp at this
    omega)
  have HB := Lib.hid hb1
  have H3 := Lib.hid h3
  have HS := Lib.hid H1.out.2
  have HK3 := Lib.hid hk3
  have HLT3 := Lib.hid hlt3
  generalize hn : LL.length = n at *
  have HN := Lib.hid hn
  clear hn hb0 hb1 hlt3 h3 hk3 H1 HOB
  by_cases he : err = 0
  · subst he
    have HJW := Lib.hid (show JWS s = LL from by unfold JWS; rw [HE.out])
    have HE0 := Lib.hid (show (wordsE s).1 = 0 from by rw [HE.out])
    clear HE
    by_cases h9 : n = 9
    · subst h9
      obtain ⟨ad, u, hA, -, hu, hca⟩ := HS.out.at1 (k := 0) (by omega)
      rw [txs_get (wd_get (by rw [HN.out]; omega))] at hu
      obtain rfl := Option.some.inj hu
      subst hA
      have hca0 : w1.cell? ad = some (.string (str (wd LL 0))) := by simpa [Addr.add] using hca
      clear hca hu
      obtain ⟨x0, hx0⟩ : ∃ x, x = wd LL 0 := ⟨_, rfl⟩
      rw [← hx0] at hca0
      have HX := Lib.hid hx0
      clear hx0
      by_cases hj : x0 = [74, 79, 66] ∨ x0 = [80, 82, 79, 71, 82, 69, 83, 83]
      · have HH := Lib.hid (show rjHead s = true from by
          unfold rjHead
          refine decide_eq_true ⟨HE0.out, by rw [HJW.out, HN.out], ?_⟩
          rw [HJW.out, ← HX.out]; exact hj)
        go_cut [42] (fun sv wx => sv = .bool false ∧ wx = w1)
        case first =>
          by_cases hj1 : x0 = [74, 79, 66]
          · have hj2 : (x0 == [74, 79, 66]) = true := by simpa using hj1
            clear hj hj1
            go_wp2_with fail
            go_meet
            case rel => exact ⟨rfl, rfl⟩
          · have hj2 : (x0 == [74, 79, 66]) = false := by simpa using hj1
            have hj3 : (x0 == [80, 82, 79, 71, 82, 69, 83, 83]) = true := by simpa using hj.resolve_left hj1
            clear hj hj1
            go_wp2_with fail
            go_meet
            case rel => exact ⟨rfl, rfl⟩
        case rest =>
          obtain ⟨rfl, hwx⟩ := hcut
          have hwx' := hwx.symm
          subst hwx'
          clear hwx hj hca0
          go_wp2_with fail
          have hadk : ad.block < w1.heap.size := sl_blk HS.out (by omega)
          have HWL := Lib.hid (show ∀ i, (wd LL i).length ≤ 9223372036854775807 from fun i => by have := wd_len (s := s) i; rw [HJW.out] at this; omega)
          have e8 := Blk.new w1 83 (intsA [0, 0, 0, 0, 0, 0])
          have hb3 := below_alloc (below_alloc (below_alloc (Below.refl w1.heap.size w1) (.cells (intsA [0, 0, 0, 0, 0, 0]) 83)) (.cells (intsA [1073741824, 1099511627776, 1024, 9223372036854775807, 9223372036854775807, 9223372036854775807]) 83)) (.cells (intsA [1, 4, 5, 6, 7, 8]) 83)
          have h8 := (e8.alloc (.cells (intsA [1073741824, 1099511627776, 1024, 9223372036854775807, 9223372036854775807, 9223372036854775807]) 83)).alloc (.cells (intsA [1, 4, 5, 6, 7, 8]) 83)
          have h9 := (Blk.new (w1.alloc (.cells (intsA [0, 0, 0, 0, 0, 0]) 83)) 83 (intsA [1073741824, 1099511627776, 1024, 9223372036854775807, 9223372036854775807, 9223372036854775807])).alloc (.cells (intsA [1, 4, 5, 6, 7, 8]) 83)
          have h10 := Blk.new ((w1.alloc (.cells (intsA [0, 0, 0, 0, 0, 0]) 83)).alloc (.cells (intsA [1073741824, 1099511627776, 1024, 9223372036854775807, 9223372036854775807, 9223372036854775807]) 83)) 83 (intsA [1, 4, 5, 6, 7, 8])
          rw [show (w1.alloc (.cells (intsA [0, 0, 0, 0, 0, 0]) 83)).heap.size = w1.heap.size + 1 by simp] at h9
          rw [show ((w1.alloc (.cells (intsA [0, 0, 0, 0, 0, 0]) 83)).alloc (.cells (intsA [1073741824, 1099511627776, 1024, 9223372036854775807, 9223372036854775807, 9223372036854775807]) 83)).heap.size = w1.heap.size + 1 + 1 by simp] at h10
          replace HB := Lib.hid (below_only HK3.out HB.out (Only.of_below hb3 (fun _ => False)) (fun j _ h => h))
          replace H3 := Lib.hid (H3.out.belowS hb3)
          replace HS := Lib.hid (HS.out.below hb3)
          change Code.wp _ _ _ _ (((w1.alloc (.cells (intsA [0, 0, 0, 0, 0, 0]) 83)).alloc (.cells (intsA [1073741824, 1099511627776, 1024, 9223372036854775807, 9223372036854775807, 9223372036854775807]) 83)).alloc (.cells (intsA [1, 4, 5, 6, 7, 8]) 83))
          generalize (((w1.alloc (.cells (intsA [0, 0, 0, 0, 0, 0]) 83)).alloc (.cells (intsA [1073741824, 1099511627776, 1024, 9223372036854775807, 9223372036854775807, 9223372036854775807]) 83)).alloc (.cells (intsA [1, 4, 5, 6, 7, 8]) 83)) = W2 at *
          obtain ⟨k8, hk8⟩ : ∃ k, k = w1.heap.size := ⟨_, rfl⟩
          rw [← hk8] at h8 h9 h10 hadk
          simp only [← hk8]
          have HLK := Lib.hid (show k3 < k8 from by rw [hk8]; exact HLT3.out)
          have HAD := Lib.hid hadk
          have H8 := Lib.hid h8
          have H9 := Lib.hid h9
          have H10 := Lib.hid h10
          clear hk8 hadk h8 h9 h10 hb3 e8 HLT3
          go_loopw [11] (fun iv wr => ∃ k : Nat, k ≤ 6 ∧ iv = .int .i64 k ∧ Only (· = k8) W2 wr ∧ Blk wr k8 83 (nUp s k) ∧ ∀ j, j < k → okV s j = true) (fun iv _ => 6 - (intOf iv).toNat)
          case atStart => exact ⟨0, by omega, rfl, Only.refl _ _, H8.out, fun j hj => by omega⟩
          case round =>
            obtain ⟨k, hk, rfl, ho, h8, hok⟩ := hrel
            by_cases hlt : k < 6
            · obtain ⟨t1, t2, t3, t4, t5, t6⟩ := tabs hlt
              have hk8 := HLK.out
              have had := HAD.out
              have c9 := (H9.out.only ho (by omega)).cell k
              have c10 := (H10.out.only ho (by omega)).cell k
              rw [t2] at c9
              rw [t1] at c10
              obtain ⟨j, hj⟩ : ∃ j, j = atT k := ⟨_, rfl⟩
              obtain ⟨bd, hbd⟩ : ∃ b, b = bdT k := ⟨_, rfl⟩
              rw [← hj] at c10 t3 t4
              rw [← hbd] at c9 t5 t6
              obtain ⟨ad2, v2, e2, -, hu2, cw⟩ := (HS.out.only ho (fun ad' e => by injection e with e; subst e; omega)).at1 (k := j) t3
              rw [txs_get (wd_get (by rw [HN.out]; omega))] at hu2
              obtain rfl := Option.some.inj hu2
              injection e2 with e2
              subst e2
              obtain ⟨xs, hxs⟩ : ∃ x, x = wd LL j := ⟨_, rfl⟩
              rw [← hxs] at cw
              have HXS := Lib.hid (show xs.length ≤ 9223372036854775807 from by rw [hxs]; exact HWL.out j)
              have HJ := Lib.hid (show (rdE xs bd).1 = rjX s (atT k) (bdT k) ∧ (∀ le, le = leT k → numOk xs le bd = okV s k) from by
                unfold rjX okV rjNum
                rw [hxs, hj, hbd, HJW.out]
                exact ⟨rfl, fun le hle => by rw [hle]⟩)
              obtain ⟨V, hV⟩ : ∃ v, v = (rdE xs bd).1 := ⟨_, rfl⟩
              have hjn : (j : Int) < 9 := by omega
              have hki : (k : Int) < 6 := by omega
              have c8 : ∃ u, wr.cell? ⟨k8, k, none⟩ = some u := ⟨_, by rw [h8.cell]; exact Array.getElem?_eq_getElem (by rw [nUp_size]; exact hlt)⟩
              obtain ⟨u8, c8⟩ := c8
              have f8 := h8.frozen k
              have HSE := Lib.hid (fun u => h8.set_ k u)
              have HO := Lib.hid (And.intro ho hok)
              have HV := Lib.hid hV
              clear hu2 hxs hj hbd hV ho hok h8 t1 t2 had hk8
              by_cases hk3 : k < 3
              · have hk3i : (k : Int) < 3 := by omega
                have HLE := Lib.hid (show (1 : Int) = leT k from by unfold leT; rw [if_pos hk3])
                clear hk3
                rcases hb : okV s k with _ | _
                · have HOK := Lib.hid (show numOk xs 1 bd = false from (HJ.out.2 _ HLE.out).trans hb)
                  have hg : rjGood s = false := by unfold rjGood; rw [nums_bad hlt hb]; simp
                  have HK := Lib.hid (And.intro (rj_bad hg) hg)
                  have HOX := Lib.hid (HO.out.1.drewN)
                  clear hb hg HJ hlt
                  go_wp2_with fail
                  go_quiet (first | (go_at_call 64; exact Calls.quiet_of (rnum_q xs 1 bd HV.out HOK.out _ HXS.out t5 t6)))
                  replace H3 := Lib.hid ((H3.out.only HO.out.1 (by have := HLK.out; omega)).drewN nq)
                  replace HB := Lib.hid (below_only HK3.out HB.out (HO.out.1.drewN nq) (fun j hj => by have := HLK.out; omega))
                  clear HOX HSE c9 c10 cw c8 f8
                  generalize wr.drewN nq = W at *
                  go_upto_region 16 with fail
                  refine wp_region_lit ?_
                  refine wpList_val (.agg (jobC 0 0 0 0 0 0 0 0)) rfl (by kernel_rfl) ?_
                  refine wpList_val (.string (str [])) rfl (by kernel_rfl) ?_
                  refine wpList_store_mid rfl 53 (.tmp 3) (.tmp 71) rfl k3 0 (jobC 0 0 0 0 0 0 0 0) rfl rfl (H3.out.there (by decide)) (by kernel_rfl) (by kernel_rfl) ?_
                  refine wpList_val (.bool false) rfl (by kernel_rfl) ?_
                  refine wpList_nil ?_
                  simp only [Exit.then]
                  rename_i hK
                  refine hK _ _ ?_
                  refine wp_ret ?_
                  simp (config := { zetaDelta := true }) only [Exit.inBlock, Exit.then]
                  refine bodyPost_ret (v := .tuple #[.string (str []), .agg (jobC 0 0 0 0 0 0 0 0), .bool false]) (results_tct k3 53 (jobC 0 0 0 0 0 0 0 0) (0, 0) _ rfl rfl rfl rfl (H3.out.setCells (jobC 0 0 0 0 0 0 0 0).toList rfl) Tryd.underlying53 rfl (by kernel_rfl)) rfl ?_
                  rw [HK.out.2, HK.out.1.1, HK.out.1.2.1]
                  exact ⟨rfl, by rw [← HK3.out]; exact below_only HK3.out HB.out ((Only.refl (· = k3) _).setCells _ _ (.inl rfl)) (fun j hj => by omega)⟩
                · have HOK := Lib.hid (show numOk xs 1 bd = true from (HJ.out.2 _ HLE.out).trans hb)
                  have HOA := Lib.hid (show ∀ j, j < k + 1 → okV s j = true from fun j hj => by
                    rcases Nat.lt_or_ge j k with h | h
                    · exact HO.out.2 j h
                    · rw [show j = k by omega]; exact hb)
                  clear hb
                  go_wp2_with fail
                  go_quiet (first | (go_at_call 64; exact Calls.quiet_of (rnum_q xs 1 bd HV.out HOK.out _ HXS.out t5 t6)))
                  go_wp2_with fail
                  go_roundw
                  case rel => exact ⟨k + 1, by omega, by go_num, (HO.out.1.drewN _).set (p := ⟨k8, k, none⟩) (.inl rfl) _, by unfold nUp; rw [← HJ.out.1, ← HV.out]; exact HSE.out _, HOA.out⟩
                  case measure => simp [intOf]; omega
              · have hk3i : ¬ (k : Int) < 3 := by omega
                have HLE := Lib.hid (show (0 : Int) = leT k from by unfold leT; rw [if_neg hk3])
                clear hk3
                rcases hb : okV s k with _ | _
                · have HOK := Lib.hid (show numOk xs 0 bd = false from (HJ.out.2 _ HLE.out).trans hb)
                  have hg : rjGood s = false := by unfold rjGood; rw [nums_bad hlt hb]; simp
                  have HK := Lib.hid (And.intro (rj_bad hg) hg)
                  have HOX := Lib.hid (HO.out.1.drewN)
                  clear hb hg HJ hlt
                  go_wp2_with fail
                  go_quiet (first | (go_at_call 64; exact Calls.quiet_of (rnum_q xs 0 bd HV.out HOK.out _ HXS.out t5 t6)))
                  replace H3 := Lib.hid ((H3.out.only HO.out.1 (by have := HLK.out; omega)).drewN nq)
                  replace HB := Lib.hid (below_only HK3.out HB.out (HO.out.1.drewN nq) (fun j hj => by have := HLK.out; omega))
                  clear HOX HSE c9 c10 cw c8 f8
                  generalize wr.drewN nq = W at *
                  go_upto_region 16 with fail
                  refine wp_region_lit ?_
                  refine wpList_val (.agg (jobC 0 0 0 0 0 0 0 0)) rfl (by kernel_rfl) ?_
                  refine wpList_val (.string (str [])) rfl (by kernel_rfl) ?_
                  refine wpList_store_mid rfl 53 (.tmp 3) (.tmp 71) rfl k3 0 (jobC 0 0 0 0 0 0 0 0) rfl rfl (H3.out.there (by decide)) (by kernel_rfl) (by kernel_rfl) ?_
                  refine wpList_val (.bool false) rfl (by kernel_rfl) ?_
                  refine wpList_nil ?_
                  simp only [Exit.then]
                  rename_i hK
                  refine hK _ _ ?_
                  refine wp_ret ?_
                  simp (config := { zetaDelta := true }) only [Exit.inBlock, Exit.then]
                  refine bodyPost_ret (v := .tuple #[.string (str []), .agg (jobC 0 0 0 0 0 0 0 0), .bool false]) (results_tct k3 53 (jobC 0 0 0 0 0 0 0 0) (0, 0) _ rfl rfl rfl rfl (H3.out.setCells (jobC 0 0 0 0 0 0 0 0).toList rfl) Tryd.underlying53 rfl (by kernel_rfl)) rfl ?_
                  rw [HK.out.2, HK.out.1.1, HK.out.1.2.1]
                  exact ⟨rfl, by rw [← HK3.out]; exact below_only HK3.out HB.out ((Only.refl (· = k3) _).setCells _ _ (.inl rfl)) (fun j hj => by omega)⟩
                · have HOK := Lib.hid (show numOk xs 0 bd = true from (HJ.out.2 _ HLE.out).trans hb)
                  have HOA := Lib.hid (show ∀ j, j < k + 1 → okV s j = true from fun j hj => by
                    rcases Nat.lt_or_ge j k with h | h
                    · exact HO.out.2 j h
                    · rw [show j = k by omega]; exact hb)
                  clear hb
                  go_wp2_with fail
                  go_quiet (first | (go_at_call 64; exact Calls.quiet_of (rnum_q xs 0 bd HV.out HOK.out _ HXS.out t5 t6)))
                  go_wp2_with fail
                  go_roundw
                  case rel => exact ⟨k + 1, by omega, by go_num, (HO.out.1.drewN _).set (p := ⟨k8, k, none⟩) (.inl rfl) _, by unfold nUp; rw [← HJ.out.1, ← HV.out]; exact HSE.out _, HOA.out⟩
                  case measure => simp [intOf]; omega
            · obtain rfl : k = 6 := by omega
              have hnums : rjNums s = true := nums_all hok
              obtain ⟨X1, hX1⟩ : ∃ x, x = rjX s 1 1073741824 := ⟨_, rfl⟩
              obtain ⟨X4, hX4⟩ : ∃ x, x = rjX s 4 1099511627776 := ⟨_, rfl⟩
              obtain ⟨X5, hX5⟩ : ∃ x, x = rjX s 5 1024 := ⟨_, rfl⟩
              obtain ⟨X6, hX6⟩ : ∃ x, x = rjX s 6 9223372036854775807 := ⟨_, rfl⟩
              obtain ⟨X7, hX7⟩ : ∃ x, x = rjX s 7 9223372036854775807 := ⟨_, rfl⟩
              obtain ⟨X8, hX8⟩ : ∃ x, x = rjX s 8 9223372036854775807 := ⟨_, rfl⟩
              have h8 : Blk wr k8 83 #[.int .i64 X1, .int .i64 X4, .int .i64 X5, .int .i64 X6, .int .i64 X7, .int .i64 X8] := by
                rw [hX1, hX4, hX5, hX6, hX7, hX8]; exact h8
              have HI := Lib.hid (show I64 X1 ∧ I64 X4 ∧ I64 X5 ∧ I64 X6 ∧ I64 X7 ∧ I64 X8 from by
                rw [hX1, hX4, hX5, hX6, hX7, hX8]
                exact ⟨rjX_i64 _ _ _, rjX_i64 _ _ _, rjX_i64 _ _ _, rjX_i64 _ _ _, rjX_i64 _ _ _, rjX_i64 _ _ _⟩)
              have HJ := Lib.hid (show (∀ b c, rjLine s b c = jobL x0 X1 b c X4 X5 X6 X7 X8) ∧ (∀ b c, jobC (rjX s 1 1073741824) b c (rjX s 4 1099511627776) (rjX s 5 1024) (rjX s 6 9223372036854775807) (rjX s 7 9223372036854775807) (rjX s 8 9223372036854775807) = jobC X1 b c X4 X5 X6 X7 X8) from by
                unfold rjLine
                rw [hX1, hX4, hX5, hX6, hX7, hX8, HX.out, HJW.out]
                exact ⟨fun _ _ => rfl, fun _ _ => rfl⟩)
              have HG := Lib.hid (show rjGood s = rjFit s from by unfold rjGood; rw [HH.out, hnums]; rfl)
              have HXL := Lib.hid (show x0.length ≤ 1048576 from by have := wd_len (s := s) 0; rw [HJW.out, ← HX.out] at this; omega)
              replace H3 := Lib.hid (H3.out.only ho (by have := HLK.out; omega))
              replace HB := Lib.hid (below_only HK3.out HB.out ho (fun j hj => by have := HLK.out; omega))
              replace HS := Lib.hid (HS.out.only ho (fun ad' e => by injection e with e; subst e; have := HAD.out; omega))
              have H8 := Lib.hid h8
              clear hX1 hX4 hX5 hX6 hX7 hX8 hnums h8 hok ho hk hlt H9 H10 HWL
              obtain ⟨W3, hW3⟩ : ∃ W, W = wr := ⟨_, rfl⟩
              subst hW3
              go_wp2_with fail
              go_loopw [15] (fun iv wz => ∃ k : Nat, k ≤ 5 ∧ iv = .int .i64 k ∧ Below W3.heap.size W3 wz ∧ (rjFit s = true → (k : Int) ≤ rjS s)) (fun iv _ => 5 - (intOf iv).toNat)
              case atStart => exact ⟨0, by omega, rfl, Below.refl _ _, fun h => (okJ_range (rjFit_ok h).1).1⟩
              case round =>
                obtain ⟨k, hk, rfl, hbz, hfit⟩ := hrel
                by_cases hlt : k < 5
                · have hki : (k : Int) ≤ 4 := by omega
                  have HF := Lib.hid (And.intro hbz hfit)
                  clear hbz hfit
                  go_wp2_with fail
                  go_loopw [16] (fun jv wz => ∃ m : Nat, m ≤ 6 ∧ jv = .int .i64 m ∧ Below W3.heap.size W3 wz ∧ (rjFit s = true → (k : Int) < rjS s ∨ ((k : Int) = rjS s ∧ (m : Int) ≤ rjH s))) (fun jv _ => 6 - (intOf jv).toNat)
                  case atStart => exact ⟨0, by omega, rfl, HF.out.1, fun h => by have h1 := HF.out.2 h; have h2 := hoIx_range (wd (JWS s) 3); unfold rjH; omega⟩
                  case round =>
                    obtain ⟨m, hm, rfl, hbz, hfit⟩ := hrel
                    by_cases hlm : m < 6
                    · have hmi : (m : Int) ≤ 5 := by omega
                      have h8 := H8.out.belowS hbz
                      have d0 := h8.cell 0
                      have d1 := h8.cell 1
                      have d2 := h8.cell 2
                      have d3 := h8.cell 3
                      have d4 := h8.cell 4
                      have d5 := h8.cell 5
                      simp only [List.getElem?_toArray, List.getElem?_cons_zero, List.getElem?_cons_succ] at d0 d1 d2 d3 d4 d5
                      have HF2 := Lib.hid (And.intro hbz hfit)
                      clear hbz hfit h8
                      go_upto_region 25 with fail
                      obtain ⟨k17, hk17⟩ : ∃ q, q = wr.heap.size := ⟨_, rfl⟩
                      have h17 : JobAt (wr.alloc (.cells #[.int .i64 X1, .int .i64 k, .int .i64 m, .int .i64 X4, .int .i64 X5, .int .i64 X6, .int .i64 X7, .int .i64 X8] 53)) k17 X1 k m X4 X5 X6 X7 X8 := by rw [hk17]; exact JobAt.new wr 53 _ _ _ _ _ _ _ _
                      have hb4 := below_alloc HF2.out.1 (.cells #[.int .i64 X1, .int .i64 k, .int .i64 m, .int .i64 X4, .int .i64 X5, .int .i64 X6, .int .i64 X7, .int .i64 X8] 53)
                      have hK17 : ¬ k17 = k3 := by have h1 := H3.out.lt; have h2 := HF2.out.1.size; omega
                      rw [← hk17]
                      generalize (wr.alloc (.cells #[.int .i64 X1, .int .i64 k, .int .i64 m, .int .i64 X4, .int .i64 X5, .int .i64 X6, .int .i64 X7, .int .i64 X8] 53)) = W4 at *
                      have hx0 : W4.cell? ad = some (.string (str x0)) := by
                        obtain ⟨ad2, v2, e2, -, hu2, c0⟩ := (HS.out.below hb4).at1 (k := 0) (by omega)
                        rw [txs_get (wd_get (by rw [HN.out]; omega)), ← HX.out] at hu2
                        obtain rfl := Option.some.inj hu2
                        injection e2 with e2
                        subst e2
                        simpa [Addr.add] using c0
                      have HRQ := Lib.hid (show RQ W4 k17 ad x0 X1 k m X4 X5 X6 X7 X8 from ⟨hx0, h17⟩)
                      have HBF := Lib.hid hb4
                      have HK17 := Lib.hid hK17
                      have HAD3 := Lib.hid (HT3.out ad rfl)
                      clear hk17 h17 hb4 hK17 hx0 d0 d1 d2 d3 d4 d5
                      go_cut [18] (fun sv wx => sv = .bool (mayB k m) ∧ wx = W4)
                      case first =>
                        by_cases hk2 : k = 2
                        · have hkb : ((k : Int) == 2) = true := by simp; omega
                          have hkn : ((k : Int) != 2) = false := by simp; omega
                          by_cases hm2 : 2 ≤ m
                          · have hmb : (2 : Int) ≤ m := by omega
                            have HM := Lib.hid (show mayB k m = true from by unfold mayB; rw [if_pos hk2]; simpa using hm2)
                            clear hk2 hm2
                            go_wp2_with fail
                            go_meet
                            case rel => exact ⟨by rw [HM.out]; try simp, rfl⟩
                          · have hmb : ¬ (2 : Int) ≤ m := by omega
                            have HM := Lib.hid (show mayB k m = false from by unfold mayB; rw [if_pos hk2]; simpa using hm2)
                            clear hk2 hm2
                            go_wp2_with fail
                            go_meet
                            case rel => exact ⟨by rw [HM.out]; try simp, rfl⟩
                        · have hkb : ((k : Int) == 2) = false := by simp; omega
                          have hkn : ((k : Int) != 2) = true := by simp; omega
                          by_cases hm2 : m = 0
                          · have hmb : ((m : Int) == 0) = true := by simp; omega
                            have HM := Lib.hid (show mayB k m = true from by unfold mayB; rw [if_neg hk2]; simpa using hm2)
                            clear hk2 hm2
                            go_wp2_with fail
                            go_meet
                            case rel => exact ⟨by rw [HM.out]; try simp, rfl⟩
                          · have hmb : ((m : Int) == 0) = false := by simp; omega
                            have HM := Lib.hid (show mayB k m = false from by unfold mayB; rw [if_neg hk2]; simpa using hm2)
                            clear hk2 hm2
                            go_wp2_with fail
                            go_meet
                            case rel => exact ⟨by rw [HM.out]; try simp, rfl⟩
                      case rest =>
                        obtain ⟨rfl, hwx⟩ := hcut
                        have hwx' := hwx.symm
                        subst hwx'
                        clear hwx
                        rcases hmay : mayB k m with _ | _
                        · have HFI := Lib.hid (show rjFit s = true → (k : Int) < rjS s ∨ ((k : Int) = rjS s ∧ ((m + 1 : Nat) : Int) ≤ rjH s) from fun h => by
                            rcases HF2.out.2 h with h1 | ⟨h1, h2⟩
                            · exact .inl h1
                            · by_cases h3 : (m : Int) = rjH s
                              · have := ok_may (k := k) (m := m) (by rw [h1, h3]; exact (rjFit_ok h).1)
                                rw [this] at hmay; cases hmay
                              · exact .inr ⟨h1, by omega⟩)
                          clear hmay
                          go_wp2_with fail
                          refine wp_region_planS (fun W => W.cell? ad = some (.string (str x0)) ∧ W.cell? ⟨k17, 0, none⟩ = some (.int .i64 X1) ∧ W.cell? ⟨k17, 1, none⟩ = some (.int .i64 k) ∧ W.cell? ⟨k17, 2, none⟩ = some (.int .i64 m) ∧ W.cell? ⟨k17, 3, none⟩ = some (.int .i64 X4) ∧ W.cell? ⟨k17, 4, none⟩ = some (.int .i64 X5) ∧ W.cell? ⟨k17, 5, none⟩ = some (.int .i64 X6) ∧ W.cell? ⟨k17, 6, none⟩ = some (.int .i64 X7) ∧ W.cell? ⟨k17, 7, none⟩ = some (.int .i64 X8)) (.take 0 <| .take 1 <| .take 2 <| .take 3 <| .take 4 <| .take 5 <| .take 7 <| .run 6 <| .take 8 <| .take 9 <| .done) (by kernel_rfl) (by kernel_rfl) (by kernel_rfl) (by kernel_rfl) (by exact HRQ.out) ?_
                          go_wp2_with (first
                            | (go_at_call 42
                               go_must (refine (rjob_any x0 X1 k m X4 X5 X6 X7 X8 HI.out.1 HI.out.2.1 HI.out.2.2.1 HI.out.2.2.2.1 HI.out.2.2.2.2.1 HI.out.2.2.2.2.2 HXL.out _).mono ?_
                                        rintro e' w2 ⟨rfl, hb2⟩
                                        replace HRQ := Lib.hid (RQ.below (by exact HRQ.out) hb2)
                                        replace HBF := Lib.hid (show Below W3.heap.size W3 w2 from below_then (HBF.out.drew) hb2)
                                        clear hb2))
                            | ((with_reducible refine PlanS_isTake ?_); refine PlanS_take (v := ?_) rfl ?_ (fun w hSw => ?_) ?_; rotate_left 1; (focus rfl); (focus ((try dsimp only at hSw); (first | (go_simp; done) | (go_simp; with_reducible rfl)))); simp only [Act.put, List.setIfInBounds_toArray, List.set_cons_zero, List.set_cons_succ]) | ((with_reducible refine PlanS_isTake ?_); refine PlanS_skip rfl ?_ ?_; (focus rfl); simp only [Act.put, List.setIfInBounds_toArray, List.set_cons_zero, List.set_cons_succ]) | ((with_reducible refine PlanS_isRun ?_); refine PlanS_run rfl (fun K hK => ?_); go_simp) | ((with_reducible refine And.intro ?_ (PlanS_is ?_)); (focus ((exact HRQ.out)))) | ((with_reducible refine PlanS_alt ?_ ?_)) | ((with_reducible refine PlanS_done ?_)))
                          go_roundw
                          case rel => first | exact ⟨m + 1, by omega, by go_num, by first | exact HBF.out | exact HBF.out.drew, HFI.out⟩ | ((repeat apply Exists.intro); refine ⟨?_, rfl⟩; exact ⟨m + 1, by omega, by go_num, by first | exact HBF.out | exact HBF.out.drew, HFI.out⟩)
                          case measure => simp [intOf]; omega
                        · have hok := may_ok hki hmi hmay
                          by_cases hln : jobL x0 X1 k m X4 X5 X6 X7 X8 = s
                          · obtain ⟨p1, p2, p3⟩ := rj_pick HH.out hok (by rw [HJ.out.1]; exact hln)
                            have hg : rjGood s = true := by rw [HG.out]; exact p1
                            have HK := Lib.hid (show rjW s = x0 ∧ rjJ s = jobC X1 k m X4 X5 X6 X7 X8 ∧ rjGood s = true from by
                              obtain ⟨g1, g2, g3⟩ := rj_good hg
                              rw [g1, g2, HJ.out.2, ← p2, ← p3, HX.out, HJW.out]
                              exact ⟨rfl, rfl, hg⟩)
                            have hl0 : (jobL x0 X1 k m X4 X5 X6 X7 X8 == s) = true := by simpa using hln
                            clear hmay hok hln p1 p2 p3 hg
                            go_wp2_with fail
                            refine wp_region_planS (fun W => W.cell? ad = some (.string (str x0)) ∧ W.cell? ⟨k17, 0, none⟩ = some (.int .i64 X1) ∧ W.cell? ⟨k17, 1, none⟩ = some (.int .i64 k) ∧ W.cell? ⟨k17, 2, none⟩ = some (.int .i64 m) ∧ W.cell? ⟨k17, 3, none⟩ = some (.int .i64 X4) ∧ W.cell? ⟨k17, 4, none⟩ = some (.int .i64 X5) ∧ W.cell? ⟨k17, 5, none⟩ = some (.int .i64 X6) ∧ W.cell? ⟨k17, 6, none⟩ = some (.int .i64 X7) ∧ W.cell? ⟨k17, 7, none⟩ = some (.int .i64 X8)) (.take 0 <| .take 1 <| .take 2 <| .take 3 <| .take 4 <| .take 5 <| .take 7 <| .run 6 <| .take 8 <| .take 9 <| .done) (by kernel_rfl) (by kernel_rfl) (by kernel_rfl) (by kernel_rfl) (by exact HRQ.out) ?_
                            go_wp2_with (first
                              | (go_at_call 42
                                 go_must (refine (rjob_any x0 X1 k m X4 X5 X6 X7 X8 HI.out.1 HI.out.2.1 HI.out.2.2.1 HI.out.2.2.2.1 HI.out.2.2.2.2.1 HI.out.2.2.2.2.2 HXL.out _).mono ?_
                                          rintro e' w2 ⟨rfl, hb2⟩
                                          replace HRQ := Lib.hid (RQ.below (by exact HRQ.out) hb2)
                                          replace HBF := Lib.hid (show Below W3.heap.size W3 w2 from below_then (HBF.out.drew) hb2)
                                          clear hb2))
                              | ((with_reducible refine PlanS_isTake ?_); refine PlanS_take (v := ?_) rfl ?_ (fun w hSw => ?_) ?_; rotate_left 1; (focus rfl); (focus ((try dsimp only at hSw); (first | (go_simp; done) | (go_simp; with_reducible rfl)))); simp only [Act.put, List.setIfInBounds_toArray, List.set_cons_zero, List.set_cons_succ]) | ((with_reducible refine PlanS_isTake ?_); refine PlanS_skip rfl ?_ ?_; (focus rfl); simp only [Act.put, List.setIfInBounds_toArray, List.set_cons_zero, List.set_cons_succ]) | ((with_reducible refine PlanS_isRun ?_); refine PlanS_run rfl (fun K hK => ?_); go_simp) | ((with_reducible refine And.intro ?_ (PlanS_is ?_)); (focus ((exact HRQ.out)))) | ((with_reducible refine PlanS_alt ?_ ?_)) | ((with_reducible refine PlanS_done ?_)))
                            obtain ⟨W5, hW5⟩ : ∃ W, W = w2 := ⟨_, rfl⟩
                            subst hW5
                            replace H3 := Lib.hid (H3.out.belowS HBF.out)
                            replace HB := Lib.hid (below_only HK3.out HB.out (Only.of_below HBF.out (fun _ => False)) (fun j _ h => h))
                            clear HBF hl0
                            go_upto_region 27 with fail
                            go_cut [2, 4] (fun s2 s4 wx => s2 = .string (str x0) ∧ s4 = .bool true ∧ Blk wx k3 53 (jobC X1 k m X4 X5 X6 X7 X8) ∧ Below k3 w wx)
                            case first =>
                              refine wp_region_planS (fun W => W.cell? ad = some (.string (str x0)) ∧ W.cell? ⟨k17, 0, none⟩ = some (.int .i64 X1) ∧ W.cell? ⟨k17, 1, none⟩ = some (.int .i64 k) ∧ W.cell? ⟨k17, 2, none⟩ = some (.int .i64 m) ∧ W.cell? ⟨k17, 3, none⟩ = some (.int .i64 X4) ∧ W.cell? ⟨k17, 4, none⟩ = some (.int .i64 X5) ∧ W.cell? ⟨k17, 5, none⟩ = some (.int .i64 X6) ∧ W.cell? ⟨k17, 6, none⟩ = some (.int .i64 X7) ∧ W.cell? ⟨k17, 7, none⟩ = some (.int .i64 X8)) (.take 0 <| .take 1 <| .take 2 <| .take 3 <| .take 4 <| .run 5 <| .take 6 <| .done) (by kernel_rfl) (by kernel_rfl) (by kernel_rfl) (by kernel_rfl) (by exact HRQ.out) ?_
                              go_wp2_with (first
                                | ((with_reducible refine PlanS_isRun ?_)
                                   go_must (refine PlanS_store rfl rfl 53 (.tmp 3) (.tmp 125) rfl k3 (jobC X1 k m X4 X5 X6 X7 X8) rfl rfl (Blk.there (w := W5.drew) H3.out (Nat.le_refl 8)) (by kernel_rfl) (by kernel_rfl) (RQ.only (w := W5.drew) HRQ.out ((Only.refl (· = k3) W5.drew).setCells _ 0 (.inl rfl)) HAD3.out HK17.out) ?_)
                                   simp only [Act.put])
                                | ((with_reducible refine PlanS_isTake ?_); refine PlanS_take (v := ?_) rfl ?_ (fun w hSw => ?_) ?_; rotate_left 1; (focus rfl); (focus ((try dsimp only at hSw); (first | (go_simp; done) | (go_simp; with_reducible rfl)))); simp only [Act.put, List.setIfInBounds_toArray, List.set_cons_zero, List.set_cons_succ]) | ((with_reducible refine PlanS_isTake ?_); refine PlanS_skip rfl ?_ ?_; (focus rfl); simp only [Act.put, List.setIfInBounds_toArray, List.set_cons_zero, List.set_cons_succ]) | ((with_reducible refine PlanS_isRun ?_); refine PlanS_run rfl (fun K hK => ?_); go_simp) | ((with_reducible refine And.intro ?_ (PlanS_is ?_)); (focus ((exact HRQ.out)))) | ((with_reducible refine PlanS_alt ?_ ?_)) | ((with_reducible refine PlanS_done ?_)))
                              go_meet
                              case rel => exact ⟨rfl, rfl, (H3.out.drewN 1).setCells [.int .i64 X1, .int .i64 k, .int .i64 m, .int .i64 X4, .int .i64 X5, .int .i64 X6, .int .i64 X7, .int .i64 X8] rfl, below_only HK3.out (HB.out.drew) ((Only.refl (· = k3) W5.drew).setCells [.int .i64 X1, .int .i64 k, .int .i64 m, .int .i64 X4, .int .i64 X5, .int .i64 X6, .int .i64 X7, .int .i64 X8] 0 (.inl rfl)) (fun j hj => by omega)⟩
                            case rest =>
                              obtain ⟨rfl, rfl, h3, hb5⟩ := hcut
                              rename_i hK
                              refine hK _ _ ?_
                              refine wp_ret ?_
                              simp (config := { zetaDelta := true }) only [Exit.inBlock, Exit.then]
                              refine bodyPost_ret (v := .tuple #[.string (str x0), .agg (jobC X1 k m X4 X5 X6 X7 X8), .bool true]) (results_tct k3 53 (jobC X1 k m X4 X5 X6 X7 X8) (0, 0) _ rfl rfl rfl rfl h3 Tryd.underlying53 rfl (by kernel_rfl)) rfl ?_
                              rw [HK.out.1, HK.out.2.1, HK.out.2.2]
                              exact ⟨rfl, by rw [← HK3.out]; exact hb5⟩
                          · have HFI := Lib.hid (show rjFit s = true → (k : Int) < rjS s ∨ ((k : Int) = rjS s ∧ ((m + 1 : Nat) : Int) ≤ rjH s) from fun h => by
                              rcases HF2.out.2 h with h1 | ⟨h1, h2⟩
                              · exact .inl h1
                              · by_cases h3 : (m : Int) = rjH s
                                · exact absurd (by rw [← HJ.out.1, h1, h3]; exact (rjFit_ok h).2) hln
                                · exact .inr ⟨h1, by omega⟩)
                            have hl0 : (jobL x0 X1 k m X4 X5 X6 X7 X8 == s) = false := by simpa using hln
                            clear hmay hok hln
                            go_wp2_with fail
                            refine wp_region_planS (fun W => W.cell? ad = some (.string (str x0)) ∧ W.cell? ⟨k17, 0, none⟩ = some (.int .i64 X1) ∧ W.cell? ⟨k17, 1, none⟩ = some (.int .i64 k) ∧ W.cell? ⟨k17, 2, none⟩ = some (.int .i64 m) ∧ W.cell? ⟨k17, 3, none⟩ = some (.int .i64 X4) ∧ W.cell? ⟨k17, 4, none⟩ = some (.int .i64 X5) ∧ W.cell? ⟨k17, 5, none⟩ = some (.int .i64 X6) ∧ W.cell? ⟨k17, 6, none⟩ = some (.int .i64 X7) ∧ W.cell? ⟨k17, 7, none⟩ = some (.int .i64 X8)) (.take 0 <| .take 1 <| .take 2 <| .take 3 <| .take 4 <| .take 5 <| .take 7 <| .run 6 <| .take 8 <| .take 9 <| .done) (by kernel_rfl) (by kernel_rfl) (by kernel_rfl) (by kernel_rfl) (by exact HRQ.out) ?_
                            go_wp2_with (first
                              | (go_at_call 42
                                 go_must (refine (rjob_any x0 X1 k m X4 X5 X6 X7 X8 HI.out.1 HI.out.2.1 HI.out.2.2.1 HI.out.2.2.2.1 HI.out.2.2.2.2.1 HI.out.2.2.2.2.2 HXL.out _).mono ?_
                                          rintro e' w2 ⟨rfl, hb2⟩
                                          replace HRQ := Lib.hid (RQ.below (by exact HRQ.out) hb2)
                                          replace HBF := Lib.hid (show Below W3.heap.size W3 w2 from below_then (HBF.out.drew) hb2)
                                          clear hb2))
                              | ((with_reducible refine PlanS_isTake ?_); refine PlanS_take (v := ?_) rfl ?_ (fun w hSw => ?_) ?_; rotate_left 1; (focus rfl); (focus ((try dsimp only at hSw); (first | (go_simp; done) | (go_simp; with_reducible rfl)))); simp only [Act.put, List.setIfInBounds_toArray, List.set_cons_zero, List.set_cons_succ]) | ((with_reducible refine PlanS_isTake ?_); refine PlanS_skip rfl ?_ ?_; (focus rfl); simp only [Act.put, List.setIfInBounds_toArray, List.set_cons_zero, List.set_cons_succ]) | ((with_reducible refine PlanS_isRun ?_); refine PlanS_run rfl (fun K hK => ?_); go_simp) | ((with_reducible refine And.intro ?_ (PlanS_is ?_)); (focus ((exact HRQ.out)))) | ((with_reducible refine PlanS_alt ?_ ?_)) | ((with_reducible refine PlanS_done ?_)))
                            go_roundw
                            case rel => first | exact ⟨m + 1, by omega, by go_num, by first | exact HBF.out | exact HBF.out.drew, HFI.out⟩ | ((repeat apply Exists.intro); refine ⟨?_, rfl⟩; exact ⟨m + 1, by omega, by go_num, by first | exact HBF.out | exact HBF.out.drew, HFI.out⟩)
                            case measure => simp [intOf]; omega
                    · obtain rfl : m = 6 := by omega
                      have HR := Lib.hid (show Below W3.heap.size W3 wr ∧ (rjFit s = true → ((k + 1 : Nat) : Int) ≤ rjS s) from ⟨hbz, fun h => by have h1 := hfit h; have h2 := hoIx_range (wd (JWS s) 3); unfold rjH at h1; omega⟩)
                      clear hbz hfit
                      go_wp2_with fail
                      go_roundw
                      case rel => exact ⟨k + 1, by omega, by go_num, HR.out.1, HR.out.2⟩
                      case measure => simp [intOf]; omega
                · obtain rfl : k = 5 := by omega
                  have hg : rjGood s = false := by
                    rw [HG.out]
                    cases hf : rjFit s with
                    | false => rfl
                    | true => have h1 := hfit hf; have h2 := (okJ_range (rjFit_ok hf).1).2; omega
                  have HK := Lib.hid (And.intro (rj_bad hg) hg)
                  replace H3 := Lib.hid (H3.out.belowS hbz)
                  replace HB := Lib.hid (below_only HK3.out HB.out (Only.of_below hbz (fun _ => False)) (fun j _ h => h))
                  obtain ⟨W, hWW⟩ : ∃ W, W = wr := ⟨_, rfl⟩
                  subst hWW
                  clear hg hfit hbz hlt hk
                  go_upto_region 28 with fail
                  refine wp_region_lit ?_
                  refine wpList_val (.agg (jobC 0 0 0 0 0 0 0 0)) rfl (by kernel_rfl) ?_
                  refine wpList_val (.string (str [])) rfl (by kernel_rfl) ?_
                  refine wpList_store_mid rfl 53 (.tmp 3) (.tmp 126) rfl k3 0 (jobC 0 0 0 0 0 0 0 0) rfl rfl (H3.out.there (by decide)) (by kernel_rfl) (by kernel_rfl) ?_
                  refine wpList_val (.bool false) rfl (by kernel_rfl) ?_
                  refine wpList_nil ?_
                  simp only [Exit.then]
                  rename_i hK
                  refine hK _ _ ?_
                  refine wp_ret ?_
                  (try simp only [Exit.then])
                  refine bodyPost_ret (v := .tuple #[.string (str []), .agg (jobC 0 0 0 0 0 0 0 0), .bool false]) (results_tct k3 53 (jobC 0 0 0 0 0 0 0 0) (0, 0) _ rfl rfl rfl rfl (H3.out.setCells (jobC 0 0 0 0 0 0 0 0).toList rfl) Tryd.underlying53 rfl (by kernel_rfl)) rfl ?_
                  rw [HK.out.2, HK.out.1.1, HK.out.1.2.1]
                  exact ⟨rfl, by rw [← HK3.out]; exact below_only HK3.out HB.out ((Only.refl (· = k3) _).setCells _ _ (.inl rfl)) (fun j hj => by omega)⟩
      · have hj2 : (x0 == [74, 79, 66]) = false := by simpa using fun e => hj (.inl e)
        have hj3 : (x0 == [80, 82, 79, 71, 82, 69, 83, 83]) = false := by simpa using fun e => hj (.inr e)
        have hg : rjGood s = false := by
          unfold rjGood rjHead
          rw [decide_eq_false (fun e => hj (by rw [HX.out, ← HJW.out]; exact e.2.2))]; rfl
        have HK := Lib.hid (And.intro (rj_bad hg) hg)
        clear hj hg
        go_upto_region 3 with fail
        refine wp_region_lit ?_
        refine wpList_val (.agg (jobC 0 0 0 0 0 0 0 0)) rfl (by kernel_rfl) ?_
        refine wpList_val (.string (str [])) rfl (by kernel_rfl) ?_
        refine wpList_store_mid rfl 53 (.tmp 3) (.tmp 43) rfl k3 0 (jobC 0 0 0 0 0 0 0 0) rfl rfl (H3.out.there (by decide)) (by kernel_rfl) (by kernel_rfl) ?_
        refine wpList_val (.bool false) rfl (by kernel_rfl) ?_
        refine wpList_nil ?_
        simp only [Exit.then]
        rename_i hK
        refine hK _ _ ?_
        refine wp_ret ?_
        (try simp only [Exit.then])
        refine bodyPost_ret (v := .tuple #[.string (str []), .agg (jobC 0 0 0 0 0 0 0 0), .bool false]) (results_tct k3 53 (jobC 0 0 0 0 0 0 0 0) (0, 0) _ rfl rfl rfl rfl (H3.out.setCells (jobC 0 0 0 0 0 0 0 0).toList rfl) Tryd.underlying53 rfl (by kernel_rfl)) rfl ?_
        rw [HK.out.2, HK.out.1.1, HK.out.1.2.1]
        exact ⟨rfl, by rw [← HK3.out]; exact below_only HK3.out HB.out ((Only.refl (· = k3) _).setCells _ _ (.inl rfl)) (fun j hj => by omega)⟩
    · have hnb : ((n : Int) != 9) = true := by simp; omega
      have hg : rjGood s = false := by
        unfold rjGood rjHead
        rw [decide_eq_false (fun e => h9 (by rw [← HN.out, ← HJW.out]; exact e.2.1))]; rfl
      have HK := Lib.hid (And.intro (rj_bad hg) hg)
      clear h9 hg
      go_upto_region 3 with fail
      refine wp_region_lit ?_
      refine wpList_val (.agg (jobC 0 0 0 0 0 0 0 0)) rfl (by kernel_rfl) ?_
      refine wpList_val (.string (str [])) rfl (by kernel_rfl) ?_
      refine wpList_store_mid rfl 53 (.tmp 3) (.tmp 43) rfl k3 0 (jobC 0 0 0 0 0 0 0 0) rfl rfl (H3.out.there (by decide)) (by kernel_rfl) (by kernel_rfl) ?_
      refine wpList_val (.bool false) rfl (by kernel_rfl) ?_
      refine wpList_nil ?_
      simp only [Exit.then]
      rename_i hK
      refine hK _ _ ?_
      refine wp_ret ?_
      (try simp only [Exit.then])
      refine bodyPost_ret (v := .tuple #[.string (str []), .agg (jobC 0 0 0 0 0 0 0 0), .bool false]) (results_tct k3 53 (jobC 0 0 0 0 0 0 0 0) (0, 0) _ rfl rfl rfl rfl (H3.out.setCells (jobC 0 0 0 0 0 0 0 0).toList rfl) Tryd.underlying53 rfl (by kernel_rfl)) rfl ?_
      rw [HK.out.2, HK.out.1.1, HK.out.1.2.1]
      exact ⟨rfl, by rw [← HK3.out]; exact below_only HK3.out HB.out ((Only.refl (· = k3) _).setCells _ _ (.inl rfl)) (fun j hj => by omega)⟩
  · have heb : (err != 0) = true := by simpa using he
    have hg : rjGood s = false := by unfold rjGood rjHead; rw [show (wordsE s).1 = err by rw [HE.out]]; simp [he]
    have HK := Lib.hid (And.intro (rj_bad hg) hg)
    clear he hg
    go_upto_region 3 with fail
    refine wp_region_lit ?_
    refine wpList_val (.agg (jobC 0 0 0 0 0 0 0 0)) rfl (by kernel_rfl) ?_
    refine wpList_val (.string (str [])) rfl (by kernel_rfl) ?_
    refine wpList_store_mid rfl 53 (.tmp 3) (.tmp 43) rfl k3 0 (jobC 0 0 0 0 0 0 0 0) rfl rfl (H3.out.there (by decide)) (by kernel_rfl) (by kernel_rfl) ?_
    refine wpList_val (.bool false) rfl (by kernel_rfl) ?_
    refine wpList_nil ?_
    simp only [Exit.then]
    rename_i hK
    refine hK _ _ ?_
    refine wp_ret ?_
    (try simp only [Exit.then])
    refine bodyPost_ret (v := .tuple #[.string (str []), .agg (jobC 0 0 0 0 0 0 0 0), .bool false]) (results_tct k3 53 (jobC 0 0 0 0 0 0 0 0) (0, 0) _ rfl rfl rfl rfl (H3.out.setCells (jobC 0 0 0 0 0 0 0 0).toList rfl) Tryd.underlying53 rfl (by kernel_rfl)) rfl ?_
    rw [HK.out.2, HK.out.1.1, HK.out.1.2.1]
    exact ⟨rfl, by rw [← HK3.out]; exact below_only HK3.out HB.out ((Only.refl (· = k3) _).setCells _ _ (.inl rfl)) (fun j hj => by omega)⟩
end Go.Proofs.YtldkcfhigcmoaaaDoor
