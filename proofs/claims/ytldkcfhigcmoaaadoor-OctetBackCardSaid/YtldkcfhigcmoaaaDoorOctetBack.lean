/- The law OctetBack: whatever number, bytes and fields are told are read as they were, and what is read of any bytes is told again as these; every input. -/
import Derived.Test.YtldkcfhigcmoaaaDoorDoor
import Derived.Test.YtldkcfhigcmoaaaDoorFldB
import Derived.Test.YtldkcfhigcmoaaaDoorNumB
import Derived.Test.YtldkcfhigcmoaaaDoorDecQ
import Derived.Test.YtldkcfhigcmoaaaDoorBnd
import Derived.Test.YtldkcfhigcmoaaaDoorOpenB
import Derived.Test.YtldkcfhigcmoaaaDoorOAwake
import Derived.Test.YtldkcfhigcmoaaaDoorOctH
import Derived.Test.YtldkcfhigcmoaaaDoorPlan
import Derived.Deep.CutBlock
import Derived.Deep.DeepCutAuto
namespace Go.Proofs.YtldkcfhigcmoaaaDoor
open Go.RowKit Go.As
set_option linter.unusedVariables false


/-- what Number tells -/
def numE (l : List UInt8) : Nat × Int := if 1 ≤ l.length ∧ l.length ≤ 8 then (numL l, 0) else (0, 4)
theorem onumber_gen (A : Option Addr) (n c : Nat) (l : List UInt8) (w : World) (ha : Sl w 1 A n (byt l)) (hn : n ≤ 9223372036854775807) :
    Calls Tryd.prog 15 #[.slice A n c] w fun e w' => e = .returned (.tuple #[.int .u64 (numE l).1, .int .i64 (numE l).2]) ∧ w = w' := by
  have hl : l.length = n := by have := ha.len1; simpa [byt] using this
  by_cases h : 1 ≤ n ∧ n ≤ 8
  · refine (onumber_any A n c l w ha h.2 h.1).mono ?_
    rintro e w' ⟨rfl, rfl⟩
    rw [show numE l = (numL l, 0) by unfold numE; rw [hl, if_pos h]]
    exact ⟨rfl, rfl⟩
  · refine (onumber_bad A n c w (by omega) hn).mono ?_
    rintro e w' ⟨rfl, rfl⟩
    rw [show numE l = (0, 4) by unfold numE; rw [hl, if_neg h]]
    exact ⟨rfl, rfl⟩
theorem sameBytes_q (A B : Option Addr) (n m c d : Nat) (l : List UInt8) (w : World) (ha : Sl w 1 A n (byt l)) (hb : Sl w 1 B m (byt l)) :
    Calls Tryd.prog 19 #[.slice A n c, .slice B m d] w fun e w' => e = .returned (.bool true) ∧ ∃ k, w' = w.drewN k :=
  (sameBytes_any A B n m c d l l w ha hb).mono fun e w' ⟨h1, h2⟩ => ⟨by rw [h1]; exact ret_bool (by simp), 0, h2.symm⟩
/-- rows of rows as an argument -/
theorem RRow.args {w : World} {base : Nat} {v : Value} {rs : List IR} (h : RRow w base v rs) :
    ∃ (a : Option Addr) (c : Nat) (xs : List BArg), v = .slice a rs.length c ∧ rs.length ≤ c ∧ Sl w 1 a rs.length (xs.flatMap bargC) ∧ (∀ p ∈ xs, BytAt w p) ∧ xs.length = rs.length ∧ xs.map (·.2.2.2) = rs.map (·.2.1) := by
  obtain ⟨a, c, rfl, hc, -⟩ := own_form h.1
  have key : ∀ (rs : List IR), (∀ r ∈ rs, RowB w base 5 r.1 r.2.1 r.2.2) → ∃ xs : List BArg, xs.flatMap bargC = rs.flatMap irC ∧ (∀ p ∈ xs, BytAt w p) ∧ xs.length = rs.length ∧ xs.map (·.2.2.2) = rs.map (·.2.1) := by
    intro rs
    induction rs with
    | nil => intro _; exact ⟨[], rfl, by simp, rfl, rfl⟩
    | cons r t ih =>
      intro hr
      obtain ⟨xs, h1, h2, h3, h4⟩ := ih (fun y hy => hr y (by simp [hy]))
      obtain ⟨r0, l, rm⟩ := r
      have hb : RowB w base 5 r0 l rm := hr (r0, l, rm) (by simp)
      have hv : ∃ (aa : Option Addr), r0 = .slice aa l.length (l.length + rm.length) ∧ l.length + rm.length ≤ maxLen ∧ (aa = none → l.length + rm.length = 0) := by
        rcases hb with ⟨rfl, rfl, rfl⟩ | ⟨g, rfl, -, -, hm⟩
        · exact ⟨none, rfl, by simp [maxLen], fun _ => rfl⟩
        · exact ⟨_, rfl, hm, fun e => by cases e⟩
      obtain ⟨aa, rfl, hm, hz⟩ := hv
      refine ⟨(aa, l.length, l.length + rm.length, l) :: xs, ?_, ?_, by simp [h3], by simp [h4]⟩
      · rw [List.flatMap_cons, List.flatMap_cons, h1]; rfl
      · intro p hp
        rw [List.mem_cons] at hp
        rcases hp with rfl | hp
        · exact ⟨rfl, by simp, hm, hz, hb.sl⟩
        · exact h2 p hp
  obtain ⟨xs, h1, h2, h3, h4⟩ := key rs h.2
  exact ⟨a, c, xs, rfl, hc, by rw [h1]; exact Sl.of_own h.1, h2, h3, h4⟩

theorem sl_drewN {w : World} {sz n : Nat} {a : Option Addr} {xs : List Value} (h : Sl w sz a n xs) (k : Nat) : Sl (w.drewN k) sz a n xs := h
theorem BytAt.below {w w' : World} {p : BArg} (h : BytAt w p) (hb : Below w.heap.size w w') : BytAt w' p := ⟨h.1, h.2.1, h.2.2.1, h.2.2.2.1, h.2.2.2.2.below hb⟩
theorem fields_small (xs : List BArg) (h : ∀ p ∈ xs, p.2.2.2.length ≤ 300) (hl : xs.length ≤ 40) : (fieldsL (xs.map (·.2.2.2))).length ≤ 1048576 := by
  have key : ∀ xs : List BArg, (∀ p ∈ xs, p.2.2.2.length ≤ 300) → ((xs.map (·.2.2.2)).flatMap fld).length ≤ 310 * xs.length := by
    intro xs
    induction xs with
    | nil => intro _; simp
    | cons p r ih =>
      intro h
      have h1 := h p (by simp)
      have h2 := ih (fun q hq => h q (by simp [hq]))
      have h3 := shortL_len10 (n := p.2.2.2.length) (by omega)
      rw [List.map_cons, List.flatMap_cons, List.length_append, List.length_cons]
      unfold fld at h2 ⊢
      rw [List.length_append]
      omega
  have h1 := key xs h
  have h2 := shortL_len10 (n := (xs.map (·.2.2.2)).length) (by rw [List.length_map]; omega)
  unfold fieldsL
  rw [List.length_append]
  omega

set_option maxRecDepth 100000 in
set_option maxHeartbeats 6400000 in
theorem octetBack_walk (nn : Int) (hnn : (Lit.int .u64 nn).wf = true) (size : Int) (hsz : (Lit.int .i64 size).wf = true) (x : BArg) (w : World) (ox : BytAt w x) (z : BBArg) (oz : BytsAt w z) (ht : Tab w) :
    Calls Tryd.prog 5 #[.int .u64 nn, .int .i64 size, .slice x.1 x.2.1 x.2.2.1, .slice z.1 z.2.1 z.2.2.1] w fun e w' => e = .returned (.bool true) ∧ Below w.heap.size w w' := by
  obtain ⟨N, rfl, hN⟩ := u64_nat hnn
  obtain ⟨hsz1, hsz2⟩ := i64_bnd hsz
  obtain ⟨A, n, c, l⟩ := x
  obtain ⟨hl, hnc, hcm, -, ha⟩ := ox
  simp only at hl hnc hcm ha
  have hn : n ≤ 9223372036854775807 := by simp only [maxLen] at hcm; omega
  have hc : c ≤ 9223372036854775807 := by simp only [maxLen] at hcm; omega
  obtain ⟨Z, zn, zc, xs⟩ := z
  obtain ⟨hzl, hznc, hzcm, -, hza, hzs⟩ := oz
  simp only at hzl hznc hzcm hza hzs
  have hzn : zn ≤ 9223372036854775807 := by simp only [maxLen] at hzcm; omega
  have HA := Lib.hid ha
  have HL := Lib.hid hl
  have HT := Lib.hid ht
  have HZ := Lib.hid (And.intro hzs (And.intro hza hzl))
  clear ha hl hcm hnn hsz ht hzl hzcm hza hzs
  by_cases hbig : 300 < n
  · go_enter Tryd.func5, Tryd.ntmps5
    go_wp2_with (first
      | (go_at_call 29
         refine (oawake_any w HT.out).mono ?_
         rintro e w1 ⟨rfl, hb1⟩
         have H1 := Lib.hid hb1
         clear hb1))
    go_ret
    exact ⟨rfl, H1.out⟩
  by_cases hbig2 : 40 < zn
  · go_enter Tryd.func5, Tryd.ntmps5
    go_wp2_with (first
      | (go_at_call 29
         refine (oawake_any w HT.out).mono ?_
         rintro e w1 ⟨rfl, hb1⟩
         have H1 := Lib.hid hb1
         clear hb1))
    go_ret
    exact ⟨rfl, H1.out⟩
  have hn2 : n ≤ 1048576 := by omega
  go_enter Tryd.func5, Tryd.ntmps5
  go_wp2_with (first
    | (go_at_call 29
       refine (oawake_any w HT.out).mono ?_
       rintro e w1 ⟨rfl, hb1⟩
       have H1 := Lib.hid hb1
       clear hb1))
  go_loopw [10] (fun iv wr => ∃ k : Nat, k ≤ zn ∧ iv = .int .i64 k ∧ (∀ p ∈ xs.take k, p.2.1 ≤ 300) ∧ wr = w1) (fun iv _ => zn - (intOf iv).toNat)
  case atStart => exact ⟨0, by omega, rfl, by simp, rfl⟩
  case round =>
    obtain ⟨k, hk, rfl, hall, hwr⟩ := hrel
    have hwr' := hwr.symm
    subst hwr'
    have HALL := Lib.hid hall
    clear hall
    by_cases hlt : k < zn
    · obtain ⟨p, hp⟩ : ∃ p, xs[k]? = some p := ⟨_, List.getElem?_eq_getElem (by rw [HZ.out.2.2]; exact hlt)⟩
      obtain ⟨ad, u, hA, -, hu, hca⟩ := (HZ.out.1.below H1.out).at1 hlt
      have hpu := flat_at bargC 1 (fun _ => rfl) hp 0 (by omega)
      rw [Nat.mul_one, Nat.add_zero] at hpu
      rw [hpu] at hu
      obtain rfl := Option.some.inj (show some _ = some u from hu)
      subst hA
      obtain ⟨pa, pn, pc, pl⟩ := p
      have hca2 : w1.cell? (ad.add k) = some (.slice pa pn pc) := hca
      by_cases h300 : 300 < pn
      · clear hp hpu hca hu
        go_wp2_with fail
        go_ret
        exact ⟨rfl, H1.out⟩
      · have HS := Lib.hid (show ∀ p ∈ xs.take (k + 1), p.2.1 ≤ 300 from by
          rw [List.take_add_one, hp]
          intro q hq
          rcases List.mem_append.1 hq with h | h
          · exact HALL.out q h
          · simp at h; subst h; show pn ≤ 300; omega)
        clear hp hpu hca hu
        go_wp2_with fail
        go_roundw
        case rel => exact ⟨k + 1, by omega, by go_num, HS.out, trivial⟩
        case measure => simp [intOf]; omega
    · have HX := Lib.hid (show (∀ p ∈ xs, p.2.1 ≤ 300) from by
        have := HALL.out
        rwa [List.take_of_length_le (by rw [HZ.out.2.2]; omega)] at this)
      clear HALL
      have hNum : ∃ (E Y F : Int) (bl : List UInt8), bytE N size = (E, bl) ∧ bl.length ≤ 8 ∧ ((numE bl).1 : Int) = Y ∧ (numE bl).2 = F ∧ ((E = 0 ∧ Y = N ∧ F = 0 ∧ (bl.length : Int) = size) ∨ E = 2) := by
        cases hfit : fitsN N size
        · exact ⟨2, _, _, [], bytE_no hfit, by simp, rfl, rfl, .inr rfl⟩
        · obtain ⟨S, rfl⟩ : ∃ S : Nat, size = S := ⟨size.toNat, by unfold fitsN at hfit; simp at hfit; omega⟩
          have hS : 1 ≤ S ∧ S ≤ 8 ∧ N < 256 ^ S := by unfold fitsN at hfit; simp at hfit; omega
          have hle := beL_len N S
          have hne : numE (beL N S) = (N, 0) := by
            unfold numE
            rw [hle, if_pos ⟨hS.1, hS.2.1⟩, numL_beL N S hS.2.2]
          exact ⟨0, N, 0, beL N S, bytE_yes hfit, by omega, by rw [hne], by rw [hne], .inl ⟨rfl, rfl, rfl, by rw [hle]⟩⟩
      obtain ⟨E, Y, F, bl, hE1, hbl8, hY, hF, hE⟩ := hNum
      have HE := Lib.hid hE
      have HB := Lib.hid (And.intro hE1 (And.intro hY hF))
      clear hE1 hY hF hE
      have HS0 := Lib.hid (show rsE (shortL N ++ l) = (N, (shortL N).length, 0) from rsE_some (readS_shortL 0 N l (by omega) (by simpa using hN) (by omega)))
      have hsl := shortL_len10 hN
      go_upto_region 11 with (first
        | (go_at_call 14
           refine (obytes_any N size _ hN hsz1 hsz2).mono ?_
           rw [HB.out.1]
           rintro e w2 ⟨xv, xrm, rfl, hr2, hb2⟩
           obtain ⟨xa, xn, xc, rfl, hxn, -, -⟩ := hr2.form2
           replace hxn : xn = bl.length := hxn
           have hxn8 : xn ≤ 8 := by omega
           have HXN := Lib.hid hxn
           have H2 := Lib.hid (And.intro (below_then H1.out hb2) (show Sl w2 1 xa xn _ by rw [hxn]; exact hr2.sl))
           clear hr2 hb2 hxn)
        | (go_at_call 15
           refine (onumber_gen xa xn xc bl _ H2.out.2 (by omega)).mono ?_
           rw [HB.out.2.1, HB.out.2.2]
           rintro e w' ⟨rfl, rfl⟩))
      go_cut [80] (fun s80 wx => s80 = .bool false ∧ wx = w2)
      case first =>
        rcases HE.out with ⟨rfl, rfl, rfl, hbs⟩ | rfl
        · have hbq : ((xn : Int) != size) = false := by rw [← hbs, HXN.out]; simp
          clear hbs
          go_wp2_with fail
          go_meet
          case rel => exact ⟨rfl, rfl⟩
        · go_wp2_with fail
          go_meet
          case rel => exact ⟨rfl, rfl⟩
      case rest =>
        obtain ⟨rfl, hwx⟩ := hcut
        have hwx' := hwx.symm
        subst hwx'
        clear HE HB HXN hwx
        obtain ⟨V, U, G, hrs⟩ : ∃ (V U : Nat) (G : Int), rsE l = (V, U, G) := ⟨_, _, _, rfl⟩
        have HRS := Lib.hid hrs
        have HRC := Lib.hid (show (G = 4) ∨ (G = 0 ∧ 0 < U ∧ U ≤ n ∧ V < 18446744073709551616 ∧ shortL V = l.take U) from by
          cases hr : readS 0 l with
          | none =>
            rw [rsE_none hr] at hrs
            injection hrs with h1 h2; injection h2 with h2 h3
            exact .inl h3.symm
          | some x =>
            obtain ⟨h1, h2, h3, -, h5, -⟩ := shortL_readS l 0 x.1 x.2 hr
            rw [rsE_some (v := x.1) (u := x.2) hr] at hrs
            injection hrs with e1 e2; injection e2 with e2 e3
            subst e1 e2
            exact .inr ⟨e3.symm, h1, by rw [← HL.out]; exact h2, by simpa using h5, h3⟩)
        clear hrs
        go_upto_region 17 with (first
          | (go_at_call 20
             first
             | (have hm := M4.out
                clear hm
                refine (oshort_any N _ hN).mono ?_
                rintro e w5 ⟨v5, rm5, rfl, hr5, hb5⟩
                obtain ⟨ta, tn, tc, rfl, htn, -, -⟩ := hr5.form2
                have hbn : (((shortL N).length : Int) != (tn : Int)) = false := by rw [htn]; simp
                have H5 := Lib.hid (below_then H4.out.2 hb5)
                clear hr5 hb5 htn)
             | (refine (oshort_any N _ hN).mono ?_
                rintro e w3 ⟨v3, rm3, rfl, hr3, hb3⟩
                obtain ⟨sa, sn, sc, rfl, -, -, -⟩ := hr3.form2
                have H3 := Lib.hid (And.intro hr3 (below_then H2.out.1 hb3))
                have hsz3 := (below_then H2.out.1 hb3).size
                clear hr3 hb3))
          | (at_builtin
             refine wpl_appB rfl _ _ _ rfl w.heap.size 5 Tryd.underlying23 byteInfo (.slice sa sn sc) (shortL N) rm3 (H3.out.1.mono (below_then (Below.refl _ _) H2.out.1).size) rfl A n c l rfl (HA.out.below H3.out.2) (by omega) hsz3 ?_
             intro v4 rm4 w4 hown4 hg4 hs4
             obtain ⟨ua, un, uc, rfl, hun, -, -⟩ := hown4.form2
             have hun2 : un ≤ 310 := by
               rw [List.length_append, HL.out] at hun; omega
             have H4 := Lib.hid (And.intro (show Sl w4 1 ua un _ by rw [hun]; exact hown4.sl) (H3.out.2.grown hg4 hsz3 (fun j hj => Nat.le_trans (below_then (Below.refl _ _) H2.out.1).size (H3.out.1.lt j hj).1)))
             have M4 := Lib.hid trivial
             clear hown4 hg4 hs4 hun)
          | (go_at_call 16
             first
             | (have hm := M5.out
                clear hm
                refine (oreads_any A n c l _ (HA.out.below H5.out) hn).mono ?_
                rw [HRS.out]
                rintro e w' ⟨rfl, rfl⟩)
             | (refine (oreads_any ua un uc (shortL N ++ l) _ H4.out.1 (by omega)).mono ?_
                rw [HS0.out]
                rintro e w' ⟨rfl, rfl⟩
                have M5 := Lib.hid trivial)))
        go_cut [130] (fun s130 wx => s130 = .bool false ∧ Below w.heap.size w wx)
        case first =>
          rcases HRC.out with rfl | ⟨rfl, hU0, hUn, hV, hVU⟩
          · clear HRC
            go_quiet (fail)
            go_wp2_with fail
            go_meet
            case rel => exact ⟨rfl, below_drewN H5.out _⟩
          · clear HRC
            have hu1 : decide ((U : Int) < 1) = false := by simp; omega
            have hu2 : decide (n < U) = false := by simp; omega
            refine wp_region_plan (.take 0 <| .take 1 <| .take 2 <| .take 3 <| .take 4 <| .take 5 <| .take 6 <| .take 7 <| .take 8 <| .take 9 <| .take 10 <| .take 11 <| .take 12 <| .take 14 <| .take 15 <| .take 16 <| .run 13 <| .run 17 <| .take 18 <| .take 19 <| .take 20 <| .done) (by kernel_rfl) (by kernel_rfl) (by kernel_rfl) (by kernel_rfl) ?_
            have hcs := run_slice_hi (P := Tryd.prog) 23 5 _ 1 1 Tryd.underlying23 byteInfo A n c .i64 (U : Int) (by omega) (by omega)
            rw [show ((U : Int)).toNat = U by omega] at hcs
            have HU := Lib.hid (show shortL V = l.take U ∧ Sl w 1 A U (byt (l.take U)) from ⟨hVU, by
              have := HA.out.take (k := U) hUn
              rw [Nat.mul_one, byt_take] at this
              exact this⟩)
            clear hVU
            go_wp2_with (first
              | (go_at_call 20
                 refine (oshort_any V _ hV).mono ?_
                 rintro e w6 ⟨v6, rm6, rfl, hr6, hb6⟩
                 obtain ⟨qa, qn, qc, rfl, hqn, -, -⟩ := hr6.form2
                 have H6 := Lib.hid (And.intro (show Sl w6 1 qa qn _ by rw [hqn]; exact hr6.sl) (below_then H5.out.drew hb6))
                 clear hr6 hb6 hqn)
              | (go_at_call 19
                 refine (sameBytes_any qa A qn U qc c _ _ _ H6.out.1 (HU.out.2.below H6.out.2)).mono ?_
                 rw [show decide (shortL V = l.take U) = true by simpa using HU.out.1]
                 rintro e w' ⟨rfl, rfl⟩)
              | ((with_reducible refine wpPlan_isTake ?_); refine wpPlan_take (v := ?_) rfl ?_ (fun w => ?_) ?_; rotate_left 1; (focus rfl); (focus (first | (go_simp; done) | (go_simp; with_reducible rfl))); simp only [Act.put, List.setIfInBounds_toArray, List.set_cons_zero, List.set_cons_succ]) | ((with_reducible refine wpPlan_isTake ?_); refine wpPlan_skip rfl ?_ ?_; (focus rfl); simp only [Act.put, List.setIfInBounds_toArray, List.set_cons_zero, List.set_cons_succ]) | ((with_reducible refine wpPlan_isRun ?_); refine wpPlan_run rfl (fun K hK => ?_); go_simp) | ((with_reducible refine wpPlan_alt ?_ ?_)) | ((with_reducible refine wpPlan_done ?_)))
            go_meet
            case rel => exact ⟨rfl, H6.out.2⟩
        case rest =>
          obtain ⟨rfl, hbx⟩ := hcut
          have H5' := Lib.hid hbx
          clear hbx H5 HRC HRS HS0 hbn
          have HH := Lib.hid (show hexE (hexL l) = 0 ∧ (unhexL (hexL l)).getD [] = l from hexE_some (unhexL_hexL l))
          have hhl : (hexL l).length ≤ 1048576 := by rw [hexL_len, HL.out]; omega
          obtain ⟨LS, hLS⟩ : ∃ LS, LS = xs.map (·.2.2.2) := ⟨_, rfl⟩
          have hfit : (fieldsL LS).length ≤ 1048576 := by
            rw [hLS]
            exact fields_small xs (fun p hp => by have := HX.out p hp; have := (HZ.out.2.1 p hp).1; omega) (by rw [HZ.out.2.2]; omega)
          have HLS := Lib.hid (show LS = xs.map (·.2.2.2) ∧ LS.length = zn ∧ rfE (fieldsL LS) = (0, LS) from ⟨hLS, by rw [hLS, List.length_map, HZ.out.2.2], rfE_fields (by rw [hLS, List.length_map, HZ.out.2.2]; omega) (by
            intro f hf
            rw [hLS, List.mem_map] at hf
            obtain ⟨p, hp, rfl⟩ := hf
            have := HX.out p hp
            have := (HZ.out.2.1 p hp).1
            omega) hfit⟩)
          clear hLS
          have HFIT := Lib.hid hfit
          clear hfit
          go_wp2_with (first
            | (go_at_call 31
               refine (ohex_any A n c l _ (HA.out.below H5'.out) hn2).mono ?_
               rintro e w7 ⟨rfl, hb7⟩
               have H7 := Lib.hid (below_then H5'.out hb7)
               clear hb7)
            | (go_at_call 30
               refine (oreadhex_any (hexL l) _ hhl).mono ?_
               rw [HH.out.1, HH.out.2]
               rintro e w8 ⟨v8, rm8, rfl, hr8, hb8⟩
               obtain ⟨ka, kn, kc, rfl, hkn, -, -⟩ := hr8.form2
               have H8 := Lib.hid (And.intro (show Sl w8 1 ka kn _ by rw [hkn]; exact hr8.sl) (below_then H7.out hb8))
               clear hr8 hb8 hkn)
            | (go_at_call 32
               refine (ofields_any Z zn zc xs _ (HZ.out.1.below H8.out.2) (fun p hp => BytAt.below (HZ.out.2.1 p hp) H8.out.2) HZ.out.2.2 (by omega) (by rw [← HLS.out.1]; exact HFIT.out)).mono ?_
               rw [← HLS.out.1]
               rintro e w9 ⟨v9, rm9, rfl, hr9, hb9⟩
               obtain ⟨fa, fn, fc, rfl, hfn, hfc, hfm⟩ := hr9.form2
               have hfnc : fn ≤ fc := by omega
               have hfc2 : fc ≤ 9223372036854775807 := by simp only [maxLen] at hfm; omega
               have H9 := Lib.hid (And.intro (show Sl w9 1 fa fn _ by rw [hfn]; exact hr9.sl) (And.intro (H8.out.1.below hb9) (below_then H8.out.2 hb9)))
               clear hr9 hb9 hfn hfc hfm)
            | (go_at_call 33
               refine (oreadfields_any fa fn fc (fieldsL LS) _ H9.out.1 hfnc hfc2).mono ?_
               rw [HLS.out.2.2]
               rintro e w10 ⟨v10, rs, rfl, hr10, hm10, hb10⟩
               obtain ⟨ga, gc, rfl, hgc, -⟩ := own_form hr10.1
               have hbr : ((rs.length : Int) != (zn : Int)) = false := by
                 have h1 := congrArg List.length hm10
                 rw [List.length_map] at h1
                 have h2 := HLS.out.2.1
                 simp only at h1
                 simp; omega
               have H10 := Lib.hid (And.intro hr10 (And.intro hm10 (And.intro (H9.out.2.1.below hb10) (below_then H9.out.2.2 hb10))))
               clear hr10 hb10 hm10)
            | (go_at_call 19
               refine (sameBytes_any ka A kn n kc c l l _ H10.out.2.2.1 (HA.out.below H10.out.2.2.2)).mono ?_
               rw [show decide (l = l) = true by simp]
               rintro e w' ⟨rfl, rfl⟩))
          go_loopw [25] (fun iv wr => ∃ k : Nat, k ≤ zn ∧ iv = .int .i64 k ∧ Below w10.heap.size w10 wr) (fun iv _ => zn - (intOf iv).toNat)
          case atStart => exact ⟨0, by omega, rfl, Below.refl _ _⟩
          case round =>
            obtain ⟨k2, hk2, rfl, hwq⟩ := hrel
            have HQ := Lib.hid hwq
            clear hwq
            by_cases hlt2 : k2 < zn
            · have hml := H10.out.2.1
              have hrl2 : rs.length = zn := by
                have h1 := congrArg List.length hml
                rw [List.length_map] at h1
                exact h1.trans HLS.out.2.1
              obtain ⟨r, hr⟩ : ∃ r, rs[k2]? = some r := ⟨_, List.getElem?_eq_getElem (by omega)⟩
              obtain ⟨p, hp⟩ : ∃ p, xs[k2]? = some p := ⟨_, List.getElem?_eq_getElem (by rw [HZ.out.2.2]; exact hlt2)⟩
              have hrp : r.2.1 = p.2.2.2 := by
                have h1 : (rs.map (·.2.1))[k2]? = some r.2.1 := by rw [List.getElem?_map, hr]; rfl
                have h2 : (xs.map (·.2.2.2))[k2]? = some p.2.2.2 := by rw [List.getElem?_map, hp]; rfl
                rw [hml, HLS.out.1, h2] at h1
                exact (Option.some.inj h1).symm
              obtain ⟨ad, u, hA1, hk1, hu, hca⟩ := (Sl.of_own H10.out.1.1).at1 (show k2 < rs.length by omega)
              have hru := flat_at irC 1 (fun _ => rfl) hr 0 (by omega)
              rw [Nat.mul_one, Nat.add_zero] at hru
              rw [hru] at hu
              obtain rfl := Option.some.inj (show some r.1 = some u from hu)
              obtain ⟨bd, u2, hA2, hk3, hu2, hcb⟩ := (HZ.out.1.below H10.out.2.2.2).at1 hlt2
              have hpu := flat_at bargC 1 (fun _ => rfl) hp 0 (by omega)
              rw [Nat.mul_one, Nat.add_zero] at hpu
              rw [hpu] at hu2
              obtain rfl := Option.some.inj (show some (Value.slice p.1 p.2.1 p.2.2.1) = some u2 from hu2)
              subst hA1 hA2
              replace hca := (HQ.out.cell (p := ad.add k2) (by rw [blk_add]; exact hk1)).trans hca
              replace hcb := (HQ.out.cell (p := bd.add k2) (by rw [blk_add]; exact hk3)).trans hcb
              have hRB := H10.out.1.2 r (List.mem_of_getElem? hr)
              obtain ⟨r0, rl, rm⟩ := r
              obtain ⟨pa, pn, pc, pl⟩ := p
              simp only at hrp hRB hca hcb
              subst hrp
              obtain ⟨ja, jn, jc, rfl, hjn, -, -⟩ := hRB.form2
              have HS1 := Lib.hid (show Sl wr 1 ja jn (byt rl) from Sl.below (w := w10) (by rw [hjn]; exact hRB.sl) HQ.out)
              have HS2 := Lib.hid (show Sl wr 1 pa pn (byt rl) from (((HZ.out.2.1 _ (List.mem_of_getElem? hp)).2.2.2.2).below H10.out.2.2.2).below HQ.out)
              clear hr hp hml hru hu hpu hu2 hRB hjn hk1 hk3
              go_wp2_with fail
              go_quiet (first | (go_at_call 19; exact Calls.quiet_of (sameBytes_q ja pa jn pn jc pc rl _ (sl_drewN HS1.out _) (sl_drewN HS2.out _))))
              go_wp2_with fail
              go_roundw
              case rel => exact ⟨k2 + 1, by omega, by go_num, below_drewN HQ.out _⟩
              case measure => simp [intOf]; omega
            · have hRF : (rfE l = (4, [])) ∨ ∃ L2, rfE l = (0, L2) ∧ fieldsL L2 = l ∧ L2.length ≤ 4096 := by
                rcases rfE_cases l with h | ⟨ls, h⟩
                · exact .inl h
                · exact .inr ⟨ls, h, fields_rfE h⟩
              rcases hRF with hrf | ⟨L2, hrf, hL2, hL2n⟩
              · have HRF := Lib.hid (show rfE l = (4, []) from hrf)
                have HL2 := Lib.hid (show (fieldsL ([] : List (List UInt8))).length ≤ 1048576 ∧ ([] : List (List UInt8)).length ≤ 4096 from ⟨by unfold fieldsL; rw [show ([] : List (List UInt8)).length = 0 from rfl, shortL_small (by decide)]; simp, by decide⟩)
                clear hrf
                go_wp2_with (first
                  | (go_at_call 33
                     refine (oreadfields_any A n c l _ (HA.out.below (below_then H10.out.2.2.2 HQ.out)) hnc hc).mono ?_
                     rw [HRF.out]
                     rintro e w11 ⟨v11, rs2, rfl, hr11, hm11, hb11⟩
                     obtain ⟨a2, c2, xs2, rfl, hc2, hs2, hb2, hl2, hm2⟩ := RRow.args hr11
                     have hmm : xs2.map (·.2.2.2) = ([] : List (List UInt8)) := hm2.trans hm11
                     have H11 := Lib.hid (And.intro hs2 (And.intro hb2 (And.intro hl2 (And.intro hmm (below_then (below_then H10.out.2.2.2 HQ.out) hb11)))))
                     clear hr11 hm11 hb11 hs2 hb2 hl2 hm2 hmm)
                  | (go_at_call 32
                     refine (ofields_any a2 rs2.length c2 xs2 _ H11.out.1 H11.out.2.1 H11.out.2.2.1 (by have h1 := congrArg List.length H11.out.2.2.2.1; rw [List.length_map] at h1; have h2 := H11.out.2.2.1; have h3 := HL2.out.2; omega) (by rw [H11.out.2.2.2.1]; exact HL2.out.1)).mono ?_
                     rw [H11.out.2.2.2.1]
                     rintro e w12 ⟨v12, rm12, rfl, hr12, hb12⟩
                     obtain ⟨ya, yn, yc, rfl, hyn, -, -⟩ := hr12.form2
                     have H12 := Lib.hid (And.intro (show Sl w12 1 ya yn _ by rw [hyn]; exact hr12.sl) (below_then H11.out.2.2.2.2 hb12))
                     clear hr12 hb12 hyn))
                go_ret
                exact ⟨rfl, H12.out.2⟩
              · have HRF := Lib.hid hrf
                have HL2 := Lib.hid (show (fieldsL L2).length ≤ 1048576 ∧ L2.length ≤ 4096 from ⟨by rw [hL2, HL.out]; omega, hL2n⟩)
                have HL3 := Lib.hid hL2
                clear hrf hL2 hL2n
                go_wp2_with (first
                  | (go_at_call 33
                     refine (oreadfields_any A n c l _ (HA.out.below (below_then H10.out.2.2.2 HQ.out)) hnc hc).mono ?_
                     rw [HRF.out]
                     rintro e w11 ⟨v11, rs2, rfl, hr11, hm11, hb11⟩
                     obtain ⟨a2, c2, xs2, rfl, hc2, hs2, hb2, hl2, hm2⟩ := RRow.args hr11
                     have hmm : xs2.map (·.2.2.2) = L2 := hm2.trans hm11
                     have H11 := Lib.hid (And.intro hs2 (And.intro hb2 (And.intro hl2 (And.intro hmm (below_then (below_then H10.out.2.2.2 HQ.out) hb11)))))
                     clear hr11 hm11 hb11 hs2 hb2 hl2 hm2 hmm)
                  | (go_at_call 32
                     refine (ofields_any a2 rs2.length c2 xs2 _ H11.out.1 H11.out.2.1 H11.out.2.2.1 (by have h1 := congrArg List.length H11.out.2.2.2.1; rw [List.length_map] at h1; have h2 := H11.out.2.2.1; have h3 := HL2.out.2; omega) (by rw [H11.out.2.2.2.1]; exact HL2.out.1)).mono ?_
                     rw [H11.out.2.2.2.1]
                     rintro e w12 ⟨v12, rm12, rfl, hr12, hb12⟩
                     obtain ⟨ya, yn, yc, rfl, hyn, -, -⟩ := hr12.form2
                     have H12 := Lib.hid (And.intro (show Sl w12 1 ya yn _ by rw [hyn]; exact hr12.sl) (below_then H11.out.2.2.2.2 hb12))
                     clear hr12 hb12 hyn)
                  | (go_at_call 19
                     refine (sameBytes_any ya A yn n yc c (fieldsL L2) l _ H12.out.1 (HA.out.below H12.out.2)).mono ?_
                     rw [show decide (fieldsL L2 = l) = true by simpa using HL3.out]
                     rintro e w' ⟨rfl, rfl⟩))
                go_ret
                exact ⟨rfl, H12.out.2⟩

namespace octetBack
set_option linter.unusedVariables false
open Go.ChangeShapes Go.WideShapes Go.ChangeAt Go.RowKit Go.As
theorem own : ownKnob Tryd.prog.godebug = none := by kernel_rfl
theorem laidOut : laidOutB Tryd.prog = true := by kernel_rfl
theorem door_met (os : Os) (args : Array Value) : laidMetH Tryd.prog Rows.octetBackRow.laid ((World.doorLaid Tryd.prog 24 os).forCall (fun _ _ => 0) ⟨#[], args, []⟩).memory :=
  laidMetH_of_parts3 (fuel := 8) (laidMet_of_run' 8 (by kernel_rfl) (by kernel_rfl)) (by kernel_rfl) (by kernel_rfl)
set_option maxRecDepth 100000 in
theorem lifted (os : Os) (started : os.Started) (H : Type) (enc : TypeId × Value → H) :
    ReturnsInHanded {} Tryd.checked os 5 .any (fun w args => (Rows.octetBackSpec.pre enc Tryd.prog Tryd.f5 [] false w args ∧ laidMetH Tryd.prog Rows.octetBackRow.laid w) ∧ sizedMet enc Tryd.prog Tryd.f5 (OpenSpec.ofChange Rows.octetBackSpec) false w args) (Rows.octetBackSpec.post enc Tryd.prog Tryd.f5 false true false false) := by
  refine returnsInHanded_of_change_and (C := Tryd.checked) (X := fun w _ => laidMetH Tryd.prog Rows.octetBackRow.laid w) (fun _ _ _ hh h => h.of_heap hh) own started (by kernel_rfl) Tryd.func5
    (ChangeSpec.witness_shaped (enc := enc) (C := Tryd.checked) (os := os) (X := fun w _ => laidMetH Tryd.prog Rows.octetBackRow.laid w) false (World.doorLaid Tryd.prog 24 os) #[.int .u64 0, .int .i64 0, .slice none 0 0, .slice none 0 0] 8 rfl (World.shaped_of_RefB (by kernel_rfl) (by kernel_rfl)) (by kernel_rfl) (by kernel_rfl) (by kernel_rfl) (door_met os _)) ?_
  intro W base args ds gs before hval0 hW hcnd _ hL _
  have hval : ∀ (j : Nat) t v, Tryd.f5.params[j]? = some t → args[j]? = some v → Value.okWide Tryd.prog W .any base t v := hval0
  have hW' := hW
  obtain ⟨p, q, hA0, hV, hpq, hfz, hnd⟩ := hW
  have hA : DataW.TrodAll enc Tryd.prog W 0 (fun _ => true) true Tryd.f5.params.toList args.toList ds p := hA0
  have hlt : ∀ x ∈ p, x.block < W.heap.size := fun x hx => hW'.lt x (by rw [hpq]; exact List.mem_append_left _ hx)
  rw [Tryd.params5] at hA hval
  obtain ⟨v0, vs0, d0, ds0, p0, q0, hargs, rfl, hp0, h0, r0⟩ := trodAll_cons hA
  obtain ⟨v1, vs1, d1, ds1, p1, q1, rfl, rfl, hp1, h1, r1⟩ := trodAll_cons r0
  obtain ⟨v2, vs2, d2, ds2, p2, q2, rfl, rfl, hp2, h2, r2⟩ := trodAll_cons r1
  obtain ⟨v3, vs3, d3, ds3, p3, q3, rfl, rfl, hp3, h3, r3⟩ := trodAll_cons r2
  obtain ⟨rfl, rfl, hpn⟩ := trodAll_nil r3
  obtain rfl : args = #[v0, v1, v2, v3] := by cases args; simp_all
  obtain ⟨rfl, rfl⟩ := trodVars_none hV
  obtain ⟨a0, rfl, rfl, -, w0⟩ := open_int Tryd.underlying22 (hval 0 22 v0 rfl rfl) h0
  obtain ⟨a1, rfl, rfl, -, w1⟩ := open_int Tryd.underlying3 (hval 1 3 v1 rfl rfl) h1
  obtain ⟨x2, rfl, o2⟩ := bytes_open (hval 2 _ v2 rfl rfl) h2 (fun x hx => hlt x (by simp_all))
  obtain ⟨x3, rfl, o3⟩ := bytess_open (hval 3 _ v3 rfl rfl) h3 (fun x hx => hlt x (by simp_all))
  refine (octetBack_walk a0 w0 a1 w1 x2 W o2 x3 o3 (tab_of_laid (laid := Rows.octetBackRow.laid) rfl hL)).mono fun e W' ⟨he, hg⟩ => ?_
  subst he
  exact ⟨_, rfl, law_post (T := 4) laidOut (by kernel_rfl) Tryd.underlying4 rfl rfl hW' rfl rfl rfl hg⟩
theorem over : Rows.octetBackRow.holds Tryd.pinned (OpenSpec.ofChange Rows.octetBackSpec) :=
  OpenClaim.holds_of_wide 5 Tryd.f5 rfl rfl rfl rfl rfl rfl rfl ⟨rfl, rfl, rfl, rfl, rfl⟩ rfl rfl rfl rfl rfl (by kernel_rfl) Tryd.func5 (by kernel_rfl)
    (of_decide_eq_true (by kernel_rfl)) (by unfold Func.isWrapper; rw [if_neg (of_decide_eq_false (by kernel_rfl))]; exact ⟨rfl, rfl⟩)
    (fun os started H enc _ => lifted os started H enc)
/-- the statement -/
theorem proved : Rows.OctetBackCardSaid :=
  Claim7.holds_tied_plain_at .later [] [.data, .data, .data] true (true, "c5dbe156eb60a59730607763013cde13550478e2496cc4cac80feebce387f0b5") false over (fun _ h => by cases h) (by kernel_rfl) (fun _ h => by cases h) octetBack_row_tie rfl ⟨rfl, rfl⟩ (by kernel_rfl) rfl
    (fun f fn hf hfn => by
      obtain rfl : f = 5 := Option.some.inj ((show Tryd.prog.funcNamed "assize/assizelaw01.OctetBack" = some 5 by kernel_rfl).symm.trans hf) |>.symm
      obtain rfl : fn = Tryd.f5 := (Option.some.inj (Tryd.func5.symm.trans hfn)).symm
      exact ⟨by kernel_rfl, fun j t ht => by
        rw [Tryd.params5] at ht
        have hm : t ∈ [22, 3, 23, 47] := by simpa using Array.mem_of_getElem? ht
        have hall : ([22, 3, 23, 47].all fun u => !Tryd.prog.wantsStandIn u) = true := by kernel_rfl
        exact (show Tryd.prog.wantsStandIn t = false by simpa using List.all_eq_true.1 hall t hm)⟩)
    (by kernel_rfl)
#print axioms proved
end octetBack
end Go.Proofs.YtldkcfhigcmoaaaDoor
