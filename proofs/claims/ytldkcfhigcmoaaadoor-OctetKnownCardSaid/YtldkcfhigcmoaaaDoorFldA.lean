/- What Fields answers, where all fits. Conditions: those in the theorem. -/
import Derived.Test.YtldkcfhigcmoaaaDoorFldP
import Derived.Test.YtldkcfhigcmoaaaDoorReadS
import Derived.Test.YtldkcfhigcmoaaaDoorOpen
namespace Go.Proofs.YtldkcfhigcmoaaaDoor
open Go.RowKit Go.As
set_option linter.unusedVariables false

theorem flat_step {α β : Type} {l : List α} {k : Nat} {x : α} (g : α → List β) (h : l[k]? = some x) : (l.take (k + 1)).flatMap g = (l.take k).flatMap g ++ g x := by
  rw [List.take_add_one, h]
  simp
theorem flat_le {α β : Type} (g : α → List β) (l : List α) (k : Nat) : ((l.take k).flatMap g).length ≤ (l.flatMap g).length := by
  have h : l.flatMap g = (l.take k).flatMap g ++ (l.drop k).flatMap g := by rw [← List.flatMap_append, List.take_append_drop]
  rw [h, List.length_append]
  omega

set_option maxRecDepth 100000 in
set_option maxHeartbeats 1600000 in
theorem ofields_any (A : Option Addr) (n c : Nat) (xs : List BArg) (w : World) (ha : Sl w 1 A n (xs.flatMap bargC)) (hx : ∀ p ∈ xs, BytAt w p) (hl : xs.length = n) (hn : n ≤ 4096) (hfit : (fieldsL (xs.map (·.2.2.2))).length ≤ 1048576) :
    Calls Tryd.prog 32 #[.slice A n c] w fun e w' => ∃ v rm, e = .returned (.tuple #[v, .int .i64 0]) ∧ RowB w' w.heap.size 5 v (fieldsL (xs.map (·.2.2.2))) rm ∧ Below w.heap.size w w' := by
  have hfl : fieldsL (xs.map (·.2.2.2)) = shortL n ++ xs.flatMap (fun p => fld p.2.2.2) := by
    unfold fieldsL
    rw [List.length_map, hl, List.flatMap_map]
  rw [hfl] at hfit ⊢
  have HA := Lib.hid ha
  have HX := Lib.hid hx
  have HL := Lib.hid hl
  have HF := Lib.hid hfit
  have hn64 : n < 18446744073709551616 := by omega
  clear ha hx hl hfl hfit
  go_enter Tryd.func32, Tryd.ntmps32
  go_wp2_with (first
    | (go_at_call 20
       refine (oshort_any n w hn64).mono ?_
       rintro e w1 ⟨v1, rm1, rfl, hr1, hb1⟩
       have H1 := Lib.hid (And.intro hr1 hb1)
       clear hr1 hb1))
  go_loopw [4, 17] (fun ov iv wr => ∃ (k : Nat) (rm : List UInt8) (v : Value), k ≤ n ∧ ov = v ∧ iv = .int .i64 k ∧ RowB wr w.heap.size 5 v (shortL n ++ (xs.take k).flatMap (fun p => fld p.2.2.2)) rm ∧ Below w.heap.size w wr) (fun _ iv _ => n - (intOf iv).toNat)
  case atStart => exact ⟨0, rm1, v1, by omega, rfl, rfl, by simpa using H1.out.1, H1.out.2⟩
  case round =>
    clear H1
    obtain ⟨k, rm, v, hk, hv, rfl, hrow, hbel⟩ := hrel
    have hv' := hv.symm
    subst hv'
    have hsz := hbel.size
    by_cases hlt : k < n
    · obtain ⟨p, hp⟩ : ∃ p, xs[k]? = some p := ⟨_, List.getElem?_eq_getElem (by rw [HL.out]; exact hlt)⟩
      obtain ⟨ad, u, hA, hblk, hu, hca⟩ := HA.out.at1 hlt
      have hpu := flat_at bargC 1 (fun _ => rfl) hp 0 (by omega)
      rw [Nat.mul_one, Nat.add_zero] at hpu
      rw [hpu] at hu
      obtain rfl := Option.some.inj (show some _ = some u from hu)
      subst hA
      have hpb := HX.out p (List.mem_of_getElem? hp)
      have hstep := flat_step (fun p : BArg => fld p.2.2.2) hp
      have hle := flat_le (fun p : BArg => fld p.2.2.2) xs (k + 1)
      obtain ⟨pa, pn, pc, pl⟩ := p
      obtain ⟨hpl, hpnc, hpcm, -, hps⟩ := hpb
      simp only at hpl hpnc hpcm hps hstep
      have hpn : pn ≤ 9223372036854775807 := by simp only [maxLen] at hpcm; omega
      have hpn64 : pn < 18446744073709551616 := by omega
      have hwu : IntKind.u64.wrap (pn : Int) = (pn : Int) := by rw [IntKind.wrap_u64]; omega
      have hca2 : wr.cell? (ad.add k) = some (.slice pa pn pc) := by
        rw [hbel.cell (by rw [blk_add]; exact hblk)]; exact hca
      obtain ⟨O, hO⟩ : ∃ O, O = shortL n ++ (xs.take k).flatMap (fun p => fld p.2.2.2) := ⟨_, rfl⟩
      have hO2 : shortL n ++ (xs.take (k + 1)).flatMap (fun p => fld p.2.2.2) = O ++ shortL pn ++ pl := by
        rw [hstep, hO]
        simp only [fld, hpl, List.append_assoc]
      have htot : O.length + (shortL pn).length + pn ≤ 1048576 := by
        have h1 := HF.out
        have h2 := congrArg List.length hO2
        simp only [List.length_append] at h1 h2
        omega
      rw [← hO] at hrow
      obtain ⟨va, vn, vc, rfl, hvn, -, -⟩ := hrow.form2
      have HPS := Lib.hid hps
      have HR := Lib.hid (And.intro hrow (And.intro hbel (And.intro True.intro hO2)))
      have hvn2 : vn + (shortL pn).length + pn ≤ 1048576 := by omega
      clear hrow hbel hca hp hstep hle hO hO2 hps hpu hu hv htot
      have HVN := Lib.hid hvn
      clear hvn
      go_wp2_with (first
        | (go_at_call 20
           refine (oshort_any pn _ hpn64).mono ?_
           rintro e w3 ⟨v3, rm3, rfl, hr3, hb3⟩
           obtain ⟨sa, sn, sc, rfl, hsn, -, -⟩ := hr3.form2
           have hsn2 : vn + sn + pn ≤ 1048576 := by omega
           have H3 := Lib.hid (And.intro (HR.out.1.below hb3) (And.intro (below_then HR.out.2.1 hb3) (And.intro True.intro (And.intro (show Sl w3 1 sa sn _ by rw [hsn]; exact hr3.sl) hsn))))
           have hsz3 := (below_then HR.out.2.1 hb3).size
           clear hr3 hb3 hsn)
        | (at_builtin
           first
           | (have hm := H5.out
              clear hm
              refine wpl_appB rfl _ _ _ rfl w.heap.size 5 Tryd.underlying23 byteInfo v5 _ rm5 H5.out.1 rfl pa pn pc pl rfl H5.out.2.2 (by have := HVN.out; have := H3.out.2.2.2.2; rw [List.length_append]; omega) hsz5 ?_
              intro v6 rm6 w6 hown6 hg6 hs6
              have H6 := Lib.hid (And.intro hown6 (H5.out.2.1.grown hg6 hsz5 (fun j hj => (H5.out.1.lt j hj).1)))
              clear hown6 hg6 hs6)
           | (refine wpl_appB rfl _ _ _ rfl w.heap.size 5 Tryd.underlying23 byteInfo (.slice va vn vc) O rm H3.out.1 rfl sa sn sc (shortL pn) rfl H3.out.2.2.2.1 (by have := HVN.out; omega) hsz3 ?_
              intro v5 rm5 w5 hown5 hg5 hs5
              have hb5 := H3.out.2.1.grown hg5 hsz3 (fun j hj => (H3.out.1.lt j hj).1)
              have hpl5 : Sl w5 1 pa pn (byt pl) := HPS.out.below hb5
              have H5 := Lib.hid (And.intro hown5 (And.intro hb5 hpl5))
              have hsz5 := hb5.size
              clear hown5 hg5 hs5 hb5 hpl5)))
      go_roundw
      case rel => exact ⟨k + 1, rm6, v6, by omega, rfl, by go_num, by rw [HR.out.2.2.2]; exact H6.out.1, H6.out.2⟩
      case measure => simp [intOf]; omega
    · have hkn : k = n := by omega
      have hrow2 : RowB wr w.heap.size 5 v (shortL n ++ xs.flatMap (fun p => fld p.2.2.2)) rm := by
        rw [hkn, List.take_of_length_le (by rw [HL.out]; exact Nat.le_refl _)] at hrow; exact hrow
      have HR := Lib.hid (And.intro hrow2 hbel)
      clear hrow hbel hrow2 hkn
      obtain ⟨va, vn, vc, rfl, -, -, -⟩ := HR.out.1.form2
      go_wp2_with fail
      go_ret2
      first | exact ⟨_, rfl, ⟨rm, HR.out.1⟩, HR.out.2⟩ | exact ⟨_, rm, rfl, HR.out.1, HR.out.2⟩
end Go.Proofs.YtldkcfhigcmoaaaDoor
