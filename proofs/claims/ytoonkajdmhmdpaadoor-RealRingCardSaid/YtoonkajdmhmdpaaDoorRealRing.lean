/- The law RealRing: sums and products may be turned about, a difference is the sum with the negated, negated twice is the real, and what is told may be a real's; every input. -/
import Derived.Test.YtoonkajdmhmdpaaDoorRealK
import Derived.Test.YtoonkajdmhmdpaaDoorAwR
import Derived.Test.YtoonkajdmhmdpaaDoorDoor
namespace Go.Proofs.YtoonkajdmhmdpaaDoor
open Go.RowKit Go.As
set_option linter.unusedVariables false

set_option maxRecDepth 100000 in
set_option maxHeartbeats 3200000 in
theorem realRing_walk (a : Int) (wa : (Lit.int .u64 a).wf = true) (b : Int) (wb : (Lit.int .u64 b).wf = true) (w : World) (ht : Tab w) :
    Calls Tryd.prog 5 #[.int .u64 a, .int .u64 b] w fun e w' => e = .returned (.bool true) ∧ Below w.heap.size w w' := by
  obtain ⟨m, rfl, hm⟩ := u64_nat wa
  obtain ⟨n, rfl, hn⟩ := u64_nat wb
  obtain ⟨S, hS⟩ : ∃ S, S = arN .add m n := ⟨_, rfl⟩
  obtain ⟨R, hR⟩ : ∃ R, R = arN .mul m n := ⟨_, rfl⟩
  obtain ⟨D, hD⟩ : ∃ D, D = arN .sub m n := ⟨_, rfl⟩
  obtain ⟨Q, hQ⟩ : ∃ Q, Q = arN .quo m n := ⟨_, rfl⟩
  obtain ⟨G, hG⟩ : ∃ G, G = ngW m := ⟨_, rfl⟩
  obtain ⟨H, hH⟩ : ∃ H, H = ngW n := ⟨_, rfl⟩
  obtain ⟨C, hC⟩ : ∃ C, C = toN m := ⟨_, rfl⟩
  obtain ⟨O, hO⟩ : ∃ O, O = toN (floatOfInt .f64 1) := ⟨_, rfl⟩
  have hGl : G < 18446744073709551616 := by rw [hG]; unfold ngW; split <;> first | omega | exact negW_lt hm
  have c1 := fun W => kadd W hS.symm
  have c2 := fun W => kadd W ((arN_add_comm n m).trans hS.symm)
  have c3 := fun W => kadd (a := m) (b := H) (r := D) W (by rw [hH, ← arN_sub m hn]; exact hD.symm)
  have c4 := fun W => kadd (a := C) (b := n) (r := S) W (by rw [hC, arN_add_toN]; exact hS.symm)
  have d1 := fun W => kmul W hR.symm
  have d2 := fun W => kmul W ((arN_mul_comm n m).trans hR.symm)
  have d3 := fun W => kmul (a := m) (b := O) (r := C) W (by rw [hO, arN_mul_one hm]; exact hC.symm)
  have f1 := fun W => kneg W hm hG.symm
  have f2 := fun W => kneg W hn hH.symm
  have f3 := fun W => kneg (a := G) (r := C) W hGl (by rw [hG, ngW_ngW hm]; exact hC.symm)
  have m1 := fun W => kmay (a := S) W (by rw [hS]; exact toN_arN _ _ _)
  have m2 := fun W => kmay (a := R) W (by rw [hR]; exact toN_arN _ _ _)
  have m3 := fun W => kmay (a := D) W (by rw [hD]; exact toN_arN _ _ _)
  have m4 := fun W => kmay (a := Q) W (by rw [hQ]; exact toN_arN _ _ _)
  have m5 := fun W => kmay (a := G) W (by rw [hG]; exact toN_ngW hm)
  have m6 := fun W => kmay (a := C) W (by rw [hC]; exact toN_toN _)
  have g1 := fun W => ksub W hD.symm
  have g2 := fun W => kquo W hQ.symm
  have g3 := fun W => kcanon W hC.symm
  have g4 := fun W => kfromint W hO.symm
  clear wa wb hm hn hS hR hD hQ hG hH hC hO hGl
  go_enter Tryd.func5, Tryd.ntmps5
  go_wp2_with (first
    | (go_at_call 10; refine (awake03 w ht).mono ?_; rintro e w1 ⟨rfl, hb⟩; have HB := Lib.hid hb; clear hb)
    | (go_at_call 17; first | (with_reducible refine (c1 _).mono ?_) | (with_reducible refine (c2 _).mono ?_) | (with_reducible refine (c3 _).mono ?_) | (with_reducible refine (c4 _).mono ?_)
       rintro e w' ⟨rfl, q, rfl⟩)
    | (go_at_call 18; first | (with_reducible refine (d1 _).mono ?_) | (with_reducible refine (d2 _).mono ?_) | (with_reducible refine (d3 _).mono ?_)
       rintro e w' ⟨rfl, q, rfl⟩)
    | (go_at_call 19; (with_reducible refine (g1 _).mono ?_); rintro e w' ⟨rfl, q, rfl⟩)
    | (go_at_call 20; (with_reducible refine (g2 _).mono ?_); rintro e w' ⟨rfl, q, rfl⟩)
    | (go_at_call 16; first | (with_reducible refine (f1 _).mono ?_) | (with_reducible refine (f2 _).mono ?_) | (with_reducible refine (f3 _).mono ?_)
       rintro e w' ⟨rfl, rfl⟩)
    | (go_at_call 13; (with_reducible refine (g3 _).mono ?_); rintro e w' ⟨rfl, rfl⟩)
    | (go_at_call 12; (with_reducible refine (g4 _).mono ?_); rintro e w' ⟨rfl, rfl⟩)
    | (go_at_call 21; first | (with_reducible refine (m1 _).mono ?_) | (with_reducible refine (m2 _).mono ?_) | (with_reducible refine (m3 _).mono ?_) | (with_reducible refine (m4 _).mono ?_) | (with_reducible refine (m5 _).mono ?_) | (with_reducible refine (m6 _).mono ?_)
       rintro e w' ⟨rfl, rfl⟩))
  go_ret
  exact ⟨rfl, by repeat (first | exact HB.out | refine below_drewN ?_ _)⟩

namespace realRing
set_option linter.unusedVariables false
open Go.ChangeShapes Go.WideShapes Go.ChangeAt Go.RowKit Go.As
theorem own : ownKnob Tryd.prog.godebug = none := by kernel_rfl
theorem laidOut : laidOutB Tryd.prog = true := by kernel_rfl
theorem door_met (os : Os) (args : Array Value) : laidMetH Tryd.prog Rows.realRingRow.laid ((World.doorLaid Tryd.prog 24 os).forCall (fun _ _ => 0) ⟨#[], args, []⟩).memory :=
  laidMetH_of_parts3 (fuel := 8) (laidMet_of_run' 8 (by kernel_rfl) (by kernel_rfl)) (by kernel_rfl) (by kernel_rfl)
set_option maxRecDepth 100000 in
theorem lifted (os : Os) (started : os.Started) (H : Type) (enc : TypeId × Value → H) :
    ReturnsInHanded {} Tryd.checked os 5 .any (fun w args => (Rows.realRingSpec.pre enc Tryd.prog Tryd.f5 [] false w args ∧ laidMetH Tryd.prog Rows.realRingRow.laid w) ∧ sizedMet enc Tryd.prog Tryd.f5 (OpenSpec.ofChange Rows.realRingSpec) false w args) (Rows.realRingSpec.post enc Tryd.prog Tryd.f5 false true false false) := by
  refine returnsInHanded_of_change_and (C := Tryd.checked) (X := fun w _ => laidMetH Tryd.prog Rows.realRingRow.laid w) (fun _ _ _ hh h => h.of_heap hh) own started (by kernel_rfl) Tryd.func5
    (ChangeSpec.witness_shaped (enc := enc) (C := Tryd.checked) (os := os) (X := fun w _ => laidMetH Tryd.prog Rows.realRingRow.laid w) false (World.doorLaid Tryd.prog 24 os) #[.int .u64 0, .int .u64 0] 8 rfl (World.shaped_of_RefB (by kernel_rfl) (by kernel_rfl)) (by kernel_rfl) (by kernel_rfl) (by kernel_rfl) (door_met os _)) ?_
  intro W base args ds gs before hval0 hW hcnd _ hL _
  have hval : ∀ (j : Nat) t v, Tryd.f5.params[j]? = some t → args[j]? = some v → Value.okWide Tryd.prog W .any base t v := hval0
  have hW' := hW
  obtain ⟨p, q, hA0, hV, hpq, hfz, hnd⟩ := hW
  have hA : DataW.TrodAll enc Tryd.prog W 0 (fun _ => true) true Tryd.f5.params.toList args.toList ds p := hA0
  have hlt : ∀ x ∈ p, x.block < W.heap.size := fun x hx => hW'.lt x (by rw [hpq]; exact List.mem_append_left _ hx)
  rw [Tryd.params5] at hA hval
  obtain ⟨v0, vs0, d0, ds0, p0, q0, hargs, rfl, hp0, h0, r0⟩ := trodAll_cons hA
  obtain ⟨v1, vs1, d1, ds1, p1, q1, rfl, rfl, hp1, h1, r1⟩ := trodAll_cons r0
  obtain ⟨rfl, rfl, hpn⟩ := trodAll_nil r1
  obtain rfl : args = #[v0, v1] := by cases args; simp_all
  obtain ⟨rfl, rfl⟩ := trodVars_none hV
  obtain ⟨a0, rfl, rfl, -, w0⟩ := open_int Tryd.underlying25 (hval 0 25 v0 rfl rfl) h0
  obtain ⟨a1, rfl, rfl, -, w1⟩ := open_int Tryd.underlying25 (hval 1 25 v1 rfl rfl) h1
  refine (realRing_walk a0 w0 a1 w1 W (tab_of_laid (laid := Rows.realRingRow.laid) rfl hL)).mono fun e W' ⟨he, hg⟩ => ?_
  subst he
  exact ⟨_, rfl, law_post (T := 4) laidOut (by kernel_rfl) Tryd.underlying4 rfl rfl hW' rfl rfl rfl hg⟩
theorem over : Rows.realRingRow.holds Tryd.pinned (OpenSpec.ofChange Rows.realRingSpec) :=
  OpenClaim.holds_of_wide 5 Tryd.f5 rfl rfl rfl rfl rfl rfl rfl ⟨rfl, rfl, rfl, rfl, rfl⟩ rfl rfl rfl rfl rfl (by kernel_rfl) Tryd.func5 (by kernel_rfl)
    (of_decide_eq_true (by kernel_rfl)) (by unfold Func.isWrapper; rw [if_neg (of_decide_eq_false (by kernel_rfl))]; exact ⟨rfl, rfl⟩)
    (fun os started H enc _ => lifted os started H enc)
/-- the statement -/
theorem proved : Rows.RealRingCardSaid :=
  Claim7.holds_tied_plain_at .later [] [.data, .data, .data] true (true, "7e8a5e3ef04c6f126ea9b2dcb9de6630f871d33b2f365b3a025e1e7c8e672a72") false over (fun _ h => by cases h) (by kernel_rfl) (fun _ h => by cases h) realRing_row_tie rfl ⟨rfl, rfl⟩ (by kernel_rfl) rfl
    (fun f fn hf hfn => by
      obtain rfl : f = 5 := Option.some.inj ((show Tryd.prog.funcNamed "assize/assizelaw03.RealRing" = some 5 by kernel_rfl).symm.trans hf) |>.symm
      obtain rfl : fn = Tryd.f5 := (Option.some.inj (Tryd.func5.symm.trans hfn)).symm
      exact ⟨by kernel_rfl, fun j t ht => by
        rw [Tryd.params5] at ht
        have hm : t ∈ [25, 25] := by simpa using Array.mem_of_getElem? ht
        have hall : ([25, 25].all fun u => !Tryd.prog.wantsStandIn u) = true := by kernel_rfl
        exact (show Tryd.prog.wantsStandIn t = false by simpa using List.all_eq_true.1 hall t hm)⟩)
    (by kernel_rfl)
#print axioms proved
end realRing
end Go.Proofs.YtoonkajdmhmdpaaDoor
