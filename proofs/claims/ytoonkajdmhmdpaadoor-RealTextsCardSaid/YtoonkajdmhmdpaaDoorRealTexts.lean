/- RealTexts: the two readers and the two printers answer alike. -/
import Derived.Test.YtoonkajdmhmdpaaDoorRealM
import Derived.Test.YtoonkajdmhmdpaaDoorDoor
namespace Go.Proofs.YtoonkajdmhmdpaaDoor
open Go.RowKit Go.As
set_option linter.unusedVariables false

set_option maxRecDepth 100000 in
set_option maxHeartbeats 3200000 in
theorem realTexts_walk (s : List UInt8) (hs : s.length ≤ maxLen) (b : Int) (wb : (Lit.int .u64 b).wf = true) (w : World) (ht : TabAB w) :
    Calls Tryd.prog 7 #[.string (str s), .int .u64 b] w fun e w' => e = .returned (.bool true) ∧ Below w.heap.size w w' := by
  obtain ⟨n, rfl, hn⟩ := u64_nat wb
  clear wb
  by_cases hl : 100 < s.length
  · go_enter Tryd.func7, Tryd.ntmps7
    go_wp2_with fail
    go_ret
    exact ⟨rfl, Below.refl _ _⟩
  · have HT := Lib.hid ht
    obtain ⟨t, z, hp, hz⟩ := PSpec.all (toN n)
    obtain ⟨x, hx⟩ := TSpec.total (toN n)
    have HP3 := Lib.hid (rprint_of hn hp)
    have HP4 := Lib.hid (qprint_of hn hp)
    have HP5 := Lib.hid (rtext_of hn hx)
    have HP6 := Lib.hid (qtext_of hn hx)
    clear hp hz hx hn ht
    cases hok : rpOk s with
    | false =>
      have h1 := rp_bad hok
      have HP1 := Lib.hid (rparse_is (s := s) (by omega) h1.1 h1.2)
      have HP2 := Lib.hid (qparse_is (s := s) (by omega) h1.1 h1.2)
      clear h1 hok
      go_enter Tryd.func7, Tryd.ntmps7
      go_wp2_with (first
        | (go_at_call 22
           (with_reducible refine (HP1.out _).mono ?_)
           rintro e w1 ⟨rfl, hb⟩
           have HB1 := Lib.hid hb
           have HT1 := Lib.hid (HT.out.below hb)
           have HTa := Lib.hid HT1.out.1
           clear hb)
        | (go_at_call 23; (with_reducible refine (HP2.out _).mono ?_); rintro e w' ⟨rfl, rfl⟩)
        | (go_at_call 24
           (with_reducible refine (HP3.out _ HTa.out).mono ?_)
           rintro e w2 ⟨rfl, hb⟩
           have HB2 := Lib.hid (below_then HB1.out hb)
           have HT2 := Lib.hid (HT1.out.below hb)
           clear hb)
        | (go_at_call 25
           (with_reducible refine (HP4.out _).mono ?_)
           rintro e w3 ⟨rfl, hb⟩
           have HB3 := Lib.hid (below_then HB2.out hb)
           have HT3 := Lib.hid (HT2.out.below hb)
           clear hb)
        | (go_at_call 26
           (with_reducible refine (HP5.out _ HT3.out).mono ?_)
           rintro e w4 ⟨rfl, hb⟩
           have HB4 := Lib.hid (below_then HB3.out hb)
           clear hb)
        | (go_at_call 27
           (with_reducible refine (HP6.out _).mono ?_)
           rintro e w5 ⟨rfl, hb⟩
           have HB5 := Lib.hid (below_then HB4.out hb)
           clear hb))
      go_ret
      exact ⟨rfl, HB5.out⟩
    | true =>
      have h2 : rpF s = 0 := by unfold rpF; rw [hok, if_pos rfl]
      obtain ⟨v, hv⟩ : ∃ v, rpB s = v := ⟨_, rfl⟩
      have HP1 := Lib.hid (rparse_is (s := s) (by omega) hv h2)
      have HP2 := Lib.hid (qparse_is (s := s) (by omega) hv h2)
      clear h2 hok hv
      go_enter Tryd.func7, Tryd.ntmps7
      go_wp2_with (first
        | (go_at_call 22
           (with_reducible refine (HP1.out _).mono ?_)
           rintro e w1 ⟨rfl, hb⟩
           have HB1 := Lib.hid hb
           have HT1 := Lib.hid (HT.out.below hb)
           have HTa := Lib.hid HT1.out.1
           clear hb)
        | (go_at_call 23; (with_reducible refine (HP2.out _).mono ?_); rintro e w' ⟨rfl, rfl⟩)
        | (go_at_call 24
           (with_reducible refine (HP3.out _ HTa.out).mono ?_)
           rintro e w2 ⟨rfl, hb⟩
           have HB2 := Lib.hid (below_then HB1.out hb)
           have HT2 := Lib.hid (HT1.out.below hb)
           clear hb)
        | (go_at_call 25
           (with_reducible refine (HP4.out _).mono ?_)
           rintro e w3 ⟨rfl, hb⟩
           have HB3 := Lib.hid (below_then HB2.out hb)
           have HT3 := Lib.hid (HT2.out.below hb)
           clear hb)
        | (go_at_call 26
           (with_reducible refine (HP5.out _ HT3.out).mono ?_)
           rintro e w4 ⟨rfl, hb⟩
           have HB4 := Lib.hid (below_then HB3.out hb)
           clear hb)
        | (go_at_call 27
           (with_reducible refine (HP6.out _).mono ?_)
           rintro e w5 ⟨rfl, hb⟩
           have HB5 := Lib.hid (below_then HB4.out hb)
           clear hb))
      go_ret
      exact ⟨rfl, HB5.out⟩

namespace realTexts
set_option linter.unusedVariables false
open Go.ChangeShapes Go.WideShapes Go.ChangeAt Go.RowKit Go.As
theorem own : ownKnob Tryd.prog.godebug = none := by kernel_rfl
theorem laidOut : laidOutB Tryd.prog = true := by kernel_rfl
theorem door_met (os : Os) (args : Array Value) : laidMetH Tryd.prog Rows.realTextsRow.laid ((World.doorLaid Tryd.prog 24 os).forCall (fun _ _ => 0) ⟨#[], args, []⟩).memory :=
  laidMetH_of_parts3 (fuel := 8) (laidMet_of_run' 8 (by kernel_rfl) (by kernel_rfl)) (by kernel_rfl) (by kernel_rfl)
set_option maxRecDepth 100000 in
theorem lifted (os : Os) (started : os.Started) (H : Type) (enc : TypeId × Value → H) :
    ReturnsInHanded {} Tryd.checked os 7 .any (fun w args => (Rows.realTextsSpec.pre enc Tryd.prog Tryd.f7 [] false w args ∧ laidMetH Tryd.prog Rows.realTextsRow.laid w) ∧ sizedMet enc Tryd.prog Tryd.f7 (OpenSpec.ofChange Rows.realTextsSpec) false w args) (Rows.realTextsSpec.post enc Tryd.prog Tryd.f7 false true false false) := by
  refine returnsInHanded_of_change_and (C := Tryd.checked) (X := fun w _ => laidMetH Tryd.prog Rows.realTextsRow.laid w) (fun _ _ _ hh h => h.of_heap hh) own started (by kernel_rfl) Tryd.func7
    (ChangeSpec.witness_shaped (enc := enc) (C := Tryd.checked) (os := os) (X := fun w _ => laidMetH Tryd.prog Rows.realTextsRow.laid w) false (World.doorLaid Tryd.prog 24 os) #[.string ⟨#[]⟩, .int .u64 0] 8 rfl (World.shaped_of_RefB (by kernel_rfl) (by kernel_rfl)) (by kernel_rfl) (by kernel_rfl) (by kernel_rfl) (door_met os _)) ?_
  intro W base args ds gs before hval0 hW hcnd _ hL _
  have hval : ∀ (j : Nat) t v, Tryd.f7.params[j]? = some t → args[j]? = some v → Value.okWide Tryd.prog W .any base t v := hval0
  have hW' := hW
  obtain ⟨p, q, hA0, hV, hpq, hfz, hnd⟩ := hW
  have hA : DataW.TrodAll enc Tryd.prog W 0 (fun _ => true) true Tryd.f7.params.toList args.toList ds p := hA0
  have hlt : ∀ x ∈ p, x.block < W.heap.size := fun x hx => hW'.lt x (by rw [hpq]; exact List.mem_append_left _ hx)
  rw [Tryd.params7] at hA hval
  obtain ⟨v0, vs0, d0, ds0, p0, q0, hargs, rfl, hp0, h0, r0⟩ := trodAll_cons hA
  obtain ⟨v1, vs1, d1, ds1, p1, q1, rfl, rfl, hp1, h1, r1⟩ := trodAll_cons r0
  obtain ⟨rfl, rfl, hpn⟩ := trodAll_nil r1
  obtain rfl : args = #[v0, v1] := by cases args; simp_all
  obtain ⟨rfl, rfl⟩ := trodVars_none hV
  obtain ⟨s0, rfl, rfl, -, w0⟩ := ChangeMaps.open_string Tryd.underlying9 (hval 0 9 v0 rfl rfl) h0
  obtain ⟨l0, rfl⟩ := exists_str s0
  rw [str_size] at w0
  obtain ⟨a1, rfl, rfl, -, w1⟩ := open_int Tryd.underlying25 (hval 1 25 v1 rfl rfl) h1
  refine (realTexts_walk l0 w0 a1 w1 W ⟨tab_of_laid (laid := Rows.realTextsRow.laid) rfl hL, tabB_of_laid (laid := Rows.realTextsRow.laid) rfl hL⟩).mono fun e W' ⟨he, hg⟩ => ?_
  subst he
  exact ⟨_, rfl, law_post (T := 4) laidOut (by kernel_rfl) Tryd.underlying4 rfl rfl hW' rfl rfl rfl hg⟩
theorem over : Rows.realTextsRow.holds Tryd.pinned (OpenSpec.ofChange Rows.realTextsSpec) :=
  OpenClaim.holds_of_wide 7 Tryd.f7 rfl rfl rfl rfl rfl rfl rfl ⟨rfl, rfl, rfl, rfl, rfl⟩ rfl rfl rfl rfl rfl (by kernel_rfl) Tryd.func7 (by kernel_rfl)
    (of_decide_eq_true (by kernel_rfl)) (by unfold Func.isWrapper; rw [if_neg (of_decide_eq_false (by kernel_rfl))]; exact ⟨rfl, rfl⟩)
    (fun os started H enc _ => lifted os started H enc)
/-- the statement -/
theorem proved : Rows.RealTextsCardSaid :=
  Claim7.holds_tied_plain_at .later [] [.data, .data, .data] true (true, "7e8a5e3ef04c6f126ea9b2dcb9de6630f871d33b2f365b3a025e1e7c8e672a72") false over (fun _ h => by cases h) (by kernel_rfl) (fun _ h => by cases h) realTexts_row_tie rfl ⟨rfl, rfl⟩ (by kernel_rfl) rfl
    (fun f fn hf hfn => by
      obtain rfl : f = 7 := Option.some.inj ((show Tryd.prog.funcNamed "assize/assizelaw03.RealTexts" = some 7 by kernel_rfl).symm.trans hf) |>.symm
      obtain rfl : fn = Tryd.f7 := (Option.some.inj (Tryd.func7.symm.trans hfn)).symm
      exact ⟨by kernel_rfl, fun j t ht => by
        rw [Tryd.params7] at ht
        have hm : t ∈ [9, 25] := by simpa using Array.mem_of_getElem? ht
        have hall : ([9, 25].all fun u => !Tryd.prog.wantsStandIn u) = true := by kernel_rfl
        exact (show Tryd.prog.wantsStandIn t = false by simpa using List.all_eq_true.1 hall t hm)⟩)
    (by kernel_rfl)
#print axioms proved
end realTexts
end Go.Proofs.YtoonkajdmhmdpaaDoor
