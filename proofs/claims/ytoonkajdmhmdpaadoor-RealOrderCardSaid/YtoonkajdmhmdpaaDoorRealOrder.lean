/- The law RealOrder: of any reals but NaN just one of less, equal, greater holds, and less goes on from one to the next; NaN has none of them; every input. -/
import Derived.Test.YtoonkajdmhmdpaaDoorRealK
import Derived.Test.YtoonkajdmhmdpaaDoorAwR
import Derived.Test.YtoonkajdmhmdpaaDoorDoor
namespace Go.Proofs.YtoonkajdmhmdpaaDoor
open Go.RowKit Go.As
set_option linter.unusedVariables false

/-- the plain part -/
theorem ord_all {a b c : Nat} (ha : nanW a = false) (hb : nanW b = false) (la : a < 18446744073709551616) (lb : b < 18446744073709551616) :
    ∃ x y z : Bool, (FloatKind.f64.format.order a b == some .lt) = x ∧ (FloatKind.f64.format.order b a == some .lt) = y ∧ (FloatKind.f64.format.order a b == some .eq) = z ∧ (FloatKind.f64.format.order (negW b) (negW a) == some .lt) = x ∧
      ((x = true ∧ y = false ∧ z = false) ∨ (x = false ∧ y = true ∧ z = false) ∨ (x = false ∧ y = false ∧ z = true)) := by
  obtain ⟨u, v, h1, h2, h3⟩ := ord_pair ha hb la lb
  rw [show FloatKind.f64.format.order a b = _ from h1, show FloatKind.f64.format.order b a = _ from h2, show FloatKind.f64.format.order (negW b) (negW a) = _ from h3]
  rcases Int.lt_trichotomy u v with h | h | h
  · rw [Int.compare_eq_lt.2 h, Int.compare_eq_gt.2 h, Int.compare_eq_lt.2 (show -v < -u by omega)]
    exact ⟨true, false, false, rfl, rfl, rfl, rfl, .inl ⟨rfl, rfl, rfl⟩⟩
  · rw [h, Int.compare_eq_eq.2 rfl, Int.compare_eq_eq.2 rfl]
    exact ⟨false, false, true, rfl, rfl, rfl, rfl, .inr (.inr ⟨rfl, rfl, rfl⟩)⟩
  · rw [Int.compare_eq_gt.2 h, Int.compare_eq_lt.2 h, Int.compare_eq_gt.2 (show -u < -v by omega)]
    exact ⟨false, true, false, rfl, rfl, rfl, rfl, .inr (.inl ⟨rfl, rfl, rfl⟩)⟩
set_option maxRecDepth 100000 in
set_option maxHeartbeats 3200000 in
theorem realOrder_walk (a : Int) (wa : (Lit.int .u64 a).wf = true) (b : Int) (wb : (Lit.int .u64 b).wf = true) (c : Int) (wc : (Lit.int .u64 c).wf = true) (w : World) (ht : Tab w) :
    Calls Tryd.prog 4 #[.int .u64 a, .int .u64 b, .int .u64 c] w fun e w' => e = .returned (.bool true) ∧ Below w.heap.size w w' := by
  obtain ⟨m, rfl, hm⟩ := u64_nat wa
  obtain ⟨n, rfl, hn⟩ := u64_nat wb
  obtain ⟨k, rfl, hk⟩ := u64_nat wc
  clear wa wb wc
  by_cases hnan : nanW m = true ∨ nanW n = true
  · have l1 := fun W => kless (a := m) (b := n) W (c := false) (by rw [show FloatKind.f64.format.order m n = none from order_nan hnan]; rfl)
    have l2 := fun W => kless (a := n) (b := m) W (c := false) (by rw [show FloatKind.f64.format.order n m = none from order_nan hnan.symm]; rfl)
    have l3 := fun W => kequal (a := m) (b := n) W (c := false) (by rw [show FloatKind.f64.format.order m n = none from order_nan hnan]; rfl)
    cases h1 : nanW m with
    | true =>
      have g1 := fun W => kcanon (a := m) W (toN_nanW h1)
      clear hm hn hk hnan h1
      go_enter Tryd.func4, Tryd.ntmps4
      go_wp2_with (first
        | (go_at_call 10; refine (awake03 w ht).mono ?_; rintro e w1 ⟨rfl, hb⟩; have HB := Lib.hid hb; clear hb)
        | (go_at_call 13; (with_reducible refine (g1 _).mono ?_); rintro e w' ⟨rfl, rfl⟩)
        | (go_at_call 14; first | (with_reducible refine (l1 _).mono ?_) | (with_reducible refine (l2 _).mono ?_)
           rintro e w' ⟨rfl, rfl⟩)
        | (go_at_call 15; (with_reducible refine (l3 _).mono ?_); rintro e w' ⟨rfl, rfl⟩))
      go_ret
      exact ⟨rfl, HB.out⟩
    | false =>
      have h2 : nanW n = true := hnan.resolve_left (by rw [h1]; decide)
      have hne : m ≠ 9221120237041090560 := fun e => by rw [e, nan_lit] at h1; cases h1
      have hni : ((m : Int) == 9221120237041090560) = false := beq_false_of_ne (by omega)
      have g1 := fun W => kcanon (a := m) W (toN_of h1)
      have g2 := fun W => kcanon (a := n) W (toN_nanW h2)
      clear hm hn hk hnan h1 h2 hne
      go_enter Tryd.func4, Tryd.ntmps4
      go_wp2_with (first
        | (go_at_call 10; refine (awake03 w ht).mono ?_; rintro e w1 ⟨rfl, hb⟩; have HB := Lib.hid hb; clear hb)
        | (go_at_call 13; first | (with_reducible refine (g1 _).mono ?_) | (with_reducible refine (g2 _).mono ?_)
           rintro e w' ⟨rfl, rfl⟩)
        | (go_at_call 14; first | (with_reducible refine (l1 _).mono ?_) | (with_reducible refine (l2 _).mono ?_)
           rintro e w' ⟨rfl, rfl⟩)
        | (go_at_call 15; (with_reducible refine (l3 _).mono ?_); rintro e w' ⟨rfl, rfl⟩))
      go_ret
      exact ⟨rfl, HB.out⟩
  · have h1 : nanW m = false := by simpa using fun h => hnan (.inl h)
    have h2 : nanW n = false := by simpa using fun h => hnan (.inr h)
    have hne : m ≠ 9221120237041090560 := fun e => by rw [e, nan_lit] at h1; cases h1
    have hni : ((m : Int) == 9221120237041090560) = false := beq_false_of_ne (by omega)
    have hne2 : n ≠ 9221120237041090560 := fun e => by rw [e, nan_lit] at h2; cases h2
    have hni2 : ((n : Int) == 9221120237041090560) = false := beq_false_of_ne (by omega)
    have g1 := fun W => kcanon (a := m) W (toN_of h1)
    have g2 := fun W => kcanon (a := n) W (toN_of h2)
    obtain ⟨x, y, z, e1, e2, e3, e4, hxyz⟩ := ord_all (c := k) h1 h2 hm hn
    have htr : (FloatKind.f64.format.order m n == some .lt) = true → (FloatKind.f64.format.order n k == some .lt) = true → (FloatKind.f64.format.order m k == some .lt) = true := by
      intro p q
      rw [show FloatKind.f64.format.order m k = _ from ord_trans (a := m) (b := n) (c := k) (by simpa using p) (by simpa using q)]
      rfl
    obtain ⟨p, hp⟩ : ∃ p, (FloatKind.f64.format.order n k == some .lt) = p := ⟨_, rfl⟩
    obtain ⟨q, hq⟩ : ∃ q, (FloatKind.f64.format.order m k == some .lt) = q := ⟨_, rfl⟩
    rw [e1, hp, hq] at htr
    obtain ⟨M, hM⟩ : ∃ M, M = negW m := ⟨_, rfl⟩
    obtain ⟨N, hN⟩ : ∃ N, N = negW n := ⟨_, rfl⟩
    have f1 := fun W => kneg W hm (r := M) (by unfold ngW; rw [h1, if_neg (by decide)]; exact hM.symm)
    have f2 := fun W => kneg W hn (r := N) (by unfold ngW; rw [h2, if_neg (by decide)]; exact hN.symm)
    rw [← hM, ← hN] at e4
    have l1 := fun W => kless W e1
    have l2 := fun W => kless W e2
    have l3 := fun W => kless W hp
    have l4 := fun W => kless W hq
    have l5 := fun W => kless W e4
    have q1 := fun W => kequal W e3
    clear h1 h2 hne hne2 e1 e2 e3 e4 hp hq hM hN hm hn hk hnan
    rcases hxyz with ⟨rfl, rfl, rfl⟩ | ⟨rfl, rfl, rfl⟩ | ⟨rfl, rfl, rfl⟩
    · cases p with
      | false =>
        clear htr
        go_enter Tryd.func4, Tryd.ntmps4
        go_wp2_with (first
          | (go_at_call 10; refine (awake03 w ht).mono ?_; rintro e w1 ⟨rfl, hb⟩; have HB := Lib.hid hb; clear hb)
          | (go_at_call 13; first | (with_reducible refine (g1 _).mono ?_) | (with_reducible refine (g2 _).mono ?_)
             rintro e w' ⟨rfl, rfl⟩)
          | (go_at_call 16; first | (with_reducible refine (f1 _).mono ?_) | (with_reducible refine (f2 _).mono ?_)
             rintro e w' ⟨rfl, rfl⟩)
          | (go_at_call 14; first | (with_reducible refine (l1 _).mono ?_) | (with_reducible refine (l2 _).mono ?_) | (with_reducible refine (l3 _).mono ?_) | (with_reducible refine (l4 _).mono ?_) | (with_reducible refine (l5 _).mono ?_)
             rintro e w' ⟨rfl, rfl⟩)
          | (go_at_call 15; (with_reducible refine (q1 _).mono ?_); rintro e w' ⟨rfl, rfl⟩))
        go_ret
        exact ⟨rfl, HB.out⟩
      | true =>
        have hq' := htr rfl rfl
        subst hq'
        clear htr
        go_enter Tryd.func4, Tryd.ntmps4
        go_wp2_with (first
          | (go_at_call 10; refine (awake03 w ht).mono ?_; rintro e w1 ⟨rfl, hb⟩; have HB := Lib.hid hb; clear hb)
          | (go_at_call 13; first | (with_reducible refine (g1 _).mono ?_) | (with_reducible refine (g2 _).mono ?_)
             rintro e w' ⟨rfl, rfl⟩)
          | (go_at_call 16; first | (with_reducible refine (f1 _).mono ?_) | (with_reducible refine (f2 _).mono ?_)
             rintro e w' ⟨rfl, rfl⟩)
          | (go_at_call 14; first | (with_reducible refine (l1 _).mono ?_) | (with_reducible refine (l2 _).mono ?_) | (with_reducible refine (l3 _).mono ?_) | (with_reducible refine (l4 _).mono ?_) | (with_reducible refine (l5 _).mono ?_)
             rintro e w' ⟨rfl, rfl⟩)
          | (go_at_call 15; (with_reducible refine (q1 _).mono ?_); rintro e w' ⟨rfl, rfl⟩))
        go_ret
        exact ⟨rfl, HB.out⟩
    · clear htr
      go_enter Tryd.func4, Tryd.ntmps4
      go_wp2_with (first
        | (go_at_call 10; refine (awake03 w ht).mono ?_; rintro e w1 ⟨rfl, hb⟩; have HB := Lib.hid hb; clear hb)
        | (go_at_call 13; first | (with_reducible refine (g1 _).mono ?_) | (with_reducible refine (g2 _).mono ?_)
           rintro e w' ⟨rfl, rfl⟩)
        | (go_at_call 16; first | (with_reducible refine (f1 _).mono ?_) | (with_reducible refine (f2 _).mono ?_)
           rintro e w' ⟨rfl, rfl⟩)
        | (go_at_call 14; first | (with_reducible refine (l1 _).mono ?_) | (with_reducible refine (l2 _).mono ?_) | (with_reducible refine (l3 _).mono ?_) | (with_reducible refine (l4 _).mono ?_) | (with_reducible refine (l5 _).mono ?_)
           rintro e w' ⟨rfl, rfl⟩)
        | (go_at_call 15; (with_reducible refine (q1 _).mono ?_); rintro e w' ⟨rfl, rfl⟩))
      go_ret
      exact ⟨rfl, HB.out⟩
    · clear htr
      go_enter Tryd.func4, Tryd.ntmps4
      go_wp2_with (first
        | (go_at_call 10; refine (awake03 w ht).mono ?_; rintro e w1 ⟨rfl, hb⟩; have HB := Lib.hid hb; clear hb)
        | (go_at_call 13; first | (with_reducible refine (g1 _).mono ?_) | (with_reducible refine (g2 _).mono ?_)
           rintro e w' ⟨rfl, rfl⟩)
        | (go_at_call 16; first | (with_reducible refine (f1 _).mono ?_) | (with_reducible refine (f2 _).mono ?_)
           rintro e w' ⟨rfl, rfl⟩)
        | (go_at_call 14; first | (with_reducible refine (l1 _).mono ?_) | (with_reducible refine (l2 _).mono ?_) | (with_reducible refine (l3 _).mono ?_) | (with_reducible refine (l4 _).mono ?_) | (with_reducible refine (l5 _).mono ?_)
           rintro e w' ⟨rfl, rfl⟩)
        | (go_at_call 15; (with_reducible refine (q1 _).mono ?_); rintro e w' ⟨rfl, rfl⟩))
      go_ret
      exact ⟨rfl, HB.out⟩

namespace realOrder
set_option linter.unusedVariables false
open Go.ChangeShapes Go.WideShapes Go.ChangeAt Go.RowKit Go.As
theorem own : ownKnob Tryd.prog.godebug = none := by kernel_rfl
theorem laidOut : laidOutB Tryd.prog = true := by kernel_rfl
theorem door_met (os : Os) (args : Array Value) : laidMetH Tryd.prog Rows.realOrderRow.laid ((World.doorLaid Tryd.prog 24 os).forCall (fun _ _ => 0) ⟨#[], args, []⟩).memory :=
  laidMetH_of_parts3 (fuel := 8) (laidMet_of_run' 8 (by kernel_rfl) (by kernel_rfl)) (by kernel_rfl) (by kernel_rfl)
set_option maxRecDepth 100000 in
theorem lifted (os : Os) (started : os.Started) (H : Type) (enc : TypeId × Value → H) :
    ReturnsInHanded {} Tryd.checked os 4 .any (fun w args => (Rows.realOrderSpec.pre enc Tryd.prog Tryd.f4 [] false w args ∧ laidMetH Tryd.prog Rows.realOrderRow.laid w) ∧ sizedMet enc Tryd.prog Tryd.f4 (OpenSpec.ofChange Rows.realOrderSpec) false w args) (Rows.realOrderSpec.post enc Tryd.prog Tryd.f4 false true false false) := by
  refine returnsInHanded_of_change_and (C := Tryd.checked) (X := fun w _ => laidMetH Tryd.prog Rows.realOrderRow.laid w) (fun _ _ _ hh h => h.of_heap hh) own started (by kernel_rfl) Tryd.func4
    (ChangeSpec.witness_shaped (enc := enc) (C := Tryd.checked) (os := os) (X := fun w _ => laidMetH Tryd.prog Rows.realOrderRow.laid w) false (World.doorLaid Tryd.prog 24 os) #[.int .u64 0, .int .u64 0, .int .u64 0] 8 rfl (World.shaped_of_RefB (by kernel_rfl) (by kernel_rfl)) (by kernel_rfl) (by kernel_rfl) (by kernel_rfl) (door_met os _)) ?_
  intro W base args ds gs before hval0 hW hcnd _ hL _
  have hval : ∀ (j : Nat) t v, Tryd.f4.params[j]? = some t → args[j]? = some v → Value.okWide Tryd.prog W .any base t v := hval0
  have hW' := hW
  obtain ⟨p, q, hA0, hV, hpq, hfz, hnd⟩ := hW
  have hA : DataW.TrodAll enc Tryd.prog W 0 (fun _ => true) true Tryd.f4.params.toList args.toList ds p := hA0
  have hlt : ∀ x ∈ p, x.block < W.heap.size := fun x hx => hW'.lt x (by rw [hpq]; exact List.mem_append_left _ hx)
  rw [Tryd.params4] at hA hval
  obtain ⟨v0, vs0, d0, ds0, p0, q0, hargs, rfl, hp0, h0, r0⟩ := trodAll_cons hA
  obtain ⟨v1, vs1, d1, ds1, p1, q1, rfl, rfl, hp1, h1, r1⟩ := trodAll_cons r0
  obtain ⟨v2, vs2, d2, ds2, p2, q2, rfl, rfl, hp2, h2, r2⟩ := trodAll_cons r1
  obtain ⟨rfl, rfl, hpn⟩ := trodAll_nil r2
  obtain rfl : args = #[v0, v1, v2] := by cases args; simp_all
  obtain ⟨rfl, rfl⟩ := trodVars_none hV
  obtain ⟨a0, rfl, rfl, -, w0⟩ := open_int Tryd.underlying25 (hval 0 25 v0 rfl rfl) h0
  obtain ⟨a1, rfl, rfl, -, w1⟩ := open_int Tryd.underlying25 (hval 1 25 v1 rfl rfl) h1
  obtain ⟨a2, rfl, rfl, -, w2⟩ := open_int Tryd.underlying25 (hval 2 25 v2 rfl rfl) h2
  refine (realOrder_walk a0 w0 a1 w1 a2 w2 W (tab_of_laid (laid := Rows.realOrderRow.laid) rfl hL)).mono fun e W' ⟨he, hg⟩ => ?_
  subst he
  exact ⟨_, rfl, law_post (T := 4) laidOut (by kernel_rfl) Tryd.underlying4 rfl rfl hW' rfl rfl rfl hg⟩
theorem over : Rows.realOrderRow.holds Tryd.pinned (OpenSpec.ofChange Rows.realOrderSpec) :=
  OpenClaim.holds_of_wide 4 Tryd.f4 rfl rfl rfl rfl rfl rfl rfl ⟨rfl, rfl, rfl, rfl, rfl⟩ rfl rfl rfl rfl rfl (by kernel_rfl) Tryd.func4 (by kernel_rfl)
    (of_decide_eq_true (by kernel_rfl)) (by unfold Func.isWrapper; rw [if_neg (of_decide_eq_false (by kernel_rfl))]; exact ⟨rfl, rfl⟩)
    (fun os started H enc _ => lifted os started H enc)
/-- the statement -/
theorem proved : Rows.RealOrderCardSaid :=
  Claim7.holds_tied_plain_at .later [] [.data, .data, .data] true (true, "7e8a5e3ef04c6f126ea9b2dcb9de6630f871d33b2f365b3a025e1e7c8e672a72") false over (fun _ h => by cases h) (by kernel_rfl) (fun _ h => by cases h) realOrder_row_tie rfl ⟨rfl, rfl⟩ (by kernel_rfl) rfl
    (fun f fn hf hfn => by
      obtain rfl : f = 4 := Option.some.inj ((show Tryd.prog.funcNamed "assize/assizelaw03.RealOrder" = some 4 by kernel_rfl).symm.trans hf) |>.symm
      obtain rfl : fn = Tryd.f4 := (Option.some.inj (Tryd.func4.symm.trans hfn)).symm
      exact ⟨by kernel_rfl, fun j t ht => by
        rw [Tryd.params4] at ht
        have hm : t ∈ [25, 25, 25] := by simpa using Array.mem_of_getElem? ht
        have hall : ([25, 25, 25].all fun u => !Tryd.prog.wantsStandIn u) = true := by kernel_rfl
        exact (show Tryd.prog.wantsStandIn t = false by simpa using List.all_eq_true.1 hall t hm)⟩)
    (by kernel_rfl)
#print axioms proved
end realOrder
end Go.Proofs.YtoonkajdmhmdpaaDoor
