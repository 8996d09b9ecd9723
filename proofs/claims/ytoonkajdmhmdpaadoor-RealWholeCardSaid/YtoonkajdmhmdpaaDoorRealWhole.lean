/- The law RealWhole: whole numbers of at most 2^53 in size are reals and back, their sums and differences are exact while they stay so, and products of such of at most 2^26; every input. -/
import Derived.Test.YtoonkajdmhmdpaaDoorRealK
import Derived.Test.YtoonkajdmhmdpaaDoorAwR
import Derived.Test.YtoonkajdmhmdpaaDoorDoor
namespace Go.Proofs.YtoonkajdmhmdpaaDoor
open Go.RowKit Go.As
set_option linter.unusedVariables false

/-- the plain part -/
theorem whole_all {M N : Int} (hM : M.natAbs < 4503599627370496) (hN : N.natAbs < 4503599627370496) :
    ∃ A B S D : Nat, toN (floatOfInt .f64 M) = A ∧ toN (floatOfInt .f64 N) = B ∧ arN .add A B = S ∧ arN .sub A B = D ∧ tiN A = (M, true) ∧ tiN S = (M + N, true) ∧ tiN D = (M - N, true) ∧
      (FloatKind.f64.format.order A B == some .lt) = decide (M < N) ∧ (FloatKind.f64.format.order A B == some .eq) = (M == N) := by
  have hA := isI_int (N := M) (by omega)
  have hB := isI_int (N := N) (by omega)
  have hS := isI_add hA hB (by omega)
  have hlt : ∀ n : Int, floatOfInt .f64 n < 18446744073709551616 := fun n => by
    have := floatOfInt_wf .f64 n
    have h2 : floatOfInt .f64 n < 2 ^ 64 := by simpa [Lit.wf] using this
    exact h2
  have hD := isI_sub hA hB (hlt N) (by omega)
  refine ⟨_, _, _, _, toN_of hA.nan, toN_of hB.nan, rfl, rfl, isI_ti hA (by omega), isI_ti hS (by omega), isI_ti hD (by omega), ?_, ?_⟩
  · rw [show FloatKind.f64.format.order _ _ = _ from isI_order hA hB]
    rcases Int.lt_trichotomy M N with h | h | h
    · rw [Int.compare_eq_lt.2 h, decide_eq_true h]; rfl
    · rw [Int.compare_eq_eq.2 h, decide_eq_false (by omega)]; rfl
    · rw [Int.compare_eq_gt.2 h, decide_eq_false (by omega)]; rfl
  · rw [show FloatKind.f64.format.order _ _ = _ from isI_order hA hB]
    rcases Int.lt_trichotomy M N with h | h | h
    · rw [Int.compare_eq_lt.2 h, show (M == N) = false from beq_false_of_ne (by omega)]; rfl
    · rw [Int.compare_eq_eq.2 h, h, show (N == N) = true from beq_self_eq_true N]; rfl
    · rw [Int.compare_eq_gt.2 h, show (M == N) = false from beq_false_of_ne (by omega)]; rfl
theorem whole_mul {M N : Int} (hM : M.natAbs < 67108864) (hN : N.natAbs < 67108864) :
    (M * N).natAbs < 4503599627370496 ∧ ∃ A B R : Nat, toN (floatOfInt .f64 M) = A ∧ toN (floatOfInt .f64 N) = B ∧ arN .mul A B = R ∧ tiN R = (M * N, true) := by
  have hmn : (M * N).natAbs < 4503599627370496 := by
    rw [Int.natAbs_mul]
    have : M.natAbs * N.natAbs ≤ 67108863 * 67108863 := Nat.mul_le_mul (by omega) (by omega)
    omega
  have hA := isI_int (N := M) (by omega)
  have hB := isI_int (N := N) (by omega)
  have hR := isI_mul hA hB (by omega)
  exact ⟨hmn, _, _, _, toN_of hA.nan, toN_of hB.nan, rfl, isI_ti hR (by omega)⟩
theorem tmod_small (m : Int) {k : Nat} (hk : 0 < k) : (m.tmod (k : Int)).natAbs < k := by
  rw [Int.natAbs_tmod]
  exact Nat.mod_lt _ (by omega)

set_option maxRecDepth 100000 in
set_option maxHeartbeats 3200000 in
theorem realWhole_walk (m : Int) (wm : (Lit.int .i64 m).wf = true) (n : Int) (wn : (Lit.int .i64 n).wf = true) (w : World) (ht : Tab w) :
    Calls Tryd.prog 6 #[.int .i64 m, .int .i64 n] w fun e w' => e = .returned (.bool true) ∧ Below w.heap.size w w' := by
  obtain ⟨M, hM⟩ : ∃ M, m.tmod 4503599627370496 = M := ⟨_, rfl⟩
  obtain ⟨N, hN⟩ : ∃ N, n.tmod 4503599627370496 = N := ⟨_, rfl⟩
  have bM : M.natAbs < 4503599627370496 := by rw [← hM]; exact tmod_small m (k := 4503599627370496) (by omega)
  have bN : N.natAbs < 4503599627370496 := by rw [← hN]; exact tmod_small n (k := 4503599627370496) (by omega)
  obtain ⟨U, hU⟩ : ∃ U, M.tmod 67108864 = U := ⟨_, rfl⟩
  obtain ⟨V, hV⟩ : ∃ V, N.tmod 67108864 = V := ⟨_, rfl⟩
  have bU : U.natAbs < 67108864 := by rw [← hU]; exact tmod_small M (k := 67108864) (by omega)
  have bV : V.natAbs < 67108864 := by rw [← hV]; exact tmod_small N (k := 67108864) (by omega)
  obtain ⟨A, B, S, D, eA, eB, eS, eD, tA, tS, tD, eL, eQ⟩ := whole_all bM bN
  obtain ⟨hUV, E, F, R, eE, eF, eR, tR⟩ := whole_mul bU bV
  obtain ⟨x, hx⟩ : ∃ x, decide (M < N) = x := ⟨_, rfl⟩
  obtain ⟨y, hy⟩ : ∃ y, (M == N) = y := ⟨_, rfl⟩
  rw [hx] at eL
  rw [hy] at eQ
  have c1 := fun W => kfromint W eA
  have c2 := fun W => kfromint W eB
  have c3 := fun W => kfromint W eE
  have c4 := fun W => kfromint W eF
  have t1 := fun W => ktoint W tA
  have t2 := fun W => ktoint W tS
  have t3 := fun W => ktoint W tD
  have t4 := fun W => ktoint W tR
  have a1 := fun W => kadd W eS
  have s1 := fun W => ksub W eD
  have m1 := fun W => kmul W eR
  have l1 := fun W => kless W eL
  have q1 := fun W => kequal W eQ
  have w1 : IntKind.i64.wrap (M + N) = M + N := wrap_in (by omega) (by omega)
  have w2 : IntKind.i64.wrap (M - N) = M - N := wrap_in (by omega) (by omega)
  have w3 : IntKind.i64.wrap (U * V) = U * V := wrap_in (by omega) (by omega)
  clear eA eB eE eF tA tS tD tR eS eD eR eL eQ bM bN bU bV hUV
  go_enter Tryd.func6, Tryd.ntmps6
  go_wp2_with (first
    | (go_at_call 10; refine (awake03 w ht).mono ?_; rintro e w1 ⟨rfl, hb⟩; have HB := Lib.hid hb; clear hb)
    | (go_at_call 17; (with_reducible refine (a1 _).mono ?_); rintro e w' ⟨rfl, q, rfl⟩)
    | (go_at_call 19; (with_reducible refine (s1 _).mono ?_); rintro e w' ⟨rfl, q, rfl⟩)
    | (go_at_call 18; (with_reducible refine (m1 _).mono ?_); rintro e w' ⟨rfl, q, rfl⟩)
    | (go_at_call 12; first | (with_reducible refine (c1 _).mono ?_) | (with_reducible refine (c2 _).mono ?_) | (with_reducible refine (c3 _).mono ?_) | (with_reducible refine (c4 _).mono ?_)
       rintro e w' ⟨rfl, rfl⟩)
    | (go_at_call 11; first | (with_reducible refine (t1 _).mono ?_) | (with_reducible refine (t2 _).mono ?_) | (with_reducible refine (t3 _).mono ?_) | (with_reducible refine (t4 _).mono ?_)
       rintro e w' ⟨rfl, rfl⟩)
    | (go_at_call 14; (with_reducible refine (l1 _).mono ?_); rintro e w' ⟨rfl, rfl⟩)
    | (go_at_call 15; (with_reducible refine (q1 _).mono ?_); rintro e w' ⟨rfl, rfl⟩))
  go_ret
  exact ⟨rfl, by repeat (first | exact HB.out | refine below_drewN ?_ _)⟩

namespace realWhole
set_option linter.unusedVariables false
open Go.ChangeShapes Go.WideShapes Go.ChangeAt Go.RowKit Go.As
theorem own : ownKnob Tryd.prog.godebug = none := by kernel_rfl
theorem laidOut : laidOutB Tryd.prog = true := by kernel_rfl
theorem door_met (os : Os) (args : Array Value) : laidMetH Tryd.prog Rows.realWholeRow.laid ((World.doorLaid Tryd.prog 24 os).forCall (fun _ _ => 0) ⟨#[], args, []⟩).memory :=
  laidMetH_of_parts3 (fuel := 8) (laidMet_of_run' 8 (by kernel_rfl) (by kernel_rfl)) (by kernel_rfl) (by kernel_rfl)
set_option maxRecDepth 100000 in
theorem lifted (os : Os) (started : os.Started) (H : Type) (enc : TypeId × Value → H) :
    ReturnsInHanded {} Tryd.checked os 6 .any (fun w args => (Rows.realWholeSpec.pre enc Tryd.prog Tryd.f6 [] false w args ∧ laidMetH Tryd.prog Rows.realWholeRow.laid w) ∧ sizedMet enc Tryd.prog Tryd.f6 (OpenSpec.ofChange Rows.realWholeSpec) false w args) (Rows.realWholeSpec.post enc Tryd.prog Tryd.f6 false true false false) := by
  refine returnsInHanded_of_change_and (C := Tryd.checked) (X := fun w _ => laidMetH Tryd.prog Rows.realWholeRow.laid w) (fun _ _ _ hh h => h.of_heap hh) own started (by kernel_rfl) Tryd.func6
    (ChangeSpec.witness_shaped (enc := enc) (C := Tryd.checked) (os := os) (X := fun w _ => laidMetH Tryd.prog Rows.realWholeRow.laid w) false (World.doorLaid Tryd.prog 24 os) #[.int .i64 0, .int .i64 0] 8 rfl (World.shaped_of_RefB (by kernel_rfl) (by kernel_rfl)) (by kernel_rfl) (by kernel_rfl) (by kernel_rfl) (door_met os _)) ?_
  intro W base args ds gs before hval0 hW hcnd _ hL _
  have hval : ∀ (j : Nat) t v, Tryd.f6.params[j]? = some t → args[j]? = some v → Value.okWide Tryd.prog W .any base t v := hval0
  have hW' := hW
  obtain ⟨p, q, hA0, hV, hpq, hfz, hnd⟩ := hW
  have hA : DataW.TrodAll enc Tryd.prog W 0 (fun _ => true) true Tryd.f6.params.toList args.toList ds p := hA0
  have hlt : ∀ x ∈ p, x.block < W.heap.size := fun x hx => hW'.lt x (by rw [hpq]; exact List.mem_append_left _ hx)
  rw [Tryd.params6] at hA hval
  obtain ⟨v0, vs0, d0, ds0, p0, q0, hargs, rfl, hp0, h0, r0⟩ := trodAll_cons hA
  obtain ⟨v1, vs1, d1, ds1, p1, q1, rfl, rfl, hp1, h1, r1⟩ := trodAll_cons r0
  obtain ⟨rfl, rfl, hpn⟩ := trodAll_nil r1
  obtain rfl : args = #[v0, v1] := by cases args; simp_all
  obtain ⟨rfl, rfl⟩ := trodVars_none hV
  obtain ⟨a0, rfl, rfl, -, w0⟩ := open_int Tryd.underlying2 (hval 0 2 v0 rfl rfl) h0
  obtain ⟨a1, rfl, rfl, -, w1⟩ := open_int Tryd.underlying2 (hval 1 2 v1 rfl rfl) h1
  refine (realWhole_walk a0 w0 a1 w1 W (tab_of_laid (laid := Rows.realWholeRow.laid) rfl hL)).mono fun e W' ⟨he, hg⟩ => ?_
  subst he
  exact ⟨_, rfl, law_post (T := 4) laidOut (by kernel_rfl) Tryd.underlying4 rfl rfl hW' rfl rfl rfl hg⟩
theorem over : Rows.realWholeRow.holds Tryd.pinned (OpenSpec.ofChange Rows.realWholeSpec) :=
  OpenClaim.holds_of_wide 6 Tryd.f6 rfl rfl rfl rfl rfl rfl rfl ⟨rfl, rfl, rfl, rfl, rfl⟩ rfl rfl rfl rfl rfl (by kernel_rfl) Tryd.func6 (by kernel_rfl)
    (of_decide_eq_true (by kernel_rfl)) (by unfold Func.isWrapper; rw [if_neg (of_decide_eq_false (by kernel_rfl))]; exact ⟨rfl, rfl⟩)
    (fun os started H enc _ => lifted os started H enc)
/-- the statement -/
theorem proved : Rows.RealWholeCardSaid :=
  Claim7.holds_tied_plain_at .later [] [.data, .data, .data] true (true, "7e8a5e3ef04c6f126ea9b2dcb9de6630f871d33b2f365b3a025e1e7c8e672a72") false over (fun _ h => by cases h) (by kernel_rfl) (fun _ h => by cases h) realWhole_row_tie rfl ⟨rfl, rfl⟩ (by kernel_rfl) rfl
    (fun f fn hf hfn => by
      obtain rfl : f = 6 := Option.some.inj ((show Tryd.prog.funcNamed "assize/assizelaw03.RealWhole" = some 6 by kernel_rfl).symm.trans hf) |>.symm
      obtain rfl : fn = Tryd.f6 := (Option.some.inj (Tryd.func6.symm.trans hfn)).symm
      exact ⟨by kernel_rfl, fun j t ht => by
        rw [Tryd.params6] at ht
        have hm : t ∈ [2, 2] := by simpa using Array.mem_of_getElem? ht
        have hall : ([2, 2].all fun u => !Tryd.prog.wantsStandIn u) = true := by kernel_rfl
        exact (show Tryd.prog.wantsStandIn t = false by simpa using List.all_eq_true.1 hall t hm)⟩)
    (by kernel_rfl)
#print axioms proved
end realWhole
end Go.Proofs.YtoonkajdmhmdpaaDoor
