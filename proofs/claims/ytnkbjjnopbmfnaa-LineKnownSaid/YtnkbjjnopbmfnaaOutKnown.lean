/- The law OutKnown: the chapter's examples are answered as it says; a closed statement. -/
import Derived.Test.YtnkbjjnopbmfnaaOutS
import Derived.Test.YtnkbjjnopbmfnaaShelf2
import Derived.Test.YtnkbjjnopbmfnaaFrame
import Derived.Test.YtnkbjjnopbmfnaaRows
namespace Go.Proofs.Ytnkbjjnopbmfnaa
open Go.RowKit Go.As
set_option linter.unusedVariables false

theorem repeatL_one (c : UInt8) (n : Nat) : Lib.repeatL [c] n = List.replicate n c := by
  induction n with
  | zero => rfl
  | succ n ih => rw [Lib.repeatL, ih]; rfl
theorem repeat_any (l : List UInt8) (n : Nat) (w : World) (h : l.length * n ≤ 140737488355328) (hn : n ≤ 9223372036854775807) :
    Calls Try.prog 37 #[.string (str l), .int .i64 n] w fun e w' => e = .returned (.string (str (Lib.repeatL l n))) ∧ Below w.heap.size w w' := by
  refine (Try.strings_Repeat (str l) n w hn (by rw [str_size]; exact h)).mono ?_
  rintro e w' ⟨rfl, hb⟩
  refine ⟨?_, hb⟩
  rw [str_data]
  rfl

theorem drain_neg {w0 w : World} {b lim : Nat} {l : List UInt8} {t : Nat} {o : Bool} (n : Int) (h : OS w0 w b lim l t o) (hn : n < 0) :
    Calls Try.prog 16 #[.pointer (some ⟨b, 0, none⟩), .int .i64 n] w fun e w' => e = .returned (.tuple #[.slice none 0 0, .int .i64 2]) ∧ w = w' := by
  obtain ⟨v, pre, rm, h1, h2, h3, h4, h5, h6, h7⟩ := h
  exact odrain_bad w b lim t v pre l rm o n h1 h6 hn

theorem put_over {w0 w : World} {b lim : Nat} {l : List UInt8} {t : Nat} (line : List UInt8) (h : OS w0 w b lim l t true) :
    Calls Try.prog 14 #[.pointer (some ⟨b, 0, none⟩), .string (str line)] w fun e w' => e = .returned (.int .i64 10) ∧ w = w' := by
  obtain ⟨v, pre, rm, h1, h2, h3, h4, h5, h6, h7⟩ := h
  have HN := Lib.hid (onone_ok w b lim t v pre l rm true h1 h6)
  have c4 := h1.1.cell 4
  simp only [List.getElem?_toArray, List.getElem?_cons_succ, List.getElem?_cons_zero] at c4
  clear h1 h2 h3
  go_enter Try.func14, Try.ntmps14
  go_wp2_with (go_at_call 38; refine HN.out.mono ?_; rintro e w' ⟨rfl, rfl⟩)
  go_ret
  exact ⟨rfl, rfl⟩

def xs63 : List UInt8 := List.replicate 63 120

set_option maxRecDepth 100000 in
set_option maxHeartbeats 3200000 in
theorem outKnown_walk (w : World) : Calls Try.prog 10 #[] w fun e w' => e = .returned (.bool true) ∧ Below w.heap.size w w' := by
  have kc := fun (w : World) (C : Array Value) (n c : Nat) => Lib.run_convert_bytes_const (P := Try.prog) w 33 5 C n c Try.underlying33 Try.underlying5
  go_enter Try.func10, Try.ntmps10
  go_wp2_with fail
  refine (newS (w0 := w) 64 (Below.refl _ _) (by omega) (by omega)).mono ?_
  rintro e w1 ⟨rfl, h1, -⟩
  have H1 := Lib.hid h1
  clear h1
  go_wp2_with fail
  refine (putS [97, 98] H1.out (by omega) (by simp) (show _ = (0, [97, 98, 10], false) by decide)).mono ?_
  rintro e w2 ⟨rfl, h2⟩
  have H2 := Lib.hid h2
  clear h2
  go_wp2_with fail
  refine (putS [] H2.out (by omega) (by simp) (show _ = (0, [97, 98, 10, 10], false) by decide)).mono ?_
  rintro e w3 ⟨rfl, h3⟩
  have H3 := Lib.hid h3
  clear h3
  go_wp2_with fail
  refine (drainS 2 H3.out (by omega) (by omega) (show _ = [97, 98] by decide) (show _ = [10, 10] by decide) (show _ = 2 by decide)).mono ?_
  rintro e w5 ⟨x, xrm, rfl, hx, h5, -⟩
  obtain ⟨xa, xn, xc, rfl, hxn, -, -⟩ := hx.form2
  have H5 := Lib.hid (And.intro hx (And.intro hxn h5))
  clear hx hxn h5
  go_wp2_with fail
  refine (drainS 9 H5.out.2.2 (by omega) (by omega) (show _ = [10, 10] by decide) (show _ = [] by decide) (show _ = 4 by decide)).mono ?_
  rintro e w6 ⟨y, yrm, rfl, hy, h6, hO6⟩
  obtain ⟨ya, yn, yc, rfl, hyn, -, -⟩ := hy.form2
  have H6 := Lib.hid (And.intro (H5.out.2.2.keep hO6 H5.out.1) (And.intro hy (And.intro hyn (And.intro H5.out.2.1 h6))))
  clear hy hyn h6 hO6
  go_wp2_with fail
  refine (sameBytes_any xa _ xn 2 xc 2 [97, 98] [97, 98] _ (by rw [H6.out.2.2.2.1]; exact H6.out.1.sl.below ((Below.refl _ _).alloc (Nat.le_refl _) _)) (byt_newM [97, 98] 5 (2, 3))).mono ?_
  rintro e w' ⟨rfl, rfl⟩
  have hb6 : Below w6.heap.size w6 (w6.alloc (.cells (byt [97, 98]).toArray 5 (2, 3))) := (Below.refl _ _).alloc (Nat.le_refl _) _
  have H7 := Lib.hid (And.intro (H6.out.2.1.below hb6) (And.intro H6.out.2.2.1 (H6.out.2.2.2.2.below hb6)))
  generalize w6.alloc (.cells (byt [97, 98]).toArray 5 (2, 3)) = w7 at *
  clear hb6 H6 H5
  go_wp2_with fail
  refine (sameBytes_any ya _ yn 2 yc 2 [10, 10] [10, 10] _ (by rw [H7.out.2.1]; exact H7.out.1.sl.below ((Below.refl _ _).alloc (Nat.le_refl _) _)) (byt_new [10, 10] 5)).mono ?_
  rintro e w' ⟨rfl, rfl⟩
  have H8 := Lib.hid (H7.out.2.2.below (w' := w7.alloc (.cells (byt [10, 10]).toArray 5)) ((Below.refl _ _).alloc (Nat.le_refl _) _))
  clear H7
  generalize w7.alloc (.cells (byt [10, 10]).toArray 5) = w8 at *
  go_wp2_with fail
  refine (totalS H8.out).mono ?_
  rintro e w' ⟨rfl, rfl⟩
  go_wp2_with fail
  refine (repeat_any [120] 63 _ (by decide) (by omega)).mono ?_
  rintro e w9 ⟨rfl, hb9⟩
  rw [show Lib.repeatL [120] 63 = xs63 from repeatL_one 120 63]
  have H9 := Lib.hid (H8.out.below hb9)
  clear hb9 H8
  go_wp2_with fail
  refine (putS xs63 H9.out (by omega) (by decide) (show _ = (0, xs63 ++ [10], false) by decide)).mono ?_
  rintro e w10 ⟨rfl, h10⟩
  have H10 := Lib.hid h10
  clear h10 H9
  go_wp2_with fail
  refine (putS [] H10.out (by omega) (by decide) (show _ = (8, xs63 ++ [10], true) by decide)).mono ?_
  rintro e w11 ⟨rfl, h11⟩
  have H11 := Lib.hid h11
  clear h11 H10
  go_wp2_with fail
  refine (overS H11.out).mono ?_
  rintro e w' ⟨rfl, rfl⟩
  go_wp2_with fail
  refine (drainS 3 H11.out (by omega) (by omega) (show _ = [120, 120, 120] by decide) (show _ = (xs63 ++ [10]).drop 3 by decide) (show _ = 7 by decide)).mono ?_
  rintro e w12 ⟨z, zrm, rfl, hz, h12, -⟩
  obtain ⟨za, zn, zc, rfl, hzn, -, -⟩ := hz.form2
  have H12 := Lib.hid (And.intro hz (And.intro hzn h12))
  clear hz hzn h12 H11
  go_wp2_with fail
  refine (drain_neg (-1) H12.out.2.2 (by omega)).mono ?_
  rintro e w' ⟨rfl, rfl⟩
  go_wp2_with fail
  refine (newS (w0 := w) 64 H12.out.2.2.bel (by omega) (by omega)).mono ?_
  rintro e w13 ⟨rfl, h13, hb13⟩
  have H13 := Lib.hid (And.intro (H12.out.1.below hb13) (And.intro H12.out.2.1 (And.intro (H12.out.2.2.below hb13) h13)))
  clear h13 hb13 H12
  go_wp2_with fail
  refine (onew_bad 63 _ (by omega)).mono ?_
  rintro e w' ⟨rfl, rfl⟩
  go_wp2_with fail
  refine (oawake_ok _).mono ?_
  rintro e w14 ⟨rfl, hb14⟩
  have H14 := Lib.hid (And.intro (H13.out.1.below hb14) (And.intro H13.out.2.1 (And.intro (H13.out.2.2.1.below hb14) (H13.out.2.2.2.below hb14))))
  clear hb14 H13
  go_wp2_with fail
  refine (sameBytes_any za _ zn 3 zc 3 [120, 120, 120] [120, 120, 120] _ (by rw [H14.out.2.1]; exact H14.out.1.sl.below ((Below.refl _ _).alloc (Nat.le_refl _) _)) (byt_newM [120, 120, 120] 5 (3, 4))).mono ?_
  rintro e w' ⟨rfl, rfl⟩
  have hb15 : Below w14.heap.size w14 (w14.alloc (.cells (byt [120, 120, 120]).toArray 5 (3, 4))) := (Below.refl _ _).alloc (Nat.le_refl _) _
  have H15 := Lib.hid (And.intro (H14.out.2.2.1.below hb15) (H14.out.2.2.2.below hb15))
  generalize w14.alloc (.cells (byt [120, 120, 120]).toArray 5 (3, 4)) = w15 at *
  clear hb15 H14
  go_wp2_with fail
  refine (put_over [97] H15.out.1).mono ?_
  rintro e w' ⟨rfl, rfl⟩
  go_wp2_with fail
  refine (putS [10] H15.out.2 (by omega) (by decide) (show _ = (4, [], false) by decide)).mono ?_
  rintro e w16 ⟨rfl, h16⟩
  have H16 := Lib.hid h16.bel
  clear h16 H15
  go_wp2_with fail
  go_ret
  exact ⟨rfl, H16.out⟩

namespace outKnown
set_option linter.unusedVariables false
open Go.ChangeShapes Go.WideShapes Go.ChangeAt Go.RowKit Go.As
theorem own : ownKnob Try.prog.godebug = none := by kernel_rfl
theorem laidOut : laidOutB Try.prog = true := by kernel_rfl
set_option maxRecDepth 100000 in
theorem lifted (os : Os) (started : os.Started) (H : Type) (enc : TypeId × Value → H) :
    ReturnsInHanded {} Try.checked os 10 .any (Rows.outKnownSpec.pre6 enc Try.prog Try.f10 Rows.outKnownRow.domain false) (Rows.outKnownSpec.post enc Try.prog Try.f10 false true false false) := by
  refine returnsInHanded_of_change (C := Try.checked) own started (by kernel_rfl) Try.func10
    (ChangeSpec.witness6 (enc := enc) (C := Try.checked) false ⟨#[], #[], []⟩ 8 (by kernel_rfl) (by kernel_rfl) (by kernel_rfl) (by kernel_rfl)) ?_
  intro W base args ds gs before hval0 hW hcnd _
  have hval : ∀ (j : Nat) t v, Try.f10.params[j]? = some t → args[j]? = some v → Value.okWide Try.prog W .any base t v := hval0
  have hW' := hW
  obtain ⟨p, q, hA0, hV, hpq, hfz, hnd⟩ := hW
  have hA : DataW.TrodAll enc Try.prog W 0 (fun _ => true) true Try.f10.params.toList args.toList ds p := hA0
  have hlt : ∀ x ∈ p, x.block < W.heap.size := fun x hx => hW'.lt x (by rw [hpq]; exact List.mem_append_left _ hx)
  rw [Try.params10] at hA hval
  obtain ⟨hargs, rfl, hpn⟩ := trodAll_nil hA
  obtain rfl : args = #[] := by cases args; simp_all
  obtain ⟨rfl, rfl⟩ := trodVars_none hV
  refine (outKnown_walk  W).mono fun e W' ⟨he, hg⟩ => ?_
  subst he
  exact ⟨_, rfl, law_post (T := 4) laidOut (by kernel_rfl) Try.underlying4 rfl rfl hW' rfl rfl rfl hg⟩
theorem over : Rows.outKnownRow.holds Try.pinned (OpenSpec.ofChange Rows.outKnownSpec) :=
  OpenClaim.holds_of_wide 10 Try.f10 rfl rfl rfl rfl rfl rfl rfl ⟨rfl, rfl, rfl, rfl, rfl⟩ rfl rfl rfl rfl rfl (by kernel_rfl) Try.func10 (by kernel_rfl)
    (of_decide_eq_true (by kernel_rfl)) (by unfold Func.isWrapper; rw [if_neg (of_decide_eq_false (by kernel_rfl))]; exact ⟨rfl, rfl⟩)
    (fun os started H enc _ => lifted os started H enc)
/-- the statement -/
theorem proved : Rows.OutKnownSaid := over
#print axioms proved
end outKnown
end Go.Proofs.Ytnkbjjnopbmfnaa
