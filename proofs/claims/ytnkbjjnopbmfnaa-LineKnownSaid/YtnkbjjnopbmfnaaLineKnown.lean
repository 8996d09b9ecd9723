/- The law LineKnown: the chapter's examples are answered as it says; a closed statement. -/
import Derived.Test.YtnkbjjnopbmfnaaLineS
import Derived.Test.YtnkbjjnopbmfnaaOutKnown
import Derived.Test.YtnkbjjnopbmfnaaStrB
namespace Go.Proofs.Ytnkbjjnopbmfnaa
open Go.RowKit Go.As
set_option linter.unusedVariables false

def xs16 : List UInt8 := List.replicate 16 120
def xs17 : List UInt8 := List.replicate 17 120
/-- the rows told so far -/
def KRow (w : World) (u : Value) (us : List Ln) : Prop := ∃ W, LnRow w W u us
theorem KRow.below {w w' : World} {u : Value} {us : List Ln} (h : KRow w u us) (hb : Below w.heap.size w w') : KRow w' u us := by
  obtain ⟨W, h⟩ := h; exact ⟨W, h.below hb⟩
theorem KRow.sl {w : World} {a : Option Addr} {n c : Nat} {us : List Ln} (h : KRow w (.slice a n c) us) : Sl w 2 a us.length (us.flatMap lnC) := by
  obtain ⟨W, h⟩ := h; exact h.sl
/-- Feed, the rows told so far kept -/
theorem feedK {w0 w : World} {top b lim : Nat} {cur : List UInt8} {over : Bool} (A : Option Addr) (n c : Nat) (l : List UInt8) (h : LS w0 w top b lim cur over) (ha : Sl w 1 A n (byt l)) (hnc : n ≤ c) (hA : A = none → c = 0) (hn : n ≤ 1099511627776)
    (hap : ∀ ad, A = some ad → 0 < n → ad.block < w0.heap.size ∨ top ≤ ad.block) (ls : List Ln) (cur' : List UInt8) (over' : Bool) (he : feedB lim (cur, over) l = (ls, (cur', over'))) :
    Calls Try.prog 27 #[.pointer (some ⟨b, 0, none⟩), .slice A n c] w fun e w' =>
      (∃ a k, e = .returned (.tuple #[.slice a ls.length k, .int .i64 0]) ∧ KRow w' (.slice a ls.length k) ls) ∧ LS w0 w' w'.heap.size b lim cur' over' ∧ (∀ u us, KRow w u us → KRow w' u us) := by
  refine (feedS A n c l h ha hnc hA hn hap he).mono ?_
  rintro e w' ⟨o, rfl, h1, h2, h3, -⟩
  obtain ⟨a, k, rfl⟩ := h1.form
  exact ⟨⟨a, k, rfl, _, h1⟩, h2, fun u us ⟨W, hu⟩ => ⟨W, h3 W u us hu⟩⟩

set_option maxRecDepth 100000 in
set_option maxHeartbeats 6400000 in
theorem lineKnown_walk (w : World) : Calls Try.prog 11 #[] w fun e w' => e = .returned (.bool true) ∧ Below w.heap.size w w' := by
  have kc := fun (w : World) (C : Array Value) (n c : Nat) => Lib.run_convert_bytes_const (P := Try.prog) w 33 5 C n c Try.underlying33 Try.underlying5
  have kb := fun (w : World) (l : List UInt8) => Lib.run_convert_string_bytes (P := Try.prog) w 9 33 5 (str l) Try.underlying9 Try.underlying33 Try.underlying5
  go_enter Try.func11, Try.ntmps11
  go_wp2_with fail
  refine (newLS (w0 := w) 16 (Below.refl _ _) (by omega) (by omega)).mono ?_
  rintro e w1 ⟨rfl, h1, -⟩
  have H1 := Lib.hid h1
  have R1 := Lib.hid trivial
  clear h1
  go_wp2_with fail
  refine (feedK _ 1 1 [100] (H1.out.below ((Below.refl _ _).alloc (Nat.le_refl _) (.cells (byt [100]).toArray 5 (1, 2)))) (byt_newM [100] 5 (1, 2)) (by omega) (by simp) (by omega) (fun ad e _ => by injection e with e; subst e; exact .inr H1.out.top_le) [] [100] false (by decide)).mono ?_
  rintro e w2 ⟨⟨a2, c2, rfl, r2⟩, h2, k2⟩
  have H2 := Lib.hid h2
  have R2 := Lib.hid r2
  clear h2 k2 r2 H1
  go_wp2_with fail
  refine (repeat_any [120] 16 _ (by decide) (by omega)).mono ?_
  rintro e x3 ⟨rfl, hb3⟩
  rw [show Lib.repeatL [120] 16 = xs16 from repeatL_one 120 16]
  have H2 := Lib.hid (H2.out.below hb3)
  have R2 := Lib.hid (R2.out.below hb3)
  clear hb3
  go_wp2_with fail
  refine (feedK _ (xs16.length + 1) _ (xs16 ++ [10]) (H2.out.below (bw_below _ 5 (xs16 ++ [10]))) (bw_slN _ 5 (xs16 ++ [10]) (xs16.length + 1) (by decide)) (by exact bw_capN _ _ _) (by simp) (by decide) (fun ad e _ => by injection e with e; subst e; exact .inr H2.out.top_le) [(1, [])] [] false (by decide)).mono ?_
  rintro e w3 ⟨⟨a3, c3, rfl, r3⟩, h3, k3⟩
  have H3 := Lib.hid h3
  have R2 := Lib.hid (k3 _ _ (R2.out.below (bw_below _ 5 (xs16 ++ [10]))))
  have R3 := Lib.hid r3
  clear h3 k3 r3 H2
  go_wp2_with fail
  refine (feedK _ 2 2 [101, 10] (H3.out.below ((Below.refl _ _).alloc (Nat.le_refl _) (.cells (byt [101, 10]).toArray 5 (2, 3)))) (byt_newM [101, 10] 5 (2, 3)) (by omega) (by simp) (by omega) (fun ad e _ => by injection e with e; subst e; exact .inr H3.out.top_le) [(0, [101])] [] false (by decide)).mono ?_
  rintro e w4 ⟨⟨a4, c4, rfl, r4⟩, h4, k4⟩
  have H4 := Lib.hid h4
  have R2 := Lib.hid (k4 _ _ (R2.out.below ((Below.refl _ _).alloc (Nat.le_refl _) (.cells (byt [101, 10]).toArray 5 (2, 3)))))
  have R3 := Lib.hid (k4 _ _ (R3.out.below ((Below.refl _ _).alloc (Nat.le_refl _) (.cells (byt [101, 10]).toArray 5 (2, 3)))))
  have R4 := Lib.hid r4
  clear h4 k4 r4 H3
  go_wp2_with fail
  refine (feedK _ 2 2 [9, 10] (H4.out.below ((Below.refl _ _).alloc (Nat.le_refl _) (.cells (byt [9, 10]).toArray 5))) (byt_new [9, 10] 5) (by omega) (by simp) (by omega) (fun ad e _ => by injection e with e; subst e; exact .inr H4.out.top_le) [(2, [])] [] false (by decide)).mono ?_
  rintro e w5 ⟨⟨a5, c5, rfl, r5⟩, h5, k5⟩
  have H5 := Lib.hid h5
  have R2 := Lib.hid (k5 _ _ (R2.out.below ((Below.refl _ _).alloc (Nat.le_refl _) (.cells (byt [9, 10]).toArray 5))))
  have R3 := Lib.hid (k5 _ _ (R3.out.below ((Below.refl _ _).alloc (Nat.le_refl _) (.cells (byt [9, 10]).toArray 5))))
  have R4 := Lib.hid (k5 _ _ (R4.out.below ((Below.refl _ _).alloc (Nat.le_refl _) (.cells (byt [9, 10]).toArray 5))))
  have R5 := Lib.hid r5
  clear h5 k5 r5 H4
  go_wp2_with fail
  refine (feedK _ 1 1 [10] (H5.out.below ((Below.refl _ _).alloc (Nat.le_refl _) (.cells (byt [10]).toArray 5))) (byt_new [10] 5) (by omega) (by simp) (by omega) (fun ad e _ => by injection e with e; subst e; exact .inr H5.out.top_le) [(0, [])] [] false (by decide)).mono ?_
  rintro e w6 ⟨⟨a6, c6, rfl, r6⟩, h6, k6⟩
  have H6 := Lib.hid h6
  have R2 := Lib.hid (k6 _ _ (R2.out.below ((Below.refl _ _).alloc (Nat.le_refl _) (.cells (byt [10]).toArray 5))))
  have R3 := Lib.hid (k6 _ _ (R3.out.below ((Below.refl _ _).alloc (Nat.le_refl _) (.cells (byt [10]).toArray 5))))
  have R4 := Lib.hid (k6 _ _ (R4.out.below ((Below.refl _ _).alloc (Nat.le_refl _) (.cells (byt [10]).toArray 5))))
  have R5 := Lib.hid (k6 _ _ (R5.out.below ((Below.refl _ _).alloc (Nat.le_refl _) (.cells (byt [10]).toArray 5))))
  have R6 := Lib.hid r6
  clear h6 k6 r6 H5
  go_wp2_with fail
  refine (lnew_bad 15 _ (by omega)).mono ?_
  rintro e w' ⟨rfl, rfl⟩
  go_wp2_with fail
  refine (repeat_any [120] 17 _ (by decide) (by omega)).mono ?_
  rintro e x7 ⟨rfl, hb7⟩
  rw [show Lib.repeatL [120] 17 = xs17 from repeatL_one 120 17]
  have H6 := Lib.hid (H6.out.below hb7)
  have R2 := Lib.hid (R2.out.below hb7)
  have R3 := Lib.hid (R3.out.below hb7)
  have R4 := Lib.hid (R4.out.below hb7)
  have R5 := Lib.hid (R5.out.below hb7)
  have R6 := Lib.hid (R6.out.below hb7)
  clear hb7
  go_wp2_with fail
  refine (feedK _ xs17.length _ xs17 (H6.out.below (bw_below _ 5 xs17)) (bw_slN _ 5 xs17 xs17.length (by decide)) (by exact bw_capN _ _ _) (by simp) (by decide) (fun ad e _ => by injection e with e; subst e; exact .inr H6.out.top_le) [(1, [])] [] true (by decide)).mono ?_
  rintro e w7 ⟨⟨a7, c7, rfl, r7⟩, h7, k7⟩
  have H7 := Lib.hid h7
  have R2 := Lib.hid (k7 _ _ (R2.out.below (bw_below _ 5 xs17)))
  have R3 := Lib.hid (k7 _ _ (R3.out.below (bw_below _ 5 xs17)))
  have R4 := Lib.hid (k7 _ _ (R4.out.below (bw_below _ 5 xs17)))
  have R5 := Lib.hid (k7 _ _ (R5.out.below (bw_below _ 5 xs17)))
  have R6 := Lib.hid (k7 _ _ (R6.out.below (bw_below _ 5 xs17)))
  have R7 := Lib.hid r7
  clear h7 k7 r7 H6
  go_wp2_with fail
  refine (pendingS H7.out).mono ?_
  rintro e w' ⟨rfl, rfl⟩
  go_wp2_with fail
  refine (feedK _ 4 4 [121, 10, 122, 10] (H7.out.below ((Below.refl _ _).alloc (Nat.le_refl _) (.cells (byt [121, 10, 122, 10]).toArray 5 (4, 5)))) (byt_newM [121, 10, 122, 10] 5 (4, 5)) (by omega) (by simp) (by omega) (fun ad e _ => by injection e with e; subst e; exact .inr H7.out.top_le) [(0, [122])] [] false (by decide)).mono ?_
  rintro e w8 ⟨⟨a8, c8, rfl, r8⟩, h8, k8⟩
  have H8 := Lib.hid h8
  have R2 := Lib.hid (k8 _ _ (R2.out.below ((Below.refl _ _).alloc (Nat.le_refl _) (.cells (byt [121, 10, 122, 10]).toArray 5 (4, 5)))))
  have R3 := Lib.hid (k8 _ _ (R3.out.below ((Below.refl _ _).alloc (Nat.le_refl _) (.cells (byt [121, 10, 122, 10]).toArray 5 (4, 5)))))
  have R4 := Lib.hid (k8 _ _ (R4.out.below ((Below.refl _ _).alloc (Nat.le_refl _) (.cells (byt [121, 10, 122, 10]).toArray 5 (4, 5)))))
  have R5 := Lib.hid (k8 _ _ (R5.out.below ((Below.refl _ _).alloc (Nat.le_refl _) (.cells (byt [121, 10, 122, 10]).toArray 5 (4, 5)))))
  have R6 := Lib.hid (k8 _ _ (R6.out.below ((Below.refl _ _).alloc (Nat.le_refl _) (.cells (byt [121, 10, 122, 10]).toArray 5 (4, 5)))))
  have R7 := Lib.hid (k8 _ _ (R7.out.below ((Below.refl _ _).alloc (Nat.le_refl _) (.cells (byt [121, 10, 122, 10]).toArray 5 (4, 5)))))
  have R8 := Lib.hid r8
  clear h8 k8 r8 H7
  go_wp2_with fail
  refine (lawake_ok _).mono ?_
  rintro e w9 ⟨rfl, hb9⟩
  have H9 := Lib.hid (below_then H8.out.bel hb9)
  have R2 := Lib.hid (R2.out.below hb9)
  have R3 := Lib.hid (R3.out.below hb9)
  have R4 := Lib.hid (R4.out.below hb9)
  have R5 := Lib.hid (R5.out.below hb9)
  have R6 := Lib.hid (R6.out.below hb9)
  have R7 := Lib.hid (R7.out.below hb9)
  have R8 := Lib.hid (R8.out.below hb9)
  clear hb9 H8
  go_wp2_with fail
  refine (lines_any a3 _ 1 1 c3 1 [(1, [])] [(1, [])] _ (by exact R3.out.sl.below ((Below.refl _ _).alloc (Nat.le_refl _) _)) (ln_new (1, [])) (by omega)).mono ?_
  rintro e w10 ⟨rfl, q10, hw10⟩
  have hb10 : Below w9.heap.size w9 w10 := by rw [hw10]; exact below_drewN ((Below.refl _ _).alloc (Nat.le_refl _) _) _
  have H10 := Lib.hid (below_then H9.out hb10)
  have R4 := Lib.hid (R4.out.below hb10)
  have R5 := Lib.hid (R5.out.below hb10)
  have R6 := Lib.hid (R6.out.below hb10)
  have R7 := Lib.hid (R7.out.below hb10)
  have R8 := Lib.hid (R8.out.below hb10)
  clear hw10 hb10 H9 R3
  go_wp2_with fail
  refine (lines_any a4 _ 1 1 c4 1 [(0, [101])] [(0, [101])] _ (by exact R4.out.sl.below ((Below.refl _ _).alloc (Nat.le_refl _) _)) (ln_new (0, [101])) (by omega)).mono ?_
  rintro e w11 ⟨rfl, q11, hw11⟩
  have hb11 : Below w10.heap.size w10 w11 := by rw [hw11]; exact below_drewN ((Below.refl _ _).alloc (Nat.le_refl _) _) _
  have H11 := Lib.hid (below_then H10.out hb11)
  have R5 := Lib.hid (R5.out.below hb11)
  have R6 := Lib.hid (R6.out.below hb11)
  have R7 := Lib.hid (R7.out.below hb11)
  have R8 := Lib.hid (R8.out.below hb11)
  clear hw11 hb11 H10 R4
  go_wp2_with fail
  refine (lines_any a5 _ 1 1 c5 1 [(2, [])] [(2, [])] _ (by exact R5.out.sl.below ((Below.refl _ _).alloc (Nat.le_refl _) _)) (ln_new (2, [])) (by omega)).mono ?_
  rintro e w12 ⟨rfl, q12, hw12⟩
  have hb12 : Below w11.heap.size w11 w12 := by rw [hw12]; exact below_drewN ((Below.refl _ _).alloc (Nat.le_refl _) _) _
  have H12 := Lib.hid (below_then H11.out hb12)
  have R6 := Lib.hid (R6.out.below hb12)
  have R7 := Lib.hid (R7.out.below hb12)
  have R8 := Lib.hid (R8.out.below hb12)
  clear hw12 hb12 H11 R5
  go_wp2_with fail
  refine (lines_any a6 _ 1 1 c6 1 [(0, [])] [(0, [])] _ (by exact R6.out.sl.below ((Below.refl _ _).alloc (Nat.le_refl _) _)) (ln_new (0, [])) (by omega)).mono ?_
  rintro e w13 ⟨rfl, q13, hw13⟩
  have hb13 : Below w12.heap.size w12 w13 := by rw [hw13]; exact below_drewN ((Below.refl _ _).alloc (Nat.le_refl _) _) _
  have H13 := Lib.hid (below_then H12.out hb13)
  have R7 := Lib.hid (R7.out.below hb13)
  have R8 := Lib.hid (R8.out.below hb13)
  clear hw13 hb13 H12 R6
  go_wp2_with fail
  refine (lines_any a7 _ 1 1 c7 1 [(1, [])] [(1, [])] _ (by exact R7.out.sl.below ((Below.refl _ _).alloc (Nat.le_refl _) _)) (ln_new (1, [])) (by omega)).mono ?_
  rintro e w14 ⟨rfl, q14, hw14⟩
  have hb14 : Below w13.heap.size w13 w14 := by rw [hw14]; exact below_drewN ((Below.refl _ _).alloc (Nat.le_refl _) _) _
  have H14 := Lib.hid (below_then H13.out hb14)
  have R8 := Lib.hid (R8.out.below hb14)
  clear hw14 hb14 H13 R7
  go_wp2_with fail
  refine (lines_any a8 _ 1 1 c8 1 [(0, [122])] [(0, [122])] _ (by exact R8.out.sl.below ((Below.refl _ _).alloc (Nat.le_refl _) _)) (ln_new (0, [122])) (by omega)).mono ?_
  rintro e w15 ⟨rfl, q15, hw15⟩
  have hb15 : Below w14.heap.size w14 w15 := by rw [hw15]; exact below_drewN ((Below.refl _ _).alloc (Nat.le_refl _) _) _
  have H15 := Lib.hid (below_then H14.out hb15)
  clear hw15 hb15 H14 R8
  go_wp2_with fail
  go_ret
  exact ⟨rfl, H15.out⟩

namespace lineKnown
set_option linter.unusedVariables false
open Go.ChangeShapes Go.WideShapes Go.ChangeAt Go.RowKit Go.As
theorem own : ownKnob Try.prog.godebug = none := by kernel_rfl
theorem laidOut : laidOutB Try.prog = true := by kernel_rfl
set_option maxRecDepth 100000 in
theorem lifted (os : Os) (started : os.Started) (H : Type) (enc : TypeId × Value → H) :
    ReturnsInHanded {} Try.checked os 11 .any (Rows.lineKnownSpec.pre6 enc Try.prog Try.f11 Rows.lineKnownRow.domain false) (Rows.lineKnownSpec.post enc Try.prog Try.f11 false true false false) := by
  refine returnsInHanded_of_change (C := Try.checked) own started (by kernel_rfl) Try.func11
    (ChangeSpec.witness6 (enc := enc) (C := Try.checked) false ⟨#[], #[], []⟩ 8 (by kernel_rfl) (by kernel_rfl) (by kernel_rfl) (by kernel_rfl)) ?_
  intro W base args ds gs before hval0 hW hcnd _
  have hval : ∀ (j : Nat) t v, Try.f11.params[j]? = some t → args[j]? = some v → Value.okWide Try.prog W .any base t v := hval0
  have hW' := hW
  obtain ⟨p, q, hA0, hV, hpq, hfz, hnd⟩ := hW
  have hA : DataW.TrodAll enc Try.prog W 0 (fun _ => true) true Try.f11.params.toList args.toList ds p := hA0
  have hlt : ∀ x ∈ p, x.block < W.heap.size := fun x hx => hW'.lt x (by rw [hpq]; exact List.mem_append_left _ hx)
  rw [Try.params11] at hA hval
  obtain ⟨hargs, rfl, hpn⟩ := trodAll_nil hA
  obtain rfl : args = #[] := by cases args; simp_all
  obtain ⟨rfl, rfl⟩ := trodVars_none hV
  refine (lineKnown_walk  W).mono fun e W' ⟨he, hg⟩ => ?_
  subst he
  exact ⟨_, rfl, law_post (T := 4) laidOut (by kernel_rfl) Try.underlying4 rfl rfl hW' rfl rfl rfl hg⟩
theorem over : Rows.lineKnownRow.holds Try.pinned (OpenSpec.ofChange Rows.lineKnownSpec) :=
  OpenClaim.holds_of_wide 11 Try.f11 rfl rfl rfl rfl rfl rfl rfl ⟨rfl, rfl, rfl, rfl, rfl⟩ rfl rfl rfl rfl rfl (by kernel_rfl) Try.func11 (by kernel_rfl)
    (of_decide_eq_true (by kernel_rfl)) (by unfold Func.isWrapper; rw [if_neg (of_decide_eq_false (by kernel_rfl))]; exact ⟨rfl, rfl⟩)
    (fun os started H enc _ => lifted os started H enc)
/-- the statement -/
theorem proved : Rows.LineKnownSaid := over
#print axioms proved
end lineKnown
end Go.Proofs.Ytnkbjjnopbmfnaa
