/- The law OctetKnown: the chapter's examples are answered as it says; a closed statement. -/
import Derived.Test.YtldkcfhigcmoaaaDoorDoor
import Derived.Test.YtldkcfhigcmoaaaDoorFldB
import Derived.Test.YtldkcfhigcmoaaaDoorNumB
import Derived.Test.YtldkcfhigcmoaaaDoorWordQ
import Derived.Test.YtldkcfhigcmoaaaDoorShelf2
import Derived.Test.YtldkcfhigcmoaaaDoorOAwake
import Derived.Test.YtldkcfhigcmoaaaDoorOctH
namespace Go.Proofs.YtldkcfhigcmoaaaDoor
open Go.RowKit Go.As
set_option linter.unusedVariables false

theorem short_ex : shortL 300 = [172, 2] := by
  rw [shortL_big (by decide), shortL_small (by decide)]; rfl
theorem fields_ex : fieldsL [[7, 8], []] = [2, 2, 7, 8, 0] := by
  unfold fieldsL
  rw [show ([[7, 8], []] : List (List UInt8)).length = 2 from rfl, shortL_small (by decide)]
  simp only [List.flatMap_cons, List.flatMap_nil, fld]
  rw [show ([7, 8] : List UInt8).length = 2 from rfl, show ([] : List UInt8).length = 0 from rfl, shortL_small (by decide), shortL_small (by decide)]; rfl
theorem repeat_a (w : World) : Calls Tryd.prog 58 #[.string (str [97, 32]), .int .i64 64] w fun e w' => e = .returned (.string (str (Lib.repeatL [97, 32] 64))) ∧ Below w.heap.size w w' := by
  have h := Tryd.strings_Repeat (str [97, 32]) 64 w (by decide) (by rw [str_size]; decide)
  rw [str_data] at h
  exact h
set_option maxRecDepth 100000 in
theorem copyBytes_any (A : Option Addr) (n c : Nat) (l : List UInt8) (w : World) (ha : Sl w 1 A n (byt l)) (hn : n ≤ 1048576) :
    Calls Tryd.prog 57 #[.slice A n c] w fun e w' => ∃ v rm, e = .returned v ∧ RowB w' w.heap.size 5 v l rm ∧ Below w.heap.size w w' := by
  have HA := Lib.hid ha
  clear ha
  go_enter Tryd.func57, Tryd.ntmps57
  go_wp2_with (first
    | (at_builtin
       refine wpl_appB rfl _ _ _ rfl w.heap.size 5 Tryd.underlying23 byteInfo (.slice (some ⟨w.heap.size, 0, none⟩) 0 0) [] [] (RowB.made w w.heap.size 5 [] (Nat.le_refl _) (by simp)) rfl A n c l rfl (HA.out.below ((Below.refl _ _).alloc (Nat.le_refl _) _)) (by simp; omega) (by simp) ?_
       intro v5 rm5 w5 hown5 hg5 hs5
       have H5 := Lib.hid (show RowB w5 w.heap.size 5 v5 l rm5 ∧ Below w.heap.size w w5 from ⟨hown5, ((Below.refl w.heap.size w).alloc (Nat.le_refl _) (.cells #[] 5)).grown hg5 (by simp) (fun j hj => by simp [Value.ownBlock] at hj; omega)⟩)
       clear hown5 hg5 hs5))
  go_ret
  first | exact ⟨_, rfl, ⟨rm5, H5.out.1⟩, H5.out.2⟩ | exact ⟨_, rm5, rfl, H5.out.1, H5.out.2⟩
/-- the fields {7, 8} and none, laid by the statement -/
theorem fields_lit (w : World) (g : Nat) (hg : g = w.heap.size + 1) :
    Calls Tryd.prog 32 #[.slice (some ⟨g, 0, none⟩) 2 2] ((w.alloc (.cells #[.int .u8 7, .int .u8 8] 5)).alloc (.cells #[.slice (some ⟨w.heap.size, 0, none⟩) 2 2, .slice none 0 0] 23))
      fun e w' => ∃ v rm, e = .returned (.tuple #[v, .int .i64 0]) ∧ RowB w' (w.heap.size + 2) 5 v (fieldsL [[7, 8], []]) rm ∧ Below w.heap.size w w' := by
  subst hg
  have h1 := sl_lit w 5 (byt [7, 8]) #[.int .u8 7, .int .u8 8] rfl
  obtain ⟨w1, hw1⟩ : ∃ w1, w1 = w.alloc (.cells #[.int .u8 7, .int .u8 8] 5) := ⟨_, rfl⟩
  have hs1 : w1.heap.size = w.heap.size + 1 := by rw [hw1]; simp
  have hb1 : Below w.heap.size w w1 := by rw [hw1]; exact (Below.refl _ _).alloc (Nat.le_refl _) _
  rw [← hw1] at h1 ⊢
  have h2 := sl_lit w1 23 [.slice (some ⟨w.heap.size, 0, none⟩) 2 2, .slice none 0 0] #[.slice (some ⟨w.heap.size, 0, none⟩) 2 2, .slice none 0 0] rfl
  have hb2 : Below w1.heap.size w1 (w1.alloc (.cells #[.slice (some ⟨w.heap.size, 0, none⟩) 2 2, .slice none 0 0] 23)) := (Below.refl _ _).alloc (Nat.le_refl _) _
  have hs2 : (w1.alloc (.cells #[.slice (some ⟨w.heap.size, 0, none⟩) 2 2, .slice none 0 0] 23)).heap.size = w.heap.size + 2 := by simp; omega
  have h3 := h1.below hb2
  rw [hs1] at h2
  generalize w1.alloc (.cells #[.slice (some ⟨w.heap.size, 0, none⟩) 2 2, .slice none 0 0] 23) = w2 at *
  have hc := ofields_any (some ⟨w.heap.size + 1, 0, none⟩) 2 2 [(some ⟨w.heap.size, 0, none⟩, 2, 2, [7, 8]), (none, 0, 0, [])] w2 h2 (by
    intro p hp
    rw [List.mem_cons, List.mem_singleton] at hp
    rcases hp with rfl | rfl
    · exact ⟨rfl, Nat.le_refl _, by simp [maxLen], (fun e => by cases e), h3⟩
    · exact ⟨rfl, Nat.le_refl _, by simp [maxLen], fun _ => rfl, Sl.empty _ _ _⟩) rfl (by decide) (by show (fieldsL [[7, 8], []]).length ≤ _; rw [fields_ex]; decide)
  refine hc.mono ?_
  rintro e w' ⟨v, rm, rfl, hr, hb⟩
  rw [hs2] at hr
  exact ⟨v, rm, rfl, hr, below_then hb1 (below_then hb2 hb)⟩

set_option maxRecDepth 100000 in
set_option maxHeartbeats 6400000 in
theorem octetKnown_walk (w : World) (ht : Tab w) :
    Calls Tryd.prog 12 #[] w fun e w' => e = .returned (.bool true) ∧ Below w.heap.size w w' := by
  have HT := Lib.hid ht
  clear ht
  obtain ⟨RL, hRL⟩ : ∃ RL : List UInt8, RL = Lib.repeatL [97, 32] 64 := ⟨_, rfl⟩
  have hRLn : RL.length ≤ 1000 := by rw [hRL]; decide +kernel
  have HB1 := Lib.hid (show bytE 256 1 = (2, []) by decide)
  have HR0 := Lib.hid (show rsE [172, 2, 9] = (300, 2, 0) by decide)
  have HR1 := Lib.hid (show rsE [128, 0] = (0, 0, 4) by decide)
  have HR2 := Lib.hid (show rsE [128] = (0, 0, 4) by decide)
  have HD0 := Lib.hid (show rdE [48, 55] 9 = (0, 4) by decide)
  have HD1 := Lib.hid (show rdE [49, 48] 9 = (0, 3) by decide)
  have HD2 := Lib.hid (show rdE [45, 49] 9 = (0, 4) by decide)
  have HD3 := Lib.hid (show rdE [57, 50, 50, 51, 51, 55, 50, 48, 51, 54, 56, 53, 52, 55, 55, 53, 56, 48, 56] 9 = (0, 4) by decide)
  have HX0 := Lib.hid (show hexE [48, 49, 102, 102] = 0 ∧ (unhexL [48, 49, 102, 102]).getD [] = [1, 255] by decide)
  have HX1 := Lib.hid (show hexE [49] = 4 ∧ (unhexL [49]).getD [] = [] by decide)
  have HX2 := Lib.hid (show hexE [70, 70] = 4 ∧ (unhexL [70, 70]).getD [] = [] by decide)
  have HW0 := Lib.hid (show wordsE [97, 32, 32, 98] = (4, []) by decide)
  have HW1 := Lib.hid (show wordsE [97, 32] = (4, []) by decide)
  have HF0 := Lib.hid (show fieldsL [[7, 8], []] = [2, 2, 7, 8, 0] from fields_ex)
  have HRF := Lib.hid (show rfE [2, 2, 7, 8, 0, 0] = (4, []) by decide)
  have HW2 := Lib.hid (show wordsE (RL ++ [97]) = (3, []) by rw [hRL]; decide +kernel)
  have HS3 := Lib.hid (show shortL 300 = [172, 2] from short_ex)
  have HH := Lib.hid (show hexL [1, 255] = [48, 49, 102, 102] by decide)
  have HRL := Lib.hid hRL
  clear hRL
  obtain ⟨w0, hw0⟩ : ∃ w0, w0 = w := ⟨_, rfl⟩
  have Hc0 := Lib.hid (show Below w.heap.size w w0 by rw [hw0]; exact Below.refl _ _)
  suffices hh : Calls Tryd.prog 12 #[] w0 fun e w' => e = .returned (.bool true) ∧ Below w.heap.size w w' by rw [hw0] at hh; exact hh
  clear hw0
  go_enter Tryd.func12, Tryd.ntmps12
  go_wp2_with (first
    | (go_at_call 14
       refine (obytes_any 256 1 _ (by decide) (by decide) (by decide)).mono ?_
       rw [HB1.out]
       rintro e w1 ⟨v0, rm0, rfl, hrx, hbx⟩
       have hb1 : Below w0.heap.size w0 w1 := hbx
       have Hc1 := Lib.hid (below_then Hc0.out hb1)
       obtain ⟨z0a, z0n, z0c, rfl, -, -, -⟩ := hrx.form2
       clear hrx hbx
       clear hb1)
    | (go_at_call 15
       refine (onumber_bad none 0 0 _ (.inl (by omega)) (by omega)).mono ?_
       rintro e w2 ⟨rfl, hw⟩
       have hb2 : Below w1.heap.size w1 w2 := by rw [← hw]; exact (Below.refl _ _)
       have Hc2 := Lib.hid (below_then Hc1.out hb2)
       clear hw hb2)
    | (go_at_call 16
       first
       | (have hm := M_assizeoctetReadShort2.out
          clear hm
          refine (oreads_any (some ⟨w4.heap.size, 0, none⟩) 1 1 [128] _ (sl_lit w4 5 (byt [128]) _ rfl) (by decide)).mono ?_
          rw [HR2.out]
          rintro e w5 ⟨rfl, hw⟩
          have hb5 : Below w4.heap.size w4 w5 := by rw [← hw]; exact ((Below.refl _ _).alloc (Nat.le_refl _) (.cells (byt [128]).toArray 5))
          have Hc5 := Lib.hid (below_then Hc4.out hb5)
          clear hw hb5)
       | (have hm := M_assizeoctetReadShort1.out
          clear hm
          refine (oreads_any (some ⟨w3.heap.size, 0, none⟩) 2 2 [128, 0] _ (sl_lit w3 5 (byt [128, 0]) _ rfl) (by decide)).mono ?_
          rw [HR1.out]
          rintro e w4 ⟨rfl, hw⟩
          have hb4 : Below w3.heap.size w3 w4 := by rw [← hw]; exact ((Below.refl _ _).alloc (Nat.le_refl _) (.cells (byt [128, 0]).toArray 5))
          have Hc4 := Lib.hid (below_then Hc3.out hb4)
          clear hw hb4
          have M_assizeoctetReadShort2 := Lib.hid trivial)
       | (skip
          refine (oreads_any (some ⟨w2.heap.size, 0, none⟩) 3 3 [172, 2, 9] _ (sl_lit w2 5 (byt [172, 2, 9]) _ rfl) (by decide)).mono ?_
          rw [HR0.out]
          rintro e w3 ⟨rfl, hw⟩
          have hb3 : Below w2.heap.size w2 w3 := by rw [← hw]; exact ((Below.refl _ _).alloc (Nat.le_refl _) (.cells (byt [172, 2, 9]).toArray 5))
          have Hc3 := Lib.hid (below_then Hc2.out hb3)
          clear hw hb3
          have M_assizeoctetReadShort1 := Lib.hid trivial))
    | (go_at_call 17
       first
       | (have hm := M_assizeoctetReadDec3.out
          clear hm
          refine (oreaddec_any [57, 50, 50, 51, 51, 55, 50, 48, 51, 54, 56, 53, 52, 55, 55, 53, 56, 48, 56] 9 _ (by decide) (by decide) (by decide)).mono ?_
          rw [HD3.out]
          rintro e w9 ⟨rfl, hw⟩
          have hb9 : Below w8.heap.size w8 w9 := by rw [← hw]; exact (Below.refl _ _)
          have Hc9 := Lib.hid (below_then Hc8.out hb9)
          clear hw hb9)
       | (have hm := M_assizeoctetReadDec2.out
          clear hm
          refine (oreaddec_any [45, 49] 9 _ (by decide) (by decide) (by decide)).mono ?_
          rw [HD2.out]
          rintro e w8 ⟨rfl, hw⟩
          have hb8 : Below w7.heap.size w7 w8 := by rw [← hw]; exact (Below.refl _ _)
          have Hc8 := Lib.hid (below_then Hc7.out hb8)
          clear hw hb8
          have M_assizeoctetReadDec3 := Lib.hid trivial)
       | (have hm := M_assizeoctetReadDec1.out
          clear hm
          refine (oreaddec_any [49, 48] 9 _ (by decide) (by decide) (by decide)).mono ?_
          rw [HD1.out]
          rintro e w7 ⟨rfl, hw⟩
          have hb7 : Below w6.heap.size w6 w7 := by rw [← hw]; exact (Below.refl _ _)
          have Hc7 := Lib.hid (below_then Hc6.out hb7)
          clear hw hb7
          have M_assizeoctetReadDec2 := Lib.hid trivial)
       | (skip
          refine (oreaddec_any [48, 55] 9 _ (by decide) (by decide) (by decide)).mono ?_
          rw [HD0.out]
          rintro e w6 ⟨rfl, hw⟩
          have hb6 : Below w5.heap.size w5 w6 := by rw [← hw]; exact (Below.refl _ _)
          have Hc6 := Lib.hid (below_then Hc5.out hb6)
          clear hw hb6
          have M_assizeoctetReadDec1 := Lib.hid trivial))
    | (go_at_call 30
       first
       | (have hm := M_assizeoctetReadHex2.out
          clear hm
          refine (oreadhex_any [70, 70] _ (by decide)).mono ?_
          rw [HX2.out.1, HX2.out.2]
          rintro e w12 ⟨vh1, rmh1, rfl, hrx, hbx⟩
          have hb12 : Below w11.heap.size w11 w12 := hbx
          have Hc12 := Lib.hid (below_then Hc11.out hb12)
          have Kx12 := Lib.hid (Kx11.out.below hb12)
          obtain ⟨zh1a, zh1n, zh1c, rfl, -, -, -⟩ := hrx.form2
          clear hrx hbx
          clear hb12)
       | (have hm := M_assizeoctetReadHex1.out
          clear hm
          refine (oreadhex_any [49] _ (by decide)).mono ?_
          rw [HX1.out.1, HX1.out.2]
          rintro e w11 ⟨vh0, rmh0, rfl, hrx, hbx⟩
          have hb11 : Below w10.heap.size w10 w11 := hbx
          have Hc11 := Lib.hid (below_then Hc10.out hb11)
          have Kx11 := Lib.hid (Kx10.out.below hb11)
          obtain ⟨zh0a, zh0n, zh0c, rfl, -, -, -⟩ := hrx.form2
          clear hrx hbx
          clear hb11
          have M_assizeoctetReadHex2 := Lib.hid trivial)
       | (skip
          refine (oreadhex_any [48, 49, 102, 102] _ (by decide)).mono ?_
          rw [HX0.out.1, HX0.out.2]
          rintro e w10 ⟨v1, rm1, rfl, hrx, hbx⟩
          have hb10 : Below w9.heap.size w9 w10 := hbx
          have Hc10 := Lib.hid (below_then Hc9.out hb10)
          obtain ⟨xa, xn, xc, rfl, hxn, -, -⟩ := hrx.form2
          have Kx10 := Lib.hid (show Sl w10 1 xa xn (byt [1, 255]) by rw [hxn]; exact hrx.sl)
          clear hrx hxn hbx
          clear hb10
          have M_assizeoctetReadHex1 := Lib.hid trivial))
    | (go_at_call 47
       first
       | (have hm := M_assizeoctetWords2.out
          clear hm
          refine (owords_any (RL ++ [97]) _ (by rw [List.length_append]; simp; omega)).mono ?_
          rw [HW2.out]
          rintro e w20 ⟨vw2, rfl, hrx, hbx⟩
          have hb20 : Below w19.heap.size w19 w20 := hbx
          have Hc20 := Lib.hid (below_then Hc19.out hb20)
          have Kx20 := Lib.hid (Kx19.out.below hb20)
          have Ky20 := Lib.hid (Ky19.out.below hb20)
          obtain ⟨zw2a, zw2c, rfl, -, -⟩ := own_form hrx
          clear hrx hbx
          clear hb20)
       | (have hm := M_assizeoctetWords1.out
          clear hm
          refine (owords_any [97, 32] _ (by decide)).mono ?_
          rw [HW1.out]
          rintro e w14 ⟨vw1, rfl, hrx, hbx⟩
          have hb14 : Below w13.heap.size w13 w14 := hbx
          have Hc14 := Lib.hid (below_then Hc13.out hb14)
          have Kx14 := Lib.hid (Kx13.out.below hb14)
          obtain ⟨zw1a, zw1c, rfl, -, -⟩ := own_form hrx
          clear hrx hbx
          clear hb14
          have M_assizeoctetWords2 := Lib.hid trivial)
       | (skip
          refine (owords_any [97, 32, 32, 98] _ (by decide)).mono ?_
          rw [HW0.out]
          rintro e w13 ⟨vw0, rfl, hrx, hbx⟩
          have hb13 : Below w12.heap.size w12 w13 := hbx
          have Hc13 := Lib.hid (below_then Hc12.out hb13)
          have Kx13 := Lib.hid (Kx12.out.below hb13)
          obtain ⟨zw0a, zw0c, rfl, -, -⟩ := own_form hrx
          clear hrx hbx
          clear hb13
          have M_assizeoctetWords1 := Lib.hid trivial))
    | (go_at_call 32
       refine (fields_lit w14 _ (by simp)).mono ?_
       rw [HF0.out]
       rintro e w15 ⟨v3, rm3, rfl, hrx, hbx⟩
       have hb15 : Below w14.heap.size w14 w15 := hbx
       have Hc15 := Lib.hid (below_then Hc14.out hb15)
       have Kx15 := Lib.hid (Kx14.out.below hb15)
       obtain ⟨ya, yn, yc, rfl, hyn, -, -⟩ := hrx.form2
       have Ky15 := Lib.hid (show Sl w15 1 ya yn (byt [2, 2, 7, 8, 0]) by rw [hyn]; exact hrx.sl)
       have hyn5 : yn ≤ 5 := by rw [hyn]; decide
       clear hrx hyn hbx
       clear hb15)
    | (go_at_call 57
       refine (copyBytes_any ya yn yc [2, 2, 7, 8, 0] _ Ky15.out (by omega)).mono ?_
       rintro e w16 ⟨v4, rm4, rfl, hrx, hbx⟩
       have hb16 : Below w15.heap.size w15 w16 := hbx
       have Hc16 := Lib.hid (below_then Hc15.out hb16)
       have Kx16 := Lib.hid (Kx15.out.below hb16)
       have Ky16 := Lib.hid (Ky15.out.below hb16)
       obtain ⟨ca, cn, cc, rfl, -, -, -⟩ := hrx.form2
       have Kc := Lib.hid (And.intro hrx hb16)
       clear hrx hbx
       clear hb16)
    | (at_builtin
       refine wpl_appB1 rfl _ _ _ rfl w15.heap.size 5 Tryd.underlying23 byteInfo (.slice ca cn cc) [2, 2, 7, 8, 0] rm4 Kc.out.1 rfl 0 _ rfl rfl (by decide) Kc.out.2.size ?_
       intro v5 rm5 w17 hown5 hg5 hs5
       obtain ⟨da, dn, dc, rfl, hdn, hdc, hdm⟩ := hown5.form2
       have hdnc : dn ≤ dc := by omega
       have hdm2 : dc ≤ 9223372036854775807 := by simp only [maxLen] at hdm; omega
       have Kd := Lib.hid (show Sl w17 1 da dn (byt [2, 2, 7, 8, 0, 0]) by rw [hdn]; exact hown5.sl)
       have hbg : Below w15.heap.size w15 w17 := Kc.out.2.grown hg5 Kc.out.2.size (fun j hj => (Kc.out.1.lt j hj).1)
       have Hc17 := Lib.hid (below_then Hc15.out hbg)
       have Kx17 := Lib.hid (Kx15.out.below hbg)
       have Ky17 := Lib.hid (Ky15.out.below hbg)
       clear hown5 hg5 hs5 hdn hdc hdm hbg)
    | (go_at_call 33
       refine (oreadfields_any da dn dc [2, 2, 7, 8, 0, 0] _ Kd.out hdnc hdm2).mono ?_
       rw [HRF.out]
       rintro e w18 ⟨v6, rs6, rfl, hrx, -, hbx⟩
       have hb18 : Below w17.heap.size w17 w18 := hbx
       have Hc18 := Lib.hid (below_then Hc17.out hb18)
       have Kx18 := Lib.hid (Kx17.out.below hb18)
       have Ky18 := Lib.hid (Ky17.out.below hb18)
       obtain ⟨z6a, z6c, rfl, -, -⟩ := own_form hrx.1
       clear hrx hbx
       clear hb18)
    | (go_at_call 58
       refine (repeat_a _).mono ?_
       rw [← HRL.out]
       rintro e w19 ⟨rfl, hbx⟩
       have hb19 : Below w18.heap.size w18 w19 := hbx
       have Hc19 := Lib.hid (below_then Hc18.out hb19)
       have Kx19 := Lib.hid (Kx18.out.below hb19)
       have Ky19 := Lib.hid (Ky18.out.below hb19)
       clear hbx
       clear hb19)
    | (go_at_call 20
       refine (oshort_any 300 _ (by decide)).mono ?_
       rw [HS3.out]
       rintro e w21 ⟨v7, rm7, rfl, hrx, hbx⟩
       have hb21 : Below w20.heap.size w20 w21 := hbx
       have Hc21 := Lib.hid (below_then Hc20.out hb21)
       have Kx21 := Lib.hid (Kx20.out.below hb21)
       have Ky21 := Lib.hid (Ky20.out.below hb21)
       obtain ⟨sa, sn, sc, rfl, hsn, -, -⟩ := hrx.form2
       have Ks := Lib.hid (show Sl w21 1 sa sn (byt [172, 2]) by rw [hsn]; exact hrx.sl)
       clear hrx hsn hbx
       clear hb21)
    | (go_at_call 19
       first
       | (have hm := M_assizeassizekitSameBytes2.out
          clear hm
          refine (sameBytes_any ya (some ⟨w25.heap.size, 0, none⟩) yn 5 yc 5 [2, 2, 7, 8, 0] [2, 2, 7, 8, 0] _ (Ky25.out.below ((Below.refl _ _).alloc (Nat.le_refl _) _)) (sl_lit w25 5 (byt [2, 2, 7, 8, 0]) _ rfl)).mono ?_
          rw [show decide (([2, 2, 7, 8, 0] : List UInt8) = [2, 2, 7, 8, 0]) = true by decide]
          rintro e w26 ⟨rfl, hw⟩
          have hb26 : Below w25.heap.size w25 w26 := by rw [← hw]; exact ((Below.refl _ _).alloc (Nat.le_refl _) (.cells (byt [2, 2, 7, 8, 0]).toArray 5))
          have Hc26 := Lib.hid (below_then Hc25.out hb26)
          have Kx26 := Lib.hid (Kx25.out.below hb26)
          have Ky26 := Lib.hid (Ky25.out.below hb26)
          clear hw hb26)
       | (have hm := M_assizeassizekitSameBytes1.out
          clear hm
          refine (sameBytes_any xa (some ⟨w23.heap.size, 0, none⟩) xn 2 xc 2 [1, 255] [1, 255] _ (Kx23.out.below ((Below.refl _ _).alloc (Nat.le_refl _) _)) (sl_lit w23 5 (byt [1, 255]) _ rfl)).mono ?_
          rw [show decide (([1, 255] : List UInt8) = [1, 255]) = true by decide]
          rintro e w24 ⟨rfl, hw⟩
          have hb24 : Below w23.heap.size w23 w24 := by rw [← hw]; exact ((Below.refl _ _).alloc (Nat.le_refl _) (.cells (byt [1, 255]).toArray 5))
          have Hc24 := Lib.hid (below_then Hc23.out hb24)
          have Kx24 := Lib.hid (Kx23.out.below hb24)
          have Ky24 := Lib.hid (Ky23.out.below hb24)
          clear hw hb24
          have M_assizeassizekitSameBytes2 := Lib.hid trivial)
       | (skip
          refine (sameBytes_any sa (some ⟨w21.heap.size, 0, none⟩) sn 2 sc 2 [172, 2] [172, 2] _ (Ks.out.below ((Below.refl _ _).alloc (Nat.le_refl _) _)) (sl_lit w21 5 (byt [172, 2]) _ rfl)).mono ?_
          rw [show decide (([172, 2] : List UInt8) = [172, 2]) = true by decide]
          rintro e w22 ⟨rfl, hw⟩
          have hb22 : Below w21.heap.size w21 w22 := by rw [← hw]; exact ((Below.refl _ _).alloc (Nat.le_refl _) (.cells (byt [172, 2]).toArray 5))
          have Hc22 := Lib.hid (below_then Hc21.out hb22)
          have Kx22 := Lib.hid (Kx21.out.below hb22)
          have Ky22 := Lib.hid (Ky21.out.below hb22)
          clear hw hb22
          have M_assizeassizekitSameBytes1 := Lib.hid trivial))
    | (go_at_call 31
       refine (ohex_any (some ⟨w22.heap.size, 0, none⟩) 2 2 [1, 255] _ (sl_lit w22 5 (byt [1, 255]) _ rfl) (by decide)).mono ?_
       rw [HH.out]
       rintro e w23 ⟨rfl, hbx⟩
       have hb23 : Below w22.heap.size w22 w23 := below_then ((Below.refl _ _).alloc (Nat.le_refl _) (.cells (byt [1, 255]).toArray 5)) hbx
       have Hc23 := Lib.hid (below_then Hc22.out hb23)
       have Kx23 := Lib.hid (Kx22.out.below hb23)
       have Ky23 := Lib.hid (Ky22.out.below hb23)
       clear hbx
       clear hb23)
    | (go_at_call 29
       refine (oawake_any _ (HT.out.below Hc24.out)).mono ?_
       rintro e w25 ⟨rfl, hbx⟩
       have hb25 : Below w24.heap.size w24 w25 := hbx
       have Hc25 := Lib.hid (below_then Hc24.out hb25)
       have Kx25 := Lib.hid (Kx24.out.below hb25)
       have Ky25 := Lib.hid (Ky24.out.below hb25)
       clear hbx
       clear hb25))
  go_ret
  exact ⟨rfl, Hc26.out⟩

namespace octetKnown
set_option linter.unusedVariables false
open Go.ChangeShapes Go.WideShapes Go.ChangeAt Go.RowKit Go.As
theorem own : ownKnob Tryd.prog.godebug = none := by kernel_rfl
theorem laidOut : laidOutB Tryd.prog = true := by kernel_rfl
theorem door_met (os : Os) (args : Array Value) : laidMetH Tryd.prog Rows.octetKnownRow.laid ((World.doorLaid Tryd.prog 24 os).forCall (fun _ _ => 0) ⟨#[], args, []⟩).memory :=
  laidMetH_of_parts3 (fuel := 8) (laidMet_of_run' 8 (by kernel_rfl) (by kernel_rfl)) (by kernel_rfl) (by kernel_rfl)
set_option maxRecDepth 100000 in
theorem lifted (os : Os) (started : os.Started) (H : Type) (enc : TypeId × Value → H) :
    ReturnsInHanded {} Tryd.checked os 12 .any (fun w args => (Rows.octetKnownSpec.pre enc Tryd.prog Tryd.f12 [] false w args ∧ laidMetH Tryd.prog Rows.octetKnownRow.laid w) ∧ sizedMet enc Tryd.prog Tryd.f12 (OpenSpec.ofChange Rows.octetKnownSpec) false w args) (Rows.octetKnownSpec.post enc Tryd.prog Tryd.f12 false true false false) := by
  refine returnsInHanded_of_change_and (C := Tryd.checked) (X := fun w _ => laidMetH Tryd.prog Rows.octetKnownRow.laid w) (fun _ _ _ hh h => h.of_heap hh) own started (by kernel_rfl) Tryd.func12
    (ChangeSpec.witness_shaped (enc := enc) (C := Tryd.checked) (os := os) (X := fun w _ => laidMetH Tryd.prog Rows.octetKnownRow.laid w) false (World.doorLaid Tryd.prog 24 os) #[] 8 rfl (World.shaped_of_RefB (by kernel_rfl) (by kernel_rfl)) (by kernel_rfl) (by kernel_rfl) (by kernel_rfl) (door_met os _)) ?_
  intro W base args ds gs before hval0 hW hcnd _ hL _
  have hval : ∀ (j : Nat) t v, Tryd.f12.params[j]? = some t → args[j]? = some v → Value.okWide Tryd.prog W .any base t v := hval0
  have hW' := hW
  obtain ⟨p, q, hA0, hV, hpq, hfz, hnd⟩ := hW
  have hA : DataW.TrodAll enc Tryd.prog W 0 (fun _ => true) true Tryd.f12.params.toList args.toList ds p := hA0
  have hlt : ∀ x ∈ p, x.block < W.heap.size := fun x hx => hW'.lt x (by rw [hpq]; exact List.mem_append_left _ hx)
  rw [Tryd.params12] at hA hval
  obtain ⟨hargs, rfl, hpn⟩ := trodAll_nil hA
  obtain rfl : args = #[] := by cases args; simp_all
  obtain ⟨rfl, rfl⟩ := trodVars_none hV
  refine (octetKnown_walk  W (tab_of_laid (laid := Rows.octetKnownRow.laid) rfl hL)).mono fun e W' ⟨he, hg⟩ => ?_
  subst he
  exact ⟨_, rfl, law_post (T := 4) laidOut (by kernel_rfl) Tryd.underlying4 rfl rfl hW' rfl rfl rfl hg⟩
theorem over : Rows.octetKnownRow.holds Tryd.pinned (OpenSpec.ofChange Rows.octetKnownSpec) :=
  OpenClaim.holds_of_wide 12 Tryd.f12 rfl rfl rfl rfl rfl rfl rfl ⟨rfl, rfl, rfl, rfl, rfl⟩ rfl rfl rfl rfl rfl (by kernel_rfl) Tryd.func12 (by kernel_rfl)
    (of_decide_eq_true (by kernel_rfl)) (by unfold Func.isWrapper; rw [if_neg (of_decide_eq_false (by kernel_rfl))]; exact ⟨rfl, rfl⟩)
    (fun os started H enc _ => lifted os started H enc)
/-- the statement -/
theorem proved : Rows.OctetKnownCardSaid :=
  Claim7.holds_tied_plain_at .later [] [.data, .data, .data] true (true, "c5dbe156eb60a59730607763013cde13550478e2496cc4cac80feebce387f0b5") false over (fun _ h => by cases h) (by kernel_rfl) (fun _ h => by cases h) octetKnown_row_tie rfl ⟨rfl, rfl⟩ (by kernel_rfl) rfl
    (fun f fn hf hfn => by
      obtain rfl : f = 12 := Option.some.inj ((show Tryd.prog.funcNamed "assize/assizelaw01.OctetKnown" = some 12 by kernel_rfl).symm.trans hf) |>.symm
      obtain rfl : fn = Tryd.f12 := (Option.some.inj (Tryd.func12.symm.trans hfn)).symm
      exact ⟨by kernel_rfl, fun j t ht => by
        rw [Tryd.params12] at ht
        simp at ht⟩)
    (by kernel_rfl)
#print axioms proved
end octetKnown
end Go.Proofs.YtldkcfhigcmoaaaDoor
