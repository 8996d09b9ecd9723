/- What the statements' awake answers: true. Conditions: strconv's table lies as it was laid. -/
import Derived.Test.YtldkcfhigcmoaaaDoorDecB
import Derived.Test.YtldkcfhigcmoaaaDoorOctX
namespace Go.Proofs.YtldkcfhigcmoaaaDoor
open Go.RowKit Go.As
set_option linter.unusedVariables false

theorem sl_lit (W : World) (e : TypeId) (xs : List Value) (cs : Array Value) (h : cs = xs.toArray) : Sl (W.alloc (.cells cs e)) 1 (some ⟨W.heap.size, 0, none⟩) xs.length xs := by
  subst h
  refine ⟨by simp, fun _ => ⟨_, rfl, by simp, fun j u hu => ?_⟩⟩
  have : (⟨W.heap.size, 0, none⟩ : Addr).add j = ⟨W.heap.size, j, none⟩ := by unfold Addr.add; split <;> simp_all
  rw [this, World.cell?_alloc_at _ _ _ _ rfl]
  simpa using hu
theorem below_lit {w W : World} (hb : Below w.heap.size w W) (o : Obj) : Below w.heap.size w (W.alloc o) := below_alloc hb o

theorem sl_txt2 (W : World) (g : Nat) (hg : g = W.heap.size) {LL : List (List UInt8)} (h : LL = [[97], [98, 99]]) : Sl (W.alloc (.cells #[.string (str [97]), .string (str [98, 99])] 9)) 1 (some ⟨g, 0, none⟩) 2 (LL.flatMap txC) := by
  subst h hg
  exact sl_lit W 9 [.string (str [97]), .string (str [98, 99])] _ rfl
set_option maxRecDepth 100000 in
set_option maxHeartbeats 1600000 in
theorem oawake_any (w : World) (ht : Tab w) :
    Calls Tryd.prog 29 #[] w fun e w' => e = .returned (.bool true) ∧ Below w.heap.size w w' := by
  have HT := Lib.hid ht
  clear ht
  have HB := Lib.hid (show bytE 258 3 = (0, [0, 1, 2]) by decide)
  obtain ⟨LL, hLL⟩ : ∃ LL : List (List UInt8), LL = [[97], [98, 99]] := ⟨_, rfl⟩
  have HW := Lib.hid (show wordsE [97, 32, 98, 99] = (0, LL) by rw [hLL]; decide)
  have HLL := Lib.hid hLL
  have hLn : LL.length ≤ 9223372036854775807 := by rw [hLL]; decide
  clear hLL
  have HI := Lib.hid (show Lib.itoa (-5) = [45, 53] by
    unfold Lib.itoa
    rw [if_pos (by decide), show (-5 : Int).natAbs = 5 from rfl, Lib.decDigits_one (by decide)]; rfl)
  go_enter Tryd.func29, Tryd.ntmps29
  go_wp2_with (first
    | (go_at_call 14
       refine (obytes_any 258 3 _ (by decide) (by decide) (by decide)).mono ?_
       rw [HB.out]
       rintro e w1 ⟨xv, xrm, rfl, hr1, hb1⟩
       obtain ⟨xa, xn, xc, rfl, hxn, -, -⟩ := hr1.form2
       have H1 := Lib.hid (And.intro hb1 (show Sl w1 1 xa xn _ by rw [hxn]; exact hr1.sl))
       clear hr1 hb1 hxn)
    | (go_at_call 15
       refine (onumber_any (some ⟨w1.heap.size, 0, none⟩) 2 2 [1, 2] _ (sl_lit w1 5 (byt [1, 2]) _ rfl) (by omega) (by omega)).mono ?_
       rw [show numL [1, 2] = 258 by decide]
       rintro e w' ⟨rfl, rfl⟩
       have H2 := Lib.hid (And.intro (below_lit H1.out.1 (.cells (byt [1, 2]).toArray 5)) (H1.out.2.below ((Below.refl _ _).alloc (Nat.le_refl _) (.cells (byt [1, 2]).toArray 5)))))
    | (go_at_call 47
       refine (owords_any [97, 32, 98, 99] _ (by decide)).mono ?_
       rw [HW.out]
       rintro e w3 ⟨tv, rfl, hr3, hb3⟩
       obtain ⟨ta, tc, rfl, -, -⟩ := own_form hr3
       have H3 := Lib.hid (And.intro (below_then H2.out.1 hb3) (And.intro (H2.out.2.below hb3) (Sl.of_own hr3)))
       clear hr3 hb3)
    | (go_at_call 19
       refine (sameBytes_any xa (some ⟨w3.heap.size, 0, none⟩) xn 3 xc 3 _ [0, 1, 2] _ (H3.out.2.1.below ((Below.refl _ _).alloc (Nat.le_refl _) _)) (sl_lit w3 5 (byt [0, 1, 2]) _ rfl)).mono ?_
       rw [show decide (([0, 1, 2] : List UInt8) = [0, 1, 2]) = true by decide]
       rintro e w' ⟨rfl, rfl⟩
       have H4 := Lib.hid (And.intro (below_lit H3.out.1 (.cells (byt [0, 1, 2]).toArray 5)) (H3.out.2.2.below ((Below.refl _ _).alloc (Nat.le_refl _) (.cells (byt [0, 1, 2]).toArray 5)))))
    | (go_at_call 60
       refine (sameTexts_any ta _ LL.length 2 tc 2 LL LL _ (H4.out.2.below ((Below.refl _ _).alloc (Nat.le_refl _) _)) (sl_txt2 (w3.alloc (.cells (byt [0, 1, 2]).toArray 5)) _ (by simp) HLL.out) hLn).mono ?_
       rw [show decide (LL = LL) = true by simp]
       rintro e w5 ⟨rfl, q5, hw5⟩
       have H5 := Lib.hid (show Below w.heap.size w w5 from by rw [hw5]; exact below_drewN (below_lit H4.out.1 _) _)
       clear hw5)
    | (go_at_call 22
       refine (odec_any (-5) (by decide) (by decide) _ (HT.out.below H5.out)).mono ?_
       rw [HI.out]
       rintro e w6 ⟨rfl, hb6⟩
       have H6 := Lib.hid (below_then H5.out hb6)
       clear hb6))
  go_ret
  exact ⟨rfl, H6.out⟩
end Go.Proofs.YtldkcfhigcmoaaaDoor
