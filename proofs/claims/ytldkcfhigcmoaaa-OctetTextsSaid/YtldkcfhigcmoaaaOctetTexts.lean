/- The law OctetTexts: the digits of any bytes, the bytes of any digits, and the words of any line, are the document's, or just its error is told; every input. -/
import Derived.Test.YtldkcfhigcmoaaaOctC
import Derived.Test.YtldkcfhigcmoaaaOctX
import Derived.Test.YtldkcfhigcmoaaaOctI
import Derived.Test.YtldkcfhigcmoaaaLent
import Derived.Test.YtldkcfhigcmoaaaOpen
namespace Go.Proofs.Ytldkcfhigcmoaaa
open Go.RowKit Go.As
set_option linter.unusedVariables false

theorem TxRow.below {w w' w0 : World} {v : Value} {l : List (List UInt8)} (h : TxRow w w0 v l) (hb : Below w.heap.size w w') : TxRow w' w0 v l := own_below h hb


theorem words_len (s : List UInt8) : (wordsE s).2.length ≤ s.length + 1 := by
  have key : ∀ l : List UInt8, (splitW l).length ≤ l.length + 1 := by
    intro l
    induction l with
    | nil => simp [splitW]
    | cons c r ih =>
      simp only [splitW]
      split
      · simp; omega
      · split
        · simp
        · rename_i h; rw [h] at ih; simp at ih ⊢; omega
  unfold wordsE
  split
  · simp
  · split
    · simp
    · split
      · simp
      · exact key s

set_option maxRecDepth 100000 in
set_option maxHeartbeats 3200000 in
theorem octetTexts_walk (x : BArg) (w : World) (ox : BytAt w x) (s : List UInt8) (hs : s.length ≤ maxLen) :
    Calls Try.prog 3 #[.slice x.1 x.2.1 x.2.2.1, .string (str s)] w fun e w' => e = .returned (.bool true) ∧ Below w.heap.size w w' := by
  obtain ⟨A, n, c, l⟩ := x
  obtain ⟨hl, hnc, hcm, -, ha⟩ := ox
  simp only at hl hnc hcm ha
  have hn : n ≤ 9223372036854775807 := by simp only [maxLen] at hcm; omega
  have hs' : s.length ≤ 9223372036854775807 := by simp only [maxLen] at hs; omega
  have HA := Lib.hid ha
  have HL := Lib.hid hl
  clear ha hl hnc hcm hs
  by_cases hbig : 1000 < n
  · go_enter Try.func3, Try.ntmps3
    go_wp2_with fail
    go_ret
    exact ⟨rfl, Below.refl _ _⟩
  by_cases hbig2 : 1000 < s.length
  · go_enter Try.func3, Try.ntmps3
    go_wp2_with fail
    go_ret
    exact ⟨rfl, Below.refl _ _⟩
  have hn2 : n ≤ 1048576 := by omega
  have hs2 : s.length ≤ 1048576 := by omega
  have HW := Lib.hid (show (wordsE s).2.length ≤ 9223372036854775807 by have := words_len s; omega)
  have hE : hexE s = 0 ∨ hexE s = 4 := by unfold hexE; split <;> simp
  rcases hE with he | he
  ·
    go_enter Try.func3, Try.ntmps3
    go_wp2_with (first
      | (go_at_call 5
         refine (lent_any A n c l w HA.out hn2).mono ?_
         rintro e w1 ⟨rfl, hr1, hb1⟩
         have H1 := Lib.hid (And.intro hr1 hb1)
         clear hr1 hb1)
      | (go_at_call 6
         refine (oreadhex_any s _ hs2).mono ?_
         rw [he]
         rintro e w2 ⟨xv, xrm, rfl, hr2, hb2⟩
         obtain ⟨xa, xn, xc, rfl, hxn, -, -⟩ := hr2.form2
         have H2 := Lib.hid (And.intro (H1.out.1.below hb2) (And.intro (below_then H1.out.2 hb2) (show Sl w2 1 xa xn _ by rw [hxn]; exact hr2.sl)))
         clear hr2 hb2 hxn)
      | (go_at_call 7
         refine (owords_any s _ hs2).mono ?_
         rintro e w3 ⟨tv, rfl, hr3, hb3⟩
         obtain ⟨ta, tc, rfl, -, -⟩ := own_form hr3
         have H3 := Lib.hid (And.intro (H2.out.1.below hb3) (And.intro (below_then H2.out.2.1 hb3) (And.intro (H2.out.2.2.below hb3) (Sl.of_own hr3))))
         clear hr3 hb3)
      | (go_at_call 8
         refine (ohex_any _ n _ l _ (by have := H3.out.1.sl; rwa [HL.out] at this) hn2).mono ?_
         rintro e w4 ⟨rfl, hb4⟩
         have H4 := Lib.hid (And.intro (H3.out.1.below hb4) (And.intro (below_then H3.out.2.1 hb4) (And.intro (H3.out.2.2.1.below hb4) (H3.out.2.2.2.below hb4))))
         clear hb4)
      | (go_at_call 9
         refine (rhex_any A n c l _ (HA.out.below H4.out.2.1) hn2).mono ?_
         rintro e w5 ⟨rfl, hb5⟩
         have H5 := Lib.hid (And.intro (H4.out.1.below hb5) (And.intro (below_then H4.out.2.1 hb5) (And.intro (H4.out.2.2.1.below hb5) (H4.out.2.2.2.below hb5))))
         clear hb5)
      | (go_at_call 10
         refine (kept_ok _ A n c _ l _ H5.out.1 (HA.out.below H5.out.2.1) hn2).mono ?_
         rintro e w6 ⟨rfl, hb6⟩
         have H6 := Lib.hid (And.intro (below_then H5.out.2.1 hb6) (And.intro (H5.out.2.2.1.below hb6) (H5.out.2.2.2.below hb6)))
         clear hb6)
      | (go_at_call 11
         refine (rreadhex_any s _ hs2).mono ?_
         rw [he]
         rintro e w7 ⟨yv, yrm, rfl, hr7, hb7⟩
         obtain ⟨ya, yn, yc, rfl, hyn, -, -⟩ := hr7.form2
         have H7 := Lib.hid (And.intro (below_then H6.out.1 hb7) (And.intro (H6.out.2.1.below hb7) (And.intro (H6.out.2.2.below hb7) (show Sl w7 1 ya yn _ by rw [hyn]; exact hr7.sl))))
         clear hr7 hb7 hyn)
      | (go_at_call 12
         refine (rwords_any s _ hs2).mono ?_
         rintro e w8 ⟨uv, rfl, hr8, hb8⟩
         obtain ⟨ua, uc, rfl, -, -⟩ := own_form hr8
         have H8 := Lib.hid (And.intro (below_then H7.out.1 hb8) (And.intro (H7.out.2.1.below hb8) (And.intro (H7.out.2.2.1.below hb8) (And.intro (H7.out.2.2.2.below hb8) (Sl.of_own hr8)))))
         clear hr8 hb8)
      | (go_at_call 13
         refine (sameBytes_any xa ya xn yn xc yc _ _ _ H8.out.2.1 H8.out.2.2.2.1).mono ?_
         rw [show decide ((unhexL s).getD [] = (unhexL s).getD []) = true by simp]
         rintro e w' ⟨rfl, rfl⟩)
      | (go_at_call 14
         refine (sameTexts_any ta ua _ _ tc uc _ _ _ H8.out.2.2.1 H8.out.2.2.2.2 HW.out).mono ?_
         rw [show decide ((wordsE s).2 = (wordsE s).2) = true by simp]
         rintro e w9 ⟨rfl, dq, rfl⟩))
    go_ret
    exact ⟨rfl, below_drewN H8.out.1 _⟩
  ·
    go_enter Try.func3, Try.ntmps3
    go_wp2_with (first
      | (go_at_call 5
         refine (lent_any A n c l w HA.out hn2).mono ?_
         rintro e w1 ⟨rfl, hr1, hb1⟩
         have H1 := Lib.hid (And.intro hr1 hb1)
         clear hr1 hb1)
      | (go_at_call 6
         refine (oreadhex_any s _ hs2).mono ?_
         rw [he]
         rintro e w2 ⟨xv, xrm, rfl, hr2, hb2⟩
         obtain ⟨xa, xn, xc, rfl, hxn, -, -⟩ := hr2.form2
         have H2 := Lib.hid (And.intro (H1.out.1.below hb2) (And.intro (below_then H1.out.2 hb2) (show Sl w2 1 xa xn _ by rw [hxn]; exact hr2.sl)))
         clear hr2 hb2 hxn)
      | (go_at_call 7
         refine (owords_any s _ hs2).mono ?_
         rintro e w3 ⟨tv, rfl, hr3, hb3⟩
         obtain ⟨ta, tc, rfl, -, -⟩ := own_form hr3
         have H3 := Lib.hid (And.intro (H2.out.1.below hb3) (And.intro (below_then H2.out.2.1 hb3) (And.intro (H2.out.2.2.below hb3) (Sl.of_own hr3))))
         clear hr3 hb3)
      | (go_at_call 8
         refine (ohex_any _ n _ l _ (by have := H3.out.1.sl; rwa [HL.out] at this) hn2).mono ?_
         rintro e w4 ⟨rfl, hb4⟩
         have H4 := Lib.hid (And.intro (H3.out.1.below hb4) (And.intro (below_then H3.out.2.1 hb4) (And.intro (H3.out.2.2.1.below hb4) (H3.out.2.2.2.below hb4))))
         clear hb4)
      | (go_at_call 9
         refine (rhex_any A n c l _ (HA.out.below H4.out.2.1) hn2).mono ?_
         rintro e w5 ⟨rfl, hb5⟩
         have H5 := Lib.hid (And.intro (H4.out.1.below hb5) (And.intro (below_then H4.out.2.1 hb5) (And.intro (H4.out.2.2.1.below hb5) (H4.out.2.2.2.below hb5))))
         clear hb5)
      | (go_at_call 10
         refine (kept_ok _ A n c _ l _ H5.out.1 (HA.out.below H5.out.2.1) hn2).mono ?_
         rintro e w6 ⟨rfl, hb6⟩
         have H6 := Lib.hid (And.intro (below_then H5.out.2.1 hb6) (And.intro (H5.out.2.2.1.below hb6) (H5.out.2.2.2.below hb6)))
         clear hb6)
      | (go_at_call 11
         refine (rreadhex_any s _ hs2).mono ?_
         rw [he]
         rintro e w7 ⟨yv, yrm, rfl, hr7, hb7⟩
         obtain ⟨ya, yn, yc, rfl, hyn, -, -⟩ := hr7.form2
         have H7 := Lib.hid (And.intro (below_then H6.out.1 hb7) (And.intro (H6.out.2.1.below hb7) (And.intro (H6.out.2.2.below hb7) (show Sl w7 1 ya yn _ by rw [hyn]; exact hr7.sl))))
         clear hr7 hb7 hyn)
      | (go_at_call 12
         refine (rwords_any s _ hs2).mono ?_
         rintro e w8 ⟨uv, rfl, hr8, hb8⟩
         obtain ⟨ua, uc, rfl, -, -⟩ := own_form hr8
         have H8 := Lib.hid (And.intro (below_then H7.out.1 hb8) (And.intro (H7.out.2.1.below hb8) (And.intro (H7.out.2.2.1.below hb8) (And.intro (H7.out.2.2.2.below hb8) (Sl.of_own hr8)))))
         clear hr8 hb8)
      | (go_at_call 13
         refine (sameBytes_any xa ya xn yn xc yc _ _ _ H8.out.2.1 H8.out.2.2.2.1).mono ?_
         rw [show decide ((unhexL s).getD [] = (unhexL s).getD []) = true by simp]
         rintro e w' ⟨rfl, rfl⟩)
      | (go_at_call 14
         refine (sameTexts_any ta ua _ _ tc uc _ _ _ H8.out.2.2.1 H8.out.2.2.2.2 HW.out).mono ?_
         rw [show decide ((wordsE s).2 = (wordsE s).2) = true by simp]
         rintro e w9 ⟨rfl, dq, rfl⟩))
    go_ret
    exact ⟨rfl, below_drewN H8.out.1 _⟩

namespace octetTexts
set_option linter.unusedVariables false
open Go.ChangeShapes Go.WideShapes Go.ChangeAt Go.RowKit Go.As
theorem own : ownKnob Try.prog.godebug = none := by kernel_rfl
theorem laidOut : laidOutB Try.prog = true := by kernel_rfl
set_option maxRecDepth 100000 in
theorem lifted (os : Os) (started : os.Started) (H : Type) (enc : TypeId × Value → H) :
    ReturnsInHanded {} Try.checked os 3 .any (Rows.octetTextsSpec.pre6 enc Try.prog Try.f3 Rows.octetTextsRow.domain false) (Rows.octetTextsSpec.post enc Try.prog Try.f3 false true false false) := by
  refine returnsInHanded_of_change (C := Try.checked) own started (by kernel_rfl) Try.func3
    (ChangeSpec.witness6 (enc := enc) (C := Try.checked) false ⟨#[], #[.slice none 0 0, .string ⟨#[]⟩], []⟩ 8 (by kernel_rfl) (by kernel_rfl) (by kernel_rfl) (by kernel_rfl)) ?_
  intro W base args ds gs before hval0 hW hcnd _
  have hval : ∀ (j : Nat) t v, Try.f3.params[j]? = some t → args[j]? = some v → Value.okWide Try.prog W .any base t v := hval0
  have hW' := hW
  obtain ⟨p, q, hA0, hV, hpq, hfz, hnd⟩ := hW
  have hA : DataW.TrodAll enc Try.prog W 0 (fun _ => true) true Try.f3.params.toList args.toList ds p := hA0
  have hlt : ∀ x ∈ p, x.block < W.heap.size := fun x hx => hW'.lt x (by rw [hpq]; exact List.mem_append_left _ hx)
  rw [Try.params3] at hA hval
  obtain ⟨v0, vs0, d0, ds0, p0, q0, hargs, rfl, hp0, h0, r0⟩ := trodAll_cons hA
  obtain ⟨v1, vs1, d1, ds1, p1, q1, rfl, rfl, hp1, h1, r1⟩ := trodAll_cons r0
  obtain ⟨rfl, rfl, hpn⟩ := trodAll_nil r1
  obtain rfl : args = #[v0, v1] := by cases args; simp_all
  obtain ⟨rfl, rfl⟩ := trodVars_none hV
  obtain ⟨x0, rfl, o0⟩ := bytes_open (hval 0 _ v0 rfl rfl) h0 (fun x hx => hlt x (by simp_all))
  obtain ⟨s1, rfl, rfl, -, w1⟩ := ChangeMaps.open_string Try.underlying9 (hval 1 9 v1 rfl rfl) h1
  obtain ⟨l1, rfl⟩ := exists_str s1
  rw [str_size] at w1
  refine (octetTexts_walk x0 W o0 l1 w1).mono fun e W' ⟨he, hg⟩ => ?_
  subst he
  exact ⟨_, rfl, law_post (T := 4) laidOut (by kernel_rfl) Try.underlying4 rfl rfl hW' rfl rfl rfl hg⟩
theorem over : Rows.octetTextsRow.holds Try.pinned (OpenSpec.ofChange Rows.octetTextsSpec) :=
  OpenClaim.holds_of_wide 3 Try.f3 rfl rfl rfl rfl rfl rfl rfl ⟨rfl, rfl, rfl, rfl, rfl⟩ rfl rfl rfl rfl rfl (by kernel_rfl) Try.func3 (by kernel_rfl)
    (of_decide_eq_true (by kernel_rfl)) (by unfold Func.isWrapper; rw [if_neg (of_decide_eq_false (by kernel_rfl))]; exact ⟨rfl, rfl⟩)
    (fun os started H enc _ => lifted os started H enc)
/-- the statement -/
theorem proved : Rows.OctetTextsSaid := over
#print axioms proved
end octetTexts
end Go.Proofs.Ytldkcfhigcmoaaa
