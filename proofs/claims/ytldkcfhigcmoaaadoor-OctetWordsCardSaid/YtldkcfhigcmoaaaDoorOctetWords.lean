/- The law OctetWords: the words of a line, put together with blanks, are the line; none of them has a blank or no bytes; every input. -/
import Derived.Test.YtldkcfhigcmoaaaDoorDoor
import Derived.Test.YtldkcfhigcmoaaaDoorJoinW
import Derived.Test.YtldkcfhigcmoaaaDoorBnd
import Derived.Test.YtldkcfhigcmoaaaDoorOAwake
namespace Go.Proofs.YtldkcfhigcmoaaaDoor
open Go.RowKit Go.As
set_option linter.unusedVariables false


set_option maxRecDepth 100000 in
set_option maxHeartbeats 6400000 in
theorem octetWords_walk (s : List UInt8) (hs : s.length ≤ maxLen) (w : World) (ht : Tab w) :
    Calls Tryd.prog 7 #[.string (str s)] w fun e w' => e = .returned (.bool true) ∧ Below w.heap.size w w' := by
  replace hs : s.length ≤ 9223372036854775807 := by simp only [maxLen] at hs; omega
  have HT := Lib.hid ht
  clear ht
  by_cases hbig : 1000 < s.length
  · go_enter Tryd.func7, Tryd.ntmps7
    go_wp2_with (first
      | (go_at_call 29
         refine (oawake_any w HT.out).mono ?_
         rintro e w1 ⟨rfl, hb1⟩
         have H1 := Lib.hid hb1
         clear hb1))
    go_ret
    exact ⟨rfl, H1.out⟩
  have hs2 : s.length ≤ 1048576 := by omega
  rcases wordsE_cases s with he | he | ⟨he, h64, hne, -⟩
  · have HE := Lib.hid he
    clear he
    go_enter Tryd.func7, Tryd.ntmps7
    go_wp2_with (first
      | (go_at_call 29
         refine (oawake_any w HT.out).mono ?_
         rintro e w1 ⟨rfl, hb1⟩
         have H1 := Lib.hid hb1
         clear hb1)
      | (go_at_call 47
         refine (owords_any s _ hs2).mono ?_
         rw [HE.out]
         rintro e w3 ⟨tv, rfl, hr3, hb3⟩
         obtain ⟨ta, tc, rfl, -, -⟩ := own_form hr3
         have H3 := Lib.hid (below_then H1.out hb3)
         clear hr3 hb3))
    go_ret
    exact ⟨rfl, H3.out⟩
  · have HE := Lib.hid he
    clear he
    go_enter Tryd.func7, Tryd.ntmps7
    go_wp2_with (first
      | (go_at_call 29
         refine (oawake_any w HT.out).mono ?_
         rintro e w1 ⟨rfl, hb1⟩
         have H1 := Lib.hid hb1
         clear hb1)
      | (go_at_call 47
         refine (owords_any s _ hs2).mono ?_
         rw [HE.out]
         rintro e w3 ⟨tv, rfl, hr3, hb3⟩
         obtain ⟨ta, tc, rfl, -, -⟩ := own_form hr3
         have H3 := Lib.hid (below_then H1.out hb3)
         clear hr3 hb3))
    go_ret
    exact ⟨rfl, H3.out⟩
  obtain ⟨LL, hLL⟩ : ∃ LL : List (List UInt8), LL = splitW s := ⟨_, rfl⟩
  rw [← hLL] at he h64 hne
  have HE := Lib.hid he
  have HL := Lib.hid (show (∀ x ∈ LL, x ≠ [] ∧ (32 : UInt8) ∉ x) ∧ Lib.join LL [32] = s from ⟨fun x hx => ⟨hne x hx, splitW_no s x (by rw [← hLL]; exact hx)⟩, by rw [hLL]; exact join_splitW s⟩)
  clear he hne hLL
  go_enter Tryd.func7, Tryd.ntmps7
  go_wp2_with (first
    | (go_at_call 29
       refine (oawake_any w HT.out).mono ?_
       rintro e w1 ⟨rfl, hb1⟩
       have H1 := Lib.hid hb1
       clear hb1)
    | (go_at_call 47
       refine (owords_any s _ hs2).mono ?_
       rw [HE.out]
       rintro e w3 ⟨tv, rfl, hr3, hb3⟩
       obtain ⟨ta, tc, rfl, hnc, -⟩ := own_form hr3
       have H3 := Lib.hid (And.intro (below_then H1.out hb3) (Sl.of_own hr3))
       clear hr3 hb3))
  generalize hn : LL.length = n at *
  go_loopw [6] (fun i wr => ∃ k : Nat, k ≤ n ∧ i = .int .i64 k ∧ wr = w3) (fun i _ => n - (intOf i).toNat)
  case atStart => exact ⟨0, by omega, rfl, rfl⟩
  case round =>
    obtain ⟨k, hk, rfl, rfl⟩ := hrel
    by_cases hlt : k < n
    · obtain ⟨x, hx⟩ : ∃ x, LL[k]? = some x := ⟨_, List.getElem?_eq_getElem (by omega)⟩
      obtain ⟨ad, u, hA, -, hu, hca⟩ := H3.out.2.at1 hlt
      rw [txs_get hx] at hu
      obtain rfl := Option.some.inj hu
      subst hA
      obtain ⟨hx1, hx2⟩ := HL.out.1 x (List.mem_of_getElem? hx)
      have hxb : (x == []) = false := by simpa using hx1
      have HX2 := Lib.hid hx2
      clear hx hu hx1 hx2
      go_wp2_with (first
        | (go_at_call 48
           refine (contains_bl x _).mono ?_
           rw [show decide ((32 : UInt8) ∈ x) = false by simpa using HX2.out]
           rintro e w' ⟨rfl, rfl⟩))
      go_roundw
      case rel => exact ⟨k + 1, by omega, by go_num, trivial⟩
      case measure => simp [intOf]; omega
    · go_wp2_with (first
        | (go_at_call 49
           refine (joinW_any ta n tc LL _ H3.out.2 hn hnc (by omega) (by rw [HL.out.2]; omega)).mono ?_
           rw [HL.out.2]
           rintro e w4 ⟨rfl, hb4⟩
           have H4 := Lib.hid (below_then H3.out.1 hb4)
           clear hb4))
      go_ret
      exact ⟨ret_bool (by simp; omega), H4.out⟩

namespace octetWords
set_option linter.unusedVariables false
open Go.ChangeShapes Go.WideShapes Go.ChangeAt Go.RowKit Go.As
theorem own : ownKnob Tryd.prog.godebug = none := by kernel_rfl
theorem laidOut : laidOutB Tryd.prog = true := by kernel_rfl
theorem door_met (os : Os) (args : Array Value) : laidMetH Tryd.prog Rows.octetWordsRow.laid ((World.doorLaid Tryd.prog 24 os).forCall (fun _ _ => 0) ⟨#[], args, []⟩).memory :=
  laidMetH_of_parts3 (fuel := 8) (laidMet_of_run' 8 (by kernel_rfl) (by kernel_rfl)) (by kernel_rfl) (by kernel_rfl)
set_option maxRecDepth 100000 in
theorem lifted (os : Os) (started : os.Started) (H : Type) (enc : TypeId × Value → H) :
    ReturnsInHanded {} Tryd.checked os 7 .any (fun w args => (Rows.octetWordsSpec.pre enc Tryd.prog Tryd.f7 [] false w args ∧ laidMetH Tryd.prog Rows.octetWordsRow.laid w) ∧ sizedMet enc Tryd.prog Tryd.f7 (OpenSpec.ofChange Rows.octetWordsSpec) false w args) (Rows.octetWordsSpec.post enc Tryd.prog Tryd.f7 false true false false) := by
  refine returnsInHanded_of_change_and (C := Tryd.checked) (X := fun w _ => laidMetH Tryd.prog Rows.octetWordsRow.laid w) (fun _ _ _ hh h => h.of_heap hh) own started (by kernel_rfl) Tryd.func7
    (ChangeSpec.witness_shaped (enc := enc) (C := Tryd.checked) (os := os) (X := fun w _ => laidMetH Tryd.prog Rows.octetWordsRow.laid w) false (World.doorLaid Tryd.prog 24 os) #[.string ⟨#[]⟩] 8 rfl (World.shaped_of_RefB (by kernel_rfl) (by kernel_rfl)) (by kernel_rfl) (by kernel_rfl) (by kernel_rfl) (door_met os _)) ?_
  intro W base args ds gs before hval0 hW hcnd _ hL _
  have hval : ∀ (j : Nat) t v, Tryd.f7.params[j]? = some t → args[j]? = some v → Value.okWide Tryd.prog W .any base t v := hval0
  have hW' := hW
  obtain ⟨p, q, hA0, hV, hpq, hfz, hnd⟩ := hW
  have hA : DataW.TrodAll enc Tryd.prog W 0 (fun _ => true) true Tryd.f7.params.toList args.toList ds p := hA0
  have hlt : ∀ x ∈ p, x.block < W.heap.size := fun x hx => hW'.lt x (by rw [hpq]; exact List.mem_append_left _ hx)
  rw [Tryd.params7] at hA hval
  obtain ⟨v0, vs0, d0, ds0, p0, q0, hargs, rfl, hp0, h0, r0⟩ := trodAll_cons hA
  obtain ⟨rfl, rfl, hpn⟩ := trodAll_nil r0
  obtain rfl : args = #[v0] := by cases args; simp_all
  obtain ⟨rfl, rfl⟩ := trodVars_none hV
  obtain ⟨s0, rfl, rfl, -, w0⟩ := ChangeMaps.open_string Tryd.underlying9 (hval 0 9 v0 rfl rfl) h0
  obtain ⟨l0, rfl⟩ := exists_str s0
  rw [str_size] at w0
  refine (octetWords_walk l0 w0 W (tab_of_laid (laid := Rows.octetWordsRow.laid) rfl hL)).mono fun e W' ⟨he, hg⟩ => ?_
  subst he
  exact ⟨_, rfl, law_post (T := 4) laidOut (by kernel_rfl) Tryd.underlying4 rfl rfl hW' rfl rfl rfl hg⟩
theorem over : Rows.octetWordsRow.holds Tryd.pinned (OpenSpec.ofChange Rows.octetWordsSpec) :=
  OpenClaim.holds_of_wide 7 Tryd.f7 rfl rfl rfl rfl rfl rfl rfl ⟨rfl, rfl, rfl, rfl, rfl⟩ rfl rfl rfl rfl rfl (by kernel_rfl) Tryd.func7 (by kernel_rfl)
    (of_decide_eq_true (by kernel_rfl)) (by unfold Func.isWrapper; rw [if_neg (of_decide_eq_false (by kernel_rfl))]; exact ⟨rfl, rfl⟩)
    (fun os started H enc _ => lifted os started H enc)
/-- the statement -/
theorem proved : Rows.OctetWordsCardSaid :=
  Claim7.holds_tied_plain_at .later [] [.data, .data, .data] true (true, "c5dbe156eb60a59730607763013cde13550478e2496cc4cac80feebce387f0b5") false over (fun _ h => by cases h) (by kernel_rfl) (fun _ h => by cases h) octetWords_row_tie rfl ⟨rfl, rfl⟩ (by kernel_rfl) rfl
    (fun f fn hf hfn => by
      obtain rfl : f = 7 := Option.some.inj ((show Tryd.prog.funcNamed "assize/assizelaw01.OctetWords" = some 7 by kernel_rfl).symm.trans hf) |>.symm
      obtain rfl : fn = Tryd.f7 := (Option.some.inj (Tryd.func7.symm.trans hfn)).symm
      exact ⟨by kernel_rfl, fun j t ht => by
        rw [Tryd.params7] at ht
        have hm : t ∈ [9] := by simpa using Array.mem_of_getElem? ht
        have hall : ([9].all fun u => !Tryd.prog.wantsStandIn u) = true := by kernel_rfl
        exact (show Tryd.prog.wantsStandIn t = false by simpa using List.all_eq_true.1 hall t hm)⟩)
    (by kernel_rfl)
#print axioms proved
end octetWords
end Go.Proofs.YtldkcfhigcmoaaaDoor
