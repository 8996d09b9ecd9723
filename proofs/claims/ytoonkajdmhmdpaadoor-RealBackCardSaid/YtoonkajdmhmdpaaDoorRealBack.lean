/- RealBack: what is printed is read again, and texts tell reals apart. -/
import Derived.Test.YtoonkajdmhmdpaaDoorRealN
import Derived.Test.YtoonkajdmhmdpaaDoorDoor
namespace Go.Proofs.YtoonkajdmhmdpaaDoor
open Go.RowKit Go.As
set_option linter.unusedVariables false

set_option maxRecDepth 100000 in
set_option maxHeartbeats 3200000 in
theorem realBack_walk (s : List UInt8) (hs : s.length ≤ maxLen) (a : Int) (wa : (Lit.int .u64 a).wf = true) (b : Int) (wb : (Lit.int .u64 b).wf = true) (w : World) (ht : TabAB w) :
    Calls Tryd.prog 8 #[.string (str s), .int .u64 a, .int .u64 b] w fun e w' => e = .returned (.bool true) ∧ Below w.heap.size w w' := by
  obtain ⟨m, rfl, hm⟩ := u64_nat wa
  obtain ⟨n, rfl, hn⟩ := u64_nat wb
  clear wa wb
  have HB := Lib.hid (Below.refl w.heap.size w)
  have HT := Lib.hid ht
  have HTa := Lib.hid ht.1
  clear ht
  by_cases hl : 100 < s.length
  · clear hm hn
    go_enter Tryd.func8, Tryd.ntmps8
    go_wp2_with (first
      | (go_at_call 10
         (with_reducible refine (awake03 _ HTa.out).mono ?_)
         rintro e w1 ⟨rfl, hb⟩
         have HB := Lib.hid (below_then HB.out hb)
         have HT := Lib.hid (HT.out.below hb)
         have HTa := Lib.hid HT.out.1
         clear hb)
      | (go_at_call 22
         first | (with_reducible refine (PS.out _).mono ?_) | (with_reducible refine (PT.out _).mono ?_) | (with_reducible refine (PA.out _).mono ?_)
         rintro e w1 ⟨rfl, hb⟩
         have HB := Lib.hid (below_then HB.out hb)
         have HT := Lib.hid (HT.out.below hb)
         have HTa := Lib.hid HT.out.1
         clear hb)
      | (go_at_call 24
         first | (with_reducible refine (RX.out _ HTa.out).mono ?_) | (with_reducible refine (RA.out _ HTa.out).mono ?_)
         rintro e w1 ⟨rfl, hb⟩
         have HB := Lib.hid (below_then HB.out hb)
         have HT := Lib.hid (HT.out.below hb)
         have HTa := Lib.hid HT.out.1
         clear hb)
      | (go_at_call 26
         first | (with_reducible refine (TX.out _ HT.out).mono ?_) | (with_reducible refine (TA.out _ HT.out).mono ?_) | (with_reducible refine (TB.out _ HT.out).mono ?_)
         rintro e w1 ⟨rfl, hb⟩
         have HB := Lib.hid (below_then HB.out hb)
         have HT := Lib.hid (HT.out.below hb)
         have HTa := Lib.hid HT.out.1
         clear hb)
      | (go_at_call 13
         first | (with_reducible refine (CA.out _).mono ?_) | (with_reducible refine (CB.out _).mono ?_)
         rintro e w1 ⟨rfl, rfl⟩))
    go_ret
    exact ⟨rfl, HB.out⟩
  · obtain ⟨ta, z, hp, hz⟩ := PSpec.all (toN m)
    obtain ⟨xa, hxa⟩ := TSpec.total (toN m)
    obtain ⟨xb, hxb⟩ := TSpec.total (toN n)
    have hta := hp.len
    have RA := Lib.hid (rprint_of hm hp)
    have TA := Lib.hid (rtext_of hm hxa)
    obtain ⟨A, hA⟩ : ∃ A, toN m = A := ⟨_, rfl⟩
    have CA := Lib.hid (fun W => kcanon (w := W) hA)
    have TB := Lib.hid (rtext_of hn hxb)
    obtain ⟨B, hB⟩ : ∃ B, toN n = B := ⟨_, rfl⟩
    have CB := Lib.hid (fun W => kcanon (w := W) hB)
    have hAl : A < 18446744073709551616 := by rw [← hA]; unfold toN; split <;> omega
    have hBl : B < 18446744073709551616 := by rw [← hB]; unfold toN; split <;> omega
    rw [hA] at hxa
    rw [hB] at hxb
    by_cases hab : A = B
    · subst hab
      have := hxa.uniq hxb
      subst this
      clear hxa hxb hB hAl hBl hm hn
      cases hok : rpOk s with
      | false =>
        have h1 := rp_bad hok
        have PS := Lib.hid (rparse_is (s := s) (by omega) h1.1 h1.2)
        clear h1 hok
        rcases hz with rfl | rfl
        · have h6 := again hp
          rw [hA] at h6
          have PA := Lib.hid (rparse_is (s := ta) hta h6.1 h6.2)
          clear hp hA h6 hta
          go_enter Tryd.func8, Tryd.ntmps8
          go_wp2_with (first
            | (go_at_call 10
               (with_reducible refine (awake03 _ HTa.out).mono ?_)
               rintro e w1 ⟨rfl, hb⟩
               have HB := Lib.hid (below_then HB.out hb)
               have HT := Lib.hid (HT.out.below hb)
               have HTa := Lib.hid HT.out.1
               clear hb)
            | (go_at_call 22
               first | (with_reducible refine (PS.out _).mono ?_) | (with_reducible refine (PT.out _).mono ?_) | (with_reducible refine (PA.out _).mono ?_)
               rintro e w1 ⟨rfl, hb⟩
               have HB := Lib.hid (below_then HB.out hb)
               have HT := Lib.hid (HT.out.below hb)
               have HTa := Lib.hid HT.out.1
               clear hb)
            | (go_at_call 24
               first | (with_reducible refine (RX.out _ HTa.out).mono ?_) | (with_reducible refine (RA.out _ HTa.out).mono ?_)
               rintro e w1 ⟨rfl, hb⟩
               have HB := Lib.hid (below_then HB.out hb)
               have HT := Lib.hid (HT.out.below hb)
               have HTa := Lib.hid HT.out.1
               clear hb)
            | (go_at_call 26
               first | (with_reducible refine (TX.out _ HT.out).mono ?_) | (with_reducible refine (TA.out _ HT.out).mono ?_) | (with_reducible refine (TB.out _ HT.out).mono ?_)
               rintro e w1 ⟨rfl, hb⟩
               have HB := Lib.hid (below_then HB.out hb)
               have HT := Lib.hid (HT.out.below hb)
               have HTa := Lib.hid HT.out.1
               clear hb)
            | (go_at_call 13
               first | (with_reducible refine (CA.out _).mono ?_) | (with_reducible refine (CB.out _).mono ?_)
               rintro e w1 ⟨rfl, rfl⟩))
          go_ret
          exact ⟨rfl, HB.out⟩
        · clear hp hA hta
          go_enter Tryd.func8, Tryd.ntmps8
          go_wp2_with (first
            | (go_at_call 10
               (with_reducible refine (awake03 _ HTa.out).mono ?_)
               rintro e w1 ⟨rfl, hb⟩
               have HB := Lib.hid (below_then HB.out hb)
               have HT := Lib.hid (HT.out.below hb)
               have HTa := Lib.hid HT.out.1
               clear hb)
            | (go_at_call 22
               first | (with_reducible refine (PS.out _).mono ?_) | (with_reducible refine (PT.out _).mono ?_) | (with_reducible refine (PA.out _).mono ?_)
               rintro e w1 ⟨rfl, hb⟩
               have HB := Lib.hid (below_then HB.out hb)
               have HT := Lib.hid (HT.out.below hb)
               have HTa := Lib.hid HT.out.1
               clear hb)
            | (go_at_call 24
               first | (with_reducible refine (RX.out _ HTa.out).mono ?_) | (with_reducible refine (RA.out _ HTa.out).mono ?_)
               rintro e w1 ⟨rfl, hb⟩
               have HB := Lib.hid (below_then HB.out hb)
               have HT := Lib.hid (HT.out.below hb)
               have HTa := Lib.hid HT.out.1
               clear hb)
            | (go_at_call 26
               first | (with_reducible refine (TX.out _ HT.out).mono ?_) | (with_reducible refine (TA.out _ HT.out).mono ?_) | (with_reducible refine (TB.out _ HT.out).mono ?_)
               rintro e w1 ⟨rfl, hb⟩
               have HB := Lib.hid (below_then HB.out hb)
               have HT := Lib.hid (HT.out.below hb)
               have HTa := Lib.hid HT.out.1
               clear hb)
            | (go_at_call 13
               first | (with_reducible refine (CA.out _).mono ?_) | (with_reducible refine (CB.out _).mono ?_)
               rintro e w1 ⟨rfl, rfl⟩))
          go_ret
          exact ⟨rfl, HB.out⟩
      | true =>
        obtain ⟨x, t, h1, h2, h3, h4, h5, h6, h7, h8⟩ := back hok
        have PS := Lib.hid (rparse_is (s := s) (by omega) h1 h2)
        have PT := Lib.hid (rparse_is (s := t) (by omega) h6 h7)
        have RX := Lib.hid (rprint_of h3 h4)
        have TX := Lib.hid (rtext_of h3 h5)
        have g1 : ¬ s.length < t.length := by omega
        have g2 : ¬ (s.length : Int) < (t.length : Int) := by omega
        clear h1 h2 h3 h4 h5 h6 h7 h8 hok
        rcases hz with rfl | rfl
        · have h6 := again hp
          rw [hA] at h6
          have PA := Lib.hid (rparse_is (s := ta) hta h6.1 h6.2)
          clear hp hA h6 hta
          go_enter Tryd.func8, Tryd.ntmps8
          go_wp2_with (first
            | (go_at_call 10
               (with_reducible refine (awake03 _ HTa.out).mono ?_)
               rintro e w1 ⟨rfl, hb⟩
               have HB := Lib.hid (below_then HB.out hb)
               have HT := Lib.hid (HT.out.below hb)
               have HTa := Lib.hid HT.out.1
               clear hb)
            | (go_at_call 22
               first | (with_reducible refine (PS.out _).mono ?_) | (with_reducible refine (PT.out _).mono ?_) | (with_reducible refine (PA.out _).mono ?_)
               rintro e w1 ⟨rfl, hb⟩
               have HB := Lib.hid (below_then HB.out hb)
               have HT := Lib.hid (HT.out.below hb)
               have HTa := Lib.hid HT.out.1
               clear hb)
            | (go_at_call 24
               first | (with_reducible refine (RX.out _ HTa.out).mono ?_) | (with_reducible refine (RA.out _ HTa.out).mono ?_)
               rintro e w1 ⟨rfl, hb⟩
               have HB := Lib.hid (below_then HB.out hb)
               have HT := Lib.hid (HT.out.below hb)
               have HTa := Lib.hid HT.out.1
               clear hb)
            | (go_at_call 26
               first | (with_reducible refine (TX.out _ HT.out).mono ?_) | (with_reducible refine (TA.out _ HT.out).mono ?_) | (with_reducible refine (TB.out _ HT.out).mono ?_)
               rintro e w1 ⟨rfl, hb⟩
               have HB := Lib.hid (below_then HB.out hb)
               have HT := Lib.hid (HT.out.below hb)
               have HTa := Lib.hid HT.out.1
               clear hb)
            | (go_at_call 13
               first | (with_reducible refine (CA.out _).mono ?_) | (with_reducible refine (CB.out _).mono ?_)
               rintro e w1 ⟨rfl, rfl⟩))
          go_ret
          exact ⟨rfl, HB.out⟩
        · clear hp hA hta
          go_enter Tryd.func8, Tryd.ntmps8
          go_wp2_with (first
            | (go_at_call 10
               (with_reducible refine (awake03 _ HTa.out).mono ?_)
               rintro e w1 ⟨rfl, hb⟩
               have HB := Lib.hid (below_then HB.out hb)
               have HT := Lib.hid (HT.out.below hb)
               have HTa := Lib.hid HT.out.1
               clear hb)
            | (go_at_call 22
               first | (with_reducible refine (PS.out _).mono ?_) | (with_reducible refine (PT.out _).mono ?_) | (with_reducible refine (PA.out _).mono ?_)
               rintro e w1 ⟨rfl, hb⟩
               have HB := Lib.hid (below_then HB.out hb)
               have HT := Lib.hid (HT.out.below hb)
               have HTa := Lib.hid HT.out.1
               clear hb)
            | (go_at_call 24
               first | (with_reducible refine (RX.out _ HTa.out).mono ?_) | (with_reducible refine (RA.out _ HTa.out).mono ?_)
               rintro e w1 ⟨rfl, hb⟩
               have HB := Lib.hid (below_then HB.out hb)
               have HT := Lib.hid (HT.out.below hb)
               have HTa := Lib.hid HT.out.1
               clear hb)
            | (go_at_call 26
               first | (with_reducible refine (TX.out _ HT.out).mono ?_) | (with_reducible refine (TA.out _ HT.out).mono ?_) | (with_reducible refine (TB.out _ HT.out).mono ?_)
               rintro e w1 ⟨rfl, hb⟩
               have HB := Lib.hid (below_then HB.out hb)
               have HT := Lib.hid (HT.out.below hb)
               have HTa := Lib.hid HT.out.1
               clear hb)
            | (go_at_call 13
               first | (with_reducible refine (CA.out _).mono ?_) | (with_reducible refine (CB.out _).mono ?_)
               rintro e w1 ⟨rfl, rfl⟩))
          go_ret
          exact ⟨rfl, HB.out⟩
    · have e1 : ((A : Int) == (B : Int)) = false := beq_false_of_ne (by omega)
      have e2 : ¬ (A : Int) = (B : Int) := by omega
      have e5 : ¬ xa = xb := fun h => hab (by subst h; exact hxa.inj hAl hBl hxb)
      have e4 : (xa == xb) = false := beq_false_of_ne e5
      clear hxa hxb hB hAl hBl hm hn
      cases hok : rpOk s with
      | false =>
        have h1 := rp_bad hok
        have PS := Lib.hid (rparse_is (s := s) (by omega) h1.1 h1.2)
        clear h1 hok
        rcases hz with rfl | rfl
        · have h6 := again hp
          rw [hA] at h6
          have PA := Lib.hid (rparse_is (s := ta) hta h6.1 h6.2)
          clear hp hA h6 hta
          go_enter Tryd.func8, Tryd.ntmps8
          go_wp2_with (first
            | (go_at_call 10
               (with_reducible refine (awake03 _ HTa.out).mono ?_)
               rintro e w1 ⟨rfl, hb⟩
               have HB := Lib.hid (below_then HB.out hb)
               have HT := Lib.hid (HT.out.below hb)
               have HTa := Lib.hid HT.out.1
               clear hb)
            | (go_at_call 22
               first | (with_reducible refine (PS.out _).mono ?_) | (with_reducible refine (PT.out _).mono ?_) | (with_reducible refine (PA.out _).mono ?_)
               rintro e w1 ⟨rfl, hb⟩
               have HB := Lib.hid (below_then HB.out hb)
               have HT := Lib.hid (HT.out.below hb)
               have HTa := Lib.hid HT.out.1
               clear hb)
            | (go_at_call 24
               first | (with_reducible refine (RX.out _ HTa.out).mono ?_) | (with_reducible refine (RA.out _ HTa.out).mono ?_)
               rintro e w1 ⟨rfl, hb⟩
               have HB := Lib.hid (below_then HB.out hb)
               have HT := Lib.hid (HT.out.below hb)
               have HTa := Lib.hid HT.out.1
               clear hb)
            | (go_at_call 26
               first | (with_reducible refine (TX.out _ HT.out).mono ?_) | (with_reducible refine (TA.out _ HT.out).mono ?_) | (with_reducible refine (TB.out _ HT.out).mono ?_)
               rintro e w1 ⟨rfl, hb⟩
               have HB := Lib.hid (below_then HB.out hb)
               have HT := Lib.hid (HT.out.below hb)
               have HTa := Lib.hid HT.out.1
               clear hb)
            | (go_at_call 13
               first | (with_reducible refine (CA.out _).mono ?_) | (with_reducible refine (CB.out _).mono ?_)
               rintro e w1 ⟨rfl, rfl⟩))
          go_ret
          exact ⟨rfl, HB.out⟩
        · clear hp hA hta
          go_enter Tryd.func8, Tryd.ntmps8
          go_wp2_with (first
            | (go_at_call 10
               (with_reducible refine (awake03 _ HTa.out).mono ?_)
               rintro e w1 ⟨rfl, hb⟩
               have HB := Lib.hid (below_then HB.out hb)
               have HT := Lib.hid (HT.out.below hb)
               have HTa := Lib.hid HT.out.1
               clear hb)
            | (go_at_call 22
               first | (with_reducible refine (PS.out _).mono ?_) | (with_reducible refine (PT.out _).mono ?_) | (with_reducible refine (PA.out _).mono ?_)
               rintro e w1 ⟨rfl, hb⟩
               have HB := Lib.hid (below_then HB.out hb)
               have HT := Lib.hid (HT.out.below hb)
               have HTa := Lib.hid HT.out.1
               clear hb)
            | (go_at_call 24
               first | (with_reducible refine (RX.out _ HTa.out).mono ?_) | (with_reducible refine (RA.out _ HTa.out).mono ?_)
               rintro e w1 ⟨rfl, hb⟩
               have HB := Lib.hid (below_then HB.out hb)
               have HT := Lib.hid (HT.out.below hb)
               have HTa := Lib.hid HT.out.1
               clear hb)
            | (go_at_call 26
               first | (with_reducible refine (TX.out _ HT.out).mono ?_) | (with_reducible refine (TA.out _ HT.out).mono ?_) | (with_reducible refine (TB.out _ HT.out).mono ?_)
               rintro e w1 ⟨rfl, hb⟩
               have HB := Lib.hid (below_then HB.out hb)
               have HT := Lib.hid (HT.out.below hb)
               have HTa := Lib.hid HT.out.1
               clear hb)
            | (go_at_call 13
               first | (with_reducible refine (CA.out _).mono ?_) | (with_reducible refine (CB.out _).mono ?_)
               rintro e w1 ⟨rfl, rfl⟩))
          go_ret
          exact ⟨rfl, HB.out⟩
      | true =>
        obtain ⟨x, t, h1, h2, h3, h4, h5, h6, h7, h8⟩ := back hok
        have PS := Lib.hid (rparse_is (s := s) (by omega) h1 h2)
        have PT := Lib.hid (rparse_is (s := t) (by omega) h6 h7)
        have RX := Lib.hid (rprint_of h3 h4)
        have TX := Lib.hid (rtext_of h3 h5)
        have g1 : ¬ s.length < t.length := by omega
        have g2 : ¬ (s.length : Int) < (t.length : Int) := by omega
        clear h1 h2 h3 h4 h5 h6 h7 h8 hok
        rcases hz with rfl | rfl
        · have h6 := again hp
          rw [hA] at h6
          have PA := Lib.hid (rparse_is (s := ta) hta h6.1 h6.2)
          clear hp hA h6 hta
          go_enter Tryd.func8, Tryd.ntmps8
          go_wp2_with (first
            | (go_at_call 10
               (with_reducible refine (awake03 _ HTa.out).mono ?_)
               rintro e w1 ⟨rfl, hb⟩
               have HB := Lib.hid (below_then HB.out hb)
               have HT := Lib.hid (HT.out.below hb)
               have HTa := Lib.hid HT.out.1
               clear hb)
            | (go_at_call 22
               first | (with_reducible refine (PS.out _).mono ?_) | (with_reducible refine (PT.out _).mono ?_) | (with_reducible refine (PA.out _).mono ?_)
               rintro e w1 ⟨rfl, hb⟩
               have HB := Lib.hid (below_then HB.out hb)
               have HT := Lib.hid (HT.out.below hb)
               have HTa := Lib.hid HT.out.1
               clear hb)
            | (go_at_call 24
               first | (with_reducible refine (RX.out _ HTa.out).mono ?_) | (with_reducible refine (RA.out _ HTa.out).mono ?_)
               rintro e w1 ⟨rfl, hb⟩
               have HB := Lib.hid (below_then HB.out hb)
               have HT := Lib.hid (HT.out.below hb)
               have HTa := Lib.hid HT.out.1
               clear hb)
            | (go_at_call 26
               first | (with_reducible refine (TX.out _ HT.out).mono ?_) | (with_reducible refine (TA.out _ HT.out).mono ?_) | (with_reducible refine (TB.out _ HT.out).mono ?_)
               rintro e w1 ⟨rfl, hb⟩
               have HB := Lib.hid (below_then HB.out hb)
               have HT := Lib.hid (HT.out.below hb)
               have HTa := Lib.hid HT.out.1
               clear hb)
            | (go_at_call 13
               first | (with_reducible refine (CA.out _).mono ?_) | (with_reducible refine (CB.out _).mono ?_)
               rintro e w1 ⟨rfl, rfl⟩))
          go_ret
          exact ⟨rfl, HB.out⟩
        · clear hp hA hta
          go_enter Tryd.func8, Tryd.ntmps8
          go_wp2_with (first
            | (go_at_call 10
               (with_reducible refine (awake03 _ HTa.out).mono ?_)
               rintro e w1 ⟨rfl, hb⟩
               have HB := Lib.hid (below_then HB.out hb)
               have HT := Lib.hid (HT.out.below hb)
               have HTa := Lib.hid HT.out.1
               clear hb)
            | (go_at_call 22
               first | (with_reducible refine (PS.out _).mono ?_) | (with_reducible refine (PT.out _).mono ?_) | (with_reducible refine (PA.out _).mono ?_)
               rintro e w1 ⟨rfl, hb⟩
               have HB := Lib.hid (below_then HB.out hb)
               have HT := Lib.hid (HT.out.below hb)
               have HTa := Lib.hid HT.out.1
               clear hb)
            | (go_at_call 24
               first | (with_reducible refine (RX.out _ HTa.out).mono ?_) | (with_reducible refine (RA.out _ HTa.out).mono ?_)
               rintro e w1 ⟨rfl, hb⟩
               have HB := Lib.hid (below_then HB.out hb)
               have HT := Lib.hid (HT.out.below hb)
               have HTa := Lib.hid HT.out.1
               clear hb)
            | (go_at_call 26
               first | (with_reducible refine (TX.out _ HT.out).mono ?_) | (with_reducible refine (TA.out _ HT.out).mono ?_) | (with_reducible refine (TB.out _ HT.out).mono ?_)
               rintro e w1 ⟨rfl, hb⟩
               have HB := Lib.hid (below_then HB.out hb)
               have HT := Lib.hid (HT.out.below hb)
               have HTa := Lib.hid HT.out.1
               clear hb)
            | (go_at_call 13
               first | (with_reducible refine (CA.out _).mono ?_) | (with_reducible refine (CB.out _).mono ?_)
               rintro e w1 ⟨rfl, rfl⟩))
          go_ret
          exact ⟨rfl, HB.out⟩

namespace realBack
set_option linter.unusedVariables false
open Go.ChangeShapes Go.WideShapes Go.ChangeAt Go.RowKit Go.As
theorem own : ownKnob Tryd.prog.godebug = none := by kernel_rfl
theorem laidOut : laidOutB Tryd.prog = true := by kernel_rfl
theorem door_met (os : Os) (args : Array Value) : laidMetH Tryd.prog Rows.realBackRow.laid ((World.doorLaid Tryd.prog 24 os).forCall (fun _ _ => 0) ⟨#[], args, []⟩).memory :=
  laidMetH_of_parts3 (fuel := 8) (laidMet_of_run' 8 (by kernel_rfl) (by kernel_rfl)) (by kernel_rfl) (by kernel_rfl)
set_option maxRecDepth 100000 in
theorem lifted (os : Os) (started : os.Started) (H : Type) (enc : TypeId × Value → H) :
    ReturnsInHanded {} Tryd.checked os 8 .any (fun w args => (Rows.realBackSpec.pre enc Tryd.prog Tryd.f8 [] false w args ∧ laidMetH Tryd.prog Rows.realBackRow.laid w) ∧ sizedMet enc Tryd.prog Tryd.f8 (OpenSpec.ofChange Rows.realBackSpec) false w args) (Rows.realBackSpec.post enc Tryd.prog Tryd.f8 false true false false) := by
  refine returnsInHanded_of_change_and (C := Tryd.checked) (X := fun w _ => laidMetH Tryd.prog Rows.realBackRow.laid w) (fun _ _ _ hh h => h.of_heap hh) own started (by kernel_rfl) Tryd.func8
    (ChangeSpec.witness_shaped (enc := enc) (C := Tryd.checked) (os := os) (X := fun w _ => laidMetH Tryd.prog Rows.realBackRow.laid w) false (World.doorLaid Tryd.prog 24 os) #[.string ⟨#[]⟩, .int .u64 0, .int .u64 0] 8 rfl (World.shaped_of_RefB (by kernel_rfl) (by kernel_rfl)) (by kernel_rfl) (by kernel_rfl) (by kernel_rfl) (door_met os _)) ?_
  intro W base args ds gs before hval0 hW hcnd _ hL _
  have hval : ∀ (j : Nat) t v, Tryd.f8.params[j]? = some t → args[j]? = some v → Value.okWide Tryd.prog W .any base t v := hval0
  have hW' := hW
  obtain ⟨p, q, hA0, hV, hpq, hfz, hnd⟩ := hW
  have hA : DataW.TrodAll enc Tryd.prog W 0 (fun _ => true) true Tryd.f8.params.toList args.toList ds p := hA0
  have hlt : ∀ x ∈ p, x.block < W.heap.size := fun x hx => hW'.lt x (by rw [hpq]; exact List.mem_append_left _ hx)
  rw [Tryd.params8] at hA hval
  obtain ⟨v0, vs0, d0, ds0, p0, q0, hargs, rfl, hp0, h0, r0⟩ := trodAll_cons hA
  obtain ⟨v1, vs1, d1, ds1, p1, q1, rfl, rfl, hp1, h1, r1⟩ := trodAll_cons r0
  obtain ⟨v2, vs2, d2, ds2, p2, q2, rfl, rfl, hp2, h2, r2⟩ := trodAll_cons r1
  obtain ⟨rfl, rfl, hpn⟩ := trodAll_nil r2
  obtain rfl : args = #[v0, v1, v2] := by cases args; simp_all
  obtain ⟨rfl, rfl⟩ := trodVars_none hV
  obtain ⟨s0, rfl, rfl, -, w0⟩ := ChangeMaps.open_string Tryd.underlying9 (hval 0 9 v0 rfl rfl) h0
  obtain ⟨l0, rfl⟩ := exists_str s0
  rw [str_size] at w0
  obtain ⟨a1, rfl, rfl, -, w1⟩ := open_int Tryd.underlying25 (hval 1 25 v1 rfl rfl) h1
  obtain ⟨a2, rfl, rfl, -, w2⟩ := open_int Tryd.underlying25 (hval 2 25 v2 rfl rfl) h2
  refine (realBack_walk l0 w0 a1 w1 a2 w2 W ⟨tab_of_laid (laid := Rows.realBackRow.laid) rfl hL, tabB_of_laid (laid := Rows.realBackRow.laid) rfl hL⟩).mono fun e W' ⟨he, hg⟩ => ?_
  subst he
  exact ⟨_, rfl, law_post (T := 4) laidOut (by kernel_rfl) Tryd.underlying4 rfl rfl hW' rfl rfl rfl hg⟩
theorem over : Rows.realBackRow.holds Tryd.pinned (OpenSpec.ofChange Rows.realBackSpec) :=
  OpenClaim.holds_of_wide 8 Tryd.f8 rfl rfl rfl rfl rfl rfl rfl ⟨rfl, rfl, rfl, rfl, rfl⟩ rfl rfl rfl rfl rfl (by kernel_rfl) Tryd.func8 (by kernel_rfl)
    (of_decide_eq_true (by kernel_rfl)) (by unfold Func.isWrapper; rw [if_neg (of_decide_eq_false (by kernel_rfl))]; exact ⟨rfl, rfl⟩)
    (fun os started H enc _ => lifted os started H enc)
/-- the statement -/
theorem proved : Rows.RealBackCardSaid :=
  Claim7.holds_tied_plain_at .later [] [.data, .data, .data] true (true, "7e8a5e3ef04c6f126ea9b2dcb9de6630f871d33b2f365b3a025e1e7c8e672a72") false over (fun _ h => by cases h) (by kernel_rfl) (fun _ h => by cases h) realBack_row_tie rfl ⟨rfl, rfl⟩ (by kernel_rfl) rfl
    (fun f fn hf hfn => by
      obtain rfl : f = 8 := Option.some.inj ((show Tryd.prog.funcNamed "assize/assizelaw03.RealBack" = some 8 by kernel_rfl).symm.trans hf) |>.symm
      obtain rfl : fn = Tryd.f8 := (Option.some.inj (Tryd.func8.symm.trans hfn)).symm
      exact ⟨by kernel_rfl, fun j t ht => by
        rw [Tryd.params8] at ht
        have hm : t ∈ [9, 25, 25] := by simpa using Array.mem_of_getElem? ht
        have hall : ([9, 25, 25].all fun u => !Tryd.prog.wantsStandIn u) = true := by kernel_rfl
        exact (show Tryd.prog.wantsStandIn t = false by simpa using List.all_eq_true.1 hall t hm)⟩)
    (by kernel_rfl)
#print axioms proved
end realBack
end Go.Proofs.YtoonkajdmhmdpaaDoor
