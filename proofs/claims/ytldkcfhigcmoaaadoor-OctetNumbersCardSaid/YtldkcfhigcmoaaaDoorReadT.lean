/- What the document's ReadShort answers. Conditions: those in the theorem. -/
import Derived.Test.YtldkcfhigcmoaaaDoorReadS
import Derived.Test.YtldkcfhigcmoaaaDoorPlan
namespace Go.Proofs.YtldkcfhigcmoaaaDoor
open Go.RowKit Go.As
set_option linter.unusedVariables false

theorem short_no {l : List UInt8} {k : Nat} {b : UInt8} (hkl : k < l.length) (hb : l[k] = b) (hk9 : k ≤ 9) (hread : readS 0 l = addS (l.take k) (readS k (l.drop k))) (hall : ∀ x ∈ l.take k, 128 ≤ x.toNat) (h128 : b.toNat < 128)
    (hne : shortL ((valL (l.take k) + b.toNat % 128 * 128 ^ k) % 18446744073709551616) ≠ l.take (k + 1)) : rsE l = (0, 0, 4) := by
  subst hb
  rw [Nat.mod_eq_of_lt h128] at hne
  have h := mt (short_iff hkl hk9 hall h128).2 hne
  by_cases h1 : k = 9 ∧ 1 < l[k].toNat
  · exact rsE_none (readS_stop hkl hread (.inr h1))
  · by_cases h2 : l[k].toNat = 0 ∧ 0 < k
    · exact rsE_none (readS_zero hkl hread h2.1 h2.2)
    · exact absurd ⟨h1, h2⟩ h
theorem short_yes {l : List UInt8} {k : Nat} {b : UInt8} (hkl : k < l.length) (hb : l[k] = b) (hk9 : k ≤ 9) (hread : readS 0 l = addS (l.take k) (readS k (l.drop k))) (hall : ∀ x ∈ l.take k, 128 ≤ x.toNat) (h128 : b.toNat < 128)
    (heq : shortL ((valL (l.take k) + b.toNat % 128 * 128 ^ k) % 18446744073709551616) = l.take (k + 1)) : rsE l = ((valL (l.take k) + b.toNat % 128 * 128 ^ k) % 18446744073709551616, k + 1, 0) := by
  subst hb
  have h := heq
  rw [Nat.mod_eq_of_lt h128] at h
  obtain ⟨h1, h2⟩ := (short_iff hkl hk9 hall h128).1 h
  have hv := valL_lt (l.take k)
  rw [show (l.take k).length = k by rw [List.length_take]; omega] at hv
  rw [val_done hk9 hv h128 (by omega)]
  exact rsE_some (readS_done hkl hread (by omega) h128 h2)

set_option maxRecDepth 100000 in
set_option maxHeartbeats 1600000 in
theorem rreads_any (A : Option Addr) (n c : Nat) (l : List UInt8) (w : World) (ha : Sl w 1 A n (byt l)) (hn : n ≤ c) (hc : c ≤ 9223372036854775807) :
    Calls Tryd.prog 27 #[.slice A n c] w fun e w' => e = .returned (.tuple #[.int .u64 (rsE l).1, .int .i64 (rsE l).2.1]) ∧ Below w.heap.size w w' := by
  have hl : l.length = n := by have := ha.len1; simpa [byt] using this
  have HL := Lib.hid hl
  have HA := Lib.hid ha
  have hnm : n ≤ 9223372036854775807 := by omega
  have HC := Lib.hid (And.intro hn hc)
  clear ha hl hn hc
  go_enter Tryd.func27, Tryd.ntmps27
  go_wp2_with fail
  go_loopw [4, 5] (fun nv iv wr => ∃ k x : Nat, k ≤ n ∧ k ≤ 10 ∧ nv = .int .u64 x ∧ iv = .int .i64 k ∧ ((k ≤ 9 ∧ x = valL (l.take k) ∧ readS 0 l = addS (l.take k) (readS k (l.drop k)) ∧ (∀ x ∈ l.take k, 128 ≤ x.toNat)) ∨ (k = 10 ∧ readS 0 l = none)) ∧ wr = w) (fun _ iv _ => n - (intOf iv).toNat)
  case atStart => exact ⟨0, 0, by omega, by omega, rfl, rfl, .inl ⟨by omega, by simp [valL], by simp [addS_nil], by simp⟩, rfl⟩
  case round =>
    obtain ⟨k, x, hk, hk10, rfl, rfl, hrd, rfl⟩ := hrel
    have HR := Lib.hid hrd
    clear hrd
    by_cases hlt : k < n ∧ k < 10
    · obtain ⟨hlt, hlt10⟩ := hlt
      have hk9 : k ≤ 9 := by omega
      obtain ⟨-, hx, hread, hall⟩ := (show _ ∧ _ from HR.out.resolve_right (by omega))
      subst hx
      clear HR
      have HR := Lib.hid (And.intro hread hall)
      clear hread hall
      obtain ⟨ad, u, hA, hblk, hu, hca⟩ := HA.out.at1 hlt
      obtain ⟨b, hb, rfl⟩ := byt_get hu
      subst hA
      have hbl := b.toNat_lt
      have hvl := valL_lt (l.take k)
      have hkl : k < l.length := by rw [HL.out]; exact hlt
      have hbk : l[k] = b := by
        have := List.getElem?_eq_getElem hkl
        rw [hb] at this; exact (Option.some.inj this).symm
      have hlen : (l.take k).length = k := by rw [List.length_take]; omega
      rw [hlen] at hvl
      have HB := Lib.hid (show ∃ h : k < l.length, l[k] = b from ⟨hkl, hbk⟩)
      have HV := Lib.hid hvl
      clear hvl hbk hb hkl hlen hu
      have HO := or_short (k := k) (b := b.toNat) hk9 HV.out hbl
      have HN := Lib.hid (short_no (l := l) (k := k) (b := b))
      have HY := Lib.hid (short_yes (l := l) (k := k) (b := b))
      have hxlt : (valL (l.take k) + b.toNat % 128 * 128 ^ k) % 18446744073709551616 < 18446744073709551616 := Nat.mod_lt _ (by decide)
      by_cases h128 : b.toNat < 128
      · generalize (valL (l.take k) + b.toNat % 128 * 128 ^ k) % 18446744073709551616 = X at *
        have hcv1 := fun W h => run_strB (P := Tryd.prog) 23 9 5 (some ad) (k + 1) c (l.take (k + 1)) (w := W) h Tryd.underlying23 Tryd.underlying5 Tryd.underlying9
        have hcs := run_slice_hi (P := Tryd.prog) 23 5 _ 1 1 Tryd.underlying23 byteInfo (some ad) n c .i64 ((k : Int) + 1) (by omega) (by have := HC.out; omega)
        rw [show ((k : Int) + 1).toNat = k + 1 by omega] at hcs
        have hwr : IntKind.i64.wrap ((k : Int) + 1) = (k : Int) + 1 := by rw [IntKind.wrap_i64]; omega
        have HT := Lib.hid (show Sl wr 1 (some ad) (k + 1) (byt (l.take (k + 1))) from by
          have := HA.out.take (k := k + 1) (by omega)
          rw [Nat.mul_one, byt_take] at this
          exact this)
        by_cases heq : shortL X = l.take (k + 1)
        · have HE := Lib.hid (show rsE l = (X, k + 1, 0) by obtain ⟨q1, q2⟩ := HB.out; exact HY.out q1 q2 hk9 HR.out.1 HR.out.2 h128 heq)
          have hbq : (shortL X == l.take (k + 1)) = true := by simpa using heq
          have hbn : (shortL X != l.take (k + 1)) = false := by simpa [bne] using heq
          clear heq
          go_wp2_with fail
          refine wp_region_plan (.take 0 <| .take 3 <| .take 4 <| .take 5 <| .take 6 <| .alt (.run 1 <| .alt (.run 2 <| .run 7 <| .take 8 <| .done) (.run 7 <| .run 2 <| .take 8 <| .done)) (.run 7 <| .run 1 <| .run 2 <| .take 8 <| .done)) (by kernel_rfl) (by kernel_rfl) (by kernel_rfl) (by kernel_rfl) ?_
          have hcv2 := hcv1 wr.drew HT.out
          have HC1 := Lib.hid hcv1
          clear hcv1
          go_wp2_with (first
            | (go_at_call 21
               refine (rshort_any X _ hxlt).mono ?_
               rintro e w3 ⟨v3, rm3, rfl, hr3, hb3⟩
               obtain ⟨xa, xn, xc, rfl, hxn, -, -⟩ := hr3.form2
               have hq := run_strB (P := Tryd.prog) 23 9 5 xa xn xc (shortL X) (w := w3) (by rw [hxn]; exact hr3.sl) Tryd.underlying23 Tryd.underlying5 Tryd.underlying9
               have hbw : Below wr.heap.size wr w3 := below_then (Below.refl _ _).drew hb3
               have hq2 := HC1.out w3 (HT.out.below hbw)
               have H3 := Lib.hid hbw
               clear hr3 hb3 hxn hbw)
            | ((with_reducible refine wpPlan_isTake ?_); refine wpPlan_take (v := ?_) rfl ?_ (fun w => ?_) ?_; rotate_left 1; (focus rfl); (focus (first | (go_simp; done) | (go_simp; with_reducible rfl))); simp only [Act.put, List.setIfInBounds_toArray, List.set_cons_zero, List.set_cons_succ]) | ((with_reducible refine wpPlan_isTake ?_); refine wpPlan_skip rfl ?_ ?_; (focus rfl); simp only [Act.put, List.setIfInBounds_toArray, List.set_cons_zero, List.set_cons_succ]) | ((with_reducible refine wpPlan_isRun ?_); refine wpPlan_run rfl (fun K hK => ?_); go_simp) | ((with_reducible refine wpPlan_alt ?_ ?_)) | ((with_reducible refine wpPlan_done ?_)))
          all_goals
            go_ret2
            rw [HE.out]
            exact ⟨rfl, H3.out⟩
        · have HE := Lib.hid (show rsE l = (0, 0, 4) by obtain ⟨q1, q2⟩ := HB.out; exact HN.out q1 q2 hk9 HR.out.1 HR.out.2 h128 heq)
          have hbq : (shortL X == l.take (k + 1)) = false := by simpa using heq
          have hbn : (shortL X != l.take (k + 1)) = true := by simpa [bne] using heq
          clear heq
          go_wp2_with fail
          refine wp_region_plan (.take 0 <| .take 3 <| .take 4 <| .take 5 <| .take 6 <| .alt (.run 1 <| .alt (.run 2 <| .run 7 <| .take 8 <| .done) (.run 7 <| .run 2 <| .take 8 <| .done)) (.run 7 <| .run 1 <| .run 2 <| .take 8 <| .done)) (by kernel_rfl) (by kernel_rfl) (by kernel_rfl) (by kernel_rfl) ?_
          have hcv2 := hcv1 wr.drew HT.out
          have HC1 := Lib.hid hcv1
          clear hcv1
          go_wp2_with (first
            | (go_at_call 21
               refine (rshort_any X _ hxlt).mono ?_
               rintro e w3 ⟨v3, rm3, rfl, hr3, hb3⟩
               obtain ⟨xa, xn, xc, rfl, hxn, -, -⟩ := hr3.form2
               have hq := run_strB (P := Tryd.prog) 23 9 5 xa xn xc (shortL X) (w := w3) (by rw [hxn]; exact hr3.sl) Tryd.underlying23 Tryd.underlying5 Tryd.underlying9
               have hbw : Below wr.heap.size wr w3 := below_then (Below.refl _ _).drew hb3
               have hq2 := HC1.out w3 (HT.out.below hbw)
               have H3 := Lib.hid hbw
               clear hr3 hb3 hxn hbw)
            | ((with_reducible refine wpPlan_isTake ?_); refine wpPlan_take (v := ?_) rfl ?_ (fun w => ?_) ?_; rotate_left 1; (focus rfl); (focus (first | (go_simp; done) | (go_simp; with_reducible rfl))); simp only [Act.put, List.setIfInBounds_toArray, List.set_cons_zero, List.set_cons_succ]) | ((with_reducible refine wpPlan_isTake ?_); refine wpPlan_skip rfl ?_ ?_; (focus rfl); simp only [Act.put, List.setIfInBounds_toArray, List.set_cons_zero, List.set_cons_succ]) | ((with_reducible refine wpPlan_isRun ?_); refine wpPlan_run rfl (fun K hK => ?_); go_simp) | ((with_reducible refine wpPlan_alt ?_ ?_)) | ((with_reducible refine wpPlan_done ?_)))
          all_goals
            go_ret2
            rw [HE.out]
            exact ⟨rfl, H3.out⟩
      · clear HN HY
        have HS := Lib.hid (show (k + 1 ≤ 9 ∧ (valL (l.take k) + b.toNat % 128 * 128 ^ k) % 18446744073709551616 = valL (l.take (k + 1)) ∧ readS 0 l = addS (l.take (k + 1)) (readS (k + 1) (l.drop (k + 1))) ∧ (∀ x ∈ l.take (k + 1), 128 ≤ x.toNat)) ∨ (k + 1 = 10 ∧ readS 0 l = none) from by
          obtain ⟨q1, q2⟩ := HB.out
          have ht : l.take (k + 1) = l.take k ++ [b] := by rw [List.take_succ_eq_append_getElem q1, q2]
          by_cases h9 : k = 9
          · right
            exact ⟨by omega, readS_stop q1 HR.out.1 (by rw [q2]; omega)⟩
          · left
            refine ⟨by omega, val_more (by omega) q1 HV.out ht, readS_more q1 HR.out.1 (by rw [q2]; omega) (by rw [q2]; exact h128), ?_⟩
            rw [ht]; intro x hx; rcases List.mem_append.1 hx with h | h
            · exact HR.out.2 x h
            · rw [List.mem_singleton] at h; subst h; omega)
        generalize (valL (l.take k) + b.toNat % 128 * 128 ^ k) % 18446744073709551616 = X at *
        go_wp2_with fail
        go_roundw
        case rel => exact ⟨k + 1, X, by omega, by omega, rfl, by go_num, HS.out, trivial⟩
        case measure => simp [intOf]; omega
    · have HE := Lib.hid (show rsE l = (0, 0, 4) by
        rcases HR.out with ⟨h9, -, h, -⟩ | ⟨-, h⟩
        · refine rsE_none (readS_end (b := l) ?_)
          rwa [show k = l.length by rw [HL.out]; omega] at h
        · exact rsE_none h)
      clear HR
      by_cases hkn : k < n
      · have h10 : ¬ k < 10 := by omega
        clear hlt
        go_wp2_with fail
        go_ret2
        rw [HE.out]
        exact ⟨rfl, Below.refl _ _⟩
      · clear hlt
        go_wp2_with fail
        go_ret2
        rw [HE.out]
        exact ⟨rfl, Below.refl _ _⟩
end Go.Proofs.YtldkcfhigcmoaaaDoor
