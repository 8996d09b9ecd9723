/- What Drain of out.Buffer and the methods of the document's buffer do. Conditions: a buffer that was made. -/
import Derived.Test.YtnkbjjnopbmfnaaOutA
namespace Go.Proofs.Ytnkbjjnopbmfnaa
open Go.RowKit Go.As
set_option linter.unusedVariables false

section
variable (w : World) (b limit total : Nat) (v : Value) (pre l rm : List UInt8) (over : Bool)

theorem odrain_bad (n : Int) (h : OBuf w b v limit pre l rm total over) (hl : 64 ≤ limit) (hn : n < 0) :
    Calls Try.prog 16 #[.pointer (some ⟨b, 0, none⟩), .int .i64 n] w fun e w' => e = .returned (.tuple #[.slice none 0 0, .int .i64 2]) ∧ w = w' := by
  have HN := Lib.hid (onone_ok w b limit total v pre l rm over h hl)
  clear h
  go_enter Try.func16, Try.ntmps16
  go_wp2_with (go_at_call 38; refine HN.out.mono ?_; rintro e w' ⟨rfl, rfl⟩)
  go_ret2
  exact ⟨rfl, rfl⟩

set_option maxRecDepth 100000 in
set_option maxHeartbeats 1600000 in
theorem odrain_ok (n : Int) (h : OBuf w b v limit pre l rm total over) (hl : 64 ≤ limit) (hl2 : limit ≤ 1048576) (hll : l.length ≤ limit) (hp : pre.length ≤ 1099511627776) (ht : total ≤ 1099511627776) (hn : 0 ≤ n) :
    Calls Try.prog 16 #[.pointer (some ⟨b, 0, none⟩), .int .i64 n] w fun e w' =>
      ∃ v' rm', e = .returned (.tuple #[v', .int .i64 0]) ∧ RowB w' w.heap.size 5 v' (l.take n.toNat) rm' ∧
        OBuf w' b v limit (pre ++ l.take n.toNat) (l.drop n.toNat) rm (total + min n.toNat l.length) over ∧ Only (· = b) w w' := by
  obtain ⟨k, hk⟩ : ∃ k, k = min n.toNat l.length := ⟨_, rfl⟩
  have hkl : k ≤ l.length := by omega
  have hki : min n (l.length : Int) = (k : Int) := by omega
  have htk : l.take n.toNat = l.take k := by
    rw [hk]
    rcases Nat.le_total n.toNat l.length with h | h
    · rw [Nat.min_eq_left h]
    · rw [Nat.min_eq_right h, List.take_of_length_le h, List.take_of_length_le (Nat.le_refl _)]
  have hdk : l.drop n.toNat = l.drop k := by
    rw [hk]
    rcases Nat.le_total n.toNat l.length with h | h
    · rw [Nat.min_eq_left h]
    · rw [Nat.min_eq_right h, List.drop_of_length_le h, List.drop_of_length_le (Nat.le_refl _)]
  rw [htk, hdk, ← hk]
  clear htk hdk hk
  have HN := Lib.hid (onone_ok w b limit total v pre l rm over h hl)
  have HL := Lib.hid (olen_ok w b limit total v pre l rm over h hl)
  have HV := Lib.hid h
  obtain ⟨a, nn, cc, hv, hnn, hcc, hmx⟩ := h.2.form2
  subst hv
  have hslice : ∃ A', (∀ W, (Instr.slice 33 (.slice a nn cc) (some (.int .i64 pre.length)) (some (.int .i64 ((pre.length : Int) + (k : Int)))) none).run Try.prog W = .ok (.slice A' k (cc - pre.length)) W) ∧ Sl w 1 A' k (byt (l.take k)) := by
    have hcl : (pre ++ l).length = pre.length + l.length := by simp
    have hS := h.2.sl.part (i := pre.length) (j := pre.length + k) (by omega) (by omega) (by rw [hcl]; omega) (c := cc)
    have e1 : ((pre.length : Int)).toNat = pre.length := by omega
    have e2 : ((pre.length : Int) + (k : Int)).toNat = pre.length + k := by omega
    refine ⟨if cc = pre.length then a else a.map (·.add (pre.length * 1)), fun W => ?_, ?_⟩
    · have hr := run_slice_both (P := Try.prog) 33 5 _ 1 1 Try.underlying33 byteInfo a nn cc .i64 .i64 pre.length ((pre.length : Int) + (k : Int)) (by omega) (by omega) (by omega) W
      rw [e1, e2, Nat.add_sub_cancel_left] at hr
      exact hr
    · have e3 : (List.take (pre.length + k) (pre ++ l)).drop pre.length = l.take k := by simp [List.take_append]
      rw [e3, Nat.add_sub_cancel_left] at hS
      exact hS
  obtain ⟨A', hrun, hsl⟩ := hslice
  have HS := Lib.hid hsl
  have c1 := h.1.cell 1
  have c2 := h.1.cell 2
  have c3 := h.1.cell 3
  have f2 := h.1.frozen 2
  have f3 := h.1.frozen 3
  simp only [List.getElem?_toArray, List.getElem?_cons_succ, List.getElem?_cons_zero] at c1 c2 c3
  have hsz := h.1.lt
  have hS0 : w.cell? ⟨b, 1, none⟩ = some (.slice a nn cc) ∧ w.cell? ⟨b, 2, none⟩ = some (.int .i64 pre.length) := ⟨c1, c2⟩
  have hwr : IntKind.i64.wrap ((pre.length : Int) + (k : Int)) = (pre.length : Int) + (k : Int) := by rw [IntKind.wrap_i64]; omega
  clear h hsl hnn hcc hmx
  go_enter Try.func16, Try.ntmps16
  go_wp2_with (first
    | (go_at_call 38; refine HN.out.mono ?_; rintro e w' ⟨rfl, rfl⟩)
    | (go_at_call 20; refine HL.out.mono ?_; rintro e w' ⟨rfl, q, rfl⟩))
  refine wp_region_planS (fun W => W.cell? ⟨b, 1, none⟩ = some (.slice a nn cc) ∧ W.cell? ⟨b, 2, none⟩ = some (.int .i64 pre.length)) (.take 0 <| .take 1 <| .take 2 <| .take 3 <| .take 4 <| .take 5 <| .take 6 <| .take 7 <| .take 8 <| .take 9 <| .take 10 <| .take 11 <| .take 12 <| .take 13 <| .take 14 <| .run 15 <| .take 16 <| .done) (by kernel_rfl) (by kernel_rfl) (by kernel_rfl) (by kernel_rfl) hS0 ?_
  go_wp2_with (first
    | ((with_reducible refine PlanS_isTake ?_); refine PlanS_take (v := ?_) rfl ?_ (fun w hSw => ?_) ?_; rotate_left 1; (focus rfl); (focus ((try dsimp only at hSw); (first | (go_simp; done) | (go_simp; with_reducible rfl)))); simp only [Act.put, List.setIfInBounds_toArray, List.set_cons_zero, List.set_cons_succ]) | ((with_reducible refine PlanS_isTake ?_); refine PlanS_skip rfl ?_ ?_; (focus rfl); simp only [Act.put, List.setIfInBounds_toArray, List.set_cons_zero, List.set_cons_succ]) | ((with_reducible refine PlanS_isRun ?_); refine PlanS_run rfl (fun K hK => ?_); go_simp) | ((with_reducible refine And.intro ?_ (PlanS_is ?_)); (focus (exact ⟨HB3.out.1.cell 1, HB3.out.1.cell 2⟩))) | ((with_reducible refine PlanS_alt ?_ ?_)) | ((with_reducible refine PlanS_done ?_))
    | (go_at_call 39
       refine (cloneB_any A' k _ (l.take k) _ (by exact HS.out) (by omega)).mono ?_
       rintro e w3 ⟨v3, rm3, rfl, hr3, hb3⟩
       obtain ⟨a3, n3, d3', rfl, -, -, -⟩ := hr3.form2
       have hbw : Below w.heap.size w w3 := below_then (below_drewN (Below.refl _ _) _) hb3
       have hB3 := HV.out.1.belowS hbw
       have g2 := hB3.frozen 2
       have g3 := hB3.frozen 3
       have d2 := hB3.cell 2
       have d3 := hB3.cell 3
       simp only [List.getElem?_toArray, List.getElem?_cons_succ, List.getElem?_cons_zero] at d2 d3
       have HB3 := Lib.hid (And.intro hB3 (And.intro hr3 hbw))
       clear hr3 hb3 hB3 hbw))
  go_ret2
  have hO : Only (· = b) w w3 := Only.of_below HB3.out.2.2 _
  have hne : ∀ j, (Value.slice a3 n3 d3').ownBlock = some j → ¬ j = b := fun j hj e => HB3.out.2.1.ne_ HB3.out.1 (by decide) (by rw [hj, e])
  have hne2 : ∀ j, (Value.slice a nn cc).ownBlock = some j → ¬ j = b := fun j hj e => HV.out.2.ne_ HV.out.1 (by decide) (by rw [hj, e])
  refine ⟨_, rm3, rfl, ?_, ⟨?_, ?_⟩, Only.set (Only.set hO (p := ⟨b, 2, none⟩) (.inl rfl) _) (p := ⟨b, 3, none⟩) (.inl rfl) _⟩
  · exact HB3.out.2.1.only (Only.set (Only.set (Only.refl (· = b) w3) (p := ⟨b, 2, none⟩) (.inl rfl) _) (p := ⟨b, 3, none⟩) (.inl rfl) _) hne
  · have := Blk.set_ (Blk.set_ HB3.out.1 2 (.int .i64 ((pre.length : Int) + (k : Int)))) 3 (.int .i64 ((total : Int) + (k : Int)))
    simpa [hkl] using this
  · have := HV.out.2.only (Only.set (Only.set hO (p := ⟨b, 2, none⟩) (.inl rfl) (.int .i64 ((pre.length : Int) + (k : Int)))) (p := ⟨b, 3, none⟩) (.inl rfl) (.int .i64 ((total : Int) + (k : Int)))) hne2
    simpa [List.append_assoc] using this
end
end Go.Proofs.Ytnkbjjnopbmfnaa
