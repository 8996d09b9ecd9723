/- What the methods of the document's buffer do. Conditions: a buffer that was made. -/
import Derived.Test.YtnkbjjnopbmfnaaOutA
namespace Go.Proofs.Ytnkbjjnopbmfnaa
open Go.RowKit Go.As
set_option linter.unusedVariables false

theorem ten_take {l : List UInt8} {k : Nat} (hk : k < l.length) (h : (10 : UInt8) ∉ l.take k) (hx : ((l[k].toNat : Int) == 10) = false) : (10 : UInt8) ∉ l.take (k + 1) := by
  rw [List.take_succ_eq_append_getElem hk]
  simp only [List.mem_append, List.mem_singleton, not_or]
  refine ⟨h, fun e => ?_⟩
  rw [← e] at hx
  simp at hx
theorem ten_at {l : List UInt8} {k : Nat} (hk : k < l.length) (hx : ((l[k].toNat : Int) == 10) = true) : (10 : UInt8) ∈ l := by
  have : l[k] = 10 := by
    simp only [beq_iff_eq] at hx
    exact UInt8.toNat_inj.1 (by have : (10 : UInt8).toNat = 10 := rfl; omega)
  rw [← this]
  exact List.getElem_mem _

section
variable (w : World) (b limit total : Nat) (v : Value) (l rm : List UInt8) (over : Bool)

set_option maxRecDepth 100000 in
set_option maxHeartbeats 1600000 in
theorem rput_ok (line : List UInt8) (h : RBuf w b v limit l rm total over) (hl2 : limit ≤ 1048576) (hll : l.length ≤ limit) (hline : line.length ≤ 281474976710656) :
    Calls Try.prog 15 #[.pointer (some ⟨b, 0, none⟩), .string (str line)] w fun e w' => e = .returned (.int .i64 (putE limit l over line).1) ∧
      ∃ v' rm', RBuf w' b v' limit (putE limit l over line).2.1 rm' total (putE limit l over line).2.2 ∧ Only (FB b v) w w' ∧ SameOrNew w v v' := by
  have HV := Lib.hid h
  have c0 := h.1.cell 0
  have c2 := h.1.cell 2
  have c3 := h.1.cell 3
  have f2 := h.1.frozen 2
  have f3 := h.1.frozen 3
  have hsz := h.1.lt
  simp only [List.getElem?_toArray, List.getElem?_cons_succ, List.getElem?_cons_zero] at c0 c2 c3
  obtain ⟨a, hv, hmx⟩ := h.2.form
  subst hv
  cases over
  case true =>
    clear h c0 c2 f2 f3
    go_enter Try.func15, Try.ntmps15
    go_wp2_with fail
    go_ret
    exact ⟨rfl, _, rm, HV.out, Only.refl _ _, SameOrNew.rfl _ _⟩
  clear h
  go_enter Try.func15, Try.ntmps15
  go_wp2_with fail
  go_loop [5] (fun i => ∃ k : Nat, k ≤ line.length ∧ i = .int .i64 k ∧ (10 : UInt8) ∉ line.take k) (fun i => line.length - (intOf i).toNat)
  case atStart => exact ⟨0, by omega, rfl, by simp⟩
  case round =>
    obtain ⟨k, hk, rfl, he⟩ := hrel
    have HE := Lib.hid he
    clear he
    by_cases hlt : k < line.length
    · cases hx : ((line[k].toNat : Int) == 10)
      · have HX := Lib.hid hx
        go_wp2_with fail
        go_round
        case rel => exact ⟨k + 1, by omega, by go_num, ten_take hlt HE.out HX.out⟩
        case measure => simp [intOf]; omega
      · have HX := Lib.hid (ten_at hlt hx)
        go_wp2_with fail
        go_ret
        rw [show putE limit l false line = (4, l, false) by simp [putE, HX.out]]
        exact ⟨rfl, _, ⟨rm, HV.out⟩, Only.refl _ _, SameOrNew.rfl _ _⟩
    · have hno : (10 : UInt8) ∉ line := by
        have := HE.out
        rwa [List.take_of_length_le (by omega)] at this
      have HNO := Lib.hid hno
      clear hno
      by_cases hfull : limit < l.length + line.length + 1
      · have HEQ := Lib.hid (show putE limit l false line = (8, l, true) by simp [putE, HNO.out, hfull])
        go_wp2_with fail
        go_quiet (fail)
        go_wp2_with fail
        go_ret
        rw [HEQ.out]
        refine ⟨rfl, _, rm, ⟨?_, ?_⟩, ?_, SameOrNew.rfl _ _⟩
        · have := Blk.set_ (w := w.drewN nq) HV.out.1 3 (.bool true)
          simpa using this
        · exact HV.out.2.only (Only.set (Only.of_below (below_drewN (Below.refl _ _) nq) (· = b)) (p := ⟨b, 3, none⟩) (.inl rfl) _) (fun k hk e => HV.out.2.ne_ HV.out.1 (by decide) (by rw [hk, e]))
        · exact Only.set (Only.of_below (below_drewN (Below.refl _ _) nq) _) (p := ⟨b, 3, none⟩) (.inl (.inl rfl)) _
      · have HEQ := Lib.hid (show putE limit l false line = (0, l ++ line ++ [10], false) by simp [putE, HNO.out, hfull])
        go_wp2_with fail
        go_quiet (fail)
        have hS := HV.out.2.below (w' := (w.drewN nq).alloc (.cells #[] 5)) ((below_drewN (Below.refl w.heap.size w) nq).alloc (Nat.le_refl _) _)
        have hR := RowB.made (w.drewN nq) w.heap.size 5 [] (Nat.le_refl _) (by simp [maxLen])
        have HS := Lib.hid (And.intro hS hR)
        clear hS hR
        simp only [maxLen] at hmx
        have cS : ((w.drewN nq).alloc (.cells #[] 5)).cell? ⟨b, 2, none⟩ = some (.slice a l.length (l.length + rm.length)) := (Blk.alloc (w := w.drewN nq) HV.out.1 _).cell 2
        go_wp2_with (first
          | (at_builtin
             refine wpl_appB rfl _ _ _ rfl w.heap.size 5 Try.underlying33 byteInfo _ [] [] HS.out.2 rfl a l.length _ l rfl HS.out.1.sl (by simp; omega) (by simp) ?_
             intro v1 rm1 w1 hown1 hg1 hs1
             obtain ⟨a1, n1, d1, rfl, -, -, -⟩ := hown1.form2
             have hz1 : w.heap.size ≤ w1.heap.size := Nat.le_trans (by simp) hg1.size
             have H1 := Lib.hid (And.intro hown1 (And.intro hg1 hs1))
             clear hown1 hg1 hs1)
          | (at_builtin
             refine wpl_appBS rfl _ _ _ _ rfl w.heap.size 5 Try.underlying33 Try.underlying9 byteInfo _ _ _ H1.out.1 rfl line rfl (by simp; omega) hz1 ?_
             intro v2 rm2 w2 hown2 hg2 hs2
             obtain ⟨a2, n2, d2, rfl, -, -, -⟩ := hown2.form2
             have hz2 : w.heap.size ≤ w2.heap.size := Nat.le_trans hz1 hg2.size
             have H2 := Lib.hid (And.intro hown2 (And.intro hg2 hs2))
             clear hown2 hg2 hs2)
          | (at_builtin
             refine wpl_appB1 rfl _ _ _ rfl w.heap.size 5 Try.underlying33 byteInfo _ _ _ H2.out.1 rfl 10 _ rfl rfl (by simp; omega) hz2 ?_
             intro v3 rm3 w3 hown3 hg3 hs3
             obtain ⟨a3, n3, d3, rfl, -, -, -⟩ := hown3.form2
             have hbw : Below w.heap.size w w3 := by
               have q0 : Below w.heap.size w ((w.drewN nq).alloc (.cells #[] 5)) := (below_drewN (Below.refl w.heap.size w) nq).alloc (Nat.le_refl _) _
               have q1 := q0.grown H1.out.2.1 (by simp) (fun k hk => by simp [Value.ownBlock] at hk; omega)
               have q2 := q1.grown H2.out.2.1 hz1 (fun k hk => (H1.out.1.lt k hk).1)
               exact q2.grown hg3 hz2 (fun k hk => (H2.out.1.lt k hk).1)
             have hB3 := HV.out.1.belowS hbw
             have g2 := hB3.frozen 2
             have d2' := hB3.cell 2
             simp only [List.getElem?_toArray, List.getElem?_cons_succ, List.getElem?_cons_zero] at d2'
             have HB3 := Lib.hid (And.intro hB3 (And.intro hown3 hbw))
             clear hown3 hg3 hs3 hB3 hbw))
        go_ret
        rw [HEQ.out]
        refine ⟨rfl, _, rm3, ⟨?_, ?_⟩, Only.set (Only.of_below HB3.out.2.2 _) (p := ⟨b, 2, none⟩) (.inl (.inl rfl)) _, fun k hk => .inr (HB3.out.2.1.lt k hk).1⟩
        · have := Blk.set_ HB3.out.1 2 (.slice a3 n3 d3)
          simpa using this
        · have := (HB3.out.2.1.mono (Nat.zero_le _)).only (Only.set (Only.refl (· = b) w3) (p := ⟨b, 2, none⟩) (.inl rfl) (.slice a3 n3 d3)) (fun k hk e => by have := (HB3.out.2.1.lt k hk).1; omega)
          simpa using this

theorem rdrain_bad (n : Int) (hn : n < 0) :
    Calls Try.prog 17 #[.pointer (some ⟨b, 0, none⟩), .int .i64 n] w fun e w' => e = .returned (.tuple #[.slice none 0 0, .int .i64 2]) ∧ w = w' := by
  go_enter Try.func17, Try.ntmps17
  go_wp2
  go_ret2
  exact ⟨rfl, rfl⟩

set_option maxRecDepth 100000 in
set_option maxHeartbeats 1600000 in
theorem rdrain_ok (n : Int) (h : RBuf w b v limit l rm total over) (hll : l.length ≤ 1048576) (ht : total ≤ 1099511627776) (hn : 0 ≤ n) :
    Calls Try.prog 17 #[.pointer (some ⟨b, 0, none⟩), .int .i64 n] w fun e w' =>
      ∃ u urm v' rm', e = .returned (.tuple #[u, .int .i64 0]) ∧ RowB w' w.heap.size 5 u (l.take n.toNat) urm ∧
        RBuf w' b v' limit (l.drop n.toNat) rm' (total + min n.toNat l.length) over ∧ Only (· = b) w w' ∧ (∀ k, v'.ownBlock = some k → w.heap.size ≤ k) ∧ (∀ k, v'.ownBlock = some k → u.ownBlock ≠ some k) := by
  obtain ⟨k, hk⟩ : ∃ k, k = min n.toNat l.length := ⟨_, rfl⟩
  have hkl : k ≤ l.length := by omega
  have hki : min n (l.length : Int) = (k : Int) := by omega
  have htk : l.take n.toNat = l.take k := by
    rw [hk]
    rcases Nat.le_total n.toNat l.length with h | h
    · rw [Nat.min_eq_left h]
    · rw [Nat.min_eq_right h, List.take_of_length_le h, List.take_of_length_le (Nat.le_refl _)]
  have hdk : l.drop n.toNat = l.drop k := by
    rw [hk]
    rcases Nat.le_total n.toNat l.length with h | h
    · rw [Nat.min_eq_left h]
    · rw [Nat.min_eq_right h, List.drop_of_length_le h, List.drop_of_length_le (Nat.le_refl _)]
  rw [htk, hdk, ← hk]
  clear htk hdk hk
  have HV := Lib.hid h
  have c1 := h.1.cell 1
  have c2 := h.1.cell 2
  simp only [List.getElem?_toArray, List.getElem?_cons_succ, List.getElem?_cons_zero] at c1 c2
  have hsz := h.1.lt
  obtain ⟨a, hv, hmx⟩ := h.2.form
  subst hv
  generalize hcc : l.length + rm.length = cc at *
  have HCC := Lib.hid hcc
  have hlc : l.length ≤ cc := by omega
  have hrunA := fun W => run_slice_hi (P := Try.prog) 33 5 _ 1 1 Try.underlying33 byteInfo a l.length cc .i64 (k : Int) (by omega) (by omega) W
  have hrunB := fun W => run_slice_lo (P := Try.prog) 33 5 _ 1 1 Try.underlying33 byteInfo a l.length cc .i64 (k : Int) (by omega) (by omega) W
  rw [show ((k : Int)).toNat = k by omega] at hrunA hrunB
  have hA : Sl w 1 a k (byt (l.take k)) := by
    have := h.2.sl.take (k := k) hkl
    simpa [byt_take] using this
  have hB : Sl w 1 (if cc = k then a else a.map (·.add (k * 1))) (l.length - k) (byt (l.drop k)) := by
    have := h.2.sl.cut (k := k) (cap := cc) hkl hlc
    simpa [byt_drop] using this
  generalize (if cc = k then a else a.map (·.add (k * 1))) = A' at *
  have HS := Lib.hid (And.intro hA hB)
  clear hA hB hcc h
  have hkl2 : (k : Int) ≤ l.length := by omega
  have hcS : ∀ W' : World, (∃ w1 : World, W' = w1.alloc (.cells #[] 5) ∧ Below w.heap.size w w1) → W'.cell? ⟨b, 2, none⟩ = some (.slice a l.length cc) := by
    rintro W' ⟨w1, rfl, hb⟩
    exact (Blk.alloc (HV.out.1.belowS hb) _).cell 2
  have HCS := Lib.hid hcS
  clear hcS
  have c2' := HCS.out (w.alloc (.cells #[] 5)) ⟨_, rfl, Below.refl _ _⟩
  go_enter Try.func17, Try.ntmps17
  go_wp2_with (first
    | (at_builtin
       refine wpl_appB rfl _ _ _ rfl w.heap.size 5 Try.underlying33 byteInfo _ [] [] (RowB.made w w.heap.size 5 [] (Nat.le_refl _) (by simp [maxLen])) rfl a k _ (l.take k) rfl (HS.out.1.below ((Below.refl w.heap.size w).alloc (Nat.le_refl _) _)) (by simp; omega) (by simp) ?_
       intro v1 rm1 w1 hown1 hg1 hs1
       obtain ⟨a1, n1, d1, rfl, -, -, -⟩ := hown1.form2
       have hz1 : w.heap.size ≤ w1.heap.size := Nat.le_trans (by simp) hg1.size
       have hb1 : Below w.heap.size w w1 := (((Below.refl w.heap.size w).alloc (Nat.le_refl _) _).grown hg1 (by simp) (fun k hk => by simp [Value.ownBlock] at hk; omega))
       have c2b := HCS.out (w1.alloc (.cells #[] 5)) ⟨_, rfl, hb1⟩
       have H1 := Lib.hid (And.intro hown1 hb1)
       clear hown1 hg1 hs1 hb1)
    | (at_builtin
       refine wpl_appB rfl _ _ _ rfl w1.heap.size 5 Try.underlying33 byteInfo _ [] [] (RowB.made w1 w1.heap.size 5 [] (Nat.le_refl _) (by simp [maxLen])) rfl A' (l.length - k) _ (l.drop k) rfl (HS.out.2.below (H1.out.2.alloc hz1 _)) (by simp; omega) (by simp) ?_
       intro v2 rm2 w2 hown2 hg2 hs2
       obtain ⟨a2, n2, d2, rfl, -, -, -⟩ := hown2.form2
       have hbw : Below w.heap.size w w2 := (H1.out.2.alloc hz1 _).grown hg2 (by simp; omega) (fun k hk => by simp [Value.ownBlock] at hk; omega)
       have hr1 : RowB w2 w.heap.size 5 (.slice a1 n1 d1) ([] ++ l.take k) rm1 := H1.out.1.below (((Below.refl w1.heap.size w1).alloc (Nat.le_refl _) _).grown hg2 (by simp) (fun k hk => by simp [Value.ownBlock] at hk; omega))
       have hB2 := HV.out.1.belowS hbw
       have f2 := hB2.frozen 2
       have f1 := hB2.frozen 1
       have e1 := hB2.cell 1
       have e2 := hB2.cell 2
       simp only [List.getElem?_toArray, List.getElem?_cons_succ, List.getElem?_cons_zero] at e1 e2
       have HB2 := Lib.hid (And.intro hB2 (And.intro hown2 (And.intro hr1 hbw)))
       clear hown2 hg2 hs2 hB2 hbw hr1))
  go_ret2
  have hne1 : ∀ j, (Value.slice a1 n1 d1).ownBlock = some j → ¬ j = b := fun j hj e => by have := (H1.out.1.lt j hj).1; omega
  have hne2 : ∀ j, (Value.slice a2 n2 d2).ownBlock = some j → ¬ j = b := fun j hj e => by have := (HB2.out.2.1.lt j hj).1; omega
  have hO : Only (· = b) w w2 := Only.of_below HB2.out.2.2.2 _
  refine ⟨_, rm1, _, rm2, rfl, ?_, ⟨?_, ?_⟩, Only.set (Only.set hO (p := ⟨b, 2, none⟩) (.inl rfl) _) (p := ⟨b, 1, none⟩) (.inl rfl) _, fun j hj => by have := (HB2.out.2.1.lt j hj).1; omega, fun j hj e => by have := (HB2.out.2.1.lt j hj).1; have := (H1.out.1.lt j e).2; omega⟩
  · have := HB2.out.2.2.1.only (Only.set (Only.set (Only.refl (· = b) w2) (p := ⟨b, 2, none⟩) (.inl rfl) (.slice a2 n2 d2)) (p := ⟨b, 1, none⟩) (.inl rfl) (.int .i64 ((total : Int) + (k : Int)))) hne1
    simpa using this
  · have := Blk.set_ (Blk.set_ HB2.out.1 2 (.slice a2 n2 d2)) 1 (.int .i64 ((total : Int) + (k : Int)))
    simpa [hkl] using this
  · have := (HB2.out.2.1.mono (Nat.zero_le _)).only (Only.set (Only.set (Only.refl (· = b) w2) (p := ⟨b, 2, none⟩) (.inl rfl) (.slice a2 n2 d2)) (p := ⟨b, 1, none⟩) (.inl rfl) (.int .i64 ((total : Int) + (k : Int)))) hne2
    simpa using this
end
end Go.Proofs.Ytnkbjjnopbmfnaa
