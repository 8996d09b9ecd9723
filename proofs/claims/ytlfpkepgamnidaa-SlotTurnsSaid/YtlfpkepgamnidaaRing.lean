/- What the methods of slots.Ring do. Conditions: a ring that was made, of at most 64 numbers. -/
import Derived.Test.YtlfpkepgamnidaaSlotA
import Derived.Test.YtlfpkepgamnidaaPlan
namespace Go.Proofs.Ytlfpkepgamnidaa
open Go.RowKit Go.As
set_option linter.unusedVariables false

/-- a ring that was made, its list at v -/
def RingV (w : World) (b : Nat) (v : Value) (L : List Int) : Prop := Blk w b 62 #[.bool true, v] ∧ w.ownsRow 0 3 1 v L.length (ints L)
/-- the blocks of a ring -/
def FR (b : Nat) (v : Value) : Nat → Prop := fun k => k = b ∨ v.ownBlock = some k
theorem RingV.only {w w' : World} {b : Nat} {v : Value} {L : List Int} {F : Nat → Prop} (h : RingV w b v L) (ho : Only F w w') (hF : ∀ k, FR b v k → ¬ F k) : RingV w' b v L :=
  ⟨h.1.only ho (hF b (.inl rfl)), own_only h.2 ho (fun k hk => hF k (.inr hk))⟩
theorem RingV.below {w w' : World} {b : Nat} {v : Value} {L : List Int} (h : RingV w b v L) (hb : Below w.heap.size w w') : RingV w' b v L :=
  ⟨h.1.belowS hb, own_below h.2 hb⟩
theorem RingV.lt {w : World} {b : Nat} {v : Value} {L : List Int} (h : RingV w b v L) : ∀ k, FR b v k → k < w.heap.size := by
  rintro k (rfl | hk)
  · exact h.1.lt
  · exact (h.2.lt k hk).2

theorem rnone_ok (w : World) (b : Nat) (v : Value) (L : List Int) (h : RingV w b v L) :
    Calls Try.prog 46 #[.pointer (some ⟨b, 0, none⟩)] w fun e w' => e = .returned (.bool false) ∧ w = w' := by
  have c0 : w.cell? ⟨b, 0, none⟩ = some (.bool true) := h.1.cell 0
  clear h
  go_enter Try.func46, Try.ntmps46
  go_wp2
  go_ret
  exact ⟨rfl, rfl⟩

theorem newRing_ok (w : World) : Calls Try.prog 26 #[] w fun e w' => e = .returned (.pointer (some ⟨w.heap.size, 0, none⟩)) ∧ RingV w' w.heap.size (.slice none 0 0) [] ∧ Below w.heap.size w w' ∧ w'.heap.size = w.heap.size + 1 := by
  go_enter Try.func26, Try.ntmps26
  go_wp2
  go_ret
  exact ⟨rfl, ⟨Blk.new _ _ _, World.ownsRow_nil _ _ _ _⟩, (Below.refl _ _).alloc (Nat.le_refl _) _, by simp⟩

theorem idxI_ge (l : List Int) (x : Int) : (0 ≤ idxI l x) ↔ x ∈ l := by
  unfold idxI; split
  · rename_i h; simp [h]
  · rename_i h; simp [h]

set_option maxHeartbeats 400000 in
theorem has_ok (w : World) (b : Nat) (v : Value) (L : List Int) (id : Int) (h : RingV w b v L) (hl : L.length ≤ 64) :
    Calls Try.prog 34 #[.pointer (some ⟨b, 0, none⟩), .int .i64 id] w fun e w' => e = .returned (.bool (decide (id ∈ L))) ∧ w = w' := by
  have c1 := h.1.cell 1
  obtain ⟨a, c, rfl, -, -⟩ := own_form h.2
  simp at c1
  have HI := Lib.hid (index_any a L.length c L id w (Sl.of_own h.2) (by simp only [maxLen]; omega))
  have HN := Lib.hid (rnone_ok w b _ L h)
  have HG := Lib.hid (idxI_ge L id)
  clear h
  go_enter Try.func34, Try.ntmps34
  go_wp2_with fail
  refine HN.out.mono ?_
  rintro e w' ⟨rfl, rfl⟩
  go_wp2_with fail
  refine HI.out.mono ?_
  rintro e w' ⟨rfl, rfl⟩
  go_wp2_with fail
  go_ret
  refine ⟨ret_bool ?_, rfl⟩
  simp [HG.out]

/-- what Add answers, and the list behind it -/
def addE (L : List Int) (id : Int) : Int × List Int := if id < 0 then (2, L) else if id ∈ L then (7, L) else if 64 ≤ L.length then (8, L) else (0, L ++ [id])

set_option maxHeartbeats 800000 in
theorem add_ok (w : World) (b : Nat) (v : Value) (L : List Int) (id : Int) (h : RingV w b v L) (hl : L.length ≤ 64) :
    Calls Try.prog 27 #[.pointer (some ⟨b, 0, none⟩), .int .i64 id] w fun e w' => e = .returned (.int .i64 (addE L id).1) ∧
      ∃ v', RingV w' b v' (addE L id).2 ∧ Only (FR b v) w w' ∧ SameOrNew w v v' := by
  have HH := Lib.hid (has_ok w b v L id h hl)
  have HN := Lib.hid (rnone_ok w b v L h)
  have HV := Lib.hid h
  obtain ⟨a, c, rfl, -, -⟩ := own_form h.2
  have c1 := h.1.cell 1
  simp at c1
  clear h
  by_cases h0 : id < 0
  · have HE := Lib.hid (show addE L id = (2, L) by simp [addE, h0])
    go_enter Try.func27, Try.ntmps27
    go_wp2_with (go_at_call 46; refine HN.out.mono ?_; rintro e w' ⟨rfl, rfl⟩)
    go_ret
    rw [HE.out]
    exact ⟨rfl, _, HV.out, Only.refl _ _, SameOrNew.rfl _ _⟩
  by_cases h1 : id ∈ L
  · have HE := Lib.hid (show addE L id = (7, L) by simp [addE, h0, h1])
    have hd := Lib.hid (show decide (id ∈ L) = true by simp [h1])
    clear h1
    go_enter Try.func27, Try.ntmps27
    go_wp2_with (first | (go_at_call 46; refine HN.out.mono ?_; rintro e w' ⟨rfl, rfl⟩) | (go_at_call 34; refine HH.out.mono ?_; rintro e w' ⟨rfl, rfl⟩; rw [hd.out]))
    go_ret
    rw [HE.out]
    exact ⟨rfl, _, HV.out, Only.refl _ _, SameOrNew.rfl _ _⟩
  by_cases h2 : 64 ≤ L.length
  · have HE := Lib.hid (show addE L id = (8, L) by simp [addE, h0, h1, h2])
    have hd := Lib.hid (show decide (id ∈ L) = false by simp [h1])
    clear h1
    go_enter Try.func27, Try.ntmps27
    go_wp2_with (first | (go_at_call 46; refine HN.out.mono ?_; rintro e w' ⟨rfl, rfl⟩) | (go_at_call 34; refine HH.out.mono ?_; rintro e w' ⟨rfl, rfl⟩; rw [hd.out]))
    go_ret
    rw [HE.out]
    exact ⟨rfl, _, HV.out, Only.refl _ _, SameOrNew.rfl _ _⟩
  · have HE := Lib.hid (show addE L id = (0, L ++ [id]) by simp [addE, h0, h1, h2])
    have hd := Lib.hid (show decide (id ∈ L) = false by simp [h1])
    clear h1
    go_enter Try.func27, Try.ntmps27
    go_wp2_with (first
      | (go_at_call 46; refine HN.out.mono ?_; rintro e w' ⟨rfl, rfl⟩)
      | (go_at_call 34; refine HH.out.mono ?_; rintro e w' ⟨rfl, rfl⟩; rw [hd.out])
      | (at_builtin
         refine wpl_app1 rfl _ _ _ rfl 0 3 _ 1 8 Try.underlying28 intInfo rfl (by omega) (by omega) _ _ _ [.int .i64 id] rfl HV.out.2 rfl rfl (by simp [Value.oneCell']) (by omega) (by omega) ?_
         intro v' w1 hown1 hg1 hs1
         have hnb := own_ne HV.out.2 HV.out.1 (by decide)
         have hB1 := HV.out.1.grown hg1 (fun e => hnb e.symm)
         have hO1 : Only (FR b (.slice a L.length c)) w w1 := Only.of_grown hg1 (fun k hk => .inr hk)
         have hnb1 := own_ne hown1 hB1 (by decide)
         obtain ⟨a', c', rfl, -, -⟩ := own_form hown1
         have c1' := hB1.cell 1
         have f1' := hB1.frozen 1
         simp at c1' f1'
         have H1 := Lib.hid (And.intro hown1 (And.intro hB1 (And.intro hO1 (And.intro hnb1 hs1))))
         clear hown1 hB1 hO1 hnb1 hnb hg1 hs1))
    go_ret
    rw [HE.out]
    refine ⟨rfl, _, ⟨?_, ?_⟩, H1.out.2.2.1.set (p := ⟨b, 1, none⟩) (.inl (.inl rfl)) _, H1.out.2.2.2.2⟩
    · have := H1.out.2.1.set_ 1 (.slice a' (L.length + 1) c')
      simpa using this
    · have := own_set H1.out.1 (p := ⟨b, 1, none⟩) H1.out.2.2.2.1 (.slice a' (L.length + 1) c')
      simpa [ints] using this

set_option maxHeartbeats 400000 in
theorem all_ok (w : World) (b : Nat) (v : Value) (L : List Int) (h : RingV w b v L) (hl : L.length ≤ 64) :
    Calls Try.prog 33 #[.pointer (some ⟨b, 0, none⟩)] w fun e w' => ∃ v', e = .returned v' ∧ w'.ownsRow w.heap.size 3 1 v' L.length (ints L) ∧ Below w.heap.size w w' := by
  have HN := Lib.hid (rnone_ok w b v L h)
  obtain ⟨a, c, rfl, -, -⟩ := own_form h.2
  have c1 := h.1.cell 1
  simp at c1
  have HC := Lib.hid (clone_any a L.length c L w (Sl.of_own h.2) (by omega))
  clear h
  go_enter Try.func33, Try.ntmps33
  go_wp2_with fail
  refine HN.out.mono ?_
  rintro e w' ⟨rfl, rfl⟩
  go_wp2_with fail
  refine HC.out.mono ?_
  rintro e w' ⟨v', rfl, h1, h2⟩
  go_wp2_with fail
  go_ret
  exact ⟨_, rfl, h1, h2⟩

/-- what Turn tells, and the list behind it -/
def turnE : List Int → Int × Int × List Int
  | [] => (0, 6, [])
  | x :: r => (x, 0, r ++ [x])

set_option maxHeartbeats 800000 in
theorem rturn2_ok (w : World) (b : Nat) (v : Value) (L : List Int) (h : RingV w b v L) (hl : L.length ≤ 64) :
    Calls Try.prog 31 #[.pointer (some ⟨b, 0, none⟩)] w fun e w' => e = .returned (.tuple #[.int .i64 (turnE L).1, .int .i64 (turnE L).2.1]) ∧
      ∃ v', RingV w' b v' (turnE L).2.2 ∧ Only (FR b v) w w' ∧ SameOrNew w v v' := by
  have HN := Lib.hid (rnone_ok w b v L h)
  have HV := Lib.hid h
  obtain ⟨a, c, rfl, hcap, -⟩ := own_form h.2
  have c1 := h.1.cell 1
  simp at c1
  cases L with
  | nil =>
    clear h
    have hz : (([] : List Int).length : Int) = 0 := rfl
    go_enter Try.func31, Try.ntmps31
    go_wp2_with (go_at_call 46; refine HN.out.mono ?_; rintro e w' ⟨rfl, rfl⟩)
    go_ret2
    exact ⟨rfl, _, HV.out, Only.refl _ _, SameOrNew.rfl _ _⟩
  | cons x r =>
    have hS := Sl.of_own h.2
    obtain ⟨g, cap', hv, -, -⟩ := h.2.form (by simp)
    injection hv with hv1 hv2 hv3
    subst hv1 hv3
    obtain ⟨ad, u, hA, -, hu, hc⟩ := hS.at1 (show 0 < (x :: r).length by simp)
    obtain rfl : u = .int .i64 x := by simpa [ints] using hu.symm
    injection hA with hA
    subst hA
    have hc0 : w.cell? ⟨g, 0, none⟩ = some (.int .i64 x) := by simpa [Addr.add] using hc
    have hcut := hS.cut (k := 1) (cap := c) (by simp) hcap
    have hcap' : r.length + 1 ≤ c := by simpa using hcap
    have hl' : r.length + 1 ≤ 64 := by simpa using hl
    by_cases hc1 : c = 1
    · subst hc1
      have hr0 : r.length = 0 := by omega
      obtain rfl : r = [] := List.eq_nil_of_length_eq_zero hr0
      clear hr0
      have HC := Lib.hid (clone_any (some ⟨g, 0, none⟩) 0 0 [] w (Sl.empty _ _ _) (by omega))
      simp at c1
      clear h hS hu hcut hcap hl hc hv2
      go_enter Try.func31, Try.ntmps31
      go_wp2_with (first
        | (go_at_call 46; refine HN.out.mono ?_; rintro e w' ⟨rfl, rfl⟩)
        | (go_at_call 50
           refine HC.out.mono ?_
           rintro e w1 ⟨v1, rfl, hown1, hb1⟩
           have hsz1 := hb1.size
           have H1 := Lib.hid (And.intro hown1 hb1)
           clear hown1 hb1)
        | (at_builtin
           refine wpl_app1 rfl _ _ _ rfl w.heap.size 3 _ 1 8 Try.underlying28 intInfo rfl (by omega) (by omega) _ _ _ [.int .i64 x] rfl H1.out.1 rfl rfl (by simp [Value.oneCell']) (by omega) hsz1 ?_
           intro v' w2 hown2 hg2 hs2
           have hb2 := H1.out.2.grown hg2 hsz1 (fun k hk => (H1.out.1.lt k hk).1)
           have hB2 := HV.out.1.belowS hb2
           have hnew := (fun k hk => (hown2.lt k hk).1)
           obtain ⟨a', c', rfl, -, -⟩ := own_form hown2
           have c1' := hB2.cell 1
           have f1' := hB2.frozen 1
           simp at c1' f1'
           have H2 := Lib.hid (And.intro hown2 (And.intro hB2 (And.intro hb2 hnew)))
           clear hown2 hB2 hb2 hnew hg2 hs2))
      go_ret2
      refine ⟨rfl, .slice a' 1 c', ⟨?_, ?_⟩, (Only.of_below H2.out.2.2.1 _).set (p := ⟨b, 1, none⟩) (.inl (.inl rfl)) _, fun k hk => .inr (H2.out.2.2.2 k hk)⟩
      · have := H2.out.2.1.set_ 1 (.slice a' 1 c')
        simpa [turnE] using this
      · have := own_mono (own_set H2.out.1 (p := ⟨b, 1, none⟩) (fun e => by have h1 : w.heap.size ≤ b := H2.out.2.2.2 _ e; have := HV.out.1.lt; omega) (.slice a' 1 c')) (Nat.zero_le _)
        simpa [ints, turnE] using this
    · have hcut' : Sl w 1 (some ⟨g, 1, none⟩) r.length (ints r) := by simpa [ints, hc1, Addr.add] using hcut
      have HC := Lib.hid (clone_any _ r.length (c - 1) r w hcut' (by omega))
      simp at c1
      clear h hS hu hcut hcut' hcap hl hc hv2
      go_enter Try.func31, Try.ntmps31
      go_wp2_with (first
        | (go_at_call 46; refine HN.out.mono ?_; rintro e w' ⟨rfl, rfl⟩)
        | (go_at_call 50
           refine HC.out.mono ?_
           rintro e w1 ⟨v1, rfl, hown1, hb1⟩
           have hsz1 := hb1.size
           have H1 := Lib.hid (And.intro hown1 hb1)
           clear hown1 hb1)
        | (at_builtin
           refine wpl_app1 rfl _ _ _ rfl w.heap.size 3 _ 1 8 Try.underlying28 intInfo rfl (by omega) (by omega) _ _ _ [.int .i64 x] rfl H1.out.1 rfl rfl (by simp [Value.oneCell']) (by omega) hsz1 ?_
           intro v' w2 hown2 hg2 hs2
           have hb2 := H1.out.2.grown hg2 hsz1 (fun k hk => (H1.out.1.lt k hk).1)
           have hB2 := HV.out.1.belowS hb2
           have hnew := (fun k hk => (hown2.lt k hk).1)
           obtain ⟨a', c', rfl, -, -⟩ := own_form hown2
           have c1' := hB2.cell 1
           have f1' := hB2.frozen 1
           simp at c1' f1'
           have H2 := Lib.hid (And.intro hown2 (And.intro hB2 (And.intro hb2 hnew)))
           clear hown2 hB2 hb2 hnew hg2 hs2))
      go_ret2
      refine ⟨rfl, .slice a' (r.length + 1) c', ⟨?_, ?_⟩, (Only.of_below H2.out.2.2.1 _).set (p := ⟨b, 1, none⟩) (.inl (.inl rfl)) _, fun k hk => .inr (H2.out.2.2.2 k hk)⟩
      · have := H2.out.2.1.set_ 1 (.slice a' (r.length + 1) c')
        simpa [turnE] using this
      · have := own_mono (own_set H2.out.1 (p := ⟨b, 1, none⟩) (fun e => by have h1 : w.heap.size ≤ b := H2.out.2.2.2 _ e; have := HV.out.1.lt; omega) (.slice a' (r.length + 1) c')) (Nat.zero_le _)
        simpa [ints, turnE] using this
end Go.Proofs.Ytlfpkepgamnidaa
