/- What the document's ring (assizeref25.Ring) does, its calls that change it. Conditions: a ring of at most 64 numbers. -/
import Derived.Test.YtlfpkepgamnidaaRing3
namespace Go.Proofs.Ytlfpkepgamnidaa
open Go.RowKit Go.As
set_option linter.unusedVariables false


/-- behind the store of a new list -/
theorem RRingV.stored {w w1 : World} {b : Nat} {v : Value} {L R : List Int} {a' : Option Addr} {c' : Nat} (hv : RRingV w b v L) (h1 : w1.ownsRow 0 3 1 (.slice a' R.length c') R.length (ints R))
    (h2 : Blk w1 b 49 #[v]) (h3 : Below w.heap.size w w1) (h4 : ∀ q, (Value.slice a' R.length c').ownBlock = some q → w.heap.size ≤ q) :
    ∃ v', RRingV (w1.setCell ⟨b, 0, none⟩ (.slice a' R.length c')) b v' R ∧ Only (FR b v) w (w1.setCell ⟨b, 0, none⟩ (.slice a' R.length c')) ∧ SameOrNew w v v' := by
  refine ⟨.slice a' R.length c', ⟨?_, ?_⟩, (Only.of_below h3 _).set (p := ⟨b, 0, none⟩) (.inl (.inl rfl)) _, fun q hq => .inr (h4 q hq)⟩
  · exact h2.set_ 0 (.slice a' R.length c')
  · exact own_set h1 (p := ⟨b, 0, none⟩) (fun e => by have h5 : w.heap.size ≤ b := h4 _ e; have := hv.1.lt; omega) (.slice a' R.length c')

set_option maxHeartbeats 800000 in
theorem rradd_ok (w : World) (b : Nat) (v : Value) (L : List Int) (id : Int) (h : RRingV w b v L) (hl : L.length ≤ 64) :
    Calls Try.prog 28 #[.pointer (some ⟨b, 0, none⟩), .int .i64 id] w fun e w' => e = .returned (.int .i64 (addE L id).1) ∧
      ∃ v', RRingV w' b v' (addE L id).2 ∧ Only (FR b v) w w' ∧ SameOrNew w v v' := by
  have HH := Lib.hid (rrhas_ok w b v L id h hl)
  have HV := Lib.hid h
  obtain ⟨a, c, rfl, -, -⟩ := own_form h.2
  have c0 := h.1.cell 0
  simp at c0
  by_cases h0 : id < 0
  · have HE := Lib.hid (show addE L id = (2, L) by simp [addE, h0])
    clear h
    go_enter Try.func28, Try.ntmps28
    go_wp2_with fail
    go_ret
    rw [HE.out]
    exact ⟨rfl, _, HV.out, Only.refl _ _, SameOrNew.rfl _ _⟩
  by_cases h1 : id ∈ L
  · have HE := Lib.hid (show addE L id = (7, L) by simp [addE, h0, h1])
    have hd := Lib.hid (show decide (id ∈ L) = true by simp [h1])
    clear h1 h
    go_enter Try.func28, Try.ntmps28
    go_wp2_with (go_at_call 35; refine HH.out.mono ?_; rintro e w' ⟨rfl, rfl⟩; rw [hd.out])
    go_ret
    rw [HE.out]
    exact ⟨rfl, _, HV.out, Only.refl _ _, SameOrNew.rfl _ _⟩
  by_cases h2 : 64 ≤ L.length
  · have HE := Lib.hid (show addE L id = (8, L) by simp [addE, h0, h1, h2])
    have hd := Lib.hid (show decide (id ∈ L) = false by simp [h1])
    clear h1 h
    go_enter Try.func28, Try.ntmps28
    go_wp2_with (go_at_call 35; refine HH.out.mono ?_; rintro e w' ⟨rfl, rfl⟩; rw [hd.out])
    go_ret
    rw [HE.out]
    exact ⟨rfl, _, HV.out, Only.refl _ _, SameOrNew.rfl _ _⟩
  · have HE := Lib.hid (show addE L id = (0, L ++ [id]) by simp [addE, h0, h1, h2])
    have hd := Lib.hid (show decide (id ∈ L) = false by simp [h1])
    have hS := Lib.hid ((Sl.of_own h.2).below ((Below.refl w.heap.size w).alloc (Nat.le_refl _) (.cells #[] 3)))
    have tok := Lib.hid trivial
    have hblt := HV.out.1.lt
    clear h1 h
    go_enter Try.func28, Try.ntmps28
    go_wp2_with (first
      | (go_at_call 35; refine HH.out.mono ?_; rintro e w' ⟨rfl, rfl⟩; rw [hd.out])
      | (at_builtin
         have _t := tok
         refine wpl_app rfl _ _ _ rfl w.heap.size 3 _ 1 8 Try.underlying28 intInfo rfl (by omega) (by omega) _ 0 [] (World.ownsRow_made w #[] 0 (Nat.le_refl _) (by decide) rfl) rfl a L.length c (ints L) rfl hS.out (ints_one L) (by omega) (by simp) ?_
         intro v1 w1 hown1 hg1 hs1
         have hb1 : Below w.heap.size w w1 := ((Below.refl _ _).alloc (Nat.le_refl _) _).grown hg1 (by simp) (fun k hk => by simp [Value.ownBlock] at hk; omega)
         have hsz1 := hb1.size
         simp only [Nat.zero_add, List.nil_append] at hown1
         have H1 := Lib.hid (And.intro hown1 hb1)
         clear hown1 hb1 hg1 hs1 tok)
      | (at_builtin
         refine wpl_app1 rfl _ _ _ rfl w.heap.size 3 _ 1 8 Try.underlying28 intInfo rfl (by omega) (by omega) _ _ _ [.int .i64 id] rfl H1.out.1 rfl rfl (by simp [Value.oneCell']) (by omega) hsz1 ?_
         intro v' w2 hown2 hg2 hs2
         have hb2 := H1.out.2.grown hg2 hsz1 (fun k hk => (H1.out.1.lt k hk).1)
         have hnew := (fun k hk => (hown2.lt k hk).1)
         clear hg2 hs2
         have hB2 := HV.out.1.belowS hb2
         obtain ⟨a', c', rfl, -, -⟩ := own_form hown2
         have c0' := hB2.cell 0
         have f0' := hB2.frozen 0
         simp at c0' f0'
         have H2 := Lib.hid (And.intro hown2 (And.intro hB2 (And.intro hb2 hnew)))
         clear hown2 hB2 hb2 hnew
         skip))
    go_ret
    rw [HE.out]
    refine ⟨rfl, ?_⟩
    have := RRingV.stored (R := L ++ [id]) (a' := a') (c' := c') HV.out (by have := own_mono H2.out.1 (Nat.zero_le _); simpa [ints] using this) H2.out.2.1 H2.out.2.2.1 (fun q hq => H2.out.2.2.2 q (by simpa [Value.ownBlock] using hq))
    simpa using this

/-- what the document's Drop answers, and the list behind it -/
def rdropE (L : List Int) (id : Int) : Int × List Int := if id ∈ L then (0, withoutI L id) else (6, L)

set_option maxHeartbeats 800000 in
theorem rrdrop_ok (w : World) (b : Nat) (v : Value) (L : List Int) (id : Int) (h : RRingV w b v L) (hl : L.length ≤ 64) :
    Calls Try.prog 30 #[.pointer (some ⟨b, 0, none⟩), .int .i64 id] w fun e w' => e = .returned (.int .i64 (rdropE L id).1) ∧
      ∃ v', RRingV w' b v' (rdropE L id).2 ∧ Only (FR b v) w w' ∧ SameOrNew w v v' := by
  have HH := Lib.hid (rrhas_ok w b v L id h hl)
  have HV := Lib.hid h
  obtain ⟨a, c, rfl, -, -⟩ := own_form h.2
  have c0 := h.1.cell 0
  simp at c0
  have HW := Lib.hid (without_ok a L.length c L id w (Sl.of_own h.2) (by omega))
  by_cases h1 : id ∈ L
  · have HE := Lib.hid (show rdropE L id = (0, withoutI L id) by simp [rdropE, h1])
    have hd := Lib.hid (show decide (id ∈ L) = true by simp [h1])
    generalize withoutI L id = R at HE HW
    clear h1 h
    go_enter Try.func30, Try.ntmps30
    go_wp2_with (first
      | (go_at_call 35; refine HH.out.mono ?_; rintro e w' ⟨rfl, rfl⟩; rw [hd.out])
      | (go_at_call 49
         refine HW.out.mono ?_
         rintro e w1 ⟨v1, rfl, hown2, hb2⟩
         have hnew := (fun k hk => (hown2.lt k hk).1)
         have hB2 := HV.out.1.belowS hb2
         obtain ⟨a', c', rfl, -, -⟩ := own_form hown2
         have c0' := hB2.cell 0
         have f0' := hB2.frozen 0
         simp at c0' f0'
         have H2 := Lib.hid (And.intro hown2 (And.intro hB2 (And.intro hb2 hnew)))
         clear hown2 hB2 hb2 hnew
         skip))
    go_ret
    rw [HE.out]
    exact ⟨rfl, RRingV.stored HV.out (own_mono H2.out.1 (Nat.zero_le _)) H2.out.2.1 H2.out.2.2.1 H2.out.2.2.2⟩
  · have HE := Lib.hid (show rdropE L id = (6, L) by simp [rdropE, h1])
    have hd := Lib.hid (show decide (id ∈ L) = false by simp [h1])
    clear h1 h
    go_enter Try.func30, Try.ntmps30
    go_wp2_with (go_at_call 35; refine HH.out.mono ?_; rintro e w' ⟨rfl, rfl⟩; rw [hd.out])
    go_ret
    rw [HE.out]
    exact ⟨rfl, _, HV.out, Only.refl _ _, SameOrNew.rfl _ _⟩

/-- what the document's Turn tells, and the list behind it -/
def rrturnE : List Int → Int × Int × List Int
  | [] => (0, 6, [])
  | x :: r => (x, 0, withoutI (x :: r) x ++ [x])

set_option maxHeartbeats 800000 in
theorem rrturn_ok (w : World) (b : Nat) (v : Value) (L : List Int) (h : RRingV w b v L) (hl : L.length ≤ 64) :
    Calls Try.prog 32 #[.pointer (some ⟨b, 0, none⟩)] w fun e w' => e = .returned (.tuple #[.int .i64 (rrturnE L).1, .int .i64 (rrturnE L).2.1]) ∧
      ∃ v', RRingV w' b v' (rrturnE L).2.2 ∧ Only (FR b v) w w' ∧ SameOrNew w v v' := by
  have HV := Lib.hid h
  obtain ⟨a, c, rfl, -, -⟩ := own_form h.2
  have c0 := h.1.cell 0
  simp at c0
  cases L with
  | nil =>
    clear h
    simp at c0
    go_enter Try.func32, Try.ntmps32
    go_wp2_with fail
    go_ret2
    exact ⟨rfl, _, HV.out, Only.refl _ _, SameOrNew.rfl _ _⟩
  | cons x r =>
    have hS := Sl.of_own h.2
    have HW := Lib.hid (without_ok a (x :: r).length c (x :: r) x w hS (by omega))
    obtain ⟨g, cap', hv, -, -⟩ := h.2.form (by simp)
    injection hv with hv1 hv2 hv3
    subst hv1 hv3
    obtain ⟨ad, u, hA, -, hu, hc⟩ := hS.at1 (show 0 < (x :: r).length by simp)
    obtain rfl : u = .int .i64 x := by simpa [ints] using hu.symm
    injection hA with hA
    subst hA
    have hc0 : w.cell? ⟨g, 0, none⟩ = some (.int .i64 x) := by simpa [Addr.add] using hc
    have hle := withoutI_le (x :: r) x
    have HE := Lib.hid (show rrturnE (x :: r) = (x, 0, withoutI (x :: r) x ++ [x]) from rfl)
    generalize withoutI (x :: r) x = R at HE HW hle
    simp at c0 hl hle
    simp only [List.length_cons] at HW
    clear h hS hu hc hv2
    go_enter Try.func32, Try.ntmps32
    go_wp2_with (first
      | (go_at_call 49
         refine HW.out.mono ?_
         rintro e w1 ⟨v1, rfl, hown1, hb1⟩
         have hsz1 := hb1.size
         have H1 := Lib.hid (And.intro hown1 hb1)
         clear hown1 hb1)
      | (at_builtin
         refine wpl_app1 rfl _ _ _ rfl w.heap.size 3 _ 1 8 Try.underlying28 intInfo rfl (by omega) (by omega) _ _ _ [.int .i64 x] rfl H1.out.1 rfl rfl (by simp [Value.oneCell']) (by omega) hsz1 ?_
         intro v' w2 hown2 hg2 hs2
         have hb2 := H1.out.2.grown hg2 hsz1 (fun k hk => (H1.out.1.lt k hk).1)
         have hnew := (fun k hk => (hown2.lt k hk).1)
         clear hg2 hs2
         have hB2 := HV.out.1.belowS hb2
         obtain ⟨a', c', rfl, -, -⟩ := own_form hown2
         have c0' := hB2.cell 0
         have f0' := hB2.frozen 0
         simp at c0' f0'
         have H2 := Lib.hid (And.intro hown2 (And.intro hB2 (And.intro hb2 hnew)))
         clear hown2 hB2 hb2 hnew
         skip))
    go_ret2
    rw [HE.out]
    refine ⟨rfl, ?_⟩
    have := RRingV.stored (R := R ++ [x]) (a' := a') (c' := c') HV.out (by have := own_mono H2.out.1 (Nat.zero_le _); simpa [ints] using this) H2.out.2.1 H2.out.2.2.1 (fun q hq => H2.out.2.2.2 q (by simpa [Value.ownBlock] using hq))
    simpa using this
end Go.Proofs.Ytlfpkepgamnidaa
