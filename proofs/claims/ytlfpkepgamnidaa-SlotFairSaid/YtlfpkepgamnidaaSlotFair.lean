/- The law SlotFair: in any n turns of a wheel of n each number comes once, whatever came ahead; every input, no conditions. -/
import Derived.Test.YtlfpkepgamnidaaSlotB
namespace Go.Proofs.Ytlfpkepgamnidaa
open Go.RowKit Go.As
set_option linter.unusedVariables false

/-- which numbers have been seen -/
def seenA (n : Nat) (l : List Int) : Array Value := ((List.range n).map fun j : Nat => Value.bool (decide ((j : Int) ∈ l))).toArray
theorem seenA_size (n : Nat) (l : List Int) : (seenA n l).size = n := by simp [seenA]
theorem seenA_get (n : Nat) (l : List Int) (j : Nat) (h : j < n) : (seenA n l)[j]? = some (.bool (decide ((j : Int) ∈ l))) := by
  simp [seenA, h]
theorem seenA_nil (n : Nat) : madeCells (Value.bool false).cells (n * 1) = seenA n [] := by
  apply Array.ext
  · simp [seenA, madeCells]
  · intro i h1 h2
    simp [seenA, madeCells, Value.cells, Nat.mod_one]
theorem seenA_set (n : Nat) (l : List Int) (y : Nat) (h : y < n) : (seenA n l).setIfInBounds y (.bool true) = seenA n (l ++ [(y : Int)]) := by
  apply Array.ext
  · simp [seenA]
  · intro i h1 h2
    have hi : i < n := by simpa [seenA] using h2
    rw [Array.getElem_setIfInBounds (by simpa [seenA] using hi)]
    split
    · rename_i e; subst e
      simp [seenA]
    · rename_i e
      simp only [seenA, List.getElem_toArray, List.getElem_map, List.getElem_range, List.mem_append, List.mem_singleton]
      congr 1
      rw [decide_eq_decide]
      constructor
      · exact .inl
      · rintro (h | h)
        · exact h
        · omega

set_option maxHeartbeats 800000 in
theorem once_ok (A : Option Addr) (c n : Nat) (l : List Int) (w : World) (ha : Sl w 1 A n (ints l)) (hn : 1 ≤ n) (hn2 : n ≤ 64) (hr : ∀ x ∈ l, 0 ≤ x ∧ x < n) (hnd : l.Nodup) :
    Calls Try.prog 19 #[.slice A n c, .int .i64 (n : Int)] w fun e w' => e = .returned (.bool true) ∧ Below w.heap.size w w' := by
  have hmk := run_make_zero (P := Try.prog) 68 4 _ 1 1 Try.underlying68 boolInfo .i64 .i64 n (by omega) (by omega)
  rw [seenA_nil] at hmk
  have hl : l.length = n := by have := ha.len1; simpa [ints] using this
  have HA := Lib.hid ha
  have HR := Lib.hid hr
  have HD := Lib.hid hnd
  have HL := Lib.hid hl
  clear ha hr hnd hl
  go_enter Try.func19, Try.ntmps19
  go_wp2_with fail
  go_loopw [6] (fun i wr => ∃ k : Nat, k ≤ n ∧ i = .int .i64 k ∧ Blk wr w.heap.size 4 (seenA n (l.take k)) ∧ Below w.heap.size w wr) (fun i _ => n - (intOf i).toNat)
  case atStart => exact ⟨0, by omega, rfl, by rw [List.take_zero]; exact Blk.new _ _ _, (Below.refl _ _).alloc (Nat.le_refl _) _⟩
  case round =>
    clear hmk
    obtain ⟨k, hk, rfl, hbk, hbw⟩ := hrel
    have hsz := hbw.size
    have HB := Lib.hid (And.intro hbk hbw)
    clear hbk hbw
    by_cases hlt : k < n
    · obtain ⟨ad, u, hA, hadlt, hu, hc⟩ := (HA.out.below HB.out.2).at1 hlt
      subst hA
      obtain ⟨x, hx, rfl⟩ := ints_get hu
      have hx0 := HR.out x (List.mem_of_getElem? hx)
      obtain ⟨hx1, hx2⟩ := hx0
      obtain ⟨y, rfl⟩ := Int.eq_ofNat_of_zero_le hx1
      have hy : y < n := by omega
      have hnot : ¬ (y : Int) ∈ l.take k := by
        intro hm
        obtain ⟨i, hi, he⟩ := List.mem_iff_getElem.1 hm
        rw [List.length_take] at hi
        rw [List.getElem_take] at he
        have hkl : k < l.length := by rw [HL.out]; exact hlt
        have h1 : l[k] = (y : Int) := by rw [List.getElem?_eq_getElem hkl] at hx; exact Option.some.inj hx
        have := (List.getElem_inj HD.out (h₀ := by omega) (h₁ := hkl)).1 (he.trans h1.symm)
        omega
      have c1 := HB.out.1.cell y
      rw [seenA_get _ _ _ hy, decide_eq_false hnot] at c1
      have f1 := HB.out.1.frozen y
      have hsnoc : l.take (k + 1) = l.take k ++ [(y : Int)] := by rw [List.take_add_one, hx]; rfl
      have HX := Lib.hid hsnoc
      clear hu hx hnot hsnoc
      go_wp2_with fail
      go_roundw
      case rel =>
        refine ⟨k + 1, by omega, by go_num, ?_, HB.out.2.setCell (p := ⟨w.heap.size, y, none⟩) (Nat.le_refl _) _⟩
        rw [HX.out, ← seenA_set _ _ _ hy]
        exact HB.out.1.set_ y _
      case measure => simp [intOf]; omega
    · have : k = n := by omega
      subst this
      go_wp2_with fail
      go_ret
      exact ⟨rfl, HB.out.2⟩

theorem turnsI_apart (n at_ : Int) (m : Nat) (hm : (m : Int) = n) : (turnsI n at_ m).Nodup := by
  unfold turnsI
  rw [List.nodup_iff_pairwise_ne, List.pairwise_map]
  refine List.Pairwise.imp_of_mem ?_ (List.pairwise_lt_range (n := m))
  intro i j hi hj hlt
  rw [List.mem_range] at hi hj
  intro e
  have e2 := (Int.emod_eq_emod_iff_emod_sub_eq_zero).1 e.symm
  have e3 : (at_ + (j : Int) - (at_ + (i : Int))) % n = (j : Int) - i := by
    rw [show at_ + (j : Int) - (at_ + (i : Int)) = (j : Int) - i by omega]
    exact Int.emod_eq_of_lt (by omega) (by omega)
  omega

theorem turnsI_range (n at_ : Int) (m : Nat) (hn : 1 ≤ n) : ∀ x ∈ turnsI n at_ m, 0 ≤ x ∧ x < n := by
  intro x hx
  simp only [turnsI, List.mem_map] at hx
  obtain ⟨i, -, rfl⟩ := hx
  exact ⟨Int.emod_nonneg _ (by omega), Int.emod_lt_of_pos _ (by omega)⟩

set_option maxHeartbeats 800000 in
theorem slotFair_walk (n : Int) (wn : (Lit.int .i64 n).wf = true) (ahead : Int) (wa : (Lit.int .i64 ahead).wf = true) (w : World) :
    Calls Try.prog 4 #[.int .i64 n, .int .i64 ahead] w fun e w' => e = .returned (.bool true) ∧ Below w.heap.size w w' := by
  by_cases hin : 1 ≤ n ∧ n ≤ 64
  · obtain ⟨h0, h1⟩ := hin
    have p0 := Int.emod_nonneg ahead (show (300 : Int) ≠ 0 by omega)
    have p1 := Int.emod_lt_of_pos ahead (show (0 : Int) < 300 by omega)
    obtain ⟨m, hm⟩ := Int.eq_ofNat_of_zero_le p0
    obtain ⟨k, rfl⟩ := Int.eq_ofNat_of_zero_le (show 0 ≤ n by omega)
    have hm2 : m < 300 := by omega
    have HM := Lib.hid hm
    clear hm p0 p1
    go_enter Try.func4, Try.ntmps4
    go_wp2_with fail
    refine (awake_ok _).mono ?_
    rintro e w1 ⟨rfl, hb1⟩
    have hz1 := hb1.size
    have HB1 := Lib.hid hb1
    clear hb1
    go_wp2_with fail
    refine (wnew_ok _ _ h0 h1).mono ?_
    rintro e w2 ⟨rfl, hw2⟩
    have hb2 : Below w.heap.size w w2 := by rw [hw2]; exact HB1.out.alloc hz1 _
    have hW2 : WheelAt w2 w1.heap.size k 0 := by rw [hw2]; exact Blk.new _ _ _
    have H2 := Lib.hid (And.intro hb2 hW2)
    clear hb2 hW2 hw2
    go_wp2_with fail
    refine (pick_any ahead 300 _ (by omega) (by omega)).mono ?_
    rintro e w' ⟨rfl, rfl⟩
    rw [HM.out]
    go_wp2_with fail
    refine (turns_ok w1.heap.size k 0 m w2 H2.out.2 h0 h1 (by omega) (by omega) (by omega)).mono ?_
    rintro e w3 ⟨v3, rfl, -, hW3, hO3⟩
    have hb3 : Below w.heap.size w w3 := hO3.below' H2.out.1 (fun i hi => by omega)
    have H3 := Lib.hid (And.intro hb3 hW3)
    clear hb3 hW3 hO3 H2
    have q0 := Int.emod_nonneg (0 + (m : Int)) (show (k : Int) ≠ 0 by omega)
    have q1 := Int.emod_lt_of_pos (0 + (m : Int)) (show (0 : Int) < k by omega)
    generalize hq : (0 + (m : Int)) % k = q at *
    clear hq
    go_wp2_with fail
    refine (turns_ok w1.heap.size k q k w3 H3.out.2 h0 h1 q0 q1 (by omega)).mono ?_
    rintro e w4 ⟨v4, rfl, hown, -, hO4⟩
    have hb4 : Below w.heap.size w w4 := hO4.below' H3.out.1 (fun i hi => by omega)
    obtain ⟨a, c, rfl, -, -⟩ := own_form hown
    have H4 := Lib.hid (And.intro hb4 (Sl.of_own hown))
    clear hb4 hown hO4 H3
    go_wp2_with fail
    refine (once_ok a c k _ _ H4.out.2 (by omega) (by omega) (turnsI_range _ _ _ h0) (turnsI_apart _ _ _ rfl)).mono ?_
    rintro e w5 ⟨rfl, hb5⟩
    go_wp2_with fail
    go_ret
    exact ⟨rfl, below_then H4.out.1 hb5⟩
  · have hcases : n < 1 ∨ (1 ≤ n ∧ 64 < n) := by omega
    clear hin
    rcases hcases with h0 | ⟨h0, h1⟩
    all_goals
      go_enter Try.func4, Try.ntmps4
      go_wp2_with fail
      refine (awake_ok _).mono ?_
      rintro e w1 ⟨rfl, hb1⟩
      go_wp2_with fail
      refine (wnew_bad _ _ (by omega)).mono ?_
      rintro e w' ⟨rfl, rfl⟩
      go_wp2_with fail
      go_ret
      exact ⟨rfl, hb1⟩

namespace slotFair
set_option linter.unusedVariables false
open Go.ChangeShapes Go.WideShapes Go.ChangeAt Go.RowKit Go.As
theorem own : ownKnob Try.prog.godebug = none := by kernel_rfl
theorem laidOut : laidOutB Try.prog = true := by kernel_rfl
set_option maxRecDepth 100000 in
theorem lifted (os : Os) (started : os.Started) (H : Type) (enc : TypeId × Value → H) :
    ReturnsInHanded {} Try.checked os 4 .any (Rows.slotFairSpec.pre6 enc Try.prog Try.f4 Rows.slotFairRow.domain false) (Rows.slotFairSpec.post enc Try.prog Try.f4 false true false false) := by
  refine returnsInHanded_of_change (C := Try.checked) own started (by kernel_rfl) Try.func4
    (ChangeSpec.witness6 (enc := enc) (C := Try.checked) false ⟨#[], #[.int .i64 0, .int .i64 0], []⟩ 8 (by kernel_rfl) (by kernel_rfl) (by kernel_rfl) (by kernel_rfl)) ?_
  intro W base args ds gs before hval0 hW hcnd _
  have hval : ∀ (j : Nat) t v, Try.f4.params[j]? = some t → args[j]? = some v → Value.okWide Try.prog W .any base t v := hval0
  have hW' := hW
  obtain ⟨p, q, hA0, hV, hpq, hfz, hnd⟩ := hW
  have hA : DataW.TrodAll enc Try.prog W 0 (fun _ => true) true Try.f4.params.toList args.toList ds p := hA0
  have hlt : ∀ x ∈ p, x.block < W.heap.size := fun x hx => hW'.lt x (by rw [hpq]; exact List.mem_append_left _ hx)
  rw [Try.params4] at hA hval
  obtain ⟨v0, vs0, d0, ds0, p0, q0, hargs, rfl, hp0, h0, r0⟩ := trodAll_cons hA
  obtain ⟨v1, vs1, d1, ds1, p1, q1, rfl, rfl, hp1, h1, r1⟩ := trodAll_cons r0
  obtain ⟨rfl, rfl, hpn⟩ := trodAll_nil r1
  obtain rfl : args = #[v0, v1] := by cases args; simp_all
  obtain ⟨rfl, rfl⟩ := trodVars_none hV
  obtain ⟨a0, rfl, rfl, -, w0⟩ := open_int Try.underlying3 (hval 0 3 v0 rfl rfl) h0
  obtain ⟨a1, rfl, rfl, -, w1⟩ := open_int Try.underlying3 (hval 1 3 v1 rfl rfl) h1
  refine (slotFair_walk a0 w0 a1 w1 W).mono fun e W' ⟨he, hg⟩ => ?_
  subst he
  exact ⟨_, rfl, law_post (T := 4) laidOut (by kernel_rfl) Try.underlying4 rfl rfl hW' rfl rfl rfl hg⟩
theorem over : Rows.slotFairRow.holds Try.pinned (OpenSpec.ofChange Rows.slotFairSpec) :=
  OpenClaim.holds_of_wide 4 Try.f4 rfl rfl rfl rfl rfl rfl rfl ⟨rfl, rfl, rfl, rfl, rfl⟩ rfl rfl rfl rfl rfl (by kernel_rfl) Try.func4 (by kernel_rfl)
    (of_decide_eq_true (by kernel_rfl)) (by unfold Func.isWrapper; rw [if_neg (of_decide_eq_false (by kernel_rfl))]; exact ⟨rfl, rfl⟩)
    (fun os started H enc _ => lifted os started H enc)
/-- the statement -/
theorem proved : Rows.SlotFairSaid := over
#print axioms proved
end slotFair
end Go.Proofs.Ytlfpkepgamnidaa
