/- What the document's ring (assizeref25.Ring) does. Conditions: a ring of at most 64 numbers. -/
import Derived.Test.YtlfpkepgamnidaaRing2
namespace Go.Proofs.Ytlfpkepgamnidaa
open Go.RowKit Go.As
set_option linter.unusedVariables false

/-- the document's ring, its list at v -/
def RRingV (w : World) (b : Nat) (v : Value) (L : List Int) : Prop := Blk w b 49 #[v] ∧ w.ownsRow 0 3 1 v L.length (ints L)
theorem RRingV.only {w w' : World} {b : Nat} {v : Value} {L : List Int} {F : Nat → Prop} (h : RRingV w b v L) (ho : Only F w w') (hF : ∀ k, FR b v k → ¬ F k) : RRingV w' b v L :=
  ⟨h.1.only ho (hF b (.inl rfl)), own_only h.2 ho (fun k hk => hF k (.inr hk))⟩
theorem RRingV.below {w w' : World} {b : Nat} {v : Value} {L : List Int} (h : RRingV w b v L) (hb : Below w.heap.size w w') : RRingV w' b v L :=
  ⟨h.1.belowS hb, own_below h.2 hb⟩
theorem RRingV.lt {w : World} {b : Nat} {v : Value} {L : List Int} (h : RRingV w b v L) : ∀ k, FR b v k → k < w.heap.size := by
  rintro k (rfl | hk)
  · exact h.1.lt
  · exact (h.2.lt k hk).2

set_option maxHeartbeats 400000 in
theorem rrhas_ok (w : World) (b : Nat) (v : Value) (L : List Int) (id : Int) (h : RRingV w b v L) (hl : L.length ≤ 64) :
    Calls Try.prog 35 #[.pointer (some ⟨b, 0, none⟩), .int .i64 id] w fun e w' => e = .returned (.bool (decide (id ∈ L))) ∧ w = w' := by
  have c0 := h.1.cell 0
  obtain ⟨a, c, rfl, -, -⟩ := own_form h.2
  simp at c0
  have HA := Lib.hid (Sl.of_own h.2)
  clear h
  go_enter Try.func35, Try.ntmps35
  go_wp2_with fail
  go_loop [5] (fun i => ∃ k : Nat, k ≤ L.length ∧ i = .int .i64 k ∧ id ∉ L.take k) (fun i => L.length - (intOf i).toNat)
  case atStart => exact ⟨0, by omega, rfl, by simp⟩
  case round =>
    obtain ⟨k, hk, rfl, he⟩ := hrel
    have HE := Lib.hid he
    clear he
    by_cases hlt : k < L.length
    · obtain ⟨ad, u, hA, -, hu, hc⟩ := HA.out.at1 hlt
      subst hA
      obtain ⟨y, hy, rfl⟩ := ints_get hu
      have HY := Lib.hid hy
      clear hu hy
      by_cases hxy : y = id
      · have hb : (y == id) = true := by simpa using hxy
        have HXY := Lib.hid hxy
        clear hxy
        go_wp2_with fail
        go_ret
        refine ⟨ret_bool ?_, rfl⟩
        have := List.mem_of_getElem? HY.out
        rw [HXY.out] at this
        simp [this]
      · have hb : (y == id) = false := by simpa using hxy
        have HXY := Lib.hid hxy
        clear hxy
        go_wp2_with fail
        go_round
        case rel =>
          refine ⟨k + 1, by omega, by go_num, ?_⟩
          rw [List.take_add_one, HY.out]
          simp only [Option.toList_some, List.mem_append, List.mem_singleton, not_or]
          exact ⟨HE.out, fun e => HXY.out e.symm⟩
        case measure => simp [intOf]; omega
    · go_wp2_with fail
      go_ret
      refine ⟨ret_bool ?_, rfl⟩
      have := HE.out
      rw [List.take_of_length_le (by omega)] at this
      simp [this]

def withoutI (l : List Int) (id : Int) : List Int := l.filter fun x => !(x == id)
theorem withoutI_succ {l : List Int} {k : Nat} {x id : Int} (h : l[k]? = some x) : withoutI (l.take (k + 1)) id = withoutI (l.take k) id ++ (if x = id then [] else [x]) := by
  rw [List.take_add_one, h]
  simp only [withoutI, List.filter_append, Option.toList_some]
  by_cases e : x = id <;> simp [e]
theorem withoutI_le (l : List Int) (id : Int) : (withoutI l id).length ≤ l.length := List.length_filter_le ..

set_option maxHeartbeats 400000 in
theorem without_ok (A : Option Addr) (n c : Nat) (l : List Int) (id : Int) (w : World) (ha : Sl w 1 A n (ints l)) (hn : n ≤ 65536) :
    Calls Try.prog 49 #[.slice A n c, .int .i64 id] w fun e w' => ∃ v, e = .returned v ∧ w'.ownsRow w.heap.size 3 1 v (withoutI l id).length (ints (withoutI l id)) ∧ Below w.heap.size w w' := by
  have hl : l.length = n := by have := ha.len1; simpa [ints] using this
  have HA := Lib.hid ha
  have HL := Lib.hid hl
  clear ha hl
  go_enter Try.func49, Try.ntmps49
  go_wp2_with fail
  go_loopw [5, 6] (fun v i wr => ∃ k : Nat, k ≤ n ∧ i = .int .i64 k ∧ wr.ownsRow w.heap.size 3 1 v (withoutI (l.take k) id).length (ints (withoutI (l.take k) id)) ∧ Below w.heap.size w wr) (fun _ i _ => n - (intOf i).toNat)
  case atStart => exact ⟨0, by omega, rfl, World.ownsRow_nil _ _ _ _, Below.refl _ _⟩
  case round =>
    obtain ⟨k, hk, rfl, hown, hb⟩ := hrel
    have hsz := hb.size
    have HO := Lib.hid (And.intro hown hb)
    clear hown hb
    by_cases hlt : k < n
    · obtain ⟨ad, u, hA, -, hu, hc⟩ := (HA.out.below HO.out.2).at1 hlt
      subst hA
      obtain ⟨y, hy, rfl⟩ := ints_get hu
      have hs := withoutI_succ (id := id) hy
      clear hu hy
      by_cases hxy : y = id
      · have hb : (y == id) = true := by simpa using hxy
        rw [if_pos hxy, List.append_nil] at hs
        have HS := Lib.hid hs
        clear hxy hs
        go_wp2_with fail
        go_roundw
        case rel => exact ⟨k + 1, by omega, by go_num, by rw [HS.out]; exact HO.out.1, HO.out.2⟩
        case measure => simp [intOf]; omega
      · have hb : (y == id) = false := by simpa using hxy
        rw [if_neg hxy] at hs
        have HS := Lib.hid hs
        have hle := withoutI_le (l.take k) id
        have hle2 : (l.take k).length ≤ k := List.length_take_le ..
        clear hxy hs
        go_wp2_with (at_builtin
                     refine wpl_app1 rfl _ _ _ rfl w.heap.size 3 _ 1 8 Try.underlying28 intInfo rfl (by omega) (by omega) _ _ _ [.int .i64 y] rfl HO.out.1 rfl rfl (by simp [Value.oneCell']) (by omega) hsz ?_
                     intro v' w1 hown1 hg1 hs1
                     have H1 := Lib.hid (And.intro hown1 (HO.out.2.grown hg1 hsz (fun g hg => (HO.out.1.lt g hg).1)))
                     clear hown1 hg1 hs1)
        go_roundw
        case rel =>
          refine ⟨k + 1, by omega, by go_num, ?_, H1.out.2⟩
          rw [HS.out]
          have := H1.out.1
          simpa [ints] using this
        case measure => simp [intOf]; omega
    · go_wp2_with fail
      go_ret
      have := HO.out.1
      rw [List.take_of_length_le (by rw [HL.out]; omega)] at this
      exact ⟨_, rfl, this, HO.out.2⟩
end Go.Proofs.Ytlfpkepgamnidaa
