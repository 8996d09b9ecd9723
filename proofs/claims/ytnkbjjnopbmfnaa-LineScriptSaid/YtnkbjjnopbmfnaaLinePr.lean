/- Two line readers side by side; Pick. No conditions beyond those in each theorem. -/
import Derived.Test.YtnkbjjnopbmfnaaLineS
import Derived.Test.YtnkbjjnopbmfnaaLineG
namespace Go.Proofs.Ytnkbjjnopbmfnaa
open Go.RowKit Go.As
set_option linter.unusedVariables false

/-- a reader of the type T -/
def XR (T : TypeId) (w : World) (b : Nat) (v : Value) (lim : Nat) (cur rm : List UInt8) (over : Bool) : Prop :=
  Blk w b T #[.int .i64 lim, v, .bool over] ∧ RowB w 0 5 v cur rm
/-- two readers, apart from one another, above what was there -/
structure XP (w0 w : World) (T1 T2 : TypeId) (lim b1 : Nat) (v1 : Value) (rm1 : List UInt8) (s1 : LSt) (b2 : Nat) (v2 : Value) (rm2 : List UInt8) (s2 : LSt) : Prop where
  o : XR T1 w b1 v1 lim s1.1 rm1 s1.2
  r : XR T2 w b2 v2 lim s2.1 rm2 s2.2
  dis : ∀ k, FB b1 v1 k → ¬ FB b2 v2 k
  lo1 : ∀ k, FB b1 v1 k → w0.heap.size ≤ k
  lo2 : ∀ k, FB b2 v2 k → w0.heap.size ≤ k
  bel : Below w0.heap.size w0 w
  ok1 : okS lim s1
  ok2 : okS lim s2
section
variable {T T1 T2 : TypeId} {w0 w w' : World} {lim b b1 : Nat} {v v1 v1' : Value} {rm rm1 rm1' cur : List UInt8} {s1 s1' : LSt} {b2 : Nat} {v2 v2' : Value} {rm2 rm2' : List UInt8} {s2 s2' : LSt} {F : Nat → Prop} {over : Bool}
theorem XR.only (h : XR T w b v lim cur rm over) (ho : Only F w w') (hF : ∀ k, FB b v k → ¬ F k) : XR T w' b v lim cur rm over :=
  ⟨h.1.only ho (hF b (.inl rfl)), h.2.only ho (fun k hk => hF k (.inr hk))⟩
theorem XR.below (h : XR T w b v lim cur rm over) (hb : Below w.heap.size w w') : XR T w' b v lim cur rm over := ⟨h.1.belowS hb, h.2.below hb⟩
theorem XR.lt (h : XR T w b v lim cur rm over) : ∀ k, FB b v k → k < w.heap.size := by
  rintro k (rfl | hk)
  · exact h.1.lt
  · exact (h.2.lt k hk).2
theorem XP.step1 (h : XP w0 w T1 T2 lim b1 v1 rm1 s1 b2 v2 rm2 s2) (ho : XR T1 w' b1 v1' lim s1'.1 rm1' s1'.2) (hk : okS lim s1') (hO : Only (FB b1 v1) w w') (hs : SameOrNew w v1 v1') :
    XP w0 w' T1 T2 lim b1 v1' rm1' s1' b2 v2 rm2 s2 := by
  refine ⟨ho, h.r.only hO (fun k hk hf => h.dis k hf hk), ?_, ?_, h.lo2, hO.below' h.bel (fun k hk hf => by have := h.lo1 k hf; omega), hk, h.ok2⟩
  · rintro k (rfl | hk) hf
    · exact h.dis _ (.inl rfl) hf
    · rcases hs k hk with e | e
      · exact h.dis k (.inr e) hf
      · have := h.r.lt k hf; omega
  · rintro k (rfl | hk)
    · exact h.lo1 _ (.inl rfl)
    · rcases hs k hk with e | e
      · exact h.lo1 k (.inr e)
      · have := h.bel.size; omega
theorem XP.step2 (h : XP w0 w T1 T2 lim b1 v1 rm1 s1 b2 v2 rm2 s2) (hr : XR T2 w' b2 v2' lim s2'.1 rm2' s2'.2) (hk : okS lim s2') (hO : Only (FB b2 v2) w w') (hs : SameOrNew w v2 v2') :
    XP w0 w' T1 T2 lim b1 v1 rm1 s1 b2 v2' rm2' s2' := by
  refine ⟨h.o.only hO (fun k hk hf => h.dis k hk hf), hr, ?_, h.lo1, ?_, hO.below' h.bel (fun k hk hf => by have := h.lo2 k hf; omega), h.ok1, hk⟩
  · rintro k hf (rfl | hk)
    · exact h.dis _ hf (.inl rfl)
    · rcases hs k hk with e | e
      · exact h.dis k hf (.inr e)
      · have := h.o.lt k hf; omega
  · rintro k (rfl | hk)
    · exact h.lo2 _ (.inl rfl)
    · rcases hs k hk with e | e
      · exact h.lo2 k (.inr e)
      · have := h.bel.size; omega
theorem XP.below (h : XP w0 w T1 T2 lim b1 v1 rm1 s1 b2 v2 rm2 s2) (hb : Below w.heap.size w w') : XP w0 w' T1 T2 lim b1 v1 rm1 s1 b2 v2 rm2 s2 :=
  ⟨h.o.below hb, h.r.below hb, h.dis, h.lo1, h.lo2, below_then h.bel hb, h.ok1, h.ok2⟩
/-- blocks that are in neither turn -/
theorem XP.only (h : XP w0 w T1 T2 lim b1 v1 rm1 s1 b2 v2 rm2 s2) (hO : Only F w w') (h1 : ∀ k, F k → ¬ FB b1 v1 k ∧ ¬ FB b2 v2 k ∧ w0.heap.size ≤ k) :
    XP w0 w' T1 T2 lim b1 v1 rm1 s1 b2 v2 rm2 s2 :=
  ⟨h.o.only hO (fun k hk hf => (h1 k hf).1 hk), h.r.only hO (fun k hk hf => (h1 k hf).2.1 hk), h.dis, h.lo1, h.lo2, hO.below' h.bel (fun k hk hf => by have := (h1 k hf).2.2; omega), h.ok1, h.ok2⟩
/-- rows of lines share no block with a reader -/
theorem ln_apart {u : Value} {us : List Ln} {W : World} (hu : LnRow w W u us) (h : XR T w b v lim cur rm over) (hT : 74 ≠ T) : ∀ k, u.ownBlock = some k → ¬ FB b v k := by
  rintro k hk (rfl | e)
  · exact own_ne hu h.1 hT hk
  · exact own_ne hu (h.2.blk e) (by decide) hk
end

theorem pick_any (x n : Int) (w : World) (hn : 1 ≤ n) (hn2 : n ≤ 1048576) (hx : (Lit.int .i64 x).wf = true) :
    Calls Try.prog 28 #[.int .i64 x, .int .i64 n] w fun e w' => (∃ j : Nat, e = .returned (.int .i64 j) ∧ (j : Int) < n) ∧ w = w' := by
  have hb := bounds_i64 hx
  have h1 : x.tmod n < n := Int.tmod_lt_of_pos _ (by omega)
  have h2 : -n < x.tmod n := Int.lt_tmod_of_pos _ (by omega)
  have hw : IntKind.i64.wrap (x.tmod n) = x.tmod n := by rw [IntKind.wrap_i64]; omega
  have h0 : ¬ (n = 0) := by omega
  clear hx hb
  by_cases hneg : x.tmod n < 0
  · go_enter Try.func28, Try.ntmps28
    go_wp2_with fail
    go_ret
    exact ⟨⟨(x.tmod n + n).toNat, ret_int (by omega), by omega⟩, rfl⟩
  · go_enter Try.func28, Try.ntmps28
    go_wp2_with fail
    go_ret
    exact ⟨⟨(x.tmod n).toNat, ret_int (by omega), by omega⟩, rfl⟩
/-- a row of lines is left as it was where a reader turns -/
theorem ln_keep {T : TypeId} {w w' W : World} {b lim : Nat} {v u : Value} {cur rm : List UInt8} {over : Bool} {us : List Ln} (hu : LnRow w W u us) (h : XR T w b v lim cur rm over) (hT : 74 ≠ T) (hO : Only (FB b v) w w') : LnRow w' W u us :=
  own_only hu hO (ln_apart hu h hT)
end Go.Proofs.Ytnkbjjnopbmfnaa
