/- A ring of a statement's own, over its calls. Conditions: at most 64 numbers. -/
import Derived.Test.YtlfpkepgamnidaaRing2
namespace Go.Proofs.Ytlfpkepgamnidaa
open Go.RowKit Go.As
set_option linter.unusedVariables false

/-- a ring of the call's own -/
structure RS (w W : World) (b : Nat) (v : Value) (L : List Int) : Prop where
  r : RingV W b v L
  lo : ∀ k, FR b v k → w.heap.size ≤ k
  bel : Below w.heap.size w W
  le : L.length ≤ 64
theorem RS.step {w W W' : World} {b : Nat} {v v' : Value} {L L' : List Int} (h : RS w W b v L) (hr : RingV W' b v' L') (ho : Only (FR b v) W W') (hs : SameOrNew W v v') (hl : L'.length ≤ 64) : RS w W' b v' L' := by
  refine ⟨hr, ?_, ho.below' h.bel (fun k hk hF => by have := h.lo k hF; omega), hl⟩
  rintro k (rfl | hk)
  · exact h.lo _ (.inl rfl)
  · rcases hs k hk with e' | e'
    · exact h.lo _ (.inr e')
    · have := h.bel.size; omega
theorem RS.below {w W W' : World} {b : Nat} {v : Value} {L : List Int} (h : RS w W b v L) (hb : Below W.heap.size W W') : RS w W' b v L :=
  ⟨h.r.below hb, h.lo, below_then h.bel hb, h.le⟩
theorem addC (w W : World) (b : Nat) (v : Value) (L : List Int) (id e : Int) (L' : List Int) (he : addE L id = (e, L')) (hl : L'.length ≤ 64) (h : RS w W b v L) :
    Calls Try.prog 27 #[.pointer (some ⟨b, 0, none⟩), .int .i64 id] W fun e' W' => e' = .returned (.int .i64 e) ∧ ∃ v', RS w W' b v' L' := by
  have := add_ok W b v L id h.r h.le
  rw [he] at this
  exact this.mono fun _ _ ⟨h1, v', h2, h3, h4⟩ => ⟨h1, v', h.step h2 h3 h4 hl⟩
theorem dropC (w W : World) (b : Nat) (v : Value) (L : List Int) (id e : Int) (L' : List Int) (he : dropE L id = (e, L')) (hl : L'.length ≤ 64) (h : RS w W b v L) :
    Calls Try.prog 29 #[.pointer (some ⟨b, 0, none⟩), .int .i64 id] W fun e' W' => e' = .returned (.int .i64 e) ∧ ∃ v', RS w W' b v' L' := by
  have := drop_ok W b v L id h.r h.le
  rw [he] at this
  exact this.mono fun _ _ ⟨h1, v', h2, h3, h4⟩ => ⟨h1, v', h.step h2 h3 h4 hl⟩
theorem turnC (w W : World) (b : Nat) (v : Value) (L : List Int) (x e : Int) (L' : List Int) (he : turnE L = (x, e, L')) (hl : L'.length ≤ 64) (h : RS w W b v L) :
    Calls Try.prog 31 #[.pointer (some ⟨b, 0, none⟩)] W fun e' W' => e' = .returned (.tuple #[.int .i64 x, .int .i64 e]) ∧ ∃ v', RS w W' b v' L' := by
  have := rturn2_ok W b v L h.r h.le
  rw [he] at this
  exact this.mono fun _ _ ⟨h1, v', h2, h3, h4⟩ => ⟨h1, v', h.step h2 h3 h4 hl⟩
theorem allC (w W : World) (b : Nat) (v : Value) (L : List Int) (h : RS w W b v L) :
    Calls Try.prog 33 #[.pointer (some ⟨b, 0, none⟩)] W fun e' W' => ∃ a c, e' = .returned (.slice a L.length c) ∧ Sl W' 1 a L.length (ints L) ∧ RS w W' b v L :=
  (all_ok W b v L h.r h.le).mono fun _ _ ⟨v', h1, h2, h3⟩ => by
    obtain ⟨a, c, rfl, -, -⟩ := own_form h2
    exact ⟨a, c, h1, Sl.of_own h2, h.below h3⟩
end Go.Proofs.Ytlfpkepgamnidaa
