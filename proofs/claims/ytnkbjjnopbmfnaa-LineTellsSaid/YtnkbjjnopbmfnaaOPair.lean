/- A buffer and the document's buffer side by side. No conditions. -/
import Derived.Test.YtnkbjjnopbmfnaaOutB
import Derived.Test.YtnkbjjnopbmfnaaOutC
namespace Go.Proofs.Ytnkbjjnopbmfnaa
open Go.RowKit Go.As
set_option linter.unusedVariables false

/-- a buffer and the document's, apart from one another and above what was there -/
structure OPair (w0 w : World) (limit b1 : Nat) (v1 : Value) (pre rm1 l1 : List UInt8) (t1 : Nat) (o1 : Bool) (b2 : Nat) (v2 : Value) (rm2 l2 : List UInt8) (t2 : Nat) (o2 : Bool) : Prop where
  o : OBuf w b1 v1 limit pre l1 rm1 t1 o1
  r : RBuf w b2 v2 limit l2 rm2 t2 o2
  dis : ∀ k, FB b1 v1 k → ¬ FB b2 v2 k
  lo1 : ∀ k, FB b1 v1 k → w0.heap.size ≤ k
  lo2 : ∀ k, FB b2 v2 k → w0.heap.size ≤ k
  bel : Below w0.heap.size w0 w

section
variable {w0 w w' : World} {limit b1 : Nat} {v1 v1' : Value} {pre pre' rm1 rm1' l1 l1' : List UInt8} {t1 t1' : Nat} {o1 o1' : Bool} {b2 : Nat} {v2 v2' : Value} {rm2 rm2' l2 l2' : List UInt8} {t2 t2' : Nat} {o2 o2' : Bool} {F : Nat → Prop}
theorem OPair.stepO (h : OPair w0 w limit b1 v1 pre rm1 l1 t1 o1 b2 v2 rm2 l2 t2 o2) (ho : OBuf w' b1 v1' limit pre' l1' rm1' t1' o1') (hO : Only (FB b1 v1) w w') (hs : SameOrNew w v1 v1') :
    OPair w0 w' limit b1 v1' pre' rm1' l1' t1' o1' b2 v2 rm2 l2 t2 o2 := by
  refine ⟨ho, h.r.only hO (fun k hk hf => h.dis k hf hk), ?_, ?_, h.lo2, hO.below' h.bel (fun k hk hf => by have := h.lo1 k hf; omega)⟩
  · rintro k (rfl | hk) hf
    · exact h.dis _ (.inl rfl) hf
    · rcases hs k hk with e | e
      · exact h.dis k (.inr e) hf
      · have := h.r.lt k hf; omega
  · rintro k (rfl | hk)
    · exact h.lo1 _ (.inl rfl)
    · rcases hs k hk with e | e
      · exact h.lo1 k (.inr e)
      · have := h.bel.size; omega
theorem OPair.stepR (h : OPair w0 w limit b1 v1 pre rm1 l1 t1 o1 b2 v2 rm2 l2 t2 o2) (hr : RBuf w' b2 v2' limit l2' rm2' t2' o2') (hO : Only (FB b2 v2) w w') (hs : SameOrNew w v2 v2') :
    OPair w0 w' limit b1 v1 pre rm1 l1 t1 o1 b2 v2' rm2' l2' t2' o2' := by
  refine ⟨h.o.only hO (fun k hk hf => h.dis k hk hf), hr, ?_, h.lo1, ?_, hO.below' h.bel (fun k hk hf => by have := h.lo2 k hf; omega)⟩
  · rintro k hf (rfl | hk)
    · exact h.dis _ hf (.inl rfl)
    · rcases hs k hk with e | e
      · exact h.dis k hf (.inr e)
      · have := h.o.lt k hf; omega
  · rintro k (rfl | hk)
    · exact h.lo2 _ (.inl rfl)
    · rcases hs k hk with e | e
      · exact h.lo2 k (.inr e)
      · have := h.bel.size; omega
theorem OPair.below (h : OPair w0 w limit b1 v1 pre rm1 l1 t1 o1 b2 v2 rm2 l2 t2 o2) (hb : Below w.heap.size w w') : OPair w0 w' limit b1 v1 pre rm1 l1 t1 o1 b2 v2 rm2 l2 t2 o2 :=
  ⟨h.o.below hb, h.r.below hb, h.dis, h.lo1, h.lo2, below_then h.bel hb⟩
theorem OPair.drew (h : OPair w0 w limit b1 v1 pre rm1 l1 t1 o1 b2 v2 rm2 l2 t2 o2) : OPair w0 w.drew limit b1 v1 pre rm1 l1 t1 o1 b2 v2 rm2 l2 t2 o2 := h.below (Below.refl _ _).drew
/-- blocks that are in neither turn -/
theorem OPair.only (h : OPair w0 w limit b1 v1 pre rm1 l1 t1 o1 b2 v2 rm2 l2 t2 o2) (hO : Only F w w') (h1 : ∀ k, F k → ¬ FB b1 v1 k ∧ ¬ FB b2 v2 k ∧ w0.heap.size ≤ k) :
    OPair w0 w' limit b1 v1 pre rm1 l1 t1 o1 b2 v2 rm2 l2 t2 o2 :=
  ⟨h.o.only hO (fun k hk hf => (h1 k hf).1 hk), h.r.only hO (fun k hk hf => (h1 k hf).2.1 hk), h.dis, h.lo1, h.lo2, hO.below' h.bel (fun k hk hf => by have := (h1 k hf).2.2; omega)⟩
end

theorem ototal_q (w : World) (b limit total : Nat) (v : Value) (pre l rm : List UInt8) (over : Bool) (h : OBuf w b v limit pre l rm total over) (hl : 64 ≤ limit) :
    Calls Try.prog 21 #[.pointer (some ⟨b, 0, none⟩)] w fun e w' => e = .returned (.int .i64 total) ∧ ∃ k, w' = w.drewN k :=
  (ototal_ok w b limit total v pre l rm over h hl).mono fun e w' ⟨h1, h2⟩ => ⟨h1, 0, h2.symm⟩
theorem oover_q (w : World) (b limit total : Nat) (v : Value) (pre l rm : List UInt8) (over : Bool) (h : OBuf w b v limit pre l rm total over) (hl : 64 ≤ limit) :
    Calls Try.prog 22 #[.pointer (some ⟨b, 0, none⟩)] w fun e w' => e = .returned (.bool over) ∧ ∃ k, w' = w.drewN k :=
  (oover_ok w b limit total v pre l rm over h hl).mono fun e w' ⟨h1, h2⟩ => ⟨h1, 0, h2.symm⟩
theorem putE_le (limit : Nat) (l : List UInt8) (over : Bool) (line : List UInt8) (h : l.length ≤ limit) : (putE limit l over line).2.1.length ≤ limit := by
  unfold putE
  split
  · exact h
  · split
    · exact h
    · split
      · exact h
      · simp; omega
end Go.Proofs.Ytnkbjjnopbmfnaa
