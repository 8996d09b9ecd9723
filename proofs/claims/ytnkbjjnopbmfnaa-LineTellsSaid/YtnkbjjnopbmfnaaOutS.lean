/- One buffer in calls one behind the other; what awake answers; a buffer that is none. No conditions beyond those in each theorem. -/
import Derived.Test.YtnkbjjnopbmfnaaOPair
import Derived.Lib.SlBytesConst
import Derived.Lib.SmallJoins
namespace Go.Proofs.Ytnkbjjnopbmfnaa
open Go.RowKit Go.As
set_option linter.unusedVariables false

/-- a buffer of the call's own, above what was there -/
def OS (w0 w : World) (b lim : Nat) (l : List UInt8) (t : Nat) (o : Bool) : Prop :=
  ∃ v pre rm, OBuf w b v lim pre l rm t o ∧ (∀ k, FB b v k → w0.heap.size ≤ k) ∧ Below w0.heap.size w0 w ∧ l.length ≤ lim ∧ pre.length ≤ t ∧ 64 ≤ lim ∧ lim ≤ 1048576
section
variable {w0 w w' : World} {b lim : Nat} {l : List UInt8} {t : Nat} {o : Bool}
theorem OS.below (h : OS w0 w b lim l t o) (hb : Below w.heap.size w w') : OS w0 w' b lim l t o := by
  obtain ⟨v, pre, rm, h1, h2, h3, h4⟩ := h
  exact ⟨v, pre, rm, h1.below hb, h2, below_then h3 hb, h4⟩
theorem OS.bel (h : OS w0 w b lim l t o) : Below w0.heap.size w0 w := by
  obtain ⟨v, pre, rm, h1, h2, h3, h4⟩ := h
  exact h3
theorem OS.keep (h : OS w0 w b lim l t o) (hO : Only (· = b) w w') {base : Nat} {v : Value} {x rm : List UInt8} (hx : RowB w base 5 v x rm) : RowB w' base 5 v x rm := by
  obtain ⟨u, pre, rm, h1, -⟩ := h
  exact hx.only hO (fun k hk e => hx.ne_ h1.1 (by decide) (by rw [hk, e]))
theorem newS (n : Nat) (hb : Below w0.heap.size w0 w) (h : 64 ≤ n) (h2 : n ≤ 1048576) :
    Calls Try.prog 12 #[.int .i64 n] w fun e w' => e = .returned (.tuple #[.pointer (some ⟨w.heap.size, 0, none⟩), .int .i64 0]) ∧ OS w0 w' w.heap.size n [] 0 false ∧ Below w.heap.size w w' :=
  (onew_ok n w h h2).mono fun e w' ⟨h1, h3, h4, h5⟩ => ⟨h1, ⟨_, [], [], h3, by
    rintro k (rfl | hk)
    · exact hb.size
    · simp [Value.ownBlock] at hk, below_then hb h4, by simp, by simp, h, h2⟩, h4⟩
theorem putS (line : List UInt8) (h : OS w0 w b lim l t o) (ht : t ≤ 1099511627776) (hline : line.length ≤ 281474976710656) {c : Int} {l' : List UInt8} {o' : Bool} (he : putE lim l o line = (c, l', o')) :
    Calls Try.prog 14 #[.pointer (some ⟨b, 0, none⟩), .string (str line)] w fun e w' => e = .returned (.int .i64 c) ∧ OS w0 w' b lim l' t o' := by
  obtain ⟨v, pre, rm, h1, h2, h3, h4, h5, h6, h7⟩ := h
  refine (oput_ok w b lim t v pre l rm o line h1 h6 h7 h4 (by omega) hline).mono ?_
  rw [he]
  rintro e w' ⟨e1, v', pre', rm', k1, k2, k3, k4⟩
  refine ⟨e1, v', pre', rm', k1, ?_, k3.below' h3 (fun k hk hf => by have := h2 k hf; omega), ?_, by omega, h6, h7⟩
  · rintro k (rfl | hk)
    · exact h2 _ (.inl rfl)
    · rcases k4 k hk with e | e
      · exact h2 _ (.inr e)
      · have := h3.size; omega
  · have := putE_le lim l o line h4
    rw [he] at this
    exact this
theorem drainS (n : Int) (h : OS w0 w b lim l t o) (ht : t ≤ 1099511627776) (hn : 0 ≤ n) {x l' : List UInt8} {t' : Nat} (hx : l.take n.toNat = x) (hl' : l.drop n.toNat = l') (ht' : t + min n.toNat l.length = t') :
    Calls Try.prog 16 #[.pointer (some ⟨b, 0, none⟩), .int .i64 n] w fun e w' =>
      ∃ v' rm', e = .returned (.tuple #[v', .int .i64 0]) ∧ RowB w' w.heap.size 5 v' x rm' ∧ OS w0 w' b lim l' t' o ∧ Only (· = b) w w' := by
  obtain ⟨v, pre, rm, h1, h2, h3, h4, h5, h6, h7⟩ := h
  refine (odrain_ok w b lim t v pre l rm o n h1 h6 h7 h4 (by omega) ht hn).mono ?_
  rintro e w' ⟨v', rm', e1, k1, k2, k3⟩
  rw [hx] at k1
  rw [hl', ht'] at k2
  refine ⟨v', rm', e1, k1, ⟨v, _, rm, k2, h2, k3.below' h3 (fun k hk hf => by have := h2 b (.inl rfl); omega), ?_, ?_, h6, h7⟩, k3⟩
  · rw [← hl', List.length_drop]; omega
  · rw [List.length_append, List.length_take]; omega
theorem lenS (h : OS w0 w b lim l t o) :
    Calls Try.prog 20 #[.pointer (some ⟨b, 0, none⟩)] w fun e w' => e = .returned (.int .i64 l.length) ∧ ∃ k, w' = w.drewN k := by
  obtain ⟨v, pre, rm, h1, h2, h3, h4, h5, h6, h7⟩ := h
  exact olen_ok w b lim t v pre l rm o h1 h6
theorem totalS (h : OS w0 w b lim l t o) :
    Calls Try.prog 21 #[.pointer (some ⟨b, 0, none⟩)] w fun e w' => e = .returned (.int .i64 t) ∧ w = w' := by
  obtain ⟨v, pre, rm, h1, h2, h3, h4, h5, h6, h7⟩ := h
  exact ototal_ok w b lim t v pre l rm o h1 h6
theorem overS (h : OS w0 w b lim l t o) :
    Calls Try.prog 22 #[.pointer (some ⟨b, 0, none⟩)] w fun e w' => e = .returned (.bool o) ∧ w = w' := by
  obtain ⟨v, pre, rm, h1, h2, h3, h4, h5, h6, h7⟩ := h
  exact oover_ok w b lim t v pre l rm o h1 h6
end
theorem OS.drewN {w0 w : World} {b lim : Nat} {l : List UInt8} {t : Nat} {o : Bool} (h : OS w0 w b lim l t o) (k : Nat) : OS w0 (w.drewN k) b lim l t o := h.below (below_drewN (Below.refl _ _) _)

/-- bytes written down: a new block -/
theorem byt_new {w : World} (l : List UInt8) (t : TypeId) : Sl (w.alloc (.cells (byt l).toArray t)) 1 (some ⟨w.heap.size, 0, none⟩) l.length (byt l) := by
  refine ⟨by simp [byt], fun _ => ⟨_, rfl, by simp, fun j u hu => ?_⟩⟩
  have : (⟨w.heap.size, 0, none⟩ : Addr).add j = ⟨w.heap.size, j, none⟩ := by unfold Addr.add; split <;> simp_all
  rw [this, World.cell?_alloc_at _ _ _ _ rfl]
  simpa using hu

/-- the same, of a constant: the block bears the run-time's mark -/
theorem byt_newM {w : World} (l : List UInt8) (t : TypeId) (fr : Nat × Nat) : Sl (w.alloc (.cells (byt l).toArray t fr)) 1 (some ⟨w.heap.size, 0, none⟩) l.length (byt l) := by
  refine ⟨by simp [byt], fun _ => ⟨_, rfl, by simp, fun j u hu => ?_⟩⟩
  have : (⟨w.heap.size, 0, none⟩ : Addr).add j = ⟨w.heap.size, j, none⟩ := by unfold Addr.add; split <;> simp_all
  rw [this, World.cell?_alloc_mark]
  simpa using hu

set_option maxRecDepth 100000 in
set_option maxHeartbeats 1600000 in
theorem oawake_ok (w : World) : Calls Try.prog 23 #[] w fun e w' => e = .returned (.bool true) ∧ Below w.heap.size w w' := by
  have kc := fun (w : World) (C : Array Value) (n c : Nat) => Lib.run_convert_bytes_const (P := Try.prog) w 33 5 C n c Try.underlying33 Try.underlying5
  go_enter Try.func23, Try.ntmps23
  go_wp2_with fail
  refine (newS (w0 := w) 64 (Below.refl _ _) (by omega) (by omega)).mono ?_
  rintro e w1 ⟨rfl, h1, -⟩
  have H1 := Lib.hid h1
  clear h1
  go_wp2_with fail
  refine (putS [97, 98] H1.out (by omega) (by simp) (show _ = (0, [97, 98, 10], false) by decide)).mono ?_
  rintro e w2 ⟨rfl, h2⟩
  have H2 := Lib.hid h2
  clear h2
  go_wp2_with fail
  refine (putS [] H2.out (by omega) (by simp) (show _ = (0, [97, 98, 10, 10], false) by decide)).mono ?_
  rintro e w3 ⟨rfl, h3⟩
  have H3 := Lib.hid h3
  clear h3
  go_wp2_with fail
  refine (lenS H3.out).mono ?_
  rintro e w4 ⟨rfl, dn, h4⟩
  have H4 := Lib.hid (show OS w w4 w.heap.size 64 [97, 98, 10, 10] 0 false by rw [h4]; exact H3.out.drewN _)
  clear h4
  go_wp2_with fail
  refine (drainS 2 H4.out (by omega) (by omega) (show _ = [97, 98] by decide) (show _ = [10, 10] by decide) (show _ = 2 by decide)).mono ?_
  rintro e w5 ⟨x, xrm, rfl, hx, h5, -⟩
  obtain ⟨xa, xn, xc, rfl, hxn, -, -⟩ := hx.form2
  have H5 := Lib.hid (And.intro hx (And.intro hxn (h5.below ((Below.refl _ _).alloc (Nat.le_refl _) (.cells #[.int .u8 97, .int .u8 98] 5 (2, 3))))))
  clear hx hxn h5
  go_wp2_with fail
  refine (sameBytes_any xa _ xn 2 xc 2 [97, 98] [97, 98] _ (by rw [H5.out.2.1]; exact H5.out.1.sl.below ((Below.refl _ _).alloc (Nat.le_refl _) _)) (byt_newM [97, 98] 5 (2, 3))).mono ?_
  rintro e w' ⟨rfl, rfl⟩
  go_wp2_with fail
  refine (totalS H5.out.2.2).mono ?_
  rintro e w' ⟨rfl, rfl⟩
  go_wp2_with fail
  go_ret
  exact ⟨rfl, H5.out.2.2.bel⟩
end Go.Proofs.Ytnkbjjnopbmfnaa
