/- One line reader in calls one behind the other; what awake answers. No conditions beyond those in each theorem. -/
import Derived.Test.YtnkbjjnopbmfnaaLineF
namespace Go.Proofs.Ytnkbjjnopbmfnaa
open Go.RowKit Go.As
set_option linter.unusedVariables false

/-- a reader of the call's own: its blocks lie above what was there, and below 'top' -/
def LS (w0 w : World) (top b lim : Nat) (cur : List UInt8) (over : Bool) : Prop :=
  ∃ v rm, LR w b v lim cur rm over ∧ (∀ k, FB b v k → w0.heap.size ≤ k ∧ k < top) ∧ Below w0.heap.size w0 w ∧ top ≤ w.heap.size ∧ okS lim (cur, over) ∧ 16 ≤ lim ∧ lim ≤ 65536
/-- lines of the call's own -/
def LnRow (w w0 : World) (o : Value) (ls : List Ln) : Prop := w.ownsRow w0.heap.size 74 2 o ls.length (ls.flatMap lnC)
section
variable {w0 w w' : World} {top b lim : Nat} {cur : List UInt8} {over : Bool}
theorem LS.below (h : LS w0 w top b lim cur over) (hb : Below w.heap.size w w') : LS w0 w' top b lim cur over := by
  obtain ⟨v, rm, h1, h2, h3, h4, h5⟩ := h
  exact ⟨v, rm, h1.below hb, h2, below_then h3 hb, Nat.le_trans h4 hb.size, h5⟩
theorem LS.bel (h : LS w0 w top b lim cur over) : Below w0.heap.size w0 w := by
  obtain ⟨v, rm, h1, h2, h3, h4⟩ := h
  exact h3
theorem LS.top_le (h : LS w0 w top b lim cur over) : top ≤ w.heap.size := by
  obtain ⟨v, rm, h1, h2, h3, h4, h5⟩ := h
  exact h4
theorem newLS (n : Nat) (hb : Below w0.heap.size w0 w) (h : 16 ≤ n) (h2 : n ≤ 65536) :
    Calls Try.prog 26 #[.int .i64 n] w fun e w' => e = .returned (.tuple #[.pointer (some ⟨w.heap.size, 0, none⟩), .int .i64 0]) ∧ LS w0 w' w'.heap.size w.heap.size n [] false ∧ Below w.heap.size w w' :=
  (lnew_ok n w h h2).mono fun e w' ⟨h1, h3, h4, h5⟩ => ⟨h1, ⟨_, [], h3, by
    rintro k (rfl | hk)
    · exact ⟨hb.size, by omega⟩
    · simp [Value.ownBlock] at hk, below_then hb h4, Nat.le_refl _, ⟨by simp, fun _ => rfl⟩, h, h2⟩, h4⟩
theorem feedS (A : Option Addr) (n c : Nat) (l : List UInt8) (h : LS w0 w top b lim cur over) (ha : Sl w 1 A n (byt l)) (hnc : n ≤ c) (hA : A = none → c = 0) (hn : n ≤ 1099511627776)
    (hap : ∀ ad, A = some ad → 0 < n → ad.block < w0.heap.size ∨ top ≤ ad.block) {ls : List Ln} {cur' : List UInt8} {over' : Bool} (he : feedB lim (cur, over) l = (ls, (cur', over'))) :
    Calls Try.prog 27 #[.pointer (some ⟨b, 0, none⟩), .slice A n c] w fun e w' =>
      ∃ o, e = .returned (.tuple #[o, .int .i64 0]) ∧ LnRow w' w o ls ∧ LS w0 w' w'.heap.size b lim cur' over' ∧
        (∀ W u us, LnRow w W u us → LnRow w' W u us) ∧ (∃ F, Only F w w' ∧ ∀ k, F k → w0.heap.size ≤ k ∧ k < top) := by
  obtain ⟨v, rm, h1, h2, h3, h4, h5, h6, h7⟩ := h
  refine (feed_ok w b lim v cur rm over A n c l h1 h6 h7 h5 ha hnc hA hn (fun ad e h0 hf => by
    have := h2 _ hf
    rcases hap ad e h0 with q | q <;> omega)).mono ?_
  have hok := feedB_ok l h5
  rw [he] at hok ⊢
  rintro e w' ⟨o, v', rm', e1, k1, k2, k3, k4⟩
  refine ⟨o, e1, k1, ⟨v', rm', k2, ?_, k3.below' h3 (fun k hk hf => by have := (h2 k hf).1; omega), Nat.le_refl _, hok, h6, h7⟩, ?_, FB b v, k3, h2⟩
  · intro k hk
    refine ⟨?_, k2.lt k hk⟩
    rcases hk with rfl | hk
    · exact (h2 _ (.inl rfl)).1
    · rcases k4 k hk with e | e
      · exact (h2 _ (.inr e)).1
      · have := h3.size; omega
  · intro W u us hu
    refine own_only hu k3 ?_
    rintro k hk (rfl | e)
    · exact own_ne hu h1.1 (by decide) hk
    · exact own_ne hu (h1.2.blk e) (by decide) hk
theorem pendingS (h : LS w0 w top b lim cur over) :
    Calls Try.prog 29 #[.pointer (some ⟨b, 0, none⟩)] w fun e w' => e = .returned (.int .i64 cur.length) ∧ w = w' := by
  obtain ⟨v, rm, h1, h2, h3, h4, h5, h6, h7⟩ := h
  exact lpending_ok w b lim v cur rm over h1 h6
end
theorem LnRow.below {w w' w0 : World} {o : Value} {ls : List Ln} (h : LnRow w w0 o ls) (hb : Below w.heap.size w w') : LnRow w' w0 o ls := own_below h hb
theorem LnRow.form {w w0 : World} {o : Value} {ls : List Ln} (h : LnRow w w0 o ls) : ∃ a c, o = .slice a ls.length c := by
  obtain ⟨a, c, e, -⟩ := own_form h
  exact ⟨a, c, e⟩
theorem LnRow.sl {w w0 : World} {a : Option Addr} {n c : Nat} {ls : List Ln} (h : LnRow w w0 (.slice a n c) ls) : Sl w 2 a ls.length (ls.flatMap lnC) := by
  obtain ⟨a', c', e, -⟩ := own_form h
  injection e with e1 e2 e3
  subst e1 e2 e3
  exact Sl.of_own h
/-- one line written down: a new block -/
theorem ln_new {w : World} (p : Ln) : Sl (w.alloc (.cells #[.int .i64 p.1, .string (str p.2)] 74)) 2 (some ⟨w.heap.size, 0, none⟩) 1 (([p] : List Ln).flatMap lnC) := by
  refine ⟨rfl, fun _ => ⟨_, rfl, by simp, fun j u hu => ?_⟩⟩
  have : (⟨w.heap.size, 0, none⟩ : Addr).add j = ⟨w.heap.size, j, none⟩ := by unfold Addr.add; split <;> simp_all
  rw [this, World.cell?_alloc_at _ _ _ _ rfl]
  simpa [lnC] using hu

set_option maxRecDepth 100000 in
set_option maxHeartbeats 1600000 in
theorem lawake_ok (w : World) : Calls Try.prog 25 #[] w fun e w' => e = .returned (.bool true) ∧ Below w.heap.size w w' := by
  have kc := fun (w : World) (C : Array Value) (n c : Nat) => Lib.run_convert_bytes_const (P := Try.prog) w 33 5 C n c Try.underlying33 Try.underlying5
  go_enter Try.func25, Try.ntmps25
  go_wp2_with fail
  refine (newLS (w0 := w) 16 (Below.refl _ _) (by omega) (by omega)).mono ?_
  rintro e w1 ⟨rfl, h1, -⟩
  have H1 := Lib.hid h1
  clear h1
  go_wp2_with fail
  refine (feedS _ 2 2 [97, 98] (H1.out.below ((Below.refl _ _).alloc (Nat.le_refl _) (.cells (byt [97, 98]).toArray 5 (2, 3)))) (byt_newM [97, 98] 5 (2, 3)) (by omega) (by simp) (by omega) (fun ad e _ => by injection e with e; subst e; exact .inr (Nat.le_refl _)) (show _ = ([], ([97, 98], false)) by decide)).mono ?_
  rintro e w2 ⟨o2, rfl, r2, h2, k2, -⟩
  obtain ⟨a2, c2, rfl⟩ := r2.form
  have H2 := Lib.hid (And.intro h2 r2)
  clear h2 r2 k2 H1
  go_wp2_with fail
  refine (pendingS H2.out.1).mono ?_
  rintro e w' ⟨rfl, rfl⟩
  go_wp2_with fail
  refine (feedS _ 3 3 [99, 10, 100] (H2.out.1.below ((Below.refl _ _).alloc (Nat.le_refl _) (.cells (byt [99, 10, 100]).toArray 5 (3, 4)))) (byt_newM [99, 10, 100] 5 (3, 4)) (by omega) (by simp) (by omega) (fun ad e _ => by injection e with e; subst e; exact .inr (Nat.le_refl _)) (show _ = ([(0, [97, 98, 99])], ([100], false)) by decide)).mono ?_
  rintro e w3 ⟨o3, rfl, r3, h3, k3, -⟩
  obtain ⟨a3, c3, rfl⟩ := r3.form
  have H3 := Lib.hid (And.intro h3 r3)
  clear h3 r3 k3 H2
  go_wp2_with fail
  refine (lines_any a3 _ 1 1 c3 1 [(0, [97, 98, 99])] [(0, [97, 98, 99])] _ (by exact H3.out.2.sl.below ((Below.refl _ _).alloc (Nat.le_refl _) _)) (ln_new (0, [97, 98, 99])) (by omega)).mono ?_
  rintro e w4 ⟨rfl, dq, h4⟩
  have H4 := Lib.hid (show LS w w4 _ _ 16 [100] false by rw [h4]; exact H3.out.1.below (below_drewN ((Below.refl _ _).alloc (Nat.le_refl _) (.cells #[.int .i64 0, .string (str [97, 98, 99])] 74)) _))
  clear h4 H3
  go_wp2_with fail
  refine (pendingS H4.out).mono ?_
  rintro e w' ⟨rfl, rfl⟩
  go_wp2_with fail
  go_ret
  exact ⟨rfl, H4.out.bel⟩
end Go.Proofs.Ytnkbjjnopbmfnaa
