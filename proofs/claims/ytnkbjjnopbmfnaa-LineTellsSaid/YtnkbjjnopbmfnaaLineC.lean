/- What the line readers, the program's and the document's, answer. Conditions: a reader that was made. -/
import Derived.Test.YtnkbjjnopbmfnaaLineB
namespace Go.Proofs.Ytnkbjjnopbmfnaa
open Go.RowKit Go.As
set_option linter.unusedVariables false

/-- a reader that was made -/
def LR (w : World) (b : Nat) (v : Value) (lim : Nat) (cur rm : List UInt8) (over : Bool) : Prop :=
  Blk w b 69 #[.int .i64 lim, v, .bool over] ∧ RowB w 0 5 v cur rm
/-- the document's -/
def RR (w : World) (b : Nat) (v : Value) (lim : Nat) (cur rm : List UInt8) (over : Bool) : Prop :=
  Blk w b 65 #[.int .i64 lim, v, .bool over] ∧ RowB w 0 5 v cur rm

theorem sl_only {w w' : World} {F : Nat → Prop} {sz n : Nat} {a : Option Addr} {xs : List Value} (h : Sl w sz a n xs) (ho : Only F w w') (hg : ∀ ad, a = some ad → 0 < n → ¬ F ad.block) : Sl w' sz a n xs :=
  ⟨h.1, fun hn => by
    obtain ⟨ad, e, hb, hc⟩ := h.2 hn
    exact ⟨ad, e, Nat.lt_of_lt_of_le hb ho.size, fun j u hu => (World.cell?_of_block (by rw [blk_add]; exact ho.block _ hb (hg ad e hn))).trans (hc j u hu)⟩⟩
section
variable {w w' : World} {b lim : Nat} {v : Value} {cur rm : List UInt8} {over : Bool} {F : Nat → Prop}
theorem LR.only (h : LR w b v lim cur rm over) (ho : Only F w w') (hF : ∀ k, FB b v k → ¬ F k) : LR w' b v lim cur rm over :=
  ⟨h.1.only ho (hF b (.inl rfl)), h.2.only ho (fun k hk => hF k (.inr hk))⟩
theorem LR.below (h : LR w b v lim cur rm over) (hb : Below w.heap.size w w') : LR w' b v lim cur rm over := ⟨h.1.belowS hb, h.2.below hb⟩
theorem LR.lt (h : LR w b v lim cur rm over) : ∀ k, FB b v k → k < w.heap.size := by
  rintro k (rfl | hk)
  · exact h.1.lt
  · exact (h.2.lt k hk).2
theorem RR.only (h : RR w b v lim cur rm over) (ho : Only F w w') (hF : ∀ k, FB b v k → ¬ F k) : RR w' b v lim cur rm over :=
  ⟨h.1.only ho (hF b (.inl rfl)), h.2.only ho (fun k hk => hF k (.inr hk))⟩
theorem RR.below (h : RR w b v lim cur rm over) (hb : Below w.heap.size w w') : RR w' b v lim cur rm over := ⟨h.1.belowS hb, h.2.below hb⟩
theorem RR.lt (h : RR w b v lim cur rm over) : ∀ k, FB b v k → k < w.heap.size := by
  rintro k (rfl | hk)
  · exact h.1.lt
  · exact (h.2.lt k hk).2
end

theorem lnew_bad (n : Int) (w : World) (h : n < 16 ∨ 65536 < n) :
    Calls Try.prog 26 #[.int .i64 n] w fun e w' => e = .returned (.tuple #[.pointer none, .int .i64 2]) ∧ w = w' := by
  rcases h with h | h
  · go_enter Try.func26, Try.ntmps26
    go_wp2
    go_ret2
    exact ⟨rfl, rfl⟩
  · have h' : ¬ n < 16 := by omega
    go_enter Try.func26, Try.ntmps26
    go_wp2
    go_ret2
    exact ⟨rfl, rfl⟩
theorem lnew_ok (n : Nat) (w : World) (h : 16 ≤ n) (h2 : n ≤ 65536) :
    Calls Try.prog 26 #[.int .i64 n] w fun e w' => e = .returned (.tuple #[.pointer (some ⟨w.heap.size, 0, none⟩), .int .i64 0]) ∧
      LR w' w.heap.size (.slice none 0 0) n [] [] false ∧ Below w.heap.size w w' ∧ w'.heap.size = w.heap.size + 1 := by
  go_enter Try.func26, Try.ntmps26
  go_wp2
  go_ret2
  exact ⟨rfl, ⟨Blk.new _ _ _, RowB.nil _ _ _⟩, (Below.refl _ _).alloc (Nat.le_refl _) _, by simp⟩
theorem qnew_bad (n : Int) (w : World) (h : n < 16 ∨ 65536 < n) :
    Calls Try.prog 31 #[.int .i64 n] w fun e w' => e = .returned (.tuple #[.pointer none, .int .i64 2]) ∧ w = w' := by
  rcases h with h | h
  · go_enter Try.func31, Try.ntmps31
    go_wp2
    go_ret2
    exact ⟨rfl, rfl⟩
  · have h' : ¬ n < 16 := by omega
    go_enter Try.func31, Try.ntmps31
    go_wp2
    go_ret2
    exact ⟨rfl, rfl⟩
theorem qnew_ok (n : Nat) (w : World) (h : 16 ≤ n) (h2 : n ≤ 65536) :
    Calls Try.prog 31 #[.int .i64 n] w fun e w' => e = .returned (.tuple #[.pointer (some ⟨w.heap.size, 0, none⟩), .int .i64 0]) ∧
      RR w' w.heap.size (.slice none 0 0) n [] [] false ∧ Below w.heap.size w w' ∧ w'.heap.size = w.heap.size + 1 := by
  go_enter Try.func31, Try.ntmps31
  go_wp2
  go_ret2
  exact ⟨rfl, ⟨Blk.new _ _ _, RowB.nil _ _ _⟩, (Below.refl _ _).alloc (Nat.le_refl _) _, by simp⟩

section
variable (w : World) (b lim : Nat) (v : Value) (cur rm : List UInt8) (over : Bool)

theorem lnone_ok (h : LR w b v lim cur rm over) (hl : 16 ≤ lim) :
    Calls Try.prog 41 #[.pointer (some ⟨b, 0, none⟩)] w fun e w' => e = .returned (.bool false) ∧ w = w' := by
  have c0 : w.cell? ⟨b, 0, none⟩ = some (.int .i64 lim) := h.1.cell 0
  have hne : ((lim : Int) == 0) = false := by simp; omega
  clear h
  go_enter Try.func41, Try.ntmps41
  go_wp2
  go_ret
  exact ⟨rfl, rfl⟩
theorem lpending_ok (h : LR w b v lim cur rm over) (hl : 16 ≤ lim) :
    Calls Try.prog 29 #[.pointer (some ⟨b, 0, none⟩)] w fun e w' => e = .returned (.int .i64 cur.length) ∧ w = w' := by
  have HN := Lib.hid (lnone_ok w b lim v cur rm over h hl)
  obtain ⟨a, rfl, hm⟩ := h.2.form
  have c1 := h.1.cell 1
  simp only [List.getElem?_toArray, List.getElem?_cons_succ, List.getElem?_cons_zero] at c1
  clear h hm
  go_enter Try.func29, Try.ntmps29
  go_wp2_with (go_at_call 41; refine HN.out.mono ?_; rintro e w' ⟨rfl, rfl⟩)
  go_ret
  exact ⟨rfl, rfl⟩
theorem lclear_ok (h : LR w b v lim cur rm over) (hl : 16 ≤ lim) :
    Calls Try.prog 35 #[.pointer (some ⟨b, 0, none⟩)] w fun e w' => e = .returned (.int .i64 0) ∧ LR w' b (.slice none 0 0) lim [] [] false ∧ Only (· = b) w w' := by
  have HN := Lib.hid (lnone_ok w b lim v cur rm over h hl)
  have HV := Lib.hid h
  have c1 := h.1.cell 1
  have c2 := h.1.cell 2
  have f1 := h.1.frozen 1
  have f2 := h.1.frozen 2
  simp only [List.getElem?_toArray, List.getElem?_cons_succ, List.getElem?_cons_zero] at c1 c2
  clear h
  go_enter Try.func35, Try.ntmps35
  go_wp2_with (go_at_call 41; refine HN.out.mono ?_; rintro e w' ⟨rfl, rfl⟩)
  go_ret
  refine ⟨rfl, ⟨?_, RowB.nil _ _ _⟩, Only.set (Only.set (Only.refl (· = b) _) (p := ⟨b, 2, none⟩) (.inl rfl) _) (p := ⟨b, 1, none⟩) (.inl rfl) _⟩
  have := Blk.set_ (Blk.set_ HV.out.1 2 (.bool false)) 1 (.slice none 0 0)
  simpa using this
end
theorem lineInfo : (Try.prog.info? 74).map (fun i => (i.zero, i.size, i.bytes)) = some (some (.agg #[.int .i64 0, .string (str [])]), 2, 24) := by kernel_rfl
end Go.Proofs.Ytnkbjjnopbmfnaa
