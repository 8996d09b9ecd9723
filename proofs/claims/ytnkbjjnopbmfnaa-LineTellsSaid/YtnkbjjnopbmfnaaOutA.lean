/- What the methods of out.Buffer and of the document's buffer do. Conditions: a buffer that was made. -/
import Derived.Test.YtnkbjjnopbmfnaaBytFn
import Derived.Test.YtnkbjjnopbmfnaaShelf
import Derived.Test.YtnkbjjnopbmfnaaPlan
import Derived.Lib.IndexLaws
import Derived.BigQuiet
namespace Go.Proofs.Ytnkbjjnopbmfnaa
open Go.RowKit Go.As
set_option linter.unusedVariables false

theorem contains_nl (l : List UInt8) (w : World) :
    Calls Try.prog 24 #[.string (str l), .string { data := #[10] }] w fun e w' => e = .returned (.bool (decide ((10 : UInt8) ∈ l))) ∧ w = w' := by
  refine (Try.strings_Contains_one (str l) 10 w).mono ?_
  rintro e w' ⟨rfl, rfl⟩
  refine ⟨ret_bool ?_, rfl⟩
  rw [str_data]
  congr 1
  apply propext
  have hge := Lib.indexByte_ge l 10
  constructor
  · intro h
    obtain ⟨k, hk⟩ := Int.eq_ofNat_of_zero_le h
    exact List.mem_of_getElem? (Lib.indexByte_some hk).1
  · intro h
    obtain ⟨k, hk⟩ := List.mem_iff_getElem?.1 h
    rcases Int.lt_or_le (Lib.indexByte l 10) 0 with hneg | hpos
    · exact absurd hk (Lib.indexByte_none (by omega) k)
    · exact hpos

/-- a buffer that was made -/
def OBuf (w : World) (b : Nat) (v : Value) (limit : Nat) (pre l rm : List UInt8) (total : Nat) (over : Bool) : Prop :=
  Blk w b 44 #[.int .i64 limit, v, .int .i64 pre.length, .int .i64 total, .bool over] ∧ RowB w 0 5 v (pre ++ l) rm
def RBuf (w : World) (b : Nat) (v : Value) (limit : Nat) (l rm : List UInt8) (total : Nat) (over : Bool) : Prop :=
  Blk w b 40 #[.int .i64 limit, .int .i64 total, v, .bool over] ∧ RowB w 0 5 v l rm
/-- its blocks -/
def FB (b : Nat) (v : Value) : Nat → Prop := fun k => k = b ∨ v.ownBlock = some k

section
variable {w w' : World} {b limit total : Nat} {v : Value} {pre l rm : List UInt8} {over : Bool} {F : Nat → Prop}
theorem OBuf.only (h : OBuf w b v limit pre l rm total over) (ho : Only F w w') (hF : ∀ k, FB b v k → ¬ F k) : OBuf w' b v limit pre l rm total over :=
  ⟨h.1.only ho (hF b (.inl rfl)), h.2.only ho (fun k hk => hF k (.inr hk))⟩
theorem OBuf.below (h : OBuf w b v limit pre l rm total over) (hb : Below w.heap.size w w') : OBuf w' b v limit pre l rm total over := ⟨h.1.belowS hb, h.2.below hb⟩
theorem OBuf.lt (h : OBuf w b v limit pre l rm total over) : ∀ k, FB b v k → k < w.heap.size := by
  rintro k (rfl | hk)
  · exact h.1.lt
  · exact (h.2.lt k hk).2
theorem RBuf.only (h : RBuf w b v limit l rm total over) (ho : Only F w w') (hF : ∀ k, FB b v k → ¬ F k) : RBuf w' b v limit l rm total over :=
  ⟨h.1.only ho (hF b (.inl rfl)), h.2.only ho (fun k hk => hF k (.inr hk))⟩
theorem RBuf.below (h : RBuf w b v limit l rm total over) (hb : Below w.heap.size w w') : RBuf w' b v limit l rm total over := ⟨h.1.belowS hb, h.2.below hb⟩
theorem RBuf.lt (h : RBuf w b v limit l rm total over) : ∀ k, FB b v k → k < w.heap.size := by
  rintro k (rfl | hk)
  · exact h.1.lt
  · exact (h.2.lt k hk).2
end

theorem onew_bad (n : Int) (w : World) (h : n < 64 ∨ 1048576 < n) :
    Calls Try.prog 12 #[.int .i64 n] w fun e w' => e = .returned (.tuple #[.pointer none, .int .i64 2]) ∧ w = w' := by
  rcases h with h | h
  · go_enter Try.func12, Try.ntmps12
    go_wp2
    go_ret2
    exact ⟨rfl, rfl⟩
  · have h' : ¬ n < 64 := by omega
    go_enter Try.func12, Try.ntmps12
    go_wp2
    go_ret2
    exact ⟨rfl, rfl⟩
theorem onew_ok (n : Nat) (w : World) (h : 64 ≤ n) (h2 : n ≤ 1048576) :
    Calls Try.prog 12 #[.int .i64 n] w fun e w' => e = .returned (.tuple #[.pointer (some ⟨w.heap.size, 0, none⟩), .int .i64 0]) ∧
      OBuf w' w.heap.size (.slice none 0 0) n [] [] [] 0 false ∧ Below w.heap.size w w' ∧ w'.heap.size = w.heap.size + 1 := by
  go_enter Try.func12, Try.ntmps12
  go_wp2
  go_ret2
  exact ⟨rfl, ⟨Blk.new _ _ _, RowB.nil _ _ _⟩, (Below.refl _ _).alloc (Nat.le_refl _) _, by simp⟩
theorem rnew_bad (n : Int) (w : World) (h : n < 64 ∨ 1048576 < n) :
    Calls Try.prog 13 #[.int .i64 n] w fun e w' => e = .returned (.tuple #[.pointer none, .int .i64 2]) ∧ w = w' := by
  rcases h with h | h
  · go_enter Try.func13, Try.ntmps13
    go_wp2
    go_ret2
    exact ⟨rfl, rfl⟩
  · have h' : ¬ n < 64 := by omega
    go_enter Try.func13, Try.ntmps13
    go_wp2
    go_ret2
    exact ⟨rfl, rfl⟩
theorem rnew_ok (n : Nat) (w : World) (h : 64 ≤ n) (h2 : n ≤ 1048576) :
    Calls Try.prog 13 #[.int .i64 n] w fun e w' => e = .returned (.tuple #[.pointer (some ⟨w.heap.size, 0, none⟩), .int .i64 0]) ∧
      RBuf w' w.heap.size (.slice none 0 0) n [] [] 0 false ∧ Below w.heap.size w w' ∧ w'.heap.size = w.heap.size + 1 := by
  go_enter Try.func13, Try.ntmps13
  go_wp2
  go_ret2
  exact ⟨rfl, ⟨Blk.new _ _ _, RowB.nil _ _ _⟩, (Below.refl _ _).alloc (Nat.le_refl _) _, by simp⟩

section
variable (w : World) (b limit total : Nat) (v : Value) (pre l rm : List UInt8) (over : Bool)

theorem onone_ok (h : OBuf w b v limit pre l rm total over) (hl : 64 ≤ limit) :
    Calls Try.prog 38 #[.pointer (some ⟨b, 0, none⟩)] w fun e w' => e = .returned (.bool false) ∧ w = w' := by
  have c0 : w.cell? ⟨b, 0, none⟩ = some (.int .i64 limit) := h.1.cell 0
  have hne : ((limit : Int) == 0) = false := by simp; omega
  clear h
  go_enter Try.func38, Try.ntmps38
  go_wp2
  go_ret
  exact ⟨rfl, rfl⟩

theorem olen_ok (h : OBuf w b v limit pre l rm total over) (hl : 64 ≤ limit) :
    Calls Try.prog 20 #[.pointer (some ⟨b, 0, none⟩)] w fun e w' => e = .returned (.int .i64 l.length) ∧ ∃ k, w' = w.drewN k := by
  have HN := Lib.hid (onone_ok w b limit total v pre l rm over h hl)
  obtain ⟨a, rfl, hm⟩ := h.2.form
  have c1 := h.1.cell 1
  have c2 := h.1.cell 2
  simp only [List.getElem?_toArray, List.getElem?_cons_succ, List.getElem?_cons_zero, List.length_append, maxLen] at c1 c2 hm
  clear h
  go_enter Try.func20, Try.ntmps20
  go_wp2_with fail
  refine HN.out.mono ?_
  rintro e w' ⟨rfl, rfl⟩
  go_wp2_with fail
  go_quiet (fail)
  go_wp2_with fail
  go_ret
  exact ⟨ret_int (by omega), _, rfl⟩

theorem ototal_ok (h : OBuf w b v limit pre l rm total over) (hl : 64 ≤ limit) :
    Calls Try.prog 21 #[.pointer (some ⟨b, 0, none⟩)] w fun e w' => e = .returned (.int .i64 total) ∧ w = w' := by
  have HN := Lib.hid (onone_ok w b limit total v pre l rm over h hl)
  have c3 := h.1.cell 3
  simp only [List.getElem?_toArray, List.getElem?_cons_succ, List.getElem?_cons_zero] at c3
  clear h
  go_enter Try.func21, Try.ntmps21
  go_wp2_with fail
  refine HN.out.mono ?_
  rintro e w' ⟨rfl, rfl⟩
  go_wp2_with fail
  go_ret
  exact ⟨rfl, rfl⟩

theorem oover_ok (h : OBuf w b v limit pre l rm total over) (hl : 64 ≤ limit) :
    Calls Try.prog 22 #[.pointer (some ⟨b, 0, none⟩)] w fun e w' => e = .returned (.bool over) ∧ w = w' := by
  have HN := Lib.hid (onone_ok w b limit total v pre l rm over h hl)
  have c4 := h.1.cell 4
  simp only [List.getElem?_toArray, List.getElem?_cons_succ, List.getElem?_cons_zero] at c4
  clear h
  go_enter Try.func22, Try.ntmps22
  go_wp2_with (go_at_call 38; refine HN.out.mono ?_; rintro e w' ⟨rfl, rfl⟩)
  go_ret
  exact ⟨rfl, rfl⟩

/-- what Put answers; what waits, and whether it ran over, behind it -/
def putE (limit : Nat) (l : List UInt8) (over : Bool) (line : List UInt8) : Int × List UInt8 × Bool :=
  if over then (10, l, over) else if (10 : UInt8) ∈ line then (4, l, over) else if limit < l.length + line.length + 1 then (8, l, true) else (0, l ++ line ++ [10], false)

set_option maxRecDepth 100000 in
set_option maxHeartbeats 1600000 in
theorem oput_ok (line : List UInt8) (h : OBuf w b v limit pre l rm total over) (hl : 64 ≤ limit) (hl2 : limit ≤ 1048576) (hll : l.length ≤ limit) (hp : pre.length ≤ 1099511627776) (hline : line.length ≤ 281474976710656) :
    Calls Try.prog 14 #[.pointer (some ⟨b, 0, none⟩), .string (str line)] w fun e w' => e = .returned (.int .i64 (putE limit l over line).1) ∧
      ∃ v' pre' rm', OBuf w' b v' limit pre' (putE limit l over line).2.1 rm' total (putE limit l over line).2.2 ∧ pre'.length ≤ pre.length ∧ Only (FB b v) w w' ∧ SameOrNew w v v' := by
  have HN := Lib.hid (onone_ok w b limit total v pre l rm over h hl)
  have HL := Lib.hid (fun n => olen_ok (w.drewN n) b limit total v pre l rm over (by exact h) hl)
  have HC := Lib.hid (contains_nl line)
  have HV := Lib.hid h
  have c0 := h.1.cell 0
  have c1 := h.1.cell 1
  have c2 := h.1.cell 2
  have c4 := h.1.cell 4
  have f1 := h.1.frozen 1
  have f2 := h.1.frozen 2
  have f4 := h.1.frozen 4
  simp only [List.getElem?_toArray, List.getElem?_cons_succ, List.getElem?_cons_zero] at c0 c1 c2 c4
  cases over
  case true =>
    clear h c0 c1 c2 f1 f2 f4
    go_enter Try.func14, Try.ntmps14
    go_wp2_with (go_at_call 38; refine HN.out.mono ?_; rintro e w' ⟨rfl, rfl⟩)
    go_ret
    exact ⟨rfl, v, pre, rm, HV.out, Nat.le_refl _, Only.refl _ _, SameOrNew.rfl _ _⟩
  by_cases hm : (10 : UInt8) ∈ line
  · have hd : decide ((10 : UInt8) ∈ line) = true := by simpa using hm
    rw [hd] at HC
    have HE := Lib.hid (show putE limit l false line = (4, l, false) by simp [putE, hm])
    clear h c0 c1 c2 f1 f2 f4 hd hm
    go_enter Try.func14, Try.ntmps14
    go_wp2_with (first
      | (go_at_call 38; refine HN.out.mono ?_; rintro e w' ⟨rfl, rfl⟩)
      | (go_at_call 24; refine (HC.out _).mono ?_; rintro e w' ⟨rfl, rfl⟩))
    go_ret
    rw [HE.out]
    exact ⟨rfl, v, pre, rm, HV.out, Nat.le_refl _, Only.refl _ _, SameOrNew.rfl _ _⟩
  have hd : decide ((10 : UInt8) ∈ line) = false := by simpa using hm
  rw [hd] at HC
  by_cases hfull : limit < l.length + line.length + 1
  · have HE := Lib.hid (show putE limit l false line = (8, l, true) by simp [putE, hm, hfull])
    clear h c1 c2 f1 f2 hd hm
    go_enter Try.func14, Try.ntmps14
    go_wp2_with (first
      | (go_at_call 38; refine HN.out.mono ?_; rintro e w' ⟨rfl, rfl⟩)
      | (go_at_call 24; refine (HC.out _).mono ?_; rintro e w' ⟨rfl, rfl⟩))
    go_quiet (first | (go_at_call 20; exact Calls.quiet_of (HL.out _)))
    go_wp2_with fail
    go_ret
    rw [HE.out]
    refine ⟨rfl, v, pre, rm, ⟨?_, ?_⟩, Nat.le_refl _, ?_, SameOrNew.rfl _ _⟩
    · have := Blk.set_ (w := w.drewN nq) HV.out.1 4 (.bool true)
      simpa using this
    · exact HV.out.2.only (Only.set (Only.of_below (below_drewN (Below.refl _ _) nq) (· = b)) (p := ⟨b, 4, none⟩) (.inl rfl) _) (fun k hk e => HV.out.2.ne_ HV.out.1 (by decide) (by rw [hk, e]))
    · exact Only.set (Only.of_below (below_drewN (Below.refl _ _) nq) _) (p := ⟨b, 4, none⟩) (.inl (.inl rfl)) _
  · have HE := Lib.hid (show putE limit l false line = (0, l ++ line ++ [10], false) by simp [putE, hm, hfull])
    obtain ⟨a, hv, hmx⟩ := h.2.form
    have HVB := Lib.hid (fun k (hk : v.ownBlock = some k) => (h.2.lt k hk).2)
    have HVN := Lib.hid (h.2.ne_ h.1 (by decide))
    have hline2 : line.length ≤ 1048576 := by omega
    have hsz := h.1.lt
    by_cases hl0 : l = []
    · subst hl0
      simp only [List.append_nil] at hv hmx
      subst hv
      clear h hd hm
      simp only [maxLen] at hmx
      have hS := fun nq => Blk.set_ (Blk.set_ (w := w.drewN nq) HV.out.1 1 (.slice none 0 0)) 2 (.int .i64 0)
      simp only [List.setIfInBounds_toArray, List.set_cons_succ, List.set_cons_zero] at hS
      have HS := Lib.hid hS
      clear hS
      go_enter Try.func14, Try.ntmps14
      go_wp2_with (first
        | (go_at_call 38; refine HN.out.mono ?_; rintro e w' ⟨rfl, rfl⟩)
        | (go_at_call 24; refine (HC.out _).mono ?_; rintro e w' ⟨rfl, rfl⟩))
      go_quiet (first | (go_at_call 20; exact Calls.quiet_of (HL.out _)))
      go_wp2_with fail
      go_quiet (fail)
      go_wp2_with (first
        | (at_builtin
           refine wpl_appBS rfl _ _ _ _ rfl 0 5 Try.underlying33 Try.underlying9 byteInfo _ [] [] (RowB.nil _ _ _) rfl line rfl (by simp; omega) (by omega) ?_
           intro v1 rm1 w1 hown1 hg1 hs1
           obtain ⟨a1, rfl, hm1⟩ := hown1.form
           have H1 := Lib.hid (And.intro hown1 (And.intro hg1 hs1))
           clear hown1 hg1 hs1)
        | (at_builtin
           refine wpl_appB1 rfl _ _ _ rfl 0 5 Try.underlying33 byteInfo _ _ _ H1.out.1 rfl 10 _ rfl rfl (by simp; omega) (by omega) ?_
           intro v2 rm2 w2 hown2 hg2 hs2
           obtain ⟨a2, rfl, hm2⟩ := hown2.form
           have hB1 := (HS.out _).grown H1.out.2.1 (by simp [Value.ownBlock])
           have hB2 := hB1.grown hg2 (fun e => H1.out.1.ne_ hB1 (by decide) e.symm)
           have hF2 := hB2.frozen 1
           have hC2 := hB2.cell 1
           simp only [List.getElem?_toArray, List.getElem?_cons_succ, List.getElem?_cons_zero] at hC2
           have HB2 := Lib.hid (And.intro hown2 (And.intro hg2 (And.intro hs2 hB2)))
           clear hown2 hg2 hs2 hB1 hB2))
      go_ret
      rw [HE.out]
      have hn1 : ∀ k, (Value.slice a1 ([] ++ line).length (([] ++ line).length + rm1.length)).ownBlock = some k → w.heap.size ≤ k := fun k hk => by
        rcases H1.out.2.2 k hk with e | e
        · simp [Value.ownBlock] at e
        · simpa [World.setCell] using e
      have hO : Only (FB b (.slice a pre.length (pre.length + rm.length))) w w1 := Only.grown (Only.set (Only.set (Only.of_below (below_drewN (Below.refl _ _) _) _) (p := ⟨b, 1, none⟩) (.inl (.inl rfl)) _) (p := ⟨b, 2, none⟩) (.inl (.inl rfl)) _) H1.out.2.1 (by simp [Value.ownBlock])
      have hO2 := hO.grown HB2.out.2.1 (fun k hk => .inr (hn1 k hk))
      have hn2 := fun k hk => (HB2.out.2.2.1 k hk).elim (fun e => hn1 k e) (fun e => Nat.le_trans hO.size e)
      refine ⟨rfl, _, [], rm2, ⟨?_, ?_⟩, Nat.zero_le _, hO2.set (p := ⟨b, 1, none⟩) (.inl (.inl rfl)) _, fun k hk => .inr (hn2 k hk)⟩
      · have := Blk.set_ HB2.out.2.2.2 1 (.slice a2 ([] ++ line ++ [10]).length (([] ++ line ++ [10]).length + rm2.length))
        simpa using this
      · exact HB2.out.1.only ((Only.refl (· = b) w2).set (p := ⟨b, 1, none⟩) (.inl rfl) _) (fun k hk e => HB2.out.1.ne_ HB2.out.2.2.2 (by decide) (by rw [hk, e]))
    · have hlp : 0 < l.length := List.length_pos_iff.2 hl0
      simp only [List.length_append] at hv hmx
      subst hv
      clear h hd hm hl0
      simp only [maxLen] at hmx
      have hB0 : ∀ n, Blk (w.drewN n) b 44 #[.int .i64 limit, .slice a (pre.length + l.length) (pre.length + l.length + rm.length), .int .i64 pre.length, .int .i64 total, .bool false] := fun n => HV.out.1
      have HB0 := Lib.hid hB0
      clear hB0
      have hne : ((pre.length : Int) == (pre.length : Int) + (l.length : Int)) = false := by simp; omega
      go_enter Try.func14, Try.ntmps14
      go_wp2_with (first
        | (go_at_call 38; refine HN.out.mono ?_; rintro e w' ⟨rfl, rfl⟩)
        | (go_at_call 24; refine (HC.out _).mono ?_; rintro e w' ⟨rfl, rfl⟩))
      go_quiet (first | (go_at_call 20; exact Calls.quiet_of (HL.out _)))
      go_wp2_with fail
      go_quiet (fail)
      go_wp2_with (first
        | (at_builtin
           refine wpl_appBS rfl _ _ _ _ rfl 0 5 Try.underlying33 Try.underlying9 byteInfo _ (pre ++ l) rm (by exact HV.out.2) rfl line rfl (by simp; omega) (by omega) ?_
           intro v1 rm1 w1 hown1 hg1 hs1
           obtain ⟨a1, n1, d1, rfl, -, -, -⟩ := hown1.form2
           have H1 := Lib.hid (And.intro hown1 (And.intro hg1 hs1))
           clear hown1 hg1 hs1)
        | (at_builtin
           refine wpl_appB1 rfl _ _ _ rfl 0 5 Try.underlying33 byteInfo _ _ _ H1.out.1 rfl 10 _ rfl rfl (by simp; omega) (by omega) ?_
           intro v2 rm2 w2 hown2 hg2 hs2
           obtain ⟨a2, n2, d2, rfl, -, -, -⟩ := hown2.form2
           have hB1 := (HB0.out _).grown H1.out.2.1 (fun e => HVN.out e.symm)
           have hB2 := hB1.grown hg2 (fun e => H1.out.1.ne_ hB1 (by decide) e.symm)
           have hF2 := hB2.frozen 1
           have hC2 := hB2.cell 1
           simp only [List.getElem?_toArray, List.getElem?_cons_succ, List.getElem?_cons_zero] at hC2
           have HB2 := Lib.hid (And.intro hown2 (And.intro hg2 (And.intro hs2 hB2)))
           clear hown2 hg2 hs2 hB1 hB2))
      go_ret
      rw [HE.out]
      have hO : Only (FB b (.slice a (pre.length + l.length) (pre.length + l.length + rm.length))) w w1 := Only.grown (Only.of_below (below_drewN (Below.refl _ _) _) _) H1.out.2.1 (fun k hk => .inl (.inr hk))
      have hO2 := hO.grown HB2.out.2.1 (fun k hk => (H1.out.2.2 k hk).elim (fun e => .inl (.inr e)) (fun e => .inr e))
      refine ⟨rfl, _, pre, rm2, ⟨?_, ?_⟩, Nat.le_refl _, hO2.set (p := ⟨b, 1, none⟩) (.inl (.inl rfl)) _, fun k hk => (HB2.out.2.2.1 k hk).elim (fun e => (H1.out.2.2 k e)) (fun e => .inr (Nat.le_trans hO.size e))⟩
      · have := Blk.set_ HB2.out.2.2.2 1 (.slice a2 n2 d2)
        simpa using this
      · have := HB2.out.1.only ((Only.refl (· = b) w2).set (p := ⟨b, 1, none⟩) (.inl rfl) (.slice a2 n2 d2)) (fun k hk e => HB2.out.1.ne_ HB2.out.2.2.2 (by decide) (by rw [hk, e]))
        simpa using this
end
end Go.Proofs.Ytnkbjjnopbmfnaa
