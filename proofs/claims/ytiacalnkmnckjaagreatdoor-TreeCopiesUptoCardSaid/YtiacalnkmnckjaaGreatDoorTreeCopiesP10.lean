/- Texts of this proof, one behind the other. Conditions: those in each theorem. -/
import Derived.Test.YtiacalnkmnckjaaGreatDoorTreeCopiesP9
import Derived.Test.YtiacalnkmnckjaaGreatDoorTreeCopiesP7
section
/- What each makes of a list. No conditions but those in each theorem. -/
namespace Go.Proofs.YtiacalnkmnckjaaGreatDoor
open Go.RowKit Go.As
set_option linter.unusedVariables false
set_option linter.unusedSimpArgs false

/-- a block of cells over which a store may go -/
def Soft (w : World) (k : Nat) : Prop := ∃ c e, w.heap[k]? = some (.cells c e (0, 0))
/-- made between two worlds, and soft -/
def NewS (w w' : World) (k : Nat) : Prop := NewIn w w' k ∧ Soft w' k
theorem Soft.keep {F : Nat → Prop} {w w' : World} {k : Nat} (h : Soft w k) (hk : Sy.Keep F w w') (hF : F k) : Soft w' k := by
  obtain ⟨c, e, h⟩ := h
  exact ⟨c, e, by rw [hk.block k hF]; exact h⟩
theorem NewS.up {F : Nat → Prop} {wa w2 w W : World} {k : Nat} (h : NewS wa w2 k) (hk : Sy.Keep F w2 W) (hF : F k) (h1 : w.heap.size ≤ wa.heap.size) (h2 : w2.heap.size ≤ W.heap.size) : NewS w W k :=
  ⟨⟨Nat.le_trans h1 h.1.1, Nat.lt_of_lt_of_le h.1.2 h2⟩, h.2.keep hk hF⟩
theorem SlAt_ownS {F : Nat → Prop} {w : World} {base e sz n : Nat} {x : Value} {xs : List Value} (h : w.ownsRow base e sz x n xs) (hF : ∀ k, base ≤ k → k < w.heap.size → Soft w k → F k) : ∃ a cap, x = .slice a n cap ∧ n ≤ cap ∧ Sy.SlAt F w a n sz xs := by
  obtain ⟨hl, ⟨rfl, rfl⟩ | ⟨g, cap, cur, rfl, hb, hh, hnc, hcm, hcs, ht⟩⟩ := h
  · exact ⟨none, 0, rfl, Nat.le_refl _, ⟨hl, .inl rfl⟩⟩
  · refine ⟨some ⟨g, 0, none⟩, cap, rfl, hnc, ⟨hl, .inr ⟨rfl, hF g hb (Array.getElem?_eq_some_iff.1 hh).1 ⟨_, _, hh⟩, fun j v hv => ?_⟩⟩⟩
    rw [← ht] at hv
    have hj := (List.getElem?_eq_some_iff.1 hv).1
    rw [List.length_take] at hj
    rw [List.getElem?_take, if_pos (by omega)] at hv
    simp only [Sy.gB, Sy.oB, Nat.zero_add]
    simp [World.cell?, hh]
    simpa using hv
def CInvS {α : Type} (At : (Nat → Prop) → World → α → List Value → Prop) (e sz : Nat) (w : World) (L : List α) (b : Nat) (i : CI α) (B : Nat → Prop) (w1 : World) : Prop :=
  L = i.l1 ++ i.l2 ∧ Sy.Keep (· < w.heap.size) w w1 ∧ (∀ k, k < w.heap.size → B k) ∧ (∀ k, B k → k < w1.heap.size) ∧ LsAt (At (fun k => B k ∧ w.heap.size ≤ k ∧ Soft w1 k) w1) i.l1 i.xs ∧ Sy.RowAt e sz b i.l1.length i.xs i.X i.ob
def EachPr {α : Type} (At : (Nat → Prop) → World → α → List Value → Prop) (sz : Nat) (L : List α) (w : World) (v : Value) (w' : World) : Prop :=
  ∃ a' cap' xs', v = .slice a' L.length cap' ∧ Sy.SlAt (NewS w w') w' a' L.length sz xs' ∧ LsAt (At (NewS w w') w') L xs'
def OnePr {α : Type} (At : (Nat → Prop) → World → α → List Value → Prop) (x : α) (w : World) (v : Value) (w' : World) : Prop := ∃ ds : List Value, v = .agg ds.toArray ∧ At (NewS w w') w' x ds
open Go.Sy in
set_option maxRecDepth 100000 in
theorem eachEx (N : Nat) (H : ∀ (s : Ex) (cs : List Value) (w : World), wgt s ≤ N → wgt s ≤ 1000000000000 → ExAt (· < w.heap.size) w s cs →
      Calls Tryz.prog 208 #[.agg cs.toArray] w fun r w' => ∃ v, r = .returned v ∧ OnePr ExAt s w v w' ∧ Below w.heap.size w w')
    (L : List Ex) (a : Option Addr) (n cap : Nat) (xs : List Value) (w : World) (hn : n = L.length) (hN : wgts L ≤ N) (hbd : wgts L ≤ 1000000000000) (hsl : SlAt (· < w.heap.size) w a n 5 xs) (hks : LsAt (ExAt (· < w.heap.size) w) L xs) :
    Calls Tryz.prog 241 #[.slice a n cap, .func (.func 208) #[] #[]] w fun r w' => ∃ v, r = .returned v ∧ EachPr ExAt 5 L w v w' ∧ Below w.heap.size w w' := by
  have hnl := wgts_len L
  refine Sy.enter (vs := [.slice a n cap, .func (.func 208) #[] #[]]) sy_fine Tryz.func241 rfl (fun γ => norms_LR _) rfl (fun γ0 hγ0 => ?_)
  refine run_ok (sy_cx _ _) 0 [] 60 0 ?_
  refine good_toLp ?_
  refine good_loopB (fun i : CI Ex => i.l2.length) (CInvS ExAt 34 5 w L gz) (fun i => ⟨mkT [(1, norm (.func (.func 208) #[] #[])), (5, i.X), (8, .v (.slice a n cap)), (9, .v (.int .i64 (n : Int))), (10, .v (.int .i64 (i.l1.length : Int)))], mkH [(gz, i.ob)], gz + 1, []⟩)
    ⟨[], L, [], .v (.slice none 0 0), none⟩ ⟨rfl, Keep.refl _ _, fun k h => h, fun k h => h, rfl, RowAt.nil _ _ _⟩ (by kernel_rfl)
    (fun h => good_sub _ [(1, norm (.func (.func 208) #[] #[])), (5, .v (.slice none 0 0)), (8, .v (.slice a n cap)), (9, .v (.int .i64 (n : Int))), (10, .v (.int .i64 (([] : List Ex).length : Int)))] [(gz, none)] (gz + 1) rfl (by kernel_rfl) (by kernel_rfl) (by kernel_rfl) (by kernel_rfl) (by kernel_rfl) (fun b hb => hγ0 b (Nat.le_trans (Nat.le_succ _) hb)) (by kernel_rfl) h) ?_
  rintro ⟨l1, l2, xk, X, ob⟩ B1 w1 ⟨hI, hk1, hB0, hB1, hxk, hrow⟩ ih
  simp only at hI hxk hrow
  have hn2 : n = l1.length + l2.length := by rw [hn, hI, List.length_append]
  have hw1 : wgts L = wgts l1 + wgts l2 := by rw [hI, wgts_app]
  have hsl1 : SlAt B1 w1 a n 5 xs := (hsl.keep hk1).mono hB0
  have hXlt : avLt (gz + 1) X = true := hrow.lt (by omega)
  refine run_ok (sy_cx _ _) 0 [] 60 0 ?_
  cases l2 with
  | nil =>
    have hn3 : n = l1.length := by rw [hn2]; simp
    refine good_take false (b := intLt (l1.length : Int) (n : Int)) (by kernel_rfl) (lt_f (by omega)) ?_
    have hfin : ∀ (γ : Gm) (W : World) (x : Value) (h : Hp) (cc : Nat), VR γ X x → HR B1 Tryz.prog.globals.size γ h cc W → h.get gz = ob → Keep B1 w1 W → (∃ v', Ending.returned x = .returned v' ∧ EachPr ExAt 5 L w v' W ∧ Below w.heap.size w W) := by
      intro γ W x h cc hx hH hb hkW
      obtain ⟨hown, _⟩ := row_own (base := w.heap.size) hrow hb hH hx (fun k hk => Nat.le_of_not_lt (fun h => hk (hB0 k h)))
      obtain ⟨a', cap', rfl, _, hsl'⟩ := SlAt_ownS (F := NewS w W) hown (fun k h1 h2 h3 => ⟨⟨h1, h2⟩, h3⟩)
      refine ⟨_, rfl, ?_, (hk1.trans (hkW.mono hB0)).below⟩
      have hkl : l1 = L := by rw [hI]; simp
      rw [hkl] at hsl' hxk
      refine ⟨a', cap', xk, by rw [hkl], hsl', ?_⟩
      exact hxk.imp fun _ _ h => h.keep (hkW.mono fun k hk => hk.1) (fun k hk => ⟨⟨hk.2.1, Nat.lt_of_lt_of_le (hB1 k hk.1) hkW.size⟩, hk.2.2.keep hkW hk.1⟩)
    rcases hrow.2 with ⟨hX, hob, h0⟩ | ⟨hX, hob⟩
    ·
      subst hX hob
      refine run_ok (sy_cx _ _) 0 [] 60 0 ?_
      exact good_end (av := .v (.slice none 0 0)) (by kernel_rfl) (fun γ W v _ hv hH hkW => hfin γ W v _ _ hv hH (by kernel_rfl) hkW)
    ·
      subst hX hob
      refine run_ok (sy_cx _ _) 0 [] 60 0 ?_
      exact good_end (av := .slg gz 0 l1.length 5) (by kernel_rfl) (fun γ W v _ hv hH hkW => hfin γ W v _ _ hv hH (by kernel_rfl) hkW)
  | cons s l3 =>
    have hin : l1.length < n := by rw [hn2, List.length_cons]; omega
    have hks2 := hks
    rw [hI] at hks2
    obtain ⟨c, hc, hcell⟩ := hks2.at_ (fun _ _ h => h.len)
    simp only [wgts] at hw1
    have hck := fun W (hk : Keep B1 w1 W) => hc.keep (hk1.trans (hk.mono hB0)) (fun k h => Nat.lt_of_lt_of_le h (hk1.trans (hk.mono hB0)).size)
    obtain ⟨uop, uty, ubits, uen, uek⟩ := s
    simp only [ExAt] at hc
    obtain ⟨uea, uec, uex, rfl, _⟩ := hc
    refine good_take true (b := intLt (l1.length : Int) (n : Int)) (by kernel_rfl) (lt_t (by omega)) ?_
    refine run_ok (sy_cx _ _) 0 [] 60 0 ?_
    refine good_val (.pointer (some ⟨gB a, oB a + l1.length * 5, none⟩)) (S := Instr.indexAt 32 (.slice a n cap) (.int .i64 (l1.length : Int))) (by kernel_rfl) (fun W _ => idx_sl (e := 34) hsl1 (by kernel_rfl) (by kernel_rfl) hin W) ?_
    refine run_ok (sy_cx _ _) 0 [] 60 0 ?_
    refine good_val (.agg #[.int .u8 uop, .int .u8 uty, .int .u64 ubits, .string (str uen), .slice uea uek.length uec]) (S := Instr.loadAt 34 (.pointer (some ⟨gB a, oB a + l1.length * 5 + 0, none⟩))) (by kernel_rfl) (fun W hk => load_slA (P := Tryz.prog) (ty := 34) (m := 5) (cs := [.int .u8 uop, .int .u8 uty, .int .u64 ubits, .string (str uen), .slice uea uek.length uec]) hsl1 (by kernel_rfl) (by kernel_rfl) l1.length 0 rfl hcell hk) ?_
    refine run_ok (sy_cx _ _) 0 [] 60 0 ?_
    refine good_callM (sy_cx _ _) [.agg #[.int .u8 uop, .int .u8 uty, .int .u64 ubits, .string (str uen), .slice uea uek.length uec]] (by kernel_rfl) (by kernel_rfl) (by kernel_rfl) (fun W hk => H (Ex.mk uop uty ubits uen uek) [.int .u8 uop, .int .u8 uty, .int .u64 ubits, .string (str uen), .slice uea uek.length uec] W (by omega) (by omega) (hck W hk)) ?_
    rintro wa r w2 B2 hka ⟨ds, rfl, hds⟩ hba hk12 hB12 hBn2 hB2
    have hds0 := hds
    simp only [ExAt] at hds0
    obtain ⟨ra, rc, rx, rfl, _⟩ := hds0
    refine run_ok (sy_cx _ _) 0 [19] 60 0 ?_
    refine good_app (t := 32) (e := 34) (.slg (gz + 2) 0 1 5) 5 64 gz l1.length 0 xk X ob [.int .u8 uop, .int .u8 uty, .int .u64 ubits, .string (str uen), .slice ra uek.length rc] [5, 14] (by kernel_rfl) (by kernel_rfl) (by kernel_rfl) (by kernel_rfl) hrow (by kernel_rfl) (by kernel_rfl) (by kernel_rfl)
      (by unfold maxLen; omega) (by omega) (hγ0 gz (Nat.le_refl _)) (by kernel_rfl) (by kernel_rfl) (by kernel_rfl) (by kernel_rfl) (by kernel_rfl) (fun X' ob' hrow' => ?_)
    rcases hrow'.2 with ⟨_, _, h0⟩ | ⟨rfl, rfl⟩
    · omega
    refine run_ok (sy_cx _ _) 0 [] 60 0 ?_
    refine good_set 10 (x := .int .i64 (wrapF .i64 (((l1.length : Nat) : Int) + 1))) (.int .i64 ((((l1 ++ [(Ex.mk uop uty ubits uen uek)]).length : Nat) : Int))) (by kernel_rfl) (by rw [wr64 (n := ((l1.length : Nat) : Int) + 1) (by omega) (by omega)]; congr 1; simp) ?_
    have hsz1 := hk1.size
    have hsza := hka.size
    have hI2 : CInvS ExAt 34 5 w L gz ⟨l1 ++ [(Ex.mk uop uty ubits uen uek)], l3, xk ++ [.int .u8 uop, .int .u8 uty, .int .u64 ubits, .string (str uen), .slice ra uek.length rc], .slg gz 0 (l1.length + (0 + 1)) 5, some (.row 34 (xk ++ [.int .u8 uop, .int .u8 uty, .int .u64 ubits, .string (str uen), .slice ra uek.length rc]))⟩ B2 w2 := by
      refine ⟨by show L = (l1 ++ [_]) ++ l3; rw [hI]; simp, hk1.trans (hk12.mono hB0), fun k hk => hB12 k (hB0 k hk), hB2, ?_, ?_⟩
      · exact LsAt.snoc (hxk.imp fun _ _ h => h.keep (hk12.mono fun k hk => hk.1) (fun k hk => ⟨hB12 k hk.1, hk.2.1, hk.2.2.keep hk12 hk.1⟩)) (hds.keep (Keep.refl _ _) fun k h => ⟨hBn2 k h.1.1 h.1.2, by have := h.1.1; omega, h.2⟩)
      · show RowAt _ 5 gz (l1 ++ [_]).length _ _ _
        rw [List.length_append]
        exact hrow'

    exact good_sub _ [(1, norm (.func (.func 208) #[] #[])), (5, .slg gz 0 (l1.length + (0 + 1)) 5), (8, .v (.slice a n cap)), (9, .v (.int .i64 (n : Int))), (10, .v (.int .i64 ((l1 ++ [(Ex.mk uop uty ubits uen uek)]).length : Int)))] [(gz, some (.row 34 (xk ++ [.int .u8 uop, .int .u8 uty, .int .u64 ubits, .string (str uen), .slice ra uek.length rc])))] (gz + 1) (by kernel_rfl) (by kernel_rfl) (by kernel_rfl) (by kernel_rfl) (by kernel_rfl) (by kernel_rfl) (fun b hb => hγ0 b (Nat.le_trans (Nat.le_succ _) hb)) (by kernel_rfl) (ih _ B2 w2 hI2 (by show l3.length < (_ :: l3).length; simp))
open Go.Sy in
set_option maxRecDepth 100000 in
theorem eachSt (N : Nat) (H : ∀ (s : St) (cs : List Value) (w : World), swt s ≤ N → swt s ≤ 1000000000000 → StAt (· < w.heap.size) w s cs →
      Calls Tryz.prog 142 #[.agg cs.toArray] w fun r w' => ∃ v, r = .returned v ∧ OnePr StAt s w v w' ∧ Below w.heap.size w w')
    (L : List St) (a : Option Addr) (n cap : Nat) (xs : List Value) (w : World) (hn : n = L.length) (hN : swts L ≤ N) (hbd : swts L ≤ 1000000000000) (hsl : SlAt (· < w.heap.size) w a n 9 xs) (hks : LsAt (StAt (· < w.heap.size) w) L xs) :
    Calls Tryz.prog 141 #[.slice a n cap, .func (.func 142) #[] #[]] w fun r w' => ∃ v, r = .returned v ∧ EachPr StAt 9 L w v w' ∧ Below w.heap.size w w' := by
  have hnl := swts_len L
  refine Sy.enter (vs := [.slice a n cap, .func (.func 142) #[] #[]]) sy_fine Tryz.func141 rfl (fun γ => norms_LR _) rfl (fun γ0 hγ0 => ?_)
  refine run_ok (sy_cx _ _) 0 [] 60 0 ?_
  refine good_toLp ?_
  refine good_loopB (fun i : CI St => i.l2.length) (CInvS StAt 56 9 w L gz) (fun i => ⟨mkT [(1, norm (.func (.func 142) #[] #[])), (5, i.X), (8, .v (.slice a n cap)), (9, .v (.int .i64 (n : Int))), (10, .v (.int .i64 (i.l1.length : Int)))], mkH [(gz, i.ob)], gz + 1, []⟩)
    ⟨[], L, [], .v (.slice none 0 0), none⟩ ⟨rfl, Keep.refl _ _, fun k h => h, fun k h => h, rfl, RowAt.nil _ _ _⟩ (by kernel_rfl)
    (fun h => good_sub _ [(1, norm (.func (.func 142) #[] #[])), (5, .v (.slice none 0 0)), (8, .v (.slice a n cap)), (9, .v (.int .i64 (n : Int))), (10, .v (.int .i64 (([] : List St).length : Int)))] [(gz, none)] (gz + 1) rfl (by kernel_rfl) (by kernel_rfl) (by kernel_rfl) (by kernel_rfl) (by kernel_rfl) (fun b hb => hγ0 b (Nat.le_trans (Nat.le_succ _) hb)) (by kernel_rfl) h) ?_
  rintro ⟨l1, l2, xk, X, ob⟩ B1 w1 ⟨hI, hk1, hB0, hB1, hxk, hrow⟩ ih
  simp only at hI hxk hrow
  have hn2 : n = l1.length + l2.length := by rw [hn, hI, List.length_append]
  have hw1 : swts L = swts l1 + swts l2 := by rw [hI, swts_app]
  have hsl1 : SlAt B1 w1 a n 9 xs := (hsl.keep hk1).mono hB0
  have hXlt : avLt (gz + 1) X = true := hrow.lt (by omega)
  refine run_ok (sy_cx _ _) 0 [] 60 0 ?_
  cases l2 with
  | nil =>
    have hn3 : n = l1.length := by rw [hn2]; simp
    refine good_take false (b := intLt (l1.length : Int) (n : Int)) (by kernel_rfl) (lt_f (by omega)) ?_
    have hfin : ∀ (γ : Gm) (W : World) (x : Value) (h : Hp) (cc : Nat), VR γ X x → HR B1 Tryz.prog.globals.size γ h cc W → h.get gz = ob → Keep B1 w1 W → (∃ v', Ending.returned x = .returned v' ∧ EachPr StAt 9 L w v' W ∧ Below w.heap.size w W) := by
      intro γ W x h cc hx hH hb hkW
      obtain ⟨hown, _⟩ := row_own (base := w.heap.size) hrow hb hH hx (fun k hk => Nat.le_of_not_lt (fun h => hk (hB0 k h)))
      obtain ⟨a', cap', rfl, _, hsl'⟩ := SlAt_ownS (F := NewS w W) hown (fun k h1 h2 h3 => ⟨⟨h1, h2⟩, h3⟩)
      refine ⟨_, rfl, ?_, (hk1.trans (hkW.mono hB0)).below⟩
      have hkl : l1 = L := by rw [hI]; simp
      rw [hkl] at hsl' hxk
      refine ⟨a', cap', xk, by rw [hkl], hsl', ?_⟩
      exact hxk.imp fun _ _ h => h.keep (hkW.mono fun k hk => hk.1) (fun k hk => ⟨⟨hk.2.1, Nat.lt_of_lt_of_le (hB1 k hk.1) hkW.size⟩, hk.2.2.keep hkW hk.1⟩)
    rcases hrow.2 with ⟨hX, hob, h0⟩ | ⟨hX, hob⟩
    ·
      subst hX hob
      refine run_ok (sy_cx _ _) 0 [] 60 0 ?_
      exact good_end (av := .v (.slice none 0 0)) (by kernel_rfl) (fun γ W v _ hv hH hkW => hfin γ W v _ _ hv hH (by kernel_rfl) hkW)
    ·
      subst hX hob
      refine run_ok (sy_cx _ _) 0 [] 60 0 ?_
      exact good_end (av := .slg gz 0 l1.length 9) (by kernel_rfl) (fun γ W v _ hv hH hkW => hfin γ W v _ _ hv hH (by kernel_rfl) hkW)
  | cons s l3 =>
    have hin : l1.length < n := by rw [hn2, List.length_cons]; omega
    have hks2 := hks
    rw [hI] at hks2
    obtain ⟨c, hc, hcell⟩ := hks2.at_ (fun _ _ h => h.len)
    simp only [swts] at hw1
    have hck := fun W (hk : Keep B1 w1 W) => hc.keep (hk1.trans (hk.mono hB0)) (fun k h => Nat.lt_of_lt_of_le h (hk1.trans (hk.mono hB0)).size)
    obtain ⟨ukind, usn, ⟨uop, uty, ubits, uen, uek⟩, ubody, uels⟩ := s
    simp only [StAt] at hc
    obtain ⟨ucs, uba, ubc, ubx, ula, ulc, ulx, rfl, uhe, uhbs, uhbt, uhls, uhlt⟩ := hc
    have uhe0 := uhe
    simp only [ExAt] at uhe0
    obtain ⟨uea, uec, uex, rfl, _⟩ := uhe0
    have hcell : ∀ j v, ([.int .i64 ukind, .string (str usn), .int .u8 uop, .int .u8 uty, .int .u64 ubits, .string (str uen), .slice uea uek.length uec, .slice uba ubody.length ubc, .slice ula uels.length ulc] : List Value)[j]? = some v → xs[l1.length * 9 + j]? = some v := hcell
    have umid : ∀ j v, ([.int .u8 uop, .int .u8 uty, .int .u64 ubits, .string (str uen), .slice uea uek.length uec] : List Value)[j]? = some v → xs[l1.length * 9 + 2 + j]? = some v := cell_part hcell 2 (mid_get [_, _] [.int .u8 uop, .int .u8 uty, .int .u64 ubits, .string (str uen), .slice uea uek.length uec] [_, _])
    refine good_take true (b := intLt (l1.length : Int) (n : Int)) (by kernel_rfl) (lt_t (by omega)) ?_
    refine run_ok (sy_cx _ _) 0 [] 60 0 ?_
    refine good_val (.pointer (some ⟨gB a, oB a + l1.length * 9, none⟩)) (S := Instr.indexAt 54 (.slice a n cap) (.int .i64 (l1.length : Int))) (by kernel_rfl) (fun W _ => idx_sl (e := 56) hsl1 (by kernel_rfl) (by kernel_rfl) hin W) ?_
    refine run_ok (sy_cx _ _) 0 [] 60 0 ?_
    refine good_val (.agg #[.int .i64 ukind, .string (str usn), .int .u8 uop, .int .u8 uty, .int .u64 ubits, .string (str uen), .slice uea uek.length uec, .slice uba ubody.length ubc, .slice ula uels.length ulc]) (S := Instr.loadAt 56 (.pointer (some ⟨gB a, oB a + l1.length * 9 + 0, none⟩))) (by kernel_rfl) (fun W hk => load_slA (P := Tryz.prog) (ty := 56) (m := 9) (cs := [.int .i64 ukind, .string (str usn), .int .u8 uop, .int .u8 uty, .int .u64 ubits, .string (str uen), .slice uea uek.length uec, .slice uba ubody.length ubc, .slice ula uels.length ulc]) hsl1 (by kernel_rfl) (by kernel_rfl) l1.length 0 rfl hcell hk) ?_
    refine run_ok (sy_cx _ _) 0 [] 60 0 ?_
    refine good_callM (sy_cx _ _) [.agg #[.int .i64 ukind, .string (str usn), .int .u8 uop, .int .u8 uty, .int .u64 ubits, .string (str uen), .slice uea uek.length uec, .slice uba ubody.length ubc, .slice ula uels.length ulc]] (by kernel_rfl) (by kernel_rfl) (by kernel_rfl) (fun W hk => H (St.mk ukind usn (Ex.mk uop uty ubits uen uek) ubody uels) [.int .i64 ukind, .string (str usn), .int .u8 uop, .int .u8 uty, .int .u64 ubits, .string (str uen), .slice uea uek.length uec, .slice uba ubody.length ubc, .slice ula uels.length ulc] W (by omega) (by omega) (hck W hk)) ?_
    rintro wa r w2 B2 hka ⟨ds, rfl, hds⟩ hba hk12 hB12 hBn2 hB2
    have hds0 := hds
    simp only [StAt, ExAt] at hds0
    obtain ⟨_, rb, rbc, rbx, rl, rlc, rlx, rfl, ⟨ra, rc, rx, rfl, _⟩, _⟩ := hds0
    refine run_ok (sy_cx _ _) 0 [19] 60 0 ?_
    refine good_app (t := 54) (e := 56) (.slg (gz + 2) 0 1 9) 9 136 gz l1.length 0 xk X ob [.int .i64 ukind, .string (str usn), .int .u8 uop, .int .u8 uty, .int .u64 ubits, .string (str uen), .slice ra uek.length rc, .slice rb ubody.length rbc, .slice rl uels.length rlc] [5, 14] (by kernel_rfl) (by kernel_rfl) (by kernel_rfl) (by kernel_rfl) hrow (by kernel_rfl) (by kernel_rfl) (by kernel_rfl)
      (by unfold maxLen; omega) (by omega) (hγ0 gz (Nat.le_refl _)) (by kernel_rfl) (by kernel_rfl) (by kernel_rfl) (by kernel_rfl) (by kernel_rfl) (fun X' ob' hrow' => ?_)
    rcases hrow'.2 with ⟨_, _, h0⟩ | ⟨rfl, rfl⟩
    · omega
    refine run_ok (sy_cx _ _) 0 [] 60 0 ?_
    refine good_set 10 (x := .int .i64 (wrapF .i64 (((l1.length : Nat) : Int) + 1))) (.int .i64 ((((l1 ++ [(St.mk ukind usn (Ex.mk uop uty ubits uen uek) ubody uels)]).length : Nat) : Int))) (by kernel_rfl) (by rw [wr64 (n := ((l1.length : Nat) : Int) + 1) (by omega) (by omega)]; congr 1; simp) ?_
    have hsz1 := hk1.size
    have hsza := hka.size
    have hI2 : CInvS StAt 56 9 w L gz ⟨l1 ++ [(St.mk ukind usn (Ex.mk uop uty ubits uen uek) ubody uels)], l3, xk ++ [.int .i64 ukind, .string (str usn), .int .u8 uop, .int .u8 uty, .int .u64 ubits, .string (str uen), .slice ra uek.length rc, .slice rb ubody.length rbc, .slice rl uels.length rlc], .slg gz 0 (l1.length + (0 + 1)) 9, some (.row 56 (xk ++ [.int .i64 ukind, .string (str usn), .int .u8 uop, .int .u8 uty, .int .u64 ubits, .string (str uen), .slice ra uek.length rc, .slice rb ubody.length rbc, .slice rl uels.length rlc]))⟩ B2 w2 := by
      refine ⟨by show L = (l1 ++ [_]) ++ l3; rw [hI]; simp, hk1.trans (hk12.mono hB0), fun k hk => hB12 k (hB0 k hk), hB2, ?_, ?_⟩
      · exact LsAt.snoc (hxk.imp fun _ _ h => h.keep (hk12.mono fun k hk => hk.1) (fun k hk => ⟨hB12 k hk.1, hk.2.1, hk.2.2.keep hk12 hk.1⟩)) (hds.keep (Keep.refl _ _) fun k h => ⟨hBn2 k h.1.1 h.1.2, by have := h.1.1; omega, h.2⟩)
      · show RowAt _ 9 gz (l1 ++ [_]).length _ _ _
        rw [List.length_append]
        exact hrow'

    exact good_sub _ [(1, norm (.func (.func 142) #[] #[])), (5, .slg gz 0 (l1.length + (0 + 1)) 9), (8, .v (.slice a n cap)), (9, .v (.int .i64 (n : Int))), (10, .v (.int .i64 ((l1 ++ [(St.mk ukind usn (Ex.mk uop uty ubits uen uek) ubody uels)]).length : Int)))] [(gz, some (.row 56 (xk ++ [.int .i64 ukind, .string (str usn), .int .u8 uop, .int .u8 uty, .int .u64 ubits, .string (str uen), .slice ra uek.length rc, .slice rb ubody.length rbc, .slice rl uels.length rlc])))] (gz + 1) (by kernel_rfl) (by kernel_rfl) (by kernel_rfl) (by kernel_rfl) (by kernel_rfl) (by kernel_rfl) (fun b hb => hγ0 b (Nat.le_trans (Nat.le_succ _) hb)) (by kernel_rfl) (ih _ B2 w2 hI2 (by show l3.length < (_ :: l3).length; simp))
open Go.Sy in
set_option maxRecDepth 100000 in
theorem eachTh (N : Nat) (H : ∀ (s : Th) (cs : List Value) (w : World), thw s ≤ N → thw s ≤ 1000000000000 → ThAt (· < w.heap.size) w s cs →
      Calls Tryz.prog 74 #[.agg cs.toArray] w fun r w' => ∃ v, r = .returned v ∧ OnePr ThAt s w v w' ∧ Below w.heap.size w w')
    (L : List Th) (a : Option Addr) (n cap : Nat) (xs : List Value) (w : World) (hn : n = L.length) (hN : thws L ≤ N) (hbd : thws L ≤ 1000000000000) (hsl : SlAt (· < w.heap.size) w a n 3 xs) (hks : LsAt (ThAt (· < w.heap.size) w) L xs) :
    Calls Tryz.prog 73 #[.slice a n cap, .func (.func 74) #[] #[]] w fun r w' => ∃ v, r = .returned v ∧ EachPr ThAt 3 L w v w' ∧ Below w.heap.size w w' := by
  have hnl := thws_len L
  refine Sy.enter (vs := [.slice a n cap, .func (.func 74) #[] #[]]) sy_fine Tryz.func73 rfl (fun γ => norms_LR _) rfl (fun γ0 hγ0 => ?_)
  refine run_ok (sy_cx _ _) 0 [] 60 0 ?_
  refine good_toLp ?_
  refine good_loopB (fun i : CI Th => i.l2.length) (CInvS ThAt 58 3 w L gz) (fun i => ⟨mkT [(1, norm (.func (.func 74) #[] #[])), (5, i.X), (8, .v (.slice a n cap)), (9, .v (.int .i64 (n : Int))), (10, .v (.int .i64 (i.l1.length : Int)))], mkH [(gz, i.ob)], gz + 1, []⟩)
    ⟨[], L, [], .v (.slice none 0 0), none⟩ ⟨rfl, Keep.refl _ _, fun k h => h, fun k h => h, rfl, RowAt.nil _ _ _⟩ (by kernel_rfl)
    (fun h => good_sub _ [(1, norm (.func (.func 74) #[] #[])), (5, .v (.slice none 0 0)), (8, .v (.slice a n cap)), (9, .v (.int .i64 (n : Int))), (10, .v (.int .i64 (([] : List Th).length : Int)))] [(gz, none)] (gz + 1) rfl (by kernel_rfl) (by kernel_rfl) (by kernel_rfl) (by kernel_rfl) (by kernel_rfl) (fun b hb => hγ0 b (Nat.le_trans (Nat.le_succ _) hb)) (by kernel_rfl) h) ?_
  rintro ⟨l1, l2, xk, X, ob⟩ B1 w1 ⟨hI, hk1, hB0, hB1, hxk, hrow⟩ ih
  simp only at hI hxk hrow
  have hn2 : n = l1.length + l2.length := by rw [hn, hI, List.length_append]
  have hw1 : thws L = thws l1 + thws l2 := by rw [hI, thws_app]
  have hsl1 : SlAt B1 w1 a n 3 xs := (hsl.keep hk1).mono hB0
  have hXlt : avLt (gz + 1) X = true := hrow.lt (by omega)
  refine run_ok (sy_cx _ _) 0 [] 60 0 ?_
  cases l2 with
  | nil =>
    have hn3 : n = l1.length := by rw [hn2]; simp
    refine good_take false (b := intLt (l1.length : Int) (n : Int)) (by kernel_rfl) (lt_f (by omega)) ?_
    have hfin : ∀ (γ : Gm) (W : World) (x : Value) (h : Hp) (cc : Nat), VR γ X x → HR B1 Tryz.prog.globals.size γ h cc W → h.get gz = ob → Keep B1 w1 W → (∃ v', Ending.returned x = .returned v' ∧ EachPr ThAt 3 L w v' W ∧ Below w.heap.size w W) := by
      intro γ W x h cc hx hH hb hkW
      obtain ⟨hown, _⟩ := row_own (base := w.heap.size) hrow hb hH hx (fun k hk => Nat.le_of_not_lt (fun h => hk (hB0 k h)))
      obtain ⟨a', cap', rfl, _, hsl'⟩ := SlAt_ownS (F := NewS w W) hown (fun k h1 h2 h3 => ⟨⟨h1, h2⟩, h3⟩)
      refine ⟨_, rfl, ?_, (hk1.trans (hkW.mono hB0)).below⟩
      have hkl : l1 = L := by rw [hI]; simp
      rw [hkl] at hsl' hxk
      refine ⟨a', cap', xk, by rw [hkl], hsl', ?_⟩
      exact hxk.imp fun _ _ h => h.keep (hkW.mono fun k hk => hk.1) (fun k hk => ⟨⟨hk.2.1, Nat.lt_of_lt_of_le (hB1 k hk.1) hkW.size⟩, hk.2.2.keep hkW hk.1⟩)
    rcases hrow.2 with ⟨hX, hob, h0⟩ | ⟨hX, hob⟩
    ·
      subst hX hob
      refine run_ok (sy_cx _ _) 0 [] 60 0 ?_
      exact good_end (av := .v (.slice none 0 0)) (by kernel_rfl) (fun γ W v _ hv hH hkW => hfin γ W v _ _ hv hH (by kernel_rfl) hkW)
    ·
      subst hX hob
      refine run_ok (sy_cx _ _) 0 [] 60 0 ?_
      exact good_end (av := .slg gz 0 l1.length 3) (by kernel_rfl) (fun γ W v _ hv hH hkW => hfin γ W v _ _ hv hH (by kernel_rfl) hkW)
  | cons s l3 =>
    have hin : l1.length < n := by rw [hn2, List.length_cons]; omega
    have hks2 := hks
    rw [hI] at hks2
    obtain ⟨c, hc, hcell⟩ := hks2.at_ (fun _ _ h => h.len)
    simp only [thws] at hw1
    have hck := fun W (hk : Keep B1 w1 W) => hc.keep (hk1.trans (hk.mono hB0)) (fun k h => Nat.lt_of_lt_of_le h (hk1.trans (hk.mono hB0)).size)
    obtain ⟨sa, scap, sxs, sb, scap2, sys, rfl, shs, sht, shb, shbt⟩ := hc
    refine good_take true (b := intLt (l1.length : Int) (n : Int)) (by kernel_rfl) (lt_t (by omega)) ?_
    refine run_ok (sy_cx _ _) 0 [] 60 0 ?_
    refine good_val (.pointer (some ⟨gB a, oB a + l1.length * 3, none⟩)) (S := Instr.indexAt 24 (.slice a n cap) (.int .i64 (l1.length : Int))) (by kernel_rfl) (fun W _ => idx_sl (e := 58) hsl1 (by kernel_rfl) (by kernel_rfl) hin W) ?_
    refine run_ok (sy_cx _ _) 0 [] 60 0 ?_
    refine good_val (.agg #[.string (str s.name), .slice sa s.locals.length scap, .slice sb s.body.length scap2]) (S := Instr.loadAt 58 (.pointer (some ⟨gB a, oB a + l1.length * 3 + 0, none⟩))) (by kernel_rfl) (fun W hk => load_slA (P := Tryz.prog) (ty := 58) (m := 3) (cs := [.string (str s.name), .slice sa s.locals.length scap, .slice sb s.body.length scap2]) hsl1 (by kernel_rfl) (by kernel_rfl) l1.length 0 rfl hcell hk) ?_
    refine run_ok (sy_cx _ _) 0 [] 60 0 ?_
    refine good_callM (sy_cx _ _) [.agg #[.string (str s.name), .slice sa s.locals.length scap, .slice sb s.body.length scap2]] (by kernel_rfl) (by kernel_rfl) (by kernel_rfl) (fun W hk => H s [.string (str s.name), .slice sa s.locals.length scap, .slice sb s.body.length scap2] W (by omega) (by omega) (hck W hk)) ?_
    rintro wa r w2 B2 hka ⟨ds, rfl, hds⟩ hba hk12 hB12 hBn2 hB2
    have hds0 := hds
    obtain ⟨ra, rc, rx, rb, rbc, rbx, rfl, _⟩ := hds0
    refine run_ok (sy_cx _ _) 0 [19] 60 0 ?_
    refine good_app (t := 24) (e := 58) (.slg (gz + 2) 0 1 3) 3 64 gz l1.length 0 xk X ob [.string (str s.name), .slice ra s.locals.length rc, .slice rb s.body.length rbc] [5, 14] (by kernel_rfl) (by kernel_rfl) (by kernel_rfl) (by kernel_rfl) hrow (by kernel_rfl) (by kernel_rfl) (by kernel_rfl)
      (by unfold maxLen; omega) (by omega) (hγ0 gz (Nat.le_refl _)) (by kernel_rfl) (by kernel_rfl) (by kernel_rfl) (by kernel_rfl) (by kernel_rfl) (fun X' ob' hrow' => ?_)
    rcases hrow'.2 with ⟨_, _, h0⟩ | ⟨rfl, rfl⟩
    · omega
    refine run_ok (sy_cx _ _) 0 [] 60 0 ?_
    refine good_set 10 (x := .int .i64 (wrapF .i64 (((l1.length : Nat) : Int) + 1))) (.int .i64 ((((l1 ++ [s]).length : Nat) : Int))) (by kernel_rfl) (by rw [wr64 (n := ((l1.length : Nat) : Int) + 1) (by omega) (by omega)]; congr 1; simp) ?_
    have hsz1 := hk1.size
    have hsza := hka.size
    have hI2 : CInvS ThAt 58 3 w L gz ⟨l1 ++ [s], l3, xk ++ [.string (str s.name), .slice ra s.locals.length rc, .slice rb s.body.length rbc], .slg gz 0 (l1.length + (0 + 1)) 3, some (.row 58 (xk ++ [.string (str s.name), .slice ra s.locals.length rc, .slice rb s.body.length rbc]))⟩ B2 w2 := by
      refine ⟨by show L = (l1 ++ [_]) ++ l3; rw [hI]; simp, hk1.trans (hk12.mono hB0), fun k hk => hB12 k (hB0 k hk), hB2, ?_, ?_⟩
      · exact LsAt.snoc (hxk.imp fun _ _ h => h.keep (hk12.mono fun k hk => hk.1) (fun k hk => ⟨hB12 k hk.1, hk.2.1, hk.2.2.keep hk12 hk.1⟩)) (hds.keep (Keep.refl _ _) fun k h => ⟨hBn2 k h.1.1 h.1.2, by have := h.1.1; omega, h.2⟩)
      · show RowAt _ 3 gz (l1 ++ [_]).length _ _ _
        rw [List.length_append]
        exact hrow'

    exact good_sub _ [(1, norm (.func (.func 74) #[] #[])), (5, .slg gz 0 (l1.length + (0 + 1)) 3), (8, .v (.slice a n cap)), (9, .v (.int .i64 (n : Int))), (10, .v (.int .i64 ((l1 ++ [s]).length : Int)))] [(gz, some (.row 58 (xk ++ [.string (str s.name), .slice ra s.locals.length rc, .slice rb s.body.length rbc])))] (gz + 1) (by kernel_rfl) (by kernel_rfl) (by kernel_rfl) (by kernel_rfl) (by kernel_rfl) (by kernel_rfl) (fun b hb => hγ0 b (Nat.le_trans (Nat.le_succ _) hb)) (by kernel_rfl) (ih _ B2 w2 hI2 (by show l3.length < (_ :: l3).length; simp))
end Go.Proofs.YtiacalnkmnckjaaGreatDoor
end

section
/- What Clone and copyExpr make. No conditions but those in each theorem. -/
namespace Go.Proofs.YtiacalnkmnckjaaGreatDoor
open Go.RowKit Go.As
set_option linter.unusedVariables false
set_option linter.unusedSimpArgs false

open Go.Sy in
theorem app_noneS {P : Program} {z : Value} {t e : TypeId} {sz bytes : Nat} (hz1 : (P.info? e).bind (fun i => i.zero) = some z) (hu : Sy.elemOf P t = some e) (hi : infoOf P e = some (sz, bytes)) (hsz : Nat.blt 0 sz = true) {F : Nat → Prop} {w1 : World} {k : Nat} {a : Option Addr} {n c : Nat} {xs : List Value} (h : SlAt F w1 a n sz xs) (hb : n * bytes ≤ 140737488355328) (h63 : n ≤ maxLen) :
    ∀ w, Keep F w1 w → ∀ ty, ∃ r w', (Builtin.append_ [t, t].toArray ty #[.slice (some ⟨k, 0, none⟩) 0 0, .slice a n c]).run P w = .ok r w' ∧ (∃ a' cap' zs, r = .slice a' n cap' ∧ SlAt (NewS w w') w' a' n sz xs ∧ SlAt (NewS w w') w' a' cap' sz (xs ++ zs) ∧ (∀ u ∈ zs, u ∈ z.cells.toList) ∧ cap' ≤ maxLen) ∧ Below w.heap.size w w' := by
  intro w hk ty
  have hsz := blt_lt hsz
  unfold Sy.elemOf at hu
  split at hu <;> first | (cases hu; done) | skip
  rename_i e' hu'
  injection hu with hu
  subst hu
  unfold infoOf at hi
  split at hi <;> first | (cases hi; done) | skip
  rename_i i hi'
  split at hi <;> first | (cases hi; done) | skip
  rename_i z' hz
  obtain rfl : z' = z := by rw [hi'] at hz1; simp only [Option.bind_some] at hz1; rw [hz] at hz1; injection hz1
  split at hi <;> first | (cases hi; done) | skip
  rename_i hzs
  injection hi with hi
  injection hi with e1 e2
  subst e1 e2
  have hw := h.keep hk
  cases n with
  | zero =>
    refine ⟨.slice (some ⟨k, 0, none⟩) 0 0, w, ?_, ⟨_, _, [], rfl, ⟨h.len, .inl rfl⟩, ⟨by have := h.len; simpa using this, .inl rfl⟩, (fun u h => by cases h), by simp [maxLen]⟩, Below.refl _ _⟩
    cases a <;> simp [Builtin.append_, run_underlying hu', sizeOf, typeInfo, hi', Builtin.lenOf, Builtin.firstCells, storeCells, loadCells, loadCellsFrom]
  | succ m =>
    rcases hw.place with h0 | ⟨ha, hF, hcell⟩
    · omega
    rw [ha]
    have hr := run_append_grow (P := P) w t ty _ i _ hu' hi' hz ⟨k, 0, none⟩ 0 0 [] (by simp) (by simp) ⟨gB a, oB a, none⟩ (m + 1) c xs hw.len (fun j v hv => by have := hcell j v hv; simpa [Addr.add_mid] using this) (by omega) (by simp only [maxLen] at h63; omega) (growslice_fits (by omega) (by rw [Nat.zero_add]; exact hb))
    rw [Nat.zero_add] at hr
    have hge := grownCap_ge w (m + 1) 0 e'
    have hcm := grownCap_le_maxLen w (m + 1) 0 e' h63
    generalize hcap : grownCap w (m + 1) 0 e' = cp at hr hge hcm
    obtain ⟨X, hX⟩ : ∃ X : Array Value, X = #[] ++ xs.toArray ++ Builtin.zeroCells z'.cells (cp - (m + 1)) := ⟨_, rfl⟩
    rw [← hX] at hr
    have hh : (w.drew.alloc (.cells X e')).heap[w.heap.size]? = some (.cells X e') := heap_alloc_new w.drew _
    have hXl : X.toList = xs ++ (Builtin.zeroCells z'.cells (cp - (m + 1))).toList := by rw [hX]; simp
    have hnew : NewS w (w.drew.alloc (.cells X e')) w.heap.size := ⟨⟨Nat.le_refl _, by simp⟩, ⟨_, _, hh⟩⟩
    have hcell2 : ∀ j v, X.toList[j]? = some v → (w.drew.alloc (.cells X e')).cell? ⟨w.heap.size, 0 + j, none⟩ = some v := fun j v hv => by
      simp only [World.cell?]
      rw [hh]
      simp only [Nat.zero_add]
      simpa using hv
    refine ⟨_, _, hr, ⟨_, _, (Builtin.zeroCells z'.cells (cp - (m + 1))).toList, rfl, ⟨hw.len, .inr ⟨rfl, hnew, fun j v hv => ?_⟩⟩, ⟨?_, .inr ⟨rfl, hnew, fun j v hv => ?_⟩⟩, fun u hu => ?_, hcm⟩, ((Below.refl _ _).drew).alloc (by simp) _⟩
    · have hj := (List.getElem?_eq_some_iff.1 hv).1
      exact hcell2 j v (by rw [hXl, List.getElem?_append_left hj]; exact hv)
    · rw [List.length_append, hw.len, Array.length_toList, size_zeroCells, Nat.eq_of_beq_eq_true hzs, ← Nat.add_mul]
      congr 1
      omega
    · exact hcell2 j v (by rw [hXl]; exact hv)
    · simp only [Builtin.zeroCells] at hu
      rw [Array.toList_map, List.mem_map] at hu
      obtain ⟨j, _, rfl⟩ := hu
      have hpos : 0 < z'.cells.size := by rw [Nat.eq_of_beq_eq_true hzs]; exact hsz
      have hlt := Nat.mod_lt j hpos
      rw [getElem!_pos z'.cells _ hlt]
      simp
open Go.Sy in
set_option maxRecDepth 100000 in
theorem cloneTexts (a : Option Addr) (n cap : Nat) (xs : List Value) (w : World) (hbd : n ≤ 1000000000000) (hsl : SlAt (· < w.heap.size) w a n 1 xs) :
    Calls Tryz.prog 72 #[.slice a n cap] w fun r w' => ∃ v, r = .returned v ∧ (∃ a' cap' zs, v = .slice a' n cap' ∧ SlAt (NewS w w') w' a' n 1 xs ∧ SlAt (NewS w w') w' a' cap' 1 (xs ++ zs) ∧ (∀ u ∈ zs, u ∈ ([.string ⟨#[]⟩] : List Value)) ∧ cap' ≤ maxLen) ∧ Below w.heap.size w w' := by
  cases a with
  | none =>
    obtain rfl : n = 0 := by
      rcases hsl.place with h | ⟨h, _⟩
      · exact h
      · cases h
    refine Sy.enter (vs := [.slice none 0 cap]) sy_fine Tryz.func72 rfl (fun γ => norms_LR _) rfl (fun γ0 hγ0 => ?_)
    refine run_ok (sy_cx _ _) 0 [] 60 3 ?_
    refine good_endV (.slice none 0 0) (by kernel_rfl) (fun W hk => ⟨_, rfl, ⟨none, 0, [], rfl, ⟨hsl.len, .inl rfl⟩, ⟨by have := hsl.len; simpa using this, .inl rfl⟩, (fun u h => by cases h), by simp [maxLen]⟩, hk.below⟩)
  | some ad =>
    refine Sy.enter (vs := [.slice (some ad) n cap]) sy_fine Tryz.func72 rfl (fun γ => norms_LR _) rfl (fun γ0 hγ0 => ?_)
    refine run_ok (sy_cx _ _) 0 [7] 60 3 ?_
    refine good_fix 5 gz 1 (by kernel_rfl) (by kernel_rfl) (by kernel_rfl) (fun k => ?_)
    refine good_appM (.slice (some ⟨k, 0, none⟩) 0 0) (.slice (some ad) n cap) [23, 23] (by kernel_rfl) (fun W hk => app_noneS (z := .string ⟨#[]⟩) (e := 9) (sz := 1) (bytes := 16) (by kernel_rfl) (by kernel_rfl) (by kernel_rfl) (by kernel_rfl) hsl (by omega) (by unfold maxLen; omega) W hk) ?_
    rintro w1 r w2 B2 hk1 ⟨a2, cap2, zs, rfl, hsl2, hsl3, hzs⟩ hbl hk2 hB02 hBn hB2
    refine run_ok (sy_cx _ _) 0 [] 60 0 ?_
    refine good_endV (.slice a2 n cap2) (by kernel_rfl) (fun W hk => have hkN : Keep (NewS w1 w2) w2 W := hk.mono fun k h => hBn k h.1.1 h.1.2
      have hlt : ∀ k, NewS w1 w2 k → NewS w W k := fun k h => h.up hkN h hk1.size hk.size
      ⟨_, rfl, ⟨a2, cap2, zs, rfl, (hsl2.keep hkN).mono hlt, (hsl3.keep hkN).mono hlt, hzs⟩, (hk2.trans (hk.mono hB02)).below⟩)
open Go.Sy in
set_option maxRecDepth 100000 in
theorem cloneVars (a : Option Addr) (n cap : Nat) (xs : List Value) (w : World) (hbd : n ≤ 1000000000000) (hsl : SlAt (· < w.heap.size) w a n 3 xs) :
    Calls Tryz.prog 71 #[.slice a n cap] w fun r w' => ∃ v, r = .returned v ∧ (∃ a' cap' zs, v = .slice a' n cap' ∧ SlAt (NewS w w') w' a' n 3 xs ∧ SlAt (NewS w w') w' a' cap' 3 (xs ++ zs) ∧ (∀ u ∈ zs, u ∈ ([.string ⟨#[]⟩, .int .u8 0, .int .u64 0] : List Value)) ∧ cap' ≤ maxLen) ∧ Below w.heap.size w w' := by
  cases a with
  | none =>
    obtain rfl : n = 0 := by
      rcases hsl.place with h | ⟨h, _⟩
      · exact h
      · cases h
    refine Sy.enter (vs := [.slice none 0 cap]) sy_fine Tryz.func71 rfl (fun γ => norms_LR _) rfl (fun γ0 hγ0 => ?_)
    refine run_ok (sy_cx _ _) 0 [] 60 3 ?_
    refine good_endV (.slice none 0 0) (by kernel_rfl) (fun W hk => ⟨_, rfl, ⟨none, 0, [], rfl, ⟨hsl.len, .inl rfl⟩, ⟨by have := hsl.len; simpa using this, .inl rfl⟩, (fun u h => by cases h), by simp [maxLen]⟩, hk.below⟩)
  | some ad =>
    refine Sy.enter (vs := [.slice (some ad) n cap]) sy_fine Tryz.func71 rfl (fun γ => norms_LR _) rfl (fun γ0 hγ0 => ?_)
    refine run_ok (sy_cx _ _) 0 [7] 60 3 ?_
    refine good_fix 5 gz 3 (by kernel_rfl) (by kernel_rfl) (by kernel_rfl) (fun k => ?_)
    refine good_appM (.slice (some ⟨k, 0, none⟩) 0 0) (.slice (some ad) n cap) [22, 22] (by kernel_rfl) (fun W hk => app_noneS (z := .agg #[.string ⟨#[]⟩, .int .u8 0, .int .u64 0]) (e := 67) (sz := 3) (bytes := 32) (by kernel_rfl) (by kernel_rfl) (by kernel_rfl) (by kernel_rfl) hsl (by omega) (by unfold maxLen; omega) W hk) ?_
    rintro w1 r w2 B2 hk1 ⟨a2, cap2, zs, rfl, hsl2, hsl3, hzs⟩ hbl hk2 hB02 hBn hB2
    refine run_ok (sy_cx _ _) 0 [] 60 0 ?_
    refine good_endV (.slice a2 n cap2) (by kernel_rfl) (fun W hk => have hkN : Keep (NewS w1 w2) w2 W := hk.mono fun k h => hBn k h.1.1 h.1.2
      have hlt : ∀ k, NewS w1 w2 k → NewS w W k := fun k h => h.up hkN h hk1.size hk.size
      ⟨_, rfl, ⟨a2, cap2, zs, rfl, (hsl2.keep hkN).mono hlt, (hsl3.keep hkN).mono hlt, hzs⟩, (hk2.trans (hk.mono hB02)).below⟩)
open Go.Sy in
set_option maxRecDepth 100000 in
theorem tcopyExpr_any : ∀ (N : Nat) (e : Ex) (cs : List Value) (w : World), wgt e ≤ N → wgt e ≤ 1000000000000 → ExAt (· < w.heap.size) w e cs →
    Calls Tryz.prog 208 #[.agg cs.toArray] w fun r w' => ∃ v, r = .returned v ∧ OnePr ExAt e w v w' ∧ Below w.heap.size w w' := by
  intro N
  induction N with
  | zero => intro e cs w h; have := wgt_pos e; omega
  | succ N ihN =>
    intro e cs w hN hbd hat
    obtain ⟨uop, uty, ubits, uen, uek⟩ := e
    simp only [ExAt] at hat
    obtain ⟨uea, uec, uxs, rfl, uhs, uht⟩ := hat
    simp only [wgt] at hN hbd
    refine Sy.enter (vs := [.agg #[.int .u8 uop, .int .u8 uty, .int .u64 ubits, .string (str uen), .slice uea uek.length uec]]) sy_fine Tryz.func208 rfl (fun γ => norms_LR _) rfl (fun γ0 hγ0 => ?_)
    refine run_ok (sy_cx _ _) 0 [] 60 0 ?_
    refine good_callM (sy_cx _ _) [.slice uea uek.length uec, .func (.func 208) #[] #[]] (by kernel_rfl) (by kernel_rfl) (by kernel_rfl) (fun W hk => eachEx N ihN uek _ _ _ _ W rfl (by omega) (by omega) ((uhs.keep hk).mono (fun k h => Nat.lt_of_lt_of_le h hk.size)) (ExsAt_ls.1 (uht.keep hk (fun k h => Nat.lt_of_lt_of_le h hk.size)))) ?_
    rintro wa r w2 B2 hka ⟨ra, rc, rx, rfl, hrs, hrt⟩ hba hk02 hB02 hBn2 hB2
    refine run_ok (sy_cx _ _) 0 [] 60 0 ?_
    refine good_endV (.agg #[.int .u8 uop, .int .u8 uty, .int .u64 ubits, .string (str uen), .slice ra uek.length rc]) (by kernel_rfl) (fun W hk => ⟨_, rfl, ⟨[.int .u8 uop, .int .u8 uty, .int .u64 ubits, .string (str uen), .slice ra uek.length rc], rfl, ?_⟩, (hk02.trans (hk.mono hB02)).below⟩)
    have hkN : Keep (NewS wa w2) w2 W := hk.mono fun k h => hBn2 k h.1.1 h.1.2
    have hlt : ∀ k, NewS wa w2 k → NewS w W k := fun k h => h.up hkN h hka.size hk.size
    simp only [ExAt]
    exact ⟨ra, rc, rx, rfl, (hrs.keep hkN).mono hlt, ExsAt_ls.2 (hrt.imp fun _ _ h => h.keep hkN hlt)⟩
open Go.Sy in
set_option maxRecDepth 100000 in
theorem tcopyStmt_any : ∀ (N : Nat) (e : St) (cs : List Value) (w : World), swt e ≤ N → swt e ≤ 1000000000000 → StAt (· < w.heap.size) w e cs →
    Calls Tryz.prog 142 #[.agg cs.toArray] w fun r w' => ∃ v, r = .returned v ∧ OnePr StAt e w v w' ∧ Below w.heap.size w w' := by
  intro N
  induction N with
  | zero => intro e cs w h; have := swt_pos e; omega
  | succ N ihN =>
    intro e cs w hN hbd hat
    obtain ⟨ukind, usn, ⟨uop, uty, ubits, uen, uek⟩, ubody, uels⟩ := e
    simp only [StAt] at hat
    obtain ⟨ucs, uba, ubc, ubx, ula, ulc, ulx, rfl, uhe, uhbs, uhbt, uhls, uhlt⟩ := hat
    have uhe0 := uhe
    simp only [ExAt] at uhe0
    obtain ⟨uea, uec, uex, rfl, _⟩ := uhe0
    simp only [swt] at hN hbd
    refine Sy.enter (vs := [.agg #[.int .i64 ukind, .string (str usn), .int .u8 uop, .int .u8 uty, .int .u64 ubits, .string (str uen), .slice uea uek.length uec, .slice uba ubody.length ubc, .slice ula uels.length ulc]]) sy_fine Tryz.func142 rfl (fun γ => norms_LR _) rfl (fun γ0 hγ0 => ?_)
    refine run_ok (sy_cx _ _) 0 [] 60 0 ?_
    refine good_callM (sy_cx _ _) [.agg #[.int .u8 uop, .int .u8 uty, .int .u64 ubits, .string (str uen), .slice uea uek.length uec]] (by kernel_rfl) (by kernel_rfl) (by kernel_rfl) (fun W hk => tcopyExpr_any _ (Ex.mk uop uty ubits uen uek) [.int .u8 uop, .int .u8 uty, .int .u64 ubits, .string (str uen), .slice uea uek.length uec] W (Nat.le_refl _) (by omega) (uhe.keep hk (fun k h => Nat.lt_of_lt_of_le h hk.size))) ?_
    rintro wa r w1 B1 hka ⟨ds, rfl, hds⟩ hba hk01 hB01 hBn1 hB1
    have hds0 := hds
    simp only [ExAt] at hds0
    obtain ⟨ra, rc, rx, rfl, _⟩ := hds0
    refine run_ok (sy_cx _ _) 0 [] 4 0 ?_
    refine good_plan sy_mixed (.take 0 (.take 3 (.alt (.run 1 (.alt (.run 2 (.run 4 (.take 6 (.run 5 (.run 7 (.take 8 .done)))))) (.run 4 (.run 2 (.take 6 (.run 5 (.run 7 (.take 8 .done)))))))) (.run 4 (.run 1 (.run 2 (.take 6 (.run 5 (.run 7 (.take 8 .done)))))))))) 9 (by kernel_rfl) ?_
    refine p_takes [] 2 (Bs := B1) (ws := w1) (by kernel_rfl) (fun _ h => h) (fun b hb => by cases hb) ?_
    refine p_alt (by kernel_rfl) ?_ ?_
    ·
      refine p_run (Keep B1 w1) (by kernel_rfl) (fun _ h => h) (by kernel_rfl) ?_
      refine run_ok (sy_cx _ _) 0 [] 60 0 ?_
      refine p_alt (by kernel_rfl) ?_ ?_
      ·
        refine p_run (Keep B1 w1) (by kernel_rfl) (fun _ h => h) (by kernel_rfl) ?_
        refine good_callM (sy_cx _ _) [.slice uba ubody.length ubc, .func (.func 142) #[] #[]] (by kernel_rfl) (by kernel_rfl) (by kernel_rfl) (fun W hk => by have hk := hk01.trans (hk.mono hB01); exact eachSt N ihN ubody _ _ _ _ W rfl (by omega) (by omega) ((uhbs.keep hk).mono (fun k h => Nat.lt_of_lt_of_le h hk.size)) (StsAt_ls.1 (uhbt.keep hk (fun k h => Nat.lt_of_lt_of_le h hk.size)))) ?_
        rintro wb r w2 B2 hkb ⟨rb, rbc, rbx, rfl, hbs, hbt⟩ hbb hk12 hB12 hBn2 hB2
        have hS2 : ∀ W, Keep B2 w2 W → Keep B1 w1 W := fun W hk => hk12.trans (hk.mono hB12)
        have hk02 : Keep (· < w.heap.size) w w2 := hk01.trans (hk12.mono hB01)
        refine run_ok (sy_cx _ _) 0 [] 60 0 ?_
        refine p_run (Keep B1 w1) (by kernel_rfl) hS2 (by kernel_rfl) ?_
        refine run_ok (sy_cx _ _) 0 [] 60 0 ?_
        refine p_takes [] 1 (Bs := B1) (ws := w1) (by kernel_rfl) hS2 (fun b hb => by cases hb) ?_
        refine p_run (Keep B1 w1) (by kernel_rfl) hS2 (by kernel_rfl) ?_
        refine good_callM (sy_cx _ _) [.slice ula uels.length ulc, .func (.func 142) #[] #[]] (by kernel_rfl) (by kernel_rfl) (by kernel_rfl) (fun W hk => by have hk := hk02.trans (hk.mono fun k h => hB12 k (hB01 k h)); exact eachSt N ihN uels _ _ _ _ W rfl (by omega) (by omega) ((uhls.keep hk).mono (fun k h => Nat.lt_of_lt_of_le h hk.size)) (StsAt_ls.1 (uhlt.keep hk (fun k h => Nat.lt_of_lt_of_le h hk.size)))) ?_
        rintro wc r w3 B3 hkc ⟨rl, rlc, rlx, rfl, hls, hlt⟩ hbc hk23 hB23 hBn3 hB3
        have hS3 : ∀ W, Keep B3 w3 W → Keep B1 w1 W := fun W hk => hS2 W (hk23.trans (hk.mono hB23))
        have hk03 : Keep (· < w.heap.size) w w3 := hk02.trans (hk23.mono fun k h => hB12 k (hB01 k h))
        refine run_ok (sy_cx _ _) 0 [] 60 0 ?_
        refine p_run (Keep B1 w1) (by kernel_rfl) hS3 (by kernel_rfl) ?_
        refine run_ok (sy_cx _ _) 0 [] 60 0 ?_
        refine p_takes [] 1 (Bs := B1) (ws := w1) (by kernel_rfl) hS3 (fun b hb => by cases hb) ?_
        refine p_done (by kernel_rfl) ?_ (Keep B1 w1) (by kernel_rfl) hS3
        refine run_ok (sy_cx _ _) 0 [] 60 0 ?_
        refine good_endV (.agg #[.int .i64 ukind, .string (str usn), .int .u8 uop, .int .u8 uty, .int .u64 ubits, .string (str uen), .slice ra uek.length rc, .slice rb ubody.length rbc, .slice rl uels.length rlc]) (by kernel_rfl) (fun W hk => ⟨_, rfl, ⟨[.int .i64 ukind, .string (str usn), .int .u8 uop, .int .u8 uty, .int .u64 ubits, .string (str uen), .slice ra uek.length rc, .slice rb ubody.length rbc, .slice rl uels.length rlc], rfl, ?_⟩, (hk03.trans (hk.mono fun k h => hB23 k (hB12 k (hB01 k h)))).below⟩)
        have z1 := hka.size
        have z2 := hkb.size
        have z3 := hkc.size
        have z4 := hk01.size
        have z5 := hk12.size
        have z6 := hk23.size
        have z7 := hk.size
        have k3 : Keep (NewS wc w3) w3 W := hk.mono fun k h => hBn3 k h.1.1 h.1.2
        have k2 : Keep (NewS wb w2) w2 W := (hk23.trans (hk.mono hB23)).mono fun k h => hBn2 k h.1.1 h.1.2
        have k1 : Keep (NewS wa w1) w1 W := ((hk12.trans ((hk23.trans (hk.mono hB23)).mono hB12))).mono fun k h => hBn1 k h.1.1 h.1.2
        have n1 : ∀ k, NewS wa w1 k → NewS w W k := fun k h => h.up k1 h (by omega) (by omega)
        have n2 : ∀ k, NewS wb w2 k → NewS w W k := fun k h => h.up k2 h (by omega) (by omega)
        have n3 : ∀ k, NewS wc w3 k → NewS w W k := fun k h => h.up k3 h (by omega) (by omega)
        simp only [StAt]
        exact ⟨_, rb, rbc, rbx, rl, rlc, rlx, rfl, hds.keep k1 n1, (hbs.keep k2).mono n2, StsAt_ls.2 (hbt.imp fun _ _ h => h.keep k2 n2), (hls.keep k3).mono n3, StsAt_ls.2 (hlt.imp fun _ _ h => h.keep k3 n3)⟩
      ·
        refine p_run (Keep B1 w1) (by kernel_rfl) (fun _ h => h) (by kernel_rfl) ?_
        refine run_ok (sy_cx _ _) 0 [] 60 0 ?_
        refine p_run (Keep B1 w1) (by kernel_rfl) (fun _ h => h) (by kernel_rfl) ?_
        refine good_callM (sy_cx _ _) [.slice uba ubody.length ubc, .func (.func 142) #[] #[]] (by kernel_rfl) (by kernel_rfl) (by kernel_rfl) (fun W hk => by have hk := hk01.trans (hk.mono hB01); exact eachSt N ihN ubody _ _ _ _ W rfl (by omega) (by omega) ((uhbs.keep hk).mono (fun k h => Nat.lt_of_lt_of_le h hk.size)) (StsAt_ls.1 (uhbt.keep hk (fun k h => Nat.lt_of_lt_of_le h hk.size)))) ?_
        rintro wb r w2 B2 hkb ⟨rb, rbc, rbx, rfl, hbs, hbt⟩ hbb hk12 hB12 hBn2 hB2
        have hS2 : ∀ W, Keep B2 w2 W → Keep B1 w1 W := fun W hk => hk12.trans (hk.mono hB12)
        have hk02 : Keep (· < w.heap.size) w w2 := hk01.trans (hk12.mono hB01)
        refine run_ok (sy_cx _ _) 0 [] 60 0 ?_
        refine p_takes [] 1 (Bs := B1) (ws := w1) (by kernel_rfl) hS2 (fun b hb => by cases hb) ?_
        refine p_run (Keep B1 w1) (by kernel_rfl) hS2 (by kernel_rfl) ?_
        refine good_callM (sy_cx _ _) [.slice ula uels.length ulc, .func (.func 142) #[] #[]] (by kernel_rfl) (by kernel_rfl) (by kernel_rfl) (fun W hk => by have hk := hk02.trans (hk.mono fun k h => hB12 k (hB01 k h)); exact eachSt N ihN uels _ _ _ _ W rfl (by omega) (by omega) ((uhls.keep hk).mono (fun k h => Nat.lt_of_lt_of_le h hk.size)) (StsAt_ls.1 (uhlt.keep hk (fun k h => Nat.lt_of_lt_of_le h hk.size)))) ?_
        rintro wc r w3 B3 hkc ⟨rl, rlc, rlx, rfl, hls, hlt⟩ hbc hk23 hB23 hBn3 hB3
        have hS3 : ∀ W, Keep B3 w3 W → Keep B1 w1 W := fun W hk => hS2 W (hk23.trans (hk.mono hB23))
        have hk03 : Keep (· < w.heap.size) w w3 := hk02.trans (hk23.mono fun k h => hB12 k (hB01 k h))
        refine run_ok (sy_cx _ _) 0 [] 60 0 ?_
        refine p_run (Keep B1 w1) (by kernel_rfl) hS3 (by kernel_rfl) ?_
        refine run_ok (sy_cx _ _) 0 [] 60 0 ?_
        refine p_takes [] 1 (Bs := B1) (ws := w1) (by kernel_rfl) hS3 (fun b hb => by cases hb) ?_
        refine p_done (by kernel_rfl) ?_ (Keep B1 w1) (by kernel_rfl) hS3
        refine run_ok (sy_cx _ _) 0 [] 60 0 ?_
        refine good_endV (.agg #[.int .i64 ukind, .string (str usn), .int .u8 uop, .int .u8 uty, .int .u64 ubits, .string (str uen), .slice ra uek.length rc, .slice rb ubody.length rbc, .slice rl uels.length rlc]) (by kernel_rfl) (fun W hk => ⟨_, rfl, ⟨[.int .i64 ukind, .string (str usn), .int .u8 uop, .int .u8 uty, .int .u64 ubits, .string (str uen), .slice ra uek.length rc, .slice rb ubody.length rbc, .slice rl uels.length rlc], rfl, ?_⟩, (hk03.trans (hk.mono fun k h => hB23 k (hB12 k (hB01 k h)))).below⟩)
        have z1 := hka.size
        have z2 := hkb.size
        have z3 := hkc.size
        have z4 := hk01.size
        have z5 := hk12.size
        have z6 := hk23.size
        have z7 := hk.size
        have k3 : Keep (NewS wc w3) w3 W := hk.mono fun k h => hBn3 k h.1.1 h.1.2
        have k2 : Keep (NewS wb w2) w2 W := (hk23.trans (hk.mono hB23)).mono fun k h => hBn2 k h.1.1 h.1.2
        have k1 : Keep (NewS wa w1) w1 W := ((hk12.trans ((hk23.trans (hk.mono hB23)).mono hB12))).mono fun k h => hBn1 k h.1.1 h.1.2
        have n1 : ∀ k, NewS wa w1 k → NewS w W k := fun k h => h.up k1 h (by omega) (by omega)
        have n2 : ∀ k, NewS wb w2 k → NewS w W k := fun k h => h.up k2 h (by omega) (by omega)
        have n3 : ∀ k, NewS wc w3 k → NewS w W k := fun k h => h.up k3 h (by omega) (by omega)
        simp only [StAt]
        exact ⟨_, rb, rbc, rbx, rl, rlc, rlx, rfl, hds.keep k1 n1, (hbs.keep k2).mono n2, StsAt_ls.2 (hbt.imp fun _ _ h => h.keep k2 n2), (hls.keep k3).mono n3, StsAt_ls.2 (hlt.imp fun _ _ h => h.keep k3 n3)⟩
    ·
      refine p_run (Keep B1 w1) (by kernel_rfl) (fun _ h => h) (by kernel_rfl) ?_
      refine run_ok (sy_cx _ _) 0 [] 60 0 ?_
      refine p_run (Keep B1 w1) (by kernel_rfl) (fun _ h => h) (by kernel_rfl) ?_
      refine run_ok (sy_cx _ _) 0 [] 60 0 ?_
      refine p_run (Keep B1 w1) (by kernel_rfl) (fun _ h => h) (by kernel_rfl) ?_
      refine good_callM (sy_cx _ _) [.slice uba ubody.length ubc, .func (.func 142) #[] #[]] (by kernel_rfl) (by kernel_rfl) (by kernel_rfl) (fun W hk => by have hk := hk01.trans (hk.mono hB01); exact eachSt N ihN ubody _ _ _ _ W rfl (by omega) (by omega) ((uhbs.keep hk).mono (fun k h => Nat.lt_of_lt_of_le h hk.size)) (StsAt_ls.1 (uhbt.keep hk (fun k h => Nat.lt_of_lt_of_le h hk.size)))) ?_
      rintro wb r w2 B2 hkb ⟨rb, rbc, rbx, rfl, hbs, hbt⟩ hbb hk12 hB12 hBn2 hB2
      have hS2 : ∀ W, Keep B2 w2 W → Keep B1 w1 W := fun W hk => hk12.trans (hk.mono hB12)
      have hk02 : Keep (· < w.heap.size) w w2 := hk01.trans (hk12.mono hB01)
      refine run_ok (sy_cx _ _) 0 [] 60 0 ?_
      refine p_takes [] 1 (Bs := B1) (ws := w1) (by kernel_rfl) hS2 (fun b hb => by cases hb) ?_
      refine p_run (Keep B1 w1) (by kernel_rfl) hS2 (by kernel_rfl) ?_
      refine good_callM (sy_cx _ _) [.slice ula uels.length ulc, .func (.func 142) #[] #[]] (by kernel_rfl) (by kernel_rfl) (by kernel_rfl) (fun W hk => by have hk := hk02.trans (hk.mono fun k h => hB12 k (hB01 k h)); exact eachSt N ihN uels _ _ _ _ W rfl (by omega) (by omega) ((uhls.keep hk).mono (fun k h => Nat.lt_of_lt_of_le h hk.size)) (StsAt_ls.1 (uhlt.keep hk (fun k h => Nat.lt_of_lt_of_le h hk.size)))) ?_
      rintro wc r w3 B3 hkc ⟨rl, rlc, rlx, rfl, hls, hlt⟩ hbc hk23 hB23 hBn3 hB3
      have hS3 : ∀ W, Keep B3 w3 W → Keep B1 w1 W := fun W hk => hS2 W (hk23.trans (hk.mono hB23))
      have hk03 : Keep (· < w.heap.size) w w3 := hk02.trans (hk23.mono fun k h => hB12 k (hB01 k h))
      refine run_ok (sy_cx _ _) 0 [] 60 0 ?_
      refine p_run (Keep B1 w1) (by kernel_rfl) hS3 (by kernel_rfl) ?_
      refine run_ok (sy_cx _ _) 0 [] 60 0 ?_
      refine p_takes [] 1 (Bs := B1) (ws := w1) (by kernel_rfl) hS3 (fun b hb => by cases hb) ?_
      refine p_done (by kernel_rfl) ?_ (Keep B1 w1) (by kernel_rfl) hS3
      refine run_ok (sy_cx _ _) 0 [] 60 0 ?_
      refine good_endV (.agg #[.int .i64 ukind, .string (str usn), .int .u8 uop, .int .u8 uty, .int .u64 ubits, .string (str uen), .slice ra uek.length rc, .slice rb ubody.length rbc, .slice rl uels.length rlc]) (by kernel_rfl) (fun W hk => ⟨_, rfl, ⟨[.int .i64 ukind, .string (str usn), .int .u8 uop, .int .u8 uty, .int .u64 ubits, .string (str uen), .slice ra uek.length rc, .slice rb ubody.length rbc, .slice rl uels.length rlc], rfl, ?_⟩, (hk03.trans (hk.mono fun k h => hB23 k (hB12 k (hB01 k h)))).below⟩)
      have z1 := hka.size
      have z2 := hkb.size
      have z3 := hkc.size
      have z4 := hk01.size
      have z5 := hk12.size
      have z6 := hk23.size
      have z7 := hk.size
      have k3 : Keep (NewS wc w3) w3 W := hk.mono fun k h => hBn3 k h.1.1 h.1.2
      have k2 : Keep (NewS wb w2) w2 W := (hk23.trans (hk.mono hB23)).mono fun k h => hBn2 k h.1.1 h.1.2
      have k1 : Keep (NewS wa w1) w1 W := ((hk12.trans ((hk23.trans (hk.mono hB23)).mono hB12))).mono fun k h => hBn1 k h.1.1 h.1.2
      have n1 : ∀ k, NewS wa w1 k → NewS w W k := fun k h => h.up k1 h (by omega) (by omega)
      have n2 : ∀ k, NewS wb w2 k → NewS w W k := fun k h => h.up k2 h (by omega) (by omega)
      have n3 : ∀ k, NewS wc w3 k → NewS w W k := fun k h => h.up k3 h (by omega) (by omega)
      simp only [StAt]
      exact ⟨_, rb, rbc, rbx, rl, rlc, rlx, rfl, hds.keep k1 n1, (hbs.keep k2).mono n2, StsAt_ls.2 (hbt.imp fun _ _ h => h.keep k2 n2), (hls.keep k3).mono n3, StsAt_ls.2 (hlt.imp fun _ _ h => h.keep k3 n3)⟩
end Go.Proofs.YtiacalnkmnckjaaGreatDoor
end

section
/- What copyThread and Copy make. No conditions but those in each theorem. -/
namespace Go.Proofs.YtiacalnkmnckjaaGreatDoor
open Go.RowKit Go.As
set_option linter.unusedVariables false
set_option linter.unusedSimpArgs false

/-- a copy of a program: in new blocks over which a store may go; behind the mutexes' names stand empty strings up to the room's end -/
def PgPrS (p : Pg) (w : World) (v : Value) (w' : World) : Prop :=
  ∃ a cap b cap2 d cap3 xs ys zs us, v = .agg #[.slice a p.shared.length cap, .slice b p.mutexes.length cap2, .slice d p.threads.length cap3] ∧
    Sy.SlAt (NewS w w') w' a p.shared.length 3 xs ∧ LsAt VrAt p.shared xs ∧ Sy.SlAt (NewS w w') w' b p.mutexes.length 1 ys ∧ LsAt TxAt p.mutexes ys ∧ Sy.SlAt (NewS w w') w' d p.threads.length 3 zs ∧ LsAt (ThAt (NewS w w') w') p.threads zs ∧
    Sy.SlAt (NewS w w') w' b cap2 1 (ys ++ us) ∧ (∀ u ∈ us, u ∈ ([.string ⟨#[]⟩] : List Value)) ∧ cap2 ≤ maxLen
theorem PgPrS.at_ {p : Pg} {w w' : World} {v : Value} (h : PgPrS p w v w') : ∃ ds : List Value, v = .agg ds.toArray ∧ PgAt (NewS w w') w' p ds := by
  obtain ⟨a, cap, b, cap2, d, cap3, xs, ys, zs, us, rfl, h1, h2, h3, h4, h5, h6, _⟩ := h
  exact ⟨_, rfl, a, cap, xs, b, cap2, ys, d, cap3, zs, rfl, h1, h2, h3, h4, h5, h6⟩
open Go.Sy in
set_option maxRecDepth 100000 in
theorem tcopyThread_any (s : Th) (cs : List Value) (w : World) (hbd : thw s ≤ 1000000000000) (hc : ThAt (· < w.heap.size) w s cs) :
    Calls Tryz.prog 74 #[.agg cs.toArray] w fun r w' => ∃ v, r = .returned v ∧ OnePr ThAt s w v w' ∧ Below w.heap.size w w' := by
  unfold thw at hbd
  obtain ⟨sa, scap, sxs, sb, scap2, sys, rfl, shs, sht, shb, shbt⟩ := hc
  refine Sy.enter (vs := [.agg #[.string (str s.name), .slice sa s.locals.length scap, .slice sb s.body.length scap2]]) sy_fine Tryz.func74 rfl (fun γ => norms_LR _) rfl (fun γ0 hγ0 => ?_)
  refine run_ok (sy_cx _ _) 0 [] 6 0 ?_
  refine good_plan sy_mixed (.take 0 (.take 3 (.alt (.run 1 (.alt (.run 2 (.run 4 (.take 6 (.run 5 (.run 7 (.take 8 .done)))))) (.run 4 (.run 2 (.take 6 (.run 5 (.run 7 (.take 8 .done)))))))) (.run 4 (.run 1 (.run 2 (.take 6 (.run 5 (.run 7 (.take 8 .done)))))))))) 9 (by kernel_rfl) ?_
  refine p_takes [] 2 (Bs := (· < w.heap.size)) (ws := w) (by kernel_rfl) (fun _ h => h) (fun b hb => by cases hb) ?_
  refine p_alt (by kernel_rfl) ?_ ?_
  ·
    refine p_run (Keep (· < w.heap.size) w) (by kernel_rfl) (fun _ h => h) (by kernel_rfl) ?_
    refine run_ok (sy_cx _ _) 0 [] 60 0 ?_
    refine p_alt (by kernel_rfl) ?_ ?_
    ·
      refine p_run (Keep (· < w.heap.size) w) (by kernel_rfl) (fun _ h => h) (by kernel_rfl) ?_
      refine good_callM (sy_cx _ _) [.slice sa s.locals.length scap] (by kernel_rfl) (by kernel_rfl) (by kernel_rfl) (fun W hk => cloneVars sa s.locals.length scap sxs W (by omega) ((shs.keep hk).mono (fun k h => Nat.lt_of_lt_of_le h hk.size))) ?_
      rintro wb r w2 B2 hkb ⟨ra, rac, zs1, rfl, hrs, _, _⟩ hbb hk02 hB02 hBn2 hB2
      have hS2 : ∀ W, Keep B2 w2 W → Keep (· < w.heap.size) w W := fun W hk => hk02.trans (hk.mono hB02)
      refine run_ok (sy_cx _ _) 0 [] 60 0 ?_
      refine p_run (Keep (· < w.heap.size) w) (by kernel_rfl) hS2 (by kernel_rfl) ?_
      refine run_ok (sy_cx _ _) 0 [] 60 0 ?_
      refine p_takes [] 1 (Bs := (· < w.heap.size)) (ws := w) (by kernel_rfl) hS2 (fun b hb => by cases hb) ?_
      refine p_run (Keep (· < w.heap.size) w) (by kernel_rfl) hS2 (by kernel_rfl) ?_
      refine good_callM (sy_cx _ _) [.slice sb s.body.length scap2, .func (.func 142) #[] #[]] (by kernel_rfl) (by kernel_rfl) (by kernel_rfl) (fun W hk => by have hk := hS2 W hk; exact eachSt _ (tcopyStmt_any _) s.body _ _ _ _ W rfl (Nat.le_refl _) (by omega) ((shb.keep hk).mono (fun k h => Nat.lt_of_lt_of_le h hk.size)) (StsAt_ls.1 (shbt.keep hk (fun k h => Nat.lt_of_lt_of_le h hk.size)))) ?_
      rintro wc r w3 B3 hkc ⟨rb, rbc, rbx, rfl, hbs, hbt⟩ hbc hk23 hB23 hBn3 hB3
      have hS3 : ∀ W, Keep B3 w3 W → Keep (· < w.heap.size) w W := fun W hk => hS2 W (hk23.trans (hk.mono hB23))
      refine run_ok (sy_cx _ _) 0 [] 60 0 ?_
      refine p_run (Keep (· < w.heap.size) w) (by kernel_rfl) hS3 (by kernel_rfl) ?_
      refine run_ok (sy_cx _ _) 0 [] 60 0 ?_
      refine p_takes [] 1 (Bs := (· < w.heap.size)) (ws := w) (by kernel_rfl) hS3 (fun b hb => by cases hb) ?_
      refine p_done (by kernel_rfl) ?_ (Keep (· < w.heap.size) w) (by kernel_rfl) hS3
      refine run_ok (sy_cx _ _) 0 [] 60 0 ?_
      refine good_endV (.agg #[.string (str s.name), .slice ra s.locals.length rac, .slice rb s.body.length rbc]) (by kernel_rfl) (fun W hk => ⟨_, rfl, ⟨[.string (str s.name), .slice ra s.locals.length rac, .slice rb s.body.length rbc], rfl, ?_⟩, (hS3 W hk).below⟩)
      have z2 := hkb.size
      have z3 := hkc.size
      have z5 := hk02.size
      have z6 := hk23.size
      have z7 := hk.size
      have k3 : Keep (NewS wc w3) w3 W := hk.mono fun k h => hBn3 k h.1.1 h.1.2
      have k2 : Keep (NewS wb w2) w2 W := (hk23.trans (hk.mono hB23)).mono fun k h => hBn2 k h.1.1 h.1.2
      have n2 : ∀ k, NewS wb w2 k → NewS w W k := fun k h => h.up k2 h (by omega) (by omega)
      have n3 : ∀ k, NewS wc w3 k → NewS w W k := fun k h => h.up k3 h (by omega) (by omega)
      exact ⟨ra, rac, sxs, rb, rbc, rbx, rfl, (hrs.keep k2).mono n2, sht, (hbs.keep k3).mono n3, StsAt_ls.2 (hbt.imp fun _ _ h => h.keep k3 n3)⟩
    ·
      refine p_run (Keep (· < w.heap.size) w) (by kernel_rfl) (fun _ h => h) (by kernel_rfl) ?_
      refine run_ok (sy_cx _ _) 0 [] 60 0 ?_
      refine p_run (Keep (· < w.heap.size) w) (by kernel_rfl) (fun _ h => h) (by kernel_rfl) ?_
      refine good_callM (sy_cx _ _) [.slice sa s.locals.length scap] (by kernel_rfl) (by kernel_rfl) (by kernel_rfl) (fun W hk => cloneVars sa s.locals.length scap sxs W (by omega) ((shs.keep hk).mono (fun k h => Nat.lt_of_lt_of_le h hk.size))) ?_
      rintro wb r w2 B2 hkb ⟨ra, rac, zs1, rfl, hrs, _, _⟩ hbb hk02 hB02 hBn2 hB2
      have hS2 : ∀ W, Keep B2 w2 W → Keep (· < w.heap.size) w W := fun W hk => hk02.trans (hk.mono hB02)
      refine run_ok (sy_cx _ _) 0 [] 60 0 ?_
      refine p_takes [] 1 (Bs := (· < w.heap.size)) (ws := w) (by kernel_rfl) hS2 (fun b hb => by cases hb) ?_
      refine p_run (Keep (· < w.heap.size) w) (by kernel_rfl) hS2 (by kernel_rfl) ?_
      refine good_callM (sy_cx _ _) [.slice sb s.body.length scap2, .func (.func 142) #[] #[]] (by kernel_rfl) (by kernel_rfl) (by kernel_rfl) (fun W hk => by have hk := hS2 W hk; exact eachSt _ (tcopyStmt_any _) s.body _ _ _ _ W rfl (Nat.le_refl _) (by omega) ((shb.keep hk).mono (fun k h => Nat.lt_of_lt_of_le h hk.size)) (StsAt_ls.1 (shbt.keep hk (fun k h => Nat.lt_of_lt_of_le h hk.size)))) ?_
      rintro wc r w3 B3 hkc ⟨rb, rbc, rbx, rfl, hbs, hbt⟩ hbc hk23 hB23 hBn3 hB3
      have hS3 : ∀ W, Keep B3 w3 W → Keep (· < w.heap.size) w W := fun W hk => hS2 W (hk23.trans (hk.mono hB23))
      refine run_ok (sy_cx _ _) 0 [] 60 0 ?_
      refine p_run (Keep (· < w.heap.size) w) (by kernel_rfl) hS3 (by kernel_rfl) ?_
      refine run_ok (sy_cx _ _) 0 [] 60 0 ?_
      refine p_takes [] 1 (Bs := (· < w.heap.size)) (ws := w) (by kernel_rfl) hS3 (fun b hb => by cases hb) ?_
      refine p_done (by kernel_rfl) ?_ (Keep (· < w.heap.size) w) (by kernel_rfl) hS3
      refine run_ok (sy_cx _ _) 0 [] 60 0 ?_
      refine good_endV (.agg #[.string (str s.name), .slice ra s.locals.length rac, .slice rb s.body.length rbc]) (by kernel_rfl) (fun W hk => ⟨_, rfl, ⟨[.string (str s.name), .slice ra s.locals.length rac, .slice rb s.body.length rbc], rfl, ?_⟩, (hS3 W hk).below⟩)
      have z2 := hkb.size
      have z3 := hkc.size
      have z5 := hk02.size
      have z6 := hk23.size
      have z7 := hk.size
      have k3 : Keep (NewS wc w3) w3 W := hk.mono fun k h => hBn3 k h.1.1 h.1.2
      have k2 : Keep (NewS wb w2) w2 W := (hk23.trans (hk.mono hB23)).mono fun k h => hBn2 k h.1.1 h.1.2
      have n2 : ∀ k, NewS wb w2 k → NewS w W k := fun k h => h.up k2 h (by omega) (by omega)
      have n3 : ∀ k, NewS wc w3 k → NewS w W k := fun k h => h.up k3 h (by omega) (by omega)
      exact ⟨ra, rac, sxs, rb, rbc, rbx, rfl, (hrs.keep k2).mono n2, sht, (hbs.keep k3).mono n3, StsAt_ls.2 (hbt.imp fun _ _ h => h.keep k3 n3)⟩
  ·
    refine p_run (Keep (· < w.heap.size) w) (by kernel_rfl) (fun _ h => h) (by kernel_rfl) ?_
    refine run_ok (sy_cx _ _) 0 [] 60 0 ?_
    refine p_run (Keep (· < w.heap.size) w) (by kernel_rfl) (fun _ h => h) (by kernel_rfl) ?_
    refine run_ok (sy_cx _ _) 0 [] 60 0 ?_
    refine p_run (Keep (· < w.heap.size) w) (by kernel_rfl) (fun _ h => h) (by kernel_rfl) ?_
    refine good_callM (sy_cx _ _) [.slice sa s.locals.length scap] (by kernel_rfl) (by kernel_rfl) (by kernel_rfl) (fun W hk => cloneVars sa s.locals.length scap sxs W (by omega) ((shs.keep hk).mono (fun k h => Nat.lt_of_lt_of_le h hk.size))) ?_
    rintro wb r w2 B2 hkb ⟨ra, rac, zs1, rfl, hrs, _, _⟩ hbb hk02 hB02 hBn2 hB2
    have hS2 : ∀ W, Keep B2 w2 W → Keep (· < w.heap.size) w W := fun W hk => hk02.trans (hk.mono hB02)
    refine run_ok (sy_cx _ _) 0 [] 60 0 ?_
    refine p_takes [] 1 (Bs := (· < w.heap.size)) (ws := w) (by kernel_rfl) hS2 (fun b hb => by cases hb) ?_
    refine p_run (Keep (· < w.heap.size) w) (by kernel_rfl) hS2 (by kernel_rfl) ?_
    refine good_callM (sy_cx _ _) [.slice sb s.body.length scap2, .func (.func 142) #[] #[]] (by kernel_rfl) (by kernel_rfl) (by kernel_rfl) (fun W hk => by have hk := hS2 W hk; exact eachSt _ (tcopyStmt_any _) s.body _ _ _ _ W rfl (Nat.le_refl _) (by omega) ((shb.keep hk).mono (fun k h => Nat.lt_of_lt_of_le h hk.size)) (StsAt_ls.1 (shbt.keep hk (fun k h => Nat.lt_of_lt_of_le h hk.size)))) ?_
    rintro wc r w3 B3 hkc ⟨rb, rbc, rbx, rfl, hbs, hbt⟩ hbc hk23 hB23 hBn3 hB3
    have hS3 : ∀ W, Keep B3 w3 W → Keep (· < w.heap.size) w W := fun W hk => hS2 W (hk23.trans (hk.mono hB23))
    refine run_ok (sy_cx _ _) 0 [] 60 0 ?_
    refine p_run (Keep (· < w.heap.size) w) (by kernel_rfl) hS3 (by kernel_rfl) ?_
    refine run_ok (sy_cx _ _) 0 [] 60 0 ?_
    refine p_takes [] 1 (Bs := (· < w.heap.size)) (ws := w) (by kernel_rfl) hS3 (fun b hb => by cases hb) ?_
    refine p_done (by kernel_rfl) ?_ (Keep (· < w.heap.size) w) (by kernel_rfl) hS3
    refine run_ok (sy_cx _ _) 0 [] 60 0 ?_
    refine good_endV (.agg #[.string (str s.name), .slice ra s.locals.length rac, .slice rb s.body.length rbc]) (by kernel_rfl) (fun W hk => ⟨_, rfl, ⟨[.string (str s.name), .slice ra s.locals.length rac, .slice rb s.body.length rbc], rfl, ?_⟩, (hS3 W hk).below⟩)
    have z2 := hkb.size
    have z3 := hkc.size
    have z5 := hk02.size
    have z6 := hk23.size
    have z7 := hk.size
    have k3 : Keep (NewS wc w3) w3 W := hk.mono fun k h => hBn3 k h.1.1 h.1.2
    have k2 : Keep (NewS wb w2) w2 W := (hk23.trans (hk.mono hB23)).mono fun k h => hBn2 k h.1.1 h.1.2
    have n2 : ∀ k, NewS wb w2 k → NewS w W k := fun k h => h.up k2 h (by omega) (by omega)
    have n3 : ∀ k, NewS wc w3 k → NewS w W k := fun k h => h.up k3 h (by omega) (by omega)
    exact ⟨ra, rac, sxs, rb, rbc, rbx, rfl, (hrs.keep k2).mono n2, sht, (hbs.keep k3).mono n3, StsAt_ls.2 (hbt.imp fun _ _ h => h.keep k3 n3)⟩
open Go.Sy in
set_option maxRecDepth 100000 in
theorem tcopy_any (p : Pg) (cs : List Value) (w : World) (hbd0 : pwt p ≤ 1000000000000) (hp : PgAt (· < w.heap.size) w p cs) :
    Calls Tryz.prog 27 #[.agg cs.toArray] w fun r w' => ∃ v, r = .returned v ∧ PgPrS p w v w' ∧ Below w.heap.size w w' := by
  obtain ⟨a, cap, xs, b, cap2, ys, d, cap3, zs, rfl, hxs, hxt, hys, hyt, hzs, hzt⟩ := hp
  have hbd : p.shared.length + p.mutexes.length + thws p.threads ≤ 1000000000000 := hbd0
  refine Sy.enter (vs := [.agg #[.slice a p.shared.length cap, .slice b p.mutexes.length cap2, .slice d p.threads.length cap3]]) sy_fine Tryz.func27 rfl (fun γ => norms_LR _) rfl (fun γ0 hγ0 => ?_)
  refine run_ok (sy_cx _ _) 0 [] 6 0 ?_
  refine good_lock [gz] (gz + 1) (by kernel_rfl) (fun b hb => hγ0 b (Nat.le_trans (Nat.le_add_right _ 1) hb)) ?_
  intro γ1 B1 w1 hle1 hγ1 hB01 hB1 hk01 hLk
  have hL1 : ∀ b, hasNat b [gz] = true → ∃ p, γ1 b = some p ∧ B1 p.1 := fun b hb => let ⟨p, h1, h2, _⟩ := hLk b hb; ⟨p, h1, h2⟩
  refine good_plan sy_mixed (.take 0 (.take 1 (.take 3 (.take 4 (.take 6 (.take 7 (.run 2 (.run 5 (.run 8 (.take 9 .done)))))))))) 10 (by kernel_rfl) ?_
  refine p_takes [gz] 6 (Bs := B1) (ws := w1) (by kernel_rfl) (fun _ h => h) hL1 ?_
  refine p_run (Keep B1 w1) (by kernel_rfl) (fun _ h => h) (by kernel_rfl) ?_
  refine good_callM (sy_cx _ _) [.slice a p.shared.length cap] (by kernel_rfl) (by kernel_rfl) (by kernel_rfl) (fun W hk => by have hk := hk01.trans (hk.mono hB01); exact cloneVars a p.shared.length cap xs W (by omega) ((hxs.keep hk).mono (fun k h => Nat.lt_of_lt_of_le h hk.size))) ?_
  rintro wa r w2 B2 hka ⟨ra, rac, zs1, rfl, hra, _, _⟩ hba hk12 hB12 hBn2 hB2
  have hS2 : ∀ W, Keep B2 w2 W → Keep B1 w1 W := fun W hk => hk12.trans (hk.mono hB12)
  refine run_ok (sy_cx _ _) 0 [] 60 0 ?_
  refine p_run (Keep B1 w1) (by kernel_rfl) hS2 (by kernel_rfl) ?_
  refine good_callM (sy_cx _ _) [.slice b p.mutexes.length cap2] (by kernel_rfl) (by kernel_rfl) (by kernel_rfl) (fun W hk => by have hk := hk01.trans ((hS2 W hk).mono hB01); exact cloneTexts b p.mutexes.length cap2 ys W (by omega) ((hys.keep hk).mono (fun k h => Nat.lt_of_lt_of_le h hk.size))) ?_
  rintro wb r w3 B3 hkb ⟨rb, rbc, zs2, rfl, hrb, hrc, hzs2⟩ hbb hk23 hB23 hBn3 hB3
  have hS3 : ∀ W, Keep B3 w3 W → Keep B1 w1 W := fun W hk => hS2 W (hk23.trans (hk.mono hB23))
  refine run_ok (sy_cx _ _) 0 [] 60 0 ?_
  refine p_run (Keep B1 w1) (by kernel_rfl) hS3 (by kernel_rfl) ?_
  refine good_callM (sy_cx _ _) [.slice d p.threads.length cap3, .func (.func 74) #[] #[]] (by kernel_rfl) (by kernel_rfl) (by kernel_rfl) (fun W hk => by have hk := hk01.trans ((hS3 W hk).mono hB01); exact eachTh 1000000000000 (fun s cs W _ h => tcopyThread_any s cs W h) p.threads _ _ _ _ W rfl (by omega) (by omega) ((hzs.keep hk).mono (fun k h => Nat.lt_of_lt_of_le h hk.size)) (hzt.imp fun _ _ h => h.keep hk (fun k h => Nat.lt_of_lt_of_le h hk.size))) ?_
  rintro wc r w4 B4 hkc ⟨rd, rdc, rdx, rfl, hrd, hrt⟩ hbc hk34 hB34 hBn4 hB4
  have hS4 : ∀ W, Keep B4 w4 W → Keep B1 w1 W := fun W hk => hS3 W (hk34.trans (hk.mono hB34))
  refine run_ok (sy_cx _ _) 0 [] 60 0 ?_
  refine p_takes [gz] 1 (Bs := B1) (ws := w1) (by kernel_rfl) hS4 hL1 ?_
  refine p_done (by kernel_rfl) ?_ (Keep B1 w1) (by kernel_rfl) hS4
  refine run_ok (sy_cx _ _) 0 [] 60 0 ?_
  refine good_endV (.agg #[.slice ra p.shared.length rac, .slice rb p.mutexes.length rbc, .slice rd p.threads.length rdc]) (by kernel_rfl) (fun W hk => ⟨_, rfl, ⟨ra, rac, rb, rbc, rd, rdc, xs, ys, rdx, zs2, rfl, ?_⟩, (hk01.trans ((hS4 W hk).mono hB01)).below⟩)
  have z1 := hka.size
  have z2 := hkb.size
  have z3 := hkc.size
  have z4 := hk01.size
  have z5 := hk12.size
  have z6 := hk23.size
  have z7 := hk34.size
  have z8 := hk.size
  have k4 : Keep (NewS wc w4) w4 W := hk.mono fun k h => hBn4 k h.1.1 h.1.2
  have k3 : Keep (NewS wb w3) w3 W := (hk34.trans (hk.mono hB34)).mono fun k h => hBn3 k h.1.1 h.1.2
  have k2 : Keep (NewS wa w2) w2 W := (hk23.trans ((hk34.trans (hk.mono hB34)).mono hB23)).mono fun k h => hBn2 k h.1.1 h.1.2
  have n2 : ∀ k, NewS wa w2 k → NewS w W k := fun k h => h.up k2 h (by omega) (by omega)
  have n3 : ∀ k, NewS wb w3 k → NewS w W k := fun k h => h.up k3 h (by omega) (by omega)
  have n4 : ∀ k, NewS wc w4 k → NewS w W k := fun k h => h.up k4 h (by omega) (by omega)
  exact ⟨(hra.keep k2).mono n2, hxt, (hrb.keep k3).mono n3, hyt, (hrd.keep k4).mono n4, hrt.imp fun _ _ h => h.keep k4 n4, (hrc.keep k3).mono n3, hzs2⟩
end Go.Proofs.YtiacalnkmnckjaaGreatDoor
end

section
/- The reckoner: calls that write into blocks that stay. Any program; the conditions are in each theorem. -/
noncomputable section
namespace Go.Sy
open Go Go.RowKit
set_option linter.unusedVariables false
set_option linter.unusedSimpArgs false

def blkOwned : Blk → Bool
  | .cells _ own _ _ _ _ => own
  | _ => true
section
variable {P : Program} {I : Aux} {B : Nat → Prop} {w0 : World} {γ0 : Gm} {nt : Nat} {Q : Exit → Act → World → Prop} {g : Cfg}
theorem blkOwned_ok {γ : Gm} {blk : Blk} {p : Nat × Nat} {w : World} (h : blkOwned blk = true) (hbr : BR B γ blk p w) : ¬ B p.1 := by
  cases blk with
  | cells ty own cl ex lim cs => exact hbr.1 h
  | map es clock => exact hbr.1
  | row e xs => exact hbr.1
/-- a call that turns the blocks F, of those that stay, and makes memory: what stood there stands in the new world as the contract says -/
theorem good_callW (cx : Cx P I B w0) {f : FuncId} (xs : List Value) (F : Nat → Prop) {Pr : World → Value → World → Prop} (h : hdCall P nt g = some (f, xs.map norm)) (hbod : bodied P f = some true) (hx : closeLL (xs.map norm) = some xs)
    (hown : trAll blkOwned g.s.h = true) (hFB : ∀ k, F k → B k)
    (hc : ∀ w, Keep B w0 w → Calls P f xs.toArray w fun e w' => ∃ r, e = .returned r ∧ Pr w r w' ∧ Keep (fun k => k < w.heap.size ∧ ¬ F k) w w')
    (hg : ∀ w r w' B', Keep B w0 w → Pr w r w' → Keep (fun k => k < w.heap.size ∧ ¬ F k) w w' → Keep (fun k => B k ∧ ¬ F k) w0 w' → (∀ k, B k → B' k) → (∀ k, w.heap.size ≤ k → k < w'.heap.size → B' k) → (∀ k, B' k → k < w'.heap.size) → Good P B' w' γ0 nt Q (nx0 g (norm r))) : Good P B w0 γ0 nt Q g := by
  unfold hdCall at h
  split at h
  · cases h
  rename_i o ho
  refine good_opA ho (fun γ a w K QQ hle hf hr hb hdst hdlt hK => ?_)
  have hok := hf.ok (P := P) (B := B) (G := 0) hr.glob o.op.operands.toList
  obtain ⟨fn, code, hfn, hbd⟩ := bodied_true hbod
  obtain ⟨vs, hl, hrun⟩ := callOf_ok hok h
  obtain rfl := closeLL_eq hx hl
  unfold Oper.wp
  rw [hrun, enter_ok cx.hn hfn hbd]
  refine (hc w hb).mono fun e w' hR => ?_
  obtain ⟨r, rfl, h1, h2⟩ := hR
  have hk : Keep (fun k => B k ∧ ¬ F k) w0 w' := (hb.mono fun k h => h.1).trans (h2.mono fun k h => ⟨hr.base k h.1, h.2⟩)
  have hnF : ∀ b blk p, g.s.h.get b = some blk → γ b = some p → ¬ F p.1 := fun b blk p hb1 hp hFp => by
    obtain ⟨q, hq, hbr⟩ := hr.live b blk hb1
    rw [hp] at hq
    injection hq with hq
    subst hq
    exact blkOwned_ok (trAll_get hown _ _ hb1) hbr (hFB _ hFp)
  have hr' : HR B P.globals.size γ g.s.h g.s.c w' := ⟨fun b blk hb1 => by
    obtain ⟨p, hp, hbr⟩ := hr.live b blk hb1
    exact ⟨p, hp, hbr.kept (h2.block _ ⟨hbr.lt, hnF b blk p hb1 hp⟩)⟩, hr.inj, hr.fresh, hr.glob, fun k h => Nat.lt_of_lt_of_le (hr.base k h) h2.size⟩
  refine hK _ _ ?_
  -- what stays from here on
  have hlt : ∀ {b blk k N}, g.s.h.get b = some blk → γ b = some (k, N) → k < w.heap.size := by
    intro b blk k N hb1 hγ
    obtain ⟨p, hp, hbr⟩ := hr.live b blk hb1
    rw [hγ] at hp
    injection hp with hp
    subst hp
    exact hbr.lt
  have hg' := hg w r w' (fun k => B k ∨ (k < w'.heap.size ∧ ∀ b blk N, g.s.h.get b = some blk → γ b ≠ some (k, N))) hb h1 h2 hk (fun k => .inl)
    (fun k h3 h4 => .inr ⟨h4, fun b blk N hb1 hγ => by have := hlt hb1 hγ; omega⟩)
    (fun k hkk => hkk.elim (fun h3 => hr'.base k h3) (fun h3 => h3.1))
  have hB : ∀ b blk p, g.s.h.get b = some blk → γ b = some p → ¬ B p.1 → ¬ (B p.1 ∨ (p.1 < w'.heap.size ∧ ∀ b blk N, g.s.h.get b = some blk → γ b ≠ some (p.1, N))) := by
    intro b blk p hb1 hγ hnB hor
    rcases hor with h3 | h3
    · exact hnB h3
    · exact h3.2 b blk p.2 hb1 hγ
  have key1 : FR γ nt (nx0 g (norm r)).s.T (nx0 g (norm r)).s.ds (a.put o.dst r) := by
    have hf' := hf.put (dst := o.dst) (av := norm r) (v := r) (T' := putD o.dst g.s.T (norm r)) (Gm.le.refl γ) (norm_VR r) (by
      unfold tput putD
      cases hd : o.dst with
      | none => rfl
      | some d =>
        have : Nat.blt d nt = true := Nat.ble_eq_true_of_le (hdlt d hd)
        simp only [this])
    have e : (nx0 g (norm r)).s.T = putD o.dst g.s.T (norm r) ∧ (nx0 g (norm r)).s.ds = g.s.ds := by
      rw [← hdst]
      obtain ⟨k, s⟩ := g
      unfold nx0 nx dstOf putD
      unfold hdOp at ho
      simp only at ho
      split at ho <;> first | (cases ho; done) | skip
      exact ⟨rfl, rfl⟩
    rw [e.1, e.2]
    exact hf'
  have key2 : HR (fun k => B k ∨ (k < w'.heap.size ∧ ∀ b blk N, g.s.h.get b = some blk → γ b ≠ some (k, N))) P.globals.size γ (nx0 g (norm r)).s.h (nx0 g (norm r)).s.c w' := by
    have e : (nx0 g (norm r)).s.h = g.s.h ∧ (nx0 g (norm r)).s.c = g.s.c := by
      obtain ⟨k, s⟩ := g
      unfold nx0 nx
      unfold hdOp at ho
      simp only at ho
      split at ho <;> first | (cases ho; done) | skip
      exact ⟨rfl, rfl⟩
    rw [e.1, e.2]
    refine ⟨fun b blk hb1 => ?_, hr'.inj, hr'.fresh, hr'.glob, fun k hkk => hkk.elim (fun h3 => hr'.base k h3) (fun h3 => h3.1)⟩
    obtain ⟨p, hp, hbr⟩ := hr'.live b blk hb1
    refine ⟨p, hp, ?_⟩
    have hBp := hB b blk p hb1 hp
    cases blk with
    | cells ty own clean ex lim cs =>
      obtain ⟨h0, h5⟩ := hbr
      exact ⟨fun ho => hBp (h0 ho), h5⟩
    | map es clock =>
      obtain ⟨h0, h5⟩ := hbr
      exact ⟨hBp h0, h5⟩
    | row e xs =>
      obtain ⟨h0, h5⟩ := hbr
      exact ⟨hBp h0, h5⟩
  have hfin := hg'.out γ (a.put o.dst r) w' hle key1 key2 (Keep.refl _ _)
  have e : (nx0 g (norm r)).k = restK g := by
    obtain ⟨k, s⟩ := g
    unfold nx0 nx restK
    unfold hdOp at ho
    simp only at ho
    split at ho <;> first | (cases ho; done) | skip
    rfl
  rw [e] at hfin
  exact hfin
def hdStore (P : Program) (nt : Nat) (g : Cfg) : Option (TypeId × AV × AV) := match hdOp P nt g with
  | none => none
  | some o => match o.op with
    | .store t x y => match aev P g.s.T x, aev P g.s.T y with
      | some a, some b => some (t, a, b)
      | _, _ => none
    | _ => none
/-- a store into blocks that stay -/
theorem good_storeW (t : TypeId) (x y : Value) (F : Nat → Prop) {Pr : World → World → Prop} (h : hdStore P nt g = some (t, .v x, .v y)) (hown : trAll blkOwned g.s.h = true) (hFB : ∀ k, F k → B k)
    (hc : ∀ w, Keep B w0 w → ∃ w', (Instr.storeAt t x y).run P w = .ok () w' ∧ Pr w w' ∧ Keep (fun k => k < w.heap.size ∧ ¬ F k) w w')
    (hg : ∀ w w' B', Keep B w0 w → Pr w w' → Keep (fun k => k < w.heap.size ∧ ¬ F k) w w' → Keep (fun k => B k ∧ ¬ F k) w0 w' → (∀ k, B k → B' k) → (∀ k, B' k → k < w'.heap.size) → Good P B' w' γ0 nt Q (nx0 g (norm undef))) : Good P B w0 γ0 nt Q g := by
  have hg : ∀ w r w' B', Keep B w0 w → r = undef ∧ Pr w w' → Keep (fun k => k < w.heap.size ∧ ¬ F k) w w' → Keep (fun k => B k ∧ ¬ F k) w0 w' → (∀ k, B k → B' k) → (∀ k, w.heap.size ≤ k → k < w'.heap.size → B' k) → (∀ k, B' k → k < w'.heap.size) → Good P B' w' γ0 nt Q (nx0 g (norm r)) :=
    fun w r w' B' h1 h2 h3 h4 h5 _ h7 => by rw [h2.1]; exact hg w w' B' h1 h2.2 h3 h4 h5 h7
  unfold hdStore at h
  split at h
  · cases h
  rename_i o ho
  split at h <;> first | (cases h; done) | skip
  rename_i t' x1 y1 hop
  split at h <;> first | (cases h; done) | skip
  rename_i aS aX hs hx
  injection h with h
  injection h with e1 h
  injection h with e2 e3
  subst e1 e2 e3
  refine good_opA ho (fun γ a w K QQ hle hf hr hb hdst hdlt hK => ?_)
  have hok := hf.ok (P := P) (B := B) (G := 0) hr.glob o.op.operands.toList
  have hmem : o.op.operands.toList = [x1, y1] := by rw [hop]; simp [Op.operands]
  have hs' := hok x1 (by simp [hmem]) _ hs
  have hx' := hok y1 (by simp [hmem]) _ hx
  have es : a.eval x1 = x := by generalize a.eval x1 = q at hs'; cases hs'; rfl
  have ex : a.eval y1 = y := by generalize a.eval y1 = q at hx'; cases hx'; rfl
  obtain ⟨w', hrun, h1', h2⟩ := hc w hb
  obtain ⟨r, hr0⟩ : ∃ r, r = undef := ⟨_, rfl⟩
  have h1 : r = undef ∧ Pr w w' := ⟨hr0, h1'⟩
  have hopr : (execOp a.eval o).run P w = .ok .skip w' := by
    unfold execOp
    simp only [hop, es, ex, Sem.run_bind, Sem.run_pure, Result.andThen_ok, hrun]
  refine wp_skip' hopr ?_
  rw [← hr0]
  have hk : Keep (fun k => B k ∧ ¬ F k) w0 w' := (hb.mono fun k h => h.1).trans (h2.mono fun k h => ⟨hr.base k h.1, h.2⟩)
  have hnF : ∀ b blk p, g.s.h.get b = some blk → γ b = some p → ¬ F p.1 := fun b blk p hb1 hp hFp => by
    obtain ⟨q, hq, hbr⟩ := hr.live b blk hb1
    rw [hp] at hq
    injection hq with hq
    subst hq
    exact blkOwned_ok (trAll_get hown _ _ hb1) hbr (hFB _ hFp)
  have hr' : HR B P.globals.size γ g.s.h g.s.c w' := ⟨fun b blk hb1 => by
    obtain ⟨p, hp, hbr⟩ := hr.live b blk hb1
    exact ⟨p, hp, hbr.kept (h2.block _ ⟨hbr.lt, hnF b blk p hb1 hp⟩)⟩, hr.inj, hr.fresh, hr.glob, fun k h => Nat.lt_of_lt_of_le (hr.base k h) h2.size⟩
  refine hK _ _ ?_
  -- what stays from here on
  have hlt : ∀ {b blk k N}, g.s.h.get b = some blk → γ b = some (k, N) → k < w.heap.size := by
    intro b blk k N hb1 hγ
    obtain ⟨p, hp, hbr⟩ := hr.live b blk hb1
    rw [hγ] at hp
    injection hp with hp
    subst hp
    exact hbr.lt
  have hg' := hg w r w' (fun k => B k ∨ (k < w'.heap.size ∧ ∀ b blk N, g.s.h.get b = some blk → γ b ≠ some (k, N))) hb h1 h2 hk (fun k => .inl)
    (fun k h3 h4 => .inr ⟨h4, fun b blk N hb1 hγ => by have := hlt hb1 hγ; omega⟩)
    (fun k hkk => hkk.elim (fun h3 => hr'.base k h3) (fun h3 => h3.1))
  have hB : ∀ b blk p, g.s.h.get b = some blk → γ b = some p → ¬ B p.1 → ¬ (B p.1 ∨ (p.1 < w'.heap.size ∧ ∀ b blk N, g.s.h.get b = some blk → γ b ≠ some (p.1, N))) := by
    intro b blk p hb1 hγ hnB hor
    rcases hor with h3 | h3
    · exact hnB h3
    · exact h3.2 b blk p.2 hb1 hγ
  have key1 : FR γ nt (nx0 g (norm r)).s.T (nx0 g (norm r)).s.ds (a.put o.dst r) := by
    have hf' := hf.put (dst := o.dst) (av := norm r) (v := r) (T' := putD o.dst g.s.T (norm r)) (Gm.le.refl γ) (norm_VR r) (by
      unfold tput putD
      cases hd : o.dst with
      | none => rfl
      | some d =>
        have : Nat.blt d nt = true := Nat.ble_eq_true_of_le (hdlt d hd)
        simp only [this])
    have e : (nx0 g (norm r)).s.T = putD o.dst g.s.T (norm r) ∧ (nx0 g (norm r)).s.ds = g.s.ds := by
      rw [← hdst]
      obtain ⟨k, s⟩ := g
      unfold nx0 nx dstOf putD
      unfold hdOp at ho
      simp only at ho
      split at ho <;> first | (cases ho; done) | skip
      exact ⟨rfl, rfl⟩
    rw [e.1, e.2]
    exact hf'
  have key2 : HR (fun k => B k ∨ (k < w'.heap.size ∧ ∀ b blk N, g.s.h.get b = some blk → γ b ≠ some (k, N))) P.globals.size γ (nx0 g (norm r)).s.h (nx0 g (norm r)).s.c w' := by
    have e : (nx0 g (norm r)).s.h = g.s.h ∧ (nx0 g (norm r)).s.c = g.s.c := by
      obtain ⟨k, s⟩ := g
      unfold nx0 nx
      unfold hdOp at ho
      simp only at ho
      split at ho <;> first | (cases ho; done) | skip
      exact ⟨rfl, rfl⟩
    rw [e.1, e.2]
    refine ⟨fun b blk hb1 => ?_, hr'.inj, hr'.fresh, hr'.glob, fun k hkk => hkk.elim (fun h3 => hr'.base k h3) (fun h3 => h3.1)⟩
    obtain ⟨p, hp, hbr⟩ := hr'.live b blk hb1
    refine ⟨p, hp, ?_⟩
    have hBp := hB b blk p hb1 hp
    cases blk with
    | cells ty own clean ex lim cs =>
      obtain ⟨h0, h5⟩ := hbr
      exact ⟨fun ho => hBp (h0 ho), h5⟩
    | map es clock =>
      obtain ⟨h0, h5⟩ := hbr
      exact ⟨hBp h0, h5⟩
    | row e xs =>
      obtain ⟨h0, h5⟩ := hbr
      exact ⟨hBp h0, h5⟩
  have hfin := hg'.out γ (a.put o.dst r) w' hle key1 key2 (Keep.refl _ _)
  have e : (nx0 g (norm r)).k = restK g := by
    obtain ⟨k, s⟩ := g
    unfold nx0 nx restK
    unfold hdOp at ho
    simp only at ho
    split at ho <;> first | (cases ho; done) | skip
    rfl
  rw [e] at hfin
  exact hfin
end
end Go.Sy
end
end

section
/- Writing over trees: cells that turn into cells of the like kind; weak trees. No conditions but those in each theorem. -/
namespace Go.Proofs.YtiacalnkmnckjaaGreatDoor
open Go.RowKit Go.As
set_option linter.unusedVariables false
set_option linter.unusedSimpArgs false

/-- a cell that stays, or turns into one of its kind; a string grows by at most m bytes -/
def KV (m : Nat) (v v' : Value) : Prop := v = v' ∨ (∃ a b, v = .int .u8 a ∧ v' = .int .u8 b) ∨ (∃ a b, v = .int .i64 a ∧ v' = .int .i64 b) ∨ (∃ s t : ByteArray, v = .string s ∧ v' = .string t ∧ t.size ≤ s.size + m)
theorem KV.refl (v : Value) : KV 0 v v := .inl rfl
theorem KV.mono {m m' : Nat} {v v' : Value} (h : KV m v v') (hm : m ≤ m') : KV m' v v' := by
  rcases h with h | h | h | ⟨s, t, h1, h2, h3⟩
  · exact .inl h
  · exact .inr (.inl h)
  · exact .inr (.inr (.inl h))
  · exact .inr (.inr (.inr ⟨s, t, h1, h2, by omega⟩))
theorem KV.trans {m m' : Nat} {u v x : Value} (h : KV m u v) (h' : KV m' v x) : KV (m + m') u x := by
  rcases h with rfl | ⟨a, b, rfl, rfl⟩ | ⟨a, b, rfl, rfl⟩ | ⟨s, t, rfl, rfl, h3⟩
  · exact h'.mono (by omega)
  · rcases h' with rfl | ⟨c, d, e, rfl⟩ | ⟨c, d, e, rfl⟩ | ⟨s, t, e, rfl, h4⟩
    · exact .inr (.inl ⟨a, b, rfl, rfl⟩)
    · exact .inr (.inl ⟨a, d, rfl, rfl⟩)
    · cases e
    · cases e
  · rcases h' with rfl | ⟨c, d, e, rfl⟩ | ⟨c, d, e, rfl⟩ | ⟨s, t, e, rfl, h4⟩
    · exact .inr (.inr (.inl ⟨a, b, rfl, rfl⟩))
    · cases e
    · exact .inr (.inr (.inl ⟨a, d, rfl, rfl⟩))
    · cases e
  · rcases h' with rfl | ⟨c, d, e, rfl⟩ | ⟨c, d, e, rfl⟩ | ⟨s', t', e, rfl, h4⟩
    · exact .inr (.inr (.inr ⟨s, t, rfl, rfl, by omega⟩))
    · cases e
    · cases e
    · injection e with e
      subst e
      exact .inr (.inr (.inr ⟨s, t', rfl, rfl, by omega⟩))
/-- soft blocks of F turn, cell by cell -/
def TK (F : Nat → Prop) (m : Nat) (w w' : World) : Prop :=
  ∀ k c e, F k → w.heap[k]? = some (.cells c e (0, 0)) → ∃ c' : Array Value, w'.heap[k]? = some (.cells c' e (0, 0)) ∧ c'.size = c.size ∧ ∀ (j : Nat) (v : Value), c[j]? = some v → ∃ v', c'[j]? = some v' ∧ KV m v v'
theorem TK.of_keep {F B : Nat → Prop} {w w' : World} (h : Sy.Keep B w w') (hF : ∀ k, F k → B k) : TK F 0 w w' := fun k c e hk hc => ⟨c, by rw [h.block k (hF k hk)]; exact hc, rfl, fun j v hv => ⟨v, hv, .refl v⟩⟩
theorem TK.mono {F : Nat → Prop} {m m' : Nat} {w w' : World} (h : TK F m w w') (hm : m ≤ m') : TK F m' w w' :=
  fun k c e hF hk => let ⟨c', h1, h2, h3⟩ := h k c e hF hk; ⟨c', h1, h2, fun j v hv => let ⟨v', h4, h5⟩ := h3 j v hv; ⟨v', h4, h5.mono hm⟩⟩
theorem TK.trans {F : Nat → Prop} {m m' : Nat} {w w1 w2 : World} (h : TK F m w w1) (h' : TK F m' w1 w2) : TK F (m + m') w w2 := by
  intro k c e hF hk
  obtain ⟨c1, h1, h2, h3⟩ := h k c e hF hk
  obtain ⟨c2, h4, h5, h6⟩ := h' k c1 e hF h1
  refine ⟨c2, h4, by omega, fun j v hv => ?_⟩
  obtain ⟨v1, h7, h8⟩ := h3 j v hv
  obtain ⟨v2, h9, h10⟩ := h6 j v1 h7
  exact ⟨v2, h9, h8.trans h10⟩
theorem TK.soft {F : Nat → Prop} {m : Nat} {w w' : World} (h : TK F m w w') (hF : ∀ k, F k → Soft w k) : ∀ k, F k → Soft w' k := fun k hk => by
  obtain ⟨c, e, hc⟩ := hF k hk
  obtain ⟨c', h1, _⟩ := h k c e hk hc
  exact ⟨c', e, h1⟩
/-- soft blocks of F turn, cell by cell; all others stay -/
structure SK (F : Nat → Prop) (m : Nat) (w w' : World) : Prop where
  keep : Sy.Keep (fun k => k < w.heap.size ∧ ¬ F k) w w'
  turn : TK F m w w'
theorem SK.refl (F : Nat → Prop) (w : World) : SK F 0 w w := ⟨Sy.Keep.refl _ _, fun k c e _ h => ⟨c, h, rfl, fun j v hv => ⟨v, hv, .refl v⟩⟩⟩
theorem SK.mono {F : Nat → Prop} {m m' : Nat} {w w' : World} (h : SK F m w w') (hm : m ≤ m') : SK F m' w w' := ⟨h.keep, h.turn.mono hm⟩
def KVs (m : Nat) (xs xs' : List Value) : Prop := xs'.length = xs.length ∧ ∀ (j : Nat) (v : Value), xs[j]? = some v → ∃ v', xs'[j]? = some v' ∧ KV m v v'
theorem SlAt_turn {F : Nat → Prop} {m : Nat} {w w' : World} {a : Option Addr} {n sz : Nat} {xs : List Value} (hF : ∀ k, F k → Soft w k) (h : Sy.SlAt F w a n sz xs) (hk : TK F m w w') : ∃ xs', Sy.SlAt F w' a n sz xs' ∧ KVs m xs xs' := by
  rcases h.place with h0 | ⟨ha, hFa, hc⟩
  · have : xs = [] := List.eq_nil_of_length_eq_zero (by rw [h.len, h0, Nat.zero_mul])
    subst this
    exact ⟨[], ⟨h.len, .inl h0⟩, rfl, fun j v hv => by simp at hv⟩
  · obtain ⟨c, e, hce⟩ := hF _ hFa
    obtain ⟨c', h1, h2, h3⟩ := hk _ c e hFa hce
    have hold : ∀ j v, xs[j]? = some v → c[Sy.oB a + j]? = some v := fun j v hv => by
      have := hc j v hv
      simp only [World.cell?] at this
      rw [hce] at this
      simpa using this
    have key : ∀ j v, xs[j]? = some v → ∃ v', c'[Sy.oB a + j]? = some v' ∧ KV m v v' := fun j v hv => h3 _ v (hold j v hv)
    have hlen : xs = [] ∨ Sy.oB a + xs.length ≤ c.size := by
      cases hx : xs.length with
      | zero => exact .inl (List.eq_nil_of_length_eq_zero hx)
      | succ q =>
        have hq : q < xs.length := by omega
        have := hold q xs[q] (List.getElem?_eq_getElem hq)
        have := (Array.getElem?_eq_some_iff.1 this).1
        exact .inr (by omega)
    obtain ⟨xs', hx'⟩ : ∃ l : List Value, l = (c'.toList.drop (Sy.oB a)).take xs.length := ⟨_, rfl⟩
    have hget : ∀ j, j < xs.length → xs'[j]? = c'[Sy.oB a + j]? := fun j hj => by
      rw [hx', List.getElem?_take, if_pos hj, List.getElem?_drop]
      simp
    have hl' : xs'.length = xs.length := by
      have e1 : c'.toList.length = c.size := by rw [← h2]; exact Array.length_toList
      rw [hx', List.length_take, List.length_drop, e1]
      rcases hlen with h | h
      · rw [h]; simp
      · omega
    refine ⟨xs', ⟨by rw [hl']; exact h.len, .inr ⟨ha, hFa, fun j v hv => ?_⟩⟩, hl', fun j v hv => ?_⟩
    · have hj := (List.getElem?_eq_some_iff.1 hv).1
      rw [hget j (by omega)] at hv
      simp only [World.cell?]
      rw [h1]
      simpa using hv
    · have hj := (List.getElem?_eq_some_iff.1 hv).1
      obtain ⟨v', h5, h6⟩ := key j v hv
      exact ⟨v', by rw [hget j hj]; exact h5, h6⟩
mutual
/-- weak trees: the numbers may be any, the strings of at most M bytes -/
def WE (F : Nat → Prop) (w : World) (M : Nat) : Ex → List Value → Prop
  | .mk _ _ _ _ kids, cs => ∃ op ty bits, ∃ s : ByteArray, ∃ a cap xs, cs = [.int .u8 op, .int .u8 ty, .int .u64 bits, .string s, .slice a kids.length cap] ∧ s.size ≤ M ∧ Sy.SlAt F w a kids.length 5 xs ∧ WEs F w M kids xs
def WEs (F : Nat → Prop) (w : World) (M : Nat) : List Ex → List Value → Prop
  | [], xs => xs = []
  | e :: l, xs => ∃ c r, xs = c ++ r ∧ WE F w M e c ∧ WEs F w M l r
end
theorem KV.u8 {m : Nat} {a : Int} {v : Value} (h : KV m (.int .u8 a) v) : ∃ b, v = .int .u8 b := by
  rcases h with rfl | ⟨a, b, e, rfl⟩ | ⟨a, b, e, rfl⟩ | ⟨s, t, e, rfl, _⟩
  · exact ⟨_, rfl⟩
  · exact ⟨_, rfl⟩
  · cases e
  · cases e
theorem KV.i64 {m : Nat} {a : Int} {v : Value} (h : KV m (.int .i64 a) v) : ∃ b, v = .int .i64 b := by
  rcases h with rfl | ⟨a, b, e, rfl⟩ | ⟨a, b, e, rfl⟩ | ⟨s, t, e, rfl, _⟩
  · exact ⟨_, rfl⟩
  · cases e
  · exact ⟨_, rfl⟩
  · cases e
theorem KV.u64 {m : Nat} {a : Int} {v : Value} (h : KV m (.int .u64 a) v) : v = .int .u64 a := by
  rcases h with rfl | ⟨a, b, e, rfl⟩ | ⟨a, b, e, rfl⟩ | ⟨s, t, e, rfl, _⟩
  · rfl
  · cases e
  · cases e
  · cases e
theorem KV.sl {m : Nat} {a : Option Addr} {n c : Nat} {v : Value} (h : KV m (.slice a n c) v) : v = .slice a n c := by
  rcases h with rfl | ⟨a, b, e, rfl⟩ | ⟨a, b, e, rfl⟩ | ⟨s, t, e, rfl, _⟩
  · rfl
  · cases e
  · cases e
  · cases e
theorem KV.str {m : Nat} {s : ByteArray} {v : Value} (h : KV m (.string s) v) : ∃ t : ByteArray, v = .string t ∧ t.size ≤ s.size + m := by
  rcases h with rfl | ⟨a, b, e, rfl⟩ | ⟨a, b, e, rfl⟩ | ⟨s, t, e, rfl, h⟩
  · exact ⟨_, rfl, by omega⟩
  · cases e
  · cases e
  · injection e with e; subst e; exact ⟨_, rfl, h⟩
theorem KVs.app {m : Nat} {c r x : List Value} (h : KVs m (c ++ r) x) : ∃ c' r', x = c' ++ r' ∧ KVs m c c' ∧ KVs m r r' := by
  obtain ⟨hl, h⟩ := h
  rw [List.length_append] at hl
  refine ⟨x.take c.length, x.drop c.length, (List.take_append_drop _ _).symm, ⟨by rw [List.length_take]; omega, fun j v hv => ?_⟩, ⟨by rw [List.length_drop]; omega, fun j v hv => ?_⟩⟩
  · have hj := (List.getElem?_eq_some_iff.1 hv).1
    obtain ⟨v', h1, h2⟩ := h j v (by rw [List.getElem?_append_left hj]; exact hv)
    exact ⟨v', by rw [List.getElem?_take, if_pos hj]; exact h1, h2⟩
  · obtain ⟨v', h1, h2⟩ := h (c.length + j) v (by rw [List.getElem?_append_right (by omega)]; simpa using hv)
    exact ⟨v', by rw [List.getElem?_drop]; exact h1, h2⟩
theorem KVs.cons {m : Nat} {v : Value} {r x : List Value} (h : KVs m (v :: r) x) : ∃ v' r', x = v' :: r' ∧ KV m v v' ∧ KVs m r r' := by
  obtain ⟨c', r', rfl, ⟨h1, h2⟩, h3⟩ := KVs.app (c := [v]) (r := r) h
  match c', h1 with
  | [v'], _ =>
    obtain ⟨v2, h4, h5⟩ := h2 0 v rfl
    simp only [List.getElem?_cons_zero, Option.some.injEq] at h4
    subst h4
    exact ⟨v', r', rfl, h5, h3⟩
theorem KVs.nil {m : Nat} {x : List Value} (h : KVs m [] x) : x = [] := List.eq_nil_of_length_eq_zero h.1
mutual
theorem WE_turn {F : Nat → Prop} {m M : Nat} {w w' : World} (hF : ∀ k, F k → Soft w k) (hk : TK F m w w') : ∀ {e : Ex} {cs cs' : List Value}, WE F w M e cs → KVs m cs cs' → WE F w' (M + m) e cs'
  | .mk _ _ _ _ kids, cs, cs', h, hv => by
    simp only [WE] at h ⊢
    obtain ⟨op, ty, bits, s, a, cap, xs, rfl, hM, hsl, hks⟩ := h
    obtain ⟨v1, r1, rfl, k1, hv⟩ := hv.cons
    obtain ⟨v2, r2, rfl, k2, hv⟩ := hv.cons
    obtain ⟨v3, r3, rfl, k3, hv⟩ := hv.cons
    obtain ⟨v4, r4, rfl, k4, hv⟩ := hv.cons
    obtain ⟨v5, r5, rfl, k5, hv⟩ := hv.cons
    obtain rfl := hv.nil
    obtain ⟨op', rfl⟩ := k1.u8
    obtain ⟨ty', rfl⟩ := k2.u8
    obtain rfl := k3.u64
    obtain ⟨t, rfl, ht⟩ := k4.str
    obtain rfl := k5.sl
    obtain ⟨xs', h1, h2⟩ := SlAt_turn hF hsl hk
    exact ⟨op', ty', bits, t, a, cap, xs', rfl, by omega, h1, WEs_turn hF hk hks h2⟩
theorem WEs_turn {F : Nat → Prop} {m M : Nat} {w w' : World} (hF : ∀ k, F k → Soft w k) (hk : TK F m w w') : ∀ {l : List Ex} {xs xs' : List Value}, WEs F w M l xs → KVs m xs xs' → WEs F w' (M + m) l xs'
  | [], xs, xs', h, hv => by
    simp only [WEs] at h ⊢
    subst h
    exact hv.nil
  | e :: l, xs, xs', h, hv => by
    simp only [WEs] at h ⊢
    obtain ⟨c, r, rfl, h1, h2⟩ := h
    obtain ⟨c', r', rfl, k1, k2⟩ := hv.app
    exact ⟨c', r', rfl, WE_turn hF hk h1 k1, WEs_turn hF hk h2 k2⟩
end
theorem store_soft {P : Program} {ty : TypeId} (hz : Sy.szB P ty = some 1) {w : World} {b o : Nat} {c : Array Value} {e : TypeId} (hb : w.heap[b]? = some (.cells c e (0, 0))) (ho : o < c.size) {v : Value} (hv : v.cells = #[v]) (h1 : v.oneCell' = true) :
    (Instr.storeAt ty (.pointer (some ⟨b, o, none⟩)) v).run P w = .ok () (w.setRow b (c.toList.take o ++ [v] ++ c.toList.drop (o + 1)).toArray) := by
  have hst := run_storeCells_at (P := P) b o e [v] 0 c w hb (by simp only [List.length_cons, List.length_nil]; omega) (by simpa using h1)
  simp only [Nat.add_zero, List.length_cons, List.length_nil, Nat.zero_add] at hst
  simp [Instr.storeAt, Instr.sureAddr, storeVar, Sy.szB_ok hz, hv, hst]
theorem SK.store {F : Nat → Prop} {m : Nat} {w : World} {b o : Nat} {c : Array Value} {e : TypeId} (hF : F b) (hb : w.heap[b]? = some (.cells c e (0, 0))) {old v : Value} (ho : c[o]? = some old) (hv : KV m old v) :
    SK F m w (w.setRow b (c.toList.take o ++ [v] ++ c.toList.drop (o + 1)).toArray) := by
  have hlt := (Array.getElem?_eq_some_iff.1 ho).1
  have hcl : c.toList.length = c.size := Array.length_toList
  refine ⟨⟨rfl, rfl, rfl, by simp, fun k hk => setRow_other _ _ _ _ (fun e => hk.2 (e ▸ hF))⟩, fun k c1 e1 hFk hk => ?_⟩
  by_cases hkb : k = b
  · subst hkb
    rw [hb] at hk
    injection hk with hk
    injection hk with h1 h2
    subst h1 h2
    refine ⟨_, setRow_heap _ _ _ _ _ _ hb, ?_, fun j x hx => ?_⟩
    · simp only [List.size_toArray, List.length_append, List.length_take, List.length_drop, List.length_cons, List.length_nil]
      omega
    · have hj := (Array.getElem?_eq_some_iff.1 hx).1
      simp only [List.getElem?_toArray]
      by_cases hjo : j = o
      · subst hjo
        rw [ho] at hx
        injection hx with hx
        subst hx
        refine ⟨v, ?_, hv⟩
        rw [List.append_assoc, List.getElem?_append_right (by rw [List.length_take]; omega)]
        simp [List.length_take, Nat.min_eq_left (Nat.le_of_lt hlt)]
      · refine ⟨x, ?_, .inl rfl⟩
        rcases Nat.lt_or_ge j o with h | h
        · rw [List.append_assoc, List.getElem?_append_left (by rw [List.length_take]; omega), List.getElem?_take, if_pos h]
          simpa using hx
        · rw [List.getElem?_append_right (by simp only [List.length_append, List.length_take, List.length_cons, List.length_nil]; omega), List.getElem?_drop]
          simp only [List.length_append, List.length_take, List.length_cons, List.length_nil]
          rw [show o + 1 + (j - (min o c.toList.length + (0 + 1))) = j by omega]
          simpa using hx
  · exact ⟨c1, by rw [setRow_other _ _ _ _ hkb]; exact hk, rfl, fun j x hx => ⟨x, hx, .inl rfl⟩⟩
end Go.Proofs.YtiacalnkmnckjaaGreatDoor
end

section
/- The reckoner: builtin functions that turn blocks that stay, or make memory; the beginning with some blocks that stay. Any program; the conditions are in each theorem. -/
noncomputable section
namespace Go.Sy
open Go Go.RowKit
set_option linter.unusedVariables false
set_option linter.unusedSimpArgs false

section
variable {P : Program} {I : Aux} {B : Nat → Prop} {w0 : World} {γ0 : Gm} {nt : Nat} {Q : Exit → Act → World → Prop} {g : Cfg}
/-- behind an operation that turned the blocks F, of those that stay, and made memory -/
theorem turnW {o : Oper} (ho : hdOp P nt g = some o) (F : Nat → Prop) (hown : trAll blkOwned g.s.h = true) (hFB : ∀ k, F k → B k) {γ : Gm} {a : Act} {w w' : World} {r : Value}
    (hle : Gm.le γ0 γ) (hf : FR γ nt g.s.T g.s.ds a) (hr : HR B P.globals.size γ g.s.h g.s.c w) (hb : Keep B w0 w) (hdst : dstOf g = o.dst) (hdlt : ∀ d, o.dst = some d → d < nt) (h2 : Keep (fun k => k < w.heap.size ∧ ¬ F k) w w')
    (hg : ∀ B', Keep (fun k => B k ∧ ¬ F k) w0 w' → (∀ k, B k → B' k) → (∀ k, w.heap.size ≤ k → k < w'.heap.size → B' k) → (∀ k, B' k → k < w'.heap.size) → Good P B' w' γ0 nt Q (nx0 g (norm r))) :
    after P Q (restK g) .normal (a.put o.dst r) w' := by
  have hk : Keep (fun k => B k ∧ ¬ F k) w0 w' := (hb.mono fun k h => h.1).trans (h2.mono fun k h => ⟨hr.base k h.1, h.2⟩)
  have hnF : ∀ b blk p, g.s.h.get b = some blk → γ b = some p → ¬ F p.1 := fun b blk p hb1 hp hFp => by
    obtain ⟨q, hq, hbr⟩ := hr.live b blk hb1
    rw [hp] at hq
    injection hq with hq
    subst hq
    exact blkOwned_ok (trAll_get hown _ _ hb1) hbr (hFB _ hFp)
  have hr' : HR B P.globals.size γ g.s.h g.s.c w' := ⟨fun b blk hb1 => by
    obtain ⟨p, hp, hbr⟩ := hr.live b blk hb1
    exact ⟨p, hp, hbr.kept (h2.block _ ⟨hbr.lt, hnF b blk p hb1 hp⟩)⟩, hr.inj, hr.fresh, hr.glob, fun k h => Nat.lt_of_lt_of_le (hr.base k h) h2.size⟩
  -- what stays from here on
  have hlt : ∀ {b blk k N}, g.s.h.get b = some blk → γ b = some (k, N) → k < w.heap.size := by
    intro b blk k N hb1 hγ
    obtain ⟨p, hp, hbr⟩ := hr.live b blk hb1
    rw [hγ] at hp
    injection hp with hp
    subst hp
    exact hbr.lt
  have hg' := hg (fun k => B k ∨ (k < w'.heap.size ∧ ∀ b blk N, g.s.h.get b = some blk → γ b ≠ some (k, N))) hk (fun k => .inl)
    (fun k h3 h4 => .inr ⟨h4, fun b blk N hb1 hγ => by have := hlt hb1 hγ; omega⟩)
    (fun k hkk => hkk.elim (fun h3 => hr'.base k h3) (fun h3 => h3.1))
  have hB : ∀ b blk p, g.s.h.get b = some blk → γ b = some p → ¬ B p.1 → ¬ (B p.1 ∨ (p.1 < w'.heap.size ∧ ∀ b blk N, g.s.h.get b = some blk → γ b ≠ some (p.1, N))) := by
    intro b blk p hb1 hγ hnB hor
    rcases hor with h3 | h3
    · exact hnB h3
    · exact h3.2 b blk p.2 hb1 hγ
  have key1 : FR γ nt (nx0 g (norm r)).s.T (nx0 g (norm r)).s.ds (a.put o.dst r) := by
    have hf' := hf.put (dst := o.dst) (av := norm r) (v := r) (T' := putD o.dst g.s.T (norm r)) (Gm.le.refl γ) (norm_VR r) (by
      unfold tput putD
      cases hd : o.dst with
      | none => rfl
      | some d =>
        have : Nat.blt d nt = true := Nat.ble_eq_true_of_le (hdlt d hd)
        simp only [this])
    have e : (nx0 g (norm r)).s.T = putD o.dst g.s.T (norm r) ∧ (nx0 g (norm r)).s.ds = g.s.ds := by
      rw [← hdst]
      obtain ⟨k, s⟩ := g
      unfold nx0 nx dstOf putD
      unfold hdOp at ho
      simp only at ho
      split at ho <;> first | (cases ho; done) | skip
      exact ⟨rfl, rfl⟩
    rw [e.1, e.2]
    exact hf'
  have key2 : HR (fun k => B k ∨ (k < w'.heap.size ∧ ∀ b blk N, g.s.h.get b = some blk → γ b ≠ some (k, N))) P.globals.size γ (nx0 g (norm r)).s.h (nx0 g (norm r)).s.c w' := by
    have e : (nx0 g (norm r)).s.h = g.s.h ∧ (nx0 g (norm r)).s.c = g.s.c := by
      obtain ⟨k, s⟩ := g
      unfold nx0 nx
      unfold hdOp at ho
      simp only at ho
      split at ho <;> first | (cases ho; done) | skip
      exact ⟨rfl, rfl⟩
    rw [e.1, e.2]
    refine ⟨fun b blk hb1 => ?_, hr'.inj, hr'.fresh, hr'.glob, fun k hkk => hkk.elim (fun h3 => hr'.base k h3) (fun h3 => h3.1)⟩
    obtain ⟨p, hp, hbr⟩ := hr'.live b blk hb1
    refine ⟨p, hp, ?_⟩
    have hBp := hB b blk p hb1 hp
    cases blk with
    | cells ty own clean ex lim cs =>
      obtain ⟨h0, h5⟩ := hbr
      exact ⟨fun ho => hBp (h0 ho), h5⟩
    | map es clock =>
      obtain ⟨h0, h5⟩ := hbr
      exact ⟨hBp h0, h5⟩
    | row e xs =>
      obtain ⟨h0, h5⟩ := hbr
      exact ⟨hBp h0, h5⟩
  have hfin := hg'.out γ (a.put o.dst r) w' hle key1 key2 (Keep.refl _ _)
  have e : (nx0 g (norm r)).k = restK g := by
    obtain ⟨k, s⟩ := g
    unfold nx0 nx restK
    unfold hdOp at ho
    simp only at ho
    split at ho <;> first | (cases ho; done) | skip
    rfl
  rw [e] at hfin
  exact hfin
/-- a builtin function at the head, of two plain values -/
def hdBi (P : Program) (nt : Nat) (g : Cfg) : Option (Builtin × List TypeId × List AV) := match hdOp P nt g with
  | none => none
  | some o => match o.op with
    | .call k => match k.callee with
      | .builtin b => match aevs P g.s.T k.args.toList with
        | some l => some (b, k.argTypes.toList, l)
        | none => none
      | _ => none
    | _ => none
theorem allV_eq {γ : Gm} : ∀ {xs vs : List Value}, LR γ (xs.map AV.v) vs → vs = xs
  | [], vs, h => List.eq_nil_of_length_eq_zero (by have := h.1; simpa using this.symm)
  | x :: xs, vs, h => by
    cases vs with
    | nil => have := h.1; simp at this
    | cons v vs =>
      have h0 := h.2 0 (.v x) v rfl rfl
      have ht : LR γ (xs.map AV.v) vs := ⟨by have := h.1; simpa using this, fun i b y h1 h2 => h.2 (i + 1) b y (by simpa using h1) (by simpa using h2)⟩
      rw [allV_eq ht]
      cases h0
      rfl
/-- what a builtin function does, worked out by hand -/
theorem good_biW (b : Builtin) (ts : List TypeId) (xs : List Value) (F : Nat → Prop) {Pr : World → Value → World → Prop} (h : hdBi P nt g = some (b, ts, xs.map AV.v)) (hown : trAll blkOwned g.s.h = true) (hFB : ∀ k, F k → B k)
    (hc : ∀ w, Keep B w0 w → (∀ k, B k → k < w.heap.size) → ∀ ty cs, ∃ r w', (builtin b ts.toArray ty cs xs.toArray).run P w = .ok (.value r) w' ∧ Pr w r w' ∧ Keep (fun k => k < w.heap.size ∧ ¬ F k) w w')
    (hg : ∀ w r w' B', Keep B w0 w → Pr w r w' → Keep (fun k => k < w.heap.size ∧ ¬ F k) w w' → Keep (fun k => B k ∧ ¬ F k) w0 w' → (∀ k, B k → B' k) → (∀ k, w.heap.size ≤ k → k < w'.heap.size → B' k) → (∀ k, B' k → k < w'.heap.size) → Good P B' w' γ0 nt Q (nx0 g (norm r))) : Good P B w0 γ0 nt Q g := by
  unfold hdBi at h
  split at h
  · cases h
  rename_i o ho
  split at h <;> first | (cases h; done) | skip
  rename_i kk hop
  split at h <;> first | (cases h; done) | skip
  rename_i b' hce
  split at h <;> first | (cases h; done) | skip
  rename_i l hl
  injection h with h
  injection h with e1 h
  injection h with e2 e3
  subst e1 e2 e3
  refine good_opA ho (fun γ a w K QQ hle hf hr hb hdst hdlt hK => ?_)
  have hok := hf.ok (P := P) (B := B) (G := 0) hr.glob o.op.operands.toList
  have hlv := aevs_ok (a := a) (fun y hy => hok y (by rw [hop]; simp only [Op.operands, Call.operands, hce]; simpa using hy)) hl
  have hvs := allV_eq hlv
  obtain ⟨r, w', hrun, h1, h2⟩ := hc w hb hr.base o.type (kk.args.map fun | .const _ => true | _ => false)
  have hopr : (execOp a.eval o).run P w = .ok (.value r) w' := by
    unfold execOp
    have e : kk.args.map a.eval = xs.toArray := by
      apply Array.ext'
      simpa using hvs
    have hts : kk.argTypes.toList.toArray = kk.argTypes := by simp
    rw [hts] at hrun
    simp only [hop, resolve, hce, invoke, Sem.run_bind, Sem.run_pure, Result.andThen_ok, e]
    exact hrun
  refine wp_val hopr (hK _ _ ?_)
  exact turnW ho F hown hFB hle hf hr hb hdst hdlt h2 (fun B' h3 h4 h5 h6 => hg w r w' B' hb h1 h2 h3 h4 h5 h6)
def getsV (cs : Tr AV) : Nat → Nat → Option (List Value)
  | _, 0 => some []
  | i, n + 1 => match cs.get i with
    | some (.v x) => match getsV cs (i + 1) n with
      | some r => some (x :: r)
      | none => none
    | _ => none
theorem getsV_get {cs : Tr AV} : ∀ {n i : Nat} {vals : List Value}, getsV cs i n = some vals → vals.length = n ∧ ∀ j x, vals[j]? = some x → cs.get (i + j) = some (.v x)
  | 0, i, vals, h => by
    simp only [getsV, Option.some.injEq] at h
    subst h
    exact ⟨rfl, fun j x hx => by simp at hx⟩
  | n + 1, i, vals, h => by
    simp only [getsV] at h
    split at h <;> first | (cases h; done) | skip
    rename_i x hx
    split at h <;> first | (cases h; done) | skip
    rename_i r hr
    injection h with h
    subst h
    obtain ⟨h1, h2⟩ := getsV_get hr
    refine ⟨by simp [h1], fun j y hy => ?_⟩
    cases j with
    | zero =>
      simp at hy
      subst hy
      exact hx
    | succ j =>
      have := h2 j y (by simpa using hy)
      rw [show i + (j + 1) = i + 1 + j by omega]
      exact this
def giveB : Option Blk → Option (Nat × List Value)
  | some (.cells ty true true true lim cs) => match getsV cs 0 lim with
    | some r => some (ty, r)
    | none => none
  | _ => none
/-- a block of one's own, all plain, is counted among those that stay: from here on its pointer is a plain one -/
theorem good_give (t b : Nat) (ty : Nat) (vals : List Value) (h : g.s.T.get t = some (.ptr b 0)) (hb : giveB (g.s.h.get b) = some (ty, vals))
    (hg : ∀ k w1 B1, Keep B w0 w1 → (∀ j, B j → B1 j) → B1 k → ¬ B k → (∀ j, B1 j → j < w1.heap.size) → w1.heap[k]? = some (.cells vals.toArray ty (0, 0)) →
      Good P B1 w1 γ0 nt Q ⟨g.k, ⟨g.s.T.put t (some (.v (.pointer (some ⟨k, 0, none⟩)))), g.s.h.put b none, g.s.c, g.s.ds⟩⟩) : Good P B w0 γ0 nt Q g := by
  unfold giveB at hb
  split at hb <;> first | (cases hb; done) | skip
  rename_i ty1 lim cs hb1
  split at hb <;> first | (cases hb; done) | skip
  rename_i r hget
  injection hb with hb
  injection hb with e1 e2
  subst e1 e2
  obtain ⟨hlen, hcell⟩ := getsV_get hget
  refine ⟨fun γ a w hle hf hr hk => ?_⟩
  obtain ⟨p, hp, hbr⟩ := hr.live b _ hb1
  obtain ⟨h0, c, ty', fz, h1, h2, h3, h4⟩ := hbr
  obtain ⟨v, hv1, hv2⟩ := hf.tmps _ _ h
  obtain ⟨n, N, rfl, hγ⟩ : ∃ n N, v = .pointer (some ⟨n, 0, none⟩) ∧ γ b = some (n, N) := by
    cases hv2 with
    | ptr h => exact ⟨_, _, rfl, h⟩
  rw [hγ] at hp
  injection hp with hp
  subst hp
  obtain ⟨hfz, hty⟩ := h3.1 rfl
  have hsz := (h3.2 rfl).1
  subst hfz hty
  have hnB := h0 rfl
  have hlt : n < w.heap.size := (Array.getElem?_eq_some_iff.1 h1).1
  have hc : c = r.toArray := by
    apply Array.ext'
    apply List.ext_getElem?
    intro i
    rcases Nat.lt_or_ge i r.length with hi | hi
    · have e1 : r[i]? = some r[i] := List.getElem?_eq_getElem hi
      have e2 := hcell i r[i] e1
      rw [Nat.zero_add] at e2
      obtain ⟨x, hx1, hx2⟩ := h4 i _ (by omega) e2
      cases hx2
      rw [e1]
      simpa using hx1
    · have e1 : c.toList.length = c.size := Array.length_toList
      rw [List.getElem?_eq_none hi, List.getElem?_eq_none (by omega)]
  subst hc
  refine (hg n w (fun j => B j ∨ j = n) hk (fun j => .inl) (.inr rfl) hnB (fun j hj => hj.elim (fun h => hr.base j h) (fun e => by subst e; exact hlt)) h1).out γ a w hle ⟨hf.size, fun t' av ht => ?_, hf.defs⟩ ⟨fun b2 blk2 hb2 => ?_, fun b2 b3 blk2 blk3 p2 p3 h5 h6 g1 g2 e => ?_, hr.fresh, hr.glob, fun j hj => hj.elim (fun h => hr.base j h) (fun e => by subst e; exact hlt)⟩ (Keep.refl _ _)
  · simp only at ht
    rw [Tr.get_put] at ht
    split at ht
    · rename_i e
      subst e
      injection ht with ht
      subst ht
      exact ⟨_, hv1, .v _⟩
    · exact hf.tmps t' av ht
  · simp only at hb2
    rw [Tr.get_put] at hb2
    split at hb2
    · cases hb2
    rename_i hne
    obtain ⟨q, hq, hbr2⟩ := hr.live b2 blk2 hb2
    have hne2 : q.1 ≠ n := fun e => hne (hr.inj _ _ _ _ _ _ hb2 hb1 hq hγ e)
    have key : ¬ B q.1 → ¬ (B q.1 ∨ q.1 = n) := fun h1 h2 => h2.elim h1 hne2
    refine ⟨q, hq, ?_⟩
    cases blk2 with
    | cells ty own cl ex lim cs => exact ⟨fun e => key (hbr2.1 e), hbr2.2⟩
    | map es clock => exact ⟨key hbr2.1, hbr2.2⟩
    | row e xs => exact ⟨key hbr2.1, hbr2.2⟩
  · simp only at h5 h6
    rw [Tr.get_put] at h5 h6
    split at h5
    · cases h5
    split at h6
    · cases h6
    exact hr.inj _ _ _ _ _ _ h5 h6 g1 g2 e
end
end Go.Sy
end
end
