/- Texts of this proof, one behind the other. Conditions: those in each theorem. -/
import Derived.Test.YtiacalnkmnckjaaGreatDoorTreeCopiesP7
section
/- What CopyProgram of the statements' kit makes. No conditions but those in each theorem. -/
namespace Go.Proofs.YtiacalnkmnckjaaGreatDoor
open Go.RowKit Go.As
set_option linter.unusedVariables false
set_option linter.unusedSimpArgs false

def PgPr (p : Pg) (w : World) (v : Value) (w' : World) : Prop := ∃ ds : List Value, v = .agg ds.toArray ∧ PgAt (NewIn w w') w' p ds
theorem VR_agg3 {γ : Sy.Gm} {a b : Value} {e : Sy.AV} {v : Value} (h : Sy.VR γ (.agg [.v a, .v b, e]) v) : ∃ x, v = .agg #[a, b, x] ∧ Sy.VR γ e x := by
  cases h with
  | agg hl hh =>
    rename_i vs
    obtain ⟨l⟩ := vs
    match l, hl with
    | [x1, x2, x3], _ =>
      have h1 := hh 0 _ x1 rfl rfl
      have h2 := hh 1 _ x2 rfl rfl
      cases h1; cases h2
      exact ⟨x3, rfl, hh 2 _ x3 rfl rfl⟩
/-- a list under way: its own blocks from 'base' on; (Bq, wq): where the loop was entered -/
def LInv {α : Type} (At : (Nat → Prop) → World → α → List Value → Prop) (e sz base : Nat) (Bq : Nat → Prop) (wq : World) (L : List α) (b : Nat) (i : CI α) (B : Nat → Prop) (w1 : World) : Prop :=
  L = i.l1 ++ i.l2 ∧ Sy.Keep Bq wq w1 ∧ (∀ k, Bq k → B k) ∧ (∀ k, B k → k < w1.heap.size) ∧ LsAt (At (fun k => B k ∧ base ≤ k) w1) i.l1 i.xs ∧ Sy.RowAt e sz b i.l1.length i.xs i.X i.ob
open Go.Sy in
set_option maxRecDepth 100000 in
theorem copyProgram_any (p : Pg) (cs : List Value) (w : World) (hbd0 : pwt p ≤ 1000000000000) (hp : PgAt (· < w.heap.size) w p cs) :
    Calls Tryz.prog 14 #[.agg cs.toArray] w fun r w' => ∃ v, r = .returned v ∧ PgPr p w v w' ∧ Below w.heap.size w w' := by
  obtain ⟨a, cap, xs, b, cap2, ys, d, cap3, zs, rfl, hxs, hxt, hys, hyt, hzs, hzt⟩ := hp
  obtain ⟨ns, hns⟩ : ∃ n, n = p.shared.length := ⟨_, rfl⟩
  obtain ⟨nm, hnm⟩ : ∃ n, n = p.mutexes.length := ⟨_, rfl⟩
  obtain ⟨nt, hnt⟩ : ∃ n, n = p.threads.length := ⟨_, rfl⟩
  have hbd : ns + nm + thws p.threads ≤ 1000000000000 := by rw [hns, hnm]; exact hbd0
  have hnl := thws_len p.threads
  rw [← hns] at hxs ⊢
  rw [← hnm] at hys ⊢
  rw [← hnt] at hzs ⊢
  refine Sy.enter (vs := [.agg #[.slice a ns cap, .slice b nm cap2, .slice d nt cap3]]) sy_fine Tryz.func14 rfl (fun γ => norms_LR _) rfl (fun γ0 hγ0 => ?_)
  refine run_ok (sy_cx _ _) 0 [] 60 0 ?_
  refine good_lock [gz] (gz + 1) (by kernel_rfl) (fun b hb => hγ0 b (Nat.le_trans (Nat.le_add_right _ 1) hb)) ?_
  intro γ1 B1 w1 hle1 hγ1 hB01 hB1 hk01 hLk
  have hL1 : ∀ b, hasNat b [gz] = true → ∃ p, γ1 b = some p ∧ B1 p.1 := fun b hb => let ⟨p, h1, h2, _⟩ := hLk b hb; ⟨p, h1, h2⟩
  have hxs1 := (hxs.keep hk01).mono hB01
  have hys1 := (hys.keep hk01).mono hB01
  refine good_plan sy_mixed (.take 1 (.take 2 (.take 4 (.take 5 (.alt (.run 8 (.run 0 (.run 3 (.run 6 (.take 7 .done))))) (.run 0 (.alt (.run 8 (.run 3 (.run 6 (.take 7 .done)))) (.run 3 (.alt (.run 8 (.run 6 (.take 7 .done))) (.run 6 (.take 7 (.run 8 .done)))))))))))) 9 (by kernel_rfl) ?_
  refine p_takes [gz] 4 (Bs := B1) (ws := w1) (by kernel_rfl) (fun _ h => h) hL1 ?_
  refine p_alt (by kernel_rfl) ?_ ?_
  ·
    refine p_run (Keep B1 w1) (by kernel_rfl) (fun _ h => h) (by kernel_rfl) ?_
    refine run_ok (sy_cx _ _) 0 [] 60 0 ?_
    refine p_run (Keep B1 w1) (by kernel_rfl) (fun _ h => h) (by kernel_rfl) ?_
    refine run_ok (sy_cx _ _) 0 [] 60 0 ?_
    refine p_run (Keep B1 w1) (by kernel_rfl) (fun _ h => h) (by kernel_rfl) ?_
    refine good_fix 6 (gz + 3) 3 (by kernel_rfl) (by kernel_rfl) (by kernel_rfl) (fun k => ?_)
    refine good_appM (.slice (some ⟨k, 0, none⟩) 0 0) (.slice a ns cap) [22, 22] (by kernel_rfl) (fun W hk => app_none (e := 67) (sz := 3) (bytes := 32) (by kernel_rfl) (by kernel_rfl) (by kernel_rfl) hxs1 (by omega) (by unfold maxLen; omega) W hk) ?_
    rintro wA r w2 B2 hkA ⟨a2, cap22, rfl, hsl2⟩ hbl2 hk12 hB12 hBn2 hB2
    have hS2 : ∀ W, Keep B2 w2 W → Keep B1 w1 W := fun W hk => hk12.trans (hk.mono hB12)
    refine run_ok (sy_cx _ _) 0 [] 60 0 ?_
    refine p_run (Keep B1 w1) (by kernel_rfl) hS2 (by kernel_rfl) ?_
    have hys2 := fun W (hk : Keep B2 w2 W) => ((hys.keep (hk01.trans ((hS2 W hk).mono hB01))).mono (fun k h => Nat.lt_of_lt_of_le h (hk01.trans ((hS2 W hk).mono hB01)).size))
    refine good_callM (sy_cx _ _) [.slice b nm cap2] (by kernel_rfl) (by kernel_rfl) (by kernel_rfl) (fun W hk => copyTexts_any b nm cap2 ys W (by omega) (hys2 W hk)) ?_
    rintro wB r w3 B3 hkB ⟨a3, cap33, rfl, hsl3⟩ hbl3 hk23 hB23 hBn3 hB3
    have hS3 : ∀ W, Keep B3 w3 W → Keep B1 w1 W := fun W hk => hS2 W (hk23.trans (hk.mono hB23))
    refine run_ok (sy_cx _ _) 0 [] 60 0 ?_
    refine p_takes [gz] 1 (Bs := B1) (ws := w1) (by kernel_rfl) hS3 hL1 ?_
    refine p_done (by kernel_rfl) ?_ (Keep B1 w1) (by kernel_rfl) hS3
    refine run_ok (sy_cx _ _) 0 [] 60 0 ?_
    refine good_toLp ?_
    have hk03 : Keep (· < w.heap.size) w w3 := hk01.trans (((hk12.trans (hk23.mono hB12))).mono hB01)
    have hB13 : ∀ k, B1 k → B3 k := fun k h => hB23 k (hB12 k h)
    have hszA := hkA.size
    have hszB := hkB.size
    have hsz01 := hk01.size
    have hsz12 := hk12.size
    have hsz23 := hk23.size
    have hsa : SlAt (fun k => B3 k ∧ w.heap.size ≤ k) w3 a2 ns 3 xs := ((hsl2.keep (hk23.mono fun k h => hBn2 k h.1 h.2)).mono fun k h => ⟨hB23 k (hBn2 k h.1 h.2), by have := h.1; omega⟩)
    have hsb : SlAt (fun k => B3 k ∧ w.heap.size ≤ k) w3 a3 nm 1 ys := hsl3.mono fun k h => ⟨hBn3 k h.1 h.2, by have := h.1; omega⟩
    refine good_loopB (fun i : CI Th => i.l2.length) (LInv ThAt 58 3 w.heap.size B3 w3 p.threads (gz + 4)) (fun i => ⟨mkT [(1, .ptr gz 0), (2, .ptr (gz + 1) 0), (3, .ptr (gz + 2) 0), (4, .v (.int .i64 (i.l1.length : Int)))], mkH [(gz, some (.cells 26 false true true 3 (putL .leaf 0 [.v (.slice a ns cap), .v (.slice b nm cap2), .v (.slice d nt cap3)]))), (gz + 1, some (.cells 26 true true true 3 (putL .leaf 0 [.v (.slice none 0 0), .v (.slice none 0 0), .v (.slice none 0 0)]))), (gz + 2, some (.cells 26 true true true 3 (putL .leaf 0 [.v (.slice a2 ns cap22), .v (.slice a3 nm cap33), i.X]))), (gz + 4, i.ob)], gz + 5, []⟩)
      ⟨[], p.threads, [], .v (.slice none 0 0), none⟩ ⟨rfl, Keep.refl _ _, fun k h => h, hB3, rfl, RowAt.nil _ _ _⟩ (by kernel_rfl)
      (fun h => good_sub _ [(1, .ptr gz 0), (2, .ptr (gz + 1) 0), (3, .ptr (gz + 2) 0), (4, .v (.int .i64 (([] : List Th).length : Int)))] [(gz, some (.cells 26 false true true 3 (putL .leaf 0 [.v (.slice a ns cap), .v (.slice b nm cap2), .v (.slice d nt cap3)]))), (gz + 1, some (.cells 26 true true true 3 (putL .leaf 0 [.v (.slice none 0 0), .v (.slice none 0 0), .v (.slice none 0 0)]))), (gz + 2, some (.cells 26 true true true 3 (putL .leaf 0 [.v (.slice a2 ns cap22), .v (.slice a3 nm cap33), .v (.slice none 0 0)]))), (gz + 4, none)] (gz + 5) rfl (by kernel_rfl) (by kernel_rfl) (by kernel_rfl) (by kernel_rfl) (by kernel_rfl) (fun b hb => hγ1 b (by omega)) (by kernel_rfl) h) ?_
    rintro ⟨l1, l2, xk, X, ob⟩ B5 w5 ⟨hI, hk35, hB35, hB5, hxk, hrow⟩ ih
    simp only at hI hxk hrow
    have hn2 : nt = l1.length + l2.length := by rw [hnt, hI, List.length_append]
    have hw1 : thws p.threads = thws l1 + thws l2 := by rw [hI, thws_app]
    have hB05 : ∀ k, k < w.heap.size → B5 k := fun k h => hB35 k (hB13 k (hB01 k h))
    have hk05 : Keep (· < w.heap.size) w w5 := hk03.trans (hk35.mono fun k h => hB13 k (hB01 k h))
    have hzs1 : SlAt B5 w5 d nt 3 zs := (hzs.keep hk05).mono hB05
    have hzt1 := hzt.imp (fun _ _ h => ThAt.keep hk05 hB05 h)
    have hXlt : avLt (gz + 5) X = true := hrow.lt (by omega)
    refine run_ok (sy_cx _ _) 0 [] 60 0 ?_
    cases l2 with
    | nil =>
      have hn3 : nt = l1.length := by rw [hn2]; simp
      refine good_take false (b := intLt (l1.length : Int) (nt : Int)) (by kernel_rfl) (lt_f (by omega)) ?_
      have hfin : ∀ (γ : Gm) (W : World) (v x : Value) (h : Hp) (cc : Nat), v = .agg #[.slice a2 ns cap22, .slice a3 nm cap33, x] → VR γ X x → HR B5 Tryz.prog.globals.size γ h cc W → h.get (gz + 4) = ob → Keep B5 w5 W → (∃ v', Ending.returned v = .returned v' ∧ PgPr p w v' W ∧ Below w.heap.size w W) := by
        intro γ W v x h cc hv hx hH hb hkW
        subst hv
        obtain ⟨hown, _⟩ := row_own (base := w.heap.size) hrow hb hH hx (fun k hk => Nat.le_of_not_lt (fun h => hk (hB05 k h)))
        obtain ⟨a', cap', rfl, _, hsl'⟩ := SlAt.of_own (F := NewIn w W) hown (fun k h1 h2 => ⟨h1, h2⟩)
        have hkl : l1 = p.threads := by rw [hI]; simp
        have hlt : ∀ k, B5 k ∧ w.heap.size ≤ k → NewIn w W k := fun k hk => ⟨hk.2, Nat.lt_of_lt_of_le (hB5 k hk.1) hkW.size⟩
        have hkq : Keep B3 w3 W := hk35.trans (hkW.mono hB35)
        refine ⟨_, rfl, ⟨_, rfl, a2, cap22, xs, a3, cap33, ys, a', cap', xk, by rw [← hns, ← hnm, hkl], ?_, hxt, ?_, hyt, ?_, ?_⟩, (hk05.trans (hkW.mono hB05)).below⟩
        · rw [← hns]; exact (hsa.keep (hkq.mono fun k h => h.1)).mono fun k h => hlt k ⟨hB35 k h.1, h.2⟩
        · rw [← hnm]; exact (hsb.keep (hkq.mono fun k h => h.1)).mono fun k h => hlt k ⟨hB35 k h.1, h.2⟩
        · rw [hkl] at hsl'; exact hsl'
        · rw [hkl] at hxk; exact hxk.imp fun _ _ h => h.keep (hkW.mono fun k hk => hk.1) hlt
      rcases hrow.2 with ⟨hX, hob, h0⟩ | ⟨hX, hob⟩
      ·
        subst hX hob
        refine run_ok (sy_cx _ _) 0 [] 60 0 ?_
        refine good_end (av := .agg [.v (.slice a2 ns cap22), .v (.slice a3 nm cap33), .v (.slice none 0 0)]) (by kernel_rfl) (fun γ W v _ hv hH hkW => ?_)
        obtain ⟨x, rfl, hx⟩ := VR_agg3 hv
        exact hfin γ W _ x _ _ rfl hx hH (by kernel_rfl) hkW
      ·
        subst hX hob
        refine run_ok (sy_cx _ _) 0 [] 60 0 ?_
        refine good_end (av := .agg [.v (.slice a2 ns cap22), .v (.slice a3 nm cap33), .slg (gz + 4) 0 l1.length 3]) (by kernel_rfl) (fun γ W v _ hv hH hkW => ?_)
        obtain ⟨x, rfl, hx⟩ := VR_agg3 hv
        exact hfin γ W _ x _ _ rfl hx hH (by kernel_rfl) hkW
    | cons s l3 =>
      have hin : l1.length < nt := by rw [hn2, List.length_cons]; omega
      have hks2 := hzt1
      rw [hI] at hks2
      obtain ⟨c, hc, hcell⟩ := hks2.at_ (fun _ _ h => h.len)
      simp only [thws] at hw1
      obtain ⟨sa, scap, sxs, sb, scap2, sys, rfl, shs, sht, shb, shbt⟩ := hc
      simp only [thw] at hw1
      refine good_take true (b := intLt (l1.length : Int) (nt : Int)) (by kernel_rfl) (lt_t (by omega)) ?_
      refine run_ok (sy_cx _ _) 0 [] 60 0 ?_
      refine good_val (.pointer (some ⟨gB d, oB d + l1.length * 3, none⟩)) (S := Instr.indexAt 24 (.slice d nt cap3) (.int .i64 (l1.length : Int))) (by kernel_rfl) (fun W _ => idx_sl (e := 58) hzs1 (by kernel_rfl) (by kernel_rfl) hin W) ?_
      refine run_ok (sy_cx _ _) 0 [] 60 0 ?_
      refine good_val (.agg #[.string (str s.name), .slice sa s.locals.length scap, .slice sb s.body.length scap2]) (S := Instr.loadAt 58 (.pointer (some ⟨gB d, oB d + l1.length * 3 + 0, none⟩))) (by kernel_rfl) (fun W hk => load_slA (P := Tryz.prog) (ty := 58) (m := 3) (cs := [.string (str s.name), .slice sa s.locals.length scap, .slice sb s.body.length scap2]) hzs1 (by kernel_rfl) (by kernel_rfl) l1.length 0 rfl hcell hk) ?_
      refine run_ok (sy_cx _ _) 0 [] 3 0 ?_
      refine good_lock2 [gz + 2, gz + 5] (gz + 6) (by kernel_rfl) ?_
      intro γ2 B6 w6 hle2 hγ2 hB56 hB6 hk56 hLk2
      have hL2 : ∀ b, hasNat b [gz + 2, gz + 5] = true → ∃ p, γ2 b = some p ∧ B6 p.1 := fun b hb => let ⟨p, h1, h2, _⟩ := hLk2 b hb; ⟨p, h1, h2⟩
      have shs6 := (shs.keep hk56).mono hB56
      have shb6 := (shb.keep hk56).mono hB56
      have shbt6 := shbt.keep hk56 hB56
      refine good_plan sy_mixed (.take 0 (.take 1 (.take 2 (.take 3 (.take 5 (.take 6 (.take 8 (.take 9 (.run 4 (.run 7 (.run 10 (.take 11 (.run 12 (.run 13 (.take 14 .done))))))))))))))) 15 (by kernel_rfl) ?_
      refine p_takes [gz + 2, gz + 5] 1 (Bs := B6) (ws := w6) (by kernel_rfl) (fun _ h => h) hL2 ?_
      refine p_load [gz + 2, gz + 5] X (by kernel_rfl) (by rcases hrow.2 with ⟨h, _⟩ | ⟨h, _⟩ <;> rw [h] <;> kernel_rfl) (Bs := B6) (ws := w6) (by kernel_rfl) (fun _ h => h) hL2 ?_
      refine p_takes [gz + 2, gz + 5] 6 (Bs := B6) (ws := w6) (by kernel_rfl) (fun _ h => h) hL2 ?_
      refine p_run (Keep B6 w6) (by kernel_rfl) (fun _ h => h) (by kernel_rfl) ?_
      refine run_ok (sy_cx _ _) 0 [] 60 0 ?_
      refine p_run (Keep B6 w6) (by kernel_rfl) (fun _ h => h) (by kernel_rfl) ?_
      refine good_fix 30 (gz + 6) 3 (by kernel_rfl) (by kernel_rfl) (by kernel_rfl) (fun k => ?_)
      refine good_appM (.slice (some ⟨k, 0, none⟩) 0 0) (.slice sa s.locals.length scap) [22, 22] (by kernel_rfl) (fun W hk => app_none (e := 67) (sz := 3) (bytes := 32) (by kernel_rfl) (by kernel_rfl) (by kernel_rfl) shs6 (by omega) (by unfold maxLen; omega) W hk) ?_
      rintro wC r w7 B7 hkC ⟨a7, cap7, rfl, hsl7⟩ hbl7 hk67 hB67 hBn7 hB7
      have hS7 : ∀ W, Keep B7 w7 W → Keep B6 w6 W := fun W hk => hk67.trans (hk.mono hB67)
      refine run_ok (sy_cx _ _) 0 [] 60 0 ?_
      refine p_run (Keep B6 w6) (by kernel_rfl) hS7 (by kernel_rfl) ?_
      refine good_callM (sy_cx _ _) [.slice sb s.body.length scap2] (by kernel_rfl) (by kernel_rfl) (by kernel_rfl) (fun W hk => copyStmts_any _ s.body _ _ _ _ W rfl (Nat.lt_succ_self _) (by omega) ((shb6.keep (hS7 W hk)).mono fun k h => Nat.lt_of_lt_of_le (hB6 k h) (hS7 W hk).size) (StsAt_ls.1 (shbt6.keep (hS7 W hk) fun k h => Nat.lt_of_lt_of_le (hB6 k h) (hS7 W hk).size))) ?_
      rintro wD r w8 B8 hkD ⟨a8, cap8, xs8, rfl, hsl8, hst8⟩ hbl8 hk78 hB78 hBn8 hB8
      have hS8 : ∀ W, Keep B8 w8 W → Keep B6 w6 W := fun W hk => hS7 W (hk78.trans (hk.mono hB78))
      refine run_ok (sy_cx _ _) 0 [] 60 0 ?_
      refine p_takes [gz + 2, gz + 5] 1 (Bs := B6) (ws := w6) (by kernel_rfl) hS8 hL2 ?_
      refine p_run (Keep B6 w6) (by kernel_rfl) hS8 (by kernel_rfl) ?_
      refine run_ok (sy_cx _ _) 0 [] 60 0 ?_
      refine p_run (Keep B6 w6) (by kernel_rfl) hS8 (by kernel_rfl) ?_
      refine good_plain (gz + 2) 2 (by kernel_rfl) (fun xold => ?_)
      refine good_app (t := 24) (e := 58) (.slg (gz + 7) 0 1 3) 3 64 (gz + 4) l1.length 0 xk X ob [.string (str s.name), .slice a7 s.locals.length cap7, .slice a8 s.body.length cap8] [27] (by kernel_rfl) (by kernel_rfl) (by kernel_rfl) (by kernel_rfl) hrow (by kernel_rfl) (by kernel_rfl) (by kernel_rfl)
        (by unfold maxLen; omega) (by omega) (by rw [hγ2 _ (by kernel_rfl)]; exact hγ1 _ (by omega)) (by kernel_rfl) (by kernel_rfl) (by kernel_rfl) (by kernel_rfl) (by kernel_rfl) (fun X' ob' hrow' => ?_)
      rcases hrow'.2 with ⟨_, _, h0⟩ | ⟨rfl, rfl⟩
      · omega
      refine run_ok (sy_cx _ _) 0 [] 60 0 ?_
      refine p_takes [gz + 2, gz + 5] 1 (Bs := B6) (ws := w6) (by kernel_rfl) hS8 hL2 ?_
      refine p_done (by kernel_rfl) ?_ (Keep B6 w6) (by kernel_rfl) hS8
      refine good_unlock [gz + 2, gz + 5] (by kernel_rfl) (fun b hb => let ⟨p, h1, _⟩ := hLk2 b hb; ⟨p, h1⟩) ?_
      intro B9 hB98 hB89
      refine run_ok (sy_cx _ _) 0 [] 60 0 ?_
      refine good_set 4 (x := .int .i64 (wrapF .i64 (((l1.length : Nat) : Int) + 1))) (.int .i64 ((((l1 ++ [s]).length : Nat) : Int))) (by kernel_rfl) (by rw [wr64 (n := ((l1.length : Nat) : Int) + 1) (by omega) (by omega)]; congr 1; simp) ?_
      have hlk : ∀ b p, hasNat b [gz + 2, gz + 5] = true → γ2 b = some p → B6 p.1 ∧ ¬ B5 p.1 := fun b p hb hp => by
        obtain ⟨q, h1, h2, h3⟩ := hLk2 b hb
        rw [hp] at h1
        injection h1 with h1
        subst h1
        exact ⟨h2, h3⟩
      have hB68 : ∀ k, B6 k → B8 k := fun k h => hB78 k (hB67 k h)
      have hB59 : ∀ k, B5 k → B9 k := fun k hk => hB89 k (hB68 k (hB56 k hk)) (fun b p hb hp e => (hlk b p hb hp).2 (e ▸ hk))
      have hk68 : Keep B6 w6 w8 := hk67.trans (hk78.mono hB67)
      have hk58 : Keep B5 w5 w8 := hk56.trans (hk68.mono hB56)
      have hz1 := hk05.size
      have hz2 := hk56.size
      have hz3 := hkC.size
      have hz4 := hkD.size
      have hz5 := hk67.size
      have hz6 := hk78.size
      have hnot : ∀ k, w6.heap.size ≤ k → ∀ b p, hasNat b [gz + 2, gz + 5] = true → γ2 b = some p → p.1 ≠ k := fun k hk b p hb hp e => by
        have h1 := hB6 p.1 (hlk b p hb hp).1
        omega
      have hst : ThAt (fun k => B9 k ∧ w.heap.size ≤ k) w8 s [.string (str s.name), .slice a7 s.locals.length cap7, .slice a8 s.body.length cap8] := by
        refine ⟨a7, cap7, sxs, a8, cap8, xs8, rfl, ?_, sht, ?_, ?_⟩
        · exact (hsl7.keep (hk78.mono fun k h => hBn7 k h.1 h.2)).mono fun k h => ⟨hB89 k (hB78 k (hBn7 k h.1 h.2)) (hnot k (by have := h.1; omega)), by have := h.1; omega⟩
        · exact hsl8.mono fun k h => ⟨hB89 k (hBn8 k h.1 h.2) (hnot k (by have := h.1; omega)), by have := h.1; omega⟩
        · exact hst8.keep (Keep.refl _ _) fun k h => ⟨hB89 k (hBn8 k h.1 h.2) (hnot k (by have := h.1; omega)), by have := h.1; omega⟩
      have hI9 : LInv ThAt 58 3 w.heap.size B3 w3 p.threads (gz + 4) ⟨l1 ++ [s], l3, xk ++ [.string (str s.name), .slice a7 s.locals.length cap7, .slice a8 s.body.length cap8], .slg (gz + 4) 0 (l1.length + (0 + 1)) 3, some (.row 58 (xk ++ [.string (str s.name), .slice a7 s.locals.length cap7, .slice a8 s.body.length cap8]))⟩ B9 w8 := by
        refine ⟨by show p.threads = (l1 ++ [_]) ++ l3; rw [hI]; simp, hk35.trans (hk58.mono hB35), fun k hk => hB59 k (hB35 k hk), fun k hk => hB8 k (hB98 k hk), ?_, ?_⟩
        · exact LsAt.snoc (hxk.imp fun _ _ h => h.keep (hk58.mono fun k hk => hk.1) (fun k hk => ⟨hB59 k hk.1, hk.2⟩)) hst
        · show RowAt _ 3 (gz + 4) (l1 ++ [_]).length _ _ _
          rw [List.length_append]
          exact hrow'
      have hγ9 : ∀ b, gz + 6 ≤ b → γ2 b = none := fun b hb => by
        rw [hγ2 b (by cases hq : hasNat b [gz + 2, gz + 5] with
          | false => rfl
          | true => exfalso; simp only [hasNat_iff, List.mem_cons, List.not_mem_nil, or_false] at hq; omega)]
        exact hγ1 b (by omega)
      exact Good.up (good_sub _ [(1, .ptr gz 0), (2, .ptr (gz + 1) 0), (3, .ptr (gz + 2) 0), (4, .v (.int .i64 ((l1 ++ [s]).length : Int)))] [(gz, some (.cells 26 false true true 3 (putL .leaf 0 [.v (.slice a ns cap), .v (.slice b nm cap2), .v (.slice d nt cap3)]))), (gz + 1, some (.cells 26 true true true 3 (putL .leaf 0 [.v (.slice none 0 0), .v (.slice none 0 0), .v (.slice none 0 0)]))), (gz + 2, some (.cells 26 true true true 3 (putL .leaf 0 [.v (.slice a2 ns cap22), .v (.slice a3 nm cap33), .slg (gz + 4) 0 (l1.length + (0 + 1)) 3]))), (gz + 4, some (.row 58 (xk ++ [.string (str s.name), .slice a7 s.locals.length cap7, .slice a8 s.body.length cap8])))] (gz + 5) (by kernel_rfl) (by kernel_rfl) (by kernel_rfl) (by kernel_rfl) (by kernel_rfl) (by kernel_rfl) (fun b hb => hγ1 b (by omega)) (by kernel_rfl) (ih _ B9 w8 hI9 (by show l3.length < (_ :: l3).length; simp))) hle2
  ·
    refine p_run (Keep B1 w1) (by kernel_rfl) (fun _ h => h) (by kernel_rfl) ?_
    refine run_ok (sy_cx _ _) 0 [] 60 0 ?_
    refine p_alt (by kernel_rfl) ?_ ?_
    ·
      refine p_run (Keep B1 w1) (by kernel_rfl) (fun _ h => h) (by kernel_rfl) ?_
      refine run_ok (sy_cx _ _) 0 [] 60 0 ?_
      refine p_run (Keep B1 w1) (by kernel_rfl) (fun _ h => h) (by kernel_rfl) ?_
      refine good_fix 6 (gz + 2) 3 (by kernel_rfl) (by kernel_rfl) (by kernel_rfl) (fun k => ?_)
      refine good_appM (.slice (some ⟨k, 0, none⟩) 0 0) (.slice a ns cap) [22, 22] (by kernel_rfl) (fun W hk => app_none (e := 67) (sz := 3) (bytes := 32) (by kernel_rfl) (by kernel_rfl) (by kernel_rfl) hxs1 (by omega) (by unfold maxLen; omega) W hk) ?_
      rintro wA r w2 B2 hkA ⟨a2, cap22, rfl, hsl2⟩ hbl2 hk12 hB12 hBn2 hB2
      have hS2 : ∀ W, Keep B2 w2 W → Keep B1 w1 W := fun W hk => hk12.trans (hk.mono hB12)
      refine run_ok (sy_cx _ _) 0 [] 60 0 ?_
      refine p_run (Keep B1 w1) (by kernel_rfl) hS2 (by kernel_rfl) ?_
      have hys2 := fun W (hk : Keep B2 w2 W) => ((hys.keep (hk01.trans ((hS2 W hk).mono hB01))).mono (fun k h => Nat.lt_of_lt_of_le h (hk01.trans ((hS2 W hk).mono hB01)).size))
      refine good_callM (sy_cx _ _) [.slice b nm cap2] (by kernel_rfl) (by kernel_rfl) (by kernel_rfl) (fun W hk => copyTexts_any b nm cap2 ys W (by omega) (hys2 W hk)) ?_
      rintro wB r w3 B3 hkB ⟨a3, cap33, rfl, hsl3⟩ hbl3 hk23 hB23 hBn3 hB3
      have hS3 : ∀ W, Keep B3 w3 W → Keep B1 w1 W := fun W hk => hS2 W (hk23.trans (hk.mono hB23))
      refine run_ok (sy_cx _ _) 0 [] 60 0 ?_
      refine p_takes [gz] 1 (Bs := B1) (ws := w1) (by kernel_rfl) hS3 hL1 ?_
      refine p_done (by kernel_rfl) ?_ (Keep B1 w1) (by kernel_rfl) hS3
      refine run_ok (sy_cx _ _) 0 [] 60 0 ?_
      refine good_toLp ?_
      have hk03 : Keep (· < w.heap.size) w w3 := hk01.trans (((hk12.trans (hk23.mono hB12))).mono hB01)
      have hB13 : ∀ k, B1 k → B3 k := fun k h => hB23 k (hB12 k h)
      have hszA := hkA.size
      have hszB := hkB.size
      have hsz01 := hk01.size
      have hsz12 := hk12.size
      have hsz23 := hk23.size
      have hsa : SlAt (fun k => B3 k ∧ w.heap.size ≤ k) w3 a2 ns 3 xs := ((hsl2.keep (hk23.mono fun k h => hBn2 k h.1 h.2)).mono fun k h => ⟨hB23 k (hBn2 k h.1 h.2), by have := h.1; omega⟩)
      have hsb : SlAt (fun k => B3 k ∧ w.heap.size ≤ k) w3 a3 nm 1 ys := hsl3.mono fun k h => ⟨hBn3 k h.1 h.2, by have := h.1; omega⟩
      refine good_loopB (fun i : CI Th => i.l2.length) (LInv ThAt 58 3 w.heap.size B3 w3 p.threads (gz + 4)) (fun i => ⟨mkT [(1, .ptr gz 0), (2, .ptr (gz + 1) 0), (3, .ptr (gz + 3) 0), (4, .v (.int .i64 (i.l1.length : Int)))], mkH [(gz, some (.cells 26 false true true 3 (putL .leaf 0 [.v (.slice a ns cap), .v (.slice b nm cap2), .v (.slice d nt cap3)]))), (gz + 1, some (.cells 26 true true true 3 (putL .leaf 0 [.v (.slice none 0 0), .v (.slice none 0 0), .v (.slice none 0 0)]))), (gz + 3, some (.cells 26 true true true 3 (putL .leaf 0 [.v (.slice a2 ns cap22), .v (.slice a3 nm cap33), i.X]))), (gz + 4, i.ob)], gz + 5, []⟩)
        ⟨[], p.threads, [], .v (.slice none 0 0), none⟩ ⟨rfl, Keep.refl _ _, fun k h => h, hB3, rfl, RowAt.nil _ _ _⟩ (by kernel_rfl)
        (fun h => good_sub _ [(1, .ptr gz 0), (2, .ptr (gz + 1) 0), (3, .ptr (gz + 3) 0), (4, .v (.int .i64 (([] : List Th).length : Int)))] [(gz, some (.cells 26 false true true 3 (putL .leaf 0 [.v (.slice a ns cap), .v (.slice b nm cap2), .v (.slice d nt cap3)]))), (gz + 1, some (.cells 26 true true true 3 (putL .leaf 0 [.v (.slice none 0 0), .v (.slice none 0 0), .v (.slice none 0 0)]))), (gz + 3, some (.cells 26 true true true 3 (putL .leaf 0 [.v (.slice a2 ns cap22), .v (.slice a3 nm cap33), .v (.slice none 0 0)]))), (gz + 4, none)] (gz + 5) rfl (by kernel_rfl) (by kernel_rfl) (by kernel_rfl) (by kernel_rfl) (by kernel_rfl) (fun b hb => hγ1 b (by omega)) (by kernel_rfl) h) ?_
      rintro ⟨l1, l2, xk, X, ob⟩ B5 w5 ⟨hI, hk35, hB35, hB5, hxk, hrow⟩ ih
      simp only at hI hxk hrow
      have hn2 : nt = l1.length + l2.length := by rw [hnt, hI, List.length_append]
      have hw1 : thws p.threads = thws l1 + thws l2 := by rw [hI, thws_app]
      have hB05 : ∀ k, k < w.heap.size → B5 k := fun k h => hB35 k (hB13 k (hB01 k h))
      have hk05 : Keep (· < w.heap.size) w w5 := hk03.trans (hk35.mono fun k h => hB13 k (hB01 k h))
      have hzs1 : SlAt B5 w5 d nt 3 zs := (hzs.keep hk05).mono hB05
      have hzt1 := hzt.imp (fun _ _ h => ThAt.keep hk05 hB05 h)
      have hXlt : avLt (gz + 5) X = true := hrow.lt (by omega)
      refine run_ok (sy_cx _ _) 0 [] 60 0 ?_
      cases l2 with
      | nil =>
        have hn3 : nt = l1.length := by rw [hn2]; simp
        refine good_take false (b := intLt (l1.length : Int) (nt : Int)) (by kernel_rfl) (lt_f (by omega)) ?_
        have hfin : ∀ (γ : Gm) (W : World) (v x : Value) (h : Hp) (cc : Nat), v = .agg #[.slice a2 ns cap22, .slice a3 nm cap33, x] → VR γ X x → HR B5 Tryz.prog.globals.size γ h cc W → h.get (gz + 4) = ob → Keep B5 w5 W → (∃ v', Ending.returned v = .returned v' ∧ PgPr p w v' W ∧ Below w.heap.size w W) := by
          intro γ W v x h cc hv hx hH hb hkW
          subst hv
          obtain ⟨hown, _⟩ := row_own (base := w.heap.size) hrow hb hH hx (fun k hk => Nat.le_of_not_lt (fun h => hk (hB05 k h)))
          obtain ⟨a', cap', rfl, _, hsl'⟩ := SlAt.of_own (F := NewIn w W) hown (fun k h1 h2 => ⟨h1, h2⟩)
          have hkl : l1 = p.threads := by rw [hI]; simp
          have hlt : ∀ k, B5 k ∧ w.heap.size ≤ k → NewIn w W k := fun k hk => ⟨hk.2, Nat.lt_of_lt_of_le (hB5 k hk.1) hkW.size⟩
          have hkq : Keep B3 w3 W := hk35.trans (hkW.mono hB35)
          refine ⟨_, rfl, ⟨_, rfl, a2, cap22, xs, a3, cap33, ys, a', cap', xk, by rw [← hns, ← hnm, hkl], ?_, hxt, ?_, hyt, ?_, ?_⟩, (hk05.trans (hkW.mono hB05)).below⟩
          · rw [← hns]; exact (hsa.keep (hkq.mono fun k h => h.1)).mono fun k h => hlt k ⟨hB35 k h.1, h.2⟩
          · rw [← hnm]; exact (hsb.keep (hkq.mono fun k h => h.1)).mono fun k h => hlt k ⟨hB35 k h.1, h.2⟩
          · rw [hkl] at hsl'; exact hsl'
          · rw [hkl] at hxk; exact hxk.imp fun _ _ h => h.keep (hkW.mono fun k hk => hk.1) hlt
        rcases hrow.2 with ⟨hX, hob, h0⟩ | ⟨hX, hob⟩
        ·
          subst hX hob
          refine run_ok (sy_cx _ _) 0 [] 60 0 ?_
          refine good_end (av := .agg [.v (.slice a2 ns cap22), .v (.slice a3 nm cap33), .v (.slice none 0 0)]) (by kernel_rfl) (fun γ W v _ hv hH hkW => ?_)
          obtain ⟨x, rfl, hx⟩ := VR_agg3 hv
          exact hfin γ W _ x _ _ rfl hx hH (by kernel_rfl) hkW
        ·
          subst hX hob
          refine run_ok (sy_cx _ _) 0 [] 60 0 ?_
          refine good_end (av := .agg [.v (.slice a2 ns cap22), .v (.slice a3 nm cap33), .slg (gz + 4) 0 l1.length 3]) (by kernel_rfl) (fun γ W v _ hv hH hkW => ?_)
          obtain ⟨x, rfl, hx⟩ := VR_agg3 hv
          exact hfin γ W _ x _ _ rfl hx hH (by kernel_rfl) hkW
      | cons s l3 =>
        have hin : l1.length < nt := by rw [hn2, List.length_cons]; omega
        have hks2 := hzt1
        rw [hI] at hks2
        obtain ⟨c, hc, hcell⟩ := hks2.at_ (fun _ _ h => h.len)
        simp only [thws] at hw1
        obtain ⟨sa, scap, sxs, sb, scap2, sys, rfl, shs, sht, shb, shbt⟩ := hc
        simp only [thw] at hw1
        refine good_take true (b := intLt (l1.length : Int) (nt : Int)) (by kernel_rfl) (lt_t (by omega)) ?_
        refine run_ok (sy_cx _ _) 0 [] 60 0 ?_
        refine good_val (.pointer (some ⟨gB d, oB d + l1.length * 3, none⟩)) (S := Instr.indexAt 24 (.slice d nt cap3) (.int .i64 (l1.length : Int))) (by kernel_rfl) (fun W _ => idx_sl (e := 58) hzs1 (by kernel_rfl) (by kernel_rfl) hin W) ?_
        refine run_ok (sy_cx _ _) 0 [] 60 0 ?_
        refine good_val (.agg #[.string (str s.name), .slice sa s.locals.length scap, .slice sb s.body.length scap2]) (S := Instr.loadAt 58 (.pointer (some ⟨gB d, oB d + l1.length * 3 + 0, none⟩))) (by kernel_rfl) (fun W hk => load_slA (P := Tryz.prog) (ty := 58) (m := 3) (cs := [.string (str s.name), .slice sa s.locals.length scap, .slice sb s.body.length scap2]) hzs1 (by kernel_rfl) (by kernel_rfl) l1.length 0 rfl hcell hk) ?_
        refine run_ok (sy_cx _ _) 0 [] 3 0 ?_
        refine good_lock2 [gz + 3, gz + 5] (gz + 6) (by kernel_rfl) ?_
        intro γ2 B6 w6 hle2 hγ2 hB56 hB6 hk56 hLk2
        have hL2 : ∀ b, hasNat b [gz + 3, gz + 5] = true → ∃ p, γ2 b = some p ∧ B6 p.1 := fun b hb => let ⟨p, h1, h2, _⟩ := hLk2 b hb; ⟨p, h1, h2⟩
        have shs6 := (shs.keep hk56).mono hB56
        have shb6 := (shb.keep hk56).mono hB56
        have shbt6 := shbt.keep hk56 hB56
        refine good_plan sy_mixed (.take 0 (.take 1 (.take 2 (.take 3 (.take 5 (.take 6 (.take 8 (.take 9 (.run 4 (.run 7 (.run 10 (.take 11 (.run 12 (.run 13 (.take 14 .done))))))))))))))) 15 (by kernel_rfl) ?_
        refine p_takes [gz + 3, gz + 5] 1 (Bs := B6) (ws := w6) (by kernel_rfl) (fun _ h => h) hL2 ?_
        refine p_load [gz + 3, gz + 5] X (by kernel_rfl) (by rcases hrow.2 with ⟨h, _⟩ | ⟨h, _⟩ <;> rw [h] <;> kernel_rfl) (Bs := B6) (ws := w6) (by kernel_rfl) (fun _ h => h) hL2 ?_
        refine p_takes [gz + 3, gz + 5] 6 (Bs := B6) (ws := w6) (by kernel_rfl) (fun _ h => h) hL2 ?_
        refine p_run (Keep B6 w6) (by kernel_rfl) (fun _ h => h) (by kernel_rfl) ?_
        refine run_ok (sy_cx _ _) 0 [] 60 0 ?_
        refine p_run (Keep B6 w6) (by kernel_rfl) (fun _ h => h) (by kernel_rfl) ?_
        refine good_fix 30 (gz + 6) 3 (by kernel_rfl) (by kernel_rfl) (by kernel_rfl) (fun k => ?_)
        refine good_appM (.slice (some ⟨k, 0, none⟩) 0 0) (.slice sa s.locals.length scap) [22, 22] (by kernel_rfl) (fun W hk => app_none (e := 67) (sz := 3) (bytes := 32) (by kernel_rfl) (by kernel_rfl) (by kernel_rfl) shs6 (by omega) (by unfold maxLen; omega) W hk) ?_
        rintro wC r w7 B7 hkC ⟨a7, cap7, rfl, hsl7⟩ hbl7 hk67 hB67 hBn7 hB7
        have hS7 : ∀ W, Keep B7 w7 W → Keep B6 w6 W := fun W hk => hk67.trans (hk.mono hB67)
        refine run_ok (sy_cx _ _) 0 [] 60 0 ?_
        refine p_run (Keep B6 w6) (by kernel_rfl) hS7 (by kernel_rfl) ?_
        refine good_callM (sy_cx _ _) [.slice sb s.body.length scap2] (by kernel_rfl) (by kernel_rfl) (by kernel_rfl) (fun W hk => copyStmts_any _ s.body _ _ _ _ W rfl (Nat.lt_succ_self _) (by omega) ((shb6.keep (hS7 W hk)).mono fun k h => Nat.lt_of_lt_of_le (hB6 k h) (hS7 W hk).size) (StsAt_ls.1 (shbt6.keep (hS7 W hk) fun k h => Nat.lt_of_lt_of_le (hB6 k h) (hS7 W hk).size))) ?_
        rintro wD r w8 B8 hkD ⟨a8, cap8, xs8, rfl, hsl8, hst8⟩ hbl8 hk78 hB78 hBn8 hB8
        have hS8 : ∀ W, Keep B8 w8 W → Keep B6 w6 W := fun W hk => hS7 W (hk78.trans (hk.mono hB78))
        refine run_ok (sy_cx _ _) 0 [] 60 0 ?_
        refine p_takes [gz + 3, gz + 5] 1 (Bs := B6) (ws := w6) (by kernel_rfl) hS8 hL2 ?_
        refine p_run (Keep B6 w6) (by kernel_rfl) hS8 (by kernel_rfl) ?_
        refine run_ok (sy_cx _ _) 0 [] 60 0 ?_
        refine p_run (Keep B6 w6) (by kernel_rfl) hS8 (by kernel_rfl) ?_
        refine good_plain (gz + 3) 2 (by kernel_rfl) (fun xold => ?_)
        refine good_app (t := 24) (e := 58) (.slg (gz + 7) 0 1 3) 3 64 (gz + 4) l1.length 0 xk X ob [.string (str s.name), .slice a7 s.locals.length cap7, .slice a8 s.body.length cap8] [27] (by kernel_rfl) (by kernel_rfl) (by kernel_rfl) (by kernel_rfl) hrow (by kernel_rfl) (by kernel_rfl) (by kernel_rfl)
          (by unfold maxLen; omega) (by omega) (by rw [hγ2 _ (by kernel_rfl)]; exact hγ1 _ (by omega)) (by kernel_rfl) (by kernel_rfl) (by kernel_rfl) (by kernel_rfl) (by kernel_rfl) (fun X' ob' hrow' => ?_)
        rcases hrow'.2 with ⟨_, _, h0⟩ | ⟨rfl, rfl⟩
        · omega
        refine run_ok (sy_cx _ _) 0 [] 60 0 ?_
        refine p_takes [gz + 3, gz + 5] 1 (Bs := B6) (ws := w6) (by kernel_rfl) hS8 hL2 ?_
        refine p_done (by kernel_rfl) ?_ (Keep B6 w6) (by kernel_rfl) hS8
        refine good_unlock [gz + 3, gz + 5] (by kernel_rfl) (fun b hb => let ⟨p, h1, _⟩ := hLk2 b hb; ⟨p, h1⟩) ?_
        intro B9 hB98 hB89
        refine run_ok (sy_cx _ _) 0 [] 60 0 ?_
        refine good_set 4 (x := .int .i64 (wrapF .i64 (((l1.length : Nat) : Int) + 1))) (.int .i64 ((((l1 ++ [s]).length : Nat) : Int))) (by kernel_rfl) (by rw [wr64 (n := ((l1.length : Nat) : Int) + 1) (by omega) (by omega)]; congr 1; simp) ?_
        have hlk : ∀ b p, hasNat b [gz + 3, gz + 5] = true → γ2 b = some p → B6 p.1 ∧ ¬ B5 p.1 := fun b p hb hp => by
          obtain ⟨q, h1, h2, h3⟩ := hLk2 b hb
          rw [hp] at h1
          injection h1 with h1
          subst h1
          exact ⟨h2, h3⟩
        have hB68 : ∀ k, B6 k → B8 k := fun k h => hB78 k (hB67 k h)
        have hB59 : ∀ k, B5 k → B9 k := fun k hk => hB89 k (hB68 k (hB56 k hk)) (fun b p hb hp e => (hlk b p hb hp).2 (e ▸ hk))
        have hk68 : Keep B6 w6 w8 := hk67.trans (hk78.mono hB67)
        have hk58 : Keep B5 w5 w8 := hk56.trans (hk68.mono hB56)
        have hz1 := hk05.size
        have hz2 := hk56.size
        have hz3 := hkC.size
        have hz4 := hkD.size
        have hz5 := hk67.size
        have hz6 := hk78.size
        have hnot : ∀ k, w6.heap.size ≤ k → ∀ b p, hasNat b [gz + 3, gz + 5] = true → γ2 b = some p → p.1 ≠ k := fun k hk b p hb hp e => by
          have h1 := hB6 p.1 (hlk b p hb hp).1
          omega
        have hst : ThAt (fun k => B9 k ∧ w.heap.size ≤ k) w8 s [.string (str s.name), .slice a7 s.locals.length cap7, .slice a8 s.body.length cap8] := by
          refine ⟨a7, cap7, sxs, a8, cap8, xs8, rfl, ?_, sht, ?_, ?_⟩
          · exact (hsl7.keep (hk78.mono fun k h => hBn7 k h.1 h.2)).mono fun k h => ⟨hB89 k (hB78 k (hBn7 k h.1 h.2)) (hnot k (by have := h.1; omega)), by have := h.1; omega⟩
          · exact hsl8.mono fun k h => ⟨hB89 k (hBn8 k h.1 h.2) (hnot k (by have := h.1; omega)), by have := h.1; omega⟩
          · exact hst8.keep (Keep.refl _ _) fun k h => ⟨hB89 k (hBn8 k h.1 h.2) (hnot k (by have := h.1; omega)), by have := h.1; omega⟩
        have hI9 : LInv ThAt 58 3 w.heap.size B3 w3 p.threads (gz + 4) ⟨l1 ++ [s], l3, xk ++ [.string (str s.name), .slice a7 s.locals.length cap7, .slice a8 s.body.length cap8], .slg (gz + 4) 0 (l1.length + (0 + 1)) 3, some (.row 58 (xk ++ [.string (str s.name), .slice a7 s.locals.length cap7, .slice a8 s.body.length cap8]))⟩ B9 w8 := by
          refine ⟨by show p.threads = (l1 ++ [_]) ++ l3; rw [hI]; simp, hk35.trans (hk58.mono hB35), fun k hk => hB59 k (hB35 k hk), fun k hk => hB8 k (hB98 k hk), ?_, ?_⟩
          · exact LsAt.snoc (hxk.imp fun _ _ h => h.keep (hk58.mono fun k hk => hk.1) (fun k hk => ⟨hB59 k hk.1, hk.2⟩)) hst
          · show RowAt _ 3 (gz + 4) (l1 ++ [_]).length _ _ _
            rw [List.length_append]
            exact hrow'
        have hγ9 : ∀ b, gz + 6 ≤ b → γ2 b = none := fun b hb => by
          rw [hγ2 b (by cases hq : hasNat b [gz + 3, gz + 5] with
            | false => rfl
            | true => exfalso; simp only [hasNat_iff, List.mem_cons, List.not_mem_nil, or_false] at hq; omega)]
          exact hγ1 b (by omega)
        exact Good.up (good_sub _ [(1, .ptr gz 0), (2, .ptr (gz + 1) 0), (3, .ptr (gz + 3) 0), (4, .v (.int .i64 ((l1 ++ [s]).length : Int)))] [(gz, some (.cells 26 false true true 3 (putL .leaf 0 [.v (.slice a ns cap), .v (.slice b nm cap2), .v (.slice d nt cap3)]))), (gz + 1, some (.cells 26 true true true 3 (putL .leaf 0 [.v (.slice none 0 0), .v (.slice none 0 0), .v (.slice none 0 0)]))), (gz + 3, some (.cells 26 true true true 3 (putL .leaf 0 [.v (.slice a2 ns cap22), .v (.slice a3 nm cap33), .slg (gz + 4) 0 (l1.length + (0 + 1)) 3]))), (gz + 4, some (.row 58 (xk ++ [.string (str s.name), .slice a7 s.locals.length cap7, .slice a8 s.body.length cap8])))] (gz + 5) (by kernel_rfl) (by kernel_rfl) (by kernel_rfl) (by kernel_rfl) (by kernel_rfl) (by kernel_rfl) (fun b hb => hγ1 b (by omega)) (by kernel_rfl) (ih _ B9 w8 hI9 (by show l3.length < (_ :: l3).length; simp))) hle2
    ·
      refine p_run (Keep B1 w1) (by kernel_rfl) (fun _ h => h) (by kernel_rfl) ?_
      refine good_fix 6 (gz + 2) 3 (by kernel_rfl) (by kernel_rfl) (by kernel_rfl) (fun k => ?_)
      refine good_appM (.slice (some ⟨k, 0, none⟩) 0 0) (.slice a ns cap) [22, 22] (by kernel_rfl) (fun W hk => app_none (e := 67) (sz := 3) (bytes := 32) (by kernel_rfl) (by kernel_rfl) (by kernel_rfl) hxs1 (by omega) (by unfold maxLen; omega) W hk) ?_
      rintro wA r w2 B2 hkA ⟨a2, cap22, rfl, hsl2⟩ hbl2 hk12 hB12 hBn2 hB2
      have hS2 : ∀ W, Keep B2 w2 W → Keep B1 w1 W := fun W hk => hk12.trans (hk.mono hB12)
      refine run_ok (sy_cx _ _) 0 [] 60 0 ?_
      refine p_alt (by kernel_rfl) ?_ ?_
      ·
        refine p_run (Keep B1 w1) (by kernel_rfl) hS2 (by kernel_rfl) ?_
        refine run_ok (sy_cx _ _) 0 [] 60 0 ?_
        refine p_run (Keep B1 w1) (by kernel_rfl) hS2 (by kernel_rfl) ?_
        have hys2 := fun W (hk : Keep B2 w2 W) => ((hys.keep (hk01.trans ((hS2 W hk).mono hB01))).mono (fun k h => Nat.lt_of_lt_of_le h (hk01.trans ((hS2 W hk).mono hB01)).size))
        refine good_callM (sy_cx _ _) [.slice b nm cap2] (by kernel_rfl) (by kernel_rfl) (by kernel_rfl) (fun W hk => copyTexts_any b nm cap2 ys W (by omega) (hys2 W hk)) ?_
        rintro wB r w3 B3 hkB ⟨a3, cap33, rfl, hsl3⟩ hbl3 hk23 hB23 hBn3 hB3
        have hS3 : ∀ W, Keep B3 w3 W → Keep B1 w1 W := fun W hk => hS2 W (hk23.trans (hk.mono hB23))
        refine run_ok (sy_cx _ _) 0 [] 60 0 ?_
        refine p_takes [gz] 1 (Bs := B1) (ws := w1) (by kernel_rfl) hS3 hL1 ?_
        refine p_done (by kernel_rfl) ?_ (Keep B1 w1) (by kernel_rfl) hS3
        refine run_ok (sy_cx _ _) 0 [] 60 0 ?_
        refine good_toLp ?_
        have hk03 : Keep (· < w.heap.size) w w3 := hk01.trans (((hk12.trans (hk23.mono hB12))).mono hB01)
        have hB13 : ∀ k, B1 k → B3 k := fun k h => hB23 k (hB12 k h)
        have hszA := hkA.size
        have hszB := hkB.size
        have hsz01 := hk01.size
        have hsz12 := hk12.size
        have hsz23 := hk23.size
        have hsa : SlAt (fun k => B3 k ∧ w.heap.size ≤ k) w3 a2 ns 3 xs := ((hsl2.keep (hk23.mono fun k h => hBn2 k h.1 h.2)).mono fun k h => ⟨hB23 k (hBn2 k h.1 h.2), by have := h.1; omega⟩)
        have hsb : SlAt (fun k => B3 k ∧ w.heap.size ≤ k) w3 a3 nm 1 ys := hsl3.mono fun k h => ⟨hBn3 k h.1 h.2, by have := h.1; omega⟩
        refine good_loopB (fun i : CI Th => i.l2.length) (LInv ThAt 58 3 w.heap.size B3 w3 p.threads (gz + 4)) (fun i => ⟨mkT [(1, .ptr gz 0), (2, .ptr (gz + 1) 0), (3, .ptr (gz + 3) 0), (4, .v (.int .i64 (i.l1.length : Int)))], mkH [(gz, some (.cells 26 false true true 3 (putL .leaf 0 [.v (.slice a ns cap), .v (.slice b nm cap2), .v (.slice d nt cap3)]))), (gz + 1, some (.cells 26 true true true 3 (putL .leaf 0 [.v (.slice none 0 0), .v (.slice none 0 0), .v (.slice none 0 0)]))), (gz + 3, some (.cells 26 true true true 3 (putL .leaf 0 [.v (.slice a2 ns cap22), .v (.slice a3 nm cap33), i.X]))), (gz + 4, i.ob)], gz + 5, []⟩)
          ⟨[], p.threads, [], .v (.slice none 0 0), none⟩ ⟨rfl, Keep.refl _ _, fun k h => h, hB3, rfl, RowAt.nil _ _ _⟩ (by kernel_rfl)
          (fun h => good_sub _ [(1, .ptr gz 0), (2, .ptr (gz + 1) 0), (3, .ptr (gz + 3) 0), (4, .v (.int .i64 (([] : List Th).length : Int)))] [(gz, some (.cells 26 false true true 3 (putL .leaf 0 [.v (.slice a ns cap), .v (.slice b nm cap2), .v (.slice d nt cap3)]))), (gz + 1, some (.cells 26 true true true 3 (putL .leaf 0 [.v (.slice none 0 0), .v (.slice none 0 0), .v (.slice none 0 0)]))), (gz + 3, some (.cells 26 true true true 3 (putL .leaf 0 [.v (.slice a2 ns cap22), .v (.slice a3 nm cap33), .v (.slice none 0 0)]))), (gz + 4, none)] (gz + 5) rfl (by kernel_rfl) (by kernel_rfl) (by kernel_rfl) (by kernel_rfl) (by kernel_rfl) (fun b hb => hγ1 b (by omega)) (by kernel_rfl) h) ?_
        rintro ⟨l1, l2, xk, X, ob⟩ B5 w5 ⟨hI, hk35, hB35, hB5, hxk, hrow⟩ ih
        simp only at hI hxk hrow
        have hn2 : nt = l1.length + l2.length := by rw [hnt, hI, List.length_append]
        have hw1 : thws p.threads = thws l1 + thws l2 := by rw [hI, thws_app]
        have hB05 : ∀ k, k < w.heap.size → B5 k := fun k h => hB35 k (hB13 k (hB01 k h))
        have hk05 : Keep (· < w.heap.size) w w5 := hk03.trans (hk35.mono fun k h => hB13 k (hB01 k h))
        have hzs1 : SlAt B5 w5 d nt 3 zs := (hzs.keep hk05).mono hB05
        have hzt1 := hzt.imp (fun _ _ h => ThAt.keep hk05 hB05 h)
        have hXlt : avLt (gz + 5) X = true := hrow.lt (by omega)
        refine run_ok (sy_cx _ _) 0 [] 60 0 ?_
        cases l2 with
        | nil =>
          have hn3 : nt = l1.length := by rw [hn2]; simp
          refine good_take false (b := intLt (l1.length : Int) (nt : Int)) (by kernel_rfl) (lt_f (by omega)) ?_
          have hfin : ∀ (γ : Gm) (W : World) (v x : Value) (h : Hp) (cc : Nat), v = .agg #[.slice a2 ns cap22, .slice a3 nm cap33, x] → VR γ X x → HR B5 Tryz.prog.globals.size γ h cc W → h.get (gz + 4) = ob → Keep B5 w5 W → (∃ v', Ending.returned v = .returned v' ∧ PgPr p w v' W ∧ Below w.heap.size w W) := by
            intro γ W v x h cc hv hx hH hb hkW
            subst hv
            obtain ⟨hown, _⟩ := row_own (base := w.heap.size) hrow hb hH hx (fun k hk => Nat.le_of_not_lt (fun h => hk (hB05 k h)))
            obtain ⟨a', cap', rfl, _, hsl'⟩ := SlAt.of_own (F := NewIn w W) hown (fun k h1 h2 => ⟨h1, h2⟩)
            have hkl : l1 = p.threads := by rw [hI]; simp
            have hlt : ∀ k, B5 k ∧ w.heap.size ≤ k → NewIn w W k := fun k hk => ⟨hk.2, Nat.lt_of_lt_of_le (hB5 k hk.1) hkW.size⟩
            have hkq : Keep B3 w3 W := hk35.trans (hkW.mono hB35)
            refine ⟨_, rfl, ⟨_, rfl, a2, cap22, xs, a3, cap33, ys, a', cap', xk, by rw [← hns, ← hnm, hkl], ?_, hxt, ?_, hyt, ?_, ?_⟩, (hk05.trans (hkW.mono hB05)).below⟩
            · rw [← hns]; exact (hsa.keep (hkq.mono fun k h => h.1)).mono fun k h => hlt k ⟨hB35 k h.1, h.2⟩
            · rw [← hnm]; exact (hsb.keep (hkq.mono fun k h => h.1)).mono fun k h => hlt k ⟨hB35 k h.1, h.2⟩
            · rw [hkl] at hsl'; exact hsl'
            · rw [hkl] at hxk; exact hxk.imp fun _ _ h => h.keep (hkW.mono fun k hk => hk.1) hlt
          rcases hrow.2 with ⟨hX, hob, h0⟩ | ⟨hX, hob⟩
          ·
            subst hX hob
            refine run_ok (sy_cx _ _) 0 [] 60 0 ?_
            refine good_end (av := .agg [.v (.slice a2 ns cap22), .v (.slice a3 nm cap33), .v (.slice none 0 0)]) (by kernel_rfl) (fun γ W v _ hv hH hkW => ?_)
            obtain ⟨x, rfl, hx⟩ := VR_agg3 hv
            exact hfin γ W _ x _ _ rfl hx hH (by kernel_rfl) hkW
          ·
            subst hX hob
            refine run_ok (sy_cx _ _) 0 [] 60 0 ?_
            refine good_end (av := .agg [.v (.slice a2 ns cap22), .v (.slice a3 nm cap33), .slg (gz + 4) 0 l1.length 3]) (by kernel_rfl) (fun γ W v _ hv hH hkW => ?_)
            obtain ⟨x, rfl, hx⟩ := VR_agg3 hv
            exact hfin γ W _ x _ _ rfl hx hH (by kernel_rfl) hkW
        | cons s l3 =>
          have hin : l1.length < nt := by rw [hn2, List.length_cons]; omega
          have hks2 := hzt1
          rw [hI] at hks2
          obtain ⟨c, hc, hcell⟩ := hks2.at_ (fun _ _ h => h.len)
          simp only [thws] at hw1
          obtain ⟨sa, scap, sxs, sb, scap2, sys, rfl, shs, sht, shb, shbt⟩ := hc
          simp only [thw] at hw1
          refine good_take true (b := intLt (l1.length : Int) (nt : Int)) (by kernel_rfl) (lt_t (by omega)) ?_
          refine run_ok (sy_cx _ _) 0 [] 60 0 ?_
          refine good_val (.pointer (some ⟨gB d, oB d + l1.length * 3, none⟩)) (S := Instr.indexAt 24 (.slice d nt cap3) (.int .i64 (l1.length : Int))) (by kernel_rfl) (fun W _ => idx_sl (e := 58) hzs1 (by kernel_rfl) (by kernel_rfl) hin W) ?_
          refine run_ok (sy_cx _ _) 0 [] 60 0 ?_
          refine good_val (.agg #[.string (str s.name), .slice sa s.locals.length scap, .slice sb s.body.length scap2]) (S := Instr.loadAt 58 (.pointer (some ⟨gB d, oB d + l1.length * 3 + 0, none⟩))) (by kernel_rfl) (fun W hk => load_slA (P := Tryz.prog) (ty := 58) (m := 3) (cs := [.string (str s.name), .slice sa s.locals.length scap, .slice sb s.body.length scap2]) hzs1 (by kernel_rfl) (by kernel_rfl) l1.length 0 rfl hcell hk) ?_
          refine run_ok (sy_cx _ _) 0 [] 3 0 ?_
          refine good_lock2 [gz + 3, gz + 5] (gz + 6) (by kernel_rfl) ?_
          intro γ2 B6 w6 hle2 hγ2 hB56 hB6 hk56 hLk2
          have hL2 : ∀ b, hasNat b [gz + 3, gz + 5] = true → ∃ p, γ2 b = some p ∧ B6 p.1 := fun b hb => let ⟨p, h1, h2, _⟩ := hLk2 b hb; ⟨p, h1, h2⟩
          have shs6 := (shs.keep hk56).mono hB56
          have shb6 := (shb.keep hk56).mono hB56
          have shbt6 := shbt.keep hk56 hB56
          refine good_plan sy_mixed (.take 0 (.take 1 (.take 2 (.take 3 (.take 5 (.take 6 (.take 8 (.take 9 (.run 4 (.run 7 (.run 10 (.take 11 (.run 12 (.run 13 (.take 14 .done))))))))))))))) 15 (by kernel_rfl) ?_
          refine p_takes [gz + 3, gz + 5] 1 (Bs := B6) (ws := w6) (by kernel_rfl) (fun _ h => h) hL2 ?_
          refine p_load [gz + 3, gz + 5] X (by kernel_rfl) (by rcases hrow.2 with ⟨h, _⟩ | ⟨h, _⟩ <;> rw [h] <;> kernel_rfl) (Bs := B6) (ws := w6) (by kernel_rfl) (fun _ h => h) hL2 ?_
          refine p_takes [gz + 3, gz + 5] 6 (Bs := B6) (ws := w6) (by kernel_rfl) (fun _ h => h) hL2 ?_
          refine p_run (Keep B6 w6) (by kernel_rfl) (fun _ h => h) (by kernel_rfl) ?_
          refine run_ok (sy_cx _ _) 0 [] 60 0 ?_
          refine p_run (Keep B6 w6) (by kernel_rfl) (fun _ h => h) (by kernel_rfl) ?_
          refine good_fix 30 (gz + 6) 3 (by kernel_rfl) (by kernel_rfl) (by kernel_rfl) (fun k => ?_)
          refine good_appM (.slice (some ⟨k, 0, none⟩) 0 0) (.slice sa s.locals.length scap) [22, 22] (by kernel_rfl) (fun W hk => app_none (e := 67) (sz := 3) (bytes := 32) (by kernel_rfl) (by kernel_rfl) (by kernel_rfl) shs6 (by omega) (by unfold maxLen; omega) W hk) ?_
          rintro wC r w7 B7 hkC ⟨a7, cap7, rfl, hsl7⟩ hbl7 hk67 hB67 hBn7 hB7
          have hS7 : ∀ W, Keep B7 w7 W → Keep B6 w6 W := fun W hk => hk67.trans (hk.mono hB67)
          refine run_ok (sy_cx _ _) 0 [] 60 0 ?_
          refine p_run (Keep B6 w6) (by kernel_rfl) hS7 (by kernel_rfl) ?_
          refine good_callM (sy_cx _ _) [.slice sb s.body.length scap2] (by kernel_rfl) (by kernel_rfl) (by kernel_rfl) (fun W hk => copyStmts_any _ s.body _ _ _ _ W rfl (Nat.lt_succ_self _) (by omega) ((shb6.keep (hS7 W hk)).mono fun k h => Nat.lt_of_lt_of_le (hB6 k h) (hS7 W hk).size) (StsAt_ls.1 (shbt6.keep (hS7 W hk) fun k h => Nat.lt_of_lt_of_le (hB6 k h) (hS7 W hk).size))) ?_
          rintro wD r w8 B8 hkD ⟨a8, cap8, xs8, rfl, hsl8, hst8⟩ hbl8 hk78 hB78 hBn8 hB8
          have hS8 : ∀ W, Keep B8 w8 W → Keep B6 w6 W := fun W hk => hS7 W (hk78.trans (hk.mono hB78))
          refine run_ok (sy_cx _ _) 0 [] 60 0 ?_
          refine p_takes [gz + 3, gz + 5] 1 (Bs := B6) (ws := w6) (by kernel_rfl) hS8 hL2 ?_
          refine p_run (Keep B6 w6) (by kernel_rfl) hS8 (by kernel_rfl) ?_
          refine run_ok (sy_cx _ _) 0 [] 60 0 ?_
          refine p_run (Keep B6 w6) (by kernel_rfl) hS8 (by kernel_rfl) ?_
          refine good_plain (gz + 3) 2 (by kernel_rfl) (fun xold => ?_)
          refine good_app (t := 24) (e := 58) (.slg (gz + 7) 0 1 3) 3 64 (gz + 4) l1.length 0 xk X ob [.string (str s.name), .slice a7 s.locals.length cap7, .slice a8 s.body.length cap8] [27] (by kernel_rfl) (by kernel_rfl) (by kernel_rfl) (by kernel_rfl) hrow (by kernel_rfl) (by kernel_rfl) (by kernel_rfl)
            (by unfold maxLen; omega) (by omega) (by rw [hγ2 _ (by kernel_rfl)]; exact hγ1 _ (by omega)) (by kernel_rfl) (by kernel_rfl) (by kernel_rfl) (by kernel_rfl) (by kernel_rfl) (fun X' ob' hrow' => ?_)
          rcases hrow'.2 with ⟨_, _, h0⟩ | ⟨rfl, rfl⟩
          · omega
          refine run_ok (sy_cx _ _) 0 [] 60 0 ?_
          refine p_takes [gz + 3, gz + 5] 1 (Bs := B6) (ws := w6) (by kernel_rfl) hS8 hL2 ?_
          refine p_done (by kernel_rfl) ?_ (Keep B6 w6) (by kernel_rfl) hS8
          refine good_unlock [gz + 3, gz + 5] (by kernel_rfl) (fun b hb => let ⟨p, h1, _⟩ := hLk2 b hb; ⟨p, h1⟩) ?_
          intro B9 hB98 hB89
          refine run_ok (sy_cx _ _) 0 [] 60 0 ?_
          refine good_set 4 (x := .int .i64 (wrapF .i64 (((l1.length : Nat) : Int) + 1))) (.int .i64 ((((l1 ++ [s]).length : Nat) : Int))) (by kernel_rfl) (by rw [wr64 (n := ((l1.length : Nat) : Int) + 1) (by omega) (by omega)]; congr 1; simp) ?_
          have hlk : ∀ b p, hasNat b [gz + 3, gz + 5] = true → γ2 b = some p → B6 p.1 ∧ ¬ B5 p.1 := fun b p hb hp => by
            obtain ⟨q, h1, h2, h3⟩ := hLk2 b hb
            rw [hp] at h1
            injection h1 with h1
            subst h1
            exact ⟨h2, h3⟩
          have hB68 : ∀ k, B6 k → B8 k := fun k h => hB78 k (hB67 k h)
          have hB59 : ∀ k, B5 k → B9 k := fun k hk => hB89 k (hB68 k (hB56 k hk)) (fun b p hb hp e => (hlk b p hb hp).2 (e ▸ hk))
          have hk68 : Keep B6 w6 w8 := hk67.trans (hk78.mono hB67)
          have hk58 : Keep B5 w5 w8 := hk56.trans (hk68.mono hB56)
          have hz1 := hk05.size
          have hz2 := hk56.size
          have hz3 := hkC.size
          have hz4 := hkD.size
          have hz5 := hk67.size
          have hz6 := hk78.size
          have hnot : ∀ k, w6.heap.size ≤ k → ∀ b p, hasNat b [gz + 3, gz + 5] = true → γ2 b = some p → p.1 ≠ k := fun k hk b p hb hp e => by
            have h1 := hB6 p.1 (hlk b p hb hp).1
            omega
          have hst : ThAt (fun k => B9 k ∧ w.heap.size ≤ k) w8 s [.string (str s.name), .slice a7 s.locals.length cap7, .slice a8 s.body.length cap8] := by
            refine ⟨a7, cap7, sxs, a8, cap8, xs8, rfl, ?_, sht, ?_, ?_⟩
            · exact (hsl7.keep (hk78.mono fun k h => hBn7 k h.1 h.2)).mono fun k h => ⟨hB89 k (hB78 k (hBn7 k h.1 h.2)) (hnot k (by have := h.1; omega)), by have := h.1; omega⟩
            · exact hsl8.mono fun k h => ⟨hB89 k (hBn8 k h.1 h.2) (hnot k (by have := h.1; omega)), by have := h.1; omega⟩
            · exact hst8.keep (Keep.refl _ _) fun k h => ⟨hB89 k (hBn8 k h.1 h.2) (hnot k (by have := h.1; omega)), by have := h.1; omega⟩
          have hI9 : LInv ThAt 58 3 w.heap.size B3 w3 p.threads (gz + 4) ⟨l1 ++ [s], l3, xk ++ [.string (str s.name), .slice a7 s.locals.length cap7, .slice a8 s.body.length cap8], .slg (gz + 4) 0 (l1.length + (0 + 1)) 3, some (.row 58 (xk ++ [.string (str s.name), .slice a7 s.locals.length cap7, .slice a8 s.body.length cap8]))⟩ B9 w8 := by
            refine ⟨by show p.threads = (l1 ++ [_]) ++ l3; rw [hI]; simp, hk35.trans (hk58.mono hB35), fun k hk => hB59 k (hB35 k hk), fun k hk => hB8 k (hB98 k hk), ?_, ?_⟩
            · exact LsAt.snoc (hxk.imp fun _ _ h => h.keep (hk58.mono fun k hk => hk.1) (fun k hk => ⟨hB59 k hk.1, hk.2⟩)) hst
            · show RowAt _ 3 (gz + 4) (l1 ++ [_]).length _ _ _
              rw [List.length_append]
              exact hrow'
          have hγ9 : ∀ b, gz + 6 ≤ b → γ2 b = none := fun b hb => by
            rw [hγ2 b (by cases hq : hasNat b [gz + 3, gz + 5] with
              | false => rfl
              | true => exfalso; simp only [hasNat_iff, List.mem_cons, List.not_mem_nil, or_false] at hq; omega)]
            exact hγ1 b (by omega)
          exact Good.up (good_sub _ [(1, .ptr gz 0), (2, .ptr (gz + 1) 0), (3, .ptr (gz + 3) 0), (4, .v (.int .i64 ((l1 ++ [s]).length : Int)))] [(gz, some (.cells 26 false true true 3 (putL .leaf 0 [.v (.slice a ns cap), .v (.slice b nm cap2), .v (.slice d nt cap3)]))), (gz + 1, some (.cells 26 true true true 3 (putL .leaf 0 [.v (.slice none 0 0), .v (.slice none 0 0), .v (.slice none 0 0)]))), (gz + 3, some (.cells 26 true true true 3 (putL .leaf 0 [.v (.slice a2 ns cap22), .v (.slice a3 nm cap33), .slg (gz + 4) 0 (l1.length + (0 + 1)) 3]))), (gz + 4, some (.row 58 (xk ++ [.string (str s.name), .slice a7 s.locals.length cap7, .slice a8 s.body.length cap8])))] (gz + 5) (by kernel_rfl) (by kernel_rfl) (by kernel_rfl) (by kernel_rfl) (by kernel_rfl) (by kernel_rfl) (fun b hb => hγ1 b (by omega)) (by kernel_rfl) (ih _ B9 w8 hI9 (by show l3.length < (_ :: l3).length; simp))) hle2
      ·
        refine p_run (Keep B1 w1) (by kernel_rfl) hS2 (by kernel_rfl) ?_
        have hys2 := fun W (hk : Keep B2 w2 W) => ((hys.keep (hk01.trans ((hS2 W hk).mono hB01))).mono (fun k h => Nat.lt_of_lt_of_le h (hk01.trans ((hS2 W hk).mono hB01)).size))
        refine good_callM (sy_cx _ _) [.slice b nm cap2] (by kernel_rfl) (by kernel_rfl) (by kernel_rfl) (fun W hk => copyTexts_any b nm cap2 ys W (by omega) (hys2 W hk)) ?_
        rintro wB r w3 B3 hkB ⟨a3, cap33, rfl, hsl3⟩ hbl3 hk23 hB23 hBn3 hB3
        have hS3 : ∀ W, Keep B3 w3 W → Keep B1 w1 W := fun W hk => hS2 W (hk23.trans (hk.mono hB23))
        refine run_ok (sy_cx _ _) 0 [] 60 0 ?_
        refine p_takes [gz] 1 (Bs := B1) (ws := w1) (by kernel_rfl) hS3 hL1 ?_
        refine p_run (Keep B1 w1) (by kernel_rfl) hS3 (by kernel_rfl) ?_
        refine run_ok (sy_cx _ _) 0 [] 60 0 ?_
        refine p_done (by kernel_rfl) ?_ (Keep B1 w1) (by kernel_rfl) hS3
        refine run_ok (sy_cx _ _) 0 [] 60 0 ?_
        refine good_toLp ?_
        have hk03 : Keep (· < w.heap.size) w w3 := hk01.trans (((hk12.trans (hk23.mono hB12))).mono hB01)
        have hB13 : ∀ k, B1 k → B3 k := fun k h => hB23 k (hB12 k h)
        have hszA := hkA.size
        have hszB := hkB.size
        have hsz01 := hk01.size
        have hsz12 := hk12.size
        have hsz23 := hk23.size
        have hsa : SlAt (fun k => B3 k ∧ w.heap.size ≤ k) w3 a2 ns 3 xs := ((hsl2.keep (hk23.mono fun k h => hBn2 k h.1 h.2)).mono fun k h => ⟨hB23 k (hBn2 k h.1 h.2), by have := h.1; omega⟩)
        have hsb : SlAt (fun k => B3 k ∧ w.heap.size ≤ k) w3 a3 nm 1 ys := hsl3.mono fun k h => ⟨hBn3 k h.1 h.2, by have := h.1; omega⟩
        refine good_loopB (fun i : CI Th => i.l2.length) (LInv ThAt 58 3 w.heap.size B3 w3 p.threads (gz + 4)) (fun i => ⟨mkT [(1, .ptr gz 0), (2, .ptr (gz + 1) 0), (3, .ptr (gz + 3) 0), (4, .v (.int .i64 (i.l1.length : Int)))], mkH [(gz, some (.cells 26 false true true 3 (putL .leaf 0 [.v (.slice a ns cap), .v (.slice b nm cap2), .v (.slice d nt cap3)]))), (gz + 1, some (.cells 26 true true true 3 (putL .leaf 0 [.v (.slice none 0 0), .v (.slice none 0 0), .v (.slice none 0 0)]))), (gz + 3, some (.cells 26 true true true 3 (putL .leaf 0 [.v (.slice a2 ns cap22), .v (.slice a3 nm cap33), i.X]))), (gz + 4, i.ob)], gz + 5, []⟩)
          ⟨[], p.threads, [], .v (.slice none 0 0), none⟩ ⟨rfl, Keep.refl _ _, fun k h => h, hB3, rfl, RowAt.nil _ _ _⟩ (by kernel_rfl)
          (fun h => good_sub _ [(1, .ptr gz 0), (2, .ptr (gz + 1) 0), (3, .ptr (gz + 3) 0), (4, .v (.int .i64 (([] : List Th).length : Int)))] [(gz, some (.cells 26 false true true 3 (putL .leaf 0 [.v (.slice a ns cap), .v (.slice b nm cap2), .v (.slice d nt cap3)]))), (gz + 1, some (.cells 26 true true true 3 (putL .leaf 0 [.v (.slice none 0 0), .v (.slice none 0 0), .v (.slice none 0 0)]))), (gz + 3, some (.cells 26 true true true 3 (putL .leaf 0 [.v (.slice a2 ns cap22), .v (.slice a3 nm cap33), .v (.slice none 0 0)]))), (gz + 4, none)] (gz + 5) rfl (by kernel_rfl) (by kernel_rfl) (by kernel_rfl) (by kernel_rfl) (by kernel_rfl) (fun b hb => hγ1 b (by omega)) (by kernel_rfl) h) ?_
        rintro ⟨l1, l2, xk, X, ob⟩ B5 w5 ⟨hI, hk35, hB35, hB5, hxk, hrow⟩ ih
        simp only at hI hxk hrow
        have hn2 : nt = l1.length + l2.length := by rw [hnt, hI, List.length_append]
        have hw1 : thws p.threads = thws l1 + thws l2 := by rw [hI, thws_app]
        have hB05 : ∀ k, k < w.heap.size → B5 k := fun k h => hB35 k (hB13 k (hB01 k h))
        have hk05 : Keep (· < w.heap.size) w w5 := hk03.trans (hk35.mono fun k h => hB13 k (hB01 k h))
        have hzs1 : SlAt B5 w5 d nt 3 zs := (hzs.keep hk05).mono hB05
        have hzt1 := hzt.imp (fun _ _ h => ThAt.keep hk05 hB05 h)
        have hXlt : avLt (gz + 5) X = true := hrow.lt (by omega)
        refine run_ok (sy_cx _ _) 0 [] 60 0 ?_
        cases l2 with
        | nil =>
          have hn3 : nt = l1.length := by rw [hn2]; simp
          refine good_take false (b := intLt (l1.length : Int) (nt : Int)) (by kernel_rfl) (lt_f (by omega)) ?_
          have hfin : ∀ (γ : Gm) (W : World) (v x : Value) (h : Hp) (cc : Nat), v = .agg #[.slice a2 ns cap22, .slice a3 nm cap33, x] → VR γ X x → HR B5 Tryz.prog.globals.size γ h cc W → h.get (gz + 4) = ob → Keep B5 w5 W → (∃ v', Ending.returned v = .returned v' ∧ PgPr p w v' W ∧ Below w.heap.size w W) := by
            intro γ W v x h cc hv hx hH hb hkW
            subst hv
            obtain ⟨hown, _⟩ := row_own (base := w.heap.size) hrow hb hH hx (fun k hk => Nat.le_of_not_lt (fun h => hk (hB05 k h)))
            obtain ⟨a', cap', rfl, _, hsl'⟩ := SlAt.of_own (F := NewIn w W) hown (fun k h1 h2 => ⟨h1, h2⟩)
            have hkl : l1 = p.threads := by rw [hI]; simp
            have hlt : ∀ k, B5 k ∧ w.heap.size ≤ k → NewIn w W k := fun k hk => ⟨hk.2, Nat.lt_of_lt_of_le (hB5 k hk.1) hkW.size⟩
            have hkq : Keep B3 w3 W := hk35.trans (hkW.mono hB35)
            refine ⟨_, rfl, ⟨_, rfl, a2, cap22, xs, a3, cap33, ys, a', cap', xk, by rw [← hns, ← hnm, hkl], ?_, hxt, ?_, hyt, ?_, ?_⟩, (hk05.trans (hkW.mono hB05)).below⟩
            · rw [← hns]; exact (hsa.keep (hkq.mono fun k h => h.1)).mono fun k h => hlt k ⟨hB35 k h.1, h.2⟩
            · rw [← hnm]; exact (hsb.keep (hkq.mono fun k h => h.1)).mono fun k h => hlt k ⟨hB35 k h.1, h.2⟩
            · rw [hkl] at hsl'; exact hsl'
            · rw [hkl] at hxk; exact hxk.imp fun _ _ h => h.keep (hkW.mono fun k hk => hk.1) hlt
          rcases hrow.2 with ⟨hX, hob, h0⟩ | ⟨hX, hob⟩
          ·
            subst hX hob
            refine run_ok (sy_cx _ _) 0 [] 60 0 ?_
            refine good_end (av := .agg [.v (.slice a2 ns cap22), .v (.slice a3 nm cap33), .v (.slice none 0 0)]) (by kernel_rfl) (fun γ W v _ hv hH hkW => ?_)
            obtain ⟨x, rfl, hx⟩ := VR_agg3 hv
            exact hfin γ W _ x _ _ rfl hx hH (by kernel_rfl) hkW
          ·
            subst hX hob
            refine run_ok (sy_cx _ _) 0 [] 60 0 ?_
            refine good_end (av := .agg [.v (.slice a2 ns cap22), .v (.slice a3 nm cap33), .slg (gz + 4) 0 l1.length 3]) (by kernel_rfl) (fun γ W v _ hv hH hkW => ?_)
            obtain ⟨x, rfl, hx⟩ := VR_agg3 hv
            exact hfin γ W _ x _ _ rfl hx hH (by kernel_rfl) hkW
        | cons s l3 =>
          have hin : l1.length < nt := by rw [hn2, List.length_cons]; omega
          have hks2 := hzt1
          rw [hI] at hks2
          obtain ⟨c, hc, hcell⟩ := hks2.at_ (fun _ _ h => h.len)
          simp only [thws] at hw1
          obtain ⟨sa, scap, sxs, sb, scap2, sys, rfl, shs, sht, shb, shbt⟩ := hc
          simp only [thw] at hw1
          refine good_take true (b := intLt (l1.length : Int) (nt : Int)) (by kernel_rfl) (lt_t (by omega)) ?_
          refine run_ok (sy_cx _ _) 0 [] 60 0 ?_
          refine good_val (.pointer (some ⟨gB d, oB d + l1.length * 3, none⟩)) (S := Instr.indexAt 24 (.slice d nt cap3) (.int .i64 (l1.length : Int))) (by kernel_rfl) (fun W _ => idx_sl (e := 58) hzs1 (by kernel_rfl) (by kernel_rfl) hin W) ?_
          refine run_ok (sy_cx _ _) 0 [] 60 0 ?_
          refine good_val (.agg #[.string (str s.name), .slice sa s.locals.length scap, .slice sb s.body.length scap2]) (S := Instr.loadAt 58 (.pointer (some ⟨gB d, oB d + l1.length * 3 + 0, none⟩))) (by kernel_rfl) (fun W hk => load_slA (P := Tryz.prog) (ty := 58) (m := 3) (cs := [.string (str s.name), .slice sa s.locals.length scap, .slice sb s.body.length scap2]) hzs1 (by kernel_rfl) (by kernel_rfl) l1.length 0 rfl hcell hk) ?_
          refine run_ok (sy_cx _ _) 0 [] 3 0 ?_
          refine good_lock2 [gz + 3, gz + 5] (gz + 6) (by kernel_rfl) ?_
          intro γ2 B6 w6 hle2 hγ2 hB56 hB6 hk56 hLk2
          have hL2 : ∀ b, hasNat b [gz + 3, gz + 5] = true → ∃ p, γ2 b = some p ∧ B6 p.1 := fun b hb => let ⟨p, h1, h2, _⟩ := hLk2 b hb; ⟨p, h1, h2⟩
          have shs6 := (shs.keep hk56).mono hB56
          have shb6 := (shb.keep hk56).mono hB56
          have shbt6 := shbt.keep hk56 hB56
          refine good_plan sy_mixed (.take 0 (.take 1 (.take 2 (.take 3 (.take 5 (.take 6 (.take 8 (.take 9 (.run 4 (.run 7 (.run 10 (.take 11 (.run 12 (.run 13 (.take 14 .done))))))))))))))) 15 (by kernel_rfl) ?_
          refine p_takes [gz + 3, gz + 5] 1 (Bs := B6) (ws := w6) (by kernel_rfl) (fun _ h => h) hL2 ?_
          refine p_load [gz + 3, gz + 5] X (by kernel_rfl) (by rcases hrow.2 with ⟨h, _⟩ | ⟨h, _⟩ <;> rw [h] <;> kernel_rfl) (Bs := B6) (ws := w6) (by kernel_rfl) (fun _ h => h) hL2 ?_
          refine p_takes [gz + 3, gz + 5] 6 (Bs := B6) (ws := w6) (by kernel_rfl) (fun _ h => h) hL2 ?_
          refine p_run (Keep B6 w6) (by kernel_rfl) (fun _ h => h) (by kernel_rfl) ?_
          refine run_ok (sy_cx _ _) 0 [] 60 0 ?_
          refine p_run (Keep B6 w6) (by kernel_rfl) (fun _ h => h) (by kernel_rfl) ?_
          refine good_fix 30 (gz + 6) 3 (by kernel_rfl) (by kernel_rfl) (by kernel_rfl) (fun k => ?_)
          refine good_appM (.slice (some ⟨k, 0, none⟩) 0 0) (.slice sa s.locals.length scap) [22, 22] (by kernel_rfl) (fun W hk => app_none (e := 67) (sz := 3) (bytes := 32) (by kernel_rfl) (by kernel_rfl) (by kernel_rfl) shs6 (by omega) (by unfold maxLen; omega) W hk) ?_
          rintro wC r w7 B7 hkC ⟨a7, cap7, rfl, hsl7⟩ hbl7 hk67 hB67 hBn7 hB7
          have hS7 : ∀ W, Keep B7 w7 W → Keep B6 w6 W := fun W hk => hk67.trans (hk.mono hB67)
          refine run_ok (sy_cx _ _) 0 [] 60 0 ?_
          refine p_run (Keep B6 w6) (by kernel_rfl) hS7 (by kernel_rfl) ?_
          refine good_callM (sy_cx _ _) [.slice sb s.body.length scap2] (by kernel_rfl) (by kernel_rfl) (by kernel_rfl) (fun W hk => copyStmts_any _ s.body _ _ _ _ W rfl (Nat.lt_succ_self _) (by omega) ((shb6.keep (hS7 W hk)).mono fun k h => Nat.lt_of_lt_of_le (hB6 k h) (hS7 W hk).size) (StsAt_ls.1 (shbt6.keep (hS7 W hk) fun k h => Nat.lt_of_lt_of_le (hB6 k h) (hS7 W hk).size))) ?_
          rintro wD r w8 B8 hkD ⟨a8, cap8, xs8, rfl, hsl8, hst8⟩ hbl8 hk78 hB78 hBn8 hB8
          have hS8 : ∀ W, Keep B8 w8 W → Keep B6 w6 W := fun W hk => hS7 W (hk78.trans (hk.mono hB78))
          refine run_ok (sy_cx _ _) 0 [] 60 0 ?_
          refine p_takes [gz + 3, gz + 5] 1 (Bs := B6) (ws := w6) (by kernel_rfl) hS8 hL2 ?_
          refine p_run (Keep B6 w6) (by kernel_rfl) hS8 (by kernel_rfl) ?_
          refine run_ok (sy_cx _ _) 0 [] 60 0 ?_
          refine p_run (Keep B6 w6) (by kernel_rfl) hS8 (by kernel_rfl) ?_
          refine good_plain (gz + 3) 2 (by kernel_rfl) (fun xold => ?_)
          refine good_app (t := 24) (e := 58) (.slg (gz + 7) 0 1 3) 3 64 (gz + 4) l1.length 0 xk X ob [.string (str s.name), .slice a7 s.locals.length cap7, .slice a8 s.body.length cap8] [27] (by kernel_rfl) (by kernel_rfl) (by kernel_rfl) (by kernel_rfl) hrow (by kernel_rfl) (by kernel_rfl) (by kernel_rfl)
            (by unfold maxLen; omega) (by omega) (by rw [hγ2 _ (by kernel_rfl)]; exact hγ1 _ (by omega)) (by kernel_rfl) (by kernel_rfl) (by kernel_rfl) (by kernel_rfl) (by kernel_rfl) (fun X' ob' hrow' => ?_)
          rcases hrow'.2 with ⟨_, _, h0⟩ | ⟨rfl, rfl⟩
          · omega
          refine run_ok (sy_cx _ _) 0 [] 60 0 ?_
          refine p_takes [gz + 3, gz + 5] 1 (Bs := B6) (ws := w6) (by kernel_rfl) hS8 hL2 ?_
          refine p_done (by kernel_rfl) ?_ (Keep B6 w6) (by kernel_rfl) hS8
          refine good_unlock [gz + 3, gz + 5] (by kernel_rfl) (fun b hb => let ⟨p, h1, _⟩ := hLk2 b hb; ⟨p, h1⟩) ?_
          intro B9 hB98 hB89
          refine run_ok (sy_cx _ _) 0 [] 60 0 ?_
          refine good_set 4 (x := .int .i64 (wrapF .i64 (((l1.length : Nat) : Int) + 1))) (.int .i64 ((((l1 ++ [s]).length : Nat) : Int))) (by kernel_rfl) (by rw [wr64 (n := ((l1.length : Nat) : Int) + 1) (by omega) (by omega)]; congr 1; simp) ?_
          have hlk : ∀ b p, hasNat b [gz + 3, gz + 5] = true → γ2 b = some p → B6 p.1 ∧ ¬ B5 p.1 := fun b p hb hp => by
            obtain ⟨q, h1, h2, h3⟩ := hLk2 b hb
            rw [hp] at h1
            injection h1 with h1
            subst h1
            exact ⟨h2, h3⟩
          have hB68 : ∀ k, B6 k → B8 k := fun k h => hB78 k (hB67 k h)
          have hB59 : ∀ k, B5 k → B9 k := fun k hk => hB89 k (hB68 k (hB56 k hk)) (fun b p hb hp e => (hlk b p hb hp).2 (e ▸ hk))
          have hk68 : Keep B6 w6 w8 := hk67.trans (hk78.mono hB67)
          have hk58 : Keep B5 w5 w8 := hk56.trans (hk68.mono hB56)
          have hz1 := hk05.size
          have hz2 := hk56.size
          have hz3 := hkC.size
          have hz4 := hkD.size
          have hz5 := hk67.size
          have hz6 := hk78.size
          have hnot : ∀ k, w6.heap.size ≤ k → ∀ b p, hasNat b [gz + 3, gz + 5] = true → γ2 b = some p → p.1 ≠ k := fun k hk b p hb hp e => by
            have h1 := hB6 p.1 (hlk b p hb hp).1
            omega
          have hst : ThAt (fun k => B9 k ∧ w.heap.size ≤ k) w8 s [.string (str s.name), .slice a7 s.locals.length cap7, .slice a8 s.body.length cap8] := by
            refine ⟨a7, cap7, sxs, a8, cap8, xs8, rfl, ?_, sht, ?_, ?_⟩
            · exact (hsl7.keep (hk78.mono fun k h => hBn7 k h.1 h.2)).mono fun k h => ⟨hB89 k (hB78 k (hBn7 k h.1 h.2)) (hnot k (by have := h.1; omega)), by have := h.1; omega⟩
            · exact hsl8.mono fun k h => ⟨hB89 k (hBn8 k h.1 h.2) (hnot k (by have := h.1; omega)), by have := h.1; omega⟩
            · exact hst8.keep (Keep.refl _ _) fun k h => ⟨hB89 k (hBn8 k h.1 h.2) (hnot k (by have := h.1; omega)), by have := h.1; omega⟩
          have hI9 : LInv ThAt 58 3 w.heap.size B3 w3 p.threads (gz + 4) ⟨l1 ++ [s], l3, xk ++ [.string (str s.name), .slice a7 s.locals.length cap7, .slice a8 s.body.length cap8], .slg (gz + 4) 0 (l1.length + (0 + 1)) 3, some (.row 58 (xk ++ [.string (str s.name), .slice a7 s.locals.length cap7, .slice a8 s.body.length cap8]))⟩ B9 w8 := by
            refine ⟨by show p.threads = (l1 ++ [_]) ++ l3; rw [hI]; simp, hk35.trans (hk58.mono hB35), fun k hk => hB59 k (hB35 k hk), fun k hk => hB8 k (hB98 k hk), ?_, ?_⟩
            · exact LsAt.snoc (hxk.imp fun _ _ h => h.keep (hk58.mono fun k hk => hk.1) (fun k hk => ⟨hB59 k hk.1, hk.2⟩)) hst
            · show RowAt _ 3 (gz + 4) (l1 ++ [_]).length _ _ _
              rw [List.length_append]
              exact hrow'
          have hγ9 : ∀ b, gz + 6 ≤ b → γ2 b = none := fun b hb => by
            rw [hγ2 b (by cases hq : hasNat b [gz + 3, gz + 5] with
              | false => rfl
              | true => exfalso; simp only [hasNat_iff, List.mem_cons, List.not_mem_nil, or_false] at hq; omega)]
            exact hγ1 b (by omega)
          exact Good.up (good_sub _ [(1, .ptr gz 0), (2, .ptr (gz + 1) 0), (3, .ptr (gz + 3) 0), (4, .v (.int .i64 ((l1 ++ [s]).length : Int)))] [(gz, some (.cells 26 false true true 3 (putL .leaf 0 [.v (.slice a ns cap), .v (.slice b nm cap2), .v (.slice d nt cap3)]))), (gz + 1, some (.cells 26 true true true 3 (putL .leaf 0 [.v (.slice none 0 0), .v (.slice none 0 0), .v (.slice none 0 0)]))), (gz + 3, some (.cells 26 true true true 3 (putL .leaf 0 [.v (.slice a2 ns cap22), .v (.slice a3 nm cap33), .slg (gz + 4) 0 (l1.length + (0 + 1)) 3]))), (gz + 4, some (.row 58 (xk ++ [.string (str s.name), .slice a7 s.locals.length cap7, .slice a8 s.body.length cap8])))] (gz + 5) (by kernel_rfl) (by kernel_rfl) (by kernel_rfl) (by kernel_rfl) (by kernel_rfl) (by kernel_rfl) (fun b hb => hγ1 b (by omega)) (by kernel_rfl) (ih _ B9 w8 hI9 (by show l3.length < (_ :: l3).length; simp))) hle2
end Go.Proofs.YtiacalnkmnckjaaGreatDoor
end

section
/- What the two Sizes answer. No conditions but those in each theorem. -/
namespace Go.Proofs.YtiacalnkmnckjaaGreatDoor
open Go.RowKit Go.As
set_option linter.unusedVariables false
set_option linter.unusedSimpArgs false

mutual
def siz : St → Nat
  | .mk _ _ _ b l => sizs b + sizs l + 1
def sizs : List St → Nat
  | [] => 0
  | s :: l => siz s + sizs l
end
theorem sizs_app : ∀ (l r : List St), sizs (l ++ r) = sizs l + sizs r
  | [], r => by simp [sizs]
  | e :: l, r => by
    rw [List.cons_append]
    simp only [sizs]
    rw [sizs_app l r]
    omega
mutual
theorem siz_le : ∀ (s : St), siz s ≤ swt s
  | .mk _ _ _ b l => by simp only [siz, swt]; have := sizs_le b; have := sizs_le l; omega
theorem sizs_le : ∀ (l : List St), sizs l ≤ swts l
  | [] => Nat.le_refl _
  | s :: l => by simp only [sizs, swts]; have := siz_le s; have := sizs_le l; omega
end
theorem sizs_len : ∀ (l : List St), l.length ≤ sizs l
  | [] => Nat.zero_le _
  | .mk _ _ _ b r :: l => by
    have := sizs_len l
    simp only [sizs, siz, List.length_cons]
    omega
def tsiz : List Th → Nat
  | [] => 0
  | t :: l => sizs t.body + tsiz l
theorem tsiz_app : ∀ (l r : List Th), tsiz (l ++ r) = tsiz l + tsiz r
  | [], r => by simp [tsiz]
  | e :: l, r => by
    rw [List.cons_append]
    simp only [tsiz]
    rw [tsiz_app l r]
    omega
theorem tsiz_le : ∀ (l : List Th), tsiz l ≤ thws l
  | [] => Nat.le_refl _
  | t :: l => by simp only [tsiz, thws, thw]; have := sizs_le t.body; have := tsiz_le l; omega
def bod : St → Nat
  | .mk _ _ _ b l => sizs b + sizs l
def bods : List St → Nat
  | [] => 0
  | s :: l => bod s + bods l
theorem bods_app : ∀ (l r : List St), bods (l ++ r) = bods l + bods r
  | [], r => by simp [bods]
  | e :: l, r => by
    rw [List.cons_append]
    simp only [bods]
    rw [bods_app l r]
    omega
theorem sizs_bods : ∀ (l : List St), l.length + bods l = sizs l
  | [] => rfl
  | .mk _ _ _ b r :: l => by
    have := sizs_bods l
    simp only [sizs, siz, bods, bod, List.length_cons]
    omega
theorem bods_le (l : List St) : bods l ≤ swts l := by
  have := sizs_bods l
  have := sizs_le l
  omega
open Go.Sy in
set_option maxRecDepth 100000 in
theorem tsize_any : ∀ (N : Nat) (L : List St) (a : Option Addr) (n cap : Nat) (xs : List Value) (w : World), n = L.length → swts L < N → swts L ≤ 1000000000000 → SlAt (· < w.heap.size) w a n 9 xs → LsAt (StAt (· < w.heap.size) w) L xs →
    Calls Tryz.prog 79 #[.slice a n cap] w fun r w' => r = .returned (.int .i64 (sizs L : Nat)) ∧ Below w.heap.size w w' := by
  intro N
  induction N with
  | zero => intro L a n cap xs w hn h; omega
  | succ N ihN =>
    intro L a n cap xs w hn hN hbd hsl hks
    have hnl := swts_len L
    refine Sy.enter (vs := [.slice a n cap]) sy_fine Tryz.func79 rfl (fun γ => norms_LR _) rfl (fun γ0 hγ0 => ?_)
    refine run_ok (sy_cx _ _) 0 [] 60 0 ?_
    refine good_toLp ?_
    refine good_loopI (fun i : List St × List St => i.2.length) (fun i => L = i.1 ++ i.2) (fun i => ⟨mkT [(0, .v (.slice a n cap)), (3, .v (.int .i64 ((n + bods i.1 : Nat) : Int))), (8, .v (.slice a n cap)), (9, .v (.int .i64 (n : Int))), (10, .v (.int .i64 ((i.1.length : Nat) : Int)))], mkH [], gz, []⟩)
      ([], L) rfl (by kernel_rfl)
      (fun h => good_sub _ [(0, .v (.slice a n cap)), (3, .v (.int .i64 ((n + bods ([] : List St) : Nat) : Int))), (8, .v (.slice a n cap)), (9, .v (.int .i64 (n : Int))), (10, .v (.int .i64 ((([] : List St).length : Nat) : Int)))] [] gz rfl (by kernel_rfl) (by kernel_rfl) (by kernel_rfl) (by kernel_rfl) (by kernel_rfl) (fun b hb => hγ0 b hb) (by kernel_rfl) h) ?_
    rintro ⟨l1, l2⟩ hI ih
    have hI : L = l1 ++ l2 := hI
    have hn2 : n = l1.length + l2.length := by rw [hn, hI, List.length_append]
    have hw1 : bods L = bods l1 + bods l2 := by rw [hI, bods_app]
    have hw2 : swts L = swts l1 + swts l2 := by rw [hI, swts_app]
    refine run_ok (sy_cx _ _) 0 [] 60 0 ?_
    cases l2 with
    | nil =>
      have hn3 : n = l1.length := by rw [hn2]; simp
      refine good_take false (b := intLt (l1.length : Int) (n : Int)) (by kernel_rfl) (lt_f (by omega)) ?_
      refine run_ok (sy_cx _ _) 0 [] 60 0 ?_
      refine good_endV (.int .i64 ((n + bods l1 : Nat) : Int)) (by kernel_rfl) (fun W hk => ⟨?_, hk.below⟩)
      have hkl : l1 = L := by rw [hI]; simp
      rw [hkl, hn, sizs_bods]
    | cons s l3 =>
      have hin : l1.length < n := by rw [hn2, List.length_cons]; omega
      have hks2 := StsAt_ls.2 hks
      rw [hI] at hks2
      obtain ⟨c, hc, hcell⟩ := hks2.at_
      simp only [bods] at hw1
      simp only [swts] at hw2
      obtain ⟨ukind, usn, ⟨uop, uty, ubits, uen, uek⟩, ubody, uels⟩ := s
      simp only [StAt] at hc
      obtain ⟨ucs, uba, ubc, ubx, ula, ulc, ulx, rfl, uhe, uhbs, uhbt, uhls, uhlt⟩ := hc
      have uhe0 := uhe
      simp only [ExAt] at uhe0
      obtain ⟨uea, uec, uex, rfl, _⟩ := uhe0
      have hcell : ∀ j v, ([.int .i64 ukind, .string (str usn), .int .u8 uop, .int .u8 uty, .int .u64 ubits, .string (str uen), .slice uea uek.length uec, .slice uba ubody.length ubc, .slice ula uels.length ulc] : List Value)[j]? = some v → xs[l1.length * 9 + j]? = some v := hcell
      have umid : ∀ j v, ([.int .u8 uop, .int .u8 uty, .int .u64 ubits, .string (str uen), .slice uea uek.length uec] : List Value)[j]? = some v → xs[l1.length * 9 + 2 + j]? = some v := cell_part hcell 2 (mid_get [_, _] [.int .u8 uop, .int .u8 uty, .int .u64 ubits, .string (str uen), .slice uea uek.length uec] [_, _])
      simp only [swt] at hw2
      simp only [bod] at hw1
      have hbb := sizs_le ubody
      have hbe := sizs_le uels
      refine good_take true (b := intLt (l1.length : Int) (n : Int)) (by kernel_rfl) (lt_t (by omega)) ?_
      refine run_ok (sy_cx _ _) 0 [] 60 0 ?_
      refine good_val (.pointer (some ⟨gB a, oB a + l1.length * 9, none⟩)) (S := Instr.indexAt 54 (.slice a n cap) (.int .i64 (l1.length : Int))) (by kernel_rfl) (fun W _ => idx_sl (e := 56) hsl (by kernel_rfl) (by kernel_rfl) hin W) ?_
      refine run_ok (sy_cx _ _) 0 [] 60 0 ?_
      refine good_val (.agg #[.int .i64 ukind, .string (str usn), .int .u8 uop, .int .u8 uty, .int .u64 ubits, .string (str uen), .slice uea uek.length uec, .slice uba ubody.length ubc, .slice ula uels.length ulc]) (S := Instr.loadAt 56 (.pointer (some ⟨gB a, oB a + l1.length * 9 + 0, none⟩))) (by kernel_rfl) (fun W hk => load_slA (P := Tryz.prog) (ty := 56) (m := 9) (cs := [.int .i64 ukind, .string (str usn), .int .u8 uop, .int .u8 uty, .int .u64 ubits, .string (str uen), .slice uea uek.length uec, .slice uba ubody.length ubc, .slice ula uels.length ulc]) hsl (by kernel_rfl) (by kernel_rfl) l1.length 0 rfl hcell hk) ?_
      refine run_ok (sy_cx _ _) 0 [] 3 0 ?_
      refine good_draw sy_mixed (by kernel_rfl) ?_
      refine q_run [] 60 ?_
      refine q_callB (sy_cx _ _) [.slice uba ubody.length ubc] (.int .i64 ((sizs ubody : Nat) : Int)) (by kernel_rfl) (by kernel_rfl) (by kernel_rfl) (fun W hk => ihN ubody _ _ _ _ W rfl (by omega) (by omega) ((uhbs.keep hk).mono (fun k h => Nat.lt_of_lt_of_le h hk.size)) (StsAt_ls.1 (uhbt.keep hk (fun k h => Nat.lt_of_lt_of_le h hk.size)))) ?_
      refine q_run [] 60 ?_
      refine q_callB (sy_cx _ _) [.slice ula uels.length ulc] (.int .i64 ((sizs uels : Nat) : Int)) (by kernel_rfl) (by kernel_rfl) (by kernel_rfl) (fun W hk => ihN uels _ _ _ _ W rfl (by omega) (by omega) ((uhls.keep hk).mono (fun k h => Nat.lt_of_lt_of_le h hk.size)) (StsAt_ls.1 (uhlt.keep hk (fun k h => Nat.lt_of_lt_of_le h hk.size)))) ?_
      refine q_run [] 60 ?_
      refine q_end (by kernel_rfl) ?_
      refine run_ok (sy_cx _ _) 0 [] 60 0 ?_
      have hs1 : bods (l1 ++ [(St.mk ukind usn (Ex.mk uop uty ubits uen uek) ubody uels)]) = bods l1 + (sizs ubody + sizs uels) := by rw [bods_app]; simp [bods, bod]
      have hbl := bods_le L
      refine good_set 3 (x := .int .i64 (wrapF .i64 (((n + bods l1 : Nat) : Int) + wrapF .i64 (((sizs ubody : Nat) : Int) + ((sizs uels : Nat) : Int))))) (.int .i64 ((n + bods (l1 ++ [(St.mk ukind usn (Ex.mk uop uty ubits uen uek) ubody uels)]) : Nat) : Int)) (by kernel_rfl) (by rw [wr64 (n := ((sizs ubody : Nat) : Int) + ((sizs uels : Nat) : Int)) (by omega) (by omega), wr64 (n := ((n + bods l1 : Nat) : Int) + (((sizs ubody : Nat) : Int) + ((sizs uels : Nat) : Int))) (by omega) (by omega)]; congr 1; omega) ?_
      refine good_set 10 (x := .int .i64 (wrapF .i64 (((l1.length : Nat) : Int) + 1))) (.int .i64 ((((l1 ++ [(St.mk ukind usn (Ex.mk uop uty ubits uen uek) ubody uels)]).length : Nat) : Int))) (by kernel_rfl) (by rw [wr64 (n := ((l1.length : Nat) : Int) + 1) (by omega) (by omega)]; congr 1; simp) ?_
      exact good_sub _ [(0, .v (.slice a n cap)), (3, .v (.int .i64 ((n + bods (l1 ++ [(St.mk ukind usn (Ex.mk uop uty ubits uen uek) ubody uels)]) : Nat) : Int))), (8, .v (.slice a n cap)), (9, .v (.int .i64 (n : Int))), (10, .v (.int .i64 (((l1 ++ [(St.mk ukind usn (Ex.mk uop uty ubits uen uek) ubody uels)]).length : Nat) : Int)))] [] gz (by kernel_rfl) (by kernel_rfl) (by kernel_rfl) (by kernel_rfl) (by kernel_rfl) (by kernel_rfl) (fun b hb => hγ0 b hb) (by kernel_rfl) (ih (l1 ++ [(St.mk ukind usn (Ex.mk uop uty ubits uen uek) ubody uels)], l3) (by show L = (l1 ++ [_]) ++ l3; rw [hI]; simp) (by show l3.length < (_ :: l3).length; simp))
open Go.Sy in
set_option maxRecDepth 100000 in
theorem rsize_any : ∀ (N : Nat) (L : List St) (a : Option Addr) (n cap : Nat) (xs : List Value) (w : World), n = L.length → swts L < N → swts L ≤ 1000000000000 → SlAt (· < w.heap.size) w a n 9 xs → LsAt (StAt (· < w.heap.size) w) L xs →
    Calls Tryz.prog 80 #[.slice a n cap] w fun r w' => r = .returned (.int .i64 (sizs L : Nat)) ∧ Below w.heap.size w w' := by
  intro N
  induction N with
  | zero => intro L a n cap xs w hn h; omega
  | succ N ihN =>
    intro L a n cap xs w hn hN hbd hsl hks
    have hnl := swts_len L
    refine Sy.enter (vs := [.slice a n cap]) sy_fine Tryz.func80 rfl (fun γ => norms_LR _) rfl (fun γ0 hγ0 => ?_)
    refine run_ok (sy_cx _ _) 0 [] 60 0 ?_
    refine good_toLp ?_
    refine good_loopI (fun i : List St × List St => i.2.length) (fun i => L = i.1 ++ i.2) (fun i => ⟨mkT [(0, .v (.slice a n cap)), (3, .v (.int .i64 ((n + bods i.1 : Nat) : Int))), (4, .v (.int .i64 ((i.1.length : Nat) : Int)))], mkH [], gz, []⟩)
      ([], L) rfl (by kernel_rfl)
      (fun h => good_sub _ [(0, .v (.slice a n cap)), (3, .v (.int .i64 ((n + bods ([] : List St) : Nat) : Int))), (4, .v (.int .i64 ((([] : List St).length : Nat) : Int)))] [] gz rfl (by kernel_rfl) (by kernel_rfl) (by kernel_rfl) (by kernel_rfl) (by kernel_rfl) (fun b hb => hγ0 b hb) (by kernel_rfl) h) ?_
    rintro ⟨l1, l2⟩ hI ih
    have hI : L = l1 ++ l2 := hI
    have hn2 : n = l1.length + l2.length := by rw [hn, hI, List.length_append]
    have hw1 : bods L = bods l1 + bods l2 := by rw [hI, bods_app]
    have hw2 : swts L = swts l1 + swts l2 := by rw [hI, swts_app]
    refine run_ok (sy_cx _ _) 0 [] 60 0 ?_
    cases l2 with
    | nil =>
      have hn3 : n = l1.length := by rw [hn2]; simp
      refine good_take false (b := intLt (l1.length : Int) (n : Int)) (by kernel_rfl) (lt_f (by omega)) ?_
      refine run_ok (sy_cx _ _) 0 [] 60 0 ?_
      refine good_endV (.int .i64 ((n + bods l1 : Nat) : Int)) (by kernel_rfl) (fun W hk => ⟨?_, hk.below⟩)
      have hkl : l1 = L := by rw [hI]; simp
      rw [hkl, hn, sizs_bods]
    | cons s l3 =>
      have hin : l1.length < n := by rw [hn2, List.length_cons]; omega
      have hks2 := StsAt_ls.2 hks
      rw [hI] at hks2
      obtain ⟨c, hc, hcell⟩ := hks2.at_
      simp only [bods] at hw1
      simp only [swts] at hw2
      obtain ⟨ukind, usn, ⟨uop, uty, ubits, uen, uek⟩, ubody, uels⟩ := s
      simp only [StAt] at hc
      obtain ⟨ucs, uba, ubc, ubx, ula, ulc, ulx, rfl, uhe, uhbs, uhbt, uhls, uhlt⟩ := hc
      have uhe0 := uhe
      simp only [ExAt] at uhe0
      obtain ⟨uea, uec, uex, rfl, _⟩ := uhe0
      have hcell : ∀ j v, ([.int .i64 ukind, .string (str usn), .int .u8 uop, .int .u8 uty, .int .u64 ubits, .string (str uen), .slice uea uek.length uec, .slice uba ubody.length ubc, .slice ula uels.length ulc] : List Value)[j]? = some v → xs[l1.length * 9 + j]? = some v := hcell
      have umid : ∀ j v, ([.int .u8 uop, .int .u8 uty, .int .u64 ubits, .string (str uen), .slice uea uek.length uec] : List Value)[j]? = some v → xs[l1.length * 9 + 2 + j]? = some v := cell_part hcell 2 (mid_get [_, _] [.int .u8 uop, .int .u8 uty, .int .u64 ubits, .string (str uen), .slice uea uek.length uec] [_, _])
      simp only [swt] at hw2
      simp only [bod] at hw1
      have hbb := sizs_le ubody
      have hbe := sizs_le uels
      refine good_take true (b := intLt (l1.length : Int) (n : Int)) (by kernel_rfl) (lt_t (by omega)) ?_
      refine run_ok (sy_cx _ _) 0 [] 60 0 ?_
      refine good_draw sy_mixed (by kernel_rfl) ?_
      refine q_run [] 60 ?_
      refine q_val (.pointer (some ⟨gB a, oB a + l1.length * 9, none⟩)) (S := Instr.indexAt 54 (.slice a n cap) (.int .i64 (l1.length : Int))) (by kernel_rfl) (fun W _ => idx_sl (e := 56) hsl (by kernel_rfl) (by kernel_rfl) hin W) ?_
      refine q_run [] 60 ?_
      refine q_val (.slice uba ubody.length ubc) (S := Instr.loadAt 54 (.pointer (some ⟨gB a, oB a + l1.length * 9 + 7, none⟩))) (by kernel_rfl) (fun W hk => load_sl hsl (by kernel_rfl) l1.length 7 (hcell 7 _ rfl) hk) ?_
      refine q_run [] 60 ?_
      refine q_callB (sy_cx _ _) [.slice uba ubody.length ubc] (.int .i64 ((sizs ubody : Nat) : Int)) (by kernel_rfl) (by kernel_rfl) (by kernel_rfl) (fun W hk => ihN ubody _ _ _ _ W rfl (by omega) (by omega) ((uhbs.keep hk).mono (fun k h => Nat.lt_of_lt_of_le h hk.size)) (StsAt_ls.1 (uhbt.keep hk (fun k h => Nat.lt_of_lt_of_le h hk.size)))) ?_
      refine q_run [] 60 ?_
      refine q_val (.pointer (some ⟨gB a, oB a + l1.length * 9, none⟩)) (S := Instr.indexAt 54 (.slice a n cap) (.int .i64 (l1.length : Int))) (by kernel_rfl) (fun W _ => idx_sl (e := 56) hsl (by kernel_rfl) (by kernel_rfl) hin W) ?_
      refine q_run [] 60 ?_
      refine q_val (.slice ula uels.length ulc) (S := Instr.loadAt 54 (.pointer (some ⟨gB a, oB a + l1.length * 9 + 8, none⟩))) (by kernel_rfl) (fun W hk => load_sl hsl (by kernel_rfl) l1.length 8 (hcell 8 _ rfl) hk) ?_
      refine q_run [] 60 ?_
      refine q_callB (sy_cx _ _) [.slice ula uels.length ulc] (.int .i64 ((sizs uels : Nat) : Int)) (by kernel_rfl) (by kernel_rfl) (by kernel_rfl) (fun W hk => ihN uels _ _ _ _ W rfl (by omega) (by omega) ((uhls.keep hk).mono (fun k h => Nat.lt_of_lt_of_le h hk.size)) (StsAt_ls.1 (uhlt.keep hk (fun k h => Nat.lt_of_lt_of_le h hk.size)))) ?_
      refine q_run [] 60 ?_
      refine q_end (by kernel_rfl) ?_
      refine run_ok (sy_cx _ _) 0 [] 60 0 ?_
      have hs1 : bods (l1 ++ [(St.mk ukind usn (Ex.mk uop uty ubits uen uek) ubody uels)]) = bods l1 + (sizs ubody + sizs uels) := by rw [bods_app]; simp [bods, bod]
      have hbl := bods_le L
      refine good_set 3 (x := .int .i64 (wrapF .i64 (wrapF .i64 (((n + bods l1 : Nat) : Int) + ((sizs ubody : Nat) : Int)) + ((sizs uels : Nat) : Int)))) (.int .i64 (((n + bods (l1 ++ [(St.mk ukind usn (Ex.mk uop uty ubits uen uek) ubody uels)]) : Nat) : Int))) (by kernel_rfl) (by rw [wr64 (n := ((n + bods l1 : Nat) : Int) + ((sizs ubody : Nat) : Int)) (by omega) (by omega), wr64 (n := ((n + bods l1 : Nat) : Int) + ((sizs ubody : Nat) : Int) + ((sizs uels : Nat) : Int)) (by omega) (by omega)]; congr 1; omega) ?_
      refine good_set 4 (x := .int .i64 (wrapF .i64 (((l1.length : Nat) : Int) + 1))) (.int .i64 ((((l1 ++ [(St.mk ukind usn (Ex.mk uop uty ubits uen uek) ubody uels)]).length : Nat) : Int))) (by kernel_rfl) (by rw [wr64 (n := ((l1.length : Nat) : Int) + 1) (by omega) (by omega)]; congr 1; simp) ?_
      exact good_sub _ [(0, .v (.slice a n cap)), (3, .v (.int .i64 ((n + bods (l1 ++ [(St.mk ukind usn (Ex.mk uop uty ubits uen uek) ubody uels)]) : Nat) : Int))), (4, .v (.int .i64 (((l1 ++ [(St.mk ukind usn (Ex.mk uop uty ubits uen uek) ubody uels)]).length : Nat) : Int)))] [] gz (by kernel_rfl) (by kernel_rfl) (by kernel_rfl) (by kernel_rfl) (by kernel_rfl) (by kernel_rfl) (fun b hb => hγ0 b hb) (by kernel_rfl) (ih (l1 ++ [(St.mk ukind usn (Ex.mk uop uty ubits uen uek) ubody uels)], l3) (by show L = (l1 ++ [_]) ++ l3; rw [hI]; simp) (by show l3.length < (_ :: l3).length; simp))
open Go.Sy in
set_option maxRecDepth 100000 in
theorem tSize_any (p : Pg) (cs : List Value) (w : World) (hbd0 : pwt p ≤ 1000000000000) (hp : PgAt (· < w.heap.size) w p cs) :
    Calls Tryz.prog 31 #[.agg cs.toArray] w fun r w' => r = .returned (.int .i64 (tsiz p.threads : Nat)) ∧ Below w.heap.size w w' := by
  obtain ⟨a, cap, xs, b, cap2, ys, d, cap3, zs, rfl, hxs, hxt, hys, hyt, hzs, hzt⟩ := hp
  obtain ⟨ns, hns⟩ : ∃ n, n = p.shared.length := ⟨_, rfl⟩
  obtain ⟨nm, hnm⟩ : ∃ n, n = p.mutexes.length := ⟨_, rfl⟩
  obtain ⟨nt, hnt⟩ : ∃ n, n = p.threads.length := ⟨_, rfl⟩
  have hbd : ns + nm + thws p.threads ≤ 1000000000000 := by rw [hns, hnm]; exact hbd0
  have hnl := thws_len p.threads
  rw [← hns, ← hnm, ← hnt]
  rw [← hnt] at hzs
  refine Sy.enter (vs := [.agg #[.slice a ns cap, .slice b nm cap2, .slice d nt cap3]]) sy_fine Tryz.func31 rfl (fun γ => norms_LR _) rfl (fun γ0 hγ0 => ?_)
  refine run_ok (sy_cx _ _) 0 [] 60 0 ?_
  refine good_toLp ?_
  refine good_loopI (fun i : List Th × List Th => i.2.length) (fun i => p.threads = i.1 ++ i.2) (fun i => ⟨mkT [(3, .v (.int .i64 ((tsiz i.1 : Nat) : Int))), (7, .v (.slice d nt cap3)), (8, .v (.int .i64 (nt : Int))), (9, .v (.int .i64 ((i.1.length : Nat) : Int)))], mkH [(gz, some (.cells 26 true true true 3 (putL .leaf 0 [.v (.slice a ns cap), .v (.slice b nm cap2), .v (.slice d nt cap3)])))], gz + 1, []⟩)
    ([], p.threads) rfl (by kernel_rfl)
    (fun h => good_sub _ [(3, .v (.int .i64 ((tsiz ([] : List Th) : Nat) : Int))), (7, .v (.slice d nt cap3)), (8, .v (.int .i64 (nt : Int))), (9, .v (.int .i64 ((([] : List Th).length : Nat) : Int)))] [(gz, some (.cells 26 true true true 3 (putL .leaf 0 [.v (.slice a ns cap), .v (.slice b nm cap2), .v (.slice d nt cap3)])))] (gz + 1) rfl (by kernel_rfl) (by kernel_rfl) (by kernel_rfl) (by kernel_rfl) (by kernel_rfl) (fun b hb => hγ0 b (Nat.le_trans (Nat.le_add_right _ _) hb)) (by kernel_rfl) h) ?_
  rintro ⟨l1, l2⟩ hI ih
  have hI : p.threads = l1 ++ l2 := hI
  have hn2 : nt = l1.length + l2.length := by rw [hnt, hI, List.length_append]
  have hw1 : thws p.threads = thws l1 + thws l2 := by rw [hI, thws_app]
  have hw2 := tsiz_le l1
  refine run_ok (sy_cx _ _) 0 [] 60 0 ?_
  cases l2 with
  | nil =>
    have hn3 : nt = l1.length := by rw [hn2]; simp
    refine good_take false (b := intLt (l1.length : Int) (nt : Int)) (by kernel_rfl) (lt_f (by omega)) ?_
    refine run_ok (sy_cx _ _) 0 [] 60 0 ?_
    refine good_endV (.int .i64 ((tsiz l1 : Nat) : Int)) (by kernel_rfl) (fun W hk => ⟨?_, hk.below⟩)
    rw [hI]
    simp
  | cons s l3 =>
    have hin : l1.length < nt := by rw [hn2, List.length_cons]; omega
    have hks2 := hzt
    rw [hI] at hks2
    obtain ⟨c, hc, hcell⟩ := hks2.at_ (fun _ _ h => h.len)
    simp only [thws] at hw1
    obtain ⟨sa, scap, sxs, sb, scap2, sys, rfl, shs, sht, shb, shbt⟩ := hc
    simp only [thw] at hw1
    have hbb := sizs_le s.body
    refine good_take true (b := intLt (l1.length : Int) (nt : Int)) (by kernel_rfl) (lt_t (by omega)) ?_
    refine run_ok (sy_cx _ _) 0 [] 60 0 ?_
    refine good_val (.pointer (some ⟨gB d, oB d + l1.length * 3, none⟩)) (S := Instr.indexAt 24 (.slice d nt cap3) (.int .i64 (l1.length : Int))) (by kernel_rfl) (fun W _ => idx_sl (e := 58) hzs (by kernel_rfl) (by kernel_rfl) hin W) ?_
    refine run_ok (sy_cx _ _) 0 [] 60 0 ?_
    refine good_val (.agg #[.string (str s.name), .slice sa s.locals.length scap, .slice sb s.body.length scap2]) (S := Instr.loadAt 58 (.pointer (some ⟨gB d, oB d + l1.length * 3 + 0, none⟩))) (by kernel_rfl) (fun W hk => load_slA (P := Tryz.prog) (ty := 58) (m := 3) (cs := [.string (str s.name), .slice sa s.locals.length scap, .slice sb s.body.length scap2]) hzs (by kernel_rfl) (by kernel_rfl) l1.length 0 rfl hcell hk) ?_
    refine run_ok (sy_cx _ _) 0 [] 60 0 ?_
    refine good_callB (sy_cx _ _) [.slice sb s.body.length scap2] (.int .i64 ((sizs s.body : Nat) : Int)) (by kernel_rfl) (by kernel_rfl) (by kernel_rfl) (fun W hk => tsize_any _ s.body _ _ _ _ W rfl (Nat.lt_succ_self _) (by omega) ((shb.keep hk).mono (fun k h => Nat.lt_of_lt_of_le h hk.size)) (StsAt_ls.1 (shbt.keep hk (fun k h => Nat.lt_of_lt_of_le h hk.size)))) ?_
    refine run_ok (sy_cx _ _) 0 [] 60 0 ?_
    have hs1 : tsiz (l1 ++ [s]) = tsiz l1 + sizs s.body := by rw [tsiz_app]; simp [tsiz]
    refine good_set 3 (x := .int .i64 (wrapF .i64 (((tsiz l1 : Nat) : Int) + ((sizs s.body : Nat) : Int)))) (.int .i64 (((tsiz (l1 ++ [s]) : Nat) : Int))) (by kernel_rfl) (by rw [wr64 (n := ((tsiz l1 : Nat) : Int) + ((sizs s.body : Nat) : Int)) (by omega) (by omega)]; congr 1; omega) ?_
    refine good_set 9 (x := .int .i64 (wrapF .i64 (((l1.length : Nat) : Int) + 1))) (.int .i64 ((((l1 ++ [s]).length : Nat) : Int))) (by kernel_rfl) (by rw [wr64 (n := ((l1.length : Nat) : Int) + 1) (by omega) (by omega)]; congr 1; simp) ?_
    exact good_sub _ [(3, .v (.int .i64 ((tsiz (l1 ++ [s]) : Nat) : Int))), (7, .v (.slice d nt cap3)), (8, .v (.int .i64 (nt : Int))), (9, .v (.int .i64 (((l1 ++ [s]).length : Nat) : Int)))] [(gz, some (.cells 26 true true true 3 (putL .leaf 0 [.v (.slice a ns cap), .v (.slice b nm cap2), .v (.slice d nt cap3)])))] (gz + 1) (by kernel_rfl) (by kernel_rfl) (by kernel_rfl) (by kernel_rfl) (by kernel_rfl) (by kernel_rfl) (fun b hb => hγ0 b (Nat.le_trans (Nat.le_add_right _ _) hb)) (by kernel_rfl) (ih (l1 ++ [s], l3) (by show p.threads = (l1 ++ [_]) ++ l3; rw [hI]; simp) (by show l3.length < (_ :: l3).length; simp))
open Go.Sy in
set_option maxRecDepth 100000 in
theorem rSize_any (p : Pg) (cs : List Value) (w : World) (hbd0 : pwt p ≤ 1000000000000) (hp : PgAt (· < w.heap.size) w p cs) :
    Calls Tryz.prog 32 #[.agg cs.toArray] w fun r w' => r = .returned (.int .i64 (tsiz p.threads : Nat)) ∧ Below w.heap.size w w' := by
  obtain ⟨a, cap, xs, b, cap2, ys, d, cap3, zs, rfl, hxs, hxt, hys, hyt, hzs, hzt⟩ := hp
  obtain ⟨ns, hns⟩ : ∃ n, n = p.shared.length := ⟨_, rfl⟩
  obtain ⟨nm, hnm⟩ : ∃ n, n = p.mutexes.length := ⟨_, rfl⟩
  obtain ⟨nt, hnt⟩ : ∃ n, n = p.threads.length := ⟨_, rfl⟩
  have hbd : ns + nm + thws p.threads ≤ 1000000000000 := by rw [hns, hnm]; exact hbd0
  have hnl := thws_len p.threads
  rw [← hns, ← hnm, ← hnt]
  rw [← hnt] at hzs
  refine Sy.enter (vs := [.agg #[.slice a ns cap, .slice b nm cap2, .slice d nt cap3]]) sy_fine Tryz.func32 rfl (fun γ => norms_LR _) rfl (fun γ0 hγ0 => ?_)
  refine run_ok (sy_cx _ _) 0 [] 60 0 ?_
  refine good_toLp ?_
  refine good_loopI (fun i : List Th × List Th => i.2.length) (fun i => p.threads = i.1 ++ i.2) (fun i => ⟨mkT [(1, .ptr gz 0), (3, .v (.int .i64 ((tsiz i.1 : Nat) : Int))), (4, .v (.int .i64 ((i.1.length : Nat) : Int)))], mkH [(gz, some (.cells 26 true true true 3 (putL .leaf 0 [.v (.slice a ns cap), .v (.slice b nm cap2), .v (.slice d nt cap3)])))], gz + 1, []⟩)
    ([], p.threads) rfl (by kernel_rfl)
    (fun h => good_sub _ [(1, .ptr gz 0), (3, .v (.int .i64 ((tsiz ([] : List Th) : Nat) : Int))), (4, .v (.int .i64 ((([] : List Th).length : Nat) : Int)))] [(gz, some (.cells 26 true true true 3 (putL .leaf 0 [.v (.slice a ns cap), .v (.slice b nm cap2), .v (.slice d nt cap3)])))] (gz + 1) rfl (by kernel_rfl) (by kernel_rfl) (by kernel_rfl) (by kernel_rfl) (by kernel_rfl) (fun b hb => hγ0 b (Nat.le_trans (Nat.le_add_right _ _) hb)) (by kernel_rfl) h) ?_
  rintro ⟨l1, l2⟩ hI ih
  have hI : p.threads = l1 ++ l2 := hI
  have hn2 : nt = l1.length + l2.length := by rw [hnt, hI, List.length_append]
  have hw1 : thws p.threads = thws l1 + thws l2 := by rw [hI, thws_app]
  have hw2 := tsiz_le l1
  refine run_ok (sy_cx _ _) 0 [] 60 0 ?_
  cases l2 with
  | nil =>
    have hn3 : nt = l1.length := by rw [hn2]; simp
    refine good_take false (b := intLt (l1.length : Int) (nt : Int)) (by kernel_rfl) (lt_f (by omega)) ?_
    refine run_ok (sy_cx _ _) 0 [] 60 0 ?_
    refine good_endV (.int .i64 ((tsiz l1 : Nat) : Int)) (by kernel_rfl) (fun W hk => ⟨?_, hk.below⟩)
    rw [hI]
    simp
  | cons s l3 =>
    have hin : l1.length < nt := by rw [hn2, List.length_cons]; omega
    have hks2 := hzt
    rw [hI] at hks2
    obtain ⟨c, hc, hcell⟩ := hks2.at_ (fun _ _ h => h.len)
    simp only [thws] at hw1
    obtain ⟨sa, scap, sxs, sb, scap2, sys, rfl, shs, sht, shb, shbt⟩ := hc
    simp only [thw] at hw1
    have hbb := sizs_le s.body
    refine good_take true (b := intLt (l1.length : Int) (nt : Int)) (by kernel_rfl) (lt_t (by omega)) ?_
    refine run_ok (sy_cx _ _) 0 [] 60 0 ?_
    refine good_val (.pointer (some ⟨gB d, oB d + l1.length * 3, none⟩)) (S := Instr.indexAt 24 (.slice d nt cap3) (.int .i64 (l1.length : Int))) (by kernel_rfl) (fun W _ => idx_sl (e := 58) hzs (by kernel_rfl) (by kernel_rfl) hin W) ?_
    refine run_ok (sy_cx _ _) 0 [] 60 0 ?_
    refine good_val (.slice sb s.body.length scap2) (S := Instr.loadAt 54 (.pointer (some ⟨gB d, oB d + l1.length * 3 + 2, none⟩))) (by kernel_rfl) (fun W hk => load_sl hzs (by kernel_rfl) l1.length 2 (hcell 2 _ rfl) hk) ?_
    refine run_ok (sy_cx _ _) 0 [] 60 0 ?_
    refine good_callB (sy_cx _ _) [.slice sb s.body.length scap2] (.int .i64 ((sizs s.body : Nat) : Int)) (by kernel_rfl) (by kernel_rfl) (by kernel_rfl) (fun W hk => rsize_any _ s.body _ _ _ _ W rfl (Nat.lt_succ_self _) (by omega) ((shb.keep hk).mono (fun k h => Nat.lt_of_lt_of_le h hk.size)) (StsAt_ls.1 (shbt.keep hk (fun k h => Nat.lt_of_lt_of_le h hk.size)))) ?_
    refine run_ok (sy_cx _ _) 0 [] 60 0 ?_
    have hs1 : tsiz (l1 ++ [s]) = tsiz l1 + sizs s.body := by rw [tsiz_app]; simp [tsiz]
    refine good_set 3 (x := .int .i64 (wrapF .i64 (((tsiz l1 : Nat) : Int) + ((sizs s.body : Nat) : Int)))) (.int .i64 (((tsiz (l1 ++ [s]) : Nat) : Int))) (by kernel_rfl) (by rw [wr64 (n := ((tsiz l1 : Nat) : Int) + ((sizs s.body : Nat) : Int)) (by omega) (by omega)]; congr 1; omega) ?_
    refine good_set 4 (x := .int .i64 (wrapF .i64 (((l1.length : Nat) : Int) + 1))) (.int .i64 ((((l1 ++ [s]).length : Nat) : Int))) (by kernel_rfl) (by rw [wr64 (n := ((l1.length : Nat) : Int) + 1) (by omega) (by omega)]; congr 1; simp) ?_
    exact good_sub _ [(1, .ptr gz 0), (3, .v (.int .i64 ((tsiz (l1 ++ [s]) : Nat) : Int))), (4, .v (.int .i64 (((l1 ++ [s]).length : Nat) : Int)))] [(gz, some (.cells 26 true true true 3 (putL .leaf 0 [.v (.slice a ns cap), .v (.slice b nm cap2), .v (.slice d nt cap3)])))] (gz + 1) (by kernel_rfl) (by kernel_rfl) (by kernel_rfl) (by kernel_rfl) (by kernel_rfl) (by kernel_rfl) (fun b hb => hγ0 b (Nat.le_trans (Nat.le_add_right _ _) hb)) (by kernel_rfl) (ih (l1 ++ [s], l3) (by show p.threads = (l1 ++ [_]) ++ l3; rw [hI]; simp) (by show l3.length < (_ :: l3).length; simp))
end Go.Proofs.YtiacalnkmnckjaaGreatDoor
end
