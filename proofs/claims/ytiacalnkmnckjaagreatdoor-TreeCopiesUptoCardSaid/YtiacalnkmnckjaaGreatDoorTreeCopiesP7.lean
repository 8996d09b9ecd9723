/- Texts of this proof, one behind the other. Conditions: those in each theorem. -/
import Derived.Test.YtiacalnkmnckjaaGreatDoorTreeCopiesP6
section
/- What SameStmts of the statements' kit answers. No conditions but those in each theorem. -/
namespace Go.Proofs.YtiacalnkmnckjaaGreatDoor
open Go.RowKit Go.As
set_option linter.unusedVariables false
set_option linter.unusedSimpArgs false

open Go.Sy in
set_option maxRecDepth 100000 in
theorem sameStmts_any : ∀ (N : Nat) (L M : List St) (a1 a2 : Option Addr) (n1 n2 cap1 cap2 : Nat) (xs1 xs2 : List Value) (w : World), n1 = L.length → n2 = M.length → swts L < N → swts L ≤ 1099511627776 →
    Sy.SlAt (· < w.heap.size) w a1 n1 9 xs1 → Sy.SlAt (· < w.heap.size) w a2 n2 9 xs2 → LsAt (StAt (· < w.heap.size) w) L xs1 → LsAt (StAt (· < w.heap.size) w) M xs2 →
    Calls Tryz.prog 68 #[.slice a1 n1 cap1, .slice a2 n2 cap2] w fun r w' => r = .returned (.bool (sameB L M)) ∧ Below w.heap.size w w' := by
  intro N
  induction N with
  | zero => intro L M a1 a2 n1 n2 cap1 cap2 xs1 xs2 w hn1 hn2 h; omega
  | succ N ihN =>
  intro L M a1 a2 n1 n2 cap1 cap2 xs1 xs2 w hn1 hn2 hN hbd hsl1 hsl2 hks1 hks2
  have hnl := swts_len L
  refine Sy.enter (vs := [.slice a1 n1 cap1, .slice a2 n2 cap2]) sy_fine Tryz.func68 rfl (fun γ => norms_LR _) rfl (fun γ0 hγ0 => ?_)
  refine run_ok (sy_cx _ _) 0 [] 60 0 ?_
  refine good_cond (b := !(intEq (n1 : Int) (n2 : Int))) (by kernel_rfl) (fun hnn => ?_) (fun hnn => ?_)
  ·
    refine run_ok (sy_cx _ _) 0 [] 60 2 ?_
    refine good_endV (.bool false) (by kernel_rfl) (fun W hk => ⟨?_, hk.below⟩)
    rw [sameB_f]
    intro h
    rw [intEq_eq] at hnn; simp_all
  have hnn1 : n1 = n2 := by rw [intEq_eq] at hnn; have : (n1 : Int) = (n2 : Int) := (by simpa using hnn); omega
  refine run_ok (sy_cx _ _) 0 [] 60 0 ?_
  refine good_toLp ?_
  refine good_loopI (fun i : List St × List St × List St => i.2.1.length) (fun i => L = i.1 ++ i.2.1 ∧ M = i.1 ++ i.2.2) (fun i => ⟨mkT [(0, .v (.slice a1 n1 cap1)), (1, .v (.slice a2 n2 cap2)), (5, .v (.int .i64 (i.1.length : Int)))], mkH [], gz, []⟩)
    ([], L, M) ⟨rfl, rfl⟩ (by kernel_rfl)
    (fun h => good_sub _ [(0, .v (.slice a1 n1 cap1)), (1, .v (.slice a2 n2 cap2)), (5, .v (.int .i64 (([] : List St).length : Int)))] [] gz rfl (by kernel_rfl) (by kernel_rfl) (by kernel_rfl) (by kernel_rfl) (by kernel_rfl) (fun b hb => hγ0 b hb) (by kernel_rfl) h) ?_
  rintro ⟨l1, l2, m2⟩ ⟨hI1, hI2⟩ ih
  simp only at hI1 hI2
  have hq1 : n1 = l1.length + l2.length := by rw [hn1, hI1, List.length_append]
  have hq2 : n2 = l1.length + m2.length := by rw [hn2, hI2, List.length_append]
  refine run_ok (sy_cx _ _) 0 [] 60 0 ?_
  cases l2 with
  | nil =>
    obtain rfl : m2 = [] := List.eq_nil_of_length_eq_zero (by simp only [List.length_nil] at hq1; omega)
    refine good_take false (b := intLt (l1.length : Int) (n1 : Int)) (by kernel_rfl) (lt_f (by rw [hq1]; simp)) ?_
    refine run_ok (sy_cx _ _) 0 [] 60 0 ?_
    refine good_endV (.bool true) (by kernel_rfl) (fun W hk => ⟨?_, hk.below⟩)
    rw [sameB_t.2 (by rw [hI1, hI2])]
  | cons x l3 =>
    obtain ⟨y, m3, rfl⟩ : ∃ y m3, m2 = y :: m3 := by
      cases m2 with
      | nil => simp only [List.length_nil, List.length_cons] at hq1 hq2; omega
      | cons a b => exact ⟨a, b, rfl⟩
    have hin1 : l1.length < n1 := by rw [hq1, List.length_cons]; omega
    have hin2 : l1.length < n2 := by omega
    have hks1' := hks1
    have hks2' := hks2
    rw [hI1] at hks1'
    rw [hI2] at hks2'
    obtain ⟨c1, hc1, hcell1⟩ := hks1'.at_ (fun _ _ h => h.len)
    obtain ⟨c2, hc2, hcell2⟩ := hks2'.at_ (fun _ _ h => h.len)
    refine good_take true (b := intLt (l1.length : Int) (n1 : Int)) (by kernel_rfl) (lt_t (by omega)) ?_
    refine run_ok (sy_cx _ _) 0 [] 60 0 ?_
    have hwl : swts L = swts l1 + (swt x + swts l3) := by rw [hI1, swts_app]; simp [swts]
    obtain ⟨ukind, usn, ⟨uop, uty, ubits, uen, uek⟩, ubody, uels⟩ := x
    simp only [StAt] at hc1
    obtain ⟨ucs, uba, ubc, ubx, ula, ulc, ulx, rfl, uhe, uhbs, uhbt, uhls, uhlt⟩ := hc1
    have uhe0 := uhe
    simp only [ExAt] at uhe0
    obtain ⟨uea, uec, uex, rfl, _⟩ := uhe0
    have hcell1 : ∀ j v, ([.int .i64 ukind, .string (str usn), .int .u8 uop, .int .u8 uty, .int .u64 ubits, .string (str uen), .slice uea uek.length uec, .slice uba ubody.length ubc, .slice ula uels.length ulc] : List Value)[j]? = some v → xs1[l1.length * 9 + j]? = some v := hcell1
    have umid : ∀ j v, ([.int .u8 uop, .int .u8 uty, .int .u64 ubits, .string (str uen), .slice uea uek.length uec] : List Value)[j]? = some v → xs1[l1.length * 9 + 2 + j]? = some v := cell_part hcell1 2 (mid_get [_, _] [.int .u8 uop, .int .u8 uty, .int .u64 ubits, .string (str uen), .slice uea uek.length uec] [_, _])
    obtain ⟨vkind, vsn, ⟨vop, vty, vbits, ven, vek⟩, vbody, vels⟩ := y
    simp only [StAt] at hc2
    obtain ⟨vcs, vba, vbc, vbx, vla, vlc, vlx, rfl, vhe, vhbs, vhbt, vhls, vhlt⟩ := hc2
    have vhe0 := vhe
    simp only [ExAt] at vhe0
    obtain ⟨vea, vec, vex, rfl, _⟩ := vhe0
    have hcell2 : ∀ j v, ([.int .i64 vkind, .string (str vsn), .int .u8 vop, .int .u8 vty, .int .u64 vbits, .string (str ven), .slice vea vek.length vec, .slice vba vbody.length vbc, .slice vla vels.length vlc] : List Value)[j]? = some v → xs2[l1.length * 9 + j]? = some v := hcell2
    have vmid : ∀ j v, ([.int .u8 vop, .int .u8 vty, .int .u64 vbits, .string (str ven), .slice vea vek.length vec] : List Value)[j]? = some v → xs2[l1.length * 9 + 2 + j]? = some v := cell_part hcell2 2 (mid_get [_, _] [.int .u8 vop, .int .u8 vty, .int .u64 vbits, .string (str ven), .slice vea vek.length vec] [_, _])
    simp only [swt] at hwl
    refine good_draw sy_mixed (by kernel_rfl) ?_
    refine q_run [] 60 ?_
    refine q_val (.pointer (some ⟨gB a1, oB a1 + l1.length * 9, none⟩)) (S := Instr.indexAt 54 (.slice a1 n1 cap1) (.int .i64 (l1.length : Int))) (by kernel_rfl) (fun W _ => idx_sl (e := 56) hsl1 (by kernel_rfl) (by kernel_rfl) hin1 W) ?_
    refine q_run [] 60 ?_
    refine q_val (.int .i64 ukind) (S := Instr.loadAt 3 (.pointer (some ⟨gB a1, oB a1 + l1.length * 9 + 0, none⟩))) (by kernel_rfl) (fun W hk => load_sl hsl1 (by kernel_rfl) l1.length 0 (hcell1 0 _ rfl) hk) ?_
    refine q_run [] 60 ?_
    refine q_val (.pointer (some ⟨gB a2, oB a2 + l1.length * 9, none⟩)) (S := Instr.indexAt 54 (.slice a2 n2 cap2) (.int .i64 (l1.length : Int))) (by kernel_rfl) (fun W _ => idx_sl (e := 56) hsl2 (by kernel_rfl) (by kernel_rfl) hin2 W) ?_
    refine q_run [] 60 ?_
    refine q_val (.int .i64 vkind) (S := Instr.loadAt 3 (.pointer (some ⟨gB a2, oB a2 + l1.length * 9 + 0, none⟩))) (by kernel_rfl) (fun W hk => load_sl hsl2 (by kernel_rfl) l1.length 0 (hcell2 0 _ rfl) hk) ?_
    refine q_run [29] 60 ?_
    rcases Bool.eq_false_or_eq_true (intEq ukind vkind) with hk1 | hk1
    rotate_left
    ·
      refine q_set 27 (x := .bool (!(intEq ukind vkind))) (.bool true) (by kernel_rfl) (by rw [hk1]; rfl) ?_
      refine q_set 28 (x := .bool (!(intEq ukind vkind))) (.bool true) (by kernel_rfl) (by rw [hk1]; rfl) ?_
      have hne : (St.mk ukind usn (Ex.mk uop uty ubits uen uek) ubody uels) ≠ (St.mk vkind vsn (Ex.mk vop vty vbits ven vek) vbody vels) := by intro h; injection h; rw [intEq_eq] at hk1; simp_all
      refine q_run [] 60 ?_
      refine q_end (by kernel_rfl) ?_
      refine run_ok (sy_cx _ _) 0 [] 60 3 ?_
      refine good_endV (.bool false) (by kernel_rfl) (fun W hk => ⟨?_, hk.below⟩)
      rw [sameB_f]
      intro h
      rw [hI1, hI2] at h
      have h2 := (List.cons.inj (List.append_cancel_left h)).1
      exact hne h2
    refine q_set 27 (x := .bool (!(intEq ukind vkind))) (.bool false) (by kernel_rfl) (by rw [hk1]; rfl) ?_
    refine q_set 28 (x := .bool (!(intEq ukind vkind))) (.bool false) (by kernel_rfl) (by rw [hk1]; rfl) ?_
    refine q_run [] 60 ?_
    refine q_val (.pointer (some ⟨gB a1, oB a1 + l1.length * 9, none⟩)) (S := Instr.indexAt 54 (.slice a1 n1 cap1) (.int .i64 (l1.length : Int))) (by kernel_rfl) (fun W _ => idx_sl (e := 56) hsl1 (by kernel_rfl) (by kernel_rfl) hin1 W) ?_
    refine q_run [] 60 ?_
    refine q_val (.string (str usn)) (S := Instr.loadAt 9 (.pointer (some ⟨gB a1, oB a1 + l1.length * 9 + 1, none⟩))) (by kernel_rfl) (fun W hk => load_sl hsl1 (by kernel_rfl) l1.length 1 (hcell1 1 _ rfl) hk) ?_
    refine q_run [] 60 ?_
    refine q_val (.pointer (some ⟨gB a2, oB a2 + l1.length * 9, none⟩)) (S := Instr.indexAt 54 (.slice a2 n2 cap2) (.int .i64 (l1.length : Int))) (by kernel_rfl) (fun W _ => idx_sl (e := 56) hsl2 (by kernel_rfl) (by kernel_rfl) hin2 W) ?_
    refine q_run [] 60 ?_
    refine q_val (.string (str vsn)) (S := Instr.loadAt 9 (.pointer (some ⟨gB a2, oB a2 + l1.length * 9 + 1, none⟩))) (by kernel_rfl) (fun W hk => load_sl hsl2 (by kernel_rfl) l1.length 1 (hcell2 1 _ rfl) hk) ?_
    refine q_run [42] 60 ?_
    rcases Bool.eq_false_or_eq_true (bEqL usn vsn) with hk2 | hk2
    rotate_left
    ·
      refine q_set 39 (x := .bool (!(bEqL usn vsn))) (.bool true) (by kernel_rfl) (by rw [hk2]; rfl) ?_
      refine q_set 40 (x := .bool (!(bEqL usn vsn))) (.bool true) (by kernel_rfl) (by rw [hk2]; rfl) ?_
      refine q_set 41 (x := .bool (!(bEqL usn vsn))) (.bool true) (by kernel_rfl) (by rw [hk2]; rfl) ?_
      have hne : (St.mk ukind usn (Ex.mk uop uty ubits uen uek) ubody uels) ≠ (St.mk vkind vsn (Ex.mk vop vty vbits ven vek) vbody vels) := by intro h; injection h; rw [bEqL_eq] at hk2; simp_all
      refine q_run [] 60 ?_
      refine q_end (by kernel_rfl) ?_
      refine run_ok (sy_cx _ _) 0 [] 60 3 ?_
      refine good_endV (.bool false) (by kernel_rfl) (fun W hk => ⟨?_, hk.below⟩)
      rw [sameB_f]
      intro h
      rw [hI1, hI2] at h
      have h2 := (List.cons.inj (List.append_cancel_left h)).1
      exact hne h2
    refine q_set 39 (x := .bool (!(bEqL usn vsn))) (.bool false) (by kernel_rfl) (by rw [hk2]; rfl) ?_
    refine q_set 40 (x := .bool (!(bEqL usn vsn))) (.bool false) (by kernel_rfl) (by rw [hk2]; rfl) ?_
    refine q_set 41 (x := .bool (!(bEqL usn vsn))) (.bool false) (by kernel_rfl) (by rw [hk2]; rfl) ?_
    refine q_run [] 60 ?_
    refine q_val (.pointer (some ⟨gB a1, oB a1 + l1.length * 9, none⟩)) (S := Instr.indexAt 54 (.slice a1 n1 cap1) (.int .i64 (l1.length : Int))) (by kernel_rfl) (fun W _ => idx_sl (e := 56) hsl1 (by kernel_rfl) (by kernel_rfl) hin1 W) ?_
    refine q_run [] 60 ?_
    refine q_val (.agg #[.int .u8 uop, .int .u8 uty, .int .u64 ubits, .string (str uen), .slice uea uek.length uec]) (S := Instr.loadAt 34 (.pointer (some ⟨gB a1, oB a1 + l1.length * 9 + 2, none⟩))) (by kernel_rfl) (fun W hk => load_slA (P := Tryz.prog) (ty := 34) (m := 5) (cs := [.int .u8 uop, .int .u8 uty, .int .u64 ubits, .string (str uen), .slice uea uek.length uec]) hsl1 (by kernel_rfl) (by kernel_rfl) l1.length 2 rfl umid hk) ?_
    refine q_run [] 60 ?_
    refine q_val (.pointer (some ⟨gB a2, oB a2 + l1.length * 9, none⟩)) (S := Instr.indexAt 54 (.slice a2 n2 cap2) (.int .i64 (l1.length : Int))) (by kernel_rfl) (fun W _ => idx_sl (e := 56) hsl2 (by kernel_rfl) (by kernel_rfl) hin2 W) ?_
    refine q_run [] 60 ?_
    refine q_val (.agg #[.int .u8 vop, .int .u8 vty, .int .u64 vbits, .string (str ven), .slice vea vek.length vec]) (S := Instr.loadAt 34 (.pointer (some ⟨gB a2, oB a2 + l1.length * 9 + 2, none⟩))) (by kernel_rfl) (fun W hk => load_slA (P := Tryz.prog) (ty := 34) (m := 5) (cs := [.int .u8 vop, .int .u8 vty, .int .u64 vbits, .string (str ven), .slice vea vek.length vec]) hsl2 (by kernel_rfl) (by kernel_rfl) l1.length 2 rfl vmid hk) ?_
    refine q_run [] 60 ?_
    refine q_callB (sy_cx _ _) [.agg #[.int .u8 uop, .int .u8 uty, .int .u64 ubits, .string (str uen), .slice uea uek.length uec], .agg #[.int .u8 vop, .int .u8 vty, .int .u64 vbits, .string (str ven), .slice vea vek.length vec]] (.bool (sameEx (Ex.mk uop uty ubits uen uek) (Ex.mk vop vty vbits ven vek))) (by kernel_rfl) (by kernel_rfl) (by kernel_rfl) (fun W hk => sameExpr_any _ (Ex.mk uop uty ubits uen uek) (Ex.mk vop vty vbits ven vek) [.int .u8 uop, .int .u8 uty, .int .u64 ubits, .string (str uen), .slice uea uek.length uec] [.int .u8 vop, .int .u8 vty, .int .u64 vbits, .string (str ven), .slice vea vek.length vec] W (Nat.le_refl _) (by omega) (uhe.keep hk (fun k h => Nat.lt_of_lt_of_le h hk.size)) (vhe.keep hk (fun k h => Nat.lt_of_lt_of_le h hk.size))) ?_
    refine q_run [56] 60 ?_
    rcases Bool.eq_false_or_eq_true (sameEx (Ex.mk uop uty ubits uen uek) (Ex.mk vop vty vbits ven vek)) with hk3 | hk3
    rotate_left
    ·
      refine q_set 53 (x := .bool (!(sameEx (Ex.mk uop uty ubits uen uek) (Ex.mk vop vty vbits ven vek)))) (.bool true) (by kernel_rfl) (by rw [hk3]; rfl) ?_
      refine q_set 54 (x := .bool (!(sameEx (Ex.mk uop uty ubits uen uek) (Ex.mk vop vty vbits ven vek)))) (.bool true) (by kernel_rfl) (by rw [hk3]; rfl) ?_
      refine q_set 55 (x := .bool (!(sameEx (Ex.mk uop uty ubits uen uek) (Ex.mk vop vty vbits ven vek)))) (.bool true) (by kernel_rfl) (by rw [hk3]; rfl) ?_
      have hne : (St.mk ukind usn (Ex.mk uop uty ubits uen uek) ubody uels) ≠ (St.mk vkind vsn (Ex.mk vop vty vbits ven vek) vbody vels) := by intro h; injection h with _ _ h _ _; rw [sameEx_t.2 h] at hk3; cases hk3
      refine q_run [] 60 ?_
      refine q_end (by kernel_rfl) ?_
      refine run_ok (sy_cx _ _) 0 [] 60 3 ?_
      refine good_endV (.bool false) (by kernel_rfl) (fun W hk => ⟨?_, hk.below⟩)
      rw [sameB_f]
      intro h
      rw [hI1, hI2] at h
      have h2 := (List.cons.inj (List.append_cancel_left h)).1
      exact hne h2
    refine q_set 53 (x := .bool (!(sameEx (Ex.mk uop uty ubits uen uek) (Ex.mk vop vty vbits ven vek)))) (.bool false) (by kernel_rfl) (by rw [hk3]; rfl) ?_
    refine q_set 54 (x := .bool (!(sameEx (Ex.mk uop uty ubits uen uek) (Ex.mk vop vty vbits ven vek)))) (.bool false) (by kernel_rfl) (by rw [hk3]; rfl) ?_
    refine q_set 55 (x := .bool (!(sameEx (Ex.mk uop uty ubits uen uek) (Ex.mk vop vty vbits ven vek)))) (.bool false) (by kernel_rfl) (by rw [hk3]; rfl) ?_
    refine q_run [] 60 ?_
    refine q_val (.pointer (some ⟨gB a1, oB a1 + l1.length * 9, none⟩)) (S := Instr.indexAt 54 (.slice a1 n1 cap1) (.int .i64 (l1.length : Int))) (by kernel_rfl) (fun W _ => idx_sl (e := 56) hsl1 (by kernel_rfl) (by kernel_rfl) hin1 W) ?_
    refine q_run [] 60 ?_
    refine q_val (.slice uba ubody.length ubc) (S := Instr.loadAt 54 (.pointer (some ⟨gB a1, oB a1 + l1.length * 9 + 7, none⟩))) (by kernel_rfl) (fun W hk => load_sl hsl1 (by kernel_rfl) l1.length 7 (hcell1 7 _ rfl) hk) ?_
    refine q_run [] 60 ?_
    refine q_val (.pointer (some ⟨gB a2, oB a2 + l1.length * 9, none⟩)) (S := Instr.indexAt 54 (.slice a2 n2 cap2) (.int .i64 (l1.length : Int))) (by kernel_rfl) (fun W _ => idx_sl (e := 56) hsl2 (by kernel_rfl) (by kernel_rfl) hin2 W) ?_
    refine q_run [] 60 ?_
    refine q_val (.slice vba vbody.length vbc) (S := Instr.loadAt 54 (.pointer (some ⟨gB a2, oB a2 + l1.length * 9 + 7, none⟩))) (by kernel_rfl) (fun W hk => load_sl hsl2 (by kernel_rfl) l1.length 7 (hcell2 7 _ rfl) hk) ?_
    refine q_run [] 60 ?_
    refine q_callB (sy_cx _ _) [.slice uba ubody.length ubc, .slice vba vbody.length vbc] (.bool (sameB ubody vbody)) (by kernel_rfl) (by kernel_rfl) (by kernel_rfl) (fun W hk => ihN ubody vbody _ _ _ _ _ _ _ _ W rfl rfl (by omega) (by omega) ((uhbs.keep hk).mono (fun k h => Nat.lt_of_lt_of_le h hk.size)) ((vhbs.keep hk).mono (fun k h => Nat.lt_of_lt_of_le h hk.size)) (StsAt_ls.1 (uhbt.keep hk (fun k h => Nat.lt_of_lt_of_le h hk.size))) (StsAt_ls.1 (vhbt.keep hk (fun k h => Nat.lt_of_lt_of_le h hk.size)))) ?_
    refine q_run [70] 60 ?_
    rcases Bool.eq_false_or_eq_true (sameB ubody vbody) with hk4 | hk4
    rotate_left
    ·
      refine q_set 67 (x := .bool (!(sameB ubody vbody))) (.bool true) (by kernel_rfl) (by rw [hk4]; rfl) ?_
      refine q_set 68 (x := .bool (!(sameB ubody vbody))) (.bool true) (by kernel_rfl) (by rw [hk4]; rfl) ?_
      refine q_set 69 (x := .bool (!(sameB ubody vbody))) (.bool true) (by kernel_rfl) (by rw [hk4]; rfl) ?_
      have hne : (St.mk ukind usn (Ex.mk uop uty ubits uen uek) ubody uels) ≠ (St.mk vkind vsn (Ex.mk vop vty vbits ven vek) vbody vels) := by intro h; injection h with _ _ _ h _; rw [sameB_t.2 h] at hk4; cases hk4
      refine q_run [] 60 ?_
      refine q_end (by kernel_rfl) ?_
      refine run_ok (sy_cx _ _) 0 [] 60 3 ?_
      refine good_endV (.bool false) (by kernel_rfl) (fun W hk => ⟨?_, hk.below⟩)
      rw [sameB_f]
      intro h
      rw [hI1, hI2] at h
      have h2 := (List.cons.inj (List.append_cancel_left h)).1
      exact hne h2
    refine q_set 67 (x := .bool (!(sameB ubody vbody))) (.bool false) (by kernel_rfl) (by rw [hk4]; rfl) ?_
    refine q_set 68 (x := .bool (!(sameB ubody vbody))) (.bool false) (by kernel_rfl) (by rw [hk4]; rfl) ?_
    refine q_set 69 (x := .bool (!(sameB ubody vbody))) (.bool false) (by kernel_rfl) (by rw [hk4]; rfl) ?_
    refine q_run [] 60 ?_
    refine q_val (.pointer (some ⟨gB a1, oB a1 + l1.length * 9, none⟩)) (S := Instr.indexAt 54 (.slice a1 n1 cap1) (.int .i64 (l1.length : Int))) (by kernel_rfl) (fun W _ => idx_sl (e := 56) hsl1 (by kernel_rfl) (by kernel_rfl) hin1 W) ?_
    refine q_run [] 60 ?_
    refine q_val (.slice ula uels.length ulc) (S := Instr.loadAt 54 (.pointer (some ⟨gB a1, oB a1 + l1.length * 9 + 8, none⟩))) (by kernel_rfl) (fun W hk => load_sl hsl1 (by kernel_rfl) l1.length 8 (hcell1 8 _ rfl) hk) ?_
    refine q_run [] 60 ?_
    refine q_val (.pointer (some ⟨gB a2, oB a2 + l1.length * 9, none⟩)) (S := Instr.indexAt 54 (.slice a2 n2 cap2) (.int .i64 (l1.length : Int))) (by kernel_rfl) (fun W _ => idx_sl (e := 56) hsl2 (by kernel_rfl) (by kernel_rfl) hin2 W) ?_
    refine q_run [] 60 ?_
    refine q_val (.slice vla vels.length vlc) (S := Instr.loadAt 54 (.pointer (some ⟨gB a2, oB a2 + l1.length * 9 + 8, none⟩))) (by kernel_rfl) (fun W hk => load_sl hsl2 (by kernel_rfl) l1.length 8 (hcell2 8 _ rfl) hk) ?_
    refine q_run [] 60 ?_
    refine q_callB (sy_cx _ _) [.slice ula uels.length ulc, .slice vla vels.length vlc] (.bool (sameB uels vels)) (by kernel_rfl) (by kernel_rfl) (by kernel_rfl) (fun W hk => ihN uels vels _ _ _ _ _ _ _ _ W rfl rfl (by omega) (by omega) ((uhls.keep hk).mono (fun k h => Nat.lt_of_lt_of_le h hk.size)) ((vhls.keep hk).mono (fun k h => Nat.lt_of_lt_of_le h hk.size)) (StsAt_ls.1 (uhlt.keep hk (fun k h => Nat.lt_of_lt_of_le h hk.size))) (StsAt_ls.1 (vhlt.keep hk (fun k h => Nat.lt_of_lt_of_le h hk.size)))) ?_
    refine q_run [] 60 ?_
    refine q_end (by kernel_rfl) ?_
    refine run_ok (sy_cx _ _) 0 [] 60 0 ?_
    refine good_cond (b := !(sameB uels vels)) (by kernel_rfl) (fun hss => ?_) (fun hss => ?_)
    ·
      have hne : (St.mk ukind usn (Ex.mk uop uty ubits uen uek) ubody uels) ≠ (St.mk vkind vsn (Ex.mk vop vty vbits ven vek) vbody vels) := by intro h; injection h with _ _ _ _ h; rw [sameB_t.2 h] at hss; cases hss
      refine run_ok (sy_cx _ _) 0 [] 60 2 ?_
      refine good_endV (.bool false) (by kernel_rfl) (fun W hk => ⟨?_, hk.below⟩)
      rw [sameB_f]
      intro h
      rw [hI1, hI2] at h
      have h2 := (List.cons.inj (List.append_cancel_left h)).1
      exact hne h2
    ·
      have hxy : (St.mk ukind usn (Ex.mk uop uty ubits uen uek) ubody uels) = (St.mk vkind vsn (Ex.mk vop vty vbits ven vek) vbody vels) := by
        have h5 : uels = vels := sameB_t.1 (by simpa using hss)
        have h4 := sameB_t.1 hk4
        have h3 := sameEx_t.1 hk3
        rw [bEqL_eq] at hk2
        rw [intEq_eq] at hk1
        have h2 : usn = vsn := by simpa using hk2
        have h1 : ukind = vkind := by simpa using hk1
        rw [h1, h2, h3, h4, h5]
      refine run_ok (sy_cx _ _) 0 [] 60 2 ?_
      refine good_set 5 (x := .int .i64 (wrapF .i64 (((l1.length : Nat) : Int) + 1))) (.int .i64 ((((l1 ++ [(St.mk ukind usn (Ex.mk uop uty ubits uen uek) ubody uels)]).length : Nat) : Int))) (by kernel_rfl) (by rw [wr64 (n := ((l1.length : Nat) : Int) + 1) (by omega) (by omega)]; congr 1; simp) ?_
      exact good_sub _ [(0, .v (.slice a1 n1 cap1)), (1, .v (.slice a2 n2 cap2)), (5, .v (.int .i64 ((l1 ++ [(St.mk ukind usn (Ex.mk uop uty ubits uen uek) ubody uels)]).length : Int)))] [] gz (by kernel_rfl) (by kernel_rfl) (by kernel_rfl) (by kernel_rfl) (by kernel_rfl) (by kernel_rfl) (fun b hb => hγ0 b hb) (by kernel_rfl) (ih (l1 ++ [(St.mk ukind usn (Ex.mk uop uty ubits uen uek) ubody uels)], l3, m3) ⟨(by show L = (l1 ++ [_]) ++ l3; rw [hI1]; simp), (by show M = (l1 ++ [_]) ++ m3; rw [hI2, ← hxy]; simp)⟩ (by show l3.length < (_ :: l3).length; simp))
end Go.Proofs.YtiacalnkmnckjaaGreatDoor
end

section
/- What SameProgram of the statements' kit answers. No conditions but those in each theorem. -/
namespace Go.Proofs.YtiacalnkmnckjaaGreatDoor
open Go.RowKit Go.As
set_option linter.unusedVariables false
set_option linter.unusedSimpArgs false

open Go.Sy in
set_option maxRecDepth 100000 in
theorem sameProgram_any (p q : Pg) (cs1 cs2 : List Value) (w : World) (hbd0 : pwt p ≤ 1099511627776) (hp : PgAt (· < w.heap.size) w p cs1) (hq : PgAt (· < w.heap.size) w q cs2) :
    Calls Tryz.prog 22 #[.agg cs1.toArray, .agg cs2.toArray] w fun r w' => r = .returned (.bool (sameB p q)) ∧ Below w.heap.size w w' := by
  obtain ⟨pa, pcap, pxs0, pb, pcap2, pys0, pd, pcap3, pzs0, rfl, pxs, pxt, pys, pyt, pzs, pzt⟩ := hp
  obtain ⟨pns, hpns⟩ : ∃ n, n = p.shared.length := ⟨_, rfl⟩
  rw [← hpns] at pxs ⊢
  obtain ⟨pnm, hpnm⟩ : ∃ n, n = p.mutexes.length := ⟨_, rfl⟩
  rw [← hpnm] at pys ⊢
  obtain ⟨pnt, hpnt⟩ : ∃ n, n = p.threads.length := ⟨_, rfl⟩
  rw [← hpnt] at pzs ⊢
  obtain ⟨qa, qcap, qxs0, qb, qcap2, qys0, qd, qcap3, qzs0, rfl, qxs, qxt, qys, qyt, qzs, qzt⟩ := hq
  obtain ⟨qns, hqns⟩ : ∃ n, n = q.shared.length := ⟨_, rfl⟩
  rw [← hqns] at qxs ⊢
  obtain ⟨qnm, hqnm⟩ : ∃ n, n = q.mutexes.length := ⟨_, rfl⟩
  rw [← hqnm] at qys ⊢
  obtain ⟨qnt, hqnt⟩ : ∃ n, n = q.threads.length := ⟨_, rfl⟩
  rw [← hqnt] at qzs ⊢
  have hbd : pns + pnm + thws p.threads ≤ 1099511627776 := by rw [hpns, hpnm]; exact hbd0
  have hnl := thws_len p.threads
  refine Sy.enter (vs := [.agg #[.slice pa pns pcap, .slice pb pnm pcap2, .slice pd pnt pcap3], .agg #[.slice qa qns qcap, .slice qb qnm qcap2, .slice qd qnt qcap3]]) sy_fine Tryz.func22 rfl (fun γ => norms_LR _) rfl (fun γ0 hγ0 => ?_)
  refine run_ok (sy_cx _ _) 0 [8] 60 0 ?_
  refine good_lock [gz, gz + 1] (gz + 2) (by kernel_rfl) (fun b hb => hγ0 b (Nat.le_trans (Nat.le_add_right _ 2) hb)) ?_
  intro γ1 B1 w1 hle1 hγ1 hB01 hB1 hk01 hLk
  have pxs1 := (pxs.keep hk01).mono hB01
  have pys1 := (pys.keep hk01).mono hB01
  have pzs1 := (pzs.keep hk01).mono hB01
  have pzt1 := pzt.imp (fun _ _ h => ThAt.keep hk01 hB01 h)
  have qxs1 := (qxs.keep hk01).mono hB01
  have qys1 := (qys.keep hk01).mono hB01
  have qzs1 := (qzs.keep hk01).mono hB01
  have qzt1 := qzt.imp (fun _ _ h => ThAt.keep hk01 hB01 h)
  refine run_ok (sy_cx _ _) 0 [] 60 0 ?_
  refine good_callB (sy_cx _ _) [.slice pa pns pcap, .slice qa qns qcap] (.bool (sameB p.shared q.shared)) (by kernel_rfl) (by kernel_rfl) (by kernel_rfl) (fun W hk => sameVars_any p.shared q.shared _ _ _ _ _ _ _ _ W hpns hqns (by omega) ((pxs1.keep hk).mono (fun k h => Nat.lt_of_lt_of_le (hB1 k h) hk.size)) ((qxs1.keep hk).mono (fun k h => Nat.lt_of_lt_of_le (hB1 k h) hk.size)) pxt qxt) ?_
  refine run_ok (sy_cx _ _) 0 [15] 60 0 ?_
  rcases Bool.eq_false_or_eq_true (sameB p.shared q.shared) with hk1 | hk1
  rotate_left
  ·
    refine good_set 13 (x := .bool (!(sameB p.shared q.shared))) (.bool true) (by kernel_rfl) (by rw [hk1]; rfl) ?_
    refine good_set 14 (x := .bool (!(sameB p.shared q.shared))) (.bool true) (by kernel_rfl) (by rw [hk1]; rfl) ?_
    refine run_ok (sy_cx _ _) 0 [] 60 4 ?_
    refine good_endV (.bool false) (by kernel_rfl) (fun W hk => ⟨?_, (hk01.trans (hk.mono hB01)).below⟩)
    rw [sameB_f]
    intro h
    rw [sameB_t.2 (by rw [h])] at hk1; cases hk1
  refine good_set 13 (x := .bool (!(sameB p.shared q.shared))) (.bool false) (by kernel_rfl) (by rw [hk1]; rfl) ?_
  refine good_set 14 (x := .bool (!(sameB p.shared q.shared))) (.bool false) (by kernel_rfl) (by rw [hk1]; rfl) ?_
  refine run_ok (sy_cx _ _) 0 [] 60 0 ?_
  refine good_callB (sy_cx _ _) [.slice pb pnm pcap2, .slice qb qnm qcap2] (.bool (sameB p.mutexes q.mutexes)) (by kernel_rfl) (by kernel_rfl) (by kernel_rfl) (fun W hk => sameTexts_any p.mutexes q.mutexes _ _ _ _ _ _ _ _ W hpnm hqnm (by omega) ((pys1.keep hk).mono (fun k h => Nat.lt_of_lt_of_le (hB1 k h) hk.size)) ((qys1.keep hk).mono (fun k h => Nat.lt_of_lt_of_le (hB1 k h) hk.size)) pyt qyt) ?_
  refine run_ok (sy_cx _ _) 0 [23] 60 0 ?_
  rcases Bool.eq_false_or_eq_true (sameB p.mutexes q.mutexes) with hk2 | hk2
  rotate_left
  ·
    refine good_set 20 (x := .bool (!(sameB p.mutexes q.mutexes))) (.bool true) (by kernel_rfl) (by rw [hk2]; rfl) ?_
    refine good_set 21 (x := .bool (!(sameB p.mutexes q.mutexes))) (.bool true) (by kernel_rfl) (by rw [hk2]; rfl) ?_
    refine good_set 22 (x := .bool (!(sameB p.mutexes q.mutexes))) (.bool true) (by kernel_rfl) (by rw [hk2]; rfl) ?_
    refine run_ok (sy_cx _ _) 0 [] 60 4 ?_
    refine good_endV (.bool false) (by kernel_rfl) (fun W hk => ⟨?_, (hk01.trans (hk.mono hB01)).below⟩)
    rw [sameB_f]
    intro h
    rw [sameB_t.2 (by rw [h])] at hk2; cases hk2
  refine good_set 20 (x := .bool (!(sameB p.mutexes q.mutexes))) (.bool false) (by kernel_rfl) (by rw [hk2]; rfl) ?_
  refine good_set 21 (x := .bool (!(sameB p.mutexes q.mutexes))) (.bool false) (by kernel_rfl) (by rw [hk2]; rfl) ?_
  refine good_set 22 (x := .bool (!(sameB p.mutexes q.mutexes))) (.bool false) (by kernel_rfl) (by rw [hk2]; rfl) ?_
  refine run_ok (sy_cx _ _) 0 [] 60 0 ?_
  refine good_cond (b := !(intEq (pnt : Int) (qnt : Int))) (by kernel_rfl) (fun hnn => ?_) (fun hnn => ?_)
  ·
    refine run_ok (sy_cx _ _) 0 [] 60 4 ?_
    refine good_endV (.bool false) (by kernel_rfl) (fun W hk => ⟨?_, (hk01.trans (hk.mono hB01)).below⟩)
    rw [sameB_f]
    intro h
    rw [intEq_eq] at hnn; simp_all
  have hnn1 : pnt = qnt := by rw [intEq_eq] at hnn; have : (pnt : Int) = (qnt : Int) := (by simpa using hnn); omega
  refine run_ok (sy_cx _ _) 0 [] 60 0 ?_
  refine good_toLp ?_
  refine good_loopI (fun i : List Th × List Th × List Th => i.2.1.length) (fun i => p.threads = i.1 ++ i.2.1 ∧ q.threads = i.1 ++ i.2.2) (fun i => ⟨mkT [(2, .ptr gz 0), (3, .ptr (gz + 1) 0), (5, .v (.int .i64 ((i.1.length : Nat) : Int)))], mkH [(gz, some (.cells 26 false true true 3 (putL .leaf 0 [.v (.slice pa pns pcap), .v (.slice pb pnm pcap2), .v (.slice pd pnt pcap3)]))), (gz + 1, some (.cells 26 false true true 3 (putL .leaf 0 [.v (.slice qa qns qcap), .v (.slice qb qnm qcap2), .v (.slice qd qnt qcap3)])))], gz + 2, []⟩)
    ([], p.threads, q.threads) ⟨rfl, rfl⟩ (by kernel_rfl)
    (fun h => good_sub _ [(2, .ptr gz 0), (3, .ptr (gz + 1) 0), (5, .v (.int .i64 ((([] : List Th).length : Nat) : Int)))] [(gz, some (.cells 26 false true true 3 (putL .leaf 0 [.v (.slice pa pns pcap), .v (.slice pb pnm pcap2), .v (.slice pd pnt pcap3)]))), (gz + 1, some (.cells 26 false true true 3 (putL .leaf 0 [.v (.slice qa qns qcap), .v (.slice qb qnm qcap2), .v (.slice qd qnt qcap3)])))] (gz + 2) rfl (by kernel_rfl) (by kernel_rfl) (by kernel_rfl) (by kernel_rfl) (by kernel_rfl) hγ1 (by kernel_rfl) h) ?_
  rintro ⟨l1, l2, m2⟩ ⟨hI1, hI2⟩ ih
  simp only at hI1 hI2
  have hq1 : pnt = l1.length + l2.length := by rw [hpnt, hI1, List.length_append]
  have hq2 : qnt = l1.length + m2.length := by rw [hqnt, hI2, List.length_append]
  refine run_ok (sy_cx _ _) 0 [] 60 0 ?_
  cases l2 with
  | nil =>
    obtain rfl : m2 = [] := List.eq_nil_of_length_eq_zero (by simp only [List.length_nil] at hq1; omega)
    refine good_take false (b := intLt (l1.length : Int) (pnt : Int)) (by kernel_rfl) (lt_f (by rw [hq1]; simp)) ?_
    refine run_ok (sy_cx _ _) 0 [] 60 0 ?_
    refine good_endV (.bool true) (by kernel_rfl) (fun W hk => ⟨?_, (hk01.trans (hk.mono hB01)).below⟩)
    have h1 := sameB_t.1 hk1
    have h2 := sameB_t.1 hk2
    have h3 : p.threads = q.threads := by rw [hI1, hI2]
    rw [sameB_t.2 (by cases p; cases q; simp_all)]
  | cons x l3 =>
    obtain ⟨y, m3, rfl⟩ : ∃ y m3, m2 = y :: m3 := by
      cases m2 with
      | nil => simp only [List.length_nil, List.length_cons] at hq1 hq2; omega
      | cons a b => exact ⟨a, b, rfl⟩
    have hin1 : l1.length < pnt := by rw [hq1, List.length_cons]; omega
    have hin2 : l1.length < qnt := by omega
    have hwl : thws p.threads = thws l1 + (thw x + thws l3) := by rw [hI1, thws_app]; simp [thws]
    simp only [thw] at hwl
    have hks1' := pzt1
    have hks2' := qzt1
    rw [hI1] at hks1'
    rw [hI2] at hks2'
    obtain ⟨c1, ⟨xa, xcap, xxs, xb, xcap2, xys, rfl, xh1, xh2, xh3, xh4⟩, hcell1⟩ := hks1'.at_ (fun _ _ h => h.len)
    obtain ⟨c2, ⟨ya, ycap, yxs, yb, ycap2, yys, rfl, yh1, yh2, yh3, yh4⟩, hcell2⟩ := hks2'.at_ (fun _ _ h => h.len)
    refine good_take true (b := intLt (l1.length : Int) (pnt : Int)) (by kernel_rfl) (lt_t (by omega)) ?_
    refine run_ok (sy_cx _ _) 0 [] 60 0 ?_
    refine good_plan sy_mixed (.take 0 (.take 1 (.take 2 (.take 3 (.take 4 (.take 5 (.take 6 (.take 7 (.take 8 (.take 9 (.alt (.run 10 (.run 11 (.run 12 .done))) (.run 11 (.run 10 (.run 12 .done)))))))))))))) 13 (by kernel_rfl) ?_
    have hL1 : ∀ b, hasNat b [gz, gz + 1] = true → ∃ p, γ1 b = some p ∧ B1 p.1 := fun b hb => let ⟨p, h1, h2, _⟩ := hLk b hb; ⟨p, h1, h2⟩
    refine p_takes [gz, gz + 1] 3 (Bs := B1) (ws := w1) (by kernel_rfl) (fun _ h => h) hL1 ?_
    refine p_val (.pointer (some ⟨gB pd, oB pd + l1.length * 3, none⟩)) (S := Instr.indexAt 24 (.slice pd pnt pcap3) (.int .i64 (l1.length : Int))) (by kernel_rfl) (Bs := B1) (ws := w1) (by kernel_rfl) (fun _ h => h) (fun W _ => idx_sl (e := 58) pzs1 (by kernel_rfl) (by kernel_rfl) hin1 W) ?_
    refine p_val (.agg #[.string (str x.name), .slice xa x.locals.length xcap, .slice xb x.body.length xcap2]) (S := Instr.loadAt 58 (.pointer (some ⟨gB pd, oB pd + l1.length * 3 + 0, none⟩))) (by kernel_rfl) (Bs := B1) (ws := w1) (by kernel_rfl) (fun _ h => h) (fun W hk => load_slA (P := Tryz.prog) (ty := 58) (m := 3) (cs := [.string (str x.name), .slice xa x.locals.length xcap, .slice xb x.body.length xcap2]) pzs1 (by kernel_rfl) (by kernel_rfl) l1.length 0 rfl hcell1 hk) ?_
    refine p_takes [gz, gz + 1] 3 (Bs := B1) (ws := w1) (by kernel_rfl) (fun _ h => h) hL1 ?_
    refine p_val (.pointer (some ⟨gB qd, oB qd + l1.length * 3, none⟩)) (S := Instr.indexAt 24 (.slice qd qnt qcap3) (.int .i64 (l1.length : Int))) (by kernel_rfl) (Bs := B1) (ws := w1) (by kernel_rfl) (fun _ h => h) (fun W _ => idx_sl (e := 58) qzs1 (by kernel_rfl) (by kernel_rfl) hin2 W) ?_
    refine p_val (.agg #[.string (str y.name), .slice ya y.locals.length ycap, .slice yb y.body.length ycap2]) (S := Instr.loadAt 58 (.pointer (some ⟨gB qd, oB qd + l1.length * 3 + 0, none⟩))) (by kernel_rfl) (Bs := B1) (ws := w1) (by kernel_rfl) (fun _ h => h) (fun W hk => load_slA (P := Tryz.prog) (ty := 58) (m := 3) (cs := [.string (str y.name), .slice ya y.locals.length ycap, .slice yb y.body.length ycap2]) qzs1 (by kernel_rfl) (by kernel_rfl) l1.length 0 rfl hcell2 hk) ?_
    refine p_alt (by kernel_rfl) ?_ ?_
    ·
      refine p_run (Keep B1 w1) (by kernel_rfl) (fun _ h => h) (by kernel_rfl) ?_
      refine run_ok (sy_cx _ _) 0 [] 60 0 ?_
      refine p_run (Keep B1 w1) (by kernel_rfl) (fun _ h => h) (by kernel_rfl) ?_
      refine run_ok (sy_cx _ _) 0 [] 60 0 ?_
      refine p_run (Keep B1 w1) (by kernel_rfl) (fun _ h => h) (by kernel_rfl) ?_
      refine run_ok (sy_cx _ _) 0 [] 60 0 ?_
      refine p_done (by kernel_rfl) ?_ (Keep B1 w1) (by kernel_rfl) (fun _ h => h)
      refine run_ok (sy_cx _ _) 0 [54] 60 0 ?_
      rcases Bool.eq_false_or_eq_true (bEqL x.name y.name) with hk3 | hk3
      rotate_left
      ·
        refine good_set 52 (x := .bool (!(bEqL x.name y.name))) (.bool true) (by kernel_rfl) (by rw [hk3]; rfl) ?_
        refine good_set 53 (x := .bool (!(bEqL x.name y.name))) (.bool true) (by kernel_rfl) (by rw [hk3]; rfl) ?_
        refine run_ok (sy_cx _ _) 0 [] 60 4 ?_
        refine good_endV (.bool false) (by kernel_rfl) (fun W hk => ⟨?_, (hk01.trans (hk.mono hB01)).below⟩)
        rw [sameB_f]
        intro h
        have h := congrArg Pg.threads h
        rw [hI1, hI2] at h
        have h := (List.cons.inj (List.append_cancel_left h)).1
        rw [bEqL_eq] at hk3; simp_all
      refine good_set 52 (x := .bool (!(bEqL x.name y.name))) (.bool false) (by kernel_rfl) (by rw [hk3]; rfl) ?_
      refine good_set 53 (x := .bool (!(bEqL x.name y.name))) (.bool false) (by kernel_rfl) (by rw [hk3]; rfl) ?_
      refine run_ok (sy_cx _ _) 0 [] 60 0 ?_
      refine good_callB (sy_cx _ _) [.slice xa x.locals.length xcap, .slice ya y.locals.length ycap] (.bool (sameB x.locals y.locals)) (by kernel_rfl) (by kernel_rfl) (by kernel_rfl) (fun W hk => sameVars_any x.locals y.locals _ _ _ _ _ _ _ _ W rfl rfl (by omega) ((xh1.keep hk).mono (fun k h => Nat.lt_of_lt_of_le (hB1 k h) hk.size)) ((yh1.keep hk).mono (fun k h => Nat.lt_of_lt_of_le (hB1 k h) hk.size)) xh2 yh2) ?_
      refine run_ok (sy_cx _ _) 0 [62] 60 0 ?_
      rcases Bool.eq_false_or_eq_true (sameB x.locals y.locals) with hk4 | hk4
      rotate_left
      ·
        refine good_set 59 (x := .bool (!(sameB x.locals y.locals))) (.bool true) (by kernel_rfl) (by rw [hk4]; rfl) ?_
        refine good_set 60 (x := .bool (!(sameB x.locals y.locals))) (.bool true) (by kernel_rfl) (by rw [hk4]; rfl) ?_
        refine good_set 61 (x := .bool (!(sameB x.locals y.locals))) (.bool true) (by kernel_rfl) (by rw [hk4]; rfl) ?_
        refine run_ok (sy_cx _ _) 0 [] 60 4 ?_
        refine good_endV (.bool false) (by kernel_rfl) (fun W hk => ⟨?_, (hk01.trans (hk.mono hB01)).below⟩)
        rw [sameB_f]
        intro h
        have h := congrArg Pg.threads h
        rw [hI1, hI2] at h
        have h := (List.cons.inj (List.append_cancel_left h)).1
        rw [sameB_t.2 (by rw [h])] at hk4; cases hk4
      refine good_set 59 (x := .bool (!(sameB x.locals y.locals))) (.bool false) (by kernel_rfl) (by rw [hk4]; rfl) ?_
      refine good_set 60 (x := .bool (!(sameB x.locals y.locals))) (.bool false) (by kernel_rfl) (by rw [hk4]; rfl) ?_
      refine good_set 61 (x := .bool (!(sameB x.locals y.locals))) (.bool false) (by kernel_rfl) (by rw [hk4]; rfl) ?_
      refine run_ok (sy_cx _ _) 0 [] 60 0 ?_
      refine good_callB (sy_cx _ _) [.slice xb x.body.length xcap2, .slice yb y.body.length ycap2] (.bool (sameB x.body y.body)) (by kernel_rfl) (by kernel_rfl) (by kernel_rfl) (fun W hk => sameStmts_any _ x.body y.body _ _ _ _ _ _ _ _ W rfl rfl (Nat.lt_succ_self _) (by omega) ((xh3.keep hk).mono (fun k h => Nat.lt_of_lt_of_le (hB1 k h) hk.size)) ((yh3.keep hk).mono (fun k h => Nat.lt_of_lt_of_le (hB1 k h) hk.size)) (StsAt_ls.1 (xh4.keep hk (fun k h => Nat.lt_of_lt_of_le (hB1 k h) hk.size))) (StsAt_ls.1 (yh4.keep hk (fun k h => Nat.lt_of_lt_of_le (hB1 k h) hk.size)))) ?_
      refine run_ok (sy_cx _ _) 0 [] 60 0 ?_
      refine good_cond (b := !(sameB x.body y.body)) (by kernel_rfl) (fun hss => ?_) (fun hss => ?_)
      ·
        refine run_ok (sy_cx _ _) 0 [] 60 4 ?_
        refine good_endV (.bool false) (by kernel_rfl) (fun W hk => ⟨?_, (hk01.trans (hk.mono hB01)).below⟩)
        rw [sameB_f]
        intro h
        have h := congrArg Pg.threads h
        rw [hI1, hI2] at h
        have h := (List.cons.inj (List.append_cancel_left h)).1
        rw [sameB_t.2 (by rw [h])] at hss; cases hss
      ·
        have hxy : x = y := by
              have h5 : x.body = y.body := sameB_t.1 (by simpa using hss)
              have h4 := sameB_t.1 hk4
              rw [bEqL_eq] at hk3
              have h3 : x.name = y.name := by simpa using hk3
              cases x; cases y; simp_all
        refine run_ok (sy_cx _ _) 0 [] 60 2 ?_
        refine good_set 5 (x := .int .i64 (wrapF .i64 (((l1.length : Nat) : Int) + 1))) (.int .i64 ((((l1 ++ [x]).length : Nat) : Int))) (by kernel_rfl) (by rw [wr64 (n := ((l1.length : Nat) : Int) + 1) (by omega) (by omega)]; congr 1; simp) ?_
        exact good_sub _ [(2, .ptr gz 0), (3, .ptr (gz + 1) 0), (5, .v (.int .i64 (((l1 ++ [x]).length : Nat) : Int)))] [(gz, some (.cells 26 false true true 3 (putL .leaf 0 [.v (.slice pa pns pcap), .v (.slice pb pnm pcap2), .v (.slice pd pnt pcap3)]))), (gz + 1, some (.cells 26 false true true 3 (putL .leaf 0 [.v (.slice qa qns qcap), .v (.slice qb qnm qcap2), .v (.slice qd qnt qcap3)])))] (gz + 2) (by kernel_rfl) (by kernel_rfl) (by kernel_rfl) (by kernel_rfl) (by kernel_rfl) (by kernel_rfl) hγ1 (by kernel_rfl) (ih (l1 ++ [x], l3, m3) ⟨(by show p.threads = (l1 ++ [_]) ++ l3; rw [hI1]; simp), (by show q.threads = (l1 ++ [_]) ++ m3; rw [hI2, ← hxy]; simp)⟩ (by show l3.length < (_ :: l3).length; simp))
    ·
      refine p_run (Keep B1 w1) (by kernel_rfl) (fun _ h => h) (by kernel_rfl) ?_
      refine run_ok (sy_cx _ _) 0 [] 60 0 ?_
      refine p_run (Keep B1 w1) (by kernel_rfl) (fun _ h => h) (by kernel_rfl) ?_
      refine run_ok (sy_cx _ _) 0 [] 60 0 ?_
      refine p_run (Keep B1 w1) (by kernel_rfl) (fun _ h => h) (by kernel_rfl) ?_
      refine run_ok (sy_cx _ _) 0 [] 60 0 ?_
      refine p_done (by kernel_rfl) ?_ (Keep B1 w1) (by kernel_rfl) (fun _ h => h)
      refine run_ok (sy_cx _ _) 0 [54] 60 0 ?_
      rcases Bool.eq_false_or_eq_true (bEqL x.name y.name) with hk3 | hk3
      rotate_left
      ·
        refine good_set 52 (x := .bool (!(bEqL x.name y.name))) (.bool true) (by kernel_rfl) (by rw [hk3]; rfl) ?_
        refine good_set 53 (x := .bool (!(bEqL x.name y.name))) (.bool true) (by kernel_rfl) (by rw [hk3]; rfl) ?_
        refine run_ok (sy_cx _ _) 0 [] 60 4 ?_
        refine good_endV (.bool false) (by kernel_rfl) (fun W hk => ⟨?_, (hk01.trans (hk.mono hB01)).below⟩)
        rw [sameB_f]
        intro h
        have h := congrArg Pg.threads h
        rw [hI1, hI2] at h
        have h := (List.cons.inj (List.append_cancel_left h)).1
        rw [bEqL_eq] at hk3; simp_all
      refine good_set 52 (x := .bool (!(bEqL x.name y.name))) (.bool false) (by kernel_rfl) (by rw [hk3]; rfl) ?_
      refine good_set 53 (x := .bool (!(bEqL x.name y.name))) (.bool false) (by kernel_rfl) (by rw [hk3]; rfl) ?_
      refine run_ok (sy_cx _ _) 0 [] 60 0 ?_
      refine good_callB (sy_cx _ _) [.slice xa x.locals.length xcap, .slice ya y.locals.length ycap] (.bool (sameB x.locals y.locals)) (by kernel_rfl) (by kernel_rfl) (by kernel_rfl) (fun W hk => sameVars_any x.locals y.locals _ _ _ _ _ _ _ _ W rfl rfl (by omega) ((xh1.keep hk).mono (fun k h => Nat.lt_of_lt_of_le (hB1 k h) hk.size)) ((yh1.keep hk).mono (fun k h => Nat.lt_of_lt_of_le (hB1 k h) hk.size)) xh2 yh2) ?_
      refine run_ok (sy_cx _ _) 0 [62] 60 0 ?_
      rcases Bool.eq_false_or_eq_true (sameB x.locals y.locals) with hk4 | hk4
      rotate_left
      ·
        refine good_set 59 (x := .bool (!(sameB x.locals y.locals))) (.bool true) (by kernel_rfl) (by rw [hk4]; rfl) ?_
        refine good_set 60 (x := .bool (!(sameB x.locals y.locals))) (.bool true) (by kernel_rfl) (by rw [hk4]; rfl) ?_
        refine good_set 61 (x := .bool (!(sameB x.locals y.locals))) (.bool true) (by kernel_rfl) (by rw [hk4]; rfl) ?_
        refine run_ok (sy_cx _ _) 0 [] 60 4 ?_
        refine good_endV (.bool false) (by kernel_rfl) (fun W hk => ⟨?_, (hk01.trans (hk.mono hB01)).below⟩)
        rw [sameB_f]
        intro h
        have h := congrArg Pg.threads h
        rw [hI1, hI2] at h
        have h := (List.cons.inj (List.append_cancel_left h)).1
        rw [sameB_t.2 (by rw [h])] at hk4; cases hk4
      refine good_set 59 (x := .bool (!(sameB x.locals y.locals))) (.bool false) (by kernel_rfl) (by rw [hk4]; rfl) ?_
      refine good_set 60 (x := .bool (!(sameB x.locals y.locals))) (.bool false) (by kernel_rfl) (by rw [hk4]; rfl) ?_
      refine good_set 61 (x := .bool (!(sameB x.locals y.locals))) (.bool false) (by kernel_rfl) (by rw [hk4]; rfl) ?_
      refine run_ok (sy_cx _ _) 0 [] 60 0 ?_
      refine good_callB (sy_cx _ _) [.slice xb x.body.length xcap2, .slice yb y.body.length ycap2] (.bool (sameB x.body y.body)) (by kernel_rfl) (by kernel_rfl) (by kernel_rfl) (fun W hk => sameStmts_any _ x.body y.body _ _ _ _ _ _ _ _ W rfl rfl (Nat.lt_succ_self _) (by omega) ((xh3.keep hk).mono (fun k h => Nat.lt_of_lt_of_le (hB1 k h) hk.size)) ((yh3.keep hk).mono (fun k h => Nat.lt_of_lt_of_le (hB1 k h) hk.size)) (StsAt_ls.1 (xh4.keep hk (fun k h => Nat.lt_of_lt_of_le (hB1 k h) hk.size))) (StsAt_ls.1 (yh4.keep hk (fun k h => Nat.lt_of_lt_of_le (hB1 k h) hk.size)))) ?_
      refine run_ok (sy_cx _ _) 0 [] 60 0 ?_
      refine good_cond (b := !(sameB x.body y.body)) (by kernel_rfl) (fun hss => ?_) (fun hss => ?_)
      ·
        refine run_ok (sy_cx _ _) 0 [] 60 4 ?_
        refine good_endV (.bool false) (by kernel_rfl) (fun W hk => ⟨?_, (hk01.trans (hk.mono hB01)).below⟩)
        rw [sameB_f]
        intro h
        have h := congrArg Pg.threads h
        rw [hI1, hI2] at h
        have h := (List.cons.inj (List.append_cancel_left h)).1
        rw [sameB_t.2 (by rw [h])] at hss; cases hss
      ·
        have hxy : x = y := by
              have h5 : x.body = y.body := sameB_t.1 (by simpa using hss)
              have h4 := sameB_t.1 hk4
              rw [bEqL_eq] at hk3
              have h3 : x.name = y.name := by simpa using hk3
              cases x; cases y; simp_all
        refine run_ok (sy_cx _ _) 0 [] 60 2 ?_
        refine good_set 5 (x := .int .i64 (wrapF .i64 (((l1.length : Nat) : Int) + 1))) (.int .i64 ((((l1 ++ [x]).length : Nat) : Int))) (by kernel_rfl) (by rw [wr64 (n := ((l1.length : Nat) : Int) + 1) (by omega) (by omega)]; congr 1; simp) ?_
        exact good_sub _ [(2, .ptr gz 0), (3, .ptr (gz + 1) 0), (5, .v (.int .i64 (((l1 ++ [x]).length : Nat) : Int)))] [(gz, some (.cells 26 false true true 3 (putL .leaf 0 [.v (.slice pa pns pcap), .v (.slice pb pnm pcap2), .v (.slice pd pnt pcap3)]))), (gz + 1, some (.cells 26 false true true 3 (putL .leaf 0 [.v (.slice qa qns qcap), .v (.slice qb qnm qcap2), .v (.slice qd qnt qcap3)])))] (gz + 2) (by kernel_rfl) (by kernel_rfl) (by kernel_rfl) (by kernel_rfl) (by kernel_rfl) (by kernel_rfl) hγ1 (by kernel_rfl) (ih (l1 ++ [x], l3, m3) ⟨(by show p.threads = (l1 ++ [_]) ++ l3; rw [hI1]; simp), (by show q.threads = (l1 ++ [_]) ++ m3; rw [hI2, ← hxy]; simp)⟩ (by show l3.length < (_ :: l3).length; simp))
end Go.Proofs.YtiacalnkmnckjaaGreatDoor
end

section
/- The reckoner: an empty slice of one's own; append of a slice that stays. Any program; the conditions are in each theorem. -/
noncomputable section
namespace Go.Sy
open Go Go.RowKit
set_option linter.unusedVariables false
set_option linter.unusedSimpArgs false

def emptyB : Option Blk → Bool
  | some (.cells _ _ _ true 0 _) => true
  | _ => false
section
variable {P : Program} {B : Nat → Prop} {w0 : World} {γ0 : Gm} {nt : Nat} {Q : Exit → Act → World → Prop} {g : Cfg}
/-- as good_lock; of the other blocks nothing new is said -/
theorem good_lock2 (L : List Nat) (c2 : Nat) (hL : allOwn L g.s.h c2 = true)
    (hg : ∀ γ1 B1 w1, Gm.le γ0 γ1 → (∀ b, hasNat b L = false → γ1 b = γ0 b) → (∀ k, B k → B1 k) → (∀ k, B1 k → k < w1.heap.size) → Keep B w0 w1 → (∀ b, hasNat b L = true → ∃ p, γ1 b = some p ∧ B1 p.1 ∧ ¬ B p.1) →
      Good P B1 w1 γ1 nt Q (lockG false L g)) : Good P B w0 γ0 nt Q g := by
  have hL' : ∀ b, hasNat b L = true → isOwnCells (g.s.h.get b) = true ∧ b < c2 := fun b hb => by
    have := List.all_eq_true.1 hL b (hasNat_iff.1 hb)
    rw [Bool.and_eq_true] at this
    exact ⟨this.1, blt_lt this.2⟩
  refine ⟨fun γ a w hle hf hr hb => ?_⟩
  have hown : ∀ b, hasNat b L = true → ∃ p, γ b = some p ∧ ¬ B p.1 ∧ p.1 < w.heap.size := fun b hbL => by
    obtain ⟨h1, _⟩ := hL' b hbL
    unfold isOwnCells at h1
    split at h1 <;> first | (cases h1; done) | skip
    rename_i ty cl ex lim cs hb1
    obtain ⟨p, hp, hbr⟩ := hr.live b _ hb1
    exact ⟨p, hp, hbr.1 rfl, hbr.lt⟩
  have hh := hg (fun b => if hasNat b L = true then γ b else γ0 b) (fun k => B k ∨ ∃ b N, hasNat b L = true ∧ γ b = some (k, N)) w (fun b p hp => by
    show (if hasNat b L = true then γ b else γ0 b) = some p
    split
    · exact hle b p hp
    · exact hp) (fun b hb1 => by show (if hasNat b L = true then γ b else γ0 b) = γ0 b; rw [hb1]; rfl) (fun k => .inl)
    (fun k hk => by
      rcases hk with hk | ⟨b, N, hbL, hγb⟩
      · exact hr.base k hk
      · obtain ⟨p, hp, _, hlt⟩ := hown b hbL
        rw [hγb] at hp
        injection hp with hp
        subst hp
        exact hlt) hb
    (fun b hbL => by
      obtain ⟨p, hp, hnB, _⟩ := hown b hbL
      exact ⟨p, (by show (if hasNat b L = true then γ b else γ0 b) = some p; rw [if_pos hbL]; exact hp), .inr ⟨b, p.2, hbL, hp⟩, hnB⟩)
  refine hh.out γ a w (fun b p hp => ?_) hf ⟨fun b blk hb1 => ?_, fun b b' blk blk' p p' h1 h2 g1 g2 e => ?_, hr.fresh, hr.glob, fun k hk => ?_⟩ (Keep.refl _ _)
  · have hp : (if hasNat b L = true then γ b else γ0 b) = some p := hp
    split at hp
    · exact hp
    · exact hle b p hp
  · simp only [lockG] at hb1
    rw [lockH_get] at hb1
    split at hb1
    · rename_i hbL
      cases hb2 : g.s.h.get b with
      | none => rw [hb2] at hb1; cases hb1
      | some blk0 =>
        rw [hb2] at hb1
        simp only [Option.map_some, Option.some.injEq] at hb1
        subst hb1
        obtain ⟨p, hp, hbr⟩ := hr.live b _ hb2
        have h3 := (hL' b hbL).1
        rw [hb2] at h3
        cases blk0 with
        | cells ty own cl ex lim cs => exact ⟨p, hp, fun e => (by cases e), hbr.2⟩
        | map es clock => cases h3
        | row e xs => cases h3
    · rename_i hbL
      obtain ⟨p, hp, hbr⟩ := hr.live b _ hb1
      refine ⟨p, hp, ?_⟩
      have key : ¬ B p.1 → ¬ (B p.1 ∨ ∃ b N, hasNat b L = true ∧ γ b = some (p.1, N)) := by
        intro hnB hor
        rcases hor with h3 | ⟨b2, N, hb2L, hγ2⟩
        · exact hnB h3
        · obtain ⟨h4, _⟩ := hL' b2 hb2L
          have : ∃ blk2, g.s.h.get b2 = some blk2 := by
            cases hh2 : g.s.h.get b2 with
            | none => rw [hh2] at h4; cases h4
            | some blk2 => exact ⟨_, rfl⟩
          obtain ⟨blk2, hblk2⟩ := this
          have := hr.inj b b2 _ _ p (p.1, N) hb1 hblk2 hp hγ2 rfl
          subst this
          exact hbL hb2L
      cases blk with
      | cells ty own cl ex lim cs => exact ⟨fun e => key (hbr.1 e), hbr.2⟩
      | map es clock => exact ⟨key hbr.1, hbr.2⟩
      | row e xs => exact ⟨key hbr.1, hbr.2⟩
  · have get0 : ∀ {x y}, (lockG false L g).s.h.get x = some y → ∃ z, g.s.h.get x = some z := by
      intro x y hx
      simp only [lockG] at hx
      rw [lockH_get] at hx
      split at hx
      · cases hz : g.s.h.get x with
        | none => rw [hz] at hx; cases hx
        | some z => exact ⟨z, rfl⟩
      · exact ⟨_, hx⟩
    obtain ⟨z1, k1⟩ := get0 h1
    obtain ⟨z2, k2⟩ := get0 h2
    exact hr.inj _ _ _ _ _ _ k1 k2 g1 g2 e
  · rcases hk with hk | ⟨b, N, hbL, hγb⟩
    · exact hr.base k hk
    · obtain ⟨p, hp, _, hlt⟩ := hown b hbL
      rw [hγb] at hp
      injection hp with hp
      subst hp
      exact hlt
/-- an empty slice of one's own (slot t, block b) is a slice without room, somewhere -/
theorem good_fix (t b esz : Nat) (h : g.s.T.get t = some (.slg b 0 0 esz)) (hb : emptyB (g.s.h.get b) = true) (hz : Nat.blt 0 esz = true)
    (hg : ∀ k, Good P B w0 γ0 nt Q ⟨g.k, ⟨g.s.T.put t (some (.v (.slice (some ⟨k, 0, none⟩) 0 0))), g.s.h.put b none, g.s.c, g.s.ds⟩⟩) : Good P B w0 γ0 nt Q g := by
  have hz := blt_lt hz
  unfold emptyB at hb
  split at hb <;> first | (cases hb; done) | skip
  rename_i ty o cl cs hb1
  refine ⟨fun γ a w hle hf hr hk => ?_⟩
  obtain ⟨p, hp, hbr⟩ := hr.live b _ hb1
  obtain ⟨h0, c, ty', fz, h1, h2, h3, h4⟩ := hbr
  obtain ⟨v, hv1, hv2⟩ := hf.tmps _ _ h
  obtain ⟨n, N, off, cap, rfl, hγ, ho⟩ : ∃ n N off cap, v = .slice (some ⟨n, off, none⟩) 0 cap ∧ γ b = some (n, N) ∧ off = 0 ∧ 0 + cap * esz = N := by
    cases hv2 with
    | slg h hl hm ho => obtain ⟨q1, q2⟩ := ho (.inl rfl); exact ⟨_, _, _, _, rfl, h, q1, q2⟩
  rw [hγ] at hp
  injection hp with hp
  subst hp
  obtain ⟨rfl, ho⟩ := ho
  have hc0 := (h3.2 rfl).1
  simp only at h2
  have hcap : cap = 0 := by
    have h9 : cap * esz = 0 := by omega
    rcases Nat.mul_eq_zero.1 h9 with h | h
    · exact h
    · omega
  subst hcap
  refine (hg n).out γ a w hle ⟨hf.size, fun t' av ht => ?_, hf.defs⟩ (hr.drop b) hk
  simp only at ht
  rw [Tr.get_put] at ht
  split at ht
  · rename_i e
    subst e
    injection ht with ht
    subst ht
    exact ⟨_, hv1, .v _⟩
  · exact hf.tmps t' av ht
/-- append of slices that stay, worked out by hand: it makes memory -/
theorem good_appM (x y : Value) (ts : List TypeId) {Pr : World → Value → World → Prop} (h : hdApp P nt g = some (ts, .v x, .v y))
    (hc : ∀ w, Keep B w0 w → ∀ ty, ∃ r w', (Builtin.append_ ts.toArray ty #[x, y]).run P w = .ok r w' ∧ Pr w r w' ∧ Below w.heap.size w w')
    (hg : ∀ w r w' B', Keep B w0 w → Pr w r w' → Below w.heap.size w w' → Keep B w0 w' → (∀ k, B k → B' k) → (∀ k, w.heap.size ≤ k → k < w'.heap.size → B' k) → (∀ k, B' k → k < w'.heap.size) → Good P B' w' γ0 nt Q (nx0 g (norm r))) : Good P B w0 γ0 nt Q g := by
  unfold hdApp at h
  split at h
  · cases h
  rename_i o ho
  split at h <;> first | (cases h; done) | skip
  rename_i kk hop
  split at h <;> first | (cases h; done) | skip
  rename_i s1 x1 hce hargs
  split at h <;> first | (cases h; done) | skip
  rename_i aS aX hs hx
  injection h with h
  injection h with e1 h
  injection h with e2 e3
  subst e2 e3
  have hargs' : kk.args = #[s1, x1] := by apply Array.ext'; simpa using hargs
  have hts : kk.argTypes = ts.toArray := by apply Array.ext'; simpa using e1
  have hop' : o.op = .call { callee := .builtin .append, args := #[s1, x1], argTypes := ts.toArray } := by rw [hop, ← hce, ← hargs', ← hts]
  refine good_opA ho (fun γ a w K QQ hle hf hr hb hdst hdlt hK => ?_)
  have hok := hf.ok (P := P) (B := B) (G := 0) hr.glob o.op.operands.toList
  have hmem : o.op.operands.toList = [s1, x1] := by rw [hop']; simp [Op.operands, Call.operands]
  have hs' := hok s1 (by simp [hmem]) _ hs
  have hx' := hok x1 (by simp [hmem]) _ hx
  have es : a.eval s1 = x := by generalize a.eval s1 = q at hs'; cases hs'; rfl
  have ex : a.eval x1 = y := by generalize a.eval x1 = q at hx'; cases hx'; rfl
  obtain ⟨r, w', hrun, h1, h2⟩ := hc w hb o.type
  have hopr : (execOp a.eval o).run P w = .ok (.value r) w' := by
    unfold execOp
    simp only [hop', resolve, invoke, builtin, Sem.run_bind, Sem.run_pure, Result.andThen_ok, List.map_toArray, List.map_cons, List.map_nil, es, ex, hrun]
  refine wp_val hopr ?_
  have hk := hb.trans (Keep.of_below h2 hr.base)
  have hr' := hr.kept h2.size h2.block
  refine hK _ _ ?_
  -- what stays from here on
  have hlt : ∀ {b blk k N}, g.s.h.get b = some blk → γ b = some (k, N) → k < w.heap.size := by
    intro b blk k N hb1 hγ
    obtain ⟨p, hp, hbr⟩ := hr.live b blk hb1
    rw [hγ] at hp
    injection hp with hp
    subst hp
    exact hbr.lt
  have hg' := hg w r w' (fun k => B k ∨ (k < w'.heap.size ∧ ∀ b blk N, g.s.h.get b = some blk → γ b ≠ some (k, N))) hb h1 h2 hk (fun k => .inl)
    (fun k h3 h4 => .inr ⟨h4, fun b blk N hb1 hγ => by have := hlt hb1 hγ; omega⟩)
    (fun k hkk => hkk.elim (fun h3 => hr'.base k h3) (fun h3 => h3.1))
  have hB : ∀ b blk p, g.s.h.get b = some blk → γ b = some p → ¬ B p.1 → ¬ (B p.1 ∨ (p.1 < w'.heap.size ∧ ∀ b blk N, g.s.h.get b = some blk → γ b ≠ some (p.1, N))) := by
    intro b blk p hb1 hγ hnB hor
    rcases hor with h3 | h3
    · exact hnB h3
    · exact h3.2 b blk p.2 hb1 hγ
  have key1 : FR γ nt (nx0 g (norm r)).s.T (nx0 g (norm r)).s.ds (a.put o.dst r) := by
    have hf' := hf.put (dst := o.dst) (av := norm r) (v := r) (T' := putD o.dst g.s.T (norm r)) (Gm.le.refl γ) (norm_VR r) (by
      unfold tput putD
      cases hd : o.dst with
      | none => rfl
      | some d =>
        have : Nat.blt d nt = true := Nat.ble_eq_true_of_le (hdlt d hd)
        simp only [this])
    have e : (nx0 g (norm r)).s.T = putD o.dst g.s.T (norm r) ∧ (nx0 g (norm r)).s.ds = g.s.ds := by
      rw [← hdst]
      obtain ⟨k, s⟩ := g
      unfold nx0 nx dstOf putD
      unfold hdOp at ho
      simp only at ho
      split at ho <;> first | (cases ho; done) | skip
      exact ⟨rfl, rfl⟩
    rw [e.1, e.2]
    exact hf'
  have key2 : HR (fun k => B k ∨ (k < w'.heap.size ∧ ∀ b blk N, g.s.h.get b = some blk → γ b ≠ some (k, N))) P.globals.size γ (nx0 g (norm r)).s.h (nx0 g (norm r)).s.c w' := by
    have e : (nx0 g (norm r)).s.h = g.s.h ∧ (nx0 g (norm r)).s.c = g.s.c := by
      obtain ⟨k, s⟩ := g
      unfold nx0 nx
      unfold hdOp at ho
      simp only at ho
      split at ho <;> first | (cases ho; done) | skip
      exact ⟨rfl, rfl⟩
    rw [e.1, e.2]
    refine ⟨fun b blk hb1 => ?_, hr'.inj, hr'.fresh, hr'.glob, fun k hkk => hkk.elim (fun h3 => hr'.base k h3) (fun h3 => h3.1)⟩
    obtain ⟨p, hp, hbr⟩ := hr'.live b blk hb1
    refine ⟨p, hp, ?_⟩
    have hBp := hB b blk p hb1 hp
    cases blk with
    | cells ty own clean ex lim cs =>
      obtain ⟨h0, h5⟩ := hbr
      exact ⟨fun ho => hBp (h0 ho), h5⟩
    | map es clock =>
      obtain ⟨h0, h5⟩ := hbr
      exact ⟨hBp h0, h5⟩
    | row e xs =>
      obtain ⟨h0, h5⟩ := hbr
      exact ⟨hBp h0, h5⟩
  have hfin := hg'.out γ (a.put o.dst r) w' hle key1 key2 (Keep.refl _ _)
  have e : (nx0 g (norm r)).k = restK g := by
    obtain ⟨k, s⟩ := g
    unfold nx0 nx restK
    unfold hdOp at ho
    simp only at ho
    split at ho <;> first | (cases ho; done) | skip
    rfl
  rw [e] at hfin
  exact hfin
theorem app_none {t e : TypeId} {sz bytes : Nat} (hu : elemOf P t = some e) (hi : infoOf P e = some (sz, bytes)) (hsz : Nat.blt 0 sz = true) {F : Nat → Prop} {w1 : World} {k : Nat} {a : Option Addr} {n c : Nat} {xs : List Value} (h : SlAt F w1 a n sz xs) (hb : n * bytes ≤ 140737488355328) (h63 : n ≤ maxLen) :
    ∀ w, Keep F w1 w → ∀ ty, ∃ r w', (Builtin.append_ [t, t].toArray ty #[.slice (some ⟨k, 0, none⟩) 0 0, .slice a n c]).run P w = .ok r w' ∧ (∃ a' cap', r = .slice a' n cap' ∧ SlAt (fun k => w.heap.size ≤ k ∧ k < w'.heap.size) w' a' n sz xs) ∧ Below w.heap.size w w' := by
  intro w hk ty
  have hsz := blt_lt hsz
  unfold elemOf at hu
  split at hu <;> first | (cases hu; done) | skip
  rename_i e' hu'
  injection hu with hu
  subst hu
  unfold infoOf at hi
  split at hi <;> first | (cases hi; done) | skip
  rename_i i hi'
  split at hi <;> first | (cases hi; done) | skip
  rename_i z hz
  split at hi <;> first | (cases hi; done) | skip
  rename_i hzs
  injection hi with hi
  injection hi with e1 e2
  subst e1 e2
  have hw := h.keep hk
  cases n with
  | zero =>
    refine ⟨.slice (some ⟨k, 0, none⟩) 0 0, w, ?_, ⟨_, _, rfl, ⟨h.len, .inl rfl⟩⟩, Below.refl _ _⟩
    cases a <;> simp [Builtin.append_, run_underlying hu', sizeOf, typeInfo, hi', Builtin.lenOf, Builtin.firstCells, storeCells, loadCells, loadCellsFrom]
  | succ m =>
    rcases hw.place with h0 | ⟨ha, hF, hcell⟩
    · omega
    rw [ha]
    have hr := run_append_grow (P := P) w t ty _ i z hu' hi' hz ⟨k, 0, none⟩ 0 0 [] (by simp) (by simp) ⟨gB a, oB a, none⟩ (m + 1) c xs hw.len (fun j v hv => by have := hcell j v hv; simpa [Addr.add_mid] using this) (by omega) (by simp only [maxLen] at h63; omega) (growslice_fits (by omega) (by rw [Nat.zero_add]; exact hb))
    rw [Nat.zero_add] at hr
    refine ⟨_, _, hr, ⟨_, _, rfl, ⟨hw.len, .inr ⟨rfl, ⟨Nat.le_refl _, by simp [gB]⟩, fun j v hv => ?_⟩⟩⟩, ?_⟩
    · have hj := (List.getElem?_eq_some_iff.1 hv).1
      simp only [gB, oB, Nat.zero_add]
      generalize hX : (#[] ++ xs.toArray ++ Builtin.zeroCells z.cells (grownCap w (m + 1) 0 e' - (m + 1)) : Array Value) = X
      have hXj : X[j]? = some v := by
        rw [← hX, Array.getElem?_append_left (by simpa using hj)]
        simpa using hv
      have hh : (w.drew.alloc (.cells X e')).heap[w.heap.size]? = some (.cells X e') := heap_alloc_new w.drew _
      simp only [World.cell?]
      rw [hh]
      simp [hXj]
    · exact ((Below.refl _ _).drew).alloc (by simp) _
end
end Go.Sy
end
end

section
/- What CopyTexts and CopyStmts of the statements' kit make. No conditions but those in each theorem. -/
namespace Go.Proofs.YtiacalnkmnckjaaGreatDoor
open Go.RowKit Go.As
set_option linter.unusedVariables false
set_option linter.unusedSimpArgs false

open Go.Sy in
set_option maxRecDepth 100000 in
theorem copyTexts_any (a : Option Addr) (n cap : Nat) (xs : List Value) (w : World) (hbd : n ≤ 1099511627776) (hsl : SlAt (· < w.heap.size) w a n 1 xs) :
    Calls Tryz.prog 49 #[.slice a n cap] w fun r w' => ∃ v, r = .returned v ∧ (∃ a' cap', v = .slice a' n cap' ∧ SlAt (NewIn w w') w' a' n 1 xs) ∧ Below w.heap.size w w' := by
  refine Sy.enter (vs := [.slice a n cap]) sy_fine Tryz.func49 rfl (fun γ => norms_LR _) rfl (fun γ0 hγ0 => ?_)
  refine run_ok (sy_cx _ _) 0 [5] 60 0 ?_
  refine good_fix 3 gz 1 (by kernel_rfl) (by kernel_rfl) (by kernel_rfl) (fun k => ?_)
  refine good_appM (.slice (some ⟨k, 0, none⟩) 0 0) (.slice a n cap) [23, 23] (by kernel_rfl) (fun W hk => app_none (e := 9) (sz := 1) (bytes := 16) (by kernel_rfl) (by kernel_rfl) (by kernel_rfl) hsl (by omega) (by unfold maxLen; omega) W hk) ?_
  rintro w1 r w2 B2 hk1 ⟨a2, cap2, rfl, hsl2⟩ hbl hk2 hB02 hBn hB2
  refine run_ok (sy_cx _ _) 0 [] 60 0 ?_
  refine good_endV (.slice a2 n cap2) (by kernel_rfl) (fun W hk => ⟨_, rfl, ⟨a2, cap2, rfl, ?_⟩, (hk2.trans (hk.mono hB02)).below⟩)
  exact ((hsl2.mono fun k h => hBn k h.1 h.2).keep hk |> fun _ => ((hsl2.keep (hk.mono fun k h => hBn k h.1 h.2)).mono fun k h => ⟨Nat.le_trans hk1.size h.1, Nat.lt_of_lt_of_le h.2 hk.size⟩))
structure CI (α : Type) where
  l1 : List α
  l2 : List α
  xs : List Value
  X : Sy.AV
  ob : Option Sy.Blk
def CInv {α : Type} (At : (Nat → Prop) → World → α → List Value → Prop) (e sz : Nat) (w : World) (L : List α) (b : Nat) (i : CI α) (B : Nat → Prop) (w1 : World) : Prop :=
  L = i.l1 ++ i.l2 ∧ Sy.Keep (· < w.heap.size) w w1 ∧ (∀ k, k < w.heap.size → B k) ∧ (∀ k, B k → k < w1.heap.size) ∧ LsAt (At (fun k => B k ∧ w.heap.size ≤ k) w1) i.l1 i.xs ∧ Sy.RowAt e sz b i.l1.length i.xs i.X i.ob
def StsPr (L : List St) (w : World) (v : Value) (w' : World) : Prop := ∃ a' cap' xs', v = .slice a' L.length cap' ∧ Sy.SlAt (NewIn w w') w' a' L.length 9 xs' ∧ StsAt (NewIn w w') w' L xs'
open Go.Sy in
set_option maxRecDepth 100000 in
theorem copyStmts_any : ∀ (N : Nat) (L : List St) (a : Option Addr) (n cap : Nat) (xs : List Value) (w : World), n = L.length → swts L < N → swts L ≤ 1000000000000 → SlAt (· < w.heap.size) w a n 9 xs → LsAt (StAt (· < w.heap.size) w) L xs →
    Calls Tryz.prog 50 #[.slice a n cap] w fun r w' => ∃ v, r = .returned v ∧ StsPr L w v w' ∧ Below w.heap.size w w' := by
  intro N
  induction N with
  | zero => intro L a n cap xs w hn h; omega
  | succ N ihN =>
    intro L a n cap xs w hn hN hbd hsl hks
    have hnl := swts_len L
    refine Sy.enter (vs := [.slice a n cap]) sy_fine Tryz.func50 rfl (fun γ => norms_LR _) rfl (fun γ0 hγ0 => ?_)
    refine run_ok (sy_cx _ _) 0 [] 60 0 ?_
    refine good_toLp ?_
    refine good_loopB (fun i : CI St => i.l2.length) (CInv StAt 56 9 w L gz) (fun i => ⟨mkT [(0, .v (.slice a n cap)), (3, i.X), (4, .v (.int .i64 (i.l1.length : Int)))], mkH [(gz, i.ob)], gz + 1, []⟩)
      ⟨[], L, [], .v (.slice none 0 0), none⟩ ⟨rfl, Keep.refl _ _, fun k h => h, fun k h => h, rfl, RowAt.nil _ _ _⟩ (by kernel_rfl)
      (fun h => good_sub _ [(0, .v (.slice a n cap)), (3, .v (.slice none 0 0)), (4, .v (.int .i64 (([] : List St).length : Int)))] [(gz, none)] (gz + 1) rfl (by kernel_rfl) (by kernel_rfl) (by kernel_rfl) (by kernel_rfl) (by kernel_rfl) (fun b hb => hγ0 b (Nat.le_trans (Nat.le_succ _) hb)) (by kernel_rfl) h) ?_
    rintro ⟨l1, l2, xk, X, ob⟩ B1 w1 ⟨hI, hk1, hB0, hB1, hxk, hrow⟩ ih
    simp only at hI hxk hrow
    have hn2 : n = l1.length + l2.length := by rw [hn, hI, List.length_append]
    have hw1 : swts L = swts l1 + swts l2 := by rw [hI, swts_app]
    have hsl1 : SlAt B1 w1 a n 9 xs := (hsl.keep hk1).mono hB0
    have hXlt : avLt (gz + 1) X = true := hrow.lt (by omega)
    refine run_ok (sy_cx _ _) 0 [] 60 0 ?_
    cases l2 with
    | nil =>
      have hn3 : n = l1.length := by rw [hn2]; simp
      refine good_take false (b := intLt (l1.length : Int) (n : Int)) (by kernel_rfl) (lt_f (by omega)) ?_
      have hfin : ∀ (γ : Gm) (W : World) (x : Value) (h : Hp) (cc : Nat), VR γ X x → HR B1 Tryz.prog.globals.size γ h cc W → h.get gz = ob → Keep B1 w1 W → (∃ v', Ending.returned x = .returned v' ∧ StsPr L w v' W ∧ Below w.heap.size w W) := by
        intro γ W x h cc hx hH hb hkW
        obtain ⟨hown, _⟩ := row_own (base := w.heap.size) hrow hb hH hx (fun k hk => Nat.le_of_not_lt (fun h => hk (hB0 k h)))
        obtain ⟨a', cap', rfl, _, hsl'⟩ := SlAt.of_own (F := NewIn w W) hown (fun k h1 h2 => ⟨h1, h2⟩)
        refine ⟨_, rfl, ?_, (hk1.trans (hkW.mono hB0)).below⟩
        have hkl : l1 = L := by rw [hI]; simp
        rw [hkl] at hsl' hxk
        refine ⟨a', cap', xk, by rw [hkl], hsl', ?_⟩
        exact StsAt_ls.2 (hxk.imp fun _ _ h => h.keep (hkW.mono fun k hk => hk.1) (fun k hk => ⟨hk.2, Nat.lt_of_lt_of_le (hB1 k hk.1) hkW.size⟩))
      rcases hrow.2 with ⟨hX, hob, h0⟩ | ⟨hX, hob⟩
      ·
        subst hX hob
        refine run_ok (sy_cx _ _) 0 [] 60 0 ?_
        exact good_end (av := .v (.slice none 0 0)) (by kernel_rfl) (fun γ W v _ hv hH hkW => hfin γ W v _ _ hv hH (by kernel_rfl) hkW)
      ·
        subst hX hob
        refine run_ok (sy_cx _ _) 0 [] 60 0 ?_
        exact good_end (av := .slg gz 0 l1.length 9) (by kernel_rfl) (fun γ W v _ hv hH hkW => hfin γ W v _ _ hv hH (by kernel_rfl) hkW)
    | cons s l3 =>
      have hin : l1.length < n := by rw [hn2, List.length_cons]; omega
      have hks2 := StsAt_ls.2 hks
      rw [hI] at hks2
      obtain ⟨c, hc, hcell⟩ := hks2.at_
      have hc1 : StAt B1 w1 s c := hc.keep hk1 hB0
      simp only [swts] at hw1
      obtain ⟨ukind, usn, ⟨uop, uty, ubits, uen, uek⟩, ubody, uels⟩ := s
      simp only [StAt] at hc
      obtain ⟨ucs, uba, ubc, ubx, ula, ulc, ulx, rfl, uhe, uhbs, uhbt, uhls, uhlt⟩ := hc
      have uhe0 := uhe
      simp only [ExAt] at uhe0
      obtain ⟨uea, uec, uex, rfl, _⟩ := uhe0
      have hcell : ∀ j v, ([.int .i64 ukind, .string (str usn), .int .u8 uop, .int .u8 uty, .int .u64 ubits, .string (str uen), .slice uea uek.length uec, .slice uba ubody.length ubc, .slice ula uels.length ulc] : List Value)[j]? = some v → xs[l1.length * 9 + j]? = some v := hcell
      have umid : ∀ j v, ([.int .u8 uop, .int .u8 uty, .int .u64 ubits, .string (str uen), .slice uea uek.length uec] : List Value)[j]? = some v → xs[l1.length * 9 + 2 + j]? = some v := cell_part hcell 2 (mid_get [_, _] [.int .u8 uop, .int .u8 uty, .int .u64 ubits, .string (str uen), .slice uea uek.length uec] [_, _])
      simp only [swt] at hw1
      refine good_take true (b := intLt (l1.length : Int) (n : Int)) (by kernel_rfl) (lt_t (by omega)) ?_
      refine run_ok (sy_cx _ _) 0 [] 60 0 ?_
      refine good_val (.pointer (some ⟨gB a, oB a + l1.length * 9, none⟩)) (S := Instr.indexAt 54 (.slice a n cap) (.int .i64 (l1.length : Int))) (by kernel_rfl) (fun W _ => idx_sl (e := 56) hsl1 (by kernel_rfl) (by kernel_rfl) hin W) ?_
      refine run_ok (sy_cx _ _) 0 [] 60 0 ?_
      refine good_val (.agg #[.int .i64 ukind, .string (str usn), .int .u8 uop, .int .u8 uty, .int .u64 ubits, .string (str uen), .slice uea uek.length uec, .slice uba ubody.length ubc, .slice ula uels.length ulc]) (S := Instr.loadAt 56 (.pointer (some ⟨gB a, oB a + l1.length * 9 + 0, none⟩))) (by kernel_rfl) (fun W hk => load_slA (P := Tryz.prog) (ty := 56) (m := 9) (cs := [.int .i64 ukind, .string (str usn), .int .u8 uop, .int .u8 uty, .int .u64 ubits, .string (str uen), .slice uea uek.length uec, .slice uba ubody.length ubc, .slice ula uels.length ulc]) hsl1 (by kernel_rfl) (by kernel_rfl) l1.length 0 rfl hcell hk) ?_
      refine run_ok (sy_cx _ _) 0 [] 60 0 ?_
      refine good_callM (sy_cx _ _) [.agg #[.int .u8 uop, .int .u8 uty, .int .u64 ubits, .string (str uen), .slice uea uek.length uec]] (by kernel_rfl) (by kernel_rfl) (by kernel_rfl) (fun W hk => copyExpr_any _ (Ex.mk uop uty ubits uen uek) [.int .u8 uop, .int .u8 uty, .int .u64 ubits, .string (str uen), .slice uea uek.length uec] W (Nat.le_refl _) (by omega) (uhe.keep (hk1.trans (hk.mono hB0)) (fun k h => Nat.lt_of_lt_of_le h (hk1.trans (hk.mono hB0)).size))) ?_
      rintro wa r w2 B2 hka ⟨ds, rfl, hds⟩ hba hk12 hB12 hBn2 hB2
      have hds0 := hds
      simp only [ExAt] at hds0
      obtain ⟨ea, ecap, exs, rfl, _⟩ := hds0
      have hk02 : Keep (· < w.heap.size) w w2 := hk1.trans (hk12.mono hB0)
      refine run_ok (sy_cx _ _) 0 [] 60 0 ?_
      refine good_callM (sy_cx _ _) [.slice uba ubody.length ubc] (by kernel_rfl) (by kernel_rfl) (by kernel_rfl) (fun W hk => ihN ubody _ _ _ _ W rfl (by omega) (by omega) ((uhbs.keep (hk02.trans (hk.mono fun k h => hB12 k (hB0 k h)))).mono (fun k h => Nat.lt_of_lt_of_le h (hk02.trans (hk.mono fun k h => hB12 k (hB0 k h))).size)) (StsAt_ls.1 (uhbt.keep (hk02.trans (hk.mono fun k h => hB12 k (hB0 k h))) (fun k h => Nat.lt_of_lt_of_le h (hk02.trans (hk.mono fun k h => hB12 k (hB0 k h))).size)))) ?_
      rintro wbody r w3 B3 hkbody ⟨pa, pac, pax, rfl, pas, pat⟩ hbbody hk23 hB23 hBn3 hB3
      have hk03 : Keep (· < w.heap.size) w w3 := hk02.trans (hk23.mono fun k h => hB12 k (hB0 k h))
      refine run_ok (sy_cx _ _) 0 [] 60 0 ?_
      refine good_callM (sy_cx _ _) [.slice ula uels.length ulc] (by kernel_rfl) (by kernel_rfl) (by kernel_rfl) (fun W hk => ihN uels _ _ _ _ W rfl (by omega) (by omega) ((uhls.keep (hk03.trans (hk.mono fun k h => hB23 k (hB12 k (hB0 k h))))).mono (fun k h => Nat.lt_of_lt_of_le h (hk03.trans (hk.mono fun k h => hB23 k (hB12 k (hB0 k h)))).size)) (StsAt_ls.1 (uhlt.keep (hk03.trans (hk.mono fun k h => hB23 k (hB12 k (hB0 k h)))) (fun k h => Nat.lt_of_lt_of_le h (hk03.trans (hk.mono fun k h => hB23 k (hB12 k (hB0 k h)))).size)))) ?_
      rintro wels r w4 B4 hkels ⟨qa, qac, qax, rfl, qas, qat⟩ hbels hk34 hB34 hBn4 hB4
      have hk04 : Keep (· < w.heap.size) w w4 := hk03.trans (hk34.mono fun k h => hB23 k (hB12 k (hB0 k h)))
      refine run_ok (sy_cx _ _) 0 [31] 60 0 ?_
      refine good_app (t := 54) (e := 56) (.slg (gz + 2) 0 1 9) 9 136 gz l1.length 0 xk X ob [.int .i64 ukind, .string (str usn), .int .u8 uop, .int .u8 uty, .int .u64 ubits, .string (str uen), .slice ea uek.length ecap, .slice pa ubody.length pac, .slice qa uels.length qac] [3, 28] (by kernel_rfl) (by kernel_rfl) (by kernel_rfl) (by kernel_rfl) hrow (by kernel_rfl) (by kernel_rfl) (by kernel_rfl)
        (by unfold maxLen; omega) (by omega) (hγ0 gz (Nat.le_refl _)) (by kernel_rfl) (by kernel_rfl) (by kernel_rfl) (by kernel_rfl) (by kernel_rfl) (fun X' ob' hrow' => ?_)
      rcases hrow'.2 with ⟨_, _, h0⟩ | ⟨rfl, rfl⟩
      · omega
      refine run_ok (sy_cx _ _) 0 [] 60 0 ?_
      refine good_set 4 (x := .int .i64 (wrapF .i64 (((l1.length : Nat) : Int) + 1))) (.int .i64 ((((l1 ++ [(St.mk ukind usn (Ex.mk uop uty ubits uen uek) ubody uels)]).length : Nat) : Int))) (by kernel_rfl) (by rw [wr64 (n := ((l1.length : Nat) : Int) + 1) (by omega) (by omega)]; congr 1; simp) ?_
      have hB14 : ∀ k, B1 k → B4 k := fun k h => hB34 k (hB23 k (hB12 k h))
      have hk14 : Keep B1 w1 w4 := hk12.trans ((hk23.trans (hk34.mono hB23)).mono hB12)
      have hsz1 := hk1.size
      have hsza := hka.size
      have hszb := hkbody.size
      have hszc := hkels.size
      have hs12 := hk12.size
      have hs23 := hk23.size
      have hs34 := hk34.size
      have hst : StAt (fun k => B4 k ∧ w.heap.size ≤ k) w4 (St.mk ukind usn (Ex.mk uop uty ubits uen uek) ubody uels) [.int .i64 ukind, .string (str usn), .int .u8 uop, .int .u8 uty, .int .u64 ubits, .string (str uen), .slice ea uek.length ecap, .slice pa ubody.length pac, .slice qa uels.length qac] := by
        simp only [StAt]
        refine ⟨[.int .u8 uop, .int .u8 uty, .int .u64 ubits, .string (str uen), .slice ea uek.length ecap], pa, pac, pax, qa, qac, qax, rfl, hds.keep ((hk23.trans (hk34.mono hB23)).mono fun k h => hBn2 k h.1 h.2) (fun k h => ⟨hB34 k (hB23 k (hBn2 k h.1 h.2)), by have := h.1; omega⟩), ?_, ?_, ?_, ?_⟩
        · exact ((pas.keep (hk34.mono fun k h => hBn3 k h.1 h.2)).mono fun k h => ⟨hB34 k (hBn3 k h.1 h.2), by have := h.1; omega⟩)
        · exact pat.keep (hk34.mono fun k h => hBn3 k h.1 h.2) fun k h => ⟨hB34 k (hBn3 k h.1 h.2), by have := h.1; omega⟩
        · exact qas.mono fun k h => ⟨hBn4 k h.1 h.2, by have := h.1; omega⟩
        · exact qat.keep (Keep.refl _ _) fun k h => ⟨hBn4 k h.1 h.2, by have := h.1; omega⟩
      have hI4 : CInv StAt 56 9 w L gz ⟨l1 ++ [(St.mk ukind usn (Ex.mk uop uty ubits uen uek) ubody uels)], l3, xk ++ [.int .i64 ukind, .string (str usn), .int .u8 uop, .int .u8 uty, .int .u64 ubits, .string (str uen), .slice ea uek.length ecap, .slice pa ubody.length pac, .slice qa uels.length qac], .slg gz 0 (l1.length + (0 + 1)) 9, some (.row 56 (xk ++ [.int .i64 ukind, .string (str usn), .int .u8 uop, .int .u8 uty, .int .u64 ubits, .string (str uen), .slice ea uek.length ecap, .slice pa ubody.length pac, .slice qa uels.length qac]))⟩ B4 w4 := by
        refine ⟨by show L = (l1 ++ [_]) ++ l3; rw [hI]; simp, hk04, fun k hk => hB14 k (hB0 k hk), hB4, ?_, ?_⟩
        · exact LsAt.snoc (hxk.imp fun _ _ h => h.keep (hk14.mono fun k hk => hk.1) (fun k hk => ⟨hB14 k hk.1, hk.2⟩)) hst
        · show RowAt _ 9 gz (l1 ++ [_]).length _ _ _
          rw [List.length_append]
          exact hrow'

      exact good_sub _ [(0, .v (.slice a n cap)), (3, .slg gz 0 (l1.length + (0 + 1)) 9), (4, .v (.int .i64 ((l1 ++ [(St.mk ukind usn (Ex.mk uop uty ubits uen uek) ubody uels)]).length : Int)))] [(gz, some (.row 56 (xk ++ [.int .i64 ukind, .string (str usn), .int .u8 uop, .int .u8 uty, .int .u64 ubits, .string (str uen), .slice ea uek.length ecap, .slice pa ubody.length pac, .slice qa uels.length qac])))] (gz + 1) (by kernel_rfl) (by kernel_rfl) (by kernel_rfl) (by kernel_rfl) (by kernel_rfl) (by kernel_rfl) (fun b hb => hγ0 b (Nat.le_trans (Nat.le_succ _) hb)) (by kernel_rfl) (ih _ B4 w4 hI4 (by show l3.length < (_ :: l3).length; simp))
end Go.Proofs.YtiacalnkmnckjaaGreatDoor
end
