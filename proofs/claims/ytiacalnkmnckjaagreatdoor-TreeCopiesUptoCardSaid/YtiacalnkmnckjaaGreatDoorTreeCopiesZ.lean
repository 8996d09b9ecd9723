/- The law TreeCopies: whether programs are the same, and what a copy is. Arguments together of at most 1048576 values. No conditions but those in each theorem. -/
import Derived.Test.YtiacalnkmnckjaaGreatDoorTreeCopiesP12
namespace Go.Proofs.YtiacalnkmnckjaaGreatDoor
open Go.RowKit Go.As
set_option linter.unusedVariables false
set_option linter.unusedSimpArgs false

theorem nls_le : ∀ (l : List (List UInt8)), nls l ≤ sumN txB l
  | [] => Nat.le_refl _
  | s :: l => by
    have := nls_le l
    simp only [nls, sumN, txB]
    omega
theorem vls_le : ∀ (l : List Vr), vls l ≤ sumN vrB l
  | [] => Nat.le_refl _
  | s :: l => by
    have := vls_le l
    simp only [vls, sumN, vrB]
    omega
theorem tls_le : ∀ (l : List Th), tls l ≤ sumN thB l
  | [] => Nat.le_refl _
  | s :: l => by
    have := tls_le l
    have := vls_le s.locals
    simp only [tls, sumN, thB]
    omega
open Go.Sy in
set_option maxRecDepth 100000 in
theorem treeCopies_any (p q : Pg) (e : Ex) (w : World) (ht : Tab w) (hbd : pgB p + pgB q + exB e ≤ 1048576)
    {pa pb pd : Option Addr} {pns pnm pnt pcap pcap2 pcap3 : Nat} {qa qb qd : Option Addr} {qns qnm qnt qcap qcap2 qcap3 : Nat} {eop ety ebits : Int} {en : List UInt8} {ea : Option Addr} {eka eec : Nat}
    (hp : PgAt (· < w.heap.size) w p [.slice pa pns pcap, .slice pb pnm pcap2, .slice pd pnt pcap3]) (hq : PgAt (· < w.heap.size) w q [.slice qa qns qcap, .slice qb qnm qcap2, .slice qd qnt qcap3]) (he : ExAt (· < w.heap.size) w e [.int .u8 eop, .int .u8 ety, .int .u64 ebits, .string (str en), .slice ea eka eec]) :
    Calls Tryz.prog 6 #[.agg #[.slice pa pns pcap, .slice pb pnm pcap2, .slice pd pnt pcap3], .agg #[.slice qa qns qcap, .slice qb qnm qcap2, .slice qd qnt qcap3], .agg #[.int .u8 eop, .int .u8 ety, .int .u64 ebits, .string (str en), .slice ea eka eec]] w (fun r w' => r = .returned (.bool true) ∧ Below w.heap.size w w') := by
  have hwp := pwt_pgB p
  have hwq := pwt_pgB q
  have hwe := wgt_exB e
  have keepP : ∀ (x : Pg) (cs : List Value), PgAt (· < w.heap.size) w x cs → ∀ W, Keep (· < w.heap.size) w W → PgAt (· < W.heap.size) W x cs := fun x cs h W hk => h.keep hk fun k h => Nat.lt_of_lt_of_le h hk.size
  have PP := keepP _ _ hp
  have PQ := keepP _ _ hq
  have PE : ∀ W, Keep (· < w.heap.size) w W → ExAt (· < W.heap.size) W e [.int .u8 eop, .int .u8 ety, .int .u64 ebits, .string (str en), .slice ea eka eec] := fun W hk => he.keep hk fun k h => Nat.lt_of_lt_of_le h hk.size
  have nam : ∀ x : Pg, pgB x ≤ 1048576 → nls x.mutexes + vls x.shared + tls x.threads ≤ 1000000000000 := fun x hx => by
    have h1 := nls_le x.mutexes
    have h2 := vls_le x.shared
    have h3 := tls_le x.threads
    unfold pgB at hx
    omega
  refine Sy.enter (vs := [.agg #[.slice pa pns pcap, .slice pb pnm pcap2, .slice pd pnt pcap3], .agg #[.slice qa qns qcap, .slice qb qnm qcap2, .slice qd qnt qcap3], .agg #[.int .u8 eop, .int .u8 ety, .int .u64 ebits, .string (str en), .slice ea eka eec]]) sy_fine Tryz.func6 rfl (fun γ => norms_LR _) rfl (fun γ0 hγ0 => ?_)
  refine run_ok (sy_cx _ _) 0 [] 60 0 ?_
  rcases Bool.eq_false_or_eq_true (lrg p) with hpl | hpl
  ·
    refine good_callB (sy_cx _ _) [.agg #[.slice pa pns pcap, .slice pb pnm pcap2, .slice pd pnt pcap3]] (.bool true) (by kernel_rfl) (by kernel_rfl) (by kernel_rfl) (fun W hk => by rw [← hpl]; exact large_any p [.slice pa pns pcap, .slice pb pnm pcap2, .slice pd pnt pcap3] W (by omega) (nam p (by omega)) (PP W hk)) ?_
    refine run_ok (sy_cx _ _) 0 [] 60 4 ?_
    refine good_endV (.bool true) (by kernel_rfl) (fun W hk => ⟨rfl, hk.below⟩)
  refine good_callB (sy_cx _ _) [.agg #[.slice pa pns pcap, .slice pb pnm pcap2, .slice pd pnt pcap3]] (.bool false) (by kernel_rfl) (by kernel_rfl) (by kernel_rfl) (fun W hk => by rw [← hpl]; exact large_any p [.slice pa pns pcap, .slice pb pnm pcap2, .slice pd pnt pcap3] W (by omega) (nam p (by omega)) (PP W hk)) ?_
  refine run_ok (sy_cx _ _) 0 [] 60 0 ?_
  rcases Bool.eq_false_or_eq_true (lrg q) with hql | hql
  ·
    refine good_callB (sy_cx _ _) [.agg #[.slice qa qns qcap, .slice qb qnm qcap2, .slice qd qnt qcap3]] (.bool true) (by kernel_rfl) (by kernel_rfl) (by kernel_rfl) (fun W hk => by rw [← hql]; exact large_any q [.slice qa qns qcap, .slice qb qnm qcap2, .slice qd qnt qcap3] W (by omega) (nam q (by omega)) (PQ W hk)) ?_
    refine run_ok (sy_cx _ _) 0 [] 60 4 ?_
    refine good_endV (.bool true) (by kernel_rfl) (fun W hk => ⟨rfl, hk.below⟩)
  refine good_callB (sy_cx _ _) [.agg #[.slice qa qns qcap, .slice qb qnm qcap2, .slice qd qnt qcap3]] (.bool false) (by kernel_rfl) (by kernel_rfl) (by kernel_rfl) (fun W hk => by rw [← hql]; exact large_any q [.slice qa qns qcap, .slice qb qnm qcap2, .slice qd qnt qcap3] W (by omega) (nam q (by omega)) (PQ W hk)) ?_
  refine run_ok (sy_cx _ _) 0 [] 60 0 ?_
  refine good_callB (sy_cx _ _) [.agg #[.int .u8 eop, .int .u8 ety, .int .u64 ebits, .string (str en), .slice ea eka eec]] (.int .i64 (wgt e : Nat)) (by kernel_rfl) (by kernel_rfl) (by kernel_rfl) (fun W hk => weight_any _ e [.int .u8 eop, .int .u8 ety, .int .u64 ebits, .string (str en), .slice ea eka eec] W (Nat.le_refl _) (by omega) (PE W hk)) ?_
  refine run_ok (sy_cx _ _) 0 [] 60 0 ?_
  by_cases h3 : (3000 : Int) < (wgt e : Nat)
  ·
    refine good_take true (b := intLt 3000 (wgt e : Nat)) (by kernel_rfl) (lt_t h3) ?_
    refine run_ok (sy_cx _ _) 0 [] 60 4 ?_
    refine good_endV (.bool true) (by kernel_rfl) (fun W hk => ⟨rfl, hk.below⟩)
  refine good_take false (b := intLt 3000 (wgt e : Nat)) (by kernel_rfl) (lt_f h3) ?_
  refine good_give 3 gz 26 [.slice pa pns pcap, .slice pb pnm pcap2, .slice pd pnt pcap3] (by kernel_rfl) (by kernel_rfl) (fun k3 wa Ba hka hBa hBk3 hnk3 hsa hh3 => ?_)
  refine good_give 4 (gz + 1) 26 [.slice qa qns qcap, .slice qb qnm qcap2, .slice qd qnt qcap3] (by kernel_rfl) (by kernel_rfl) (fun k4 wb Bb hkb hBb hBk4 hnk4 hsb hh4 => ?_)
  refine good_give 5 (gz + 2) 34 [.int .u8 eop, .int .u8 ety, .int .u64 ebits, .string (str en), .slice ea eka eec] (by kernel_rfl) (by kernel_rfl) (fun k5 w1 B1 hkc hBc hBk5 hnk5 hB1 hh5 => ?_)
  have hk1 : Keep (· < w.heap.size) w w1 := hka.trans ((hkb.trans (hkc.mono hBb)).mono hBa)
  have hB01 : ∀ k, k < w.heap.size → B1 k := fun k h => hBc k (hBb k (hBa k h))
  have hb5 := box_sl hh5 hBk5 (n := 5) rfl
  have hb4 := ((box_sl hh4 hBk4 (n := 3) rfl).keep hkc).mono hBc
  have hb3 := ((((box_sl hh3 hBk3 (n := 3) rfl).keep hkb).mono hBb).keep hkc).mono hBc
  have PP1 : ∀ W, Keep B1 w1 W → PgAt (· < W.heap.size) W p [.slice pa pns pcap, .slice pb pnm pcap2, .slice pd pnt pcap3] := fun W hk => PP W (hk1.trans (hk.mono hB01))
  have PQ1 : ∀ W, Keep B1 w1 W → PgAt (· < W.heap.size) W q [.slice qa qns qcap, .slice qb qnm qcap2, .slice qd qnt qcap3] := fun W hk => PQ W (hk1.trans (hk.mono hB01))
  refine run_ok (sy_cx _ _) 0 [] 2 0 ?_
  refine good_plan sy_mixed (.take 0 (.take 2 (.alt (.run 1 (.alt (.run 3 (.alt (.run 4 (.run 5 (.run 6 .done))) (.run 5 (.run 4 (.run 6 .done))))) (.alt (.run 4 (.alt (.run 3 (.run 5 (.run 6 .done))) (.run 5 (.run 3 (.run 6 .done))))) (.run 5 (.alt (.run 3 (.run 4 (.run 6 .done))) (.run 4 (.run 3 (.run 6 .done)))))))) (.alt (.run 4 (.alt (.run 1 (.alt (.run 3 (.run 5 (.run 6 .done))) (.run 5 (.run 3 (.run 6 .done))))) (.run 5 (.run 1 (.run 3 (.run 6 .done)))))) (.run 5 (.alt (.run 1 (.alt (.run 3 (.run 4 (.run 6 .done))) (.run 4 (.run 3 (.run 6 .done))))) (.run 4 (.run 1 (.run 3 (.run 6 .done)))))))))) 7 (by kernel_rfl) ?_
  refine p_val (.agg #[.slice pa pns pcap, .slice pb pnm pcap2, .slice pd pnt pcap3]) (S := Instr.loadAt 26 (.pointer (some ⟨k3, 0, none⟩))) (Bs := B1) (ws := w1) (by kernel_rfl) (by kernel_rfl) (fun _ h => h) (fun W hk => ld_box hb3 (by kernel_rfl) (by kernel_rfl) hk) ?_
  refine p_val (.agg #[.slice qa qns qcap, .slice qb qnm qcap2, .slice qd qnt qcap3]) (S := Instr.loadAt 26 (.pointer (some ⟨k4, 0, none⟩))) (Bs := B1) (ws := w1) (by kernel_rfl) (by kernel_rfl) (fun _ h => h) (fun W hk => ld_box hb4 (by kernel_rfl) (by kernel_rfl) hk) ?_
  refine p_alt (by kernel_rfl) ?_ ?_
  ·
    refine p_run (Keep B1 w1) (by kernel_rfl) (fun _ h => h) (by kernel_rfl) ?_
    refine good_callM (sy_cx _ _) [.agg #[.slice pa pns pcap, .slice pb pnm pcap2, .slice pd pnt pcap3]] (by kernel_rfl) (by kernel_rfl) (by kernel_rfl) (fun W hk => copyProgram_any p [.slice pa pns pcap, .slice pb pnm pcap2, .slice pd pnt pcap3] W (by omega) (PP1 W ((fun _ h => h) W hk))) ?_
    rintro wcu r w2 B2 hkcu ⟨du, rfl, hdu⟩ hbcu hk12 hB12 hBn2 hB2
    have hS2 : ∀ W, Keep B2 w2 W → Keep B1 w1 W := fun W hk => (fun _ h => h) W (hk12.trans (hk.mono hB12))
    have hdu0 := hdu
    obtain ⟨ua, ucap, _, ub, ucap2, _, ud, ucap3, _, rfl, _⟩ := hdu0
    refine run_ok (sy_cx _ _) 0 [] 60 0 ?_
    refine p_alt (by kernel_rfl) ?_ ?_
    ·
      refine p_run (Keep B1 w1) (by kernel_rfl) hS2 (by kernel_rfl) ?_
      refine good_callM (sy_cx _ _) [.agg #[.slice qa qns qcap, .slice qb qnm qcap2, .slice qd qnt qcap3]] (by kernel_rfl) (by kernel_rfl) (by kernel_rfl) (fun W hk => copyProgram_any q [.slice qa qns qcap, .slice qb qnm qcap2, .slice qd qnt qcap3] W (by omega) (PQ1 W (hS2 W hk))) ?_
      rintro wcv r w3 B3 hkcv ⟨dv, rfl, hdv⟩ hbcv hk23 hB23 hBn3 hB3
      have hS3 : ∀ W, Keep B3 w3 W → Keep B1 w1 W := fun W hk => hS2 W (hk23.trans (hk.mono hB23))
      have hdv0 := hdv
      obtain ⟨va, vcap, _, vb, vcap2, _, vd, vcap3, _, rfl, _⟩ := hdv0
      refine run_ok (sy_cx _ _) 0 [] 60 0 ?_
      refine p_alt (by kernel_rfl) ?_ ?_
      ·
        refine p_run (Keep B1 w1) (by kernel_rfl) hS3 (by kernel_rfl) ?_
        refine run_ok (sy_cx _ _) 0 [] 60 0 ?_
        refine p_run (Keep B1 w1) (by kernel_rfl) hS3 (by kernel_rfl) ?_
        refine run_ok (sy_cx _ _) 0 [] 60 0 ?_
        refine p_run (Keep B1 w1) (by kernel_rfl) hS3 (by kernel_rfl) ?_
        refine run_ok (sy_cx _ _) 0 [] 60 0 ?_
        refine p_done (by kernel_rfl) ?_ (Keep B1 w1) (by kernel_rfl) hS3
        refine run_ok (sy_cx _ _) 0 [] 3 0 ?_
        refine good_give 7 (gz + 3) 26 [.slice ua p.shared.length ucap, .slice ub p.mutexes.length ucap2, .slice ud p.threads.length ucap3] (by kernel_rfl) (by kernel_rfl) (fun k7 we Be hke hBe hBk7 hnk7 hse hh7 => ?_)
        refine good_give 8 (gz + 4) 26 [.slice va q.shared.length vcap, .slice vb q.mutexes.length vcap2, .slice vd q.threads.length vcap3] (by kernel_rfl) (by kernel_rfl) (fun k8 wf Bf hkf hBf hBk8 hnk8 hsf hh8 => ?_)
        have hkf3 : Keep B3 w3 wf := hke.trans (hkf.mono hBe)
        have hB3f : ∀ k, B3 k → Bf k := fun k h => hBf k (hBe k h)
        have hkf2 : Keep B2 w2 wf := hk23.trans (hkf3.mono hB23)
        have hB2f : ∀ k, B2 k → Bf k := fun k h => hB3f k (hB23 k h)
        have hkf1 : Keep B1 w1 wf := hk12.trans (hkf2.mono hB12)
        have hB1f : ∀ k, B1 k → Bf k := fun k h => hB2f k (hB12 k h)
        exact good_sub [.code (seqR (seqR (seqR (Tryz.f6.body.getD .skip))))] [(3, .v (.pointer (some ⟨k3, 0, none⟩))), (4, .v (.pointer (some ⟨k4, 0, none⟩))), (5, .v (.pointer (some ⟨k5, 0, none⟩))), (6, .v (.bool false)), (7, .v (.pointer (some ⟨k7, 0, none⟩))), (8, .v (.pointer (some ⟨k8, 0, none⟩)))] [] (gz + 5) (by kernel_rfl) (by kernel_rfl) (by kernel_rfl) (by kernel_rfl) (by kernel_rfl) (by kernel_rfl) (fun b hb => hγ0 b (Nat.le_trans (Nat.le_add_right _ _) hb)) (by kernel_rfl)
          (copies_tail p q e w ht hbd Bf wf γ0 (fun b hb => hγ0 b (Nat.le_trans (Nat.le_add_right _ _) hb)) (hk1.trans (hkf1.mono hB01)) (fun k h => hB1f k (hB01 k h)) hsf k3 k4 k5 k7 k8
            ((hb3.keep hkf1).mono hB1f) ((hb4.keep hkf1).mono hB1f) ((hb5.keep hkf1).mono hB1f) (((box_sl hh7 hBk7 (n := 3) rfl).keep hkf).mono hBf) (box_sl hh8 hBk8 (n := 3) rfl)
            ((hp.keep hk1 hB01).keep hkf1 hB1f) ((hq.keep hk1 hB01).keep hkf1 hB1f) ((he.keep hk1 hB01).keep hkf1 hB1f)
            (hdu.keep (hkf2.mono fun k h => hBn2 k h.1 h.2) fun k h => hB2f k (hBn2 k h.1 h.2)) (hdv.keep (hkf3.mono fun k h => hBn3 k h.1 h.2) fun k h => hB3f k (hBn3 k h.1 h.2)))
      refine p_run (Keep B1 w1) (by kernel_rfl) hS3 (by kernel_rfl) ?_
      refine run_ok (sy_cx _ _) 0 [] 60 0 ?_
      refine p_run (Keep B1 w1) (by kernel_rfl) hS3 (by kernel_rfl) ?_
      refine run_ok (sy_cx _ _) 0 [] 60 0 ?_
      refine p_run (Keep B1 w1) (by kernel_rfl) hS3 (by kernel_rfl) ?_
      refine run_ok (sy_cx _ _) 0 [] 60 0 ?_
      refine p_done (by kernel_rfl) ?_ (Keep B1 w1) (by kernel_rfl) hS3
      refine run_ok (sy_cx _ _) 0 [] 3 0 ?_
      refine good_give 7 (gz + 4) 26 [.slice ua p.shared.length ucap, .slice ub p.mutexes.length ucap2, .slice ud p.threads.length ucap3] (by kernel_rfl) (by kernel_rfl) (fun k7 we Be hke hBe hBk7 hnk7 hse hh7 => ?_)
      refine good_give 8 (gz + 3) 26 [.slice va q.shared.length vcap, .slice vb q.mutexes.length vcap2, .slice vd q.threads.length vcap3] (by kernel_rfl) (by kernel_rfl) (fun k8 wf Bf hkf hBf hBk8 hnk8 hsf hh8 => ?_)
      have hkf3 : Keep B3 w3 wf := hke.trans (hkf.mono hBe)
      have hB3f : ∀ k, B3 k → Bf k := fun k h => hBf k (hBe k h)
      have hkf2 : Keep B2 w2 wf := hk23.trans (hkf3.mono hB23)
      have hB2f : ∀ k, B2 k → Bf k := fun k h => hB3f k (hB23 k h)
      have hkf1 : Keep B1 w1 wf := hk12.trans (hkf2.mono hB12)
      have hB1f : ∀ k, B1 k → Bf k := fun k h => hB2f k (hB12 k h)
      exact good_sub [.code (seqR (seqR (seqR (Tryz.f6.body.getD .skip))))] [(3, .v (.pointer (some ⟨k3, 0, none⟩))), (4, .v (.pointer (some ⟨k4, 0, none⟩))), (5, .v (.pointer (some ⟨k5, 0, none⟩))), (6, .v (.bool false)), (7, .v (.pointer (some ⟨k7, 0, none⟩))), (8, .v (.pointer (some ⟨k8, 0, none⟩)))] [] (gz + 5) (by kernel_rfl) (by kernel_rfl) (by kernel_rfl) (by kernel_rfl) (by kernel_rfl) (by kernel_rfl) (fun b hb => hγ0 b (Nat.le_trans (Nat.le_add_right _ _) hb)) (by kernel_rfl)
        (copies_tail p q e w ht hbd Bf wf γ0 (fun b hb => hγ0 b (Nat.le_trans (Nat.le_add_right _ _) hb)) (hk1.trans (hkf1.mono hB01)) (fun k h => hB1f k (hB01 k h)) hsf k3 k4 k5 k7 k8
          ((hb3.keep hkf1).mono hB1f) ((hb4.keep hkf1).mono hB1f) ((hb5.keep hkf1).mono hB1f) (((box_sl hh7 hBk7 (n := 3) rfl).keep hkf).mono hBf) (box_sl hh8 hBk8 (n := 3) rfl)
          ((hp.keep hk1 hB01).keep hkf1 hB1f) ((hq.keep hk1 hB01).keep hkf1 hB1f) ((he.keep hk1 hB01).keep hkf1 hB1f)
          (hdu.keep (hkf2.mono fun k h => hBn2 k h.1 h.2) fun k h => hB2f k (hBn2 k h.1 h.2)) (hdv.keep (hkf3.mono fun k h => hBn3 k h.1 h.2) fun k h => hB3f k (hBn3 k h.1 h.2)))
    refine p_alt (by kernel_rfl) ?_ ?_
    ·
      refine p_run (Keep B1 w1) (by kernel_rfl) hS2 (by kernel_rfl) ?_
      refine run_ok (sy_cx _ _) 0 [] 60 0 ?_
      refine p_alt (by kernel_rfl) ?_ ?_
      ·
        refine p_run (Keep B1 w1) (by kernel_rfl) hS2 (by kernel_rfl) ?_
        refine good_callM (sy_cx _ _) [.agg #[.slice qa qns qcap, .slice qb qnm qcap2, .slice qd qnt qcap3]] (by kernel_rfl) (by kernel_rfl) (by kernel_rfl) (fun W hk => copyProgram_any q [.slice qa qns qcap, .slice qb qnm qcap2, .slice qd qnt qcap3] W (by omega) (PQ1 W (hS2 W hk))) ?_
        rintro wcv r w3 B3 hkcv ⟨dv, rfl, hdv⟩ hbcv hk23 hB23 hBn3 hB3
        have hS3 : ∀ W, Keep B3 w3 W → Keep B1 w1 W := fun W hk => hS2 W (hk23.trans (hk.mono hB23))
        have hdv0 := hdv
        obtain ⟨va, vcap, _, vb, vcap2, _, vd, vcap3, _, rfl, _⟩ := hdv0
        refine run_ok (sy_cx _ _) 0 [] 60 0 ?_
        refine p_run (Keep B1 w1) (by kernel_rfl) hS3 (by kernel_rfl) ?_
        refine run_ok (sy_cx _ _) 0 [] 60 0 ?_
        refine p_run (Keep B1 w1) (by kernel_rfl) hS3 (by kernel_rfl) ?_
        refine run_ok (sy_cx _ _) 0 [] 60 0 ?_
        refine p_done (by kernel_rfl) ?_ (Keep B1 w1) (by kernel_rfl) hS3
        refine run_ok (sy_cx _ _) 0 [] 3 0 ?_
        refine good_give 7 (gz + 3) 26 [.slice ua p.shared.length ucap, .slice ub p.mutexes.length ucap2, .slice ud p.threads.length ucap3] (by kernel_rfl) (by kernel_rfl) (fun k7 we Be hke hBe hBk7 hnk7 hse hh7 => ?_)
        refine good_give 8 (gz + 4) 26 [.slice va q.shared.length vcap, .slice vb q.mutexes.length vcap2, .slice vd q.threads.length vcap3] (by kernel_rfl) (by kernel_rfl) (fun k8 wf Bf hkf hBf hBk8 hnk8 hsf hh8 => ?_)
        have hkf3 : Keep B3 w3 wf := hke.trans (hkf.mono hBe)
        have hB3f : ∀ k, B3 k → Bf k := fun k h => hBf k (hBe k h)
        have hkf2 : Keep B2 w2 wf := hk23.trans (hkf3.mono hB23)
        have hB2f : ∀ k, B2 k → Bf k := fun k h => hB3f k (hB23 k h)
        have hkf1 : Keep B1 w1 wf := hk12.trans (hkf2.mono hB12)
        have hB1f : ∀ k, B1 k → Bf k := fun k h => hB2f k (hB12 k h)
        exact good_sub [.code (seqR (seqR (seqR (Tryz.f6.body.getD .skip))))] [(3, .v (.pointer (some ⟨k3, 0, none⟩))), (4, .v (.pointer (some ⟨k4, 0, none⟩))), (5, .v (.pointer (some ⟨k5, 0, none⟩))), (6, .v (.bool false)), (7, .v (.pointer (some ⟨k7, 0, none⟩))), (8, .v (.pointer (some ⟨k8, 0, none⟩)))] [] (gz + 5) (by kernel_rfl) (by kernel_rfl) (by kernel_rfl) (by kernel_rfl) (by kernel_rfl) (by kernel_rfl) (fun b hb => hγ0 b (Nat.le_trans (Nat.le_add_right _ _) hb)) (by kernel_rfl)
          (copies_tail p q e w ht hbd Bf wf γ0 (fun b hb => hγ0 b (Nat.le_trans (Nat.le_add_right _ _) hb)) (hk1.trans (hkf1.mono hB01)) (fun k h => hB1f k (hB01 k h)) hsf k3 k4 k5 k7 k8
            ((hb3.keep hkf1).mono hB1f) ((hb4.keep hkf1).mono hB1f) ((hb5.keep hkf1).mono hB1f) (((box_sl hh7 hBk7 (n := 3) rfl).keep hkf).mono hBf) (box_sl hh8 hBk8 (n := 3) rfl)
            ((hp.keep hk1 hB01).keep hkf1 hB1f) ((hq.keep hk1 hB01).keep hkf1 hB1f) ((he.keep hk1 hB01).keep hkf1 hB1f)
            (hdu.keep (hkf2.mono fun k h => hBn2 k h.1 h.2) fun k h => hB2f k (hBn2 k h.1 h.2)) (hdv.keep (hkf3.mono fun k h => hBn3 k h.1 h.2) fun k h => hB3f k (hBn3 k h.1 h.2)))
      refine p_run (Keep B1 w1) (by kernel_rfl) hS2 (by kernel_rfl) ?_
      refine run_ok (sy_cx _ _) 0 [] 60 0 ?_
      refine p_run (Keep B1 w1) (by kernel_rfl) hS2 (by kernel_rfl) ?_
      refine good_callM (sy_cx _ _) [.agg #[.slice qa qns qcap, .slice qb qnm qcap2, .slice qd qnt qcap3]] (by kernel_rfl) (by kernel_rfl) (by kernel_rfl) (fun W hk => copyProgram_any q [.slice qa qns qcap, .slice qb qnm qcap2, .slice qd qnt qcap3] W (by omega) (PQ1 W (hS2 W hk))) ?_
      rintro wcv r w3 B3 hkcv ⟨dv, rfl, hdv⟩ hbcv hk23 hB23 hBn3 hB3
      have hS3 : ∀ W, Keep B3 w3 W → Keep B1 w1 W := fun W hk => hS2 W (hk23.trans (hk.mono hB23))
      have hdv0 := hdv
      obtain ⟨va, vcap, _, vb, vcap2, _, vd, vcap3, _, rfl, _⟩ := hdv0
      refine run_ok (sy_cx _ _) 0 [] 60 0 ?_
      refine p_run (Keep B1 w1) (by kernel_rfl) hS3 (by kernel_rfl) ?_
      refine run_ok (sy_cx _ _) 0 [] 60 0 ?_
      refine p_done (by kernel_rfl) ?_ (Keep B1 w1) (by kernel_rfl) hS3
      refine run_ok (sy_cx _ _) 0 [] 3 0 ?_
      refine good_give 7 (gz + 3) 26 [.slice ua p.shared.length ucap, .slice ub p.mutexes.length ucap2, .slice ud p.threads.length ucap3] (by kernel_rfl) (by kernel_rfl) (fun k7 we Be hke hBe hBk7 hnk7 hse hh7 => ?_)
      refine good_give 8 (gz + 4) 26 [.slice va q.shared.length vcap, .slice vb q.mutexes.length vcap2, .slice vd q.threads.length vcap3] (by kernel_rfl) (by kernel_rfl) (fun k8 wf Bf hkf hBf hBk8 hnk8 hsf hh8 => ?_)
      have hkf3 : Keep B3 w3 wf := hke.trans (hkf.mono hBe)
      have hB3f : ∀ k, B3 k → Bf k := fun k h => hBf k (hBe k h)
      have hkf2 : Keep B2 w2 wf := hk23.trans (hkf3.mono hB23)
      have hB2f : ∀ k, B2 k → Bf k := fun k h => hB3f k (hB23 k h)
      have hkf1 : Keep B1 w1 wf := hk12.trans (hkf2.mono hB12)
      have hB1f : ∀ k, B1 k → Bf k := fun k h => hB2f k (hB12 k h)
      exact good_sub [.code (seqR (seqR (seqR (Tryz.f6.body.getD .skip))))] [(3, .v (.pointer (some ⟨k3, 0, none⟩))), (4, .v (.pointer (some ⟨k4, 0, none⟩))), (5, .v (.pointer (some ⟨k5, 0, none⟩))), (6, .v (.bool false)), (7, .v (.pointer (some ⟨k7, 0, none⟩))), (8, .v (.pointer (some ⟨k8, 0, none⟩)))] [] (gz + 5) (by kernel_rfl) (by kernel_rfl) (by kernel_rfl) (by kernel_rfl) (by kernel_rfl) (by kernel_rfl) (fun b hb => hγ0 b (Nat.le_trans (Nat.le_add_right _ _) hb)) (by kernel_rfl)
        (copies_tail p q e w ht hbd Bf wf γ0 (fun b hb => hγ0 b (Nat.le_trans (Nat.le_add_right _ _) hb)) (hk1.trans (hkf1.mono hB01)) (fun k h => hB1f k (hB01 k h)) hsf k3 k4 k5 k7 k8
          ((hb3.keep hkf1).mono hB1f) ((hb4.keep hkf1).mono hB1f) ((hb5.keep hkf1).mono hB1f) (((box_sl hh7 hBk7 (n := 3) rfl).keep hkf).mono hBf) (box_sl hh8 hBk8 (n := 3) rfl)
          ((hp.keep hk1 hB01).keep hkf1 hB1f) ((hq.keep hk1 hB01).keep hkf1 hB1f) ((he.keep hk1 hB01).keep hkf1 hB1f)
          (hdu.keep (hkf2.mono fun k h => hBn2 k h.1 h.2) fun k h => hB2f k (hBn2 k h.1 h.2)) (hdv.keep (hkf3.mono fun k h => hBn3 k h.1 h.2) fun k h => hB3f k (hBn3 k h.1 h.2)))
    refine p_run (Keep B1 w1) (by kernel_rfl) hS2 (by kernel_rfl) ?_
    refine run_ok (sy_cx _ _) 0 [] 60 0 ?_
    refine p_alt (by kernel_rfl) ?_ ?_
    ·
      refine p_run (Keep B1 w1) (by kernel_rfl) hS2 (by kernel_rfl) ?_
      refine good_callM (sy_cx _ _) [.agg #[.slice qa qns qcap, .slice qb qnm qcap2, .slice qd qnt qcap3]] (by kernel_rfl) (by kernel_rfl) (by kernel_rfl) (fun W hk => copyProgram_any q [.slice qa qns qcap, .slice qb qnm qcap2, .slice qd qnt qcap3] W (by omega) (PQ1 W (hS2 W hk))) ?_
      rintro wcv r w3 B3 hkcv ⟨dv, rfl, hdv⟩ hbcv hk23 hB23 hBn3 hB3
      have hS3 : ∀ W, Keep B3 w3 W → Keep B1 w1 W := fun W hk => hS2 W (hk23.trans (hk.mono hB23))
      have hdv0 := hdv
      obtain ⟨va, vcap, _, vb, vcap2, _, vd, vcap3, _, rfl, _⟩ := hdv0
      refine run_ok (sy_cx _ _) 0 [] 60 0 ?_
      refine p_run (Keep B1 w1) (by kernel_rfl) hS3 (by kernel_rfl) ?_
      refine run_ok (sy_cx _ _) 0 [] 60 0 ?_
      refine p_run (Keep B1 w1) (by kernel_rfl) hS3 (by kernel_rfl) ?_
      refine run_ok (sy_cx _ _) 0 [] 60 0 ?_
      refine p_done (by kernel_rfl) ?_ (Keep B1 w1) (by kernel_rfl) hS3
      refine run_ok (sy_cx _ _) 0 [] 3 0 ?_
      refine good_give 7 (gz + 4) 26 [.slice ua p.shared.length ucap, .slice ub p.mutexes.length ucap2, .slice ud p.threads.length ucap3] (by kernel_rfl) (by kernel_rfl) (fun k7 we Be hke hBe hBk7 hnk7 hse hh7 => ?_)
      refine good_give 8 (gz + 3) 26 [.slice va q.shared.length vcap, .slice vb q.mutexes.length vcap2, .slice vd q.threads.length vcap3] (by kernel_rfl) (by kernel_rfl) (fun k8 wf Bf hkf hBf hBk8 hnk8 hsf hh8 => ?_)
      have hkf3 : Keep B3 w3 wf := hke.trans (hkf.mono hBe)
      have hB3f : ∀ k, B3 k → Bf k := fun k h => hBf k (hBe k h)
      have hkf2 : Keep B2 w2 wf := hk23.trans (hkf3.mono hB23)
      have hB2f : ∀ k, B2 k → Bf k := fun k h => hB3f k (hB23 k h)
      have hkf1 : Keep B1 w1 wf := hk12.trans (hkf2.mono hB12)
      have hB1f : ∀ k, B1 k → Bf k := fun k h => hB2f k (hB12 k h)
      exact good_sub [.code (seqR (seqR (seqR (Tryz.f6.body.getD .skip))))] [(3, .v (.pointer (some ⟨k3, 0, none⟩))), (4, .v (.pointer (some ⟨k4, 0, none⟩))), (5, .v (.pointer (some ⟨k5, 0, none⟩))), (6, .v (.bool false)), (7, .v (.pointer (some ⟨k7, 0, none⟩))), (8, .v (.pointer (some ⟨k8, 0, none⟩)))] [] (gz + 5) (by kernel_rfl) (by kernel_rfl) (by kernel_rfl) (by kernel_rfl) (by kernel_rfl) (by kernel_rfl) (fun b hb => hγ0 b (Nat.le_trans (Nat.le_add_right _ _) hb)) (by kernel_rfl)
        (copies_tail p q e w ht hbd Bf wf γ0 (fun b hb => hγ0 b (Nat.le_trans (Nat.le_add_right _ _) hb)) (hk1.trans (hkf1.mono hB01)) (fun k h => hB1f k (hB01 k h)) hsf k3 k4 k5 k7 k8
          ((hb3.keep hkf1).mono hB1f) ((hb4.keep hkf1).mono hB1f) ((hb5.keep hkf1).mono hB1f) (((box_sl hh7 hBk7 (n := 3) rfl).keep hkf).mono hBf) (box_sl hh8 hBk8 (n := 3) rfl)
          ((hp.keep hk1 hB01).keep hkf1 hB1f) ((hq.keep hk1 hB01).keep hkf1 hB1f) ((he.keep hk1 hB01).keep hkf1 hB1f)
          (hdu.keep (hkf2.mono fun k h => hBn2 k h.1 h.2) fun k h => hB2f k (hBn2 k h.1 h.2)) (hdv.keep (hkf3.mono fun k h => hBn3 k h.1 h.2) fun k h => hB3f k (hBn3 k h.1 h.2)))
    refine p_run (Keep B1 w1) (by kernel_rfl) hS2 (by kernel_rfl) ?_
    refine run_ok (sy_cx _ _) 0 [] 60 0 ?_
    refine p_run (Keep B1 w1) (by kernel_rfl) hS2 (by kernel_rfl) ?_
    refine good_callM (sy_cx _ _) [.agg #[.slice qa qns qcap, .slice qb qnm qcap2, .slice qd qnt qcap3]] (by kernel_rfl) (by kernel_rfl) (by kernel_rfl) (fun W hk => copyProgram_any q [.slice qa qns qcap, .slice qb qnm qcap2, .slice qd qnt qcap3] W (by omega) (PQ1 W (hS2 W hk))) ?_
    rintro wcv r w3 B3 hkcv ⟨dv, rfl, hdv⟩ hbcv hk23 hB23 hBn3 hB3
    have hS3 : ∀ W, Keep B3 w3 W → Keep B1 w1 W := fun W hk => hS2 W (hk23.trans (hk.mono hB23))
    have hdv0 := hdv
    obtain ⟨va, vcap, _, vb, vcap2, _, vd, vcap3, _, rfl, _⟩ := hdv0
    refine run_ok (sy_cx _ _) 0 [] 60 0 ?_
    refine p_run (Keep B1 w1) (by kernel_rfl) hS3 (by kernel_rfl) ?_
    refine run_ok (sy_cx _ _) 0 [] 60 0 ?_
    refine p_done (by kernel_rfl) ?_ (Keep B1 w1) (by kernel_rfl) hS3
    refine run_ok (sy_cx _ _) 0 [] 3 0 ?_
    refine good_give 7 (gz + 4) 26 [.slice ua p.shared.length ucap, .slice ub p.mutexes.length ucap2, .slice ud p.threads.length ucap3] (by kernel_rfl) (by kernel_rfl) (fun k7 we Be hke hBe hBk7 hnk7 hse hh7 => ?_)
    refine good_give 8 (gz + 3) 26 [.slice va q.shared.length vcap, .slice vb q.mutexes.length vcap2, .slice vd q.threads.length vcap3] (by kernel_rfl) (by kernel_rfl) (fun k8 wf Bf hkf hBf hBk8 hnk8 hsf hh8 => ?_)
    have hkf3 : Keep B3 w3 wf := hke.trans (hkf.mono hBe)
    have hB3f : ∀ k, B3 k → Bf k := fun k h => hBf k (hBe k h)
    have hkf2 : Keep B2 w2 wf := hk23.trans (hkf3.mono hB23)
    have hB2f : ∀ k, B2 k → Bf k := fun k h => hB3f k (hB23 k h)
    have hkf1 : Keep B1 w1 wf := hk12.trans (hkf2.mono hB12)
    have hB1f : ∀ k, B1 k → Bf k := fun k h => hB2f k (hB12 k h)
    exact good_sub [.code (seqR (seqR (seqR (Tryz.f6.body.getD .skip))))] [(3, .v (.pointer (some ⟨k3, 0, none⟩))), (4, .v (.pointer (some ⟨k4, 0, none⟩))), (5, .v (.pointer (some ⟨k5, 0, none⟩))), (6, .v (.bool false)), (7, .v (.pointer (some ⟨k7, 0, none⟩))), (8, .v (.pointer (some ⟨k8, 0, none⟩)))] [] (gz + 5) (by kernel_rfl) (by kernel_rfl) (by kernel_rfl) (by kernel_rfl) (by kernel_rfl) (by kernel_rfl) (fun b hb => hγ0 b (Nat.le_trans (Nat.le_add_right _ _) hb)) (by kernel_rfl)
      (copies_tail p q e w ht hbd Bf wf γ0 (fun b hb => hγ0 b (Nat.le_trans (Nat.le_add_right _ _) hb)) (hk1.trans (hkf1.mono hB01)) (fun k h => hB1f k (hB01 k h)) hsf k3 k4 k5 k7 k8
        ((hb3.keep hkf1).mono hB1f) ((hb4.keep hkf1).mono hB1f) ((hb5.keep hkf1).mono hB1f) (((box_sl hh7 hBk7 (n := 3) rfl).keep hkf).mono hBf) (box_sl hh8 hBk8 (n := 3) rfl)
        ((hp.keep hk1 hB01).keep hkf1 hB1f) ((hq.keep hk1 hB01).keep hkf1 hB1f) ((he.keep hk1 hB01).keep hkf1 hB1f)
        (hdu.keep (hkf2.mono fun k h => hBn2 k h.1 h.2) fun k h => hB2f k (hBn2 k h.1 h.2)) (hdv.keep (hkf3.mono fun k h => hBn3 k h.1 h.2) fun k h => hB3f k (hBn3 k h.1 h.2)))
  refine p_alt (by kernel_rfl) ?_ ?_
  ·
    refine p_run (Keep B1 w1) (by kernel_rfl) (fun _ h => h) (by kernel_rfl) ?_
    refine run_ok (sy_cx _ _) 0 [] 60 0 ?_
    refine p_alt (by kernel_rfl) ?_ ?_
    ·
      refine p_run (Keep B1 w1) (by kernel_rfl) (fun _ h => h) (by kernel_rfl) ?_
      refine good_callM (sy_cx _ _) [.agg #[.slice pa pns pcap, .slice pb pnm pcap2, .slice pd pnt pcap3]] (by kernel_rfl) (by kernel_rfl) (by kernel_rfl) (fun W hk => copyProgram_any p [.slice pa pns pcap, .slice pb pnm pcap2, .slice pd pnt pcap3] W (by omega) (PP1 W ((fun _ h => h) W hk))) ?_
      rintro wcu r w2 B2 hkcu ⟨du, rfl, hdu⟩ hbcu hk12 hB12 hBn2 hB2
      have hS2 : ∀ W, Keep B2 w2 W → Keep B1 w1 W := fun W hk => (fun _ h => h) W (hk12.trans (hk.mono hB12))
      have hdu0 := hdu
      obtain ⟨ua, ucap, _, ub, ucap2, _, ud, ucap3, _, rfl, _⟩ := hdu0
      refine run_ok (sy_cx _ _) 0 [] 60 0 ?_
      refine p_alt (by kernel_rfl) ?_ ?_
      ·
        refine p_run (Keep B1 w1) (by kernel_rfl) hS2 (by kernel_rfl) ?_
        refine good_callM (sy_cx _ _) [.agg #[.slice qa qns qcap, .slice qb qnm qcap2, .slice qd qnt qcap3]] (by kernel_rfl) (by kernel_rfl) (by kernel_rfl) (fun W hk => copyProgram_any q [.slice qa qns qcap, .slice qb qnm qcap2, .slice qd qnt qcap3] W (by omega) (PQ1 W (hS2 W hk))) ?_
        rintro wcv r w3 B3 hkcv ⟨dv, rfl, hdv⟩ hbcv hk23 hB23 hBn3 hB3
        have hS3 : ∀ W, Keep B3 w3 W → Keep B1 w1 W := fun W hk => hS2 W (hk23.trans (hk.mono hB23))
        have hdv0 := hdv
        obtain ⟨va, vcap, _, vb, vcap2, _, vd, vcap3, _, rfl, _⟩ := hdv0
        refine run_ok (sy_cx _ _) 0 [] 60 0 ?_
        refine p_run (Keep B1 w1) (by kernel_rfl) hS3 (by kernel_rfl) ?_
        refine run_ok (sy_cx _ _) 0 [] 60 0 ?_
        refine p_run (Keep B1 w1) (by kernel_rfl) hS3 (by kernel_rfl) ?_
        refine run_ok (sy_cx _ _) 0 [] 60 0 ?_
        refine p_done (by kernel_rfl) ?_ (Keep B1 w1) (by kernel_rfl) hS3
        refine run_ok (sy_cx _ _) 0 [] 3 0 ?_
        refine good_give 7 (gz + 3) 26 [.slice ua p.shared.length ucap, .slice ub p.mutexes.length ucap2, .slice ud p.threads.length ucap3] (by kernel_rfl) (by kernel_rfl) (fun k7 we Be hke hBe hBk7 hnk7 hse hh7 => ?_)
        refine good_give 8 (gz + 4) 26 [.slice va q.shared.length vcap, .slice vb q.mutexes.length vcap2, .slice vd q.threads.length vcap3] (by kernel_rfl) (by kernel_rfl) (fun k8 wf Bf hkf hBf hBk8 hnk8 hsf hh8 => ?_)
        have hkf3 : Keep B3 w3 wf := hke.trans (hkf.mono hBe)
        have hB3f : ∀ k, B3 k → Bf k := fun k h => hBf k (hBe k h)
        have hkf2 : Keep B2 w2 wf := hk23.trans (hkf3.mono hB23)
        have hB2f : ∀ k, B2 k → Bf k := fun k h => hB3f k (hB23 k h)
        have hkf1 : Keep B1 w1 wf := hk12.trans (hkf2.mono hB12)
        have hB1f : ∀ k, B1 k → Bf k := fun k h => hB2f k (hB12 k h)
        exact good_sub [.code (seqR (seqR (seqR (Tryz.f6.body.getD .skip))))] [(3, .v (.pointer (some ⟨k3, 0, none⟩))), (4, .v (.pointer (some ⟨k4, 0, none⟩))), (5, .v (.pointer (some ⟨k5, 0, none⟩))), (6, .v (.bool false)), (7, .v (.pointer (some ⟨k7, 0, none⟩))), (8, .v (.pointer (some ⟨k8, 0, none⟩)))] [] (gz + 5) (by kernel_rfl) (by kernel_rfl) (by kernel_rfl) (by kernel_rfl) (by kernel_rfl) (by kernel_rfl) (fun b hb => hγ0 b (Nat.le_trans (Nat.le_add_right _ _) hb)) (by kernel_rfl)
          (copies_tail p q e w ht hbd Bf wf γ0 (fun b hb => hγ0 b (Nat.le_trans (Nat.le_add_right _ _) hb)) (hk1.trans (hkf1.mono hB01)) (fun k h => hB1f k (hB01 k h)) hsf k3 k4 k5 k7 k8
            ((hb3.keep hkf1).mono hB1f) ((hb4.keep hkf1).mono hB1f) ((hb5.keep hkf1).mono hB1f) (((box_sl hh7 hBk7 (n := 3) rfl).keep hkf).mono hBf) (box_sl hh8 hBk8 (n := 3) rfl)
            ((hp.keep hk1 hB01).keep hkf1 hB1f) ((hq.keep hk1 hB01).keep hkf1 hB1f) ((he.keep hk1 hB01).keep hkf1 hB1f)
            (hdu.keep (hkf2.mono fun k h => hBn2 k h.1 h.2) fun k h => hB2f k (hBn2 k h.1 h.2)) (hdv.keep (hkf3.mono fun k h => hBn3 k h.1 h.2) fun k h => hB3f k (hBn3 k h.1 h.2)))
      refine p_run (Keep B1 w1) (by kernel_rfl) hS2 (by kernel_rfl) ?_
      refine run_ok (sy_cx _ _) 0 [] 60 0 ?_
      refine p_run (Keep B1 w1) (by kernel_rfl) hS2 (by kernel_rfl) ?_
      refine good_callM (sy_cx _ _) [.agg #[.slice qa qns qcap, .slice qb qnm qcap2, .slice qd qnt qcap3]] (by kernel_rfl) (by kernel_rfl) (by kernel_rfl) (fun W hk => copyProgram_any q [.slice qa qns qcap, .slice qb qnm qcap2, .slice qd qnt qcap3] W (by omega) (PQ1 W (hS2 W hk))) ?_
      rintro wcv r w3 B3 hkcv ⟨dv, rfl, hdv⟩ hbcv hk23 hB23 hBn3 hB3
      have hS3 : ∀ W, Keep B3 w3 W → Keep B1 w1 W := fun W hk => hS2 W (hk23.trans (hk.mono hB23))
      have hdv0 := hdv
      obtain ⟨va, vcap, _, vb, vcap2, _, vd, vcap3, _, rfl, _⟩ := hdv0
      refine run_ok (sy_cx _ _) 0 [] 60 0 ?_
      refine p_run (Keep B1 w1) (by kernel_rfl) hS3 (by kernel_rfl) ?_
      refine run_ok (sy_cx _ _) 0 [] 60 0 ?_
      refine p_done (by kernel_rfl) ?_ (Keep B1 w1) (by kernel_rfl) hS3
      refine run_ok (sy_cx _ _) 0 [] 3 0 ?_
      refine good_give 7 (gz + 3) 26 [.slice ua p.shared.length ucap, .slice ub p.mutexes.length ucap2, .slice ud p.threads.length ucap3] (by kernel_rfl) (by kernel_rfl) (fun k7 we Be hke hBe hBk7 hnk7 hse hh7 => ?_)
      refine good_give 8 (gz + 4) 26 [.slice va q.shared.length vcap, .slice vb q.mutexes.length vcap2, .slice vd q.threads.length vcap3] (by kernel_rfl) (by kernel_rfl) (fun k8 wf Bf hkf hBf hBk8 hnk8 hsf hh8 => ?_)
      have hkf3 : Keep B3 w3 wf := hke.trans (hkf.mono hBe)
      have hB3f : ∀ k, B3 k → Bf k := fun k h => hBf k (hBe k h)
      have hkf2 : Keep B2 w2 wf := hk23.trans (hkf3.mono hB23)
      have hB2f : ∀ k, B2 k → Bf k := fun k h => hB3f k (hB23 k h)
      have hkf1 : Keep B1 w1 wf := hk12.trans (hkf2.mono hB12)
      have hB1f : ∀ k, B1 k → Bf k := fun k h => hB2f k (hB12 k h)
      exact good_sub [.code (seqR (seqR (seqR (Tryz.f6.body.getD .skip))))] [(3, .v (.pointer (some ⟨k3, 0, none⟩))), (4, .v (.pointer (some ⟨k4, 0, none⟩))), (5, .v (.pointer (some ⟨k5, 0, none⟩))), (6, .v (.bool false)), (7, .v (.pointer (some ⟨k7, 0, none⟩))), (8, .v (.pointer (some ⟨k8, 0, none⟩)))] [] (gz + 5) (by kernel_rfl) (by kernel_rfl) (by kernel_rfl) (by kernel_rfl) (by kernel_rfl) (by kernel_rfl) (fun b hb => hγ0 b (Nat.le_trans (Nat.le_add_right _ _) hb)) (by kernel_rfl)
        (copies_tail p q e w ht hbd Bf wf γ0 (fun b hb => hγ0 b (Nat.le_trans (Nat.le_add_right _ _) hb)) (hk1.trans (hkf1.mono hB01)) (fun k h => hB1f k (hB01 k h)) hsf k3 k4 k5 k7 k8
          ((hb3.keep hkf1).mono hB1f) ((hb4.keep hkf1).mono hB1f) ((hb5.keep hkf1).mono hB1f) (((box_sl hh7 hBk7 (n := 3) rfl).keep hkf).mono hBf) (box_sl hh8 hBk8 (n := 3) rfl)
          ((hp.keep hk1 hB01).keep hkf1 hB1f) ((hq.keep hk1 hB01).keep hkf1 hB1f) ((he.keep hk1 hB01).keep hkf1 hB1f)
          (hdu.keep (hkf2.mono fun k h => hBn2 k h.1 h.2) fun k h => hB2f k (hBn2 k h.1 h.2)) (hdv.keep (hkf3.mono fun k h => hBn3 k h.1 h.2) fun k h => hB3f k (hBn3 k h.1 h.2)))
    refine p_run (Keep B1 w1) (by kernel_rfl) (fun _ h => h) (by kernel_rfl) ?_
    refine run_ok (sy_cx _ _) 0 [] 60 0 ?_
    refine p_run (Keep B1 w1) (by kernel_rfl) (fun _ h => h) (by kernel_rfl) ?_
    refine good_callM (sy_cx _ _) [.agg #[.slice pa pns pcap, .slice pb pnm pcap2, .slice pd pnt pcap3]] (by kernel_rfl) (by kernel_rfl) (by kernel_rfl) (fun W hk => copyProgram_any p [.slice pa pns pcap, .slice pb pnm pcap2, .slice pd pnt pcap3] W (by omega) (PP1 W ((fun _ h => h) W hk))) ?_
    rintro wcu r w2 B2 hkcu ⟨du, rfl, hdu⟩ hbcu hk12 hB12 hBn2 hB2
    have hS2 : ∀ W, Keep B2 w2 W → Keep B1 w1 W := fun W hk => (fun _ h => h) W (hk12.trans (hk.mono hB12))
    have hdu0 := hdu
    obtain ⟨ua, ucap, _, ub, ucap2, _, ud, ucap3, _, rfl, _⟩ := hdu0
    refine run_ok (sy_cx _ _) 0 [] 60 0 ?_
    refine p_run (Keep B1 w1) (by kernel_rfl) hS2 (by kernel_rfl) ?_
    refine good_callM (sy_cx _ _) [.agg #[.slice qa qns qcap, .slice qb qnm qcap2, .slice qd qnt qcap3]] (by kernel_rfl) (by kernel_rfl) (by kernel_rfl) (fun W hk => copyProgram_any q [.slice qa qns qcap, .slice qb qnm qcap2, .slice qd qnt qcap3] W (by omega) (PQ1 W (hS2 W hk))) ?_
    rintro wcv r w3 B3 hkcv ⟨dv, rfl, hdv⟩ hbcv hk23 hB23 hBn3 hB3
    have hS3 : ∀ W, Keep B3 w3 W → Keep B1 w1 W := fun W hk => hS2 W (hk23.trans (hk.mono hB23))
    have hdv0 := hdv
    obtain ⟨va, vcap, _, vb, vcap2, _, vd, vcap3, _, rfl, _⟩ := hdv0
    refine run_ok (sy_cx _ _) 0 [] 60 0 ?_
    refine p_run (Keep B1 w1) (by kernel_rfl) hS3 (by kernel_rfl) ?_
    refine run_ok (sy_cx _ _) 0 [] 60 0 ?_
    refine p_done (by kernel_rfl) ?_ (Keep B1 w1) (by kernel_rfl) hS3
    refine run_ok (sy_cx _ _) 0 [] 3 0 ?_
    refine good_give 7 (gz + 3) 26 [.slice ua p.shared.length ucap, .slice ub p.mutexes.length ucap2, .slice ud p.threads.length ucap3] (by kernel_rfl) (by kernel_rfl) (fun k7 we Be hke hBe hBk7 hnk7 hse hh7 => ?_)
    refine good_give 8 (gz + 4) 26 [.slice va q.shared.length vcap, .slice vb q.mutexes.length vcap2, .slice vd q.threads.length vcap3] (by kernel_rfl) (by kernel_rfl) (fun k8 wf Bf hkf hBf hBk8 hnk8 hsf hh8 => ?_)
    have hkf3 : Keep B3 w3 wf := hke.trans (hkf.mono hBe)
    have hB3f : ∀ k, B3 k → Bf k := fun k h => hBf k (hBe k h)
    have hkf2 : Keep B2 w2 wf := hk23.trans (hkf3.mono hB23)
    have hB2f : ∀ k, B2 k → Bf k := fun k h => hB3f k (hB23 k h)
    have hkf1 : Keep B1 w1 wf := hk12.trans (hkf2.mono hB12)
    have hB1f : ∀ k, B1 k → Bf k := fun k h => hB2f k (hB12 k h)
    exact good_sub [.code (seqR (seqR (seqR (Tryz.f6.body.getD .skip))))] [(3, .v (.pointer (some ⟨k3, 0, none⟩))), (4, .v (.pointer (some ⟨k4, 0, none⟩))), (5, .v (.pointer (some ⟨k5, 0, none⟩))), (6, .v (.bool false)), (7, .v (.pointer (some ⟨k7, 0, none⟩))), (8, .v (.pointer (some ⟨k8, 0, none⟩)))] [] (gz + 5) (by kernel_rfl) (by kernel_rfl) (by kernel_rfl) (by kernel_rfl) (by kernel_rfl) (by kernel_rfl) (fun b hb => hγ0 b (Nat.le_trans (Nat.le_add_right _ _) hb)) (by kernel_rfl)
      (copies_tail p q e w ht hbd Bf wf γ0 (fun b hb => hγ0 b (Nat.le_trans (Nat.le_add_right _ _) hb)) (hk1.trans (hkf1.mono hB01)) (fun k h => hB1f k (hB01 k h)) hsf k3 k4 k5 k7 k8
        ((hb3.keep hkf1).mono hB1f) ((hb4.keep hkf1).mono hB1f) ((hb5.keep hkf1).mono hB1f) (((box_sl hh7 hBk7 (n := 3) rfl).keep hkf).mono hBf) (box_sl hh8 hBk8 (n := 3) rfl)
        ((hp.keep hk1 hB01).keep hkf1 hB1f) ((hq.keep hk1 hB01).keep hkf1 hB1f) ((he.keep hk1 hB01).keep hkf1 hB1f)
        (hdu.keep (hkf2.mono fun k h => hBn2 k h.1 h.2) fun k h => hB2f k (hBn2 k h.1 h.2)) (hdv.keep (hkf3.mono fun k h => hBn3 k h.1 h.2) fun k h => hB3f k (hBn3 k h.1 h.2)))
  refine p_run (Keep B1 w1) (by kernel_rfl) (fun _ h => h) (by kernel_rfl) ?_
  refine run_ok (sy_cx _ _) 0 [] 60 0 ?_
  refine p_alt (by kernel_rfl) ?_ ?_
  ·
    refine p_run (Keep B1 w1) (by kernel_rfl) (fun _ h => h) (by kernel_rfl) ?_
    refine good_callM (sy_cx _ _) [.agg #[.slice pa pns pcap, .slice pb pnm pcap2, .slice pd pnt pcap3]] (by kernel_rfl) (by kernel_rfl) (by kernel_rfl) (fun W hk => copyProgram_any p [.slice pa pns pcap, .slice pb pnm pcap2, .slice pd pnt pcap3] W (by omega) (PP1 W ((fun _ h => h) W hk))) ?_
    rintro wcu r w2 B2 hkcu ⟨du, rfl, hdu⟩ hbcu hk12 hB12 hBn2 hB2
    have hS2 : ∀ W, Keep B2 w2 W → Keep B1 w1 W := fun W hk => (fun _ h => h) W (hk12.trans (hk.mono hB12))
    have hdu0 := hdu
    obtain ⟨ua, ucap, _, ub, ucap2, _, ud, ucap3, _, rfl, _⟩ := hdu0
    refine run_ok (sy_cx _ _) 0 [] 60 0 ?_
    refine p_alt (by kernel_rfl) ?_ ?_
    ·
      refine p_run (Keep B1 w1) (by kernel_rfl) hS2 (by kernel_rfl) ?_
      refine good_callM (sy_cx _ _) [.agg #[.slice qa qns qcap, .slice qb qnm qcap2, .slice qd qnt qcap3]] (by kernel_rfl) (by kernel_rfl) (by kernel_rfl) (fun W hk => copyProgram_any q [.slice qa qns qcap, .slice qb qnm qcap2, .slice qd qnt qcap3] W (by omega) (PQ1 W (hS2 W hk))) ?_
      rintro wcv r w3 B3 hkcv ⟨dv, rfl, hdv⟩ hbcv hk23 hB23 hBn3 hB3
      have hS3 : ∀ W, Keep B3 w3 W → Keep B1 w1 W := fun W hk => hS2 W (hk23.trans (hk.mono hB23))
      have hdv0 := hdv
      obtain ⟨va, vcap, _, vb, vcap2, _, vd, vcap3, _, rfl, _⟩ := hdv0
      refine run_ok (sy_cx _ _) 0 [] 60 0 ?_
      refine p_run (Keep B1 w1) (by kernel_rfl) hS3 (by kernel_rfl) ?_
      refine run_ok (sy_cx _ _) 0 [] 60 0 ?_
      refine p_run (Keep B1 w1) (by kernel_rfl) hS3 (by kernel_rfl) ?_
      refine run_ok (sy_cx _ _) 0 [] 60 0 ?_
      refine p_done (by kernel_rfl) ?_ (Keep B1 w1) (by kernel_rfl) hS3
      refine run_ok (sy_cx _ _) 0 [] 3 0 ?_
      refine good_give 7 (gz + 4) 26 [.slice ua p.shared.length ucap, .slice ub p.mutexes.length ucap2, .slice ud p.threads.length ucap3] (by kernel_rfl) (by kernel_rfl) (fun k7 we Be hke hBe hBk7 hnk7 hse hh7 => ?_)
      refine good_give 8 (gz + 3) 26 [.slice va q.shared.length vcap, .slice vb q.mutexes.length vcap2, .slice vd q.threads.length vcap3] (by kernel_rfl) (by kernel_rfl) (fun k8 wf Bf hkf hBf hBk8 hnk8 hsf hh8 => ?_)
      have hkf3 : Keep B3 w3 wf := hke.trans (hkf.mono hBe)
      have hB3f : ∀ k, B3 k → Bf k := fun k h => hBf k (hBe k h)
      have hkf2 : Keep B2 w2 wf := hk23.trans (hkf3.mono hB23)
      have hB2f : ∀ k, B2 k → Bf k := fun k h => hB3f k (hB23 k h)
      have hkf1 : Keep B1 w1 wf := hk12.trans (hkf2.mono hB12)
      have hB1f : ∀ k, B1 k → Bf k := fun k h => hB2f k (hB12 k h)
      exact good_sub [.code (seqR (seqR (seqR (Tryz.f6.body.getD .skip))))] [(3, .v (.pointer (some ⟨k3, 0, none⟩))), (4, .v (.pointer (some ⟨k4, 0, none⟩))), (5, .v (.pointer (some ⟨k5, 0, none⟩))), (6, .v (.bool false)), (7, .v (.pointer (some ⟨k7, 0, none⟩))), (8, .v (.pointer (some ⟨k8, 0, none⟩)))] [] (gz + 5) (by kernel_rfl) (by kernel_rfl) (by kernel_rfl) (by kernel_rfl) (by kernel_rfl) (by kernel_rfl) (fun b hb => hγ0 b (Nat.le_trans (Nat.le_add_right _ _) hb)) (by kernel_rfl)
        (copies_tail p q e w ht hbd Bf wf γ0 (fun b hb => hγ0 b (Nat.le_trans (Nat.le_add_right _ _) hb)) (hk1.trans (hkf1.mono hB01)) (fun k h => hB1f k (hB01 k h)) hsf k3 k4 k5 k7 k8
          ((hb3.keep hkf1).mono hB1f) ((hb4.keep hkf1).mono hB1f) ((hb5.keep hkf1).mono hB1f) (((box_sl hh7 hBk7 (n := 3) rfl).keep hkf).mono hBf) (box_sl hh8 hBk8 (n := 3) rfl)
          ((hp.keep hk1 hB01).keep hkf1 hB1f) ((hq.keep hk1 hB01).keep hkf1 hB1f) ((he.keep hk1 hB01).keep hkf1 hB1f)
          (hdu.keep (hkf2.mono fun k h => hBn2 k h.1 h.2) fun k h => hB2f k (hBn2 k h.1 h.2)) (hdv.keep (hkf3.mono fun k h => hBn3 k h.1 h.2) fun k h => hB3f k (hBn3 k h.1 h.2)))
    refine p_run (Keep B1 w1) (by kernel_rfl) hS2 (by kernel_rfl) ?_
    refine run_ok (sy_cx _ _) 0 [] 60 0 ?_
    refine p_run (Keep B1 w1) (by kernel_rfl) hS2 (by kernel_rfl) ?_
    refine good_callM (sy_cx _ _) [.agg #[.slice qa qns qcap, .slice qb qnm qcap2, .slice qd qnt qcap3]] (by kernel_rfl) (by kernel_rfl) (by kernel_rfl) (fun W hk => copyProgram_any q [.slice qa qns qcap, .slice qb qnm qcap2, .slice qd qnt qcap3] W (by omega) (PQ1 W (hS2 W hk))) ?_
    rintro wcv r w3 B3 hkcv ⟨dv, rfl, hdv⟩ hbcv hk23 hB23 hBn3 hB3
    have hS3 : ∀ W, Keep B3 w3 W → Keep B1 w1 W := fun W hk => hS2 W (hk23.trans (hk.mono hB23))
    have hdv0 := hdv
    obtain ⟨va, vcap, _, vb, vcap2, _, vd, vcap3, _, rfl, _⟩ := hdv0
    refine run_ok (sy_cx _ _) 0 [] 60 0 ?_
    refine p_run (Keep B1 w1) (by kernel_rfl) hS3 (by kernel_rfl) ?_
    refine run_ok (sy_cx _ _) 0 [] 60 0 ?_
    refine p_done (by kernel_rfl) ?_ (Keep B1 w1) (by kernel_rfl) hS3
    refine run_ok (sy_cx _ _) 0 [] 3 0 ?_
    refine good_give 7 (gz + 4) 26 [.slice ua p.shared.length ucap, .slice ub p.mutexes.length ucap2, .slice ud p.threads.length ucap3] (by kernel_rfl) (by kernel_rfl) (fun k7 we Be hke hBe hBk7 hnk7 hse hh7 => ?_)
    refine good_give 8 (gz + 3) 26 [.slice va q.shared.length vcap, .slice vb q.mutexes.length vcap2, .slice vd q.threads.length vcap3] (by kernel_rfl) (by kernel_rfl) (fun k8 wf Bf hkf hBf hBk8 hnk8 hsf hh8 => ?_)
    have hkf3 : Keep B3 w3 wf := hke.trans (hkf.mono hBe)
    have hB3f : ∀ k, B3 k → Bf k := fun k h => hBf k (hBe k h)
    have hkf2 : Keep B2 w2 wf := hk23.trans (hkf3.mono hB23)
    have hB2f : ∀ k, B2 k → Bf k := fun k h => hB3f k (hB23 k h)
    have hkf1 : Keep B1 w1 wf := hk12.trans (hkf2.mono hB12)
    have hB1f : ∀ k, B1 k → Bf k := fun k h => hB2f k (hB12 k h)
    exact good_sub [.code (seqR (seqR (seqR (Tryz.f6.body.getD .skip))))] [(3, .v (.pointer (some ⟨k3, 0, none⟩))), (4, .v (.pointer (some ⟨k4, 0, none⟩))), (5, .v (.pointer (some ⟨k5, 0, none⟩))), (6, .v (.bool false)), (7, .v (.pointer (some ⟨k7, 0, none⟩))), (8, .v (.pointer (some ⟨k8, 0, none⟩)))] [] (gz + 5) (by kernel_rfl) (by kernel_rfl) (by kernel_rfl) (by kernel_rfl) (by kernel_rfl) (by kernel_rfl) (fun b hb => hγ0 b (Nat.le_trans (Nat.le_add_right _ _) hb)) (by kernel_rfl)
      (copies_tail p q e w ht hbd Bf wf γ0 (fun b hb => hγ0 b (Nat.le_trans (Nat.le_add_right _ _) hb)) (hk1.trans (hkf1.mono hB01)) (fun k h => hB1f k (hB01 k h)) hsf k3 k4 k5 k7 k8
        ((hb3.keep hkf1).mono hB1f) ((hb4.keep hkf1).mono hB1f) ((hb5.keep hkf1).mono hB1f) (((box_sl hh7 hBk7 (n := 3) rfl).keep hkf).mono hBf) (box_sl hh8 hBk8 (n := 3) rfl)
        ((hp.keep hk1 hB01).keep hkf1 hB1f) ((hq.keep hk1 hB01).keep hkf1 hB1f) ((he.keep hk1 hB01).keep hkf1 hB1f)
        (hdu.keep (hkf2.mono fun k h => hBn2 k h.1 h.2) fun k h => hB2f k (hBn2 k h.1 h.2)) (hdv.keep (hkf3.mono fun k h => hBn3 k h.1 h.2) fun k h => hB3f k (hBn3 k h.1 h.2)))
  refine p_run (Keep B1 w1) (by kernel_rfl) (fun _ h => h) (by kernel_rfl) ?_
  refine run_ok (sy_cx _ _) 0 [] 60 0 ?_
  refine p_run (Keep B1 w1) (by kernel_rfl) (fun _ h => h) (by kernel_rfl) ?_
  refine good_callM (sy_cx _ _) [.agg #[.slice pa pns pcap, .slice pb pnm pcap2, .slice pd pnt pcap3]] (by kernel_rfl) (by kernel_rfl) (by kernel_rfl) (fun W hk => copyProgram_any p [.slice pa pns pcap, .slice pb pnm pcap2, .slice pd pnt pcap3] W (by omega) (PP1 W ((fun _ h => h) W hk))) ?_
  rintro wcu r w2 B2 hkcu ⟨du, rfl, hdu⟩ hbcu hk12 hB12 hBn2 hB2
  have hS2 : ∀ W, Keep B2 w2 W → Keep B1 w1 W := fun W hk => (fun _ h => h) W (hk12.trans (hk.mono hB12))
  have hdu0 := hdu
  obtain ⟨ua, ucap, _, ub, ucap2, _, ud, ucap3, _, rfl, _⟩ := hdu0
  refine run_ok (sy_cx _ _) 0 [] 60 0 ?_
  refine p_run (Keep B1 w1) (by kernel_rfl) hS2 (by kernel_rfl) ?_
  refine good_callM (sy_cx _ _) [.agg #[.slice qa qns qcap, .slice qb qnm qcap2, .slice qd qnt qcap3]] (by kernel_rfl) (by kernel_rfl) (by kernel_rfl) (fun W hk => copyProgram_any q [.slice qa qns qcap, .slice qb qnm qcap2, .slice qd qnt qcap3] W (by omega) (PQ1 W (hS2 W hk))) ?_
  rintro wcv r w3 B3 hkcv ⟨dv, rfl, hdv⟩ hbcv hk23 hB23 hBn3 hB3
  have hS3 : ∀ W, Keep B3 w3 W → Keep B1 w1 W := fun W hk => hS2 W (hk23.trans (hk.mono hB23))
  have hdv0 := hdv
  obtain ⟨va, vcap, _, vb, vcap2, _, vd, vcap3, _, rfl, _⟩ := hdv0
  refine run_ok (sy_cx _ _) 0 [] 60 0 ?_
  refine p_run (Keep B1 w1) (by kernel_rfl) hS3 (by kernel_rfl) ?_
  refine run_ok (sy_cx _ _) 0 [] 60 0 ?_
  refine p_done (by kernel_rfl) ?_ (Keep B1 w1) (by kernel_rfl) hS3
  refine run_ok (sy_cx _ _) 0 [] 3 0 ?_
  refine good_give 7 (gz + 4) 26 [.slice ua p.shared.length ucap, .slice ub p.mutexes.length ucap2, .slice ud p.threads.length ucap3] (by kernel_rfl) (by kernel_rfl) (fun k7 we Be hke hBe hBk7 hnk7 hse hh7 => ?_)
  refine good_give 8 (gz + 3) 26 [.slice va q.shared.length vcap, .slice vb q.mutexes.length vcap2, .slice vd q.threads.length vcap3] (by kernel_rfl) (by kernel_rfl) (fun k8 wf Bf hkf hBf hBk8 hnk8 hsf hh8 => ?_)
  have hkf3 : Keep B3 w3 wf := hke.trans (hkf.mono hBe)
  have hB3f : ∀ k, B3 k → Bf k := fun k h => hBf k (hBe k h)
  have hkf2 : Keep B2 w2 wf := hk23.trans (hkf3.mono hB23)
  have hB2f : ∀ k, B2 k → Bf k := fun k h => hB3f k (hB23 k h)
  have hkf1 : Keep B1 w1 wf := hk12.trans (hkf2.mono hB12)
  have hB1f : ∀ k, B1 k → Bf k := fun k h => hB2f k (hB12 k h)
  exact good_sub [.code (seqR (seqR (seqR (Tryz.f6.body.getD .skip))))] [(3, .v (.pointer (some ⟨k3, 0, none⟩))), (4, .v (.pointer (some ⟨k4, 0, none⟩))), (5, .v (.pointer (some ⟨k5, 0, none⟩))), (6, .v (.bool false)), (7, .v (.pointer (some ⟨k7, 0, none⟩))), (8, .v (.pointer (some ⟨k8, 0, none⟩)))] [] (gz + 5) (by kernel_rfl) (by kernel_rfl) (by kernel_rfl) (by kernel_rfl) (by kernel_rfl) (by kernel_rfl) (fun b hb => hγ0 b (Nat.le_trans (Nat.le_add_right _ _) hb)) (by kernel_rfl)
    (copies_tail p q e w ht hbd Bf wf γ0 (fun b hb => hγ0 b (Nat.le_trans (Nat.le_add_right _ _) hb)) (hk1.trans (hkf1.mono hB01)) (fun k h => hB1f k (hB01 k h)) hsf k3 k4 k5 k7 k8
      ((hb3.keep hkf1).mono hB1f) ((hb4.keep hkf1).mono hB1f) ((hb5.keep hkf1).mono hB1f) (((box_sl hh7 hBk7 (n := 3) rfl).keep hkf).mono hBf) (box_sl hh8 hBk8 (n := 3) rfl)
      ((hp.keep hk1 hB01).keep hkf1 hB1f) ((hq.keep hk1 hB01).keep hkf1 hB1f) ((he.keep hk1 hB01).keep hkf1 hB1f)
      (hdu.keep (hkf2.mono fun k h => hBn2 k h.1 h.2) fun k h => hB2f k (hBn2 k h.1 h.2)) (hdv.keep (hkf3.mono fun k h => hBn3 k h.1 h.2) fun k h => hB3f k (hBn3 k h.1 h.2)))

theorem ex_openA {H : Type} {enc : TypeId × Value → H} {w : World} {held : Bool} {n : Nat} {cs : List Value} {d : DataW H} {p : List MemPlace} (h : DataW.trod enc Tryz.prog w 0 (fun _ => true) held n 34 cs = some (d, p)) :
    ∃ e, (ExAt (· < w.heap.size) w e cs ∧ exR e) ∧ exB e ≤ Rows.uptoBulk d :=
  let ⟨e, h1, h2, h3⟩ := ex_open _ (Nat.lt_succ_self _) h
  ⟨e, ⟨h1, h2⟩, h3⟩
theorem treeCopies_walk (w : World) (ht : Tab w) (p : Pg) (c0 : List Value) (o0 : PgAt (· < w.heap.size) w p c0 ∧ pgR p) (q : Pg) (c1 : List Value) (o1 : PgAt (· < w.heap.size) w q c1 ∧ pgR q) (e : Ex) (c2 : List Value) (o2 : ExAt (· < w.heap.size) w e c2 ∧ exR e) (hbd : pgB p + pgB q + exB e ≤ 1048576) :
    Calls Tryz.prog 6 #[.agg c0.toArray, .agg c1.toArray, .agg c2.toArray] w (fun r w' => r = .returned (.bool true) ∧ Below w.heap.size w w') := by
  obtain ⟨hp, _⟩ := o0
  obtain ⟨hq, _⟩ := o1
  obtain ⟨he, _⟩ := o2
  have hp0 := hp
  have hq0 := hq
  have he0 := he
  obtain ⟨_, _, _, _, _, _, _, _, _, rfl, _⟩ := hp0
  obtain ⟨_, _, _, _, _, _, _, _, _, rfl, _⟩ := hq0
  cases e
  simp only [ExAt] at he0
  obtain ⟨_, _, _, rfl, _⟩ := he0
  exact treeCopies_any p q _ w ht hbd hp hq he

namespace treeCopies
set_option linter.unusedVariables false
open Go.ChangeShapes Go.WideShapes Go.ChangeAt Go.RowKit Go.As
theorem own : ownKnob Tryz.prog.godebug = none := by kernel_rfl
theorem laidOut : laidOutB Tryz.prog = true := by kernel_rfl
theorem door_met (os : Os) (args : Array Value) : laidMetH Tryz.prog Rows.treeCopiesUptoRow.laid ((World.doorLaid Tryz.prog 24 os).forCall (fun _ _ => 0) ⟨#[], args, []⟩).memory :=
  laidMetH_of_parts3 (fuel := 8) (laidMet_of_run' 8 (by kernel_rfl) (by kernel_rfl)) (by kernel_rfl) (by kernel_rfl)
set_option maxRecDepth 100000 in
theorem reads (os : Os) {H : Type} (enc : TypeId × Value → H) : ∃ places, DataW.whole enc Tryz.prog ((World.doorLaid Tryz.prog 24 os).forCall (fun _ _ => 0) ⟨#[], #[.agg #[.slice none 0 0, .slice none 0 0, .slice none 0 0], .agg #[.slice none 0 0, .slice none 0 0, .slice none 0 0], .agg #[.int .u8 0, .int .u8 0, .int .u64 0, .string ⟨#[]⟩, .slice none 0 0]], []⟩).memory Tryz.f6.params.toList Rows.treeCopiesSpec.vars false (#[.agg #[.slice none 0 0, .slice none 0 0, .slice none 0 0], .agg #[.slice none 0 0, .slice none 0 0, .slice none 0 0], .agg #[.int .u8 0, .int .u8 0, .int .u64 0, .string ⟨#[]⟩, .slice none 0 0]] : Array Value).toList 8 = some ([.agg [.nil, .nil, .nil], .agg [.nil, .nil, .nil], .agg [.lit (.int .u8 0), .agg [.lit (.int .u8 0), .lit (.int .u64 0)], .lit (.string []), .nil]], [], places) :=
  ⟨[], by kernel_rfl⟩
set_option maxRecDepth 100000 in
theorem lifted (os : Os) (started : os.Started) (H : Type) (enc : TypeId × Value → H) (F : Stop.Interp) :
    ReturnsInHanded {} Tryz.checked os 6 .any ((Rows.OpenSpec.upto Rows.treeCopiesSpec).preRow enc Tryz.prog Tryz.f6 Rows.treeCopiesUptoRow.domain false Rows.treeCopiesUptoRow.laid) (((Rows.OpenSpec.upto Rows.treeCopiesSpec).at F).post enc Tryz.prog Tryz.f6 false true false false) := by
  obtain ⟨places, hx⟩ := reads os enc
  refine returnsInHanded_of_row (C := Tryz.checked) (s := Rows.OpenSpec.upto Rows.treeCopiesSpec) own started (by kernel_rfl) Tryz.func6
    ⟨World.doorLaid Tryz.prog 24 os, fun _ _ => 0, ⟨#[], #[.agg #[.slice none 0 0, .slice none 0 0, .slice none 0 0], .agg #[.slice none 0 0, .slice none 0 0, .slice none 0 0], .agg #[.int .u8 0, .int .u8 0, .int .u64 0, .string ⟨#[]⟩, .slice none 0 0]], []⟩, rfl, World.shaped_of_RefB (by kernel_rfl) (by kernel_rfl), rfl, (Input.okWide_of_okWideB (by kernel_rfl)).2, OpenSpec.preRow_of_cond 8 hx (by kernel_rfl) (fun k hk => by cases hk; kernel_rfl) (by kernel_rfl) (door_met os _), by
      simp only [Assume.holds]
      exact ⟨by simp, by simp, fun _ => Modest.zero, by simp, by simp⟩⟩ ?_
  intro W base args ds gs before hval0 hW hcnd hcond _ hL _ _
  have hval : ∀ (j : Nat) t v, Tryz.f6.params[j]? = some t → args[j]? = some v → Value.okWide Tryz.prog W .any base t v := hval0
  have hsmall := hcond _ rfl
  have hW' := hW
  obtain ⟨p, q, hA0, hV, hpq, hfz, hnd⟩ := hW
  have hA : DataW.TrodAll enc Tryz.prog W 0 (fun _ => true) true Tryz.f6.params.toList args.toList ds p := hA0
  rw [Tryz.params6] at hA hval
  obtain ⟨v0, vs0, d0, ds0, p0, q0, hargs, rfl, hp0, h0, r0⟩ := trodAll_cons hA
  obtain ⟨v1, vs1, d1, ds1, p1, q1, rfl, rfl, hp1, h1, r1⟩ := trodAll_cons r0
  obtain ⟨v2, vs2, d2, ds2, p2, q2, rfl, rfl, hp2, h2, r2⟩ := trodAll_cons r1
  obtain ⟨rfl, rfl, hpn⟩ := trodAll_nil r2
  obtain rfl : args = #[v0, v1, v2] := by cases args; simp_all
  obtain ⟨rfl, rfl⟩ := trodVars_none hV
  have hbulk : Rows.uptoBulkAll [d0, d1, d2] ≤ 1048576 := of_decide_eq_true hsmall
  simp only [Rows.uptoBulkAll] at hbulk
  obtain ⟨cs0, rfl, -⟩ := okWide_struct Tryz.underlying26 (hval 0 26 v0 rfl rfl)
  obtain ⟨n0, g0⟩ := h0
  obtain ⟨x0, o0, b0⟩ := pg_open g0
  obtain ⟨cs1, rfl, -⟩ := okWide_struct Tryz.underlying26 (hval 1 26 v1 rfl rfl)
  obtain ⟨n1, g1⟩ := h1
  obtain ⟨x1, o1, b1⟩ := pg_open g1
  obtain ⟨cs2, rfl, -⟩ := okWide_struct Tryz.underlying34 (hval 2 34 v2 rfl rfl)
  obtain ⟨n2, g2⟩ := h2
  obtain ⟨x2, o2, b2⟩ := ex_openA g2
  refine (treeCopies_walk W (tab_of_laid (laid := Rows.treeCopiesUptoRow.laid) rfl hL) x0 cs0.toList o0 x1 cs1.toList o1 x2 cs2.toList o2 (by omega)).mono fun e W' ⟨he, hg⟩ => ?_
  subst he
  exact ⟨_, rfl, law_post (T := 4) laidOut (by kernel_rfl) Tryz.underlying4 rfl rfl hW' rfl rfl rfl hg⟩
theorem over : Rows.TreeCopiesUptoSaid :=
  OpenClaim.holds_of_cond 6 Tryz.f6 rfl rfl rfl rfl rfl rfl rfl ⟨rfl, rfl, rfl, rfl, rfl⟩ rfl rfl rfl rfl rfl (by kernel_rfl) Tryz.func6 (by kernel_rfl)
    (of_decide_eq_true (by kernel_rfl)) (by unfold Func.isWrapper; rw [if_neg (of_decide_eq_false (by kernel_rfl))]; exact ⟨rfl, rfl⟩)
    (fun os started H enc _ F => by rw [OpenClaim.pre_eq_preRow]; exact lifted os started H enc F)
/-- the statement -/
theorem proved : Rows.TreeCopiesUptoCardSaid :=
  Claim7.holds_tied_plain_at .later [] [.data, .data, .data] true (true, "5b2c5c639a09f3ed05560c227b0a2cd6417d8ccda383ce741b7ea4718afeabac") true over (fun _ h => by cases h) (by kernel_rfl) (fun _ h => by cases h) treeCopiesUpto_row_tie rfl ⟨rfl, rfl⟩ (by kernel_rfl) rfl
    (fun f fn hf hfn => by
      obtain rfl : f = 6 := Option.some.inj ((show Tryz.prog.funcNamed "assize/assizelaw05.TreeCopies" = some 6 by kernel_rfl).symm.trans hf) |>.symm
      obtain rfl : fn = Tryz.f6 := (Option.some.inj (Tryz.func6.symm.trans hfn)).symm
      exact ⟨by kernel_rfl, fun j t ht => by
        rw [Tryz.params6] at ht
        have hm : t ∈ [26, 26, 34] := by simpa using Array.mem_of_getElem? ht
        have hall : ([26, 26, 34].all fun u => !Tryz.prog.wantsStandIn u) = true := by kernel_rfl
        exact (show Tryz.prog.wantsStandIn t = false by simpa using List.all_eq_true.1 hall t hm)⟩)
    (by kernel_rfl)
#print axioms proved
end treeCopies
end Go.Proofs.YtiacalnkmnckjaaGreatDoor
