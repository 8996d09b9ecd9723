/- Texts of this proof, one behind the other. Conditions: those in each theorem. -/
import Derived.Test.YtiacalnkmnckjaaGreatDoorTreeCopiesP11
import Derived.LaidMore
import Derived.LaidOnce
import Derived.SevenBeyond
import Derived.SevenTiedAt
import Derived.Stop.Joined
import Derived.Test.YtiacalnkmnckjaaGreatDoorRows
import Derived.Test.YtiacalnkmnckjaaGreatDoorCards
import Derived.Test.YtiacalnkmnckjaaGreatDoorTie
import Derived.Deep.DeepHandedRow
import Derived.JoinedCond
import Derived.Lib.LaidTab
section
/- The law of copies: what stands behind the two copies; weak trees of exact ones. No conditions but those in each theorem. -/
namespace Go.Proofs.YtiacalnkmnckjaaGreatDoor
open Go.RowKit Go.As
set_option linter.unusedVariables false
set_option linter.unusedSimpArgs false

theorem ld_box {P : Program} {F : Nat → Prop} {w : World} {k n : Nat} {ty : TypeId} {cs : List Value} (h : Sy.SlAt F w (some ⟨k, 0, none⟩) 1 n cs) (hb : Sy.aggB P ty = some true) (hs : Sy.szB P ty = some n) {W : World} (hk : Sy.Keep F w W) :
    (Instr.loadAt ty (.pointer (some ⟨k, 0, none⟩))).run P W = .ok (.agg cs.toArray) W := by
  have := Sy.load_slA h hb hs 0 0 (cs := cs) (by have := h.len; omega) (fun j v hv => by simpa using hv) hk
  simpa [Sy.gB, Sy.oB] using this
theorem box_sl {F : Nat → Prop} {w : World} {k ty n : Nat} {vals : List Value} (h : w.heap[k]? = some (.cells vals.toArray ty (0, 0))) (hF : F k) (hn : vals.length = n) : Sy.SlAt F w (some ⟨k, 0, none⟩) 1 n vals :=
  ⟨by omega, .inr ⟨rfl, hF, fun j v hv => by
    simp only [World.cell?, Sy.gB, Sy.oB, Nat.zero_add]
    rw [h]
    simpa using hv⟩⟩
mutual
theorem ExAt.weak {F : Nat → Prop} {w : World} {M : Nat} : ∀ {e : Ex} {cs : List Value}, exB e ≤ M → ExAt F w e cs → WE F w M e cs
  | .mk op ty bits name kids, cs, hM, h => by
    simp only [ExAt] at h
    simp only [WE]
    simp only [exB] at hM
    obtain ⟨a, cap, xs, rfl, h1, h2⟩ := h
    exact ⟨op, ty, bits, str name, a, cap, xs, rfl, by rw [str_size]; omega, h1, ExsAt.weak (by omega) h2⟩
theorem ExsAt.weak {F : Nat → Prop} {w : World} {M : Nat} : ∀ {l : List Ex} {xs : List Value}, exBs l ≤ M → ExsAt F w l xs → WEs F w M l xs
  | [], xs, _, h => by simp only [ExsAt] at h; simp only [WEs]; exact h
  | e :: l, xs, hM, h => by
    simp only [ExsAt] at h
    simp only [WEs]
    simp only [exBs] at hM
    obtain ⟨c, r, rfl, h1, h2⟩ := h
    exact ⟨c, r, rfl, ExAt.weak (by omega) h1, ExsAt.weak (by omega) h2⟩
end
mutual
theorem StAt.weak {F : Nat → Prop} {w : World} {M : Nat} : ∀ {e : St} {cs : List Value}, stB e ≤ M → StAt F w e cs → WSt F w M e cs
  | .mk kind name e body els, cs, hM, h => by
    simp only [StAt] at h
    simp only [WSt]
    simp only [stB] at hM
    obtain ⟨ec, a, cap, xs, b, cap2, ys, rfl, h1, h2, h3, h4, h5⟩ := h
    exact ⟨kind, str name, ec, a, cap, xs, b, cap2, ys, rfl, h1.weak (by omega), h2, StsAt.weak (by omega) h3, h4, StsAt.weak (by omega) h5⟩
theorem StsAt.weak {F : Nat → Prop} {w : World} {M : Nat} : ∀ {l : List St} {xs : List Value}, stBs l ≤ M → StsAt F w l xs → WSts F w M l xs
  | [], xs, _, h => by simp only [StsAt] at h; simp only [WSts]; exact h
  | e :: l, xs, hM, h => by
    simp only [StsAt] at h
    simp only [WSts]
    simp only [stBs] at hM
    obtain ⟨c, r, rfl, h1, h2⟩ := h
    exact ⟨c, r, rfl, StAt.weak (by omega) h1, StsAt.weak (by omega) h2⟩
end
theorem LsAt.weak {α : Type} {A A' : α → List Value → Prop} {μ : α → Nat} {M : Nat} (h : ∀ e c, μ e ≤ M → A e c → A' e c) : ∀ {l : List α} {xs : List Value}, sumN μ l ≤ M → LsAt A l xs → LsAt A' l xs
  | [], xs, _, hx => hx
  | e :: l, xs, hM, ⟨c, r, h1, h2, h3⟩ => by
    simp only [sumN] at hM
    exact ⟨c, r, h1, h e c (by omega) h2, LsAt.weak h (by omega) h3⟩
theorem VrAt.weak {v : Vr} {cs : List Value} (h : VrAt v cs) : WVr v cs := ⟨_, _, _, h⟩
theorem ThAt.weak {F : Nat → Prop} {w : World} {M : Nat} (t : Th) (cs : List Value) (hM : thB t ≤ M) (h : ThAt F w t cs) : WTh F w M t cs := by
  obtain ⟨a, cap, xs, b, cap2, ys, rfl, h1, h2, h3, h4⟩ := h
  unfold thB at hM
  exact ⟨_, a, cap, xs, b, cap2, ys, rfl, h1, h2.imp (fun _ _ h => h.weak), h3, StsAt.weak (by omega) h4⟩
theorem TxAt.weak {M : Nat} : ∀ {l : List (List UInt8)} {xs : List Value}, sumN txB l ≤ M → LsAt TxAt l xs → ∀ v ∈ xs, ∃ s : ByteArray, v = .string s ∧ s.size ≤ M
  | [], xs, _, h, v, hv => by
    obtain rfl : xs = [] := h
    cases hv
  | s :: l, xs, hM, ⟨c, r, h1, h2, h3⟩, v, hv => by
    simp only [sumN, txB] at hM
    subst h1
    rw [show c = [.string (str s)] from h2] at hv
    rcases List.mem_append.1 hv with hv | hv
    · rw [List.mem_singleton] at hv
      exact ⟨str s, hv, by rw [str_size]; omega⟩
    · exact TxAt.weak (by omega) h3 v hv
/-- the code behind a part -/
def seqR : Code → Code
  | .seq _ b => b
  | c => c
open Go.Sy in
set_option maxRecDepth 100000 in
theorem copies_tail (p q : Pg) (e : Ex) (w : World) (ht : Tab w) (hbd : pgB p + pgB q + exB e ≤ 1048576) (B0 : Nat → Prop) (w0 : World) (γ0 : Gm) (hγ0 : ∀ b, gz + 5 ≤ b → γ0 b = none) (hk00 : Keep (· < w.heap.size) w w0) (hB00 : ∀ k, k < w.heap.size → B0 k) (hB0 : ∀ k, B0 k → k < w0.heap.size)
    (k3 k4 k5 k7 k8 : Nat) {pa pb pd : Option Addr} {pns pnm pnt pcap pcap2 pcap3 : Nat} {qa qb qd : Option Addr} {qns qnm qnt qcap qcap2 qcap3 : Nat} {ua ub ud : Option Addr} {uns unm unt ucap ucap2 ucap3 : Nat} {va vb vd : Option Addr} {vns vnm vnt vcap vcap2 vcap3 : Nat} {eop ety ebits : Int} {en : List UInt8} {ea : Option Addr} {eka eec : Nat}
    (hb3 : SlAt B0 w0 (some ⟨k3, 0, none⟩) 1 3 [.slice pa pns pcap, .slice pb pnm pcap2, .slice pd pnt pcap3]) (hb4 : SlAt B0 w0 (some ⟨k4, 0, none⟩) 1 3 [.slice qa qns qcap, .slice qb qnm qcap2, .slice qd qnt qcap3]) (hb5 : SlAt B0 w0 (some ⟨k5, 0, none⟩) 1 5 [.int .u8 eop, .int .u8 ety, .int .u64 ebits, .string (str en), .slice ea eka eec]) (hb7 : SlAt B0 w0 (some ⟨k7, 0, none⟩) 1 3 [.slice ua uns ucap, .slice ub unm ucap2, .slice ud unt ucap3]) (hb8 : SlAt B0 w0 (some ⟨k8, 0, none⟩) 1 3 [.slice va vns vcap, .slice vb vnm vcap2, .slice vd vnt vcap3])
    (hp : PgAt B0 w0 p [.slice pa pns pcap, .slice pb pnm pcap2, .slice pd pnt pcap3]) (hq : PgAt B0 w0 q [.slice qa qns qcap, .slice qb qnm qcap2, .slice qd qnt qcap3]) (he : ExAt B0 w0 e [.int .u8 eop, .int .u8 ety, .int .u64 ebits, .string (str en), .slice ea eka eec]) (hu : PgAt B0 w0 p [.slice ua uns ucap, .slice ub unm ucap2, .slice ud unt ucap3]) (hv : PgAt B0 w0 q [.slice va vns vcap, .slice vb vnm vcap2, .slice vd vnt vcap3]) :
    Go.Sy.Good Tryz.prog B0 w0 γ0 Tryz.f6.ntmps (bodyPostD Tryz.prog Tryz.f6 (fun r w' => r = .returned (.bool true) ∧ Below w.heap.size w w')) ⟨[.code (seqR (seqR (seqR (Tryz.f6.body.getD .skip))))], ⟨mkT [(3, .v (.pointer (some ⟨k3, 0, none⟩))), (4, .v (.pointer (some ⟨k4, 0, none⟩))), (5, .v (.pointer (some ⟨k5, 0, none⟩))), (6, .v (.bool false)), (7, .v (.pointer (some ⟨k7, 0, none⟩))), (8, .v (.pointer (some ⟨k8, 0, none⟩)))], mkH [], gz + 5, []⟩⟩ := by
  have hwp := pwt_pgB p
  have hwq := pwt_pgB q
  have hwe := wgt_exB e
  have keepP : ∀ (x : Pg) (cs : List Value), PgAt B0 w0 x cs → ∀ W, Keep B0 w0 W → PgAt (· < W.heap.size) W x cs := fun x cs h W hk => h.keep hk fun k h => Nat.lt_of_lt_of_le (hB0 k h) hk.size
  have PP := keepP _ _ hp
  have PQ := keepP _ _ hq
  have PA := keepP _ _ hu
  have PB := keepP _ _ hv
  have PE : ∀ W, Keep B0 w0 W → ExAt (· < W.heap.size) W e [.int .u8 eop, .int .u8 ety, .int .u64 ebits, .string (str en), .slice ea eka eec] := fun W hk => he.keep hk fun k h => Nat.lt_of_lt_of_le (hB0 k h) hk.size
  obtain ⟨s, hs⟩ : ∃ s, s = sameB p q := ⟨_, rfl⟩
  cases s with
  | false =>
    refine run_ok (sy_cx _ _) 0 [] 60 0 ?_
    refine good_draw sy_mixed (by kernel_rfl) ?_
    refine q_run [] 60 ?_
    refine q_val (.agg #[.slice ua uns ucap, .slice ub unm ucap2, .slice ud unt ucap3]) (S := Instr.loadAt 26 (.pointer (some ⟨k7, 0, none⟩))) (by kernel_rfl) (fun W hk => ld_box hb7 (by kernel_rfl) (by kernel_rfl) (hk)) ?_
    refine q_run [] 60 ?_
    refine q_val (.agg #[.slice va vns vcap, .slice vb vnm vcap2, .slice vd vnt vcap3]) (S := Instr.loadAt 26 (.pointer (some ⟨k8, 0, none⟩))) (by kernel_rfl) (fun W hk => ld_box hb8 (by kernel_rfl) (by kernel_rfl) (hk)) ?_
    refine q_run [] 60 ?_
    refine q_callB (sy_cx _ _) [.agg #[.slice ua uns ucap, .slice ub unm ucap2, .slice ud unt ucap3], .agg #[.slice va vns vcap, .slice vb vnm vcap2, .slice vd vnt vcap3]] (.bool false) (by kernel_rfl) (by kernel_rfl) (by kernel_rfl) (fun W hk => by rw [hs]; exact tsame_any p q [.slice ua uns ucap, .slice ub unm ucap2, .slice ud unt ucap3] [.slice va vns vcap, .slice vb vnm vcap2, .slice vd vnt vcap3] W (by omega) (PA W hk) (PB W hk)) ?_
    refine q_run [] 60 ?_
    refine q_val (.agg #[.slice pa pns pcap, .slice pb pnm pcap2, .slice pd pnt pcap3]) (S := Instr.loadAt 26 (.pointer (some ⟨k3, 0, none⟩))) (by kernel_rfl) (fun W hk => ld_box hb3 (by kernel_rfl) (by kernel_rfl) (hk)) ?_
    refine q_run [] 60 ?_
    refine q_val (.agg #[.slice qa qns qcap, .slice qb qnm qcap2, .slice qd qnt qcap3]) (S := Instr.loadAt 26 (.pointer (some ⟨k4, 0, none⟩))) (by kernel_rfl) (fun W hk => ld_box hb4 (by kernel_rfl) (by kernel_rfl) (hk)) ?_
    refine q_run [] 60 ?_
    refine q_callB (sy_cx _ _) [.agg #[.slice pa pns pcap, .slice pb pnm pcap2, .slice pd pnt pcap3], .agg #[.slice qa qns qcap, .slice qb qnm qcap2, .slice qd qnt qcap3]] (.bool false) (by kernel_rfl) (by kernel_rfl) (by kernel_rfl) (fun W hk => by rw [hs]; exact sameProgram_any p q [.slice pa pns pcap, .slice pb pnm pcap2, .slice pd pnt pcap3] [.slice qa qns qcap, .slice qb qnm qcap2, .slice qd qnt qcap3] W (by omega) (PP W hk) (PQ W hk)) ?_
    refine q_run [] 60 ?_
    refine q_val (.agg #[.int .u8 eop, .int .u8 ety, .int .u64 ebits, .string (str en), .slice ea eka eec]) (S := Instr.loadAt 34 (.pointer (some ⟨k5, 0, none⟩))) (by kernel_rfl) (fun W hk => ld_box hb5 (by kernel_rfl) (by kernel_rfl) (hk)) ?_
    refine q_run [] 60 ?_
    refine q_callB (sy_cx _ _) [.agg #[.int .u8 eop, .int .u8 ety, .int .u64 ebits, .string (str en), .slice ea eka eec]] (.int .i64 (hgt e : Nat)) (by kernel_rfl) (by kernel_rfl) (by kernel_rfl) (fun W hk => theight_any _ e [.int .u8 eop, .int .u8 ety, .int .u64 ebits, .string (str en), .slice ea eka eec] W (Nat.le_refl _) (by omega) (PE W hk)) ?_
    refine q_run [] 60 ?_
    refine q_val (.agg #[.int .u8 eop, .int .u8 ety, .int .u64 ebits, .string (str en), .slice ea eka eec]) (S := Instr.loadAt 34 (.pointer (some ⟨k5, 0, none⟩))) (by kernel_rfl) (fun W hk => ld_box hb5 (by kernel_rfl) (by kernel_rfl) (hk)) ?_
    refine q_run [] 60 ?_
    refine q_callB (sy_cx _ _) [.agg #[.int .u8 eop, .int .u8 ety, .int .u64 ebits, .string (str en), .slice ea eka eec]] (.int .i64 (hgt e : Nat)) (by kernel_rfl) (by kernel_rfl) (by kernel_rfl) (fun W hk => kheight_any _ e [.int .u8 eop, .int .u8 ety, .int .u64 ebits, .string (str en), .slice ea eka eec] W (Nat.le_refl _) (by omega) (PE W hk)) ?_
    refine q_run [38] 60 ?_
    refine q_set 37 (x := .bool (!(intEq (hgt e : Nat) (hgt e : Nat)))) (.bool false) (by kernel_rfl) (by rw [eq_t rfl]; rfl) ?_
    refine q_run [] 60 ?_
    refine q_val (.agg #[.slice ua uns ucap, .slice ub unm ucap2, .slice ud unt ucap3]) (S := Instr.loadAt 26 (.pointer (some ⟨k7, 0, none⟩))) (by kernel_rfl) (fun W hk => ld_box hb7 (by kernel_rfl) (by kernel_rfl) (hk)) ?_
    refine q_run [] 60 ?_
    refine q_callB (sy_cx _ _) [.agg #[.slice ua uns ucap, .slice ub unm ucap2, .slice ud unt ucap3]] (.int .i64 (tsiz p.threads : Nat)) (by kernel_rfl) (by kernel_rfl) (by kernel_rfl) (fun W hk => tSize_any p [.slice ua uns ucap, .slice ub unm ucap2, .slice ud unt ucap3] W (by omega) (PA W hk)) ?_
    refine q_run [] 60 ?_
    refine q_val (.agg #[.slice pa pns pcap, .slice pb pnm pcap2, .slice pd pnt pcap3]) (S := Instr.loadAt 26 (.pointer (some ⟨k3, 0, none⟩))) (by kernel_rfl) (fun W hk => ld_box hb3 (by kernel_rfl) (by kernel_rfl) (hk)) ?_
    refine q_run [] 60 ?_
    refine q_callB (sy_cx _ _) [.agg #[.slice pa pns pcap, .slice pb pnm pcap2, .slice pd pnt pcap3]] (.int .i64 (tsiz p.threads : Nat)) (by kernel_rfl) (by kernel_rfl) (by kernel_rfl) (fun W hk => rSize_any p [.slice pa pns pcap, .slice pb pnm pcap2, .slice pd pnt pcap3] W (by omega) (PP W hk)) ?_
    refine q_run [45] 60 ?_
    refine q_set 44 (x := .bool (!(intEq (tsiz p.threads : Nat) (tsiz p.threads : Nat)))) (.bool false) (by kernel_rfl) (by rw [eq_t rfl]; rfl) ?_
    refine q_run [] 60 ?_
    refine q_end (by kernel_rfl) ?_
    refine run_ok (sy_cx _ _) 0 [] 60 2 ?_
    refine good_val (.agg #[.slice ua uns ucap, .slice ub unm ucap2, .slice ud unt ucap3]) (S := Instr.loadAt 26 (.pointer (some ⟨k7, 0, none⟩))) (by kernel_rfl) (fun W hk => ld_box hb7 (by kernel_rfl) (by kernel_rfl) (hk)) ?_
    refine run_ok (sy_cx _ _) 0 [] 60 0 ?_
    refine good_callM (sy_cx _ _) [.agg #[.slice ua uns ucap, .slice ub unm ucap2, .slice ud unt ucap3]] (by kernel_rfl) (by kernel_rfl) (by kernel_rfl) (fun W hk => tcopy_any p [.slice ua uns ucap, .slice ub unm ucap2, .slice ud unt ucap3] W (by omega) (PA W hk)) ?_
    rintro wa r w2 B2 hka hcp hba hk2 hB2 hBn2 hB2s
    obtain ⟨ca, ccap, cb, ccap2, cd, ccap3, cxs, cys, czs, cus, rfl, c1, c2, c3, c4, c5, c6, c7, c8, hcm⟩ := hcp
    refine run_ok (sy_cx _ _) 0 [48] 60 0 ?_
    refine good_give 9 (gz + 5) 26 [.slice ca p.shared.length ccap, .slice cb p.mutexes.length ccap2, .slice cd p.threads.length ccap3] (by kernel_rfl) (by kernel_rfl) (fun k9 w3 B3 hk23 hB23 hBk9 hnk9 hB3 hh9 => ?_)
    have hk3 : Keep B0 w0 w3 := hk2.trans (hk23.mono hB2)
    have hB03 : ∀ k, B0 k → B3 k := fun k h => hB23 k (hB2 k h)
    have zz1 := hka.size
    have zz2 := hk23.size
    have hb9 := box_sl hh9 hBk9 (n := 3) rfl
    have hF3 : ∀ k, NewS wa w2 k → B3 k := fun k h => hB23 k (hBn2 k h.1.1 h.1.2)
    have hKF : Keep (NewS wa w2) w2 w3 := hk23.mono fun k h => hBn2 k h.1.1 h.1.2
    have PC3 : ∀ W, Keep B3 w3 W → PgAt (· < W.heap.size) W p [.slice ca p.shared.length ccap, .slice cb p.mutexes.length ccap2, .slice cd p.threads.length ccap3] := fun W hk => by
      have hk' : Keep (NewS wa w2) w2 W := hKF.trans (hk.mono hF3)
      have hF' : ∀ k, NewS wa w2 k → k < W.heap.size := fun k h => Nat.lt_of_lt_of_le h.1.2 hk'.size
      exact ⟨ca, ccap, cxs, cb, ccap2, cys, cd, ccap3, czs, rfl, (c1.keep hk').mono hF', c2, (c3.keep hk').mono hF', c4, (c5.keep hk').mono hF', c6.imp (fun _ _ h => h.keep hk' hF')⟩
    refine run_ok (sy_cx _ _) 0 [] 60 0 ?_
    refine good_val (.agg #[.slice ca p.shared.length ccap, .slice cb p.mutexes.length ccap2, .slice cd p.threads.length ccap3]) (S := Instr.loadAt 26 (.pointer (some ⟨k9, 0, none⟩))) (by kernel_rfl) (fun W hk => ld_box hb9 (by kernel_rfl) (by kernel_rfl) hk) ?_
    refine run_ok (sy_cx _ _) 0 [] 60 0 ?_
    refine good_val (.agg #[.slice pa pns pcap, .slice pb pnm pcap2, .slice pd pnt pcap3]) (S := Instr.loadAt 26 (.pointer (some ⟨k3, 0, none⟩))) (by kernel_rfl) (fun W hk => ld_box hb3 (by kernel_rfl) (by kernel_rfl) (hk3.trans (hk.mono hB03))) ?_
    refine run_ok (sy_cx _ _) 0 [] 60 0 ?_
    refine good_callB (sy_cx _ _) [.agg #[.slice ca p.shared.length ccap, .slice cb p.mutexes.length ccap2, .slice cd p.threads.length ccap3], .agg #[.slice pa pns pcap, .slice pb pnm pcap2, .slice pd pnt pcap3]] (.bool true) (by kernel_rfl) (by kernel_rfl) (by kernel_rfl) (fun W hk => by have := sameProgram_any p p _ [.slice pa pns pcap, .slice pb pnm pcap2, .slice pd pnt pcap3] W (by omega) (PC3 W hk) (PP W (hk3.trans (hk.mono hB03))); rw [sameB_t.2 rfl] at this; exact this) ?_
    refine run_ok (sy_cx _ _) 0 [] 60 0 ?_
    refine good_val (.agg #[.slice ca p.shared.length ccap, .slice cb p.mutexes.length ccap2, .slice cd p.threads.length ccap3]) (S := Instr.loadAt 26 (.pointer (some ⟨k9, 0, none⟩))) (by kernel_rfl) (fun W hk => ld_box hb9 (by kernel_rfl) (by kernel_rfl) hk) ?_
    refine run_ok (sy_cx _ _) 0 [] 60 0 ?_
    refine good_val (.agg #[.slice ua uns ucap, .slice ub unm ucap2, .slice ud unt ucap3]) (S := Instr.loadAt 26 (.pointer (some ⟨k7, 0, none⟩))) (by kernel_rfl) (fun W hk => ld_box hb7 (by kernel_rfl) (by kernel_rfl) (hk3.trans (hk.mono hB03))) ?_
    refine run_ok (sy_cx _ _) 0 [] 60 0 ?_
    refine good_callB (sy_cx _ _) [.agg #[.slice ca p.shared.length ccap, .slice cb p.mutexes.length ccap2, .slice cd p.threads.length ccap3], .agg #[.slice ua uns ucap, .slice ub unm ucap2, .slice ud unt ucap3]] (.bool true) (by kernel_rfl) (by kernel_rfl) (by kernel_rfl) (fun W hk => by have := tsame_any p p _ [.slice ua uns ucap, .slice ub unm ucap2, .slice ud unt ucap3] W (by omega) (PC3 W hk) (PA W (hk3.trans (hk.mono hB03))); rw [sameB_t.2 rfl] at this; exact this) ?_
    refine run_ok (sy_cx _ _) 0 [] 60 2 ?_
    refine good_val (.agg #[.slice ca p.shared.length ccap, .slice cb p.mutexes.length ccap2, .slice cd p.threads.length ccap3]) (S := Instr.loadAt 26 (.pointer (some ⟨k9, 0, none⟩))) (by kernel_rfl) (fun W hk => ld_box hb9 (by kernel_rfl) (by kernel_rfl) hk) ?_
    refine run_ok (sy_cx _ _) 0 [] 60 0 ?_
    have hM : pgB p ≤ 1048576 := by omega
    unfold pgB at hM
    refine good_callW (sy_cx _ _) [.agg #[.slice ca p.shared.length ccap, .slice cb p.mutexes.length ccap2, .slice cd p.threads.length ccap3]] (NewS wa w2) (Pr := fun w r w' => r = .tuple #[]) (by kernel_rfl) (by kernel_rfl) (by kernel_rfl) (by kernel_rfl) hF3
      (fun W hk => by
        have hk' : Keep (NewS wa w2) w2 W := hKF.trans (hk.mono hF3)
        refine (overProgram_any p ca ccap cxs cb ccap2 (cys ++ cus) cd ccap3 czs 1048576 (NewS wa w2) W hcm (by omega) (fun k h => h.2.keep hk' h) (c1.keep hk') (c2.imp fun _ _ h => h.weak) (c7.keep hk') (fun v hv => ?_) (c5.keep hk') (LsAt.weak (μ := thB) (M := 1048576) (fun t c hm h => ThAt.weak t c hm (h.keep hk' fun k h => h)) (by omega) c6)).mono fun r w' ⟨h1, h2⟩ => ⟨_, h1, rfl, h2.keep⟩
        rcases List.mem_append.1 hv with hv | hv
        · exact TxAt.weak (M := 1048576) (by omega) c4 v hv
        · have := c8 v hv
          rw [List.mem_singleton] at this
          exact ⟨_, this, Nat.zero_le _⟩) ?_
    rintro W4 r w4 B4 hk34 rfl _ hk4 hB34 _ hB4
    have hk04 : Keep B0 w0 w4 := hk3.trans (hk4.mono fun k h => ⟨hB03 k h, fun hN => by have := hB0 k h; have := hN.1.1; omega⟩)
    have hB04 : ∀ k, B0 k → B4 k := fun k h => hB34 k (hB03 k h)
    refine run_ok (sy_cx _ _) 0 [] 60 0 ?_
    refine good_val (.agg #[.slice ua uns ucap, .slice ub unm ucap2, .slice ud unt ucap3]) (S := Instr.loadAt 26 (.pointer (some ⟨k7, 0, none⟩))) (by kernel_rfl) (fun W hk => ld_box hb7 (by kernel_rfl) (by kernel_rfl) (hk04.trans (hk.mono hB04))) ?_
    refine run_ok (sy_cx _ _) 0 [] 60 0 ?_
    refine good_val (.agg #[.slice pa pns pcap, .slice pb pnm pcap2, .slice pd pnt pcap3]) (S := Instr.loadAt 26 (.pointer (some ⟨k3, 0, none⟩))) (by kernel_rfl) (fun W hk => ld_box hb3 (by kernel_rfl) (by kernel_rfl) (hk04.trans (hk.mono hB04))) ?_
    refine run_ok (sy_cx _ _) 0 [] 60 0 ?_
    refine good_callB (sy_cx _ _) [.agg #[.slice ua uns ucap, .slice ub unm ucap2, .slice ud unt ucap3], .agg #[.slice pa pns pcap, .slice pb pnm pcap2, .slice pd pnt pcap3]] (.bool true) (by kernel_rfl) (by kernel_rfl) (by kernel_rfl) (fun W hk => by have := sameProgram_any p p [.slice ua uns ucap, .slice ub unm ucap2, .slice ud unt ucap3] [.slice pa pns pcap, .slice pb pnm pcap2, .slice pd pnt pcap3] W (by omega) (PA W (hk04.trans (hk.mono hB04))) (PP W (hk04.trans (hk.mono hB04))); rw [sameB_t.2 rfl] at this; exact this) ?_
    refine run_ok (sy_cx _ _) 0 [] 60 0 ?_
    refine good_val (.agg #[.slice va vns vcap, .slice vb vnm vcap2, .slice vd vnt vcap3]) (S := Instr.loadAt 26 (.pointer (some ⟨k8, 0, none⟩))) (by kernel_rfl) (fun W hk => ld_box hb8 (by kernel_rfl) (by kernel_rfl) (hk04.trans (hk.mono hB04))) ?_
    refine run_ok (sy_cx _ _) 0 [] 60 0 ?_
    refine good_val (.agg #[.slice qa qns qcap, .slice qb qnm qcap2, .slice qd qnt qcap3]) (S := Instr.loadAt 26 (.pointer (some ⟨k4, 0, none⟩))) (by kernel_rfl) (fun W hk => ld_box hb4 (by kernel_rfl) (by kernel_rfl) (hk04.trans (hk.mono hB04))) ?_
    refine run_ok (sy_cx _ _) 0 [] 60 0 ?_
    refine good_callB (sy_cx _ _) [.agg #[.slice va vns vcap, .slice vb vnm vcap2, .slice vd vnt vcap3], .agg #[.slice qa qns qcap, .slice qb qnm qcap2, .slice qd qnt qcap3]] (.bool true) (by kernel_rfl) (by kernel_rfl) (by kernel_rfl) (fun W hk => by have := sameProgram_any q q [.slice va vns vcap, .slice vb vnm vcap2, .slice vd vnt vcap3] [.slice qa qns qcap, .slice qb qnm qcap2, .slice qd qnt qcap3] W (by omega) (PB W (hk04.trans (hk.mono hB04))) (PQ W (hk04.trans (hk.mono hB04))); rw [sameB_t.2 rfl] at this; exact this) ?_
    refine run_ok (sy_cx _ _) 0 [] 60 0 ?_
    refine good_callB (sy_cx _ _) [] (.bool true) (by kernel_rfl) (by kernel_rfl) (by kernel_rfl) (fun W hk => awake05_any W (ht.below (hk00.trans ((hk04.trans (hk.mono hB04)).mono hB00)).below)) ?_
    refine run_ok (sy_cx _ _) 0 [] 60 0 ?_
    refine good_endV (.bool true) (by kernel_rfl) (fun W hk => ⟨rfl, (hk00.trans ((hk04.trans (hk.mono hB04)).mono hB00)).below⟩)
  | true =>
    refine run_ok (sy_cx _ _) 0 [] 60 0 ?_
    refine good_draw sy_mixed (by kernel_rfl) ?_
    refine q_run [] 60 ?_
    refine q_val (.agg #[.slice ua uns ucap, .slice ub unm ucap2, .slice ud unt ucap3]) (S := Instr.loadAt 26 (.pointer (some ⟨k7, 0, none⟩))) (by kernel_rfl) (fun W hk => ld_box hb7 (by kernel_rfl) (by kernel_rfl) (hk)) ?_
    refine q_run [] 60 ?_
    refine q_val (.agg #[.slice va vns vcap, .slice vb vnm vcap2, .slice vd vnt vcap3]) (S := Instr.loadAt 26 (.pointer (some ⟨k8, 0, none⟩))) (by kernel_rfl) (fun W hk => ld_box hb8 (by kernel_rfl) (by kernel_rfl) (hk)) ?_
    refine q_run [] 60 ?_
    refine q_callB (sy_cx _ _) [.agg #[.slice ua uns ucap, .slice ub unm ucap2, .slice ud unt ucap3], .agg #[.slice va vns vcap, .slice vb vnm vcap2, .slice vd vnt vcap3]] (.bool true) (by kernel_rfl) (by kernel_rfl) (by kernel_rfl) (fun W hk => by rw [hs]; exact tsame_any p q [.slice ua uns ucap, .slice ub unm ucap2, .slice ud unt ucap3] [.slice va vns vcap, .slice vb vnm vcap2, .slice vd vnt vcap3] W (by omega) (PA W hk) (PB W hk)) ?_
    refine q_run [] 60 ?_
    refine q_val (.agg #[.slice pa pns pcap, .slice pb pnm pcap2, .slice pd pnt pcap3]) (S := Instr.loadAt 26 (.pointer (some ⟨k3, 0, none⟩))) (by kernel_rfl) (fun W hk => ld_box hb3 (by kernel_rfl) (by kernel_rfl) (hk)) ?_
    refine q_run [] 60 ?_
    refine q_val (.agg #[.slice qa qns qcap, .slice qb qnm qcap2, .slice qd qnt qcap3]) (S := Instr.loadAt 26 (.pointer (some ⟨k4, 0, none⟩))) (by kernel_rfl) (fun W hk => ld_box hb4 (by kernel_rfl) (by kernel_rfl) (hk)) ?_
    refine q_run [] 60 ?_
    refine q_callB (sy_cx _ _) [.agg #[.slice pa pns pcap, .slice pb pnm pcap2, .slice pd pnt pcap3], .agg #[.slice qa qns qcap, .slice qb qnm qcap2, .slice qd qnt qcap3]] (.bool true) (by kernel_rfl) (by kernel_rfl) (by kernel_rfl) (fun W hk => by rw [hs]; exact sameProgram_any p q [.slice pa pns pcap, .slice pb pnm pcap2, .slice pd pnt pcap3] [.slice qa qns qcap, .slice qb qnm qcap2, .slice qd qnt qcap3] W (by omega) (PP W hk) (PQ W hk)) ?_
    refine q_run [] 60 ?_
    refine q_val (.agg #[.int .u8 eop, .int .u8 ety, .int .u64 ebits, .string (str en), .slice ea eka eec]) (S := Instr.loadAt 34 (.pointer (some ⟨k5, 0, none⟩))) (by kernel_rfl) (fun W hk => ld_box hb5 (by kernel_rfl) (by kernel_rfl) (hk)) ?_
    refine q_run [] 60 ?_
    refine q_callB (sy_cx _ _) [.agg #[.int .u8 eop, .int .u8 ety, .int .u64 ebits, .string (str en), .slice ea eka eec]] (.int .i64 (hgt e : Nat)) (by kernel_rfl) (by kernel_rfl) (by kernel_rfl) (fun W hk => theight_any _ e [.int .u8 eop, .int .u8 ety, .int .u64 ebits, .string (str en), .slice ea eka eec] W (Nat.le_refl _) (by omega) (PE W hk)) ?_
    refine q_run [] 60 ?_
    refine q_val (.agg #[.int .u8 eop, .int .u8 ety, .int .u64 ebits, .string (str en), .slice ea eka eec]) (S := Instr.loadAt 34 (.pointer (some ⟨k5, 0, none⟩))) (by kernel_rfl) (fun W hk => ld_box hb5 (by kernel_rfl) (by kernel_rfl) (hk)) ?_
    refine q_run [] 60 ?_
    refine q_callB (sy_cx _ _) [.agg #[.int .u8 eop, .int .u8 ety, .int .u64 ebits, .string (str en), .slice ea eka eec]] (.int .i64 (hgt e : Nat)) (by kernel_rfl) (by kernel_rfl) (by kernel_rfl) (fun W hk => kheight_any _ e [.int .u8 eop, .int .u8 ety, .int .u64 ebits, .string (str en), .slice ea eka eec] W (Nat.le_refl _) (by omega) (PE W hk)) ?_
    refine q_run [38] 60 ?_
    refine q_set 37 (x := .bool (!(intEq (hgt e : Nat) (hgt e : Nat)))) (.bool false) (by kernel_rfl) (by rw [eq_t rfl]; rfl) ?_
    refine q_run [] 60 ?_
    refine q_val (.agg #[.slice ua uns ucap, .slice ub unm ucap2, .slice ud unt ucap3]) (S := Instr.loadAt 26 (.pointer (some ⟨k7, 0, none⟩))) (by kernel_rfl) (fun W hk => ld_box hb7 (by kernel_rfl) (by kernel_rfl) (hk)) ?_
    refine q_run [] 60 ?_
    refine q_callB (sy_cx _ _) [.agg #[.slice ua uns ucap, .slice ub unm ucap2, .slice ud unt ucap3]] (.int .i64 (tsiz p.threads : Nat)) (by kernel_rfl) (by kernel_rfl) (by kernel_rfl) (fun W hk => tSize_any p [.slice ua uns ucap, .slice ub unm ucap2, .slice ud unt ucap3] W (by omega) (PA W hk)) ?_
    refine q_run [] 60 ?_
    refine q_val (.agg #[.slice pa pns pcap, .slice pb pnm pcap2, .slice pd pnt pcap3]) (S := Instr.loadAt 26 (.pointer (some ⟨k3, 0, none⟩))) (by kernel_rfl) (fun W hk => ld_box hb3 (by kernel_rfl) (by kernel_rfl) (hk)) ?_
    refine q_run [] 60 ?_
    refine q_callB (sy_cx _ _) [.agg #[.slice pa pns pcap, .slice pb pnm pcap2, .slice pd pnt pcap3]] (.int .i64 (tsiz p.threads : Nat)) (by kernel_rfl) (by kernel_rfl) (by kernel_rfl) (fun W hk => rSize_any p [.slice pa pns pcap, .slice pb pnm pcap2, .slice pd pnt pcap3] W (by omega) (PP W hk)) ?_
    refine q_run [45] 60 ?_
    refine q_set 44 (x := .bool (!(intEq (tsiz p.threads : Nat) (tsiz p.threads : Nat)))) (.bool false) (by kernel_rfl) (by rw [eq_t rfl]; rfl) ?_
    refine q_run [] 60 ?_
    refine q_end (by kernel_rfl) ?_
    refine run_ok (sy_cx _ _) 0 [] 60 2 ?_
    refine good_val (.agg #[.slice ua uns ucap, .slice ub unm ucap2, .slice ud unt ucap3]) (S := Instr.loadAt 26 (.pointer (some ⟨k7, 0, none⟩))) (by kernel_rfl) (fun W hk => ld_box hb7 (by kernel_rfl) (by kernel_rfl) (hk)) ?_
    refine run_ok (sy_cx _ _) 0 [] 60 0 ?_
    refine good_callM (sy_cx _ _) [.agg #[.slice ua uns ucap, .slice ub unm ucap2, .slice ud unt ucap3]] (by kernel_rfl) (by kernel_rfl) (by kernel_rfl) (fun W hk => tcopy_any p [.slice ua uns ucap, .slice ub unm ucap2, .slice ud unt ucap3] W (by omega) (PA W hk)) ?_
    rintro wa r w2 B2 hka hcp hba hk2 hB2 hBn2 hB2s
    obtain ⟨ca, ccap, cb, ccap2, cd, ccap3, cxs, cys, czs, cus, rfl, c1, c2, c3, c4, c5, c6, c7, c8, hcm⟩ := hcp
    refine run_ok (sy_cx _ _) 0 [48] 60 0 ?_
    refine good_give 9 (gz + 5) 26 [.slice ca p.shared.length ccap, .slice cb p.mutexes.length ccap2, .slice cd p.threads.length ccap3] (by kernel_rfl) (by kernel_rfl) (fun k9 w3 B3 hk23 hB23 hBk9 hnk9 hB3 hh9 => ?_)
    have hk3 : Keep B0 w0 w3 := hk2.trans (hk23.mono hB2)
    have hB03 : ∀ k, B0 k → B3 k := fun k h => hB23 k (hB2 k h)
    have zz1 := hka.size
    have zz2 := hk23.size
    have hb9 := box_sl hh9 hBk9 (n := 3) rfl
    have hF3 : ∀ k, NewS wa w2 k → B3 k := fun k h => hB23 k (hBn2 k h.1.1 h.1.2)
    have hKF : Keep (NewS wa w2) w2 w3 := hk23.mono fun k h => hBn2 k h.1.1 h.1.2
    have PC3 : ∀ W, Keep B3 w3 W → PgAt (· < W.heap.size) W p [.slice ca p.shared.length ccap, .slice cb p.mutexes.length ccap2, .slice cd p.threads.length ccap3] := fun W hk => by
      have hk' : Keep (NewS wa w2) w2 W := hKF.trans (hk.mono hF3)
      have hF' : ∀ k, NewS wa w2 k → k < W.heap.size := fun k h => Nat.lt_of_lt_of_le h.1.2 hk'.size
      exact ⟨ca, ccap, cxs, cb, ccap2, cys, cd, ccap3, czs, rfl, (c1.keep hk').mono hF', c2, (c3.keep hk').mono hF', c4, (c5.keep hk').mono hF', c6.imp (fun _ _ h => h.keep hk' hF')⟩
    refine run_ok (sy_cx _ _) 0 [] 60 0 ?_
    refine good_val (.agg #[.slice ca p.shared.length ccap, .slice cb p.mutexes.length ccap2, .slice cd p.threads.length ccap3]) (S := Instr.loadAt 26 (.pointer (some ⟨k9, 0, none⟩))) (by kernel_rfl) (fun W hk => ld_box hb9 (by kernel_rfl) (by kernel_rfl) hk) ?_
    refine run_ok (sy_cx _ _) 0 [] 60 0 ?_
    refine good_val (.agg #[.slice pa pns pcap, .slice pb pnm pcap2, .slice pd pnt pcap3]) (S := Instr.loadAt 26 (.pointer (some ⟨k3, 0, none⟩))) (by kernel_rfl) (fun W hk => ld_box hb3 (by kernel_rfl) (by kernel_rfl) (hk3.trans (hk.mono hB03))) ?_
    refine run_ok (sy_cx _ _) 0 [] 60 0 ?_
    refine good_callB (sy_cx _ _) [.agg #[.slice ca p.shared.length ccap, .slice cb p.mutexes.length ccap2, .slice cd p.threads.length ccap3], .agg #[.slice pa pns pcap, .slice pb pnm pcap2, .slice pd pnt pcap3]] (.bool true) (by kernel_rfl) (by kernel_rfl) (by kernel_rfl) (fun W hk => by have := sameProgram_any p p _ [.slice pa pns pcap, .slice pb pnm pcap2, .slice pd pnt pcap3] W (by omega) (PC3 W hk) (PP W (hk3.trans (hk.mono hB03))); rw [sameB_t.2 rfl] at this; exact this) ?_
    refine run_ok (sy_cx _ _) 0 [] 60 0 ?_
    refine good_val (.agg #[.slice ca p.shared.length ccap, .slice cb p.mutexes.length ccap2, .slice cd p.threads.length ccap3]) (S := Instr.loadAt 26 (.pointer (some ⟨k9, 0, none⟩))) (by kernel_rfl) (fun W hk => ld_box hb9 (by kernel_rfl) (by kernel_rfl) hk) ?_
    refine run_ok (sy_cx _ _) 0 [] 60 0 ?_
    refine good_val (.agg #[.slice ua uns ucap, .slice ub unm ucap2, .slice ud unt ucap3]) (S := Instr.loadAt 26 (.pointer (some ⟨k7, 0, none⟩))) (by kernel_rfl) (fun W hk => ld_box hb7 (by kernel_rfl) (by kernel_rfl) (hk3.trans (hk.mono hB03))) ?_
    refine run_ok (sy_cx _ _) 0 [] 60 0 ?_
    refine good_callB (sy_cx _ _) [.agg #[.slice ca p.shared.length ccap, .slice cb p.mutexes.length ccap2, .slice cd p.threads.length ccap3], .agg #[.slice ua uns ucap, .slice ub unm ucap2, .slice ud unt ucap3]] (.bool true) (by kernel_rfl) (by kernel_rfl) (by kernel_rfl) (fun W hk => by have := tsame_any p p _ [.slice ua uns ucap, .slice ub unm ucap2, .slice ud unt ucap3] W (by omega) (PC3 W hk) (PA W (hk3.trans (hk.mono hB03))); rw [sameB_t.2 rfl] at this; exact this) ?_
    refine run_ok (sy_cx _ _) 0 [] 60 2 ?_
    refine good_val (.agg #[.slice ca p.shared.length ccap, .slice cb p.mutexes.length ccap2, .slice cd p.threads.length ccap3]) (S := Instr.loadAt 26 (.pointer (some ⟨k9, 0, none⟩))) (by kernel_rfl) (fun W hk => ld_box hb9 (by kernel_rfl) (by kernel_rfl) hk) ?_
    refine run_ok (sy_cx _ _) 0 [] 60 0 ?_
    have hM : pgB p ≤ 1048576 := by omega
    unfold pgB at hM
    refine good_callW (sy_cx _ _) [.agg #[.slice ca p.shared.length ccap, .slice cb p.mutexes.length ccap2, .slice cd p.threads.length ccap3]] (NewS wa w2) (Pr := fun w r w' => r = .tuple #[]) (by kernel_rfl) (by kernel_rfl) (by kernel_rfl) (by kernel_rfl) hF3
      (fun W hk => by
        have hk' : Keep (NewS wa w2) w2 W := hKF.trans (hk.mono hF3)
        refine (overProgram_any p ca ccap cxs cb ccap2 (cys ++ cus) cd ccap3 czs 1048576 (NewS wa w2) W hcm (by omega) (fun k h => h.2.keep hk' h) (c1.keep hk') (c2.imp fun _ _ h => h.weak) (c7.keep hk') (fun v hv => ?_) (c5.keep hk') (LsAt.weak (μ := thB) (M := 1048576) (fun t c hm h => ThAt.weak t c hm (h.keep hk' fun k h => h)) (by omega) c6)).mono fun r w' ⟨h1, h2⟩ => ⟨_, h1, rfl, h2.keep⟩
        rcases List.mem_append.1 hv with hv | hv
        · exact TxAt.weak (M := 1048576) (by omega) c4 v hv
        · have := c8 v hv
          rw [List.mem_singleton] at this
          exact ⟨_, this, Nat.zero_le _⟩) ?_
    rintro W4 r w4 B4 hk34 rfl _ hk4 hB34 _ hB4
    have hk04 : Keep B0 w0 w4 := hk3.trans (hk4.mono fun k h => ⟨hB03 k h, fun hN => by have := hB0 k h; have := hN.1.1; omega⟩)
    have hB04 : ∀ k, B0 k → B4 k := fun k h => hB34 k (hB03 k h)
    refine run_ok (sy_cx _ _) 0 [] 60 0 ?_
    refine good_val (.agg #[.slice ua uns ucap, .slice ub unm ucap2, .slice ud unt ucap3]) (S := Instr.loadAt 26 (.pointer (some ⟨k7, 0, none⟩))) (by kernel_rfl) (fun W hk => ld_box hb7 (by kernel_rfl) (by kernel_rfl) (hk04.trans (hk.mono hB04))) ?_
    refine run_ok (sy_cx _ _) 0 [] 60 0 ?_
    refine good_val (.agg #[.slice pa pns pcap, .slice pb pnm pcap2, .slice pd pnt pcap3]) (S := Instr.loadAt 26 (.pointer (some ⟨k3, 0, none⟩))) (by kernel_rfl) (fun W hk => ld_box hb3 (by kernel_rfl) (by kernel_rfl) (hk04.trans (hk.mono hB04))) ?_
    refine run_ok (sy_cx _ _) 0 [] 60 0 ?_
    refine good_callB (sy_cx _ _) [.agg #[.slice ua uns ucap, .slice ub unm ucap2, .slice ud unt ucap3], .agg #[.slice pa pns pcap, .slice pb pnm pcap2, .slice pd pnt pcap3]] (.bool true) (by kernel_rfl) (by kernel_rfl) (by kernel_rfl) (fun W hk => by have := sameProgram_any p p [.slice ua uns ucap, .slice ub unm ucap2, .slice ud unt ucap3] [.slice pa pns pcap, .slice pb pnm pcap2, .slice pd pnt pcap3] W (by omega) (PA W (hk04.trans (hk.mono hB04))) (PP W (hk04.trans (hk.mono hB04))); rw [sameB_t.2 rfl] at this; exact this) ?_
    refine run_ok (sy_cx _ _) 0 [] 60 0 ?_
    refine good_val (.agg #[.slice va vns vcap, .slice vb vnm vcap2, .slice vd vnt vcap3]) (S := Instr.loadAt 26 (.pointer (some ⟨k8, 0, none⟩))) (by kernel_rfl) (fun W hk => ld_box hb8 (by kernel_rfl) (by kernel_rfl) (hk04.trans (hk.mono hB04))) ?_
    refine run_ok (sy_cx _ _) 0 [] 60 0 ?_
    refine good_val (.agg #[.slice qa qns qcap, .slice qb qnm qcap2, .slice qd qnt qcap3]) (S := Instr.loadAt 26 (.pointer (some ⟨k4, 0, none⟩))) (by kernel_rfl) (fun W hk => ld_box hb4 (by kernel_rfl) (by kernel_rfl) (hk04.trans (hk.mono hB04))) ?_
    refine run_ok (sy_cx _ _) 0 [] 60 0 ?_
    refine good_callB (sy_cx _ _) [.agg #[.slice va vns vcap, .slice vb vnm vcap2, .slice vd vnt vcap3], .agg #[.slice qa qns qcap, .slice qb qnm qcap2, .slice qd qnt qcap3]] (.bool true) (by kernel_rfl) (by kernel_rfl) (by kernel_rfl) (fun W hk => by have := sameProgram_any q q [.slice va vns vcap, .slice vb vnm vcap2, .slice vd vnt vcap3] [.slice qa qns qcap, .slice qb qnm qcap2, .slice qd qnt qcap3] W (by omega) (PB W (hk04.trans (hk.mono hB04))) (PQ W (hk04.trans (hk.mono hB04))); rw [sameB_t.2 rfl] at this; exact this) ?_
    refine run_ok (sy_cx _ _) 0 [] 60 0 ?_
    refine good_callB (sy_cx _ _) [] (.bool true) (by kernel_rfl) (by kernel_rfl) (by kernel_rfl) (fun W hk => awake05_any W (ht.below (hk00.trans ((hk04.trans (hk.mono hB04)).mono hB00)).below)) ?_
    refine run_ok (sy_cx _ _) 0 [] 60 0 ?_
    refine good_endV (.bool true) (by kernel_rfl) (fun W hk => ⟨rfl, (hk00.trans ((hk04.trans (hk.mono hB04)).mono hB00)).below⟩)
end Go.Proofs.YtiacalnkmnckjaaGreatDoor
end

section
/- What a law behind a door imports for its card: the kit's laws on laid variables and cards, the given rows, cards and ties. No statement of its own. -/
namespace Go.Proofs.YtiacalnkmnckjaaGreatDoor
end Go.Proofs.YtiacalnkmnckjaaGreatDoor
end

section
/- What a law of the second form behind a door imports: the kit's laws on laid variables, conditions and cards, the given rows, cards and ties. No statement of its own. -/
namespace Go.Proofs.YtiacalnkmnckjaaGreatDoor
end Go.Proofs.YtiacalnkmnckjaaGreatDoor
end
