/- What Print answers, the program's. Conditions: those in the theorem. -/
import Derived.Test.YtldkcfhigcmoaaaDoorProtoT
import Derived.Test.YtldkcfhigcmoaaaDoorProtoR
import Derived.Deep.CutBlock
import Derived.Deep.DeepCutAuto
namespace Go.Proofs.YtldkcfhigcmoaaaDoor
open Go.RowKit Go.As
set_option linter.unusedVariables false

def sameB (p : PR) (k : Int) (tok : List UInt8) (id sp wk ln : Int) : Bool := p.kind == k && (p.tok == tok && (p.id == id && (p.sp == sp && (p.wk == wk && p.ln == ln))))
def ptOk (k : Int) (tok : List UInt8) (id sp wk ln : Int) : Bool := decide (tok.length ≤ 64) && (decide ((prE (lineL k tok id sp wk ln)).err = 0) && sameB (prE (lineL k tok id sp wk ln)) k tok id sp wk ln)
def ptL (k : Int) (tok : List UInt8) (id sp wk ln : Int) : List UInt8 := if ptOk k tok id sp wk ln = true then lineL k tok id sp wk ln else []
def ptF (k : Int) (tok : List UInt8) (id sp wk ln : Int) : Int := if ptOk k tok id sp wk ln = true then 0 else 2
theorem lineL_len (k : Int) (tok : List UInt8) (id sp wk ln : Int) (ht : tok.length ≤ 64) (hid : I64 id) (hsp : I64 sp) (hwk : I64 wk) (hln : I64 ln) : (lineL k tok id sp wk ln).length ≤ 200 := by
  have h1 := hexL_len tok
  have h2 := itoa_len hid.1 hid.2
  have h3 := sub_len sp wk ln hsp hwk hln
  unfold lineL
  repeat' split
  all_goals first | omega | (simp only [List.length_append, List.length_cons, List.length_nil]; omega) | simp
set_option maxRecDepth 100000 in
set_option maxHeartbeats 6400000 in
theorem oprint_any (k id sp wk ln : Int) (a : Option Addr) (n c : Nat) (tok : List UInt8) (w : World) (hA : Sl w 1 a n (byt tok)) (hid : I64 id) (hsp : I64 sp) (hwk : I64 wk) (hln : I64 ln) (ht : Tab w) :
    Calls Tryd.prog 52 #[.agg (rqC k (.slice a n c) id sp wk ln)] w fun e w' => e = .returned (.tuple #[.string (str (ptL k tok id sp wk ln)), .int .i64 (ptF k tok id sp wk ln)]) ∧ Below w.heap.size w w' := by
  have htl : tok.length = n := by have := hA.len1; simpa [byt] using this
  by_cases hn : 64 < n
  · have hni : (64 : Int) < n := by omega
    have HK := Lib.hid (show ptL k tok id sp wk ln = [] ∧ ptF k tok id sp wk ln = 2 from by
      have : ptOk k tok id sp wk ln = false := by unfold ptOk; rw [decide_eq_false (by omega)]; rfl
      unfold ptL ptF; rw [this]; exact ⟨rfl, rfl⟩)
    clear htl hA ht
    unfold rqC
    go_enter Tryd.func52, Tryd.ntmps52
    go_wp2_with fail
    go_ret2
    rw [HK.out.1, HK.out.2]
    exact ⟨rfl, below_alloc (Below.refl _ _) _⟩
  have hni : ¬ (64 : Int) < n := by omega
  have hB := (Below.refl w.heap.size w).alloc (Nat.le_refl _) (.cells (rqC k (.slice a n c) id sp wk ln) 69)
  have HT := Lib.hid (ht.below hB)
  have HS := Lib.hid (hA.below hB)
  have HB := Lib.hid hB
  have HR := Lib.hid (Blk.new w 69 (rqC k (.slice a n c) id sp wk ln))
  have HN := Lib.hid (show n ≤ 64 ∧ tok.length = n from ⟨by omega, htl⟩)
  obtain ⟨L, hL⟩ : ∃ L, L = lineL k tok id sp wk ln := ⟨_, rfl⟩
  have hll := lineL_len k tok id sp wk ln (by omega) hid hsp hwk hln
  obtain ⟨P, hP⟩ : ∃ P, P = prE L := ⟨_, rfl⟩
  have HLP := Lib.hid (show L = lineL k tok id sp wk ln ∧ P = prE L ∧ L.length ≤ 1048576 from ⟨hL, hP, by rw [hL]; omega⟩)
  obtain ⟨pk, pt, pi, ps, pw, pl, pe⟩ := P
  have HK := Lib.hid (show ptOk k tok id sp wk ln = (decide (pe = 0) && sameB ⟨pk, pt, pi, ps, pw, pl, pe⟩ k tok id sp wk ln) from by
    unfold ptOk; rw [decide_eq_true (show tok.length ≤ 64 by omega), ← hL, ← hP]; rfl)
  have HI := Lib.hid (And.intro hid (And.intro hsp (And.intro hwk hln)))
  clear htl hA ht hB hL hP hll hn hid hsp hwk hln
  unfold rqC at *
  obtain ⟨k1, hk1⟩ : ∃ q, q = w.heap.size := ⟨_, rfl⟩
  go_enter Tryd.func52, Tryd.ntmps52
  go_upto_region 5 with (first
    | (go_at_call 74
       go_must (refine (oline_any k id sp wk ln a n c tok _ HS.out HN.out.1 HI.out.1 HI.out.2.1 HI.out.2.2.1 HI.out.2.2.2 HT.out).mono ?_
                rw [← HLP.out.1]
                rintro e' w1 ⟨rfl, hb⟩
                have H1 := Lib.hid hb
                clear hb))
    | (go_at_call 50
       go_must (refine (oparse_any L HLP.out.2.2 _).mono ?_
                rw [← HLP.out.2.1]
                rintro e' w2 ⟨tv, rfl, ⟨a2, n2, c2, rfl, hs2⟩, hb⟩
                unfold rqC
                have H2 := Lib.hid (And.intro hb hs2)
                clear hb hs2)))
  have b2 := H2.out.1
  have r1 : Blk (w2.alloc (.cells #[.int .i64 pk, .slice a2 n2 c2, .int .i64 pi, .int .i64 ps, .int .i64 pw, .int .i64 pl] 69)) k1 69 (rqC k (.slice a n c) id sp wk ln) := ((Blk.belowS (Blk.belowS (by rw [hk1]; exact HR.out) H1.out) b2)).alloc (.cells #[.int .i64 pk, .slice a2 n2 c2, .int .i64 pi, .int .i64 ps, .int .i64 pw, .int .i64 pl] 69)
  have r5 : Blk (w2.alloc (.cells #[.int .i64 pk, .slice a2 n2 c2, .int .i64 pi, .int .i64 ps, .int .i64 pw, .int .i64 pl] 69)) w2.heap.size 69 (rqC pk (.slice a2 n2 c2) pi ps pw pl) := Blk.new w2 69 _
  have s1 : Sl (w2.alloc (.cells #[.int .i64 pk, .slice a2 n2 c2, .int .i64 pi, .int .i64 ps, .int .i64 pw, .int .i64 pl] 69)) 1 a n (byt tok) := ((HS.out.below H1.out).below b2).below (below_alloc (Below.refl _ _) (.cells #[.int .i64 pk, .slice a2 n2 c2, .int .i64 pi, .int .i64 ps, .int .i64 pw, .int .i64 pl] 69))
  have s2 : Sl (w2.alloc (.cells #[.int .i64 pk, .slice a2 n2 c2, .int .i64 pi, .int .i64 ps, .int .i64 pw, .int .i64 pl] 69)) 1 a2 n2 (byt pt) := H2.out.2.below (below_alloc (Below.refl _ _) (.cells #[.int .i64 pk, .slice a2 n2 c2, .int .i64 pi, .int .i64 ps, .int .i64 pw, .int .i64 pl] 69))
  have hb5 := below_alloc (below_then (below_then HB.out H1.out) b2) (.cells #[.int .i64 pk, .slice a2 n2 c2, .int .i64 pi, .int .i64 ps, .int .i64 pw, .int .i64 pl] 69)
  rw [← hk1]
  have HB5 := Lib.hid hb5
  clear hk1 b2 hb5 H1 H2 HS HT HR HB
  generalize w2.heap.size = k5 at *
  generalize (w2.alloc (.cells #[.int .i64 pk, .slice a2 n2 c2, .int .i64 pi, .int .i64 ps, .int .i64 pw, .int .i64 pl] 69)) = W5 at *
  go_cut [7] (fun sv wx => sv = .bool (sameB ⟨pk, pt, pi, ps, pw, pl, pe⟩ k tok id sp wk ln) ∧ wx = W5)
  case first =>
    obtain ⟨x0, x1, x2, x3, x4, x5⟩ := Blk.rq r1
    obtain ⟨y0, y1, y2, y3, y4, y5⟩ := Blk.rq r5
    have g1 := run_strB (P := Tryd.prog) 23 9 5 a n c tok s1 Tryd.underlying23 Tryd.underlying5 Tryd.underlying9
    have g2 := run_strB (P := Tryd.prog) 23 9 5 a2 n2 c2 pt s2 Tryd.underlying23 Tryd.underlying5 Tryd.underlying9
    clear r1 r5 s1 s2
    by_cases q0 : pk = k
    case neg =>
      have t0 : (pk == k) = false := by simpa using q0
      have HM := Lib.hid (show sameB ⟨pk, pt, pi, ps, pw, pl, pe⟩ k tok id sp wk ln = false from by unfold sameB; simp only; rw [t0]; simp)
      clear q0
      go_wp2_with fail
      go_meet
      case rel => exact ⟨by rw [HM.out], rfl⟩
    have t0 : (pk == k) = true := by simpa using q0
    clear q0
    by_cases q1 : pt = tok
    case neg =>
      have t1 : (pt == tok) = false := by simpa using q1
      have HM := Lib.hid (show sameB ⟨pk, pt, pi, ps, pw, pl, pe⟩ k tok id sp wk ln = false from by unfold sameB; simp only; rw [t1]; simp)
      clear q1
      go_wp2_with fail
      go_meet
      case rel => exact ⟨by rw [HM.out], rfl⟩
    have t1 : (pt == tok) = true := by simpa using q1
    clear q1
    by_cases q2 : pi = id
    case neg =>
      have t2 : (pi == id) = false := by simpa using q2
      have HM := Lib.hid (show sameB ⟨pk, pt, pi, ps, pw, pl, pe⟩ k tok id sp wk ln = false from by unfold sameB; simp only; rw [t2]; simp)
      clear q2
      go_wp2_with fail
      go_meet
      case rel => exact ⟨by rw [HM.out], rfl⟩
    have t2 : (pi == id) = true := by simpa using q2
    clear q2
    by_cases q3 : ps = sp
    case neg =>
      have t3 : (ps == sp) = false := by simpa using q3
      have HM := Lib.hid (show sameB ⟨pk, pt, pi, ps, pw, pl, pe⟩ k tok id sp wk ln = false from by unfold sameB; simp only; rw [t3]; simp)
      clear q3
      go_wp2_with fail
      go_meet
      case rel => exact ⟨by rw [HM.out], rfl⟩
    have t3 : (ps == sp) = true := by simpa using q3
    clear q3
    by_cases q4 : pw = wk
    case neg =>
      have t4 : (pw == wk) = false := by simpa using q4
      have HM := Lib.hid (show sameB ⟨pk, pt, pi, ps, pw, pl, pe⟩ k tok id sp wk ln = false from by unfold sameB; simp only; rw [t4]; simp)
      clear q4
      go_wp2_with fail
      go_meet
      case rel => exact ⟨by rw [HM.out], rfl⟩
    have t4 : (pw == wk) = true := by simpa using q4
    clear q4
    by_cases q5 : pl = ln
    case neg =>
      have t5 : (pl == ln) = false := by simpa using q5
      have HM := Lib.hid (show sameB ⟨pk, pt, pi, ps, pw, pl, pe⟩ k tok id sp wk ln = false from by unfold sameB; simp only; rw [t5]; simp)
      clear q5
      go_wp2_with fail
      go_meet
      case rel => exact ⟨by rw [HM.out], rfl⟩
    have t5 : (pl == ln) = true := by simpa using q5
    clear q5
    have HM := Lib.hid (show sameB ⟨pk, pt, pi, ps, pw, pl, pe⟩ k tok id sp wk ln = true from by unfold sameB; simp only; rw [t0, t1, t2, t3, t4, t5]; rfl)
    go_wp2_with fail
    go_meet
    case rel => exact ⟨by rw [HM.out], rfl⟩
  case rest =>
    obtain ⟨rfl, hwx⟩ := hcut
    have hwx' := hwx.symm
    subst hwx'
    clear hwx r1 r5 s1 s2
    by_cases he : pe = 0
    · rcases hs : sameB ⟨pk, pt, pi, ps, pw, pl, pe⟩ k tok id sp wk ln with _ | _
      · have HF := Lib.hid (show ptL k tok id sp wk ln = [] ∧ ptF k tok id sp wk ln = 2 from by
          have : ptOk k tok id sp wk ln = false := by rw [HK.out, hs]; simp
          unfold ptL ptF; rw [this]; exact ⟨rfl, rfl⟩)
        have heb : (pe != 0) = false := by simpa using he
        clear he hs
        go_wp2_with fail
        go_ret2
        rw [HF.out.1, HF.out.2]
        exact ⟨rfl, HB5.out⟩
      · have HF := Lib.hid (show ptL k tok id sp wk ln = L ∧ ptF k tok id sp wk ln = 0 from by
          have : ptOk k tok id sp wk ln = true := by rw [HK.out, hs, decide_eq_true he]; rfl
          unfold ptL ptF; rw [this, HLP.out.1]; exact ⟨rfl, rfl⟩)
        have heb : (pe != 0) = false := by simpa using he
        clear he hs
        go_wp2_with fail
        go_ret2
        rw [HF.out.1, HF.out.2]
        exact ⟨rfl, HB5.out⟩
    · have HF := Lib.hid (show ptL k tok id sp wk ln = [] ∧ ptF k tok id sp wk ln = 2 from by
        have : ptOk k tok id sp wk ln = false := by rw [HK.out, decide_eq_false he]; rfl
        unfold ptL ptF; rw [this]; exact ⟨rfl, rfl⟩)
      have heb : (pe != 0) = true := by simpa using he
      clear he
      go_wp2_with fail
      go_ret2
      rw [HF.out.1, HF.out.2]
      exact ⟨rfl, HB5.out⟩
end Go.Proofs.YtldkcfhigcmoaaaDoor
