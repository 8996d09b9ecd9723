/- What Lex of lex answers, on any text. No conditions but those in each theorem. -/
import Derived.Test.YtiacalnkmnckjaaLxF
namespace Go.Proofs.Ytiacalnkmnckjaa
open Go.RowKit Go.As
set_option linter.unusedVariables false
set_option linter.unusedSimpArgs false

/-- the tokens from a place on, or the first fault -/
def lexF (s : List UInt8) : Nat → Nat → Except (Int × Nat) (List (Nat × TR))
  | 0, _ => .ok []
  | f + 1, k => if k < s.length then
      (if (tokR (s.drop k)).err = 0 then (match lexF s f (nxN s (k + (tokR (s.drop k)).len)) with
        | .ok l => .ok ((k, tokR (s.drop k)) :: l)
        | .error e => .error e)
      else .error ((tokR (s.drop k)).err, k + (tokR (s.drop k)).off))
    else .ok []
def lexS (s : List UInt8) : Except (Int × Nat) (List (Nat × TR)) := if 16384 < s.length then .error (3, 16384) else lexF s (s.length + 1) (nxN s 0)
def tkRow (s : List UInt8) (p : Nat × TR) : List Value := (tkC p.2.kind ((s.drop p.1).take p.2.len) p.1 p.2.ty p.2.va).toList
def tkCells (s : List UInt8) (l : List (Nat × TR)) : List Value := l.flatMap (tkRow s)
theorem tkCells_len (s : List UInt8) : ∀ (l : List (Nat × TR)), (tkCells s l).length = l.length * 5
  | [] => rfl
  | p :: l => by
    have := tkCells_len s l
    unfold tkCells at *
    rw [List.flatMap_cons, List.length_append, this, List.length_cons]
    show 5 + _ = _
    omega
/-- a token has at least one byte, and no more than there are -/
theorem tok_len {r : List UInt8} (hr : r ≠ []) (h : (tokR r).err = 0) : 0 < (tokR r).len ∧ (tokR r).len ≤ r.length := by
  cases r with
  | nil => exact absurd rfl hr
  | cons c t =>
    show 0 < (tokC (c.toNat : Int) (c :: t)).len ∧ _
    have h : (tokC (c.toNat : Int) (c :: t)).err = 0 := h
    show 0 < (tokC (c.toNat : Int) (c :: t)).len ∧ (tokC (c.toNat : Int) (c :: t)).len ≤ _
    unfold tokC at h ⊢
    split
    · rename_i hle
      rw [if_pos hle] at h
      split
      · rename_i h24; rw [if_pos h24] at h; cases h
      · show 0 < nmRun (c :: t) ∧ nmRun (c :: t) ≤ _
        unfold nmRun
        refine ⟨?_, (List.takeWhile_prefix _).length_le⟩
        rw [List.takeWhile_cons, if_pos (show nmB (c.toNat : Int) = true by unfold nmB; rw [hle]; rfl)]
        simp
    · rename_i hle
      rw [if_neg hle] at h
      split
      · rename_i hdi
        rw [if_pos hdi] at h
        split
        · rename_i hok
          rw [if_pos hok] at h
          split
          · rename_i hst; rw [if_pos hst] at h; cases h
          · refine ⟨?_, nmLen_le _⟩
            have : 0 < dgN (c :: t) := by
              unfold dgN
              rw [List.takeWhile_cons, if_pos hdi]
              simp
            show 0 < nmLen (c :: t)
            unfold nmLen
            split <;> omega
        · rename_i hok; rw [if_neg hok] at h; cases h
      · rename_i hdi
        rw [if_neg hdi] at h
        split
        · rename_i hs; rw [if_pos hs] at h; cases h
        · rename_i hs
          refine ⟨Nat.pos_of_ne_zero hs, ?_⟩
          show signN (c :: t) ≤ _
          have h1 := signN_le (c :: t)
          have h2 : signN (c :: t) = 2 → 2 ≤ (c :: t).length := signN_two
          simp only [List.length_cons] at *
          omega
def LexPost (s : List UInt8) (w : World) (e : Ending) (w' : World) : Prop :=
  Below w.heap.size w w' ∧ match lexS s with
    | .error q => e = .returned (.tuple #[.slice none 0 0, .agg (fC q.1 (q.2 : Nat))])
    | .ok l => ∃ x, e = .returned (.tuple #[x, .agg (fC 0 0)]) ∧ w'.ownsRow w.heap.size 33 5 x l.length (tkCells s l)
structure LxI where
  f : Nat
  k : Nat
  pre : List (Nat × TR)
  X : Sy.AV
  ob : Option Sy.Blk
def LxInv (s : List UInt8) (i : LxI) : Prop := s.length < i.f + i.k ∧ i.k ≤ s.length ∧ i.pre.length ≤ i.k ∧ Sy.RowAt 33 5 3 i.pre.length (tkCells s i.pre) i.X i.ob ∧
  lexS s = match lexF s i.f i.k with
    | .ok l => .ok (i.pre ++ l)
    | .error q => .error q
open Go.Sy in
set_option maxRecDepth 100000 in
theorem lex_any (s : List UInt8) (w : World) : Calls Try.prog 5 #[.string (str s)] w (LexPost s w) := by
  refine Sy.enter (vs := [.string (str s)]) sy_fine Try.func5 rfl (fun γ => LR.vs _) rfl (fun γ0 hγ0 => ?_)
  refine run_ok (sy_cx _ _) 0 [] 60 0 ?_
  by_cases hlong : 16384 < s.length
  · refine good_take true (b := intLt 16384 ((str s).size : Nat)) (by kernel_rfl) (by rw [str_size]; exact lt_t (by omega)) ?_
    refine run_ok (sy_cx _ _) 0 [] 60 0 ?_
    refine good_endV (.tuple #[.slice none 0 0, .agg (fC 3 (16384 : Nat))]) (by kernel_rfl) (fun W hk => ⟨hk.below, ?_⟩)
    unfold lexS
    rw [if_pos hlong]
  have hs : s.length ≤ 1048576 := by omega
  refine good_take false (b := intLt 16384 ((str s).size : Nat)) (by kernel_rfl) (by rw [str_size]; exact lt_f (by omega)) ?_
  refine run_ok (sy_cx _ _) 0 [] 60 0 ?_
  refine good_callP (sy_cx _ _) [.string (str s), .int .i64 0] (.int .i64 (nxN s 0 : Nat)) (by kernel_rfl) (by kernel_rfl) (by kernel_rfl) (fun w _ => next_any s 0 hs (Nat.zero_le _) w) ?_
  refine run_ok (sy_cx _ _) 0 [] 60 0 ?_
  refine good_toLp ?_
  refine good_loopI (fun i : LxI => i.f) (LxInv s) (fun i => ⟨mkT [(0, .v (.string (str s))), (3, .ptr 2 0), (4, i.X), (5, .v (.int .i64 (i.k : Int)))], mkH [(2, some (.cells 25 true true true 2 (putL .leaf 0 [.v (.int .i64 0), .v (.int .i64 0)]))), (3, i.ob)], 4, []⟩)
    ⟨s.length + 1, nxN s 0, [], .v (.slice none 0 0), none⟩ ⟨by show _ < s.length + 1 + _; omega, (nxN_le (Nat.zero_le _)).2, Nat.zero_le _, RowAt.nil _ _ _, by
      unfold lexS
      rw [if_neg hlong]
      cases lexF s (s.length + 1) (nxN s 0) <;> rfl⟩ (by kernel_rfl)
    (fun h => good_sub _ [(0, .v (.string (str s))), (3, .ptr 2 0), (4, .v (.slice none 0 0)), (5, .v (.int .i64 (nxN s 0 : Nat)))] [(2, some (.cells 25 true true true 2 (putL .leaf 0 [.v (.int .i64 0), .v (.int .i64 0)]))), (3, none)] 4 rfl (by kernel_rfl) (by kernel_rfl) (by kernel_rfl) (by kernel_rfl) (by kernel_rfl) (fun b hb => hγ0 b (Nat.le_trans (of_decide_eq_true (by kernel_rfl)) hb)) (by kernel_rfl) h) ?_
  rintro ⟨f, k, pre, X, ob⟩ ⟨i1, i2, i3, i4, i5⟩ ih
  simp only at i1 i2 i3 i4 i5
  refine run_ok (sy_cx _ _) 0 [] 60 0 ?_
  by_cases hlt : k < s.length
  · refine good_take true (b := intLt (k : Int) ((str s).size : Nat)) (by kernel_rfl) (by rw [str_size]; exact lt_t (by omega)) ?_
    cases f with
    | zero => omega
    | succ f =>
      obtain ⟨r, hr⟩ : ∃ r, r = s.drop k := ⟨_, rfl⟩
      obtain ⟨R, hR⟩ : ∃ R, R = tokR r := ⟨_, rfl⟩
      have hrl : r.length = s.length - k := by rw [hr, List.length_drop]
      have htk := fun W => token_any s k hs hlt W
      rw [← hr, ← hR] at htk
      refine run_ok (sy_cx _ _) 0 [] 60 0 ?_
      by_cases herr : R.err = 0
      · have hlen := tok_len (r := r) (fun e => by rw [e] at hrl; simp at hrl; omega) (by rw [← hR]; exact herr)
        rw [← hR] at hlen
        obtain ⟨T, hT⟩ : ∃ T, T = r.take R.len := ⟨_, rfl⟩
        have hTl : T.length = R.len := by rw [hT, List.length_take]; omega
        have e1 : tCells R r k = tkC R.kind T k R.ty R.va := by unfold tCells; rw [if_pos herr, ← hT]
        have e2 : fCells R k = fC 0 0 := by unfold fCells; rw [if_pos herr]
        rw [e1, e2] at htk
        obtain ⟨k', hk'⟩ : ∃ k', k' = k + R.len := ⟨_, rfl⟩
        have hnx := nxN_le (s := s) (k := k') (by omega)
        refine good_callB (sy_cx _ _) [.string (str s), .int .i64 (k : Int)] (.tuple #[.agg (tkC R.kind T k R.ty R.va), .agg (fC 0 0)]) (by kernel_rfl) (by kernel_rfl) (by kernel_rfl) (fun w _ => htk w) ?_
        refine run_ok (sy_cx _ _) 0 [31] 60 1 ?_
        refine good_app (t := 22) (e := 33) (.slg 6 0 1 5) 5 48 3 pre.length 0 (tkCells s pre) X ob [.int .i64 R.kind, .string (str T), .int .i64 (k : Int), .int .u8 R.ty, .int .u64 R.va] [4, 28] (by kernel_rfl) (by kernel_rfl) (by kernel_rfl) (by kernel_rfl) i4 (by kernel_rfl) (by kernel_rfl) (by kernel_rfl)
          (by unfold maxLen; omega) (by omega) (hγ0 3 (of_decide_eq_true (by kernel_rfl))) (by kernel_rfl) (by kernel_rfl) (by kernel_rfl) (by kernel_rfl) (by kernel_rfl) (fun X' ob' hrow => ?_)
        refine run_ok (sy_cx _ _) 0 [] 60 0 ?_
        refine good_set 37 (x := .int .i64 (wrapF .i64 ((k : Int) + ((str T).size : Nat)))) (.int .i64 (k' : Int)) (by kernel_rfl) (by rw [str_size, wr64 (by omega) (by omega)]; congr 1; omega) ?_
        refine good_callP (sy_cx _ _) [.string (str s), .int .i64 (k' : Int)] (.int .i64 (nxN s k' : Nat)) (by kernel_rfl) (by kernel_rfl) (by kernel_rfl) (fun w _ => next_any s k' hs (by omega) w) ?_
        refine run_ok (sy_cx _ _) 0 [] 60 0 ?_
        have hcell : tkCells s (pre ++ [(k, R)]) = tkCells s pre ++ [.int .i64 R.kind, .string (str T), .int .i64 (k : Int), .int .u8 R.ty, .int .u64 R.va] := by
          unfold tkCells
          rw [List.flatMap_append, List.flatMap_cons, List.flatMap_nil, List.append_nil]
          show _ ++ tkRow s (k, R) = _
          unfold tkRow
          rw [← hr, ← hT]
          rfl
        have hI : LxInv s ⟨f, nxN s k', pre ++ [(k, R)], X', ob'⟩ := by
          refine ⟨by show s.length < f + nxN s k'; omega, hnx.2, by show (pre ++ [(k, R)]).length ≤ nxN s k'; rw [List.length_append, List.length_singleton]; omega, by
            show RowAt _ 5 3 (pre ++ [(k, R)]).length (tkCells s (pre ++ [(k, R)])) X' ob'
            rw [hcell, List.length_append, List.length_singleton]
            exact hrow, ?_⟩
          show lexS s = match lexF s f (nxN s k') with
            | .ok l => .ok ((pre ++ [(k, R)]) ++ l)
            | .error q => .error q
          rw [i5]
          rw [show lexF s (f + 1) k = (match lexF s f (nxN s k') with
            | .ok l => .ok ((k, R) :: l)
            | .error e => .error e) by
            conv => lhs; unfold lexF
            rw [if_pos hlt, ← hr, ← hR, if_pos herr, ← hk']]
          cases lexF s f (nxN s k') <;> simp
        exact good_sub _ [(0, .v (.string (str s))), (3, .ptr 2 0), (4, X'), (5, .v (.int .i64 (nxN s k' : Nat)))] [(2, some (.cells 25 true true true 2 (putL .leaf 0 [.v (.int .i64 0), .v (.int .i64 0)]))), (3, ob')] 4 (by kernel_rfl) (by kernel_rfl) (by kernel_rfl)
          (by rcases hrow.2 with ⟨h, _⟩ | ⟨h, _⟩ <;> rw [h] <;> kernel_rfl) (by kernel_rfl) (by rcases hrow.2 with ⟨_, h, _⟩ | ⟨_, h⟩ <;> rw [h] <;> kernel_rfl) (fun b hb => hγ0 b (Nat.le_trans (of_decide_eq_true (by kernel_rfl)) hb)) (by kernel_rfl) (ih ⟨f, nxN s k', pre ++ [(k, R)], X', ob'⟩ hI (by show f < f + 1; omega))
      · have e1 : tCells R r k = tkC 0 [] 0 0 0 := by unfold tCells; rw [if_neg herr]
        have e2 : fCells R k = fC R.err ((k + R.off : Nat) : Int) := by unfold fCells; rw [if_neg herr]
        rw [e1, e2] at htk
        refine good_callB (sy_cx _ _) [.string (str s), .int .i64 (k : Int)] (.tuple #[.agg (tkC 0 [] 0 0 0), .agg (fC R.err ((k + R.off : Nat) : Int))]) (by kernel_rfl) (by kernel_rfl) (by kernel_rfl) (fun w _ => htk w) ?_
        refine run_ok (sy_cx _ _) 0 [] 60 0 ?_
        refine good_take true (b := not (intEq R.err 0)) (by kernel_rfl) (by rw [eq_f herr]; rfl) ?_
        refine run_ok (sy_cx _ _) 0 [] 60 0 ?_
        refine good_endV (.tuple #[.slice none 0 0, .agg (fC R.err ((k + R.off : Nat) : Int))]) (by kernel_rfl) (fun W hk => ⟨hk.below, ?_⟩)
        have hl : lexS s = .error (R.err, k + R.off) := by
          rw [i5]
          unfold lexF
          rw [if_pos hlt, ← hr, ← hR, if_neg herr]
        rw [hl]
  · refine good_take false (b := intLt (k : Int) ((str s).size : Nat)) (by kernel_rfl) (by rw [str_size]; exact lt_f (by omega)) ?_
    refine run_ok (sy_cx _ _) 0 [] 60 0 ?_
    refine good_end (av := .tup [X, .agg [.v (.int .i64 0), .v (.int .i64 0)]]) (by kernel_rfl) (fun γ W v _ hv hH hk => ⟨hk.below, ?_⟩)
    have hl : lexS s = .ok pre := by
      rw [i5]
      cases f with
      | zero => unfold lexF; simp
      | succ f => unfold lexF; rw [if_neg hlt]; simp
    rw [hl]
    obtain ⟨x, y, rfl, hx, hy⟩ := VR_tup2 hv
    have hy' := close_eq (y := .agg (fC 0 0)) rfl hy
    subst hy'
    exact ⟨x, rfl, (row_own (base := w.heap.size) i4 (by kernel_rfl) hH hx (fun j hj => Nat.le_of_not_lt hj)).1⟩
end Go.Proofs.Ytiacalnkmnckjaa
