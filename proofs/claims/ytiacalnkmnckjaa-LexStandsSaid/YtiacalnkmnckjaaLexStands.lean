/- The law LexStands: tokens stand where they say, and joined by blanks they are the same. No conditions but the law's own. -/
import Derived.Test.YtiacalnkmnckjaaLxP
import Derived.Test.YtiacalnkmnckjaaFrame
namespace Go.Proofs.Ytiacalnkmnckjaa
open Go.RowKit Go.As
set_option linter.unusedVariables false
set_option linter.unusedSimpArgs false

theorem _root_.Go.Sy.VR_v_eq' {γ : Sy.Gm} {x y : Value} (h : Sy.VR γ (.v x) y) : y = x := by
  cases h
  rfl
theorem neq_fault (x y : Operand) (a b : Int) (w : World) :
    ((do eqGuard .neq 25 x y (.agg #[.int .i64 a, .int .i64 b]) (.agg #[.int .i64 0, .int .i64 0]); binOp .neq 25 (.agg #[.int .i64 a, .int .i64 b]) (.agg #[.int .i64 0, .int .i64 0])) : Sem Value).run Try.prog w = .ok (.bool (!(decide ((a, b) = (0, 0))))) w := by
  have hg := fun xs ys => run_eqGuard_agg (P := Try.prog) w .neq 25 x y xs ys (by kernel_rfl)
  rw [Sem.run_bind, hg]
  simp only [Result.andThen_ok]
  have h0 : Try.prog.underlying 25 = some (.struct (Try.prog.fieldsOf 25)) := by rw [Program.fieldsOf, Try.underlying25]
  rw [run_neq_struct, run_equalIn_agg w 9999 _ _ _ h0 (by kernel_rfl)]
  have h1 := run_equalIn_int (P := Try.prog) w 9998 3 .i64 .i64 a 0 Try.underlying3
  have h2 := run_equalIn_int (P := Try.prog) w 9998 3 .i64 .i64 b 0 Try.underlying3
  have h3 := run_equalIn_int (P := Try.prog) w 9998 23 .i64 .i64 a 0 Try.underlying23
  rw [Program.fieldsOf, Try.underlying25]
  go_simp
  by_cases ha : a = 0 <;> by_cases hb : b = 0 <;> simp [ha, hb]
theorem neq_val (x y : Operand) (a b : Int) (w : World) :
    ((do eqGuard .neq 31 x y (.agg #[.int .u8 a, .int .u64 b]) (.agg #[.int .u8 a, .int .u64 b]); binOp .neq 31 (.agg #[.int .u8 a, .int .u64 b]) (.agg #[.int .u8 a, .int .u64 b])) : Sem Value).run Try.prog w = .ok (.bool false) w := by
  have hg := fun xs ys => run_eqGuard_agg (P := Try.prog) w .neq 31 x y xs ys (by kernel_rfl)
  rw [Sem.run_bind, hg]
  simp only [Result.andThen_ok]
  have h0 : Try.prog.underlying 31 = some (.struct (Try.prog.fieldsOf 31)) := by rw [Program.fieldsOf, Try.underlying31]
  rw [run_neq_struct, run_equalIn_agg w 9999 _ _ _ h0 (by kernel_rfl)]
  have h1 := run_equalIn_int (P := Try.prog) w 9998 28 .u8 .u8 a a Try.underlying28
  have h2 := run_equalIn_int (P := Try.prog) w 9998 29 .u64 .u64 b b Try.underlying29
  rw [Program.fieldsOf, Try.underlying31]
  go_simp
theorem concat_str (x y : Operand) (a b : List UInt8) (h : a.length + b.length ≤ 4611686018427387904) (w : World) :
    ((do eqGuard .add 9 x y (.string (str a)) (.string (str b)); binOp .add 9 (.string (str a)) (.string (str b))) : Sem Value).run Try.prog w = .ok (.string (str (a ++ b))) w := by
  have hf : Sy.aFast .add (.v (.string (str a))) (.v (.string (str b))) = some (.v (.string (str a ++ str b))) := by
    show (match (match Nat.ble (Nat.add (str a).data.toList.length (str b).data.toList.length) 4611686018427387904 with
      | true => some (Value.string (str a ++ str b))
      | false => none) with
      | some r => some (Sy.AV.v r)
      | none => none) = _
    have e : Nat.ble (Nat.add (str a).data.toList.length (str b).data.toList.length) 4611686018427387904 = true := by
      rw [str_data, str_data]
      exact Nat.ble_eq_true_of_le h
    rw [e]
  obtain ⟨v, h1, h2⟩ := Sy.aFast_ok (P := Try.prog) (γ := fun _ => none) (t := 9) (.v _) (.v _) hf x y
  rw [h2 w, Sy.VR_v_eq' h1, str_append]
theorem tok_off {r : List UInt8} : (tokR r).off ≤ r.length := by
  cases r with
  | nil => exact Nat.zero_le _
  | cons c t =>
    show (tokC (c.toNat : Int) (c :: t)).off ≤ _
    have := nmLen_le (c :: t)
    unfold tokC
    repeat' split
    all_goals first | exact this | exact Nat.zero_le _
theorem lex_err (s : List UInt8) : ∀ (f k : Nat) (q : Int × Nat), k ≤ s.length → lexF s f k = .error q → q.1 ≠ 0 ∧ q.2 ≤ s.length
  | 0, k, q, hk, h => by cases h
  | f + 1, k, q, hk, h => by
    unfold lexF at h
    split at h
    · rename_i hlt
      split at h
      · rename_i he
        split at h
        · cases h
        · rename_i e hl
          injection h with h
          subst h
          have hlen := tok_len (drop_ne hlt) he
          rw [List.length_drop] at hlen
          exact lex_err s f _ _ (nxN_le (by omega)).2 hl
      · rename_i he
        injection h with h
        subst h
        refine ⟨he, ?_⟩
        have := tok_off (r := s.drop k)
        rw [List.length_drop] at this
        show k + _ ≤ _
        omega
    · cases h
theorem lexS_err {s : List UInt8} {q : Int × Nat} (h : lexS s = .error q) : q.1 ≠ 0 ∧ q.2 ≤ s.length := by
  unfold lexS at h
  split at h
  · injection h with h
    subst h
    exact ⟨by decide, by show 16384 ≤ _; omega⟩
  · exact lex_err s _ _ _ (nxN_le (Nat.zero_le _)).2 h
theorem lexS_chain {s : List UInt8} {l : List (Nat × TR)} (h : lexS s = .ok l) : Chain s 0 l ∧ s.length ≤ 16384 := by
  unfold lexS at h
  split at h
  · cases h
  · exact ⟨lex_chain s _ _ _ (Nat.zero_le _) (by omega) h, by omega⟩
/-- what Lex hands back, with its memory -/
def LexPr (s : List UInt8) (w : World) (r : Value) (w' : World) : Prop := match lexS s with
    | .error q => r = .tuple #[.slice none 0 0, .agg (fC q.1 (q.2 : Nat))]
    | .ok l => ∃ x, r = .tuple #[x, .agg (fC 0 0)] ∧ w'.ownsRow w.heap.size 33 5 x l.length (tkCells s l)
theorem lex_pr (s : List UInt8) (w : World) : Calls Try.prog 5 #[.string (str s)] w fun e w' => ∃ r, e = .returned r ∧ LexPr s w r w' ∧ Below w.heap.size w w' :=
  (lex_any s w).mono fun e w' h => by
    obtain ⟨h1, h2⟩ := h
    unfold LexPr
    cases hl : lexS s with
    | error q => rw [hl] at h2; exact ⟨_, h2, rfl, h1⟩
    | ok l => rw [hl] at h2; obtain ⟨x, h3, h4⟩ := h2; exact ⟨_, h3, ⟨x, rfl, h4⟩, h1⟩
theorem chain_len {s : List UInt8} : ∀ {l : List (Nat × TR)} {at_ : Nat}, Chain s at_ l → at_ + l.length ≤ s.length
  | [], at_, h => h.1
  | (k, R) :: l, at_, h => by
    obtain ⟨h1, hk, h3, hR, he, hc⟩ := h
    have := chain_len hc
    have hlen := tok_len (drop_ne hk) (hR ▸ he)
    rw [← hR] at hlen
    rw [List.length_cons]
    omega
theorem joinT_len (s : List UInt8) : ∀ (l : List (Nat × TR)), (joinT s l).length ≤ l.length * (s.length + 1)
  | [] => by simp [joinT]
  | (k, R) :: l => by
    have := joinT_len s l
    rw [joinT_cons, List.length_append, List.length_cons, List.length_cons, List.length_take, List.length_drop, Nat.add_mul]
    omega
theorem joinT_app (s : List UInt8) (l : List (Nat × TR)) (k : Nat) (R : TR) : joinT s (l ++ [(k, R)]) = joinT s l ++ ((s.drop k).take R.len ++ [32]) := by
  unfold joinT
  rw [List.flatMap_append, List.flatMap_cons, List.flatMap_nil, List.append_nil]
theorem tkCells_get (s : List UInt8) : ∀ (l1 : List (Nat × TR)) (p : Nat × TR) (l3 : List (Nat × TR)) (j : Nat), j < 5 → (tkCells s (l1 ++ p :: l3))[l1.length * 5 + j]? = (tkRow s p)[j]?
  | [], p, l3, j, hj => by
    unfold tkCells
    rw [List.nil_append, List.flatMap_cons, List.length_nil, Nat.zero_mul, Nat.zero_add, List.getElem?_append_left (by exact hj)]
  | q :: l1, p, l3, j, hj => by
    have ih := tkCells_get s l1 p l3 j hj
    unfold tkCells at *
    rw [List.cons_append, List.flatMap_cons, List.length_cons, List.getElem?_append_right (by show 5 ≤ _; omega)]
    show (List.flatMap (tkRow s) (l1 ++ p :: l3))[(l1.length + 1) * 5 + j - 5]? = _
    rw [show (l1.length + 1) * 5 + j - 5 = l1.length * 5 + j by omega]
    exact ih
theorem relist_len : ∀ (l : List (Nat × TR)) (p : Nat), (relist p l).length = l.length
  | [], p => rfl
  | (k, R) :: l, p => congrArg Nat.succ (relist_len l _)
def posT : Nat → List (Nat × TR) → Nat
  | p, [] => p
  | p, (_, R) :: l => posT (p + R.len + 1) l
theorem relist_split (q : Nat × TR) (l3 : List (Nat × TR)) : ∀ (l1 : List (Nat × TR)) (p : Nat), relist p (l1 ++ q :: l3) = relist p l1 ++ (posT p l1, q.2) :: relist (posT p l1 + q.2.len + 1) l3
  | [], p => rfl
  | (k, R) :: l1, p => congrArg (List.cons (p, R)) (relist_split q l3 l1 _)
theorem join_text (s : List UInt8) (k : Nat) (R : TR) (l3 : List (Nat × TR)) : ∀ (l1 : List (Nat × TR)) (at_ : Nat) (pre : List UInt8), Chain s at_ (l1 ++ (k, R) :: l3) → ((pre ++ joinT s (l1 ++ (k, R) :: l3)).drop (posT pre.length l1)).take R.len = (s.drop k).take R.len
  | [], at_, pre, h => by
    obtain ⟨h1, hk, h3, hR, he, hc⟩ := h
    obtain ⟨c, t, hT, hTl⟩ := tok_cons hk hR he
    show ((pre ++ joinT s ((k, R) :: l3)).drop pre.length).take R.len = _
    rw [List.drop_left, joinT_cons, hT]
    have : (c :: t).length = R.len := by rw [List.length_cons]; exact hTl
    rw [← this, List.take_left]
  | (k1, R1) :: l1, at_, pre, h => by
    obtain ⟨h1, hk, h3, hR, he, hc⟩ := h
    obtain ⟨c, t, hT, hTl⟩ := tok_cons hk hR he
    have ih := join_text s k R l3 l1 _ (pre ++ ((s.drop k1).take R1.len ++ [32])) hc
    have hl : (pre ++ ((s.drop k1).take R1.len ++ [32])).length = pre.length + R1.len + 1 := by rw [hT]; simp; omega
    rw [hl] at ih
    have hJ : pre ++ joinT s (((k1, R1) :: l1) ++ (k, R) :: l3) = (pre ++ ((s.drop k1).take R1.len ++ [32])) ++ joinT s (l1 ++ (k, R) :: l3) := by rw [List.cons_append, joinT_cons]; simp
    rw [hJ]
    exact ih
theorem split_at (l : List (Nat × TR)) (i : Nat) (h : i < l.length) : ∃ l1 p l3, l = l1 ++ p :: l3 ∧ l1.length = i :=
  ⟨l.take i, l[i], l.drop (i + 1), by rw [← List.drop_eq_getElem_cons h, List.take_append_drop], by rw [List.length_take]; omega⟩
structure StI where
  i : Nat
  at_ : Nat
  l1 : List (Nat × TR)
  l2 : List (Nat × TR)
  J : List UInt8
def StInv (s : List UInt8) (l : List (Nat × TR)) (i : StI) : Prop :=
  (i.i = i.l1.length ∧ l = i.l1 ++ i.l2 ∧ i.J = joinT s i.l1 ∧ Chain s i.at_ i.l2) ∨ (i.i = l.length + 1 ∧ i.J = joinT s l)
open Go.Sy in
set_option maxRecDepth 100000 in
theorem lexStands_walk (s : List UInt8) (hs : s.length ≤ maxLen) (w : World) : Calls Try.prog 4 #[.string (str s)] w fun e w' => e = .returned (.bool true) ∧ Below w.heap.size w w' := by
  refine Sy.enter (vs := [.string (str s)]) sy_fine Try.func4 rfl (fun γ => LR.vs _) rfl (fun γ0 hγ0 => ?_)
  refine run_ok (sy_cx _ _) 0 [] 60 0 ?_
  refine good_callB (sy_cx _ _) [] (.bool true) (by kernel_rfl) (by kernel_rfl) (by kernel_rfl) (fun w _ => lexKnown_ok w) ?_
  refine run_ok (sy_cx _ _) 0 [] 60 0 ?_
  refine good_callM (sy_cx _ _) [.string (str s)] (by kernel_rfl) (by kernel_rfl) (by kernel_rfl) (fun w _ => lex_pr s w) ?_
  intro wa r w1 B1 k1 hpr hb1 k2 hB hB1 hlt
  unfold LexPr at hpr
  cases hl : lexS s with
  | error q =>
    rw [hl] at hpr
    subst hpr
    obtain ⟨hq1, hq2⟩ := lexS_err hl
    refine run_ok (sy_cx _ _) 0 [21] 60 0 ?_
    refine good_val (.bool (!(decide ((q.1, ((q.2 : Nat) : Int)) = (0, 0))))) (S := (do eqGuard .neq 25 (.tmp 19) (.tmp 20) (.agg #[.int .i64 q.1, .int .i64 (q.2 : Nat)]) (.agg #[.int .i64 0, .int .i64 0]); binOp .neq 25 (.agg #[.int .i64 q.1, .int .i64 (q.2 : Nat)]) (.agg #[.int .i64 0, .int .i64 0]))) (by kernel_rfl) (fun w _ => neq_fault _ _ _ _ w) ?_
    refine run_ok (sy_cx _ _) 0 [] 60 0 ?_
    refine good_take true (b := !(decide ((q.1, ((q.2 : Nat) : Int)) = (0, 0)))) (by kernel_rfl) (by simp [hq1]) ?_
    refine run_ok (sy_cx _ _) 0 [] 60 0 ?_
    refine good_endV (.bool (not (intLt ((str s).size : Nat) (q.2 : Nat)))) (by kernel_rfl) (fun W hk => ⟨?_, k2.below.trans (hk.mono hB).below⟩)
    rw [str_size, lt_f (by omega)]
    rfl
  | ok l =>
    rw [hl] at hpr
    obtain ⟨x, rfl, hown⟩ := hpr
    obtain ⟨a, cap, rfl, hcap, hsl⟩ := SlAt.of_own hown hB1
    obtain ⟨hch, hs16⟩ := lexS_chain hl
    obtain ⟨n, hn⟩ : ∃ n, n = l.length := ⟨_, rfl⟩
    rw [← hn] at hsl hcap ⊢
    refine run_ok (sy_cx _ _) 0 [] 60 1 ?_
    refine good_toLp ?_
    have hfin : ∀ W, Keep B1 w1 W → Below w.heap.size w W := fun W hk => k2.below.trans (hk.mono hB).below
    have hnl := chain_len hch
    rw [← hn] at hnl
    refine good_loopI (fun i : StI => n + 1 - i.i) (StInv s l) (fun i => ⟨mkT [(0, .v (.string (str s))), (3, .v (.bool true)), (4, .v (.slice a n cap)), (6, .v (.int .i64 (i.at_ : Int))), (7, .v (.string (str i.J))), (8, .v (.int .i64 (i.i : Int)))], mkH [], Try.prog.globals.size, []⟩)
      ⟨0, 0, [], l, []⟩ (.inl ⟨rfl, rfl, rfl, hch⟩) (by kernel_rfl)
      (fun h => good_sub _ [(0, .v (.string (str s))), (3, .v (.bool true)), (4, .v (.slice a n cap)), (6, .v (.int .i64 (0 : Nat))), (7, .v (.string (str []))), (8, .v (.int .i64 (0 : Nat)))] [] Try.prog.globals.size rfl (by kernel_rfl) (by kernel_rfl) (by kernel_rfl) (by kernel_rfl) (by kernel_rfl) hγ0 (by kernel_rfl) h) ?_
    rintro ⟨i, at_, l1, l2, J⟩ hI ih
    have hI' : (i = l1.length ∧ l = l1 ++ l2 ∧ J = joinT s l1 ∧ Chain s at_ l2) ∨ (i = l.length + 1 ∧ J = joinT s l) := hI
    clear hI
    refine run_ok (sy_cx _ _) 0 [] 60 0 ?_
    rcases hI' with ⟨rfl, hll, hJ, hc⟩ | ⟨hi, hJ⟩
    · have hn2 : n = l1.length + l2.length := by rw [hn, hll, List.length_append]
      refine good_take true (b := not (intLt (n : Int) (l1.length : Int))) (by kernel_rfl) (by rw [lt_f (by omega)]; rfl) ?_
      refine run_ok (sy_cx _ _) 0 [] 60 0 ?_
      cases l2 with
      | nil =>
        have hn3 : n = l1.length := by rw [hn2]; simp
        refine good_take false (b := intLt (l1.length : Int) (n : Int)) (by kernel_rfl) (lt_f (by omega)) ?_
        refine run_ok (sy_cx _ _) 0 [61] 60 0 ?_
        obtain ⟨hal, hbt⟩ := hc
        refine good_set 60 (x := .bool (intLt ((str s).size : Nat) (at_ : Int))) (.bool false) (by kernel_rfl) (by rw [str_size, lt_f (by omega)]) ?_
        refine good_set 9 (x := .int .i64 ((str s).size : Nat)) (.int .i64 (s.length : Nat)) (by kernel_rfl) (by rw [str_size]) ?_
        refine run_ok (sy_cx _ _) 0 [64] 60 0 ?_
        refine good_val (.string (str (s.drop at_))) (S := Instr.sliceAt 9 (.string (str s)) (some (.int .i64 (at_ : Int))) (some (.int .i64 (s.length : Nat))) none) (by kernel_rfl) (fun w _ => slice_str s at_ s.length hal (Nat.le_refl _) _ (List.take_of_length_le (by rw [List.length_drop]; omega)) _ Try.underlying9 w) ?_
        refine good_callB (sy_cx _ _) [.string (str (s.drop at_))] (.bool true) (by kernel_rfl) (by kernel_rfl) (by kernel_rfl) (fun w _ => between_ok _ (by rw [List.length_drop]; omega) hbt w) ?_
        refine run_ok (sy_cx _ _) 0 [] 60 1 ?_
        refine good_take false (b := intLt (l1.length : Int) (n : Int)) (by kernel_rfl) (lt_f (by omega)) ?_
        refine run_ok (sy_cx _ _) 0 [] 60 0 ?_
        refine good_set 8 (x := .int .i64 (wrapF .i64 ((l1.length : Int) + 1))) (.int .i64 ((l1.length + 1 : Nat) : Int)) (by kernel_rfl) (by rw [wr64 (by omega) (by omega)]; rfl) ?_
        exact good_sub _ [(0, .v (.string (str s))), (3, .v (.bool true)), (4, .v (.slice a n cap)), (6, .v (.int .i64 (at_ : Int))), (7, .v (.string (str J))), (8, .v (.int .i64 ((l1.length + 1 : Nat) : Int)))] [] Try.prog.globals.size (by kernel_rfl) (by kernel_rfl) (by kernel_rfl) (by kernel_rfl) (by kernel_rfl) (by kernel_rfl) hγ0 (by kernel_rfl)
          (ih ⟨l1.length + 1, at_, l1, [], J⟩ (.inr ⟨by show l1.length + 1 = l.length + 1; omega, by show J = joinT s l; rw [hll, List.append_nil]; exact hJ⟩) (by show n + 1 - (l1.length + 1) < n + 1 - l1.length; omega))
      | cons p l3 =>
        obtain ⟨k, R⟩ := p
        obtain ⟨hk1, hk2, hbet, hR, he, hc3⟩ := hc
        have hlen := tok_len (drop_ne hk2) (hR ▸ he)
        rw [← hR, List.length_drop] at hlen
        obtain ⟨T, hT⟩ : ∃ T, T = (s.drop k).take R.len := ⟨_, rfl⟩
        have hTl : T.length = R.len := by rw [hT, List.length_take, List.length_drop]; omega
        have hin : l1.length < n := by rw [hn2, List.length_cons]; omega
        have hcell : ∀ j v, j < 5 → (tkRow s (k, R))[j]? = some v → (tkCells s l)[l1.length * 5 + j]? = some v := fun j v hj hv => by rw [hll, tkCells_get s l1 (k, R) l3 j hj, hv]
        have h1 := hcell 1 (.string (str T)) (by omega) (by rw [hT]; rfl)
        have h2 := hcell 2 (.int .i64 (k : Int)) (by omega) rfl
        have hidx := fun W => idx_sl (P := Try.prog) (cap := cap) (t := 22) (e := 33) hsl (by kernel_rfl) (by kernel_rfl) hin W
        refine good_take true (b := intLt (l1.length : Int) (n : Int)) (by kernel_rfl) (lt_t (by omega)) ?_
        refine run_ok (sy_cx _ _) 0 [54] 60 0 ?_
        refine good_val (.pointer (some ⟨gB a, oB a + l1.length * 5, none⟩)) (S := Instr.indexAt 22 (.slice a n cap) (.int .i64 (l1.length : Int))) (by kernel_rfl) (fun W _ => hidx W) ?_
        refine run_ok (sy_cx _ _) 0 [] 60 0 ?_
        refine good_val (.int .i64 (k : Int)) (S := Instr.loadAt 3 (.pointer (some ⟨gB a, oB a + l1.length * 5 + 2, none⟩))) (by kernel_rfl) (fun W hk => load_sl hsl (by kernel_rfl) _ 2 h2 hk) ?_
        refine run_ok (sy_cx _ _) 0 [61] 60 0 ?_
        refine good_set 60 (x := .bool (intLt (k : Int) (at_ : Int))) (.bool false) (by kernel_rfl) (by rw [lt_f (by omega)]) ?_
        refine run_ok (sy_cx _ _) 0 [64] 60 0 ?_
        refine good_val (.string (str ((s.drop at_).take (k - at_)))) (S := Instr.sliceAt 9 (.string (str s)) (some (.int .i64 (at_ : Int))) (some (.int .i64 (k : Int))) none) (by kernel_rfl) (fun w _ => slice_str s at_ k hk1 (by omega) _ rfl _ Try.underlying9 w) ?_
        refine good_callB (sy_cx _ _) [.string (str ((s.drop at_).take (k - at_)))] (.bool true) (by kernel_rfl) (by kernel_rfl) (by kernel_rfl) (fun w _ => between_ok _ (by rw [List.length_take]; omega) hbet w) ?_
        refine run_ok (sy_cx _ _) 0 [] 60 1 ?_
        refine good_take true (b := intLt (l1.length : Int) (n : Int)) (by kernel_rfl) (lt_t (by omega)) ?_
        refine run_ok (sy_cx _ _) 0 [] 60 0 ?_
        refine good_val (.pointer (some ⟨gB a, oB a + l1.length * 5, none⟩)) (S := Instr.indexAt 22 (.slice a n cap) (.int .i64 (l1.length : Int))) (by kernel_rfl) (fun W _ => hidx W) ?_
        refine run_ok (sy_cx _ _) 0 [] 60 0 ?_
        refine good_val (.string (str T)) (S := Instr.loadAt 9 (.pointer (some ⟨gB a, oB a + l1.length * 5 + 1, none⟩))) (by kernel_rfl) (fun W hk => load_sl hsl (by kernel_rfl) _ 1 h1 hk) ?_
        refine run_ok (sy_cx _ _) 0 [] 60 0 ?_
        obtain ⟨k', hk'⟩ : ∃ k', k' = k + R.len := ⟨_, rfl⟩
        refine good_set 6 (x := .int .i64 (wrapF .i64 ((k : Int) + ((str T).size : Nat)))) (.int .i64 (k' : Int)) (by kernel_rfl) (by rw [str_size, wr64 (by omega) (by omega)]; congr 1; omega) ?_
        refine good_draw sy_mixed (by kernel_rfl) ?_
        refine q_run [88] 60 ?_
        refine q_val (.pointer (some ⟨gB a, oB a + l1.length * 5, none⟩)) (S := Instr.indexAt 22 (.slice a n cap) (.int .i64 (l1.length : Int))) (by kernel_rfl) (fun W _ => hidx W) ?_
        refine q_run [88] 60 ?_
        refine q_val (.string (str T)) (S := Instr.loadAt 9 (.pointer (some ⟨gB a, oB a + l1.length * 5 + 1, none⟩))) (by kernel_rfl) (fun W hk => load_sl hsl (by kernel_rfl) _ 1 h1 hk) ?_
        refine q_run [88] 60 ?_
        refine q_set 87 (x := .bool (intEq ((str T).size : Nat) 0)) (.bool false) (by kernel_rfl) (by rw [str_size, eq_f (by omega)]) ?_
        refine q_run [94] 60 ?_
        refine q_set 93 (x := .bool (intLt ((str s).size : Nat) (k' : Int))) (.bool false) (by kernel_rfl) (by rw [str_size, lt_f (by omega)]) ?_
        refine q_run [97] 60 ?_
        refine q_val (.string (str T)) (S := Instr.sliceAt 9 (.string (str s)) (some (.int .i64 (k : Int))) (some (.int .i64 (k' : Int))) none) (by kernel_rfl) (fun w _ => slice_str s k k' (by omega) (by omega) T (by rw [hT, hk']; congr 1; omega) _ Try.underlying9 w) ?_
        refine q_run [] 60 ?_
        refine q_val (.pointer (some ⟨gB a, oB a + l1.length * 5, none⟩)) (S := Instr.indexAt 22 (.slice a n cap) (.int .i64 (l1.length : Int))) (by kernel_rfl) (fun W _ => hidx W) ?_
        refine q_run [] 60 ?_
        refine q_val (.string (str T)) (S := Instr.loadAt 9 (.pointer (some ⟨gB a, oB a + l1.length * 5 + 1, none⟩))) (by kernel_rfl) (fun W hk => load_sl hsl (by kernel_rfl) _ 1 h1 hk) ?_
        refine q_run [] 60 ?_
        refine q_end (by kernel_rfl) ?_
        refine run_ok (sy_cx _ _) 0 [] 60 0 ?_
        refine good_take false (b := not (bEqL (str T).data.toList (str T).data.toList)) (by kernel_rfl) (by rw [bEqL_eq]; simp) ?_
        refine run_ok (sy_cx _ _) 0 [111, 112] 60 0 ?_
        refine good_val (.pointer (some ⟨gB a, oB a + l1.length * 5, none⟩)) (S := Instr.indexAt 22 (.slice a n cap) (.int .i64 (l1.length : Int))) (by kernel_rfl) (fun W _ => hidx W) ?_
        refine run_ok (sy_cx _ _) 0 [111, 112] 60 0 ?_
        refine good_val (.string (str T)) (S := Instr.loadAt 9 (.pointer (some ⟨gB a, oB a + l1.length * 5 + 1, none⟩))) (by kernel_rfl) (fun W hk => load_sl hsl (by kernel_rfl) _ 1 h1 hk) ?_
        refine run_ok (sy_cx _ _) 0 [111, 112] 60 0 ?_
        have hJl : J.length ≤ 16384 * 16385 := by
          have h3 := joinT_len s l1
          rw [hJ]
          refine Nat.le_trans h3 ?_
          exact Nat.mul_le_mul (by omega) (by omega)
        refine good_val (.string (str (J ++ T))) (S := (do eqGuard .add 9 (.tmp 105) (.tmp 110) (.string (str J)) (.string (str T)); binOp .add 9 (.string (str J)) (.string (str T)))) (by kernel_rfl) (fun w _ => concat_str _ _ J T (by omega) w) ?_
        refine run_ok (sy_cx _ _) 0 [111, 112] 60 0 ?_
        refine good_val (.string (str (J ++ T ++ [32]))) (S := (do eqGuard .add 9 (.tmp 111) (.const (.string (str [32]))) (.string (str (J ++ T))) (.string (str [32])); binOp .add 9 (.string (str (J ++ T))) (.string (str [32])))) (by kernel_rfl) (fun w _ => concat_str _ _ (J ++ T) [32] (by rw [List.length_append]; simp; omega) w) ?_
        refine run_ok (sy_cx _ _) 0 [] 60 0 ?_
        refine good_set 8 (x := .int .i64 (wrapF .i64 ((l1.length : Int) + 1))) (.int .i64 ((l1.length + 1 : Nat) : Int)) (by kernel_rfl) (by rw [wr64 (by omega) (by omega)]; rfl) ?_
        exact good_sub _ [(0, .v (.string (str s))), (3, .v (.bool true)), (4, .v (.slice a n cap)), (6, .v (.int .i64 (k' : Int))), (7, .v (.string (str (J ++ T ++ [32])))), (8, .v (.int .i64 ((l1.length + 1 : Nat) : Int)))] [] Try.prog.globals.size (by kernel_rfl) (by kernel_rfl) (by kernel_rfl) (by kernel_rfl) (by kernel_rfl) (by kernel_rfl) hγ0 (by kernel_rfl)
          (ih ⟨l1.length + 1, k', l1 ++ [(k, R)], l3, J ++ T ++ [32]⟩ (.inl ⟨by show l1.length + 1 = (l1 ++ [(k, R)]).length; simp, by show l = (l1 ++ [(k, R)]) ++ l3; rw [hll]; simp, by show J ++ T ++ [32] = joinT s (l1 ++ [(k, R)]); rw [joinT_app, ← hT, hJ, List.append_assoc], by show Chain s k' l3; rw [hk']; exact hc3⟩) (by show n + 1 - (l1.length + 1) < n + 1 - l1.length; omega))
    · refine good_take false (b := not (intLt (n : Int) (i : Int))) (by kernel_rfl) (by rw [lt_t (by omega)]; rfl) ?_
      refine run_ok (sy_cx _ _) 0 [] 60 0 ?_
      by_cases hlong : 16384 < J.length
      · refine good_take true (b := intLt 16384 ((str J).size : Nat)) (by kernel_rfl) (by rw [str_size]; exact lt_t (by omega)) ?_
        refine run_ok (sy_cx _ _) 0 [] 60 0 ?_
        exact good_endV (.bool true) (by kernel_rfl) (fun W hk => ⟨rfl, hfin W hk⟩)
      refine good_take false (b := intLt 16384 ((str J).size : Nat)) (by kernel_rfl) (by rw [str_size]; exact lt_f (by omega)) ?_
      refine run_ok (sy_cx _ _) 0 [] 60 0 ?_
      have hLJ : lexS J = .ok (relist 0 l) := by rw [hJ]; exact lex_joined hch (by rw [← hJ]; exact hlong)
      refine good_callM (sy_cx _ _) [.string (str J)] (by kernel_rfl) (by kernel_rfl) (by kernel_rfl) (fun w _ => lex_pr J w) ?_
      intro wb r2 w2 B2 k3 hpr2 hb2 k4 hB2 hB12 hlt2
      unfold LexPr at hpr2
      rw [hLJ] at hpr2
      obtain ⟨x2, rfl, hown2⟩ := hpr2
      have hrl : (relist 0 l).length = n := by rw [relist_len, hn]
      rw [hrl] at hown2
      obtain ⟨a2, cap2, rfl, hcap2, hsl2⟩ := SlAt.of_own hown2 hB12
      have hsl1 := (hsl.keep k4).mono hB2
      have hfin2 : ∀ W, Keep B2 w2 W → Below w.heap.size w W := fun W hk => hfin W (k4.trans (hk.mono hB2))
      refine run_ok (sy_cx _ _) 0 [] 60 0 ?_
      refine good_take false (b := not (intEq (n : Int) (n : Int))) (by kernel_rfl) (by rw [eq_t rfl]; rfl) ?_
      refine run_ok (sy_cx _ _) 0 [] 60 0 ?_
      refine good_toLp ?_
      refine good_loopI (fun i : Nat => n - i) (fun i => i ≤ n) (fun i => ⟨mkT [(3, .v (.bool true)), (4, .v (.slice a n cap)), (10, .v (.slice a2 n cap2)), (12, .v (.int .i64 (i : Int)))], mkH [], Try.prog.globals.size, []⟩)
        0 (Nat.zero_le _) (by kernel_rfl)
        (fun h => good_sub _ [(3, .v (.bool true)), (4, .v (.slice a n cap)), (10, .v (.slice a2 n cap2)), (12, .v (.int .i64 (0 : Nat)))] [] Try.prog.globals.size rfl (by kernel_rfl) (by kernel_rfl) (by kernel_rfl) (by kernel_rfl) (by kernel_rfl) hγ0 (by kernel_rfl) h) ?_
      intro j hj ih2
      refine run_ok (sy_cx _ _) 0 [] 60 0 ?_
      by_cases hjn : j < n
      · obtain ⟨m1, ⟨k, R⟩, m3, hll, hml⟩ := split_at l j (by omega)
        obtain ⟨T, hT⟩ : ∃ T, T = (s.drop k).take R.len := ⟨_, rfl⟩
        have hch2 := hch
        rw [hll] at hch2
        have htx := join_text s k R m3 m1 0 [] hch2
        rw [List.nil_append, List.length_nil, ← hll, ← hJ, ← hT] at htx
        have hrs : relist 0 l = relist 0 m1 ++ (posT 0 m1, R) :: relist (posT 0 m1 + R.len + 1) m3 := by rw [hll]; exact relist_split (k, R) m3 m1 0
        have hc1 : ∀ q v, q < 5 → (tkRow s (k, R))[q]? = some v → (tkCells s l)[j * 5 + q]? = some v := fun q v hq hv => by rw [← hml, hll, tkCells_get s m1 (k, R) m3 q hq, hv]
        have hc2 : ∀ q v, q < 5 → (tkRow J (posT 0 m1, R))[q]? = some v → (tkCells J (relist 0 l))[j * 5 + q]? = some v := fun q v hq hv => by
          have := tkCells_get J (relist 0 m1) (posT 0 m1, R) (relist (posT 0 m1 + R.len + 1) m3) q hq
          rw [relist_len, hml] at this
          rw [hrs, this, hv]
        have r1 : tkRow s (k, R) = [.int .i64 R.kind, .string (str T), .int .i64 (k : Int), .int .u8 R.ty, .int .u64 R.va] := by unfold tkRow; rw [← hT]; rfl
        have r2 : tkRow J (posT 0 m1, R) = [.int .i64 R.kind, .string (str T), .int .i64 (posT 0 m1 : Nat), .int .u8 R.ty, .int .u64 R.va] := by unfold tkRow; rw [htx]; rfl
        rw [r1] at hc1
        rw [r2] at hc2
        have hi1 := fun W => idx_sl (P := Try.prog) (cap := cap) (t := 22) (e := 33) hsl1 (by kernel_rfl) (by kernel_rfl) hjn W
        have hi2 := fun W => idx_sl (P := Try.prog) (cap := cap2) (t := 22) (e := 33) hsl2 (by kernel_rfl) (by kernel_rfl) hjn W
        refine good_take true (b := intLt (j : Int) (n : Int)) (by kernel_rfl) (lt_t (by omega)) ?_
        refine run_ok (sy_cx _ _) 0 [] 60 0 ?_
        refine good_draw sy_mixed (by kernel_rfl) ?_
        refine q_run [150] 60 ?_
        refine q_val (.pointer (some ⟨gB a2, oB a2 + j * 5, none⟩)) (S := Instr.indexAt 22 (.slice a2 n cap2) (.int .i64 (j : Int))) (by kernel_rfl) (fun W _ => hi2 W) ?_
        refine q_run [150] 60 ?_
        refine q_val (.int .i64 R.kind) (S := Instr.loadAt 3 (.pointer (some ⟨gB a2, oB a2 + j * 5 + 0, none⟩))) (by kernel_rfl) (fun W hk => load_sl hsl2 (by kernel_rfl) _ 0 (hc2 0 _ (by omega) rfl) hk) ?_
        refine q_run [150] 60 ?_
        refine q_val (.pointer (some ⟨gB a, oB a + j * 5, none⟩)) (S := Instr.indexAt 22 (.slice a n cap) (.int .i64 (j : Int))) (by kernel_rfl) (fun W _ => hi1 W) ?_
        refine q_run [150] 60 ?_
        refine q_val (.int .i64 R.kind) (S := Instr.loadAt 3 (.pointer (some ⟨gB a, oB a + j * 5 + 0, none⟩))) (by kernel_rfl) (fun W hk => load_sl hsl1 (by kernel_rfl) _ 0 (hc1 0 _ (by omega) rfl) hk) ?_
        refine q_run [150] 60 ?_
        refine q_set 149 (x := .bool (not (intEq R.kind R.kind))) (.bool false) (by kernel_rfl) (by rw [eq_t rfl]; rfl) ?_
        refine q_run [163] 60 ?_
        refine q_val (.pointer (some ⟨gB a2, oB a2 + j * 5, none⟩)) (S := Instr.indexAt 22 (.slice a2 n cap2) (.int .i64 (j : Int))) (by kernel_rfl) (fun W _ => hi2 W) ?_
        refine q_run [163] 60 ?_
        refine q_val (.string (str T)) (S := Instr.loadAt 9 (.pointer (some ⟨gB a2, oB a2 + j * 5 + 1, none⟩))) (by kernel_rfl) (fun W hk => load_sl hsl2 (by kernel_rfl) _ 1 (hc2 1 _ (by omega) rfl) hk) ?_
        refine q_run [163] 60 ?_
        refine q_val (.pointer (some ⟨gB a, oB a + j * 5, none⟩)) (S := Instr.indexAt 22 (.slice a n cap) (.int .i64 (j : Int))) (by kernel_rfl) (fun W _ => hi1 W) ?_
        refine q_run [163] 60 ?_
        refine q_val (.string (str T)) (S := Instr.loadAt 9 (.pointer (some ⟨gB a, oB a + j * 5 + 1, none⟩))) (by kernel_rfl) (fun W hk => load_sl hsl1 (by kernel_rfl) _ 1 (hc1 1 _ (by omega) rfl) hk) ?_
        refine q_run [163] 60 ?_
        refine q_set 162 (x := .bool (not (bEqL (str T).data.toList (str T).data.toList))) (.bool false) (by kernel_rfl) (by rw [bEqL_eq]; simp) ?_
        refine q_run [173] 60 ?_
        refine q_val (.pointer (some ⟨gB a2, oB a2 + j * 5, none⟩)) (S := Instr.indexAt 22 (.slice a2 n cap2) (.int .i64 (j : Int))) (by kernel_rfl) (fun W _ => hi2 W) ?_
        refine q_run [173] 60 ?_
        refine q_val (.agg #[.int .u8 R.ty, .int .u64 R.va]) (S := Instr.loadAt 31 (.pointer (some ⟨gB a2, oB a2 + j * 5 + 3, none⟩))) (by kernel_rfl) (fun W hk => load_slA (m := 2) (cs := [.int .u8 R.ty, .int .u64 R.va]) hsl2 (by kernel_rfl) (by kernel_rfl) _ 3 rfl (fun q v hv => by
          have hq : q < 2 := (List.getElem?_eq_some_iff.1 hv).1
          rw [Nat.add_assoc]
          exact hc2 (3 + q) v (by omega) (by rw [Nat.add_comm 3 q]; exact hv)) hk) ?_
        refine q_run [173] 60 ?_
        refine q_val (.pointer (some ⟨gB a, oB a + j * 5, none⟩)) (S := Instr.indexAt 22 (.slice a n cap) (.int .i64 (j : Int))) (by kernel_rfl) (fun W _ => hi1 W) ?_
        refine q_run [173] 60 ?_
        refine q_val (.agg #[.int .u8 R.ty, .int .u64 R.va]) (S := Instr.loadAt 31 (.pointer (some ⟨gB a, oB a + j * 5 + 3, none⟩))) (by kernel_rfl) (fun W hk => load_slA (m := 2) (cs := [.int .u8 R.ty, .int .u64 R.va]) hsl1 (by kernel_rfl) (by kernel_rfl) _ 3 rfl (fun q v hv => by
          have hq : q < 2 := (List.getElem?_eq_some_iff.1 hv).1
          rw [Nat.add_assoc]
          exact hc1 (3 + q) v (by omega) (by rw [Nat.add_comm 3 q]; exact hv)) hk) ?_
        refine q_run [173] 60 ?_
        refine q_val (.bool false) (S := (do eqGuard .neq 31 (.tmp 167) (.tmp 172) (.agg #[.int .u8 R.ty, .int .u64 R.va]) (.agg #[.int .u8 R.ty, .int .u64 R.va]); binOp .neq 31 (.agg #[.int .u8 R.ty, .int .u64 R.va]) (.agg #[.int .u8 R.ty, .int .u64 R.va]))) (by kernel_rfl) (fun w _ => neq_val _ _ _ _ w) ?_
        refine q_run [] 60 ?_
        refine q_end (by kernel_rfl) ?_
        refine run_ok (sy_cx _ _) 0 [] 60 1 ?_
        refine good_set 12 (x := .int .i64 (wrapF .i64 ((j : Int) + 1))) (.int .i64 ((j + 1 : Nat) : Int)) (by kernel_rfl) (by rw [wr64 (by omega) (by omega)]; rfl) ?_
        exact good_sub _ [(3, .v (.bool true)), (4, .v (.slice a n cap)), (10, .v (.slice a2 n cap2)), (12, .v (.int .i64 ((j + 1 : Nat) : Int)))] [] Try.prog.globals.size (by kernel_rfl) (by kernel_rfl) (by kernel_rfl) (by kernel_rfl) (by kernel_rfl) (by kernel_rfl) hγ0 (by kernel_rfl)
          (ih2 (j + 1) hjn (by omega))
      · refine good_take false (b := intLt (j : Int) (n : Int)) (by kernel_rfl) (lt_f (by omega)) ?_
        refine run_ok (sy_cx _ _) 0 [] 60 0 ?_
        exact good_endV (.bool true) (by kernel_rfl) (fun W hk => ⟨rfl, hfin2 W hk⟩)
namespace lexStands
set_option linter.unusedVariables false
open Go.ChangeShapes Go.WideShapes Go.ChangeAt Go.RowKit Go.As
theorem own : ownKnob Try.prog.godebug = none := by kernel_rfl
theorem laidOut : laidOutB Try.prog = true := by kernel_rfl
set_option maxRecDepth 100000 in
theorem lifted (os : Os) (started : os.Started) (H : Type) (enc : TypeId × Value → H) :
    ReturnsInHanded {} Try.checked os 4 .any (Rows.lexStandsSpec.pre6 enc Try.prog Try.f4 Rows.lexStandsRow.domain false) (Rows.lexStandsSpec.post enc Try.prog Try.f4 false true false false) := by
  refine returnsInHanded_of_change (C := Try.checked) own started (by kernel_rfl) Try.func4
    (ChangeSpec.witness6 (enc := enc) (C := Try.checked) false ⟨#[], #[.string ⟨#[]⟩], []⟩ 8 (by kernel_rfl) (by kernel_rfl) (by kernel_rfl) (by kernel_rfl)) ?_
  intro W base args ds gs before hval0 hW hcnd _
  have hval : ∀ (j : Nat) t v, Try.f4.params[j]? = some t → args[j]? = some v → Value.okWide Try.prog W .any base t v := hval0
  have hW' := hW
  obtain ⟨p, q, hA0, hV, hpq, hfz, hnd⟩ := hW
  have hA : DataW.TrodAll enc Try.prog W 0 (fun _ => true) true Try.f4.params.toList args.toList ds p := hA0
  have hlt : ∀ x ∈ p, x.block < W.heap.size := fun x hx => hW'.lt x (by rw [hpq]; exact List.mem_append_left _ hx)
  rw [Try.params4] at hA hval
  obtain ⟨v0, vs0, d0, ds0, p0, q0, hargs, rfl, hp0, h0, r0⟩ := trodAll_cons hA
  obtain ⟨rfl, rfl, hpn⟩ := trodAll_nil r0
  obtain rfl : args = #[v0] := by cases args; simp_all
  obtain ⟨rfl, rfl⟩ := trodVars_none hV
  obtain ⟨s0, rfl, rfl, -, w0⟩ := ChangeMaps.open_string Try.underlying9 (hval 0 9 v0 rfl rfl) h0
  obtain ⟨l0, rfl⟩ := exists_str s0
  rw [str_size] at w0
  refine (lexStands_walk l0 w0 W).mono fun e W' ⟨he, hg⟩ => ?_
  subst he
  exact ⟨_, rfl, law_post (T := 4) laidOut (by kernel_rfl) Try.underlying4 rfl rfl hW' rfl rfl rfl hg⟩
theorem over : Rows.lexStandsRow.holds Try.pinned (OpenSpec.ofChange Rows.lexStandsSpec) :=
  OpenClaim.holds_of_wide 4 Try.f4 rfl rfl rfl rfl rfl rfl rfl ⟨rfl, rfl, rfl, rfl, rfl⟩ rfl rfl rfl rfl rfl (by kernel_rfl) Try.func4 (by kernel_rfl)
    (of_decide_eq_true (by kernel_rfl)) (by unfold Func.isWrapper; rw [if_neg (of_decide_eq_false (by kernel_rfl))]; exact ⟨rfl, rfl⟩)
    (fun os started H enc _ => lifted os started H enc)
/-- the statement -/
theorem proved : Rows.LexStandsSaid := over
#print axioms proved
end lexStands
end Go.Proofs.Ytiacalnkmnckjaa
