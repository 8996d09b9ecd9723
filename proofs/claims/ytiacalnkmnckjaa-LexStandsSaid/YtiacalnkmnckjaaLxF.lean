/- What token of lex answers, on any text at a place. No conditions but those in each theorem.  -/
import Derived.Test.YtiacalnkmnckjaaLxE
import Derived.Test.YtiacalnkmnckjaaSyT
namespace Go.Proofs.Ytiacalnkmnckjaa
open Go.RowKit Go.As
set_option linter.unusedVariables false
set_option linter.unusedSimpArgs false

theorem results_cc {P : Program} {fn : Func} {p q : Tmp} {ty ty2 : TypeId} {tmps : Array Value} {w : World} (g g2 : Nat) (t t2 : TypeId) (cs cs2 : Array Value) (fr fr2 : Nat × Nat) (d d2 : TypeDesc) (h : fn.results = #[.cell p ty, .cell q ty2])
    (hp : tmps.getD p undef = .pointer (some ⟨g, 0, none⟩)) (hq : tmps.getD q undef = .pointer (some ⟨g2, 0, none⟩)) (hg : w.heap[g]? = some (.cells cs t fr)) (hg2 : w.heap[g2]? = some (.cells cs2 t2 fr2))
    (hu : P.underlying ty = some d) (hd : (match d with | .struct _ | .array _ _ => true | _ => false) = true) (hi : (P.info? ty).map (·.size) = some cs.size)
    (hu2 : P.underlying ty2 = some d2) (hd2 : (match d2 with | .struct _ | .array _ _ => true | _ => false) = true) (hi2 : (P.info? ty2).map (·.size) = some cs2.size) :
    (results fn tmps).run P w = .ok (.tuple #[.agg cs, .agg cs2]) w := by
  have hp' : tmps[p]?.getD undef = .pointer (some ⟨g, 0, none⟩) := by simpa using hp
  have hq' : tmps[q]?.getD undef = .pointer (some ⟨g2, 0, none⟩) := by simpa using hq
  simp [results, h, hp', hq', asAddr, run_loadVar_row w g t ty cs fr d hg hu hd hi, run_loadVar_row w g2 t2 ty2 cs2 fr2 d2 hg2 hu2 hd2 hi2]
/-- what is read at a text's beginning -/
structure TR where
  err : Int
  off : Nat
  kind : Int
  len : Nat
  ty : Int
  va : Int
def nmRun (r : List UInt8) : Nat := (r.takeWhile fun c => nmB (c.toNat : Int)).length
def stopB : Option UInt8 → Bool
  | none => false
  | some x => letB (x.toNat : Int) || (x.toNat : Int) == 46
def tokC (c : Int) (r : List UInt8) : TR :=
  if letB c = true then (if 24 < nmRun r then ⟨5, 0, 0, 0, 0, 0⟩ else ⟨0, 0, 1, nmRun r, 0, 0⟩)
  else if digI c = true then (if nmOk r = true then (if stopB r[nmLen r]? = true then ⟨4, nmLen r, 0, 0, 0, 0⟩ else ⟨0, 0, nmK r, nmLen r, nmT r, nmV r⟩) else ⟨4, 0, 0, 0, 0, 0⟩)
  else if signN r = 0 then ⟨4, 0, 0, 0, 0, 0⟩ else ⟨0, 0, 4, signN r, 0, 0⟩
def tokR (r : List UInt8) : TR := match r with
  | [] => ⟨4, 0, 0, 0, 0, 0⟩
  | c :: t => tokC (c.toNat : Int) (c :: t)
def tCells (R : TR) (r : List UInt8) (k : Nat) : Array Value := if R.err = 0 then tkC R.kind (r.take R.len) k R.ty R.va else tkC 0 [] 0 0 0
def fC (e a : Int) : Array Value := #[.int .i64 e, .int .i64 a]
def fCells (R : TR) (k : Nat) : Array Value := if R.err = 0 then fC 0 0 else fC R.err ((k + R.off : Nat) : Int)
theorem t_ok {r : List UInt8} {k n : Nat} {kd ty va : Int} (h : tokR r = ⟨0, 0, kd, n, ty, va⟩) : tCells (tokR r) r k = tkC kd (r.take n) k ty va ∧ fCells (tokR r) k = fC 0 0 := by
  rw [h]
  exact ⟨rfl, rfl⟩
theorem t_bad {r : List UInt8} {k n : Nat} {e : Int} (he : e ≠ 0) (h : tokR r = ⟨e, n, 0, 0, 0, 0⟩) : tCells (tokR r) r k = tkC 0 [] 0 0 0 ∧ fCells (tokR r) k = fC e ((k + n : Nat) : Int) := by
  rw [h]
  unfold tCells fCells
  exact ⟨if_neg he, if_neg he⟩
theorem ite_le {p : Prop} [Decidable p] {a b m : Nat} (ha : a ≤ m) (hb : b ≤ m) : (if p then a else b) ≤ m := by split <;> assumption
theorem ite_not {p : Prop} [Decidable p] {a b m : Nat} (hp : ¬ p) (hb : b ≤ m) : (if p then a else b) ≤ m := by rw [if_neg hp]; exact hb
theorem signOf_le (T : List UInt8) (c : UInt8) : signOf T c ≤ 2 := by
  unfold signOf
  repeat (refine ite_le (by omega) ?_)
  exact Nat.zero_le _
theorem signOf_short {T : List UInt8} (c : UInt8) (h : T.length ≠ 2) : signOf T c ≤ 1 := by
  unfold signOf
  iterate 6 (refine ite_not (fun e => h (by rw [eq_of_beq e]; rfl)) ?_)
  repeat (refine ite_le (by omega) ?_)
  exact Nat.zero_le _
theorem signN_le (r : List UInt8) : signN r ≤ 2 := by
  cases r with
  | nil => exact Nat.zero_le _
  | cons c t => exact signOf_le _ _
theorem signN_two {r : List UInt8} (h : signN r = 2) : 2 ≤ r.length := by
  cases r with
  | nil => cases h
  | cons c t =>
    rcases Nat.lt_or_ge (c :: t).length 2 with g | g
    · have h1 : signOf ((c :: t).take 2) c ≤ 1 := signOf_short c (by rw [List.length_take]; omega)
      have h2 : signOf ((c :: t).take 2) c = 2 := h
      omega
    · exact g
theorem nmLen_le (r : List UInt8) : nmLen r ≤ r.length := by
  have h1 := dgN_le r
  have h2 := dgN_le (r.drop (dgN r + 1))
  rw [List.length_drop] at h2
  unfold nmLen
  split
  · rename_i h
    unfold ptN at h
    rw [Bool.and_eq_true] at h
    have := (List.getElem?_eq_some_iff.1 (eq_of_beq h.1)).1
    omega
  · exact h1
theorem letter_is {c : Int} {b : Bool} (h : letB c = b) (w : World) : Calls Try.prog 14 #[.int .u8 c] w fun e w' => e = .returned (.bool b) ∧ w = w' := by
  rw [← h]
  exact letter_any c w
open Go.Sy in
set_option maxRecDepth 100000 in
theorem token_any (s : List UInt8) (k : Nat) (hs : s.length ≤ 1048576) (hk : k < s.length) (w : World) :
    Calls Try.prog 10 #[.string (str s), .int .i64 (k : Int)] w fun e w' => e = .returned (.tuple #[.agg (tCells (tokR (s.drop k)) (s.drop k) k), .agg (fCells (tokR (s.drop k)) k)]) ∧ Below w.heap.size w w' := by
  obtain ⟨r, hr⟩ : ∃ r, r = s.drop k := ⟨_, rfl⟩
  obtain ⟨c, hc⟩ : ∃ c, c = s[k] := ⟨_, rfl⟩
  have hrc : r = c :: s.drop (k + 1) := by rw [hr, hc]; exact List.drop_eq_getElem_cons hk
  have htc : tokR r = tokC (c.toNat : Int) r := by rw [hrc]; rfl
  have hix := fun W => run_idx0 s k hk W
  have hnum := fun hd W => number_any s k hs hk hd W
  rw [← hc] at hix hnum
  rw [← hr] at hnum ⊢
  refine Sy.enter (vs := [.string (str s), .int .i64 (k : Int)]) sy_fine Try.func10 rfl (fun γ => LR.vs _) rfl (fun γ0 hγ0 => ?_)
  refine run_ok (sy_cx _ _) 0 [14] 60 0 ?_
  refine good_val (.int .u8 (c.toNat : Int)) (S := Instr.index 9 (.string (str s)) (.int .i64 (k : Int))) (by kernel_rfl) (fun w _ => hix w) ?_
  refine good_callP (sy_cx _ _) [.int .u8 (c.toNat : Int)] (.bool (letB (c.toNat : Int))) (by kernel_rfl) (by kernel_rfl) (by kernel_rfl) (fun w _ => letter_any _ w) ?_
  refine run_ok (sy_cx _ _) 0 [] 60 0 ?_
  refine good_cond (b := letB (c.toNat : Int)) (by kernel_rfl) (fun hle => ?_) (fun hle => ?_)
  · obtain ⟨E, hE⟩ : ∃ E, E = runL nmB s k := ⟨_, rfl⟩
    have hEr : E = k + nmRun r := by rw [hE, hr]; rfl
    have hlen := runL_le nmB s k (by omega)
    have HRU := fun W => run_any 15 nmB s k W hs (by omega) (fun args w => by simp [go_sem]) (fun c w => token1_any c w)
    rw [← hE] at HRU hlen
    refine run_ok (sy_cx _ _) 0 [] 60 0 ?_
    refine good_callP (sy_cx _ _) [.string (str s), .int .i64 (k : Int), .func (.func 15) #[] #[]] (.int .i64 (E : Int)) (by kernel_rfl) (by kernel_rfl) (by kernel_rfl) (fun w _ => HRU w) ?_
    refine run_ok (sy_cx _ _) 0 [] 60 0 ?_
    by_cases h24 : 24 < nmRun r
    · have HR := t_bad (k := k) (r := r) (e := 5) (n := 0) (by decide) (by rw [htc]; unfold tokC; rw [hle, if_pos rfl, if_pos h24])
      rw [Nat.add_zero] at HR
      refine good_take true (b := intLt 24 (wrapF .i64 ((E : Int) - (k : Int)))) (by kernel_rfl) (by rw [wr64 (by omega) (by omega)]; exact lt_t (by omega)) ?_
      refine run_ok (sy_cx _ _) 0 [] 60 0 ?_
      refine good_endV (.tuple #[.agg (tkC 0 [] 0 0 0), .agg (fC 5 (k : Nat))]) (by kernel_rfl) (fun W hk => ⟨by rw [HR.1, HR.2], hk.below⟩)
    · have HR := t_ok (k := k) (r := r) (by rw [htc]; unfold tokC; rw [hle, if_pos rfl, if_neg h24])
      refine good_take false (b := intLt 24 (wrapF .i64 ((E : Int) - (k : Int)))) (by kernel_rfl) (by rw [wr64 (by omega) (by omega)]; exact lt_f (by omega)) ?_
      refine run_ok (sy_cx _ _) 0 [29] 60 0 ?_
      obtain ⟨T, hT⟩ : ∃ T, T = r.take (nmRun r) := ⟨_, rfl⟩
      rw [← hT] at HR
      refine good_val (.string (str T)) (S := Instr.sliceAt 9 (.string (str s)) (some (.int .i64 (k : Int))) (some (.int .i64 (E : Int))) none) (by kernel_rfl) (fun w _ => slice_str s k E (by omega) (by omega) T (by rw [← hr, hT, hEr]; congr 1; omega) _ Try.underlying9 w) ?_
      refine run_ok (sy_cx _ _) 0 [] 60 0 ?_
      refine good_endV (.tuple #[.agg (tkC 1 T k 0 0), .agg (fC 0 0)]) (by kernel_rfl) (fun W hk => ⟨by rw [HR.1, HR.2], hk.below⟩)
  · refine run_ok (sy_cx _ _) 0 [36] 60 0 ?_
    refine good_val (.int .u8 (c.toNat : Int)) (S := Instr.index 9 (.string (str s)) (.int .i64 (k : Int))) (by kernel_rfl) (fun w _ => hix w) ?_
    refine good_callP (sy_cx _ _) [.int .u8 (c.toNat : Int)] (.bool (digI (c.toNat : Int))) (by kernel_rfl) (by kernel_rfl) (by kernel_rfl) (fun w _ => digit_any _ w) ?_
    refine run_ok (sy_cx _ _) 0 [] 60 0 ?_
    refine good_cond (b := digI (c.toNat : Int)) (by kernel_rfl) (fun hdi => ?_) (fun hdi => ?_)
    · refine run_ok (sy_cx _ _) 0 [] 60 0 ?_
      obtain ⟨T, hT⟩ : ∃ T, T = nmTxt r := ⟨_, rfl⟩
      obtain ⟨kd, hkd⟩ : ∃ kd, kd = nmK r := ⟨_, rfl⟩
      obtain ⟨ty, hty⟩ : ∃ ty, ty = nmT r := ⟨_, rfl⟩
      obtain ⟨va, hva⟩ : ∃ va, va = nmV r := ⟨_, rfl⟩
      have hN := hnum hdi
      rw [← hT, ← hkd, ← hty, ← hva] at hN
      refine good_callB (sy_cx _ _) [.string (str s), .int .i64 (k : Int)] (.tuple #[.agg (tkC kd T k ty va), .bool (nmOk r)]) (by kernel_rfl) (by kernel_rfl) (by kernel_rfl) (fun w _ => hN w) ?_
      refine run_ok (sy_cx _ _) 0 [] 60 0 ?_
      refine good_cond (b := !(nmOk r)) (by kernel_rfl) (fun hok => ?_) (fun hok => ?_)
      · have hok : nmOk r = false := by simpa using hok
        have HR := t_bad (k := k) (r := r) (e := 4) (n := 0) (by decide) (by rw [htc]; unfold tokC; rw [hle, hdi, if_neg (by decide), if_pos rfl, hok, if_neg (by decide)])
        rw [Nat.add_zero] at HR
        refine run_ok (sy_cx _ _) 0 [] 60 0 ?_
        refine good_endV (.tuple #[.agg (tkC 0 [] 0 0 0), .agg (fC 4 (k : Nat))]) (by kernel_rfl) (fun W hk => ⟨by rw [HR.1, HR.2], hk.below⟩)
      · have hok : nmOk r = true := by simpa using hok
        obtain ⟨F, hF⟩ : ∃ F, F = k + nmLen r := ⟨_, rfl⟩
        have hrl : r.length = s.length - k := by rw [hr, List.length_drop]
        have hnl := nmLen_le r
        have hTl : T.length = nmLen r := by rw [hT]; unfold nmTxt; rw [List.length_take]; omega
        refine run_ok (sy_cx _ _) 0 [54] 60 0 ?_
        refine good_set 9 (x := .int .i64 (wrapF .i64 ((k : Int) + ((str T).size : Nat)))) (.int .i64 (F : Int)) (by kernel_rfl) (by rw [str_size, wr64 (by omega) (by omega)]; congr 1; omega) ?_
        refine run_ok (sy_cx _ _) 0 [59] 60 0 ?_
        by_cases hFs : F < s.length
        · obtain ⟨d, hd⟩ : ∃ d, d = s[F] := ⟨_, rfl⟩
          have her : ∀ j, r[j]? = s[k + j]? := fun j => by rw [hr, List.getElem?_drop]
          have hrd : r[nmLen r]? = some d := by rw [her, ← hF, List.getElem?_eq_getElem hFs, hd]
          have hix2 := fun W => run_idx0 s F hFs W
          rw [← hd] at hix2
          refine good_set 58 (x := .bool (intLt (F : Int) ((str s).size : Nat))) (.bool true) (by kernel_rfl) (by rw [str_size]; congr 1; exact lt_t (by omega)) ?_
          refine run_ok (sy_cx _ _) 0 [61] 60 0 ?_
          refine good_val (.int .u8 (d.toNat : Int)) (S := Instr.index 9 (.string (str s)) (.int .i64 (F : Int))) (by kernel_rfl) (fun w _ => hix2 w) ?_
          refine good_callP (sy_cx _ _) [.int .u8 (d.toNat : Int)] (.bool (letB (d.toNat : Int))) (by kernel_rfl) (by kernel_rfl) (by kernel_rfl) (fun w _ => letter_any _ w) ?_
          refine run_ok (sy_cx _ _) 0 [64] 60 0 ?_
          rcases Bool.eq_false_or_eq_true (letB (d.toNat : Int)) with hld | hld
          ·
            have HR := t_bad (k := k) (r := r) (e := 4) (n := nmLen r) (by decide) (by rw [htc]; unfold tokC; rw [hle, hdi, if_neg (by decide), if_pos rfl, hok, if_pos rfl, hrd, if_pos (show stopB (some d) = true by show (letB (d.toNat : Int) || (d.toNat : Int) == 46) = true; rw [hld]; rfl)])
            rw [← hF] at HR
            refine good_set 63 (x := .bool (letB (d.toNat : Int))) (.bool true) (by kernel_rfl) (by rw [hld]) ?_
            refine run_ok (sy_cx _ _) 0 [] 60 1 ?_
            refine good_endV (.tuple #[.agg (tkC 0 [] 0 0 0), .agg (fC 4 (F : Nat))]) (by kernel_rfl) (fun W hk => ⟨by rw [HR.1, HR.2], hk.below⟩)
          ·
            refine good_set 63 (x := .bool (letB (d.toNat : Int))) (.bool false) (by kernel_rfl) (by rw [hld]) ?_
            refine run_ok (sy_cx _ _) 0 [66] 60 0 ?_
            refine good_val (.int .u8 (d.toNat : Int)) (S := Instr.index 9 (.string (str s)) (.int .i64 (F : Int))) (by kernel_rfl) (fun w _ => hix2 w) ?_
            refine run_ok (sy_cx _ _) 0 [] 60 0 ?_
            refine good_cond (b := intEq (d.toNat : Int) 46) (by kernel_rfl) (fun h46 => ?_) (fun h46 => ?_)
            · rw [intEq_eq] at h46
              have HR := t_bad (k := k) (r := r) (e := 4) (n := nmLen r) (by decide) (by rw [htc]; unfold tokC; rw [hle, hdi, if_neg (by decide), if_pos rfl, hok, if_pos rfl, hrd, if_pos (show stopB (some d) = true by show (letB (d.toNat : Int) || (d.toNat : Int) == 46) = true; rw [hld]; simpa using h46)])
              rw [← hF] at HR
              refine run_ok (sy_cx _ _) 0 [] 60 0 ?_
              refine good_endV (.tuple #[.agg (tkC 0 [] 0 0 0), .agg (fC 4 (F : Nat))]) (by kernel_rfl) (fun W hk => ⟨by rw [HR.1, HR.2], hk.below⟩)
            · rw [intEq_eq] at h46
              have HR := t_ok (k := k) (r := r) (by rw [htc]; unfold tokC; rw [hle, hdi, if_neg (by decide), if_pos rfl, hok, if_pos rfl, hrd, if_neg (show ¬ stopB (some d) = true by show ¬ (letB (d.toNat : Int) || (d.toNat : Int) == 46) = true; rw [hld]; simpa using h46)])
              rw [show r.take (nmLen r) = T from hT.symm, ← hkd, ← hty, ← hva] at HR
              refine run_ok (sy_cx _ _) 0 [] 60 0 ?_
              refine good_endV (.tuple #[.agg (tkC kd T k ty va), .agg (fC 0 0)]) (by kernel_rfl) (fun W hk => ⟨by rw [HR.1, HR.2], hk.below⟩)
        · have hrd : r[nmLen r]? = none := by rw [List.getElem?_eq_none]; omega
          have HR := t_ok (k := k) (r := r) (by rw [htc]; unfold tokC; rw [hle, hdi, if_neg (by decide), if_pos rfl, hok, if_pos rfl, hrd, if_neg (show ¬ stopB none = true by decide)])
          rw [show r.take (nmLen r) = T from hT.symm, ← hkd, ← hty, ← hva] at HR
          refine good_set 58 (x := .bool (intLt (F : Int) ((str s).size : Nat))) (.bool false) (by kernel_rfl) (by rw [str_size]; congr 1; exact lt_f (by omega)) ?_
          refine run_ok (sy_cx _ _) 0 [] 60 1 ?_
          refine good_endV (.tuple #[.agg (tkC kd T k ty va), .agg (fC 0 0)]) (by kernel_rfl) (fun W hk => ⟨by rw [HR.1, HR.2], hk.below⟩)
    · refine run_ok (sy_cx _ _) 0 [] 60 0 ?_
      have hsg := fun W => sign_any s k hs hk W
      rw [← hr] at hsg
      obtain ⟨n, hn⟩ : ∃ n, n = signN r := ⟨_, rfl⟩
      rw [← hn] at hsg
      refine good_callP (sy_cx _ _) [.string (str s), .int .i64 (k : Int)] (.int .i64 (n : Int)) (by kernel_rfl) (by kernel_rfl) (by kernel_rfl) (fun w _ => hsg w) ?_
      refine run_ok (sy_cx _ _) 0 [] 60 0 ?_
      refine good_cond (b := intEq (n : Int) 0) (by kernel_rfl) (fun h0 => ?_) (fun h0 => ?_)
      · rw [intEq_eq] at h0
        have n0 : n = 0 := by have := of_decide_eq_true h0; omega
        have HR := t_bad (k := k) (r := r) (e := 4) (n := 0) (by decide) (by rw [htc]; unfold tokC; rw [hle, hdi, if_neg (by decide), if_neg (by decide), ← hn, if_pos n0])
        rw [Nat.add_zero] at HR
        refine run_ok (sy_cx _ _) 0 [] 60 0 ?_
        refine good_endV (.tuple #[.agg (tkC 0 [] 0 0 0), .agg (fC 4 (k : Nat))]) (by kernel_rfl) (fun W hk => ⟨by rw [HR.1, HR.2], hk.below⟩)
      · rw [intEq_eq] at h0
        have n0 : n ≠ 0 := by have := of_decide_eq_false h0; omega
        have HR := t_ok (k := k) (r := r) (by rw [htc]; unfold tokC; rw [hle, hdi, if_neg (by decide), if_neg (by decide), ← hn, if_neg n0])
        have hnl : k + n ≤ s.length := by
          have h1 : n ≤ 2 := by rw [hn, hrc]; exact signN_le _
          have h2 : n = 2 → k + 1 < s.length := fun e => by
            rw [hn] at e
            have := signN_two e
            rw [hr, List.length_drop] at this
            omega
          omega
        obtain ⟨T, hT⟩ : ∃ T, T = r.take n := ⟨_, rfl⟩
        rw [← hT] at HR
        refine run_ok (sy_cx _ _) 0 [88] 60 0 ?_
        refine good_set 87 (x := .int .i64 (wrapF .i64 ((k : Int) + (n : Int)))) (.int .i64 ((k + n : Nat) : Int)) (by kernel_rfl) (by rw [wr64 (by omega) (by omega)]; congr 1) ?_
        refine good_val (.string (str T)) (S := Instr.sliceAt 9 (.string (str s)) (some (.int .i64 (k : Int))) (some (.int .i64 ((k + n : Nat) : Int))) none) (by kernel_rfl) (fun w _ => slice_str s k (k + n) (by omega) (by omega) T (by rw [← hr, hT]; congr 1; omega) _ Try.underlying9 w) ?_
        refine run_ok (sy_cx _ _) 0 [] 60 0 ?_
        refine good_endV (.tuple #[.agg (tkC 4 T k 0 0), .agg (fC 0 0)]) (by kernel_rfl) (fun W hk => ⟨by rw [HR.1, HR.2], hk.below⟩)
end Go.Proofs.Ytiacalnkmnckjaa
