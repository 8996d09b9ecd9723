/- What between of the statements' package answers, on blanks and comments; the chapter's examples. No conditions but those in each theorem. -/
import Derived.Test.YtiacalnkmnckjaaLxG
namespace Go.Proofs.Ytiacalnkmnckjaa
open Go.RowKit Go.As
set_option linter.unusedVariables false
set_option linter.unusedSimpArgs false

/-- blanks and comments? (true: in a comment) -/
def betB : Bool → List UInt8 → Bool
  | _, [] => true
  | nt, c :: r => if c.toNat = 10 then betB false r else if c.toNat = 35 then betB true r else if nt = true then betB true r else if c.toNat = 9 ∨ c.toNat = 13 ∨ c.toNat = 32 then betB false r else false
theorem betB_drop (s : List UInt8) (k : Nat) (hk : k < s.length) (nt : Bool) (h : betB nt (s.drop k) = true) :
    (s[k].toNat = 10 ∧ betB false (s.drop (k + 1)) = true) ∨ (s[k].toNat = 35 ∧ betB true (s.drop (k + 1)) = true) ∨ (s[k].toNat ≠ 10 ∧ s[k].toNat ≠ 35 ∧ nt = true ∧ betB true (s.drop (k + 1)) = true) ∨
      (s[k].toNat ≠ 10 ∧ s[k].toNat ≠ 35 ∧ nt = false ∧ (s[k].toNat = 9 ∨ s[k].toNat = 13 ∨ s[k].toNat = 32) ∧ betB false (s.drop (k + 1)) = true) := by
  rw [List.drop_eq_getElem_cons hk] at h
  unfold betB at h
  split at h
  · exact .inl ⟨by assumption, h⟩
  split at h
  · exact .inr (.inl ⟨by assumption, h⟩)
  split at h
  · exact .inr (.inr (.inl ⟨by assumption, by assumption, by assumption, h⟩))
  split at h
  · exact .inr (.inr (.inr ⟨by assumption, by assumption, by cases nt <;> simp_all, by assumption, h⟩))
  · cases h
structure BtI where
  k : Nat
  nt : Bool
open Go.Sy in
set_option maxRecDepth 100000 in
theorem between_ok (s : List UInt8) (hs : s.length ≤ 1048576) (h : betB false s = true) (w : World) : Calls Try.prog 8 #[.string (str s)] w fun e w' => e = .returned (.bool true) ∧ Below w.heap.size w w' := by
  refine Sy.enter (vs := [.string (str s)]) sy_fine Try.func8 rfl (fun γ => LR.vs _) rfl (fun γ0 hγ0 => ?_)
  refine run_ok (sy_cx _ _) 0 [] 60 0 ?_
  refine good_toLp ?_
  refine good_loopI (fun i : BtI => s.length - i.k) (fun i => i.k ≤ s.length ∧ betB i.nt (s.drop i.k) = true) (fun i => ⟨mkT [(0, .v (.string (str s))), (3, .v (.bool i.nt)), (4, .v (.int .i64 (i.k : Int)))], mkH [], Try.prog.globals.size, []⟩)
    ⟨0, false⟩ ⟨Nat.zero_le _, h⟩ (by kernel_rfl)
    (fun h => good_sub _ [(0, .v (.string (str s))), (3, .v (.bool false)), (4, .v (.int .i64 (0 : Nat)))] [] Try.prog.globals.size rfl (by kernel_rfl) (by kernel_rfl) (by kernel_rfl) (by kernel_rfl) (by kernel_rfl) hγ0 (by kernel_rfl) h) ?_
  rintro ⟨k, nt⟩ ⟨i1, i2⟩ ih
  simp only at i1 i2
  refine run_ok (sy_cx _ _) 0 [] 60 0 ?_
  by_cases hlt : k < s.length
  · refine good_take true (b := intLt (k : Int) ((str s).size : Nat)) (by kernel_rfl) (by rw [str_size]; exact lt_t (by omega)) ?_
    have hix := fun W => run_idx0 s k hlt W
    have hcs := betB_drop s k hlt nt i2
    obtain ⟨c, hc⟩ : ∃ c, c = s[k] := ⟨_, rfl⟩
    rw [← hc] at hix hcs
    refine run_ok (sy_cx _ _) 0 [14] 60 0 ?_
    refine good_val (.int .u8 (c.toNat : Int)) (S := Instr.index 9 (.string (str s)) (.int .i64 (k : Int))) (by kernel_rfl) (fun w _ => hix w) ?_
    refine run_ok (sy_cx _ _) 0 [] 60 0 ?_
    rcases hcs with ⟨h10, hn⟩ | ⟨h35, hn⟩ | ⟨h10, h35, hnt, hn⟩ | ⟨h10, h35, hnt, hbl, hn⟩
    · refine good_take true (b := intEq (c.toNat : Int) 10) (by kernel_rfl) (eq_t (by omega)) ?_
      refine run_ok (sy_cx _ _) 0 [] 60 0 ?_
      refine good_take false (b := intEq (c.toNat : Int) 35) (by kernel_rfl) (eq_f (by omega)) ?_
      refine run_ok (sy_cx _ _) 0 [26] 60 0 ?_
      refine good_set 25 (x := .bool (not (intEq (c.toNat : Int) 9))) (.bool true) (by kernel_rfl) (by rw [eq_f (show (c.toNat : Int) ≠ 9 by omega)]; rfl) ?_
      refine run_ok (sy_cx _ _) 0 [30] 60 0 ?_
      refine good_set 29 (x := .bool (not (intEq (c.toNat : Int) 10))) (.bool false) (by kernel_rfl) (by rw [eq_t (show (c.toNat : Int) = 10 by omega)]; rfl) ?_
      refine run_ok (sy_cx _ _) 0 [] 60 1 ?_
      refine good_set 4 (x := .int .i64 (wrapF .i64 ((k : Int) + 1))) (.int .i64 ((k + 1 : Nat) : Int)) (by kernel_rfl) (by rw [wr64 (by omega) (by omega)]; rfl) ?_
      exact good_sub _ [(0, .v (.string (str s))), (3, .v (.bool false)), (4, .v (.int .i64 ((k + 1 : Nat) : Int)))] [] Try.prog.globals.size (by kernel_rfl) (by kernel_rfl) (by kernel_rfl) (by kernel_rfl) (by kernel_rfl) (by kernel_rfl) hγ0 (by kernel_rfl)
        (ih ⟨k + 1, false⟩ ⟨hlt, hn⟩ (by show s.length - (k + 1) < s.length - k; omega))
    · refine good_take false (b := intEq (c.toNat : Int) 10) (by kernel_rfl) (eq_f (by omega)) ?_
      refine run_ok (sy_cx _ _) 0 [] 60 0 ?_
      refine good_take true (b := intEq (c.toNat : Int) 35) (by kernel_rfl) (eq_t (by omega)) ?_
      refine run_ok (sy_cx _ _) 0 [] 60 1 ?_
      refine good_set 4 (x := .int .i64 (wrapF .i64 ((k : Int) + 1))) (.int .i64 ((k + 1 : Nat) : Int)) (by kernel_rfl) (by rw [wr64 (by omega) (by omega)]; rfl) ?_
      exact good_sub _ [(0, .v (.string (str s))), (3, .v (.bool true)), (4, .v (.int .i64 ((k + 1 : Nat) : Int)))] [] Try.prog.globals.size (by kernel_rfl) (by kernel_rfl) (by kernel_rfl) (by kernel_rfl) (by kernel_rfl) (by kernel_rfl) hγ0 (by kernel_rfl)
        (ih ⟨k + 1, true⟩ ⟨hlt, hn⟩ (by show s.length - (k + 1) < s.length - k; omega))
    · subst hnt
      refine good_take false (b := intEq (c.toNat : Int) 10) (by kernel_rfl) (eq_f (by omega)) ?_
      refine run_ok (sy_cx _ _) 0 [] 60 0 ?_
      refine good_take false (b := intEq (c.toNat : Int) 35) (by kernel_rfl) (eq_f (by omega)) ?_
      refine run_ok (sy_cx _ _) 0 [] 60 1 ?_
      refine good_set 4 (x := .int .i64 (wrapF .i64 ((k : Int) + 1))) (.int .i64 ((k + 1 : Nat) : Int)) (by kernel_rfl) (by rw [wr64 (by omega) (by omega)]; rfl) ?_
      exact good_sub _ [(0, .v (.string (str s))), (3, .v (.bool true)), (4, .v (.int .i64 ((k + 1 : Nat) : Int)))] [] Try.prog.globals.size (by kernel_rfl) (by kernel_rfl) (by kernel_rfl) (by kernel_rfl) (by kernel_rfl) (by kernel_rfl) hγ0 (by kernel_rfl)
        (ih ⟨k + 1, true⟩ ⟨hlt, hn⟩ (by show s.length - (k + 1) < s.length - k; omega))
    · subst hnt
      refine good_take false (b := intEq (c.toNat : Int) 10) (by kernel_rfl) (eq_f (by omega)) ?_
      refine run_ok (sy_cx _ _) 0 [] 60 0 ?_
      refine good_take false (b := intEq (c.toNat : Int) 35) (by kernel_rfl) (eq_f (by omega)) ?_
      refine run_ok (sy_cx _ _) 0 [26] 60 0 ?_
      by_cases h9 : c.toNat = 9
      · refine good_set 25 (x := .bool (not (intEq (c.toNat : Int) 9))) (.bool false) (by kernel_rfl) (by rw [eq_t (show (c.toNat : Int) = 9 by omega)]; rfl) ?_
        refine run_ok (sy_cx _ _) 0 [] 60 1 ?_
        refine good_set 4 (x := .int .i64 (wrapF .i64 ((k : Int) + 1))) (.int .i64 ((k + 1 : Nat) : Int)) (by kernel_rfl) (by rw [wr64 (by omega) (by omega)]; rfl) ?_
        exact good_sub _ [(0, .v (.string (str s))), (3, .v (.bool false)), (4, .v (.int .i64 ((k + 1 : Nat) : Int)))] [] Try.prog.globals.size (by kernel_rfl) (by kernel_rfl) (by kernel_rfl) (by kernel_rfl) (by kernel_rfl) (by kernel_rfl) hγ0 (by kernel_rfl)
          (ih ⟨k + 1, false⟩ ⟨hlt, hn⟩ (by show s.length - (k + 1) < s.length - k; omega))
      · refine good_set 25 (x := .bool (not (intEq (c.toNat : Int) 9))) (.bool true) (by kernel_rfl) (by rw [eq_f (show (c.toNat : Int) ≠ 9 by omega)]; rfl) ?_
        refine run_ok (sy_cx _ _) 0 [30] 60 0 ?_
        refine good_set 29 (x := .bool (not (intEq (c.toNat : Int) 10))) (.bool true) (by kernel_rfl) (by rw [eq_f (show (c.toNat : Int) ≠ 10 by omega)]; rfl) ?_
        refine run_ok (sy_cx _ _) 0 [34] 60 0 ?_
        by_cases h13 : c.toNat = 13
        · refine good_set 33 (x := .bool (not (intEq (c.toNat : Int) 13))) (.bool false) (by kernel_rfl) (by rw [eq_t (show (c.toNat : Int) = 13 by omega)]; rfl) ?_
          refine run_ok (sy_cx _ _) 0 [] 60 1 ?_
          refine good_set 4 (x := .int .i64 (wrapF .i64 ((k : Int) + 1))) (.int .i64 ((k + 1 : Nat) : Int)) (by kernel_rfl) (by rw [wr64 (by omega) (by omega)]; rfl) ?_
          exact good_sub _ [(0, .v (.string (str s))), (3, .v (.bool false)), (4, .v (.int .i64 ((k + 1 : Nat) : Int)))] [] Try.prog.globals.size (by kernel_rfl) (by kernel_rfl) (by kernel_rfl) (by kernel_rfl) (by kernel_rfl) (by kernel_rfl) hγ0 (by kernel_rfl)
            (ih ⟨k + 1, false⟩ ⟨hlt, hn⟩ (by show s.length - (k + 1) < s.length - k; omega))
        · refine good_set 33 (x := .bool (not (intEq (c.toNat : Int) 13))) (.bool true) (by kernel_rfl) (by rw [eq_f (show (c.toNat : Int) ≠ 13 by omega)]; rfl) ?_
          refine run_ok (sy_cx _ _) 0 [] 60 0 ?_
          refine good_take false (b := not (intEq (c.toNat : Int) 32)) (by kernel_rfl) (by rw [eq_t (show (c.toNat : Int) = 32 by omega)]; rfl) ?_
          refine run_ok (sy_cx _ _) 0 [] 60 0 ?_
          refine good_set 4 (x := .int .i64 (wrapF .i64 ((k : Int) + 1))) (.int .i64 ((k + 1 : Nat) : Int)) (by kernel_rfl) (by rw [wr64 (by omega) (by omega)]; rfl) ?_
          exact good_sub _ [(0, .v (.string (str s))), (3, .v (.bool false)), (4, .v (.int .i64 ((k + 1 : Nat) : Int)))] [] Try.prog.globals.size (by kernel_rfl) (by kernel_rfl) (by kernel_rfl) (by kernel_rfl) (by kernel_rfl) (by kernel_rfl) hγ0 (by kernel_rfl)
            (ih ⟨k + 1, false⟩ ⟨hlt, hn⟩ (by show s.length - (k + 1) < s.length - k; omega))
  · refine good_take false (b := intLt (k : Int) ((str s).size : Nat)) (by kernel_rfl) (by rw [str_size]; exact lt_f (by omega)) ?_
    refine run_ok (sy_cx _ _) 0 [] 60 0 ?_
    refine good_endV (.bool true) (by kernel_rfl) (fun W hk => ⟨rfl, hk.below⟩)
set_option maxRecDepth 100000 in
theorem lexKnown_reckoned : Go.Sy.okTrue (Go.Sy.reckon Try.prog syI 1000 3 []) = true := by kernel_rfl
theorem lexKnown_ok (w : World) : Calls Try.prog 3 #[] w fun e w' => e = .returned (.bool true) ∧ Below w.heap.size w w' :=
  Go.Sy.reckon_true sy_mixed sy_fine Try.func3 (by kernel_rfl) lexKnown_reckoned w trivial
end Go.Proofs.Ytiacalnkmnckjaa
