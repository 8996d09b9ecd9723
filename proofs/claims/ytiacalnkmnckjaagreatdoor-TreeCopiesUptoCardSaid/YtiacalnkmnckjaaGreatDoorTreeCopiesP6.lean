/- Texts of this proof, one behind the other. Conditions: those in each theorem. -/
import Derived.Test.YtiacalnkmnckjaaGreatDoorTreeCopiesP5
import Derived.Test.YtiacalnkmnckjaaGreatDoorTreeCopiesP4
import Derived.Test.YtiacalnkmnckjaaGreatDoorRows
import Derived.Laws.Externs
section
/- The reckoner: blocks of the run's own that stay for a while. Any program; the conditions are in each theorem. -/
noncomputable section
namespace Go.Sy
open Go Go.RowKit
set_option linter.unusedVariables false
set_option linter.unusedSimpArgs false

def blkOwn (o : Bool) : Blk → Blk
  | .cells ty _ cl ex lim cs => .cells ty o cl ex lim cs
  | b => b
def plainH (b off : Nat) (x : Value) (h : Hp) : Hp := match h.get b with
  | some (.cells ty o cl ex lim cs) => h.put b (some (.cells ty o cl ex lim (cs.put off (some (.v x)))))
  | _ => h
def cellAt (b off : Nat) (h : Hp) : Bool := match h.get b with
  | some (.cells _ _ _ _ lim cs) => match cs.get off with
    | some _ => Nat.blt off lim
    | none => false
  | _ => false
def isOwnCells : Option Blk → Bool
  | some (.cells _ true _ _ _ _) => true
  | _ => false
def isCells : Option Blk → Bool
  | some (.cells _ _ _ _ _ _) => true
  | _ => false
/-- these blocks may not be written from here on (o = false), or may again -/
def lockH (o : Bool) : List Nat → Hp → Hp
  | [], h => h
  | b :: l, h => (lockH o l h).put b ((h.get b).map (blkOwn o))
theorem lockH_get (o : Bool) : ∀ (l : List Nat) (h : Hp) (b : Nat), (lockH o l h).get b = if hasNat b l = true then (h.get b).map (blkOwn o) else h.get b
  | [], h, b => by simp [lockH, hasNat]
  | x :: l, h, b => by
    simp only [lockH]
    rw [Tr.get_put]
    by_cases e : b = x
    · subst e
      rw [if_pos rfl, if_pos (hasNat_iff.2 (List.mem_cons_self))]
    · rw [if_neg e, lockH_get o l h b]
      by_cases hm : hasNat b l = true
      · rw [if_pos hm, if_pos (hasNat_iff.2 (List.mem_cons_of_mem _ (hasNat_iff.1 hm)))]
      · rw [if_neg hm, if_neg (fun h => hm (hasNat_iff.2 ((List.mem_cons.1 (hasNat_iff.1 h)).resolve_left e)))]
def lockG (o : Bool) (L : List Nat) (g : Cfg) : Cfg := ⟨g.k, ⟨g.s.T, lockH o L g.s.h, g.s.c, g.s.ds⟩⟩
def allOwn (L : List Nat) (h : Hp) (n : Nat) : Bool := L.all fun b => isOwnCells (h.get b) && Nat.blt b n
def allCells (L : List Nat) (h : Hp) : Bool := L.all fun b => isCells (h.get b)
section
variable {P : Program} {B : Nat → Prop} {w0 : World} {γ0 : Gm} {nt : Nat} {Q : Exit → Act → World → Prop} {g : Cfg}
theorem Good.up {γ1 : Gm} (h : Good P B w0 γ0 nt Q g) (hle : Gm.le γ0 γ1) : Good P B w0 γ1 nt Q g := ⟨fun γ a w h1 => h.out γ a w (hle.trans h1)⟩
theorem good_lock (L : List Nat) (c2 : Nat) (hL : allOwn L g.s.h c2 = true) (hγ : ∀ b, c2 ≤ b → γ0 b = none)
    (hg : ∀ γ1 B1 w1, Gm.le γ0 γ1 → (∀ b, c2 ≤ b → γ1 b = none) → (∀ k, B k → B1 k) → (∀ k, B1 k → k < w1.heap.size) → Keep B w0 w1 → (∀ b, hasNat b L = true → ∃ p, γ1 b = some p ∧ B1 p.1 ∧ ¬ B p.1) →
      Good P B1 w1 γ1 nt Q (lockG false L g)) : Good P B w0 γ0 nt Q g := by
  have hL' : ∀ b, hasNat b L = true → isOwnCells (g.s.h.get b) = true ∧ b < c2 := fun b hb => by
    have := List.all_eq_true.1 hL b (hasNat_iff.1 hb)
    rw [Bool.and_eq_true] at this
    exact ⟨this.1, blt_lt this.2⟩
  refine ⟨fun γ a w hle hf hr hb => ?_⟩
  have hown : ∀ b, hasNat b L = true → ∃ p, γ b = some p ∧ ¬ B p.1 ∧ p.1 < w.heap.size := fun b hbL => by
    obtain ⟨h1, _⟩ := hL' b hbL
    unfold isOwnCells at h1
    split at h1 <;> first | (cases h1; done) | skip
    rename_i ty cl ex lim cs hb1
    obtain ⟨p, hp, hbr⟩ := hr.live b _ hb1
    exact ⟨p, hp, hbr.1 rfl, hbr.lt⟩
  have hh := hg (γ.res c2) (fun k => B k ∨ ∃ b N, hasNat b L = true ∧ γ b = some (k, N)) w (fun b p hp => by
    rcases Nat.lt_or_ge b c2 with hlt | hge
    · exact Gm.res_some (hle b p hp) hlt
    · rw [hγ b hge] at hp; cases hp) (fun b hb1 => by unfold Gm.res; rw [if_neg (by omega)]) (fun k => .inl)
    (fun k hk => by
      rcases hk with hk | ⟨b, N, hbL, hγb⟩
      · exact hr.base k hk
      · obtain ⟨p, hp, _, hlt⟩ := hown b hbL
        rw [hγb] at hp
        injection hp with hp
        subst hp
        exact hlt) hb
    (fun b hbL => by
      obtain ⟨p, hp, hnB, _⟩ := hown b hbL
      exact ⟨p, Gm.res_some hp (hL' b hbL).2, .inr ⟨b, p.2, hbL, hp⟩, hnB⟩)
  refine hh.out γ a w (fun b p hp => ?_) hf ⟨fun b blk hb1 => ?_, fun b b' blk blk' p p' h1 h2 g1 g2 e => ?_, hr.fresh, hr.glob, fun k hk => ?_⟩ (Keep.refl _ _)
  · unfold Gm.res at hp
    split at hp
    · exact hp
    · cases hp
  · simp only [lockG] at hb1
    rw [lockH_get] at hb1
    split at hb1
    · rename_i hbL
      cases hb2 : g.s.h.get b with
      | none => rw [hb2] at hb1; cases hb1
      | some blk0 =>
        rw [hb2] at hb1
        simp only [Option.map_some, Option.some.injEq] at hb1
        subst hb1
        obtain ⟨p, hp, hbr⟩ := hr.live b _ hb2
        have h3 := (hL' b hbL).1
        rw [hb2] at h3
        cases blk0 with
        | cells ty own cl ex lim cs => exact ⟨p, hp, fun e => (by cases e), hbr.2⟩
        | map es clock => cases h3
        | row e xs => cases h3
    · rename_i hbL
      obtain ⟨p, hp, hbr⟩ := hr.live b _ hb1
      refine ⟨p, hp, ?_⟩
      have key : ¬ B p.1 → ¬ (B p.1 ∨ ∃ b N, hasNat b L = true ∧ γ b = some (p.1, N)) := by
        intro hnB hor
        rcases hor with h3 | ⟨b2, N, hb2L, hγ2⟩
        · exact hnB h3
        · obtain ⟨h4, _⟩ := hL' b2 hb2L
          have : ∃ blk2, g.s.h.get b2 = some blk2 := by
            cases hh2 : g.s.h.get b2 with
            | none => rw [hh2] at h4; cases h4
            | some blk2 => exact ⟨_, rfl⟩
          obtain ⟨blk2, hblk2⟩ := this
          have := hr.inj b b2 _ _ p (p.1, N) hb1 hblk2 hp hγ2 rfl
          subst this
          exact hbL hb2L
      cases blk with
      | cells ty own cl ex lim cs => exact ⟨fun e => key (hbr.1 e), hbr.2⟩
      | map es clock => exact ⟨key hbr.1, hbr.2⟩
      | row e xs => exact ⟨key hbr.1, hbr.2⟩
  · have get0 : ∀ {x y}, (lockG false L g).s.h.get x = some y → ∃ z, g.s.h.get x = some z := by
      intro x y hx
      simp only [lockG] at hx
      rw [lockH_get] at hx
      split at hx
      · cases hz : g.s.h.get x with
        | none => rw [hz] at hx; cases hx
        | some z => exact ⟨z, rfl⟩
      · exact ⟨_, hx⟩
    obtain ⟨z1, k1⟩ := get0 h1
    obtain ⟨z2, k2⟩ := get0 h2
    exact hr.inj _ _ _ _ _ _ k1 k2 g1 g2 e
  · rcases hk with hk | ⟨b, N, hbL, hγb⟩
    · exact hr.base k hk
    · obtain ⟨p, hp, _, hlt⟩ := hown b hbL
      rw [hγb] at hp
      injection hp with hp
      subst hp
      exact hlt
theorem good_unlock (L : List Nat) (hL : allCells L g.s.h = true) (hk : ∀ b, hasNat b L = true → ∃ p, γ0 b = some p)
    (hg : ∀ B2, (∀ k, B2 k → B k) → (∀ k, B k → (∀ b p, hasNat b L = true → γ0 b = some p → p.1 ≠ k) → B2 k) → Good P B2 w0 γ0 nt Q (lockG true L g)) : Good P B w0 γ0 nt Q g := by
  have hL' : ∀ b, hasNat b L = true → isCells (g.s.h.get b) = true := fun b hb => List.all_eq_true.1 hL b (hasNat_iff.1 hb)
  have hh := hg (fun k => B k ∧ ∀ b p, hasNat b L = true → γ0 b = some p → p.1 ≠ k) (fun k h => h.1) (fun k h1 h2 => ⟨h1, h2⟩)
  refine ⟨fun γ a w hle hf hr hb => hh.out γ a w hle hf ⟨fun b blk hb1 => ?_, fun b b' blk blk' p p' h1 h2 g1 g2 e => ?_, hr.fresh, hr.glob, fun k hk => hr.base k hk.1⟩ (hb.mono fun k h => h.1)⟩
  · simp only [lockG] at hb1
    rw [lockH_get] at hb1
    split at hb1
    · rename_i hbL
      cases hb2 : g.s.h.get b with
      | none => rw [hb2] at hb1; cases hb1
      | some blk0 =>
        rw [hb2] at hb1
        simp only [Option.map_some, Option.some.injEq] at hb1
        subst hb1
        obtain ⟨p, hp, hbr⟩ := hr.live b _ hb2
        have h3 := hL' b hbL
        rw [hb2] at h3
        cases blk0 with
        | cells ty own cl ex lim cs =>
          refine ⟨p, hp, fun _ hB2 => ?_, hbr.2⟩
          obtain ⟨p0, hp0⟩ := hk b hbL
          have := hle b p0 hp0
          rw [hp] at this
          injection this with this
          subst this
          exact hB2.2 b p hbL hp0 rfl
        | map es clock => cases h3
        | row e xs => cases h3
    · obtain ⟨p, hp, hbr⟩ := hr.live b _ hb1
      refine ⟨p, hp, ?_⟩
      cases blk with
      | cells ty own cl ex lim cs => exact ⟨fun e h => hbr.1 e h.1, hbr.2⟩
      | map es clock => exact ⟨fun h => hbr.1 h.1, hbr.2⟩
      | row e xs => exact ⟨fun h => hbr.1 h.1, hbr.2⟩
  · have get0 : ∀ {x y}, (lockG true L g).s.h.get x = some y → ∃ z, g.s.h.get x = some z := by
      intro x y hx
      simp only [lockG] at hx
      rw [lockH_get] at hx
      split at hx
      · cases hz : g.s.h.get x with
        | none => rw [hz] at hx; cases hx
        | some z => exact ⟨z, rfl⟩
      · exact ⟨_, hx⟩
    obtain ⟨z1, k1⟩ := get0 h1
    obtain ⟨z2, k2⟩ := get0 h2
    exact hr.inj _ _ _ _ _ _ k1 k2 g1 g2 e
/-- what lies in a cell is taken as it is -/
theorem good_plain (b off : Nat) (hc : cellAt b off g.s.h = true) (hg : ∀ x : Value, Good P B w0 γ0 nt Q ⟨g.k, ⟨g.s.T, plainH b off x g.s.h, g.s.c, g.s.ds⟩⟩) : Good P B w0 γ0 nt Q g := by
  unfold cellAt at hc
  split at hc <;> first | (cases hc; done) | skip
  rename_i ty o cl ex lim cs hb1
  split at hc <;> first | (cases hc; done) | skip
  rename_i av hav
  have hlt := blt_lt hc
  refine ⟨fun γ a w hle hf hr hb => ?_⟩
  obtain ⟨p, hp, hbr⟩ := hr.live b _ hb1
  obtain ⟨h0, c, ty', fz, h1, h2, h3, h4⟩ := hbr
  obtain ⟨x, hx1, hx2⟩ := h4 off av hlt hav
  have hh := (hg x).out γ a w hle hf ?_ hb
  · exact hh
  · unfold plainH
    rw [hb1]
    refine hr.turn hb1 hp (Nat.le_refl _) (fun _ _ _ => rfl) ⟨h0, c, ty', fz, h1, h2, h3, fun i a' hi hi' => ?_⟩
    rw [Tr.get_put] at hi'
    split at hi'
    · rename_i e
      subst e
      injection hi' with hi'
      subst hi'
      exact ⟨x, hx1, .v x⟩
    · exact h4 i a' hi hi'
end
end Go.Sy
end
end

section
/- What the machine asks of this program: its functions' names. Conditions: those in each theorem. -/
namespace Go.Proofs.YtiacalnkmnckjaaGreatDoor
open Go.RowKit Go.As Go.Sy
set_option linter.unusedVariables false

def evId (f : Nat) : Bool := Nat.beq f 195
theorem noEscape (x : Value) (w : World) : (callFunc 195 #[x]).run Tryz.prog w = .ok (.value x) w := by
  rw [run_callFunc_extern (P := Tryz.prog) Tryz.func195 (by kernel_rfl) (by kernel_rfl) (e := Extern.AbiNoEscape.same) (by kernel_rfl) (by kernel_rfl)]
  rfl
theorem evId_ok (f : Nat) (hf : evId f = true) (x : Value) (w : World) : (callFunc f #[x]).run Tryz.prog w = .ok (.value x) w := by
  have := Nat.eq_of_beq_eq_true hf
  subst this
  exact noEscape x w
def syI : Sy.Aux := ⟨evId, fun _ _ => none, fun _ => True⟩
theorem sy_fine : Sy.Fine Tryz.prog syI := Sy.fine_of evId_ok (fun f args av h => by cases h) (fun w w' h hb => trivial) (by kernel_rfl)
theorem sy_mixed : Tryz.prog.follows .mixedOrders = true := by kernel_rfl
theorem sy_cx (B : Nat → Prop) (w0 : World) : Sy.Cx Tryz.prog syI B w0 := ⟨sy_mixed, sy_fine, fun _ _ => trivial⟩
theorem wr64 {n : Int} (h1 : -9223372036854775808 ≤ n) (h2 : n < 9223372036854775808) : wrapF .i64 n = n := by rw [wrapF_eq, IntKind.wrap_i64]; omega
theorem lt_t {a b : Int} (h : a < b) : intLt a b = true := by rw [intLt_eq]; exact decide_eq_true h
theorem lt_f {a b : Int} (h : ¬ a < b) : intLt a b = false := by rw [intLt_eq]; exact decide_eq_false h
theorem eq_t {a b : Int} (h : a = b) : intEq a b = true := by rw [intEq_eq]; simp [h]
theorem eq_f {a b : Int} (h : a ≠ b) : intEq a b = false := by rw [intEq_eq]; simp [h]
theorem slice_str (s : List UInt8) (a b : Nat) (hab : a ≤ b) (hb : b ≤ s.length) (t : List UInt8) (ht : (s.drop a).take (b - a) = t) {P : Program} (ty : TypeId) (hu : P.underlying ty = some .string) (w : World) :
    (Instr.sliceAt ty (.string (str s)) (some (.int .i64 (a : Int))) (some (.int .i64 (b : Int))) none).run P w = .ok (.string (str t)) w := by
  rw [run_sliceAt_string _ _ _ _ _ _ hu]
  have h2 : (b : Int) ≤ ((str s).size : Nat) := by rw [str_size]; omega
  simp [Instr.slice, run_underlying hu, Instr.sliceBounds, run_sliceBound, h2, (by omega : (a : Int) ≤ b), str_extract, ht]
end Go.Proofs.YtiacalnkmnckjaaGreatDoor
end

section
/- Trees of expressions in memory; what Weight and Height of the statements' kit answer on any. No conditions but those in each theorem. -/
namespace Go.Proofs.YtiacalnkmnckjaaGreatDoor
open Go.RowKit Go.As
set_option linter.unusedVariables false
set_option linter.unusedSimpArgs false

/-- the first block of a run's own -/
noncomputable def gz : Nat := Tryz.prog.globals.size
inductive Ex where
  | mk (op ty bits : Int) (name : List UInt8) (kids : List Ex)
def Ex.kids : Ex → List Ex
  | .mk _ _ _ _ k => k
mutual
def wgt : Ex → Nat
  | .mk _ _ _ _ k => wgts k + 1
def wgts : List Ex → Nat
  | [] => 0
  | e :: l => wgt e + wgts l
end
theorem wgts_app : ∀ (l r : List Ex), wgts (l ++ r) = wgts l + wgts r
  | [], r => by simp [wgts]
  | e :: l, r => by
    rw [List.cons_append]
    simp only [wgts]
    rw [wgts_app l r]
    omega
theorem wgt_pos (e : Ex) : 0 < wgt e := by cases e; simp only [wgt]; omega
theorem wgts_len : ∀ (l : List Ex), l.length ≤ wgts l
  | [] => Nat.zero_le _
  | e :: l => by
    have := wgts_len l
    have := wgt_pos e
    simp only [wgts, List.length_cons]
    omega
mutual
def ExAt (F : Nat → Prop) (w : World) : Ex → List Value → Prop
  | .mk op ty bits name kids, cs => ∃ a cap xs, cs = [.int .u8 op, .int .u8 ty, .int .u64 bits, .string (str name), .slice a kids.length cap] ∧ Sy.SlAt F w a kids.length 5 xs ∧ ExsAt F w kids xs
def ExsAt (F : Nat → Prop) (w : World) : List Ex → List Value → Prop
  | [], xs => xs = []
  | e :: l, xs => ∃ c r, xs = c ++ r ∧ ExAt F w e c ∧ ExsAt F w l r
end
theorem ExAt.len {F : Nat → Prop} {w : World} {e : Ex} {cs : List Value} (h : ExAt F w e cs) : cs.length = 5 := by
  cases e
  simp only [ExAt] at h
  obtain ⟨a, cap, xs, rfl, _⟩ := h
  rfl
mutual
theorem ExAt.keep {F F' : Nat → Prop} {w w' : World} (hk : Sy.Keep F w w') (hF : ∀ k, F k → F' k) : ∀ {e : Ex} {cs : List Value}, ExAt F w e cs → ExAt F' w' e cs
  | .mk op ty bits name kids, cs, h => by
    simp only [ExAt] at h ⊢
    obtain ⟨a, cap, xs, h1, h2, h3⟩ := h
    exact ⟨a, cap, xs, h1, (h2.keep hk).mono hF, ExsAt.keep hk hF h3⟩
theorem ExsAt.keep {F F' : Nat → Prop} {w w' : World} (hk : Sy.Keep F w w') (hF : ∀ k, F k → F' k) : ∀ {l : List Ex} {xs : List Value}, ExsAt F w l xs → ExsAt F' w' l xs
  | [], xs, h => by simp only [ExsAt] at h ⊢; exact h
  | e :: l, xs, h => by
    simp only [ExsAt] at h ⊢
    obtain ⟨c, r, h1, h2, h3⟩ := h
    exact ⟨c, r, h1, ExAt.keep hk hF h2, ExsAt.keep hk hF h3⟩
end
theorem ExsAt.at_ {F : Nat → Prop} {w : World} : ∀ {l1 : List Ex} {e : Ex} {l3 : List Ex} {xs : List Value}, ExsAt F w (l1 ++ e :: l3) xs → ∃ c, ExAt F w e c ∧ ∀ j v, c[j]? = some v → xs[l1.length * 5 + j]? = some v
  | [], e, l3, xs, h => by
    simp only [List.nil_append, ExsAt] at h
    obtain ⟨c, r, rfl, h2, _⟩ := h
    refine ⟨c, h2, fun j v hv => ?_⟩
    rw [List.length_nil, Nat.zero_mul, Nat.zero_add, List.getElem?_append_left (List.getElem?_eq_some_iff.1 hv).1]
    exact hv
  | x :: l1, e, l3, xs, h => by
    simp only [List.cons_append, ExsAt] at h
    obtain ⟨c, r, rfl, h2, h3⟩ := h
    obtain ⟨c', h4, h5⟩ := ExsAt.at_ h3
    refine ⟨c', h4, fun j v hv => ?_⟩
    have hl := h2.len
    rw [List.length_cons, List.getElem?_append_right (by omega), show (l1.length + 1) * 5 + j - c.length = l1.length * 5 + j by omega]
    exact h5 j v hv
theorem ex_split (l : List Ex) (i : Nat) (h : i < l.length) : ∃ l1 e l3, l = l1 ++ e :: l3 ∧ l1.length = i :=
  ⟨l.take i, l[i], l.drop (i + 1), by rw [← List.drop_eq_getElem_cons h, List.take_append_drop], by rw [List.length_take]; omega⟩
open Go.Sy in
set_option maxRecDepth 100000 in
theorem weight_any : ∀ (N : Nat) (e : Ex) (cs : List Value) (w : World), wgt e ≤ N → wgt e ≤ 1099511627776 → ExAt (· < w.heap.size) w e cs →
    Calls Tryz.prog 13 #[.agg cs.toArray] w fun r w' => r = .returned (.int .i64 (wgt e : Nat)) ∧ Below w.heap.size w w' := by
  intro N
  induction N with
  | zero => intro e cs w h; have := wgt_pos e; omega
  | succ N ihN =>
    intro e cs w hN hbd hat
    obtain ⟨op, ty, bits, name, kids⟩ := e
    simp only [ExAt] at hat
    obtain ⟨a, cap, xs, rfl, hsl, hks⟩ := hat
    simp only [wgt] at hN hbd
    obtain ⟨n, hn⟩ : ∃ n, n = kids.length := ⟨_, rfl⟩
    have hnl := wgts_len kids
    rw [← hn] at hsl hnl ⊢
    refine Sy.enter (vs := [.agg #[.int .u8 op, .int .u8 ty, .int .u64 bits, .string (str name), .slice a n cap]]) sy_fine Tryz.func13 rfl (fun γ => norms_LR _) rfl (fun γ0 hγ0 => ?_)
    refine run_ok (sy_cx _ _) 0 [] 60 0 ?_
    refine good_toLp ?_
    refine good_loopI (fun i : List Ex × List Ex => i.2.length) (fun i => kids = i.1 ++ i.2) (fun i => ⟨mkT [(1, .ptr gz 0), (3, .v (.int .i64 ((wgts i.1 + 1 : Nat) : Int))), (4, .v (.int .i64 (i.1.length : Int)))], mkH [(gz, some (.cells 34 true true true 5 (putL .leaf 0 [.v (.int .u8 op), .v (.int .u8 ty), .v (.int .u64 bits), .v (.string (str name)), .v (.slice a n cap)])))], gz + 1, []⟩)
      ([], kids) rfl (by kernel_rfl)
      (fun h => good_sub _ [(1, .ptr gz 0), (3, .v (.int .i64 ((wgts [] + 1 : Nat) : Int))), (4, .v (.int .i64 (([] : List Ex).length : Int)))] [(gz, some (.cells 34 true true true 5 (putL .leaf 0 [.v (.int .u8 op), .v (.int .u8 ty), .v (.int .u64 bits), .v (.string (str name)), .v (.slice a n cap)])))] (gz + 1) rfl (by kernel_rfl) (by kernel_rfl) (by kernel_rfl) (by kernel_rfl) (by kernel_rfl) (fun b hb => hγ0 b (Nat.le_trans (Nat.le_succ _) hb)) (by kernel_rfl) h) ?_
    rintro ⟨l1, l2⟩ hI ih
    have hI : kids = l1 ++ l2 := hI
    have hn2 : n = l1.length + l2.length := by rw [hn, hI, List.length_append]
    have hw1 : wgts kids = wgts l1 + wgts l2 := by rw [hI, wgts_app]
    refine run_ok (sy_cx _ _) 0 [] 60 0 ?_
    cases l2 with
    | nil =>
      have hn3 : n = l1.length := by rw [hn2]; simp
      refine good_take false (b := intLt (l1.length : Int) (n : Int)) (by kernel_rfl) (lt_f (by omega)) ?_
      refine run_ok (sy_cx _ _) 0 [] 60 0 ?_
      refine good_endV (.int .i64 ((wgts l1 + 1 : Nat) : Int)) (by kernel_rfl) (fun W hk => ⟨?_, hk.below⟩)
      simp only [wgt]
      rw [hw1]
      simp [wgts]
    | cons e l3 =>
      have hin : l1.length < n := by rw [hn2, List.length_cons]; omega
      have hks2 := hks
      rw [hI] at hks2
      obtain ⟨c, hc, hcell⟩ := hks2.at_
      have hcl := hc.len
      simp only [wgts] at hw1
      have hwe := wgt_pos e
      refine good_take true (b := intLt (l1.length : Int) (n : Int)) (by kernel_rfl) (lt_t (by omega)) ?_
      refine run_ok (sy_cx _ _) 0 [] 60 0 ?_
      refine good_val (.pointer (some ⟨gB a, oB a + l1.length * 5, none⟩)) (S := Instr.indexAt 32 (.slice a n cap) (.int .i64 (l1.length : Int))) (by kernel_rfl) (fun W _ => idx_sl (e := 34) hsl (by kernel_rfl) (by kernel_rfl) hin W) ?_
      refine run_ok (sy_cx _ _) 0 [] 60 0 ?_
      have hld := fun W hk => load_slA (P := Tryz.prog) (ty := 34) (m := 5) (cs := c) hsl (by kernel_rfl) (by kernel_rfl) l1.length 0 hcl hcell (W := W) hk
      have hcall := fun W hk => ihN e c W (by omega) (by omega) (hc.keep hk (fun k h => Nat.lt_of_lt_of_le h hk.size))
      obtain ⟨op2, ty2, bits2, name2, kids2⟩ := e
      simp only [ExAt] at hc
      obtain ⟨a2, cap2, xs2, rfl, _⟩ := hc
      refine good_val (.agg #[.int .u8 op2, .int .u8 ty2, .int .u64 bits2, .string (str name2), .slice a2 kids2.length cap2]) (S := Instr.loadAt 34 (.pointer (some ⟨gB a, oB a + l1.length * 5 + 0, none⟩))) (by kernel_rfl) (fun W hk => hld W hk) ?_
      refine good_callB (sy_cx _ _) [.agg #[.int .u8 op2, .int .u8 ty2, .int .u64 bits2, .string (str name2), .slice a2 kids2.length cap2]] (.int .i64 (wgt (.mk op2 ty2 bits2 name2 kids2) : Nat)) (by kernel_rfl) (by kernel_rfl) (by kernel_rfl) (fun W hk => hcall W hk) ?_
      refine run_ok (sy_cx _ _) 0 [] 60 0 ?_
      have hs1 : wgts (l1 ++ [Ex.mk op2 ty2 bits2 name2 kids2]) = wgts l1 + wgt (.mk op2 ty2 bits2 name2 kids2) := by rw [wgts_app]; simp [wgts]
      refine good_set 3 (x := .int .i64 (wrapF .i64 (((wgts l1 + 1 : Nat) : Int) + ((wgt (.mk op2 ty2 bits2 name2 kids2) : Nat) : Int)))) (.int .i64 ((wgts (l1 ++ [Ex.mk op2 ty2 bits2 name2 kids2]) + 1 : Nat) : Int)) (by kernel_rfl) (by rw [wr64 (by omega) (by omega)]; congr 1; omega) ?_
      refine good_set 4 (x := .int .i64 (wrapF .i64 ((l1.length : Int) + 1))) (.int .i64 ((l1 ++ [Ex.mk op2 ty2 bits2 name2 kids2]).length : Nat)) (by kernel_rfl) (by rw [wr64 (by omega) (by omega)]; congr 1; simp) ?_
      exact good_sub _ [(1, .ptr gz 0), (3, .v (.int .i64 ((wgts (l1 ++ [Ex.mk op2 ty2 bits2 name2 kids2]) + 1 : Nat) : Int))), (4, .v (.int .i64 ((l1 ++ [Ex.mk op2 ty2 bits2 name2 kids2]).length : Nat)))] [(gz, some (.cells 34 true true true 5 (putL .leaf 0 [.v (.int .u8 op), .v (.int .u8 ty), .v (.int .u64 bits), .v (.string (str name)), .v (.slice a n cap)])))] (gz + 1) (by kernel_rfl) (by kernel_rfl) (by kernel_rfl) (by kernel_rfl) (by kernel_rfl) (by kernel_rfl) (fun b hb => hγ0 b (Nat.le_trans (Nat.le_succ _) hb)) (by kernel_rfl)
        (ih (l1 ++ [Ex.mk op2 ty2 bits2 name2 kids2], l3) (by show kids = (l1 ++ [_]) ++ l3; rw [hI]; simp) (by show l3.length < (_ :: l3).length; simp))
end Go.Proofs.YtiacalnkmnckjaaGreatDoor
end

section
/- What CopyExpr of the statements' kit answers, on any expression. No conditions but those in each theorem. -/
namespace Go.Proofs.YtiacalnkmnckjaaGreatDoor
open Go.RowKit Go.As
set_option linter.unusedVariables false
set_option linter.unusedSimpArgs false

/-- blocks that were made between two worlds -/
def NewIn (w w' : World) (k : Nat) : Prop := w.heap.size ≤ k ∧ k < w'.heap.size
def CopyPr (e : Ex) (w : World) (r : Value) (w' : World) : Prop := ∃ ds : List Value, r = .agg ds.toArray ∧ ExAt (NewIn w w') w' e ds
theorem ExsAt.snoc {F : Nat → Prop} {w : World} {e : Ex} {c : List Value} : ∀ {l : List Ex} {xs : List Value}, ExsAt F w l xs → ExAt F w e c → ExsAt F w (l ++ [e]) (xs ++ c)
  | [], xs, h, hc => by
    simp only [ExsAt] at h
    subst h
    simp only [List.nil_append, ExsAt]
    exact ⟨c, [], by simp, hc, rfl⟩
  | x :: l, xs, h, hc => by
    simp only [ExsAt] at h
    obtain ⟨c1, r, rfl, h2, h3⟩ := h
    simp only [List.cons_append, ExsAt]
    exact ⟨c1, r ++ c, by simp, h2, ExsAt.snoc h3 hc⟩
theorem VR_agg5 {γ : Sy.Gm} {a b c d : Value} {e : Sy.AV} {v : Value} (h : Sy.VR γ (.agg [.v a, .v b, .v c, .v d, e]) v) : ∃ x, v = .agg #[a, b, c, d, x] ∧ Sy.VR γ e x := by
  cases h with
  | agg hl hh =>
    rename_i vs
    obtain ⟨l⟩ := vs
    match l, hl with
    | [x1, x2, x3, x4, x5], _ =>
      have h1 := hh 0 _ x1 rfl rfl
      have h2 := hh 1 _ x2 rfl rfl
      have h3 := hh 2 _ x3 rfl rfl
      have h4 := hh 3 _ x4 rfl rfl
      cases h1; cases h2; cases h3; cases h4
      exact ⟨x5, rfl, hh 4 _ x5 rfl rfl⟩
structure CpI where
  l1 : List Ex
  l2 : List Ex
  xs : List Value
  X : Sy.AV
  ob : Option Sy.Blk
def CpInv (w : World) (kids : List Ex) (b : Nat) (i : CpI) (B : Nat → Prop) (w1 : World) : Prop :=
  kids = i.l1 ++ i.l2 ∧ Sy.Keep (· < w.heap.size) w w1 ∧ (∀ k, k < w.heap.size → B k) ∧ (∀ k, B k → k < w1.heap.size) ∧ ExsAt (fun k => B k ∧ w.heap.size ≤ k) w1 i.l1 i.xs ∧ Sy.RowAt 34 5 b i.l1.length i.xs i.X i.ob
open Go.Sy in
set_option maxRecDepth 100000 in
theorem copyExpr_any : ∀ (N : Nat) (e : Ex) (cs : List Value) (w : World), wgt e ≤ N → wgt e ≤ 1099511627776 → ExAt (· < w.heap.size) w e cs →
    Calls Tryz.prog 15 #[.agg cs.toArray] w fun r w' => ∃ v, r = .returned v ∧ CopyPr e w v w' ∧ Below w.heap.size w w' := by
  intro N
  induction N with
  | zero => intro e cs w h; have := wgt_pos e; omega
  | succ N ihN =>
    intro e cs w hN hbd hat
    obtain ⟨op, ty, bits, name, kids⟩ := e
    simp only [ExAt] at hat
    obtain ⟨a, cap, xs, rfl, hsl, hks⟩ := hat
    simp only [wgt] at hN hbd
    obtain ⟨n, hn⟩ : ∃ n, n = kids.length := ⟨_, rfl⟩
    have hnl := wgts_len kids
    rw [← hn] at hsl hnl ⊢
    refine Sy.enter (vs := [.agg #[.int .u8 op, .int .u8 ty, .int .u64 bits, .string (str name), .slice a n cap]]) sy_fine Tryz.func15 rfl (fun γ => norms_LR _) rfl (fun γ0 hγ0 => ?_)
    refine run_ok (sy_cx _ _) 0 [] 60 0 ?_
    refine good_toLp ?_
    refine good_loopB (fun i : CpI => i.l2.length) (CpInv w kids (gz + 3)) (fun i => ⟨mkT [(1, .ptr gz 0), (2, .ptr (gz + 1) 0), (3, .ptr (gz + 2) 0), (4, .v (.int .i64 (i.l1.length : Int)))], mkH [(gz, some (.cells 34 true true true 5 (putL .leaf 0 [.v (.int .u8 op), .v (.int .u8 ty), .v (.int .u64 bits), .v (.string (str name)), .v (.slice a n cap)]))), (gz + 1, some (.cells 34 true true true 5 (putL .leaf 0 [.v (.int .u8 0), .v (.int .u8 0), .v (.int .u64 0), .v (.string (str [])), .v (.slice none 0 0)]))), (gz + 2, some (.cells 34 true true true 5 (putL .leaf 0 [.v (.int .u8 op), .v (.int .u8 ty), .v (.int .u64 bits), .v (.string (str name)), i.X]))), (gz + 3, i.ob)], gz + 4, []⟩)
      ⟨[], kids, [], .v (.slice none 0 0), none⟩ ⟨rfl, Keep.refl _ _, fun k h => h, fun k h => h, rfl, RowAt.nil _ _ _⟩ (by kernel_rfl)
      (fun h => good_sub _ [(1, .ptr gz 0), (2, .ptr (gz + 1) 0), (3, .ptr (gz + 2) 0), (4, .v (.int .i64 (([] : List Ex).length : Int)))] [(gz, some (.cells 34 true true true 5 (putL .leaf 0 [.v (.int .u8 op), .v (.int .u8 ty), .v (.int .u64 bits), .v (.string (str name)), .v (.slice a n cap)]))), (gz + 1, some (.cells 34 true true true 5 (putL .leaf 0 [.v (.int .u8 0), .v (.int .u8 0), .v (.int .u64 0), .v (.string (str [])), .v (.slice none 0 0)]))), (gz + 2, some (.cells 34 true true true 5 (putL .leaf 0 [.v (.int .u8 op), .v (.int .u8 ty), .v (.int .u64 bits), .v (.string (str name)), .v (.slice none 0 0)]))), (gz + 3, none)] (gz + 4) rfl (by kernel_rfl) (by kernel_rfl) (by kernel_rfl) (by kernel_rfl) (by kernel_rfl) (fun b hb => hγ0 b (Nat.le_trans (Nat.le_add_right _ 4) hb)) (by kernel_rfl) h) ?_
    rintro ⟨l1, l2, xk, X, ob⟩ B1 w1 ⟨hI, hk1, hB0, hB1, hxk, hrow⟩ ih
    simp only at hI hxk hrow
    have hn2 : n = l1.length + l2.length := by rw [hn, hI, List.length_append]
    have hw1 : wgts kids = wgts l1 + wgts l2 := by rw [hI, wgts_app]
    have hsl1 : SlAt B1 w1 a n 5 xs := (hsl.keep hk1).mono hB0
    refine run_ok (sy_cx _ _) 0 [] 60 0 ?_
    cases l2 with
    | nil =>
      have hn3 : n = l1.length := by rw [hn2]; simp
      refine good_take false (b := intLt (l1.length : Int) (n : Int)) (by kernel_rfl) (lt_f (by omega)) ?_
      have hfin : ∀ (γ : Gm) (W : World) (v x : Value) (h : Hp) (cc : Nat), v = .agg #[.int .u8 op, .int .u8 ty, .int .u64 bits, .string (str name), x] → VR γ X x → HR B1 Tryz.prog.globals.size γ h cc W → h.get (gz + 3) = ob → Keep B1 w1 W → (∃ v', Ending.returned v = .returned v' ∧ CopyPr (.mk op ty bits name kids) w v' W ∧ Below w.heap.size w W) := by
        intro γ W v x h cc hv hx hH hb hkW
        subst hv
        obtain ⟨hown, _⟩ := row_own (base := w.heap.size) hrow hb hH hx (fun k hk => Nat.le_of_not_lt (fun h => hk (hB0 k h)))
        obtain ⟨a', cap', rfl, _, hsl'⟩ := SlAt.of_own (F := NewIn w W) hown (fun k h1 h2 => ⟨h1, h2⟩)
        refine ⟨_, rfl, ⟨_, rfl, ?_⟩, (hk1.trans (hkW.mono hB0)).below⟩
        simp only [ExAt]
        have hkl : l1 = kids := by rw [hI]; simp
        rw [← hn3, hn] at hsl' ⊢
        refine ⟨a', cap', xk, rfl, hsl', ?_⟩
        rw [hkl] at hxk
        exact hxk.keep (hkW.mono fun k hk => hk.1) (fun k hk => ⟨hk.2, Nat.lt_of_lt_of_le (hB1 k hk.1) hkW.size⟩)
      rcases hrow.2 with ⟨hX, hob, h0⟩ | ⟨hX, hob⟩
      · subst hX hob
        refine run_ok (sy_cx _ _) 0 [] 60 0 ?_
        refine good_end (av := .agg [.v (.int .u8 op), .v (.int .u8 ty), .v (.int .u64 bits), .v (.string (str name)), .v (.slice none 0 0)]) (by kernel_rfl) (fun γ W v _ hv hH hkW => ?_)
        obtain ⟨x, rfl, hx⟩ := VR_agg5 hv
        exact hfin γ W _ x _ _ rfl hx hH (by kernel_rfl) hkW
      · subst hX hob
        refine run_ok (sy_cx _ _) 0 [] 60 0 ?_
        refine good_end (av := .agg [.v (.int .u8 op), .v (.int .u8 ty), .v (.int .u64 bits), .v (.string (str name)), .slg (gz + 3) 0 l1.length 5]) (by kernel_rfl) (fun γ W v _ hv hH hkW => ?_)
        obtain ⟨x, rfl, hx⟩ := VR_agg5 hv
        exact hfin γ W _ x _ _ rfl hx hH (by kernel_rfl) hkW
    | cons e l3 =>
      have hin : l1.length < n := by rw [hn2, List.length_cons]; omega
      have hks2 := hks
      rw [hI] at hks2
      obtain ⟨c, hc, hcell⟩ := hks2.at_
      have hcl := hc.len
      simp only [wgts] at hw1
      have hwe := wgt_pos e
      have hc1 : ExAt B1 w1 e c := hc.keep hk1 hB0
      refine good_take true (b := intLt (l1.length : Int) (n : Int)) (by kernel_rfl) (lt_t (by omega)) ?_
      refine run_ok (sy_cx _ _) 0 [] 60 0 ?_
      have hXlt : avLt (gz + 4) X = true := hrow.lt (by omega)
      refine good_lock [gz, gz + 2] (gz + 3) (by kernel_rfl) (fun b hb => hγ0 b (Nat.le_trans (Nat.le_add_right _ 3) hb)) ?_
      intro γ1 B2 w2 hle1 hγ1 hB12 hB2 hk12 hLk
      refine good_plan sy_mixed (.take 0 (.take 1 (.take 2 (.take 3 (.take 4 (.take 5 (.take 6 (.run 7 (.run 8 (.run 9 (.take 10 .done))))))))))) 11 (by kernel_rfl) ?_
      have hL2 : ∀ b, hasNat b [gz, gz + 2] = true → ∃ p, γ1 b = some p ∧ B2 p.1 := fun b hb => let ⟨p, h1, h2, _⟩ := hLk b hb; ⟨p, h1, h2⟩
      refine p_takes [gz, gz + 2] 1 (Bs := B2) (ws := w2) (by kernel_rfl) (fun _ h => h) hL2 ?_
      refine p_load [gz, gz + 2] X (by kernel_rfl) (by rcases hrow.2 with ⟨h, _⟩ | ⟨h, _⟩ <;> rw [h] <;> kernel_rfl) (Bs := B2) (ws := w2) (by kernel_rfl) (fun _ h => h) hL2 ?_
      refine p_takes [gz, gz + 2] 3 (Bs := B2) (ws := w2) (by kernel_rfl) (fun _ h => h) hL2 ?_
      have hsl2 : SlAt B2 w2 a n 5 xs := (hsl1.keep hk12).mono hB12
      refine p_val (.pointer (some ⟨gB a, oB a + l1.length * 5, none⟩)) (S := Instr.indexAt 32 (.slice a n cap) (.int .i64 (l1.length : Int))) (by kernel_rfl) (Bs := B2) (ws := w2) (by kernel_rfl) (fun _ h => h) (fun W _ => idx_sl (e := 34) hsl2 (by kernel_rfl) (by kernel_rfl) hin W) ?_
      have hld := fun W hk => load_slA (P := Tryz.prog) (ty := 34) (m := 5) (cs := c) hsl2 (by kernel_rfl) (by kernel_rfl) l1.length 0 hcl hcell (W := W) hk
      have hcall := fun (W : World) (hk : Keep B2 w2 W) => ihN e c W (by omega) (by omega) ((hc1.keep hk12 hB12).keep hk (fun k h => Nat.lt_of_lt_of_le (hB2 k h) hk.size))
      obtain ⟨op2, ty2, bits2, name2, kids2⟩ := e
      simp only [ExAt] at hc
      obtain ⟨a2, cap2, xs2, rfl, _⟩ := hc
      refine p_val (.agg #[.int .u8 op2, .int .u8 ty2, .int .u64 bits2, .string (str name2), .slice a2 kids2.length cap2]) (S := Instr.loadAt 34 (.pointer (some ⟨gB a, oB a + l1.length * 5 + 0, none⟩))) (by kernel_rfl) (Bs := B2) (ws := w2) (by kernel_rfl) (fun _ h => h) (fun W hk => hld W hk) ?_
      refine p_run (Keep B2 w2) (by kernel_rfl) (fun _ h => h) (by kernel_rfl) ?_
      refine good_callM (sy_cx _ _) [.agg #[.int .u8 op2, .int .u8 ty2, .int .u64 bits2, .string (str name2), .slice a2 kids2.length cap2]] (by kernel_rfl) (by kernel_rfl) (by kernel_rfl) (fun W hk => hcall W hk) ?_
      intro wa r w3 B3 hka hpr hba hk23 hB23 hB3 hB3s
      obtain ⟨ds, rfl, hds⟩ := hpr
      have hds0 := hds
      simp only [ExAt] at hds0
      obtain ⟨a3, cap3, xs3, rfl, _⟩ := hds0
      have hS3 : ∀ W, Keep B3 w3 W → Keep B2 w2 W := fun W hk => hk23.trans (hk.mono hB23)
      refine run_ok (sy_cx _ _) 0 [] 60 0 ?_
      refine p_run (Keep B2 w2) (by kernel_rfl) hS3 (by kernel_rfl) ?_
      refine run_ok (sy_cx _ _) 0 [] 60 0 ?_
      refine p_run (Keep B2 w2) (by kernel_rfl) hS3 (by kernel_rfl) ?_
      refine good_plain (gz + 2) 4 (by kernel_rfl) (fun xold => ?_)
      refine good_app (t := 32) (e := 34) (.slg (gz + 4) 0 1 5) 5 64 (gz + 3) l1.length 0 xk X ob [.int .u8 op2, .int .u8 ty2, .int .u64 bits2, .string (str name2), .slice a3 kids2.length cap3] [15] (by kernel_rfl) (by kernel_rfl) (by kernel_rfl) (by kernel_rfl) hrow (by kernel_rfl) (by kernel_rfl) (by kernel_rfl)
        (by unfold maxLen; omega) (by omega) (hγ1 (gz + 3) (Nat.le_refl _)) (by kernel_rfl) (by kernel_rfl) (by kernel_rfl) (by kernel_rfl) (by kernel_rfl) (fun X' ob' hrow' => ?_)
      rcases hrow'.2 with ⟨_, _, h0⟩ | ⟨rfl, rfl⟩
      · omega
      refine run_ok (sy_cx _ _) 0 [] 60 0 ?_
      refine p_takes [gz, gz + 2] 1 (Bs := B2) (ws := w2) (by kernel_rfl) hS3 hL2 ?_
      refine p_done (by kernel_rfl) ?_ (Keep B2 w2) (by kernel_rfl) hS3
      refine good_unlock [gz, gz + 2] (by kernel_rfl) (fun b hb => let ⟨p, h1, _⟩ := hLk b hb; ⟨p, h1⟩) ?_
      intro B4 hB43 hB34
      refine run_ok (sy_cx _ _) 0 [] 60 0 ?_
      refine good_set 4 (x := .int .i64 (wrapF .i64 ((l1.length : Int) + 1))) (.int .i64 ((l1 ++ [(Ex.mk op2 ty2 bits2 name2 kids2)]).length : Nat)) (by kernel_rfl) (by rw [wr64 (by omega) (by omega)]; congr 1; simp) ?_
      have hlk : ∀ b p, hasNat b [gz, gz + 2] = true → γ1 b = some p → B2 p.1 ∧ ¬ B1 p.1 := fun b p hb hp => by
        obtain ⟨q, h1, h2, h3⟩ := hLk b hb
        rw [hp] at h1
        injection h1 with h1
        subst h1
        exact ⟨h2, h3⟩
      have hB14 : ∀ k, B1 k → B4 k := fun k hk => hB34 k (hB23 k (hB12 k hk)) (fun b p hb hp e => (hlk b p hb hp).2 (e ▸ hk))
      have hk13 : Keep B1 w1 w3 := hk12.trans (hk23.mono hB12)
      have hk14 : Keep (· < w.heap.size) w w3 := hk1.trans (hk13.mono hB0)
      have hsz : w.heap.size ≤ wa.heap.size := Nat.le_trans hk1.size (Nat.le_trans hk12.size hka.size)
      have hnew : ∀ k, NewIn wa w3 k → B4 k ∧ w.heap.size ≤ k := fun k hk => ⟨hB34 k (hB3 k hk.1 hk.2) (fun b p hb hp e => by
        have h1 := hB2 p.1 (hlk b p hb hp).1
        have h2 := hk.1
        have h3 := hka.size
        omega), Nat.le_trans hsz hk.1⟩
      have hI4 : CpInv w kids (gz + 3) ⟨l1 ++ [(Ex.mk op2 ty2 bits2 name2 kids2)], l3, xk ++ [.int .u8 op2, .int .u8 ty2, .int .u64 bits2, .string (str name2), .slice a3 kids2.length cap3], .slg (gz + 3) 0 (l1.length + (0 + 1)) 5, some (.row 34 (xk ++ [.int .u8 op2, .int .u8 ty2, .int .u64 bits2, .string (str name2), .slice a3 kids2.length cap3]))⟩ B4 w3 := by
        refine ⟨by show kids = (l1 ++ [_]) ++ l3; rw [hI]; simp, hk14, fun k hk => hB14 k (hB0 k hk), fun k hk => hB3s k (hB43 k hk), ?_, ?_⟩
        · exact (hxk.keep (hk13.mono fun k hk => hk.1) (fun k hk => ⟨hB14 k hk.1, hk.2⟩)).snoc (hds.keep (Keep.refl _ _) hnew)
        · show RowAt _ 5 (gz + 3) (l1 ++ [_]).length _ _ _
          rw [List.length_append]
          exact hrow'
      exact good_sub _ [(1, .ptr gz 0), (2, .ptr (gz + 1) 0), (3, .ptr (gz + 2) 0), (4, .v (.int .i64 ((l1 ++ [(Ex.mk op2 ty2 bits2 name2 kids2)]).length : Int)))] [(gz, some (.cells 34 true true true 5 (putL .leaf 0 [.v (.int .u8 op), .v (.int .u8 ty), .v (.int .u64 bits), .v (.string (str name)), .v (.slice a n cap)]))), (gz + 1, some (.cells 34 true true true 5 (putL .leaf 0 [.v (.int .u8 0), .v (.int .u8 0), .v (.int .u64 0), .v (.string (str [])), .v (.slice none 0 0)]))), (gz + 2, some (.cells 34 true true true 5 (putL .leaf 0 [.v (.int .u8 op), .v (.int .u8 ty), .v (.int .u64 bits), .v (.string (str name)), .slg (gz + 3) 0 (l1.length + (0 + 1)) 5]))), (gz + 3, some (.row 34 (xk ++ [.int .u8 op2, .int .u8 ty2, .int .u64 bits2, .string (str name2), .slice a3 kids2.length cap3])))] (gz + 4) (by kernel_rfl) (by kernel_rfl) (by kernel_rfl) (by kernel_rfl) (by kernel_rfl) (by kernel_rfl) (fun b hb => hγ1 b (Nat.le_trans (Nat.le_succ _) hb)) (by kernel_rfl)
        ((ih _ B4 w3 hI4 (by show l3.length < (_ :: l3).length; simp)).up hle1)
end Go.Proofs.YtiacalnkmnckjaaGreatDoor
end

section
/- What Height of the program and of the statements' kit answer, on any expression. No conditions but those in each theorem. -/
namespace Go.Proofs.YtiacalnkmnckjaaGreatDoor
open Go.RowKit Go.As
set_option linter.unusedVariables false
set_option linter.unusedSimpArgs false

mutual
def hgt : Ex → Nat
  | .mk _ _ _ _ k => hgts k + 1
def hgts : List Ex → Nat
  | [] => 0
  | e :: l => max (hgt e) (hgts l)
end
theorem hgts_app : ∀ (l r : List Ex), hgts (l ++ r) = max (hgts l) (hgts r)
  | [], r => by simp [hgts]
  | e :: l, r => by
    rw [List.cons_append]
    simp only [hgts]
    rw [hgts_app l r, Nat.max_assoc]
theorem hgts_snoc (l : List Ex) (e : Ex) : hgts (l ++ [e]) = max (hgts l) (hgt e) := by rw [hgts_app]; simp [hgts]
mutual
theorem hgt_le : ∀ (e : Ex), hgt e ≤ wgt e
  | .mk _ _ _ _ k => by simp only [hgt, wgt]; have := hgts_le k; omega
theorem hgts_le : ∀ (l : List Ex), hgts l ≤ wgts l
  | [] => Nat.le_refl _
  | e :: l => by simp only [hgts, wgts]; have := hgts_le l; have := hgt_le e; omega
end
open Go.Sy in
set_option maxRecDepth 100000 in
theorem theight_any : ∀ (N : Nat) (e : Ex) (cs : List Value) (w : World), wgt e ≤ N → wgt e ≤ 1099511627776 → ExAt (· < w.heap.size) w e cs →
    Calls Tryz.prog 29 #[.agg cs.toArray] w fun r w' => r = .returned (.int .i64 (hgt e : Nat)) ∧ Below w.heap.size w w' := by
  intro N
  induction N with
  | zero => intro e cs w h; have := wgt_pos e; omega
  | succ N ihN =>
    intro e cs w hN hbd hat
    obtain ⟨op, ty, bits, name, kids⟩ := e
    simp only [ExAt] at hat
    obtain ⟨a, cap, xs, rfl, hsl, hks⟩ := hat
    have hhw := hgt_le (.mk op ty bits name kids)
    simp only [wgt] at hN hbd
    obtain ⟨n, hn⟩ : ∃ n, n = kids.length := ⟨_, rfl⟩
    have hnl := wgts_len kids
    rw [← hn] at hsl hnl ⊢
    refine Sy.enter (vs := [.agg #[.int .u8 op, .int .u8 ty, .int .u64 bits, .string (str name), .slice a n cap]]) sy_fine Tryz.func29 rfl (fun γ => norms_LR _) rfl (fun γ0 hγ0 => ?_)
    refine run_ok (sy_cx _ _) 0 [] 60 0 ?_
    refine good_toLp ?_
    refine good_loopI (fun i : List Ex × List Ex => i.2.length) (fun i => kids = i.1 ++ i.2) (fun i => ⟨mkT [(3, .v (.int .i64 ((hgts i.1 : Nat) : Int))), (7, .v (.slice a n cap)), (8, .v (.int .i64 (n : Int))), (9, .v (.int .i64 (i.1.length : Int)))], mkH [(gz, some (.cells 34 true true true 5 (putL .leaf 0 [.v (.int .u8 op), .v (.int .u8 ty), .v (.int .u64 bits), .v (.string (str name)), .v (.slice a n cap)])))], gz + 1, []⟩)
      ([], kids) rfl (by kernel_rfl)
      (fun h => good_sub _ [(3, .v (.int .i64 ((hgts ([] : List Ex) : Nat) : Int))), (7, .v (.slice a n cap)), (8, .v (.int .i64 (n : Int))), (9, .v (.int .i64 (([] : List Ex).length : Int)))] [(gz, some (.cells 34 true true true 5 (putL .leaf 0 [.v (.int .u8 op), .v (.int .u8 ty), .v (.int .u64 bits), .v (.string (str name)), .v (.slice a n cap)])))] (gz + 1) rfl (by kernel_rfl) (by kernel_rfl) (by kernel_rfl) (by kernel_rfl) (by kernel_rfl) (fun b hb => hγ0 b (Nat.le_trans (Nat.le_succ _) hb)) (by kernel_rfl) h) ?_
    rintro ⟨l1, l2⟩ hI ih
    have hI : kids = l1 ++ l2 := hI
    have hn2 : n = l1.length + l2.length := by rw [hn, hI, List.length_append]
    have hw1 : wgts kids = wgts l1 + wgts l2 := by rw [hI, wgts_app]
    have hh1 := hgts_le l1
    refine run_ok (sy_cx _ _) 0 [] 60 0 ?_
    cases l2 with
    | nil =>
      have hn3 : n = l1.length := by rw [hn2]; simp
      refine good_take false (b := intLt (l1.length : Int) (n : Int)) (by kernel_rfl) (lt_f (by omega)) ?_
      refine run_ok (sy_cx _ _) 0 [] 60 0 ?_
      refine good_endV (.int .i64 (wrapF .i64 ((hgts l1 : Nat) + 1))) (by kernel_rfl) (fun W hk => ⟨?_, hk.below⟩)
      rw [wr64 (by omega) (by omega)]
      simp only [hgt]
      have hkl : l1 = kids := by rw [hI]; simp
      rw [hkl]
      rfl
    | cons e l3 =>
      have hin : l1.length < n := by rw [hn2, List.length_cons]; omega
      have hks2 := hks
      rw [hI] at hks2
      obtain ⟨c, hc, hcell⟩ := hks2.at_
      have hcl := hc.len
      simp only [wgts] at hw1
      have hwe := wgt_pos e
      have hhe := hgt_le e
      refine good_take true (b := intLt (l1.length : Int) (n : Int)) (by kernel_rfl) (lt_t (by omega)) ?_
      refine run_ok (sy_cx _ _) 0 [] 60 0 ?_
      refine good_val (.pointer (some ⟨gB a, oB a + l1.length * 5, none⟩)) (S := Instr.indexAt 32 (.slice a n cap) (.int .i64 (l1.length : Int))) (by kernel_rfl) (fun W _ => idx_sl (e := 34) hsl (by kernel_rfl) (by kernel_rfl) hin W) ?_
      refine run_ok (sy_cx _ _) 0 [] 60 0 ?_
      have hld := fun W hk => load_slA (P := Tryz.prog) (ty := 34) (m := 5) (cs := c) hsl (by kernel_rfl) (by kernel_rfl) l1.length 0 hcl hcell (W := W) hk
      have hcall := fun W hk => ihN e c W (by omega) (by omega) (hc.keep hk (fun k h => Nat.lt_of_lt_of_le h hk.size))
      obtain ⟨op2, ty2, bits2, name2, kids2⟩ := e
      simp only [ExAt] at hc
      obtain ⟨a2, cap2, xs2, rfl, _⟩ := hc
      refine good_val (.agg #[.int .u8 op2, .int .u8 ty2, .int .u64 bits2, .string (str name2), .slice a2 kids2.length cap2]) (S := Instr.loadAt 34 (.pointer (some ⟨gB a, oB a + l1.length * 5 + 0, none⟩))) (by kernel_rfl) (fun W hk => hld W hk) ?_
      refine run_ok (sy_cx _ _) 0 [] 60 0 ?_
      refine good_callB (sy_cx _ _) [.agg #[.int .u8 op2, .int .u8 ty2, .int .u64 bits2, .string (str name2), .slice a2 kids2.length cap2]] (.int .i64 (hgt (Ex.mk op2 ty2 bits2 name2 kids2) : Nat)) (by kernel_rfl) (by kernel_rfl) (by kernel_rfl) (fun W hk => hcall W hk) ?_
      refine run_ok (sy_cx _ _) 0 [] 60 0 ?_
      refine good_set 3 (x := .int .i64 (if ((hgt (Ex.mk op2 ty2 bits2 name2 kids2) : Nat) : Int) > ((hgts l1 : Nat) : Int) then ((hgt (Ex.mk op2 ty2 bits2 name2 kids2) : Nat) : Int) else ((hgts l1 : Nat) : Int))) (.int .i64 ((hgts (l1 ++ [(Ex.mk op2 ty2 bits2 name2 kids2)]) : Nat) : Int)) (by kernel_rfl) (by rw [hgts_snoc]; congr 1; split <;> omega) ?_
      refine good_set 9 (x := .int .i64 (wrapF .i64 ((l1.length : Int) + 1))) (.int .i64 ((l1 ++ [(Ex.mk op2 ty2 bits2 name2 kids2)]).length : Nat)) (by kernel_rfl) (by rw [wr64 (by omega) (by omega)]; congr 1; simp) ?_
      exact good_sub _ [(3, .v (.int .i64 ((hgts (l1 ++ [(Ex.mk op2 ty2 bits2 name2 kids2)]) : Nat) : Int))), (7, .v (.slice a n cap)), (8, .v (.int .i64 (n : Int))), (9, .v (.int .i64 ((l1 ++ [(Ex.mk op2 ty2 bits2 name2 kids2)]).length : Int)))] [(gz, some (.cells 34 true true true 5 (putL .leaf 0 [.v (.int .u8 op), .v (.int .u8 ty), .v (.int .u64 bits), .v (.string (str name)), .v (.slice a n cap)])))] (gz + 1) (by kernel_rfl) (by kernel_rfl) (by kernel_rfl) (by kernel_rfl) (by kernel_rfl) (by kernel_rfl) (fun b hb => hγ0 b (Nat.le_trans (Nat.le_succ _) hb)) (by kernel_rfl)
        (ih (l1 ++ [(Ex.mk op2 ty2 bits2 name2 kids2)], l3) (by show kids = (l1 ++ [_]) ++ l3; rw [hI]; simp) (by show l3.length < (_ :: l3).length; simp))
open Go.Sy in
set_option maxRecDepth 100000 in
theorem kheight_any : ∀ (N : Nat) (e : Ex) (cs : List Value) (w : World), wgt e ≤ N → wgt e ≤ 1099511627776 → ExAt (· < w.heap.size) w e cs →
    Calls Tryz.prog 30 #[.agg cs.toArray] w fun r w' => r = .returned (.int .i64 (hgt e : Nat)) ∧ Below w.heap.size w w' := by
  intro N
  induction N with
  | zero => intro e cs w h; have := wgt_pos e; omega
  | succ N ihN =>
    intro e cs w hN hbd hat
    obtain ⟨op, ty, bits, name, kids⟩ := e
    simp only [ExAt] at hat
    obtain ⟨a, cap, xs, rfl, hsl, hks⟩ := hat
    have hhw := hgt_le (.mk op ty bits name kids)
    simp only [wgt] at hN hbd
    obtain ⟨n, hn⟩ : ∃ n, n = kids.length := ⟨_, rfl⟩
    have hnl := wgts_len kids
    rw [← hn] at hsl hnl ⊢
    refine Sy.enter (vs := [.agg #[.int .u8 op, .int .u8 ty, .int .u64 bits, .string (str name), .slice a n cap]]) sy_fine Tryz.func30 rfl (fun γ => norms_LR _) rfl (fun γ0 hγ0 => ?_)
    refine run_ok (sy_cx _ _) 0 [] 60 0 ?_
    refine good_toLp ?_
    refine good_loopI (fun i : List Ex × List Ex => i.2.length) (fun i => kids = i.1 ++ i.2) (fun i => ⟨mkT [(1, .ptr gz 0), (3, .v (.int .i64 ((hgts i.1 : Nat) : Int))), (4, .v (.int .i64 (i.1.length : Int)))], mkH [(gz, some (.cells 34 true true true 5 (putL .leaf 0 [.v (.int .u8 op), .v (.int .u8 ty), .v (.int .u64 bits), .v (.string (str name)), .v (.slice a n cap)])))], gz + 1, []⟩)
      ([], kids) rfl (by kernel_rfl)
      (fun h => good_sub _ [(1, .ptr gz 0), (3, .v (.int .i64 ((hgts ([] : List Ex) : Nat) : Int))), (4, .v (.int .i64 (([] : List Ex).length : Int)))] [(gz, some (.cells 34 true true true 5 (putL .leaf 0 [.v (.int .u8 op), .v (.int .u8 ty), .v (.int .u64 bits), .v (.string (str name)), .v (.slice a n cap)])))] (gz + 1) rfl (by kernel_rfl) (by kernel_rfl) (by kernel_rfl) (by kernel_rfl) (by kernel_rfl) (fun b hb => hγ0 b (Nat.le_trans (Nat.le_succ _) hb)) (by kernel_rfl) h) ?_
    rintro ⟨l1, l2⟩ hI ih
    have hI : kids = l1 ++ l2 := hI
    have hn2 : n = l1.length + l2.length := by rw [hn, hI, List.length_append]
    have hw1 : wgts kids = wgts l1 + wgts l2 := by rw [hI, wgts_app]
    have hh1 := hgts_le l1
    refine run_ok (sy_cx _ _) 0 [] 60 0 ?_
    cases l2 with
    | nil =>
      have hn3 : n = l1.length := by rw [hn2]; simp
      refine good_take false (b := intLt (l1.length : Int) (n : Int)) (by kernel_rfl) (lt_f (by omega)) ?_
      refine run_ok (sy_cx _ _) 0 [] 60 0 ?_
      refine good_endV (.int .i64 (wrapF .i64 ((hgts l1 : Nat) + 1))) (by kernel_rfl) (fun W hk => ⟨?_, hk.below⟩)
      rw [wr64 (by omega) (by omega)]
      simp only [hgt]
      have hkl : l1 = kids := by rw [hI]; simp
      rw [hkl]
      rfl
    | cons e l3 =>
      have hin : l1.length < n := by rw [hn2, List.length_cons]; omega
      have hks2 := hks
      rw [hI] at hks2
      obtain ⟨c, hc, hcell⟩ := hks2.at_
      have hcl := hc.len
      simp only [wgts] at hw1
      have hwe := wgt_pos e
      have hhe := hgt_le e
      refine good_take true (b := intLt (l1.length : Int) (n : Int)) (by kernel_rfl) (lt_t (by omega)) ?_
      refine run_ok (sy_cx _ _) 0 [] 60 0 ?_
      refine good_val (.pointer (some ⟨gB a, oB a + l1.length * 5, none⟩)) (S := Instr.indexAt 32 (.slice a n cap) (.int .i64 (l1.length : Int))) (by kernel_rfl) (fun W _ => idx_sl (e := 34) hsl (by kernel_rfl) (by kernel_rfl) hin W) ?_
      refine run_ok (sy_cx _ _) 0 [] 60 0 ?_
      have hld := fun W hk => load_slA (P := Tryz.prog) (ty := 34) (m := 5) (cs := c) hsl (by kernel_rfl) (by kernel_rfl) l1.length 0 hcl hcell (W := W) hk
      have hcall := fun W hk => ihN e c W (by omega) (by omega) (hc.keep hk (fun k h => Nat.lt_of_lt_of_le h hk.size))
      obtain ⟨op2, ty2, bits2, name2, kids2⟩ := e
      simp only [ExAt] at hc
      obtain ⟨a2, cap2, xs2, rfl, _⟩ := hc
      refine good_val (.agg #[.int .u8 op2, .int .u8 ty2, .int .u64 bits2, .string (str name2), .slice a2 kids2.length cap2]) (S := Instr.loadAt 34 (.pointer (some ⟨gB a, oB a + l1.length * 5 + 0, none⟩))) (by kernel_rfl) (fun W hk => hld W hk) ?_
      refine run_ok (sy_cx _ _) 0 [] 60 0 ?_
      refine good_callB (sy_cx _ _) [.agg #[.int .u8 op2, .int .u8 ty2, .int .u64 bits2, .string (str name2), .slice a2 kids2.length cap2]] (.int .i64 (hgt (Ex.mk op2 ty2 bits2 name2 kids2) : Nat)) (by kernel_rfl) (by kernel_rfl) (by kernel_rfl) (fun W hk => hcall W hk) ?_
      refine run_ok (sy_cx _ _) 0 [] 60 0 ?_
      refine good_set 3 (x := .int .i64 (if ((hgt (Ex.mk op2 ty2 bits2 name2 kids2) : Nat) : Int) > ((hgts l1 : Nat) : Int) then ((hgt (Ex.mk op2 ty2 bits2 name2 kids2) : Nat) : Int) else ((hgts l1 : Nat) : Int))) (.int .i64 ((hgts (l1 ++ [(Ex.mk op2 ty2 bits2 name2 kids2)]) : Nat) : Int)) (by kernel_rfl) (by rw [hgts_snoc]; congr 1; split <;> omega) ?_
      refine good_set 4 (x := .int .i64 (wrapF .i64 ((l1.length : Int) + 1))) (.int .i64 ((l1 ++ [(Ex.mk op2 ty2 bits2 name2 kids2)]).length : Nat)) (by kernel_rfl) (by rw [wr64 (by omega) (by omega)]; congr 1; simp) ?_
      exact good_sub _ [(1, .ptr gz 0), (3, .v (.int .i64 ((hgts (l1 ++ [(Ex.mk op2 ty2 bits2 name2 kids2)]) : Nat) : Int))), (4, .v (.int .i64 ((l1 ++ [(Ex.mk op2 ty2 bits2 name2 kids2)]).length : Int)))] [(gz, some (.cells 34 true true true 5 (putL .leaf 0 [.v (.int .u8 op), .v (.int .u8 ty), .v (.int .u64 bits), .v (.string (str name)), .v (.slice a n cap)])))] (gz + 1) (by kernel_rfl) (by kernel_rfl) (by kernel_rfl) (by kernel_rfl) (by kernel_rfl) (by kernel_rfl) (fun b hb => hγ0 b (Nat.le_trans (Nat.le_succ _) hb)) (by kernel_rfl)
        (ih (l1 ++ [(Ex.mk op2 ty2 bits2 name2 kids2)], l3) (by show kids = (l1 ++ [_]) ++ l3; rw [hI]; simp) (by show l3.length < (_ :: l3).length; simp))
end Go.Proofs.YtiacalnkmnckjaaGreatDoor
end

section
/- What SameExpr of the statements' kit answers, on any two expressions. No conditions but those in each theorem. -/
namespace Go.Proofs.YtiacalnkmnckjaaGreatDoor
open Go.RowKit Go.As
set_option linter.unusedVariables false
set_option linter.unusedSimpArgs false

noncomputable def sameEx (a b : Ex) : Bool := @decide (a = b) (Classical.propDecidable _)
theorem sameEx_t {a b : Ex} : sameEx a b = true ↔ a = b := by unfold sameEx; exact @decide_eq_true_iff _ (Classical.propDecidable _)
theorem sameEx_f {a b : Ex} (h : a ≠ b) : sameEx a b = false := by rw [← Bool.not_eq_true, sameEx_t]; exact h
theorem valueGuard : Tryz.prog.eqGuardType Tryz.prog.depth 31 = false := by kernel_rfl
def vEq (a b c d : Int) : Bool := Sy.intEq a c && Sy.intEq b d
theorem run_eqi_value (a b c d : Int) (k : Nat) (w : World) :
    (Op.equalIn (k + 2) 31 (.agg #[.int .u8 a, .int .u64 b]) (.agg #[.int .u8 c, .int .u64 d])).run Tryz.prog w = .ok (vEq a b c d) w := by
  have h0 : Tryz.prog.underlying 31 = some (.struct (Tryz.prog.fieldsOf 31)) := by rw [Program.fieldsOf, Tryz.underlying31]
  rw [run_equalIn_agg w (k + 1) _ _ _ h0 (by kernel_rfl)]
  have h1 := run_equalIn_int (P := Tryz.prog) w k 28 .u8 .u8 a c Tryz.underlying28
  have h2 := run_equalIn_int (P := Tryz.prog) w k 29 .u64 .u64 b d Tryz.underlying29
  rw [Program.fieldsOf, Tryz.underlying31]
  unfold vEq
  rw [Sy.intEq_eq, Sy.intEq_eq]
  go_simp
  by_cases ha : a = c <;> by_cases hb : b = d <;> simp [ha, hb]
theorem _root_.Go.Sy.eqG2 {P : Program} {w : World} {m : Sem Unit} {n : Sem Value} {r : Value} (h1 : m.run P w = .ok () w) (h2 : n.run P w = .ok r w) : (do m; n : Sem Value).run P w = .ok r w := by
  rw [Sem.run_bind, h1]
  exact h2
theorem run_neq_value (ox oy : Operand) (a b c d : Int) (w : World) :
    (do eqGuard .neq 31 ox oy (.agg #[.int .u8 a, .int .u64 b]) (.agg #[.int .u8 c, .int .u64 d]); binOp .neq 31 (.agg #[.int .u8 a, .int .u64 b]) (.agg #[.int .u8 c, .int .u64 d]) : Sem Value).run Tryz.prog w = .ok (.bool (!(vEq a b c d))) w := by
  have h1 : (eqGuard .neq 31 ox oy (.agg #[.int .u8 a, .int .u64 b]) (.agg #[.int .u8 c, .int .u64 d])).run Tryz.prog w = .ok () w := by
    unfold eqGuard
    go_simp
  have h2 : (binOp .neq 31 (.agg #[.int .u8 a, .int .u64 b]) (.agg #[.int .u8 c, .int .u64 d])).run Tryz.prog w = .ok (.bool (!(vEq a b c d))) w := by
    rw [run_neq_struct, run_eqi_value]
    rfl
  exact Sy.eqG2 h1 h2
open Go.Sy in
set_option maxRecDepth 100000 in
theorem sameExpr_any : ∀ (N : Nat) (e1 e2 : Ex) (cs1 cs2 : List Value) (w : World), wgt e1 ≤ N → wgt e1 ≤ 1099511627776 → ExAt (· < w.heap.size) w e1 cs1 → ExAt (· < w.heap.size) w e2 cs2 →
    Calls Tryz.prog 23 #[.agg cs1.toArray, .agg cs2.toArray] w fun r w' => r = .returned (.bool (sameEx e1 e2)) ∧ Below w.heap.size w w' := by
  intro N
  induction N with
  | zero => intro e1 e2 cs1 cs2 w h; have := wgt_pos e1; omega
  | succ N ihN =>
    intro e1 e2 cs1 cs2 w hN hbd hat1 hat2
    obtain ⟨op1, ty1, bits1, name1, kids1⟩ := e1
    obtain ⟨op2, ty2, bits2, name2, kids2⟩ := e2
    simp only [ExAt] at hat1 hat2
    obtain ⟨a1, cap1, xs1, rfl, hsl1, hks1⟩ := hat1
    obtain ⟨a2, cap2, xs2, rfl, hsl2, hks2⟩ := hat2
    simp only [wgt] at hN hbd
    obtain ⟨n1, hn1⟩ : ∃ n, n = kids1.length := ⟨_, rfl⟩
    obtain ⟨n2, hn2⟩ : ∃ n, n = kids2.length := ⟨_, rfl⟩
    have hnl := wgts_len kids1
    rw [← hn1] at hsl1 hnl ⊢
    rw [← hn2] at hsl2 ⊢
    refine Sy.enter (vs := [.agg #[.int .u8 op1, .int .u8 ty1, .int .u64 bits1, .string (str name1), .slice a1 n1 cap1], .agg #[.int .u8 op2, .int .u8 ty2, .int .u64 bits2, .string (str name2), .slice a2 n2 cap2]]) sy_fine Tryz.func23 rfl (fun γ => norms_LR _) rfl (fun γ0 hγ0 => ?_)
    refine run_ok (sy_cx _ _) 0 [12] 60 0 ?_
    rcases Bool.eq_false_or_eq_true (intEq op1 op2) with hop | hop
    rotate_left
    · refine good_set 10 (x := .bool (!(intEq op1 op2))) (.bool true) (by kernel_rfl) (by rw [hop]; rfl) ?_
      refine good_set 11 (x := .bool (!(intEq op1 op2))) (.bool true) (by kernel_rfl) (by rw [hop]; rfl) ?_
      refine run_ok (sy_cx _ _) 0 [] 60 2 ?_
      refine good_endV (.bool false) (by kernel_rfl) (fun W hk => ⟨?_, hk.below⟩)
      rw [sameEx_f]
      intro h
      injection h
      rw [intEq_eq] at hop; simp_all
    refine good_set 10 (x := .bool (!(intEq op1 op2))) (.bool false) (by kernel_rfl) (by rw [hop]; rfl) ?_
    refine good_set 11 (x := .bool (!(intEq op1 op2))) (.bool false) (by kernel_rfl) (by rw [hop]; rfl) ?_
    
    refine run_ok (sy_cx _ _) 0 [16] 60 0 ?_
    refine good_val (.bool (!(vEq ty1 bits1 ty2 bits2))) (S := (do eqGuard .neq 31 (.tmp 13) (.tmp 15) (.agg #[.int .u8 ty1, .int .u64 bits1]) (.agg #[.int .u8 ty2, .int .u64 bits2]); binOp .neq 31 (.agg #[.int .u8 ty1, .int .u64 bits1]) (.agg #[.int .u8 ty2, .int .u64 bits2]))) (by kernel_rfl) (fun W _ => run_neq_value _ _ _ _ _ _ W) ?_
    refine run_ok (sy_cx _ _) 0 [19] 60 0 ?_
    rcases Bool.eq_false_or_eq_true (vEq ty1 bits1 ty2 bits2) with hva | hva
    rotate_left
    · refine good_set 16 (x := .bool (!(vEq ty1 bits1 ty2 bits2))) (.bool true) (by kernel_rfl) (by rw [hva]; rfl) ?_
      refine good_set 17 (x := .bool (!(vEq ty1 bits1 ty2 bits2))) (.bool true) (by kernel_rfl) (by rw [hva]; rfl) ?_
      refine good_set 18 (x := .bool (!(vEq ty1 bits1 ty2 bits2))) (.bool true) (by kernel_rfl) (by rw [hva]; rfl) ?_
      refine run_ok (sy_cx _ _) 0 [] 60 2 ?_
      refine good_endV (.bool false) (by kernel_rfl) (fun W hk => ⟨?_, hk.below⟩)
      rw [sameEx_f]
      intro h
      injection h
      simp only [vEq, intEq_eq] at hva; simp_all
    refine good_set 16 (x := .bool (!(vEq ty1 bits1 ty2 bits2))) (.bool false) (by kernel_rfl) (by rw [hva]; rfl) ?_
    refine good_set 17 (x := .bool (!(vEq ty1 bits1 ty2 bits2))) (.bool false) (by kernel_rfl) (by rw [hva]; rfl) ?_
    refine good_set 18 (x := .bool (!(vEq ty1 bits1 ty2 bits2))) (.bool false) (by kernel_rfl) (by rw [hva]; rfl) ?_
    
    refine run_ok (sy_cx _ _) 0 [26] 60 0 ?_
    rcases Bool.eq_false_or_eq_true (bEqL name1 name2) with hna | hna
    rotate_left
    · refine good_set 23 (x := .bool (!(bEqL name1 name2))) (.bool true) (by kernel_rfl) (by rw [hna]; rfl) ?_
      refine good_set 24 (x := .bool (!(bEqL name1 name2))) (.bool true) (by kernel_rfl) (by rw [hna]; rfl) ?_
      refine good_set 25 (x := .bool (!(bEqL name1 name2))) (.bool true) (by kernel_rfl) (by rw [hna]; rfl) ?_
      refine run_ok (sy_cx _ _) 0 [] 60 2 ?_
      refine good_endV (.bool false) (by kernel_rfl) (fun W hk => ⟨?_, hk.below⟩)
      rw [sameEx_f]
      intro h
      injection h
      rw [bEqL_eq] at hna; simp_all
    refine good_set 23 (x := .bool (!(bEqL name1 name2))) (.bool false) (by kernel_rfl) (by rw [hna]; rfl) ?_
    refine good_set 24 (x := .bool (!(bEqL name1 name2))) (.bool false) (by kernel_rfl) (by rw [hna]; rfl) ?_
    refine good_set 25 (x := .bool (!(bEqL name1 name2))) (.bool false) (by kernel_rfl) (by rw [hna]; rfl) ?_
    
    refine run_ok (sy_cx _ _) 0 [] 60 0 ?_
    refine good_cond (b := !(intEq (n1 : Int) (n2 : Int))) (by kernel_rfl) (fun hnn => ?_) (fun hnn => ?_)
    · refine run_ok (sy_cx _ _) 0 [] 60 2 ?_
      refine good_endV (.bool false) (by kernel_rfl) (fun W hk => ⟨?_, hk.below⟩)
      rw [sameEx_f]
      intro h
      injection h
      rw [intEq_eq] at hnn; simp_all
    have hnn1 : n1 = n2 := by rw [intEq_eq] at hnn; have : (n1 : Int) = (n2 : Int) := (by simpa using hnn); omega
    have hop1 : op1 = op2 := by rw [intEq_eq] at hop; simpa using hop
    have ⟨hty1, hbi1⟩ : ty1 = ty2 ∧ bits1 = bits2 := by simp only [vEq, intEq_eq] at hva; simpa using hva
    have hna1 : name1 = name2 := by rw [bEqL_eq] at hna; simpa using hna
    refine run_ok (sy_cx _ _) 0 [] 60 0 ?_
    refine good_toLp ?_
    refine good_loopI (fun i : List Ex × List Ex × List Ex => i.2.1.length) (fun i => kids1 = i.1 ++ i.2.1 ∧ kids2 = i.1 ++ i.2.2) (fun i => ⟨mkT [(2, .ptr gz 0), (3, .ptr (gz + 1) 0), (5, .v (.int .i64 (i.1.length : Int)))], mkH [(gz, some (.cells 34 true true true 5 (putL .leaf 0 [.v (.int .u8 op1), .v (.int .u8 ty1), .v (.int .u64 bits1), .v (.string (str name1)), .v (.slice a1 n1 cap1)]))), (gz + 1, some (.cells 34 true true true 5 (putL .leaf 0 [.v (.int .u8 op2), .v (.int .u8 ty2), .v (.int .u64 bits2), .v (.string (str name2)), .v (.slice a2 n2 cap2)])))], gz + 2, []⟩)
      ([], kids1, kids2) ⟨rfl, rfl⟩ (by kernel_rfl)
      (fun h => good_sub _ [(2, .ptr gz 0), (3, .ptr (gz + 1) 0), (5, .v (.int .i64 (([] : List Ex).length : Int)))] [(gz, some (.cells 34 true true true 5 (putL .leaf 0 [.v (.int .u8 op1), .v (.int .u8 ty1), .v (.int .u64 bits1), .v (.string (str name1)), .v (.slice a1 n1 cap1)]))), (gz + 1, some (.cells 34 true true true 5 (putL .leaf 0 [.v (.int .u8 op2), .v (.int .u8 ty2), .v (.int .u64 bits2), .v (.string (str name2)), .v (.slice a2 n2 cap2)])))] (gz + 2) rfl (by kernel_rfl) (by kernel_rfl) (by kernel_rfl) (by kernel_rfl) (by kernel_rfl) (fun b hb => hγ0 b (Nat.le_trans (Nat.le_add_right _ 2) hb)) (by kernel_rfl) h) ?_
    rintro ⟨l1, l2, m2⟩ ⟨hI1, hI2⟩ ih
    simp only at hI1 hI2
    have hq1 : n1 = l1.length + l2.length := by rw [hn1, hI1, List.length_append]
    have hq2 : n2 = l1.length + m2.length := by rw [hn2, hI2, List.length_append]
    have hw1 : wgts kids1 = wgts l1 + wgts l2 := by rw [hI1, wgts_app]
    refine run_ok (sy_cx _ _) 0 [] 60 0 ?_
    cases l2 with
    | nil =>
      obtain rfl : m2 = [] := List.eq_nil_of_length_eq_zero (by simp only [List.length_nil] at hq1; omega)
      refine good_take false (b := intLt (l1.length : Int) (n1 : Int)) (by kernel_rfl) (lt_f (by rw [hq1]; simp)) ?_
      refine run_ok (sy_cx _ _) 0 [] 60 0 ?_
      refine good_endV (.bool true) (by kernel_rfl) (fun W hk => ⟨?_, hk.below⟩)
      rw [sameEx_t.2 (by rw [hI1, hI2, hop1, hty1, hbi1, hna1])]
    | cons e1 l3 =>
      obtain ⟨e2, m3, rfl⟩ : ∃ e2 m3, m2 = e2 :: m3 := by
        cases m2 with
        | nil => simp only [List.length_nil, List.length_cons] at hq1 hq2; omega
        | cons a b => exact ⟨a, b, rfl⟩
      have hin1 : l1.length < n1 := by rw [hq1, List.length_cons]; omega
      have hin2 : l1.length < n2 := by omega
      have hks1' := hks1
      have hks2' := hks2
      rw [hI1] at hks1'
      rw [hI2] at hks2'
      obtain ⟨c1, hc1, hcell1⟩ := hks1'.at_
      obtain ⟨c2, hc2, hcell2⟩ := hks2'.at_
      have hcl1 := hc1.len
      have hcl2 := hc2.len
      simp only [wgts] at hw1
      refine good_take true (b := intLt (l1.length : Int) (n1 : Int)) (by kernel_rfl) (lt_t (by omega)) ?_
      refine run_ok (sy_cx _ _) 0 [] 60 0 ?_
      refine good_draw sy_mixed (by kernel_rfl) ?_
      refine q_run [] 60 ?_
      refine q_val (.pointer (some ⟨gB a1, oB a1 + l1.length * 5, none⟩)) (S := Instr.indexAt 32 (.slice a1 n1 cap1) (.int .i64 (l1.length : Int))) (by kernel_rfl) (fun W _ => idx_sl (e := 34) hsl1 (by kernel_rfl) (by kernel_rfl) hin1 W) ?_
      have hld1 := fun W hk => load_slA (P := Tryz.prog) (ty := 34) (m := 5) (cs := c1) hsl1 (by kernel_rfl) (by kernel_rfl) l1.length 0 hcl1 hcell1 (W := W) hk
      have hld2 := fun W hk => load_slA (P := Tryz.prog) (ty := 34) (m := 5) (cs := c2) hsl2 (by kernel_rfl) (by kernel_rfl) l1.length 0 hcl2 hcell2 (W := W) hk
      have hcall := fun W hk => ihN e1 e2 c1 c2 W (by omega) (by omega) (hc1.keep hk (fun k h => Nat.lt_of_lt_of_le h hk.size)) (hc2.keep hk (fun k h => Nat.lt_of_lt_of_le h hk.size))
      obtain ⟨op3, ty3, bits3, name3, kids3⟩ := e1
      obtain ⟨op4, ty4, bits4, name4, kids4⟩ := e2
      simp only [ExAt] at hc1 hc2
      obtain ⟨a3, cap3, xs3, rfl, _⟩ := hc1
      obtain ⟨a4, cap4, xs4, rfl, _⟩ := hc2
      refine q_run [] 60 ?_
      refine q_val (.agg #[.int .u8 op3, .int .u8 ty3, .int .u64 bits3, .string (str name3), .slice a3 kids3.length cap3]) (S := Instr.loadAt 34 (.pointer (some ⟨gB a1, oB a1 + l1.length * 5 + 0, none⟩))) (by kernel_rfl) (fun W hk => hld1 W hk) ?_
      refine q_run [] 60 ?_
      refine q_val (.pointer (some ⟨gB a2, oB a2 + l1.length * 5, none⟩)) (S := Instr.indexAt 32 (.slice a2 n2 cap2) (.int .i64 (l1.length : Int))) (by kernel_rfl) (fun W _ => idx_sl (e := 34) hsl2 (by kernel_rfl) (by kernel_rfl) hin2 W) ?_
      refine q_run [] 60 ?_
      refine q_val (.agg #[.int .u8 op4, .int .u8 ty4, .int .u64 bits4, .string (str name4), .slice a4 kids4.length cap4]) (S := Instr.loadAt 34 (.pointer (some ⟨gB a2, oB a2 + l1.length * 5 + 0, none⟩))) (by kernel_rfl) (fun W hk => hld2 W hk) ?_
      refine q_run [] 60 ?_
      refine q_callB (sy_cx _ _) [.agg #[.int .u8 op3, .int .u8 ty3, .int .u64 bits3, .string (str name3), .slice a3 kids3.length cap3], .agg #[.int .u8 op4, .int .u8 ty4, .int .u64 bits4, .string (str name4), .slice a4 kids4.length cap4]] (.bool (sameEx (Ex.mk op3 ty3 bits3 name3 kids3) (Ex.mk op4 ty4 bits4 name4 kids4))) (by kernel_rfl) (by kernel_rfl) (by kernel_rfl) (fun W hk => hcall W hk) ?_
      refine q_run [] 60 ?_
      refine q_end (by kernel_rfl) ?_
      refine run_ok (sy_cx _ _) 0 [] 60 0 ?_
      refine good_cond (b := !(sameEx (Ex.mk op3 ty3 bits3 name3 kids3) (Ex.mk op4 ty4 bits4 name4 kids4))) (by kernel_rfl) (fun hss => ?_) (fun hss => ?_)
      · refine run_ok (sy_cx _ _) 0 [] 60 2 ?_
        refine good_endV (.bool false) (by kernel_rfl) (fun W hk => ⟨?_, hk.below⟩)
        rw [sameEx_f]
        intro h
        injection h with _ _ _ _ h
        rw [hI1, hI2] at h
        have h2 := (List.cons.inj (List.append_cancel_left h)).1
        rw [sameEx_t.2 h2] at hss
        cases hss
      · have hss1 := sameEx_t.1 (show sameEx (Ex.mk op3 ty3 bits3 name3 kids3) (Ex.mk op4 ty4 bits4 name4 kids4) = true by simpa using hss)
        refine run_ok (sy_cx _ _) 0 [] 60 2 ?_
        refine good_set 5 (x := .int .i64 (wrapF .i64 ((l1.length : Int) + 1))) (.int .i64 ((l1 ++ [(Ex.mk op3 ty3 bits3 name3 kids3)]).length : Nat)) (by kernel_rfl) (by rw [wr64 (by omega) (by omega)]; congr 1; simp) ?_
        exact good_sub _ [(2, .ptr gz 0), (3, .ptr (gz + 1) 0), (5, .v (.int .i64 ((l1 ++ [(Ex.mk op3 ty3 bits3 name3 kids3)]).length : Int)))] [(gz, some (.cells 34 true true true 5 (putL .leaf 0 [.v (.int .u8 op1), .v (.int .u8 ty1), .v (.int .u64 bits1), .v (.string (str name1)), .v (.slice a1 n1 cap1)]))), (gz + 1, some (.cells 34 true true true 5 (putL .leaf 0 [.v (.int .u8 op2), .v (.int .u8 ty2), .v (.int .u64 bits2), .v (.string (str name2)), .v (.slice a2 n2 cap2)])))] (gz + 2) (by kernel_rfl) (by kernel_rfl) (by kernel_rfl) (by kernel_rfl) (by kernel_rfl) (by kernel_rfl) (fun b hb => hγ0 b (Nat.le_trans (Nat.le_add_right _ 2) hb)) (by kernel_rfl)
          (ih (l1 ++ [(Ex.mk op3 ty3 bits3 name3 kids3)], l3, m3) (by
            constructor
            · show kids1 = (l1 ++ [_]) ++ l3; rw [hI1]; simp
            · show kids2 = (l1 ++ [_]) ++ m3; rw [hI2, hss1]; simp) (by show l3.length < (_ :: l3).length; simp))
end Go.Proofs.YtiacalnkmnckjaaGreatDoor
end

section
/- Programs as trees in memory: statements, variables, threads. No conditions but those in each theorem. -/
namespace Go.Proofs.YtiacalnkmnckjaaGreatDoor
open Go.RowKit Go.As
set_option linter.unusedVariables false
set_option linter.unusedSimpArgs false

/-- items one behind the other -/
def LsAt {α : Type} (A : α → List Value → Prop) : List α → List Value → Prop
  | [], xs => xs = []
  | e :: l, xs => ∃ c r, xs = c ++ r ∧ A e c ∧ LsAt A l r
theorem LsAt.imp {α : Type} {A A' : α → List Value → Prop} (h : ∀ e c, A e c → A' e c) : ∀ {l : List α} {xs : List Value}, LsAt A l xs → LsAt A' l xs
  | [], xs, hx => hx
  | e :: l, xs, ⟨c, r, h1, h2, h3⟩ => ⟨c, r, h1, h e c h2, LsAt.imp h h3⟩
theorem LsAt.snoc {α : Type} {A : α → List Value → Prop} {e : α} {c : List Value} : ∀ {l : List α} {xs : List Value}, LsAt A l xs → A e c → LsAt A (l ++ [e]) (xs ++ c)
  | [], xs, h, hc => by
    obtain rfl : xs = [] := h
    exact ⟨c, [], by simp, hc, rfl⟩
  | x :: l, xs, ⟨c1, r, h1, h2, h3⟩, hc => ⟨c1, r ++ c, by rw [h1]; simp, h2, LsAt.snoc h3 hc⟩
theorem LsAt.at_ {α : Type} {A : α → List Value → Prop} {k : Nat} (hk : ∀ e c, A e c → c.length = k) : ∀ {l1 : List α} {e : α} {l3 : List α} {xs : List Value}, LsAt A (l1 ++ e :: l3) xs → ∃ c, A e c ∧ ∀ j v, c[j]? = some v → xs[l1.length * k + j]? = some v
  | [], e, l3, xs, ⟨c, r, h1, h2, h3⟩ => by
    subst h1
    refine ⟨c, h2, fun j v hv => ?_⟩
    rw [List.length_nil, Nat.zero_mul, Nat.zero_add, List.getElem?_append_left (List.getElem?_eq_some_iff.1 hv).1]
    exact hv
  | x :: l1, e, l3, xs, ⟨c, r, h1, h2, h3⟩ => by
    subst h1
    obtain ⟨c', h4, h5⟩ := LsAt.at_ hk h3
    refine ⟨c', h4, fun j v hv => ?_⟩
    have hl := hk _ _ h2
    rw [List.length_cons, Nat.succ_mul, List.getElem?_append_right (by omega), show l1.length * k + k + j - c.length = l1.length * k + j by omega]
    exact h5 j v hv
theorem ls_split {α : Type} (l : List α) (i : Nat) (h : i < l.length) : ∃ l1 e l3, l = l1 ++ e :: l3 ∧ l1.length = i :=
  ⟨l.take i, l[i], l.drop (i + 1), by rw [← List.drop_eq_getElem_cons h, List.take_append_drop], by rw [List.length_take]; omega⟩
theorem cell_part {c xs : List Value} {b : Nat} (h : ∀ j v, c[j]? = some v → xs[b + j]? = some v) (o : Nat) {m : List Value} (hm : ∀ j v, m[j]? = some v → c[o + j]? = some v) : ∀ j v, m[j]? = some v → xs[b + o + j]? = some v := fun j v hv => by
  rw [Nat.add_assoc]
  exact h _ _ (hm j v hv)
theorem mid_get (p m q : List Value) : ∀ j v, m[j]? = some v → (p ++ m ++ q)[p.length + j]? = some v := fun j v hv => by
  have hj := (List.getElem?_eq_some_iff.1 hv).1
  rw [List.append_assoc, List.getElem?_append_right (by omega), show p.length + j - p.length = j by omega, List.getElem?_append_left hj]
  exact hv

inductive St where
  | mk (kind : Int) (name : List UInt8) (e : Ex) (body els : List St)
mutual
def swt : St → Nat
  | .mk _ _ e b l => 1 + wgt e + swts b + swts l
def swts : List St → Nat
  | [] => 0
  | s :: l => swt s + swts l
end
theorem swts_app : ∀ (l r : List St), swts (l ++ r) = swts l + swts r
  | [], r => by simp [swts]
  | e :: l, r => by
    rw [List.cons_append]
    simp only [swts]
    rw [swts_app l r]
    omega
theorem swt_pos (s : St) : 0 < swt s := by cases s; simp only [swt]; omega
theorem swts_len : ∀ (l : List St), l.length ≤ swts l
  | [] => Nat.zero_le _
  | e :: l => by
    have := swts_len l
    have := swt_pos e
    simp only [swts, List.length_cons]
    omega
mutual
def StAt (F : Nat → Prop) (w : World) : St → List Value → Prop
  | .mk kind name e body els, cs => ∃ ec a cap xs b cap2 ys, cs = .int .i64 kind :: .string (str name) :: (ec ++ [.slice a body.length cap, .slice b els.length cap2]) ∧ ExAt F w e ec ∧ Sy.SlAt F w a body.length 9 xs ∧ StsAt F w body xs ∧ Sy.SlAt F w b els.length 9 ys ∧ StsAt F w els ys
def StsAt (F : Nat → Prop) (w : World) : List St → List Value → Prop
  | [], xs => xs = []
  | e :: l, xs => ∃ c r, xs = c ++ r ∧ StAt F w e c ∧ StsAt F w l r
end
theorem StsAt_ls {F : Nat → Prop} {w : World} : ∀ {l : List St} {xs : List Value}, StsAt F w l xs ↔ LsAt (StAt F w) l xs
  | [], xs => by simp only [StsAt, LsAt]
  | e :: l, xs => by
    simp only [StsAt, LsAt]
    exact ⟨fun ⟨c, r, h1, h2, h3⟩ => ⟨c, r, h1, h2, StsAt_ls.1 h3⟩, fun ⟨c, r, h1, h2, h3⟩ => ⟨c, r, h1, h2, StsAt_ls.2 h3⟩⟩
theorem ExsAt_ls {F : Nat → Prop} {w : World} : ∀ {l : List Ex} {xs : List Value}, ExsAt F w l xs ↔ LsAt (ExAt F w) l xs
  | [], xs => by simp only [ExsAt, LsAt]
  | e :: l, xs => by
    simp only [ExsAt, LsAt]
    exact ⟨fun ⟨c, r, h1, h2, h3⟩ => ⟨c, r, h1, h2, ExsAt_ls.1 h3⟩, fun ⟨c, r, h1, h2, h3⟩ => ⟨c, r, h1, h2, ExsAt_ls.2 h3⟩⟩
theorem StAt.len {F : Nat → Prop} {w : World} {s : St} {cs : List Value} (h : StAt F w s cs) : cs.length = 9 := by
  cases s
  simp only [StAt] at h
  obtain ⟨ec, a, cap, xs, b, cap2, ys, rfl, h2, _⟩ := h
  have := h2.len
  simp [this]
mutual
theorem StAt.keep {F F' : Nat → Prop} {w w' : World} (hk : Sy.Keep F w w') (hF : ∀ k, F k → F' k) : ∀ {s : St} {cs : List Value}, StAt F w s cs → StAt F' w' s cs
  | .mk kind name e body els, cs, h => by
    simp only [StAt] at h ⊢
    obtain ⟨ec, a, cap, xs, b, cap2, ys, h1, h2, h3, h4, h5, h6⟩ := h
    exact ⟨ec, a, cap, xs, b, cap2, ys, h1, h2.keep hk hF, (h3.keep hk).mono hF, StsAt.keep hk hF h4, (h5.keep hk).mono hF, StsAt.keep hk hF h6⟩
theorem StsAt.keep {F F' : Nat → Prop} {w w' : World} (hk : Sy.Keep F w w') (hF : ∀ k, F k → F' k) : ∀ {l : List St} {xs : List Value}, StsAt F w l xs → StsAt F' w' l xs
  | [], xs, h => by simp only [StsAt] at h ⊢; exact h
  | e :: l, xs, h => by
    simp only [StsAt] at h ⊢
    obtain ⟨c, r, h1, h2, h3⟩ := h
    exact ⟨c, r, h1, StAt.keep hk hF h2, StsAt.keep hk hF h3⟩
end
theorem StsAt.at_ {F : Nat → Prop} {w : World} {l1 : List St} {e : St} {l3 : List St} {xs : List Value} (h : StsAt F w (l1 ++ e :: l3) xs) : ∃ c, StAt F w e c ∧ ∀ j v, c[j]? = some v → xs[l1.length * 9 + j]? = some v :=
  LsAt.at_ (fun _ _ h => h.len) (StsAt_ls.1 h)

structure Vr where
  name : List UInt8
  ty : Int
  bits : Int
def VrAt (v : Vr) (cs : List Value) : Prop := cs = [.string (str v.name), .int .u8 v.ty, .int .u64 v.bits]
theorem VrAt.len {v : Vr} {cs : List Value} (h : VrAt v cs) : cs.length = 3 := by rw [h]; rfl
def TxAt (s : List UInt8) (cs : List Value) : Prop := cs = [.string (str s)]
theorem TxAt.len {v : List UInt8} {cs : List Value} (h : TxAt v cs) : cs.length = 1 := by rw [h]; rfl
structure Th where
  name : List UInt8
  locals : List Vr
  body : List St
def ThAt (F : Nat → Prop) (w : World) (t : Th) (cs : List Value) : Prop :=
  ∃ a cap xs b cap2 ys, cs = [.string (str t.name), .slice a t.locals.length cap, .slice b t.body.length cap2] ∧ Sy.SlAt F w a t.locals.length 3 xs ∧ LsAt VrAt t.locals xs ∧ Sy.SlAt F w b t.body.length 9 ys ∧ StsAt F w t.body ys
theorem ThAt.len {F : Nat → Prop} {w : World} {t : Th} {cs : List Value} (h : ThAt F w t cs) : cs.length = 3 := by
  obtain ⟨a, cap, xs, b, cap2, ys, rfl, _⟩ := h; rfl
theorem ThAt.keep {F F' : Nat → Prop} {w w' : World} (hk : Sy.Keep F w w') (hF : ∀ k, F k → F' k) {t : Th} {cs : List Value} (h : ThAt F w t cs) : ThAt F' w' t cs := by
  obtain ⟨a, cap, xs, b, cap2, ys, h1, h2, h3, h4, h5⟩ := h
  exact ⟨a, cap, xs, b, cap2, ys, h1, (h2.keep hk).mono hF, h3, (h4.keep hk).mono hF, h5.keep hk hF⟩
structure Pg where
  shared : List Vr
  mutexes : List (List UInt8)
  threads : List Th
def PgAt (F : Nat → Prop) (w : World) (p : Pg) (cs : List Value) : Prop :=
  ∃ a cap xs b cap2 ys d cap3 zs, cs = [.slice a p.shared.length cap, .slice b p.mutexes.length cap2, .slice d p.threads.length cap3] ∧ Sy.SlAt F w a p.shared.length 3 xs ∧ LsAt VrAt p.shared xs ∧ Sy.SlAt F w b p.mutexes.length 1 ys ∧ LsAt TxAt p.mutexes ys ∧ Sy.SlAt F w d p.threads.length 3 zs ∧ LsAt (ThAt F w) p.threads zs
theorem PgAt.keep {F F' : Nat → Prop} {w w' : World} (hk : Sy.Keep F w w') (hF : ∀ k, F k → F' k) {p : Pg} {cs : List Value} (h : PgAt F w p cs) : PgAt F' w' p cs := by
  obtain ⟨a, cap, xs, b, cap2, ys, d, cap3, zs, h1, h2, h3, h4, h5, h6, h7⟩ := h
  exact ⟨a, cap, xs, b, cap2, ys, d, cap3, zs, h1, (h2.keep hk).mono hF, h3, (h4.keep hk).mono hF, h5, (h6.keep hk).mono hF, h7.imp (fun _ _ h => h.keep hk hF)⟩
def thw (t : Th) : Nat := 1 + t.locals.length + swts t.body
def thws : List Th → Nat
  | [] => 0
  | t :: l => thw t + thws l
theorem thws_app : ∀ (l r : List Th), thws (l ++ r) = thws l + thws r
  | [], r => by simp [thws]
  | e :: l, r => by
    rw [List.cons_append]
    simp only [thws]
    rw [thws_app l r]
    omega
theorem thws_len : ∀ (l : List Th), l.length ≤ thws l
  | [] => Nat.zero_le _
  | e :: l => by
    have := thws_len l
    simp only [thws, List.length_cons, thw]
    omega
def pwt (p : Pg) : Nat := p.shared.length + p.mutexes.length + thws p.threads
end Go.Proofs.YtiacalnkmnckjaaGreatDoor
end

section
/- What WeightStmts and WeightProgram of the statements' kit answer. No conditions but those in each theorem. -/
namespace Go.Proofs.YtiacalnkmnckjaaGreatDoor
open Go.RowKit Go.As
set_option linter.unusedVariables false
set_option linter.unusedSimpArgs false

open Go.Sy in
set_option maxRecDepth 100000 in
theorem weightStmts_any : ∀ (N : Nat) (l : List St) (a : Option Addr) (n cap : Nat) (xs : List Value) (w : World), n = l.length → swts l < N → swts l ≤ 1099511627776 → Sy.SlAt (· < w.heap.size) w a n 9 xs → StsAt (· < w.heap.size) w l xs →
    Calls Tryz.prog 114 #[.slice a n cap] w fun r w' => r = .returned (.int .i64 (swts l : Nat)) ∧ Below w.heap.size w w' := by
  intro N
  induction N with
  | zero =>
    intro l a n cap xs w hn h
    omega
  | succ N ihN =>
    intro l a n cap xs w hn hN hbd hsl hks
    have hnl := swts_len l
    refine Sy.enter (vs := [.slice a n cap]) sy_fine Tryz.func114 rfl (fun γ => norms_LR _) rfl (fun γ0 hγ0 => ?_)
    refine run_ok (sy_cx _ _) 0 [] 60 0 ?_
    refine good_toLp ?_
    refine good_loopI (fun i : List St × List St => i.2.length) (fun i => l = i.1 ++ i.2) (fun i => ⟨mkT [(0, .v (.slice a n cap)), (3, .v (.int .i64 ((swts i.1 : Nat) : Int))), (4, .v (.int .i64 (i.1.length : Int)))], mkH [], gz, []⟩)
      ([], l) rfl (by kernel_rfl)
      (fun h => good_sub _ [(0, .v (.slice a n cap)), (3, .v (.int .i64 ((swts ([] : List St) : Nat) : Int))), (4, .v (.int .i64 (([] : List St).length : Int)))] [] gz rfl (by kernel_rfl) (by kernel_rfl) (by kernel_rfl) (by kernel_rfl) (by kernel_rfl) (fun b hb => hγ0 b hb) (by kernel_rfl) h) ?_
    rintro ⟨l1, l2⟩ hI ih
    have hI : l = l1 ++ l2 := hI
    have hn2 : n = l1.length + l2.length := by rw [hn, hI, List.length_append]
    have hw1 : swts l = swts l1 + swts l2 := by rw [hI, swts_app]
    refine run_ok (sy_cx _ _) 0 [] 60 0 ?_
    cases l2 with
    | nil =>
      have hn3 : n = l1.length := by rw [hn2]; simp
      refine good_take false (b := intLt (l1.length : Int) (n : Int)) (by kernel_rfl) (lt_f (by omega)) ?_
      refine run_ok (sy_cx _ _) 0 [] 60 0 ?_
      refine good_endV (.int .i64 ((swts l1 : Nat) : Int)) (by kernel_rfl) (fun W hk => ⟨?_, hk.below⟩)
      rw [hw1]
      simp [swts]
    | cons s l3 =>
      have hin : l1.length < n := by rw [hn2, List.length_cons]; omega
      have hks2 := hks
      rw [hI] at hks2
      obtain ⟨c, hc, hcell⟩ := hks2.at_
      simp only [swts] at hw1
      obtain ⟨kind, sname, ⟨eop, ety, ebits, ename, ekids⟩, body, els⟩ := s
      simp only [StAt] at hc
      obtain ⟨ec, ba, bcap, bxs, la, lcap, lxs, rfl, he, hbs, hbt, hls, hlt⟩ := hc
      have he0 := he
      simp only [ExAt] at he0
      obtain ⟨ea, ecap, exs, rfl, _⟩ := he0
      have hcell : ∀ j v, ([.int .i64 kind, .string (str sname), .int .u8 eop, .int .u8 ety, .int .u64 ebits, .string (str ename), .slice ea ekids.length ecap, .slice ba body.length bcap, .slice la els.length lcap] : List Value)[j]? = some v → xs[l1.length * 9 + j]? = some v := hcell
      have hmid : ∀ j v, ([.int .u8 eop, .int .u8 ety, .int .u64 ebits, .string (str ename), .slice ea ekids.length ecap] : List Value)[j]? = some v → xs[l1.length * 9 + 2 + j]? = some v := cell_part hcell 2 (mid_get [_, _] [.int .u8 eop, .int .u8 ety, .int .u64 ebits, .string (str ename), .slice ea ekids.length ecap] [_, _])
      simp only [swt] at hw1
      refine good_take true (b := intLt (l1.length : Int) (n : Int)) (by kernel_rfl) (lt_t (by omega)) ?_
      refine run_ok (sy_cx _ _) 0 [] 60 0 ?_
      refine good_draw sy_mixed (by kernel_rfl) ?_
      refine q_run [] 60 ?_
      refine q_val (.pointer (some ⟨gB a, oB a + l1.length * 9, none⟩)) (S := Instr.indexAt 54 (.slice a n cap) (.int .i64 (l1.length : Int))) (by kernel_rfl) (fun W _ => idx_sl (e := 56) hsl (by kernel_rfl) (by kernel_rfl) hin W) ?_
      refine q_run [] 60 ?_
      refine q_val (.agg #[.int .u8 eop, .int .u8 ety, .int .u64 ebits, .string (str ename), .slice ea ekids.length ecap]) (S := Instr.loadAt 34 (.pointer (some ⟨gB a, oB a + l1.length * 9 + 2, none⟩))) (by kernel_rfl) (fun W hk => load_slA (P := Tryz.prog) (ty := 34) (m := 5) (cs := [.int .u8 eop, .int .u8 ety, .int .u64 ebits, .string (str ename), .slice ea ekids.length ecap]) hsl (by kernel_rfl) (by kernel_rfl) l1.length 2 rfl hmid hk) ?_
      refine q_run [] 60 ?_
      refine q_callB (sy_cx _ _) [.agg #[.int .u8 eop, .int .u8 ety, .int .u64 ebits, .string (str ename), .slice ea ekids.length ecap]] (.int .i64 (wgt (.mk eop ety ebits ename ekids) : Nat)) (by kernel_rfl) (by kernel_rfl) (by kernel_rfl) (fun W hk => weight_any _ (.mk eop ety ebits ename ekids) [.int .u8 eop, .int .u8 ety, .int .u64 ebits, .string (str ename), .slice ea ekids.length ecap] W (Nat.le_refl _) (by omega) (he.keep hk (fun k h => Nat.lt_of_lt_of_le h hk.size))) ?_
      refine q_run [] 60 ?_
      refine q_val (.pointer (some ⟨gB a, oB a + l1.length * 9, none⟩)) (S := Instr.indexAt 54 (.slice a n cap) (.int .i64 (l1.length : Int))) (by kernel_rfl) (fun W _ => idx_sl (e := 56) hsl (by kernel_rfl) (by kernel_rfl) hin W) ?_
      refine q_run [] 60 ?_
      refine q_val (.slice ba body.length bcap) (S := Instr.loadAt 54 (.pointer (some ⟨gB a, oB a + l1.length * 9 + 7, none⟩))) (by kernel_rfl) (fun W hk => load_sl hsl (by kernel_rfl) l1.length 7 (hcell 7 _ rfl) hk) ?_
      refine q_run [] 60 ?_
      refine q_callB (sy_cx _ _) [.slice ba body.length bcap] (.int .i64 (swts body : Nat)) (by kernel_rfl) (by kernel_rfl) (by kernel_rfl) (fun W hk => ihN body _ _ _ _ W rfl (by omega) (by omega) ((hbs.keep hk).mono (fun k h => Nat.lt_of_lt_of_le h hk.size)) (hbt.keep hk (fun k h => Nat.lt_of_lt_of_le h hk.size))) ?_
      refine q_run [] 60 ?_
      refine q_val (.pointer (some ⟨gB a, oB a + l1.length * 9, none⟩)) (S := Instr.indexAt 54 (.slice a n cap) (.int .i64 (l1.length : Int))) (by kernel_rfl) (fun W _ => idx_sl (e := 56) hsl (by kernel_rfl) (by kernel_rfl) hin W) ?_
      refine q_run [] 60 ?_
      refine q_val (.slice la els.length lcap) (S := Instr.loadAt 54 (.pointer (some ⟨gB a, oB a + l1.length * 9 + 8, none⟩))) (by kernel_rfl) (fun W hk => load_sl hsl (by kernel_rfl) l1.length 8 (hcell 8 _ rfl) hk) ?_
      refine q_run [] 60 ?_
      refine q_callB (sy_cx _ _) [.slice la els.length lcap] (.int .i64 (swts els : Nat)) (by kernel_rfl) (by kernel_rfl) (by kernel_rfl) (fun W hk => ihN els _ _ _ _ W rfl (by omega) (by omega) ((hls.keep hk).mono (fun k h => Nat.lt_of_lt_of_le h hk.size)) (hlt.keep hk (fun k h => Nat.lt_of_lt_of_le h hk.size))) ?_
      refine q_run [] 60 ?_
      refine q_end (by kernel_rfl) ?_
      refine run_ok (sy_cx _ _) 0 [] 60 0 ?_
      have hs1 : swts (l1 ++ [(St.mk kind sname (.mk eop ety ebits ename ekids) body els)]) = swts l1 + (1 + wgt (.mk eop ety ebits ename ekids) + swts body + swts els) := by rw [swts_app]; simp [swts, swt]
      refine good_set 3 (x := .int .i64 (wrapF .i64 (wrapF .i64 (wrapF .i64 (wrapF .i64 (((swts l1 : Nat) : Int) + 1) + ((wgt (.mk eop ety ebits ename ekids) : Nat) : Int)) + ((swts body : Nat) : Int)) + ((swts els : Nat) : Int)))) (.int .i64 (((swts (l1 ++ [(St.mk kind sname (.mk eop ety ebits ename ekids) body els)]) : Nat) : Int))) (by kernel_rfl) (by rw [wr64 (n := ((swts l1 : Nat) : Int) + 1) (by omega) (by omega), wr64 (n := ((swts l1 : Nat) : Int) + 1 + ((wgt (.mk eop ety ebits ename ekids) : Nat) : Int)) (by omega) (by omega), wr64 (n := ((swts l1 : Nat) : Int) + 1 + ((wgt (.mk eop ety ebits ename ekids) : Nat) : Int) + ((swts body : Nat) : Int)) (by omega) (by omega), wr64 (n := ((swts l1 : Nat) : Int) + 1 + ((wgt (.mk eop ety ebits ename ekids) : Nat) : Int) + ((swts body : Nat) : Int) + ((swts els : Nat) : Int)) (by omega) (by omega)]; congr 1; omega) ?_
      refine good_set 4 (x := .int .i64 (wrapF .i64 (((l1.length : Nat) : Int) + 1))) (.int .i64 ((((l1 ++ [(St.mk kind sname (.mk eop ety ebits ename ekids) body els)]).length : Nat) : Int))) (by kernel_rfl) (by rw [wr64 (n := ((l1.length : Nat) : Int) + 1) (by omega) (by omega)]; congr 1; simp) ?_
      exact good_sub _ [(0, .v (.slice a n cap)), (3, .v (.int .i64 ((swts (l1 ++ [(St.mk kind sname (.mk eop ety ebits ename ekids) body els)]) : Nat) : Int))), (4, .v (.int .i64 ((l1 ++ [(St.mk kind sname (.mk eop ety ebits ename ekids) body els)]).length : Int)))] [] gz (by kernel_rfl) (by kernel_rfl) (by kernel_rfl) (by kernel_rfl) (by kernel_rfl) (by kernel_rfl) (fun b hb => hγ0 b hb) (by kernel_rfl) (ih (l1 ++ [(St.mk kind sname (.mk eop ety ebits ename ekids) body els)], l3) (by show l = (l1 ++ [_]) ++ l3; rw [hI]; simp) (by show l3.length < (_ :: l3).length; simp))
open Go.Sy in
set_option maxRecDepth 100000 in
theorem weightProgram_any (p : Pg) (cs : List Value) (w : World) (hbd : pwt p ≤ 1099511627776) (hp : PgAt (· < w.heap.size) w p cs) :
    Calls Tryz.prog 48 #[.agg cs.toArray] w fun r w' => r = .returned (.int .i64 (pwt p : Nat)) ∧ Below w.heap.size w w' := by
  obtain ⟨a, cap, xs, b, cap2, ys, d, cap3, zs, rfl, hxs, hxt, hys, hyt, hzs, hzt⟩ := hp
  obtain ⟨ns, hns⟩ : ∃ n, n = p.shared.length := ⟨_, rfl⟩
  obtain ⟨nm, hnm⟩ : ∃ n, n = p.mutexes.length := ⟨_, rfl⟩
  obtain ⟨nt, hnt⟩ : ∃ n, n = p.threads.length := ⟨_, rfl⟩
  obtain ⟨pt, hpt⟩ : ∃ l, l = p.threads := ⟨_, rfl⟩
  have hbd1 : ns + nm + thws pt ≤ 1099511627776 := by rw [hns, hnm, hpt]; exact hbd
  rw [← hns] at hxs ⊢
  rw [← hnm] at hys ⊢
  rw [← hnt] at hzs ⊢
  rw [← hpt] at hzt hnt
  have hpw : pwt p = ns + nm + thws pt := by rw [hns, hnm, hpt]; rfl
  have hnl := thws_len pt
  refine Sy.enter (vs := [.agg #[.slice a ns cap, .slice b nm cap2, .slice d nt cap3]]) sy_fine Tryz.func48 rfl (fun γ => norms_LR _) rfl (fun γ0 hγ0 => ?_)
  refine run_ok (sy_cx _ _) 0 [] 60 0 ?_
  refine good_toLp ?_
  refine good_set 3 (x := .int .i64 (wrapF .i64 (((ns : Nat) : Int) + ((nm : Nat) : Int)))) (.int .i64 (((ns + nm + thws ([] : List Th) : Nat) : Int))) (by kernel_rfl) (by rw [wr64 (n := ((ns : Nat) : Int) + ((nm : Nat) : Int)) (by omega) (by omega)]; simp [thws]) ?_
  refine good_loopI (fun i : List Th × List Th => i.2.length) (fun i => pt = i.1 ++ i.2) (fun i => ⟨mkT [(1, .ptr gz 0), (3, .v (.int .i64 ((ns + nm + thws i.1 : Nat) : Int))), (4, .v (.int .i64 ((i.1.length : Nat) : Int)))], mkH [(gz, some (.cells 26 true true true 3 (putL .leaf 0 [.v (.slice a ns cap), .v (.slice b nm cap2), .v (.slice d nt cap3)])))], gz + 1, []⟩)
    ([], pt) rfl (by kernel_rfl)
    (fun h => good_sub _ [(1, .ptr gz 0), (3, .v (.int .i64 ((ns + nm + thws ([] : List Th) : Nat) : Int))), (4, .v (.int .i64 ((([] : List Th).length : Nat) : Int)))] [(gz, some (.cells 26 true true true 3 (putL .leaf 0 [.v (.slice a ns cap), .v (.slice b nm cap2), .v (.slice d nt cap3)])))] (gz + 1) (by kernel_rfl) (by kernel_rfl) (by kernel_rfl) (by kernel_rfl) (by kernel_rfl) (by kernel_rfl) (fun b hb => hγ0 b (Nat.le_trans (Nat.le_add_right _ _) hb)) (by kernel_rfl) h) ?_
  rintro ⟨l1, l2⟩ hI ih
  have hI : pt = l1 ++ l2 := hI
  have hn2 : nt = l1.length + l2.length := by rw [hnt, hI, List.length_append]
  have hw1 : thws pt = thws l1 + thws l2 := by rw [hI, thws_app]
  refine run_ok (sy_cx _ _) 0 [] 60 0 ?_
  cases l2 with
  | nil =>
    have hn3 : nt = l1.length := by rw [hn2]; simp
    refine good_take false (b := intLt (l1.length : Int) (nt : Int)) (by kernel_rfl) (lt_f (by omega)) ?_
    refine run_ok (sy_cx _ _) 0 [] 60 0 ?_
    refine good_endV (.int .i64 ((ns + nm + thws l1 : Nat) : Int)) (by kernel_rfl) (fun W hk => ⟨?_, hk.below⟩)
    rw [hpw, hw1]
    simp [thws]
  | cons s l3 =>
    have hin : l1.length < nt := by rw [hn2, List.length_cons]; omega
    have hks2 := hzt
    rw [hI] at hks2
    obtain ⟨c, hc, hcell⟩ := hks2.at_ (fun _ _ h => h.len)
    simp only [thws] at hw1
    obtain ⟨la, lcap, lxs, ba, bcap, bxs, rfl, hls, hlt, hbs, hbt⟩ := hc
    simp only [thw] at hw1
    refine good_take true (b := intLt (l1.length : Int) (nt : Int)) (by kernel_rfl) (lt_t (by omega)) ?_
    refine run_ok (sy_cx _ _) 0 [] 60 0 ?_
    refine good_draw sy_mixed (by kernel_rfl) ?_
    refine q_run [] 60 ?_
    refine q_val (.pointer (some ⟨gB d, oB d + l1.length * 3, none⟩)) (S := Instr.indexAt 24 (.slice d nt cap3) (.int .i64 (l1.length : Int))) (by kernel_rfl) (fun W _ => idx_sl (e := 58) hzs (by kernel_rfl) (by kernel_rfl) hin W) ?_
    refine q_run [] 60 ?_
    refine q_val (.slice la s.locals.length lcap) (S := Instr.loadAt 22 (.pointer (some ⟨gB d, oB d + l1.length * 3 + 1, none⟩))) (by kernel_rfl) (fun W hk => load_sl hzs (by kernel_rfl) l1.length 1 (hcell 1 _ rfl) hk) ?_
    refine q_run [] 60 ?_
    refine q_val (.pointer (some ⟨gB d, oB d + l1.length * 3, none⟩)) (S := Instr.indexAt 24 (.slice d nt cap3) (.int .i64 (l1.length : Int))) (by kernel_rfl) (fun W _ => idx_sl (e := 58) hzs (by kernel_rfl) (by kernel_rfl) hin W) ?_
    refine q_run [] 60 ?_
    refine q_val (.slice ba s.body.length bcap) (S := Instr.loadAt 54 (.pointer (some ⟨gB d, oB d + l1.length * 3 + 2, none⟩))) (by kernel_rfl) (fun W hk => load_sl hzs (by kernel_rfl) l1.length 2 (hcell 2 _ rfl) hk) ?_
    refine q_run [] 60 ?_
    refine q_callB (sy_cx _ _) [.slice ba s.body.length bcap] (.int .i64 ((swts s.body : Nat) : Int)) (by kernel_rfl) (by kernel_rfl) (by kernel_rfl) (fun W hk => weightStmts_any _ s.body _ _ _ _ W rfl (Nat.lt_succ_self _) (by omega) ((hbs.keep hk).mono (fun k h => Nat.lt_of_lt_of_le h hk.size)) (hbt.keep hk (fun k h => Nat.lt_of_lt_of_le h hk.size))) ?_
    refine q_run [] 60 ?_
    refine q_end (by kernel_rfl) ?_
    refine run_ok (sy_cx _ _) 0 [] 60 0 ?_
    have hs1 : thws (l1 ++ [s]) = thws l1 + (1 + s.locals.length + swts s.body) := by rw [thws_app]; simp [thws, thw]
    refine good_set 3 (x := .int .i64 (wrapF .i64 (wrapF .i64 (wrapF .i64 (((ns + nm + thws l1 : Nat) : Int) + 1) + ((s.locals.length : Nat) : Int)) + ((swts s.body : Nat) : Int)))) (.int .i64 (((ns + nm + thws (l1 ++ [s]) : Nat) : Int))) (by kernel_rfl) (by rw [wr64 (n := ((ns + nm + thws l1 : Nat) : Int) + 1) (by omega) (by omega), wr64 (n := ((ns + nm + thws l1 : Nat) : Int) + 1 + ((s.locals.length : Nat) : Int)) (by omega) (by omega), wr64 (n := ((ns + nm + thws l1 : Nat) : Int) + 1 + ((s.locals.length : Nat) : Int) + ((swts s.body : Nat) : Int)) (by omega) (by omega)]; congr 1; omega) ?_
    refine good_set 4 (x := .int .i64 (wrapF .i64 (((l1.length : Nat) : Int) + 1))) (.int .i64 ((((l1 ++ [s]).length : Nat) : Int))) (by kernel_rfl) (by rw [wr64 (n := ((l1.length : Nat) : Int) + 1) (by omega) (by omega)]; congr 1; simp) ?_
    exact good_sub _ [(1, .ptr gz 0), (3, .v (.int .i64 ((ns + nm + thws (l1 ++ [s]) : Nat) : Int))), (4, .v (.int .i64 (((l1 ++ [s]).length : Nat) : Int)))] [(gz, some (.cells 26 true true true 3 (putL .leaf 0 [.v (.slice a ns cap), .v (.slice b nm cap2), .v (.slice d nt cap3)])))] (gz + 1) (by kernel_rfl) (by kernel_rfl) (by kernel_rfl) (by kernel_rfl) (by kernel_rfl) (by kernel_rfl) (fun b hb => hγ0 b (Nat.le_trans (Nat.le_add_right _ _) hb)) (by kernel_rfl) (ih (l1 ++ [s], l3) (by show pt = (l1 ++ [_]) ++ l3; rw [hI]; simp) (by show l3.length < (_ :: l3).length; simp))
end Go.Proofs.YtiacalnkmnckjaaGreatDoor
end

section
/- What SameTexts and SameVars of the statements' kit answer. No conditions but those in each theorem. -/
namespace Go.Proofs.YtiacalnkmnckjaaGreatDoor
open Go.RowKit Go.As
set_option linter.unusedVariables false
set_option linter.unusedSimpArgs false

noncomputable def sameB {α : Type} (a b : α) : Bool := @decide (a = b) (Classical.propDecidable _)
theorem sameB_t {α : Type} {a b : α} : sameB a b = true ↔ a = b := by unfold sameB; exact @decide_eq_true_iff _ (Classical.propDecidable _)
theorem sameB_f {α : Type} {a b : α} (h : a ≠ b) : sameB a b = false := by rw [← Bool.not_eq_true, sameB_t]; exact h
theorem varGuard : Tryz.prog.eqGuardType Tryz.prog.depth 67 = false := by kernel_rfl
noncomputable def vrEq (x y : Vr) : Bool := Sy.bEqL x.name y.name && vEq x.ty x.bits y.ty y.bits
theorem vrEq_t {x y : Vr} : vrEq x y = true ↔ x = y := by
  obtain ⟨a, b, c⟩ := x
  obtain ⟨d, e, g⟩ := y
  simp [vrEq, vEq, Sy.bEqL_eq, Sy.intEq_eq]
theorem run_neq_var (ox oy : Operand) (x y : Vr) (w : World) :
    (do eqGuard .neq 67 ox oy (.agg #[.string (str x.name), .int .u8 x.ty, .int .u64 x.bits]) (.agg #[.string (str y.name), .int .u8 y.ty, .int .u64 y.bits]); binOp .neq 67 (.agg #[.string (str x.name), .int .u8 x.ty, .int .u64 x.bits]) (.agg #[.string (str y.name), .int .u8 y.ty, .int .u64 y.bits]) : Sem Value).run Tryz.prog w = .ok (.bool (!(vrEq x y))) w := by
  have h1 : (eqGuard .neq 67 ox oy (.agg #[.string (str x.name), .int .u8 x.ty, .int .u64 x.bits]) (.agg #[.string (str y.name), .int .u8 y.ty, .int .u64 y.bits])).run Tryz.prog w = .ok () w := by
    have := varGuard
    unfold eqGuard
    go_simp
  have h2 : (binOp .neq 67 (.agg #[.string (str x.name), .int .u8 x.ty, .int .u64 x.bits]) (.agg #[.string (str y.name), .int .u8 y.ty, .int .u64 y.bits])).run Tryz.prog w = .ok (.bool (!(vrEq x y))) w := by
    have h0 : Tryz.prog.underlying 67 = some (.struct (Tryz.prog.fieldsOf 67)) := by rw [Program.fieldsOf, Tryz.underlying67]
    rw [run_neq_struct, run_equalIn_agg w 9999 _ _ _ h0 (by kernel_rfl)]
    have h1 := run_equalIn_string (P := Tryz.prog) w 9998 9 (str x.name) (str y.name) Tryz.underlying9
    have h2 := run_eqi_value x.ty x.bits y.ty y.bits 9997 w
    rw [str_toList, str_toList] at h1
    rw [Program.fieldsOf, Tryz.underlying67]
    unfold vrEq
    rw [Sy.bEqL_eq]
    go_simp
    by_cases ha : x.name = y.name <;> by_cases hb : x.ty = y.ty <;> by_cases hc : x.bits = y.bits <;> simp [ha, hb, hc, vEq, Sy.intEq_eq]
  exact Sy.eqG2 h1 h2
open Go.Sy in
set_option maxRecDepth 100000 in
theorem sameTexts_any (L M : List (List UInt8)) (a1 a2 : Option Addr) (n1 n2 cap1 cap2 : Nat) (xs1 xs2 : List Value) (w : World) (hn1 : n1 = L.length) (hn2 : n2 = M.length) (hbd : n1 ≤ 1099511627776)
    (hsl1 : Sy.SlAt (· < w.heap.size) w a1 n1 1 xs1) (hsl2 : Sy.SlAt (· < w.heap.size) w a2 n2 1 xs2) (hks1 : LsAt TxAt L xs1) (hks2 : LsAt TxAt M xs2) :
    Calls Tryz.prog 67 #[.slice a1 n1 cap1, .slice a2 n2 cap2] w fun r w' => r = .returned (.bool (sameB L M)) ∧ Below w.heap.size w w' := by
  refine Sy.enter (vs := [.slice a1 n1 cap1, .slice a2 n2 cap2]) sy_fine Tryz.func67 rfl (fun γ => norms_LR _) rfl (fun γ0 hγ0 => ?_)
  refine run_ok (sy_cx _ _) 0 [] 60 0 ?_
  refine good_cond (b := !(intEq (n1 : Int) (n2 : Int))) (by kernel_rfl) (fun hnn => ?_) (fun hnn => ?_)
  ·
    refine run_ok (sy_cx _ _) 0 [] 60 2 ?_
    refine good_endV (.bool false) (by kernel_rfl) (fun W hk => ⟨?_, hk.below⟩)
    rw [sameB_f]
    intro h
    rw [intEq_eq] at hnn; simp_all
  have hnn1 : n1 = n2 := by rw [intEq_eq] at hnn; have : (n1 : Int) = (n2 : Int) := (by simpa using hnn); omega
  refine run_ok (sy_cx _ _) 0 [] 60 0 ?_
  refine good_toLp ?_
  refine good_loopI (fun i : List (List UInt8) × List (List UInt8) × List (List UInt8) => i.2.1.length) (fun i => L = i.1 ++ i.2.1 ∧ M = i.1 ++ i.2.2) (fun i => ⟨mkT [(0, .v (.slice a1 n1 cap1)), (1, .v (.slice a2 n2 cap2)), (5, .v (.int .i64 (i.1.length : Int)))], mkH [], gz, []⟩)
    ([], L, M) ⟨rfl, rfl⟩ (by kernel_rfl)
    (fun h => good_sub _ [(0, .v (.slice a1 n1 cap1)), (1, .v (.slice a2 n2 cap2)), (5, .v (.int .i64 (([] : List (List UInt8)).length : Int)))] [] gz rfl (by kernel_rfl) (by kernel_rfl) (by kernel_rfl) (by kernel_rfl) (by kernel_rfl) (fun b hb => hγ0 b hb) (by kernel_rfl) h) ?_
  rintro ⟨l1, l2, m2⟩ ⟨hI1, hI2⟩ ih
  simp only at hI1 hI2
  have hq1 : n1 = l1.length + l2.length := by rw [hn1, hI1, List.length_append]
  have hq2 : n2 = l1.length + m2.length := by rw [hn2, hI2, List.length_append]
  refine run_ok (sy_cx _ _) 0 [] 60 0 ?_
  cases l2 with
  | nil =>
    obtain rfl : m2 = [] := List.eq_nil_of_length_eq_zero (by simp only [List.length_nil] at hq1; omega)
    refine good_take false (b := intLt (l1.length : Int) (n1 : Int)) (by kernel_rfl) (lt_f (by rw [hq1]; simp)) ?_
    refine run_ok (sy_cx _ _) 0 [] 60 0 ?_
    refine good_endV (.bool true) (by kernel_rfl) (fun W hk => ⟨?_, hk.below⟩)
    rw [sameB_t.2 (by rw [hI1, hI2])]
  | cons x l3 =>
    obtain ⟨y, m3, rfl⟩ : ∃ y m3, m2 = y :: m3 := by
      cases m2 with
      | nil => simp only [List.length_nil, List.length_cons] at hq1 hq2; omega
      | cons a b => exact ⟨a, b, rfl⟩
    have hin1 : l1.length < n1 := by rw [hq1, List.length_cons]; omega
    have hin2 : l1.length < n2 := by omega
    have hks1' := hks1
    have hks2' := hks2
    rw [hI1] at hks1'
    rw [hI2] at hks2'
    obtain ⟨c1, hc1, hcell1⟩ := hks1'.at_ (fun _ _ h => h.len)
    obtain ⟨c2, hc2, hcell2⟩ := hks2'.at_ (fun _ _ h => h.len)
    refine good_take true (b := intLt (l1.length : Int) (n1 : Int)) (by kernel_rfl) (lt_t (by omega)) ?_
    refine run_ok (sy_cx _ _) 0 [] 60 0 ?_
    obtain rfl : c1 = [.string (str x)] := hc1
    obtain rfl : c2 = [.string (str y)] := hc2
    refine good_draw sy_mixed (by kernel_rfl) ?_
    refine q_run [] 60 ?_
    refine q_val (.pointer (some ⟨gB a1, oB a1 + l1.length * 1, none⟩)) (S := Instr.indexAt 23 (.slice a1 n1 cap1) (.int .i64 (l1.length : Int))) (by kernel_rfl) (fun W _ => idx_sl (e := 9) hsl1 (by kernel_rfl) (by kernel_rfl) hin1 W) ?_
    refine q_run [] 60 ?_
    refine q_val (.string (str x)) (S := Instr.loadAt 9 (.pointer (some ⟨gB a1, oB a1 + l1.length * 1 + 0, none⟩))) (by kernel_rfl) (fun W hk => load_sl hsl1 (by kernel_rfl) l1.length 0 (hcell1 0 _ rfl) hk) ?_
    refine q_run [] 60 ?_
    refine q_val (.pointer (some ⟨gB a2, oB a2 + l1.length * 1, none⟩)) (S := Instr.indexAt 23 (.slice a2 n2 cap2) (.int .i64 (l1.length : Int))) (by kernel_rfl) (fun W _ => idx_sl (e := 9) hsl2 (by kernel_rfl) (by kernel_rfl) hin2 W) ?_
    refine q_run [] 60 ?_
    refine q_val (.string (str y)) (S := Instr.loadAt 9 (.pointer (some ⟨gB a2, oB a2 + l1.length * 1 + 0, none⟩))) (by kernel_rfl) (fun W hk => load_sl hsl2 (by kernel_rfl) l1.length 0 (hcell2 0 _ rfl) hk) ?_
    refine q_run [] 60 ?_
    refine q_end (by kernel_rfl) ?_
    refine run_ok (sy_cx _ _) 0 [] 60 0 ?_
    refine good_cond (b := !(bEqL x y)) (by kernel_rfl) (fun hss => ?_) (fun hss => ?_)
    ·
      have hne : x ≠ y := fun h => by rw [h, bEqL_eq] at hss; simp at hss
      refine run_ok (sy_cx _ _) 0 [] 60 2 ?_
      refine good_endV (.bool false) (by kernel_rfl) (fun W hk => ⟨?_, hk.below⟩)
      rw [sameB_f]
      intro h
      rw [hI1, hI2] at h
      have h2 := (List.cons.inj (List.append_cancel_left h)).1
      exact hne h2
    ·
      have hxy : x = y := by rw [bEqL_eq] at hss; simpa using hss
      refine run_ok (sy_cx _ _) 0 [] 60 2 ?_
      refine good_set 5 (x := .int .i64 (wrapF .i64 (((l1.length : Nat) : Int) + 1))) (.int .i64 ((((l1 ++ [x]).length : Nat) : Int))) (by kernel_rfl) (by rw [wr64 (n := ((l1.length : Nat) : Int) + 1) (by omega) (by omega)]; congr 1; simp) ?_
      exact good_sub _ [(0, .v (.slice a1 n1 cap1)), (1, .v (.slice a2 n2 cap2)), (5, .v (.int .i64 ((l1 ++ [x]).length : Int)))] [] gz (by kernel_rfl) (by kernel_rfl) (by kernel_rfl) (by kernel_rfl) (by kernel_rfl) (by kernel_rfl) (fun b hb => hγ0 b hb) (by kernel_rfl) (ih (l1 ++ [x], l3, m3) ⟨(by show L = (l1 ++ [_]) ++ l3; rw [hI1]; simp), (by show M = (l1 ++ [_]) ++ m3; rw [hI2, ← hxy]; simp)⟩ (by show l3.length < (_ :: l3).length; simp))
open Go.Sy in
set_option maxRecDepth 100000 in
theorem sameVars_any (L M : List Vr) (a1 a2 : Option Addr) (n1 n2 cap1 cap2 : Nat) (xs1 xs2 : List Value) (w : World) (hn1 : n1 = L.length) (hn2 : n2 = M.length) (hbd : n1 ≤ 1099511627776)
    (hsl1 : Sy.SlAt (· < w.heap.size) w a1 n1 3 xs1) (hsl2 : Sy.SlAt (· < w.heap.size) w a2 n2 3 xs2) (hks1 : LsAt VrAt L xs1) (hks2 : LsAt VrAt M xs2) :
    Calls Tryz.prog 66 #[.slice a1 n1 cap1, .slice a2 n2 cap2] w fun r w' => r = .returned (.bool (sameB L M)) ∧ Below w.heap.size w w' := by
  refine Sy.enter (vs := [.slice a1 n1 cap1, .slice a2 n2 cap2]) sy_fine Tryz.func66 rfl (fun γ => norms_LR _) rfl (fun γ0 hγ0 => ?_)
  refine run_ok (sy_cx _ _) 0 [] 60 0 ?_
  refine good_cond (b := !(intEq (n1 : Int) (n2 : Int))) (by kernel_rfl) (fun hnn => ?_) (fun hnn => ?_)
  ·
    refine run_ok (sy_cx _ _) 0 [] 60 2 ?_
    refine good_endV (.bool false) (by kernel_rfl) (fun W hk => ⟨?_, hk.below⟩)
    rw [sameB_f]
    intro h
    rw [intEq_eq] at hnn; simp_all
  have hnn1 : n1 = n2 := by rw [intEq_eq] at hnn; have : (n1 : Int) = (n2 : Int) := (by simpa using hnn); omega
  refine run_ok (sy_cx _ _) 0 [] 60 0 ?_
  refine good_toLp ?_
  refine good_loopI (fun i : List Vr × List Vr × List Vr => i.2.1.length) (fun i => L = i.1 ++ i.2.1 ∧ M = i.1 ++ i.2.2) (fun i => ⟨mkT [(0, .v (.slice a1 n1 cap1)), (1, .v (.slice a2 n2 cap2)), (5, .v (.int .i64 (i.1.length : Int)))], mkH [], gz, []⟩)
    ([], L, M) ⟨rfl, rfl⟩ (by kernel_rfl)
    (fun h => good_sub _ [(0, .v (.slice a1 n1 cap1)), (1, .v (.slice a2 n2 cap2)), (5, .v (.int .i64 (([] : List Vr).length : Int)))] [] gz rfl (by kernel_rfl) (by kernel_rfl) (by kernel_rfl) (by kernel_rfl) (by kernel_rfl) (fun b hb => hγ0 b hb) (by kernel_rfl) h) ?_
  rintro ⟨l1, l2, m2⟩ ⟨hI1, hI2⟩ ih
  simp only at hI1 hI2
  have hq1 : n1 = l1.length + l2.length := by rw [hn1, hI1, List.length_append]
  have hq2 : n2 = l1.length + m2.length := by rw [hn2, hI2, List.length_append]
  refine run_ok (sy_cx _ _) 0 [] 60 0 ?_
  cases l2 with
  | nil =>
    obtain rfl : m2 = [] := List.eq_nil_of_length_eq_zero (by simp only [List.length_nil] at hq1; omega)
    refine good_take false (b := intLt (l1.length : Int) (n1 : Int)) (by kernel_rfl) (lt_f (by rw [hq1]; simp)) ?_
    refine run_ok (sy_cx _ _) 0 [] 60 0 ?_
    refine good_endV (.bool true) (by kernel_rfl) (fun W hk => ⟨?_, hk.below⟩)
    rw [sameB_t.2 (by rw [hI1, hI2])]
  | cons x l3 =>
    obtain ⟨y, m3, rfl⟩ : ∃ y m3, m2 = y :: m3 := by
      cases m2 with
      | nil => simp only [List.length_nil, List.length_cons] at hq1 hq2; omega
      | cons a b => exact ⟨a, b, rfl⟩
    have hin1 : l1.length < n1 := by rw [hq1, List.length_cons]; omega
    have hin2 : l1.length < n2 := by omega
    have hks1' := hks1
    have hks2' := hks2
    rw [hI1] at hks1'
    rw [hI2] at hks2'
    obtain ⟨c1, hc1, hcell1⟩ := hks1'.at_ (fun _ _ h => h.len)
    obtain ⟨c2, hc2, hcell2⟩ := hks2'.at_ (fun _ _ h => h.len)
    refine good_take true (b := intLt (l1.length : Int) (n1 : Int)) (by kernel_rfl) (lt_t (by omega)) ?_
    refine run_ok (sy_cx _ _) 0 [] 60 0 ?_
    obtain rfl : c1 = [.string (str x.name), .int .u8 x.ty, .int .u64 x.bits] := hc1
    obtain rfl : c2 = [.string (str y.name), .int .u8 y.ty, .int .u64 y.bits] := hc2
    refine good_draw sy_mixed (by kernel_rfl) ?_
    refine q_run [] 60 ?_
    refine q_val (.pointer (some ⟨gB a1, oB a1 + l1.length * 3, none⟩)) (S := Instr.indexAt 22 (.slice a1 n1 cap1) (.int .i64 (l1.length : Int))) (by kernel_rfl) (fun W _ => idx_sl (e := 67) hsl1 (by kernel_rfl) (by kernel_rfl) hin1 W) ?_
    refine q_run [] 60 ?_
    refine q_val (.agg #[.string (str x.name), .int .u8 x.ty, .int .u64 x.bits]) (S := Instr.loadAt 67 (.pointer (some ⟨gB a1, oB a1 + l1.length * 3 + 0, none⟩))) (by kernel_rfl) (fun W hk => load_slA (P := Tryz.prog) (ty := 67) (m := 3) (cs := [.string (str x.name), .int .u8 x.ty, .int .u64 x.bits]) hsl1 (by kernel_rfl) (by kernel_rfl) l1.length 0 rfl hcell1 hk) ?_
    refine q_run [] 60 ?_
    refine q_val (.pointer (some ⟨gB a2, oB a2 + l1.length * 3, none⟩)) (S := Instr.indexAt 22 (.slice a2 n2 cap2) (.int .i64 (l1.length : Int))) (by kernel_rfl) (fun W _ => idx_sl (e := 67) hsl2 (by kernel_rfl) (by kernel_rfl) hin2 W) ?_
    refine q_run [] 60 ?_
    refine q_val (.agg #[.string (str y.name), .int .u8 y.ty, .int .u64 y.bits]) (S := Instr.loadAt 67 (.pointer (some ⟨gB a2, oB a2 + l1.length * 3 + 0, none⟩))) (by kernel_rfl) (fun W hk => load_slA (P := Tryz.prog) (ty := 67) (m := 3) (cs := [.string (str y.name), .int .u8 y.ty, .int .u64 y.bits]) hsl2 (by kernel_rfl) (by kernel_rfl) l1.length 0 rfl hcell2 hk) ?_
    refine q_run [25] 60 ?_
    refine q_val (.bool (!(vrEq x y))) (S := do eqGuard .neq 67 (.tmp 20) (.tmp 24) (.agg #[.string (str x.name), .int .u8 x.ty, .int .u64 x.bits]) (.agg #[.string (str y.name), .int .u8 y.ty, .int .u64 y.bits]); binOp .neq 67 (.agg #[.string (str x.name), .int .u8 x.ty, .int .u64 x.bits]) (.agg #[.string (str y.name), .int .u8 y.ty, .int .u64 y.bits])) (by kernel_rfl) (fun W _ => run_neq_var _ _ _ _ W) ?_
    refine q_run [] 60 ?_
    refine q_end (by kernel_rfl) ?_
    refine run_ok (sy_cx _ _) 0 [] 60 0 ?_
    refine good_cond (b := !(vrEq x y)) (by kernel_rfl) (fun hss => ?_) (fun hss => ?_)
    ·
      have hne : x ≠ y := fun h => by rw [vrEq_t.2 h] at hss; cases hss
      refine run_ok (sy_cx _ _) 0 [] 60 2 ?_
      refine good_endV (.bool false) (by kernel_rfl) (fun W hk => ⟨?_, hk.below⟩)
      rw [sameB_f]
      intro h
      rw [hI1, hI2] at h
      have h2 := (List.cons.inj (List.append_cancel_left h)).1
      exact hne h2
    ·
      have hxy : x = y := vrEq_t.1 (by simpa using hss)
      refine run_ok (sy_cx _ _) 0 [] 60 2 ?_
      refine good_set 5 (x := .int .i64 (wrapF .i64 (((l1.length : Nat) : Int) + 1))) (.int .i64 ((((l1 ++ [x]).length : Nat) : Int))) (by kernel_rfl) (by rw [wr64 (n := ((l1.length : Nat) : Int) + 1) (by omega) (by omega)]; congr 1; simp) ?_
      exact good_sub _ [(0, .v (.slice a1 n1 cap1)), (1, .v (.slice a2 n2 cap2)), (5, .v (.int .i64 ((l1 ++ [x]).length : Int)))] [] gz (by kernel_rfl) (by kernel_rfl) (by kernel_rfl) (by kernel_rfl) (by kernel_rfl) (by kernel_rfl) (fun b hb => hγ0 b hb) (by kernel_rfl) (ih (l1 ++ [x], l3, m3) ⟨(by show L = (l1 ++ [_]) ++ l3; rw [hI1]; simp), (by show M = (l1 ++ [_]) ++ m3; rw [hI2, ← hxy]; simp)⟩ (by show l3.length < (_ :: l3).length; simp))
end Go.Proofs.YtiacalnkmnckjaaGreatDoor
end
