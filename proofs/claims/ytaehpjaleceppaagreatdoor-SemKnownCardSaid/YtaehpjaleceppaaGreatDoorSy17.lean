/- The reckoner: blocks of the run's own that stay for a while. Any program; the conditions are in each theorem. -/
import Derived.Test.YtaehpjaleceppaaGreatDoorSy16
noncomputable section
namespace Go.Sy
open Go Go.RowKit
set_option linter.unusedVariables false
set_option linter.unusedSimpArgs false

def blkOwn (o : Bool) : Blk → Blk
  | .cells ty _ cl ex lim cs => .cells ty o cl ex lim cs
  | b => b
def plainH (b off : Nat) (x : Value) (h : Hp) : Hp := match h.get b with
  | some (.cells ty o cl ex lim cs) => h.put b (some (.cells ty o cl ex lim (cs.put off (some (.v x)))))
  | _ => h
def cellAt (b off : Nat) (h : Hp) : Bool := match h.get b with
  | some (.cells _ _ _ _ lim cs) => match cs.get off with
    | some _ => Nat.blt off lim
    | none => false
  | _ => false
def isOwnCells : Option Blk → Bool
  | some (.cells _ true _ _ _ _) => true
  | _ => false
def isCells : Option Blk → Bool
  | some (.cells _ _ _ _ _ _) => true
  | _ => false
/-- these blocks may not be written from here on (o = false), or may again -/
def lockH (o : Bool) : List Nat → Hp → Hp
  | [], h => h
  | b :: l, h => (lockH o l h).put b ((h.get b).map (blkOwn o))
theorem lockH_get (o : Bool) : ∀ (l : List Nat) (h : Hp) (b : Nat), (lockH o l h).get b = if hasNat b l = true then (h.get b).map (blkOwn o) else h.get b
  | [], h, b => by simp [lockH, hasNat]
  | x :: l, h, b => by
    simp only [lockH]
    rw [Tr.get_put]
    by_cases e : b = x
    · subst e
      rw [if_pos rfl, if_pos (hasNat_iff.2 (List.mem_cons_self))]
    · rw [if_neg e, lockH_get o l h b]
      by_cases hm : hasNat b l = true
      · rw [if_pos hm, if_pos (hasNat_iff.2 (List.mem_cons_of_mem _ (hasNat_iff.1 hm)))]
      · rw [if_neg hm, if_neg (fun h => hm (hasNat_iff.2 ((List.mem_cons.1 (hasNat_iff.1 h)).resolve_left e)))]
def lockG (o : Bool) (L : List Nat) (g : Cfg) : Cfg := ⟨g.k, ⟨g.s.T, lockH o L g.s.h, g.s.c, g.s.ds⟩⟩
def allOwn (L : List Nat) (h : Hp) (n : Nat) : Bool := L.all fun b => isOwnCells (h.get b) && Nat.blt b n
def allCells (L : List Nat) (h : Hp) : Bool := L.all fun b => isCells (h.get b)
section
variable {P : Program} {B : Nat → Prop} {w0 : World} {γ0 : Gm} {nt : Nat} {Q : Exit → Act → World → Prop} {g : Cfg}
theorem Good.up {γ1 : Gm} (h : Good P B w0 γ0 nt Q g) (hle : Gm.le γ0 γ1) : Good P B w0 γ1 nt Q g := ⟨fun γ a w h1 => h.out γ a w (hle.trans h1)⟩
theorem good_lock (L : List Nat) (c2 : Nat) (hL : allOwn L g.s.h c2 = true) (hγ : ∀ b, c2 ≤ b → γ0 b = none)
    (hg : ∀ γ1 B1 w1, Gm.le γ0 γ1 → (∀ b, c2 ≤ b → γ1 b = none) → (∀ k, B k → B1 k) → (∀ k, B1 k → k < w1.heap.size) → Keep B w0 w1 → (∀ b, hasNat b L = true → ∃ p, γ1 b = some p ∧ B1 p.1 ∧ ¬ B p.1) →
      Good P B1 w1 γ1 nt Q (lockG false L g)) : Good P B w0 γ0 nt Q g := by
  have hL' : ∀ b, hasNat b L = true → isOwnCells (g.s.h.get b) = true ∧ b < c2 := fun b hb => by
    have := List.all_eq_true.1 hL b (hasNat_iff.1 hb)
    rw [Bool.and_eq_true] at this
    exact ⟨this.1, blt_lt this.2⟩
  refine ⟨fun γ a w hle hf hr hb => ?_⟩
  have hown : ∀ b, hasNat b L = true → ∃ p, γ b = some p ∧ ¬ B p.1 ∧ p.1 < w.heap.size := fun b hbL => by
    obtain ⟨h1, _⟩ := hL' b hbL
    unfold isOwnCells at h1
    split at h1 <;> first | (cases h1; done) | skip
    rename_i ty cl ex lim cs hb1
    obtain ⟨p, hp, hbr⟩ := hr.live b _ hb1
    exact ⟨p, hp, hbr.1 rfl, hbr.lt⟩
  have hh := hg (γ.res c2) (fun k => B k ∨ ∃ b N, hasNat b L = true ∧ γ b = some (k, N)) w (fun b p hp => by
    rcases Nat.lt_or_ge b c2 with hlt | hge
    · exact Gm.res_some (hle b p hp) hlt
    · rw [hγ b hge] at hp; cases hp) (fun b hb1 => by unfold Gm.res; rw [if_neg (by omega)]) (fun k => .inl)
    (fun k hk => by
      rcases hk with hk | ⟨b, N, hbL, hγb⟩
      · exact hr.base k hk
      · obtain ⟨p, hp, _, hlt⟩ := hown b hbL
        rw [hγb] at hp
        injection hp with hp
        subst hp
        exact hlt) hb
    (fun b hbL => by
      obtain ⟨p, hp, hnB, _⟩ := hown b hbL
      exact ⟨p, Gm.res_some hp (hL' b hbL).2, .inr ⟨b, p.2, hbL, hp⟩, hnB⟩)
  refine hh.out γ a w (fun b p hp => ?_) hf ⟨fun b blk hb1 => ?_, fun b b' blk blk' p p' h1 h2 g1 g2 e => ?_, hr.fresh, hr.glob, fun k hk => ?_⟩ (Keep.refl _ _)
  · unfold Gm.res at hp
    split at hp
    · exact hp
    · cases hp
  · simp only [lockG] at hb1
    rw [lockH_get] at hb1
    split at hb1
    · rename_i hbL
      cases hb2 : g.s.h.get b with
      | none => rw [hb2] at hb1; cases hb1
      | some blk0 =>
        rw [hb2] at hb1
        simp only [Option.map_some, Option.some.injEq] at hb1
        subst hb1
        obtain ⟨p, hp, hbr⟩ := hr.live b _ hb2
        have h3 := (hL' b hbL).1
        rw [hb2] at h3
        cases blk0 with
        | cells ty own cl ex lim cs => exact ⟨p, hp, fun e => (by cases e), hbr.2⟩
        | map es clock => cases h3
        | row e xs => cases h3
    · rename_i hbL
      obtain ⟨p, hp, hbr⟩ := hr.live b _ hb1
      refine ⟨p, hp, ?_⟩
      have key : ¬ B p.1 → ¬ (B p.1 ∨ ∃ b N, hasNat b L = true ∧ γ b = some (p.1, N)) := by
        intro hnB hor
        rcases hor with h3 | ⟨b2, N, hb2L, hγ2⟩
        · exact hnB h3
        · obtain ⟨h4, _⟩ := hL' b2 hb2L
          have : ∃ blk2, g.s.h.get b2 = some blk2 := by
            cases hh2 : g.s.h.get b2 with
            | none => rw [hh2] at h4; cases h4
            | some blk2 => exact ⟨_, rfl⟩
          obtain ⟨blk2, hblk2⟩ := this
          have := hr.inj b b2 _ _ p (p.1, N) hb1 hblk2 hp hγ2 rfl
          subst this
          exact hbL hb2L
      cases blk with
      | cells ty own cl ex lim cs => exact ⟨fun e => key (hbr.1 e), hbr.2⟩
      | map es clock => exact ⟨key hbr.1, hbr.2⟩
      | row e xs => exact ⟨key hbr.1, hbr.2⟩
  · have get0 : ∀ {x y}, (lockG false L g).s.h.get x = some y → ∃ z, g.s.h.get x = some z := by
      intro x y hx
      simp only [lockG] at hx
      rw [lockH_get] at hx
      split at hx
      · cases hz : g.s.h.get x with
        | none => rw [hz] at hx; cases hx
        | some z => exact ⟨z, rfl⟩
      · exact ⟨_, hx⟩
    obtain ⟨z1, k1⟩ := get0 h1
    obtain ⟨z2, k2⟩ := get0 h2
    exact hr.inj _ _ _ _ _ _ k1 k2 g1 g2 e
  · rcases hk with hk | ⟨b, N, hbL, hγb⟩
    · exact hr.base k hk
    · obtain ⟨p, hp, _, hlt⟩ := hown b hbL
      rw [hγb] at hp
      injection hp with hp
      subst hp
      exact hlt
theorem good_unlock (L : List Nat) (hL : allCells L g.s.h = true) (hk : ∀ b, hasNat b L = true → ∃ p, γ0 b = some p)
    (hg : ∀ B2, (∀ k, B2 k → B k) → (∀ k, B k → (∀ b p, hasNat b L = true → γ0 b = some p → p.1 ≠ k) → B2 k) → Good P B2 w0 γ0 nt Q (lockG true L g)) : Good P B w0 γ0 nt Q g := by
  have hL' : ∀ b, hasNat b L = true → isCells (g.s.h.get b) = true := fun b hb => List.all_eq_true.1 hL b (hasNat_iff.1 hb)
  have hh := hg (fun k => B k ∧ ∀ b p, hasNat b L = true → γ0 b = some p → p.1 ≠ k) (fun k h => h.1) (fun k h1 h2 => ⟨h1, h2⟩)
  refine ⟨fun γ a w hle hf hr hb => hh.out γ a w hle hf ⟨fun b blk hb1 => ?_, fun b b' blk blk' p p' h1 h2 g1 g2 e => ?_, hr.fresh, hr.glob, fun k hk => hr.base k hk.1⟩ (hb.mono fun k h => h.1)⟩
  · simp only [lockG] at hb1
    rw [lockH_get] at hb1
    split at hb1
    · rename_i hbL
      cases hb2 : g.s.h.get b with
      | none => rw [hb2] at hb1; cases hb1
      | some blk0 =>
        rw [hb2] at hb1
        simp only [Option.map_some, Option.some.injEq] at hb1
        subst hb1
        obtain ⟨p, hp, hbr⟩ := hr.live b _ hb2
        have h3 := hL' b hbL
        rw [hb2] at h3
        cases blk0 with
        | cells ty own cl ex lim cs =>
          refine ⟨p, hp, fun _ hB2 => ?_, hbr.2⟩
          obtain ⟨p0, hp0⟩ := hk b hbL
          have := hle b p0 hp0
          rw [hp] at this
          injection this with this
          subst this
          exact hB2.2 b p hbL hp0 rfl
        | map es clock => cases h3
        | row e xs => cases h3
    · obtain ⟨p, hp, hbr⟩ := hr.live b _ hb1
      refine ⟨p, hp, ?_⟩
      cases blk with
      | cells ty own cl ex lim cs => exact ⟨fun e h => hbr.1 e h.1, hbr.2⟩
      | map es clock => exact ⟨fun h => hbr.1 h.1, hbr.2⟩
      | row e xs => exact ⟨fun h => hbr.1 h.1, hbr.2⟩
  · have get0 : ∀ {x y}, (lockG true L g).s.h.get x = some y → ∃ z, g.s.h.get x = some z := by
      intro x y hx
      simp only [lockG] at hx
      rw [lockH_get] at hx
      split at hx
      · cases hz : g.s.h.get x with
        | none => rw [hz] at hx; cases hx
        | some z => exact ⟨z, rfl⟩
      · exact ⟨_, hx⟩
    obtain ⟨z1, k1⟩ := get0 h1
    obtain ⟨z2, k2⟩ := get0 h2
    exact hr.inj _ _ _ _ _ _ k1 k2 g1 g2 e
/-- what lies in a cell is taken as it is -/
theorem good_plain (b off : Nat) (hc : cellAt b off g.s.h = true) (hg : ∀ x : Value, Good P B w0 γ0 nt Q ⟨g.k, ⟨g.s.T, plainH b off x g.s.h, g.s.c, g.s.ds⟩⟩) : Good P B w0 γ0 nt Q g := by
  unfold cellAt at hc
  split at hc <;> first | (cases hc; done) | skip
  rename_i ty o cl ex lim cs hb1
  split at hc <;> first | (cases hc; done) | skip
  rename_i av hav
  have hlt := blt_lt hc
  refine ⟨fun γ a w hle hf hr hb => ?_⟩
  obtain ⟨p, hp, hbr⟩ := hr.live b _ hb1
  obtain ⟨h0, c, ty', fz, h1, h2, h3, h4⟩ := hbr
  obtain ⟨x, hx1, hx2⟩ := h4 off av hlt hav
  have hh := (hg x).out γ a w hle hf ?_ hb
  · exact hh
  · unfold plainH
    rw [hb1]
    refine hr.turn hb1 hp (Nat.le_refl _) (fun _ _ _ => rfl) ⟨h0, c, ty', fz, h1, h2, h3, fun i a' hi hi' => ?_⟩
    rw [Tr.get_put] at hi'
    split at hi'
    · rename_i e
      subst e
      injection hi' with hi'
      subst hi'
      exact ⟨x, hx1, .v x⟩
    · exact h4 i a' hi hi'
end
end Go.Sy
