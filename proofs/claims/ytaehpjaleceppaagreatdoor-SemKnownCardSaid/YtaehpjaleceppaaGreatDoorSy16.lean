/- The reckoner: regions whose order is open, along a plan: what reads is taken first, what turns memory when it comes up, the last one last. Any program; the conditions are in each theorem. -/
import Derived.Test.YtaehpjaleceppaaGreatDoorSy15
import Derived.Test.YtaehpjaleceppaaGreatDoorPlan
noncomputable section
namespace Go.Sy
open Go Go.RowKit Go.As
set_option linter.unusedVariables false
set_option linter.unusedSimpArgs false

/-! an operation for which all others are ahead -/
section
variable {P : Program} {ops : Array Oper} {Q : Exit → Act → World → Prop} {md : Region.Mode}
def lastPost (P : Program) (ops : Array Oper) (Q : Exit → Act → World → Prop) (z : Nat) : Exit → Act → World → Prop
  | .normal, a, w => wpOp P ops Q z (fun a w => Q .normal a w) a w
  | .exit i, a, w => Q (.exit i) a w
  | .goto i, a, w => Q (.goto i) a w
  | .ret, a, w => Q .ret a w
  | .panic c, a, w => Q (.panic c) a w
  | .outgrown, a, w => Q .outgrown a w
structure LastAt (md : Region.Mode) (ops : Array Oper) (z : Nat) : Prop where
  lt : z < ops.size
  waits : ∀ oz, ops[z]? = some oz → ∀ j, j ≠ z → j < ops.size → ∃ e ∈ oz.after, Region.binds md e = true ∧ e.on = j
  free : ∀ (j : Nat) (oj : Oper), ops[j]? = some oj → ∀ e ∈ oj.after, Region.binds md e = true → e.on < j ∧ e.on ≠ z
theorem ready_some {z : Nat} (hz : LastAt md ops z) {l : Array Bool} (hl : l.size = ops.size) : ∀ (j : Nat), j < ops.size → l.getD j true = false → Region.ready md ops l ≠ [] := by
  intro j
  induction j using Nat.strongRecOn with
  | _ j ih =>
    intro hj hun hr
    obtain ⟨oj, hoj⟩ : ∃ oj, ops[j]? = some oj := ⟨ops[j], Array.getElem?_eq_getElem hj⟩
    by_cases hall : ∀ e ∈ oj.after, Region.binds md e = true → l.getD e.on false = true
    · have : j ∈ Region.ready md ops l := mem_ready.2 ⟨hun, oj, hoj, hall⟩
      rw [hr] at this
      cases this
    · simp only [Classical.not_forall] at hall
      obtain ⟨e, he, hb, hne⟩ := hall
      have hlt := (hz.free j oj hoj e he hb).1
      refine ih e.on hlt (by omega) ?_ hr
      have hlt2 : e.on < l.size := by omega
      have h1 : l.getD e.on false = l[e.on] := by simp [hlt2]
      have h2 : l.getD e.on true = l[e.on] := by simp [hlt2]
      rw [h2]
      rw [h1] at hne
      simpa using hne
theorem wpAny_last {z : Nat} (hz : LastAt md ops z) : ∀ (fuel : Nat) (l : Array Bool) (a : Act) (w : World), l.size = ops.size → l.getD z true = false →
    wpAny P md ops (lastPost P ops Q z) fuel (l.setIfInBounds z true) a w → wpAny P md ops Q (fuel + 1) l a w := by
  have hset : ∀ (l : Array Bool) (i j : Nat), (l.setIfInBounds i true).setIfInBounds j true = (l.setIfInBounds j true).setIfInBounds i true := by
    intro l i j
    by_cases e : i = j
    · subst e; rfl
    · exact Array.setIfInBounds_comm true true e
  have hzr : ∀ {l : Array Bool}, z ∈ Region.ready md ops l → Region.ready md ops (l.setIfInBounds z true) = [] := by
    intro l h
    obtain ⟨h0, oz, hoz, hall⟩ := mem_ready.1 h
    apply List.eq_nil_iff_forall_not_mem.2
    intro j hj
    obtain ⟨h1, oj, hoj, _⟩ := mem_ready.1 hj
    have hjlt : j < ops.size := (Array.getElem?_eq_some_iff.1 hoj).1
    by_cases hjz : j = z
    · subst hjz
      rcases Nat.lt_or_ge j l.size with h2 | h2
      · simp [h2] at h1
      · simp [Array.getElem?_eq_none h2] at h0
    · obtain ⟨e, he, hb, heq⟩ := hz.waits oz hoz j hjz hjlt
      have h3 := hall e he hb
      rw [heq] at h3
      rw [getD_set_ne true (fun e => hjz e.symm)] at h1
      rcases Nat.lt_or_ge j l.size with h2 | h2
      · simp [h2] at h1 h3
        rw [h3] at h1
        cases h1
      · simp [Array.getElem?_eq_none h2] at h3
  intro fuel
  induction fuel with
  | zero =>
    intro l a w hl hun H
    refine ⟨fun hr => absurd hr (ready_some hz hl z hz.lt hun), fun i hi => ?_⟩
    by_cases hiz : i = z
    · subst hiz
      exact wpOp_mono (fun a' w' h => ⟨hzr hi, h⟩) H.2
    · have := ready_mono (i := z) hi hiz
      rw [H.1] at this
      cases this
  | succ fuel ih =>
    intro l a w hl hun H
    refine ⟨fun hr => absurd hr (ready_some hz hl z hz.lt hun), fun i hi => ?_⟩
    by_cases hiz : i = z
    · subst hiz
      have hr := hzr hi
      have := H.1 hr
      exact wpOp_mono (fun a' w' h => ⟨fun _ => h, fun j hj => by rw [hr] at hj; cases hj⟩) this
    · have h1 := H.2 i (ready_mono (i := z) hi hiz)
      have h2 : wpOp P ops Q i (wpAny P md ops (lastPost P ops Q z) fuel ((l.setIfInBounds z true).setIfInBounds i true)) a w := h1
      refine wpOp_mono (fun a' w' h => ?_) h2
      rw [hset] at h
      exact ih _ a' w' (by simpa using hl) (by rw [getD_set_ne true (fun e => hiz e)]; exact hun) h
end

def lastChk (ops : Array Oper) (z : Nat) : Bool := match ops[z]? with
  | none => false
  | some oz => ((List.range ops.size).all fun j => Nat.beq j z || oz.after.toList.any fun e => Region.binds .any e && Nat.beq e.on j) &&
      (ops.toList.zipIdx.all fun x => x.1.after.toList.all fun e => !Region.binds .any e || (Nat.blt e.on x.2 && !Nat.beq e.on z))
theorem lastChk_ok {ops : Array Oper} {z : Nat} (h : lastChk ops z = true) : LastAt .any ops z := by
  unfold lastChk at h
  split at h
  · cases h
  rename_i oz hoz
  rw [Bool.and_eq_true] at h
  obtain ⟨h1, h2⟩ := h
  refine ⟨(Array.getElem?_eq_some_iff.1 hoz).1, fun oz' hoz' j hjz hj => ?_, fun j oj hoj e he hb => ?_⟩
  · rw [hoz] at hoz'
    injection hoz' with hoz'
    subst hoz'
    have := List.all_eq_true.1 h1 j (List.mem_range.2 hj)
    rw [Bool.or_eq_true] at this
    rcases this with h3 | h3
    · exact absurd (Nat.eq_of_beq_eq_true h3) hjz
    · obtain ⟨e, he, h4⟩ := List.any_eq_true.1 h3
      rw [Bool.and_eq_true] at h4
      exact ⟨e, by simpa using he, h4.1, Nat.eq_of_beq_eq_true h4.2⟩
  · have hm : (oj, j) ∈ ops.toList.zipIdx := by
      rw [List.mem_zipIdx_iff_getElem?]
      simpa using hoj
    have := List.all_eq_true.1 (List.all_eq_true.1 h2 _ hm) e (by simpa using he)
    simp only [hb, Bool.not_true, Bool.false_or, Bool.and_eq_true] at this
    exact ⟨blt_lt this.1, beq_no this.2⟩
def toPlan (p : Go.As.Plan) (z : Nat) (S : World → Prop) (g : Cfg) : Cfg := match g.k with
  | .code (.region _ ops true) :: k => match ops[z]? with
    | some oz => ⟨.pl ops p S :: .ops ops [oz] :: .np :: k, g.s⟩
    | none => g
  | _ => g
def planOk (p : Go.As.Plan) (z : Nat) (g : Cfg) : Bool := match g.k with
  | .code (.region _ ops true) :: _ => Region.noSelect ops && lastChk ops z && p.fits .any ops true ((Array.replicate ops.size false).setIfInBounds z true) && Nat.blt p.depth ops.size
  | _ => false
def plS (g : Cfg) : World → Prop := match g.k with
  | .pl _ _ S :: _ => S
  | _ => fun _ => True
def isRun (g : Cfg) : Bool := match g.k with
  | .pl arr (.run i _) _ :: _ => match arr[i]? with
    | some _ => true
    | none => false
  | _ => false
def pRun (g : Cfg) : Cfg := match g.k with
  | .pl arr (.run i p) S :: k => match arr[i]? with
    | some o => ⟨.ops arr [o] :: .pl arr p S :: k, g.s⟩
    | none => g
  | _ => g
def isDone (g : Cfg) : Bool := match g.k with
  | .pl _ .done _ :: _ => true
  | _ => false
def pDone (g : Cfg) : Cfg := match g.k with
  | .pl _ .done _ :: k => ⟨k, g.s⟩
  | _ => g
def isAlt (g : Cfg) : Bool := match g.k with
  | .pl _ (.alt _ _) _ :: _ => true
  | _ => false
def pAlt (b : Bool) (g : Cfg) : Cfg := match g.k with
  | .pl arr (.alt p q) S :: k => ⟨.pl arr (match b with | true => p | false => q) S :: k, g.s⟩
  | _ => g
/-- what may be taken first -/
def pTake (P : Program) (nt : Nat) (L : List Nat) (g : Cfg) : Option Cfg := match g.k with
  | .pl arr (.take i p) S :: k => match arr[i]? with
    | none => none
    | some o => match awanted arr g.s.T o with
      | none => none
      | some false => match tput nt g.s.T o.dst (.tup []) with
        | none => none
        | some T' => some ⟨.pl arr p S :: k, ⟨T', g.s.h, g.s.c, g.s.ds⟩⟩
      | some true => match evalPure P g.s.T o with
        | some av => match tput nt g.s.T o.dst av with
          | none => none
          | some T' => some ⟨.pl arr p S :: k, ⟨T', g.s.h, g.s.c, g.s.ds⟩⟩
        | none => match o.op with
          | .load t x => match aev P g.s.T x with
            | some (.ptr b off) => match hasNat b L with
              | true => match aLoad P t (.ptr b off) g.s.h with
                | some av => match avFun av with
                  | true => match tput nt g.s.T o.dst av with
                    | none => none
                    | some T' => some ⟨.pl arr p S :: k, ⟨T', g.s.h, g.s.c, g.s.ds⟩⟩
                  | false => none
                | none => none
              | false => none
            | _ => none
          | _ => none
  | _ => none
noncomputable def pTakes (P : Program) (nt : Nat) (L : List Nat) (n : Nat) : Cfg → Cfg :=
  Nat.rec (motive := fun _ => Cfg → Cfg) (fun g => g) (fun _ ih g => match pTake P nt L g with
    | some g' => ih g'
    | none => g) n
/-- the operation that is to be taken first -/
def tkHd (P : Program) (nt : Nat) (g : Cfg) : Option Oper := match g.k with
  | .pl arr (.take i _) _ :: _ => match arr[i]? with
    | none => none
    | some o => match awanted arr g.s.T o with
      | some true => match o.dst with
        | none => some o
        | some d => match Nat.blt d nt with
          | true => some o
          | false => none
      | _ => none
  | _ => none
def tkSem (P : Program) (nt : Nat) (g : Cfg) : Option (Sem Value) := match tkHd P nt g with
  | none => none
  | some o => match aclosed P g.s.T o.op.operands.toList with
    | true => semV (arho P g.s.T) o.op
    | false => none
def tkNx (g : Cfg) (av : AV) : Cfg := match g.k with
  | .pl arr (.take i p) S :: k => match arr[i]? with
    | some o => ⟨.pl arr p S :: k, ⟨putD o.dst g.s.T av, g.s.h, g.s.c, g.s.ds⟩⟩
    | none => g
  | _ => g

/-- a load that may be taken first, of whatever stands there -/
def tkLd (P : Program) (nt : Nat) (L : List Nat) (g : Cfg) : Option AV := match tkHd P nt g with
  | none => none
  | some o => match o.op with
    | .load t x => match aev P g.s.T x with
      | some (.ptr b off) => match hasNat b L with
        | true => aLoad P t (.ptr b off) g.s.h
        | false => none
      | _ => none
    | _ => none

section
variable {P : Program} {I : Aux} {B Bs : Nat → Prop} {w0 ws : World} {γ0 : Gm} {nt : Nat} {Q : Exit → Act → World → Prop} {g g' : Cfg}
theorem good_plan (hm : P.follows .mixedOrders = true) (p : Go.As.Plan) (z : Nat) (h : planOk p z g = true) (hg : Good P B w0 γ0 nt Q (toPlan p z (Keep B w0) g)) : Good P B w0 γ0 nt Q g := by
  obtain ⟨k, s⟩ := g
  unfold planOk at h
  simp only at h
  split at h <;> first | (cases h; done) | skip
  rename_i id ops k'
  simp only [Bool.and_eq_true] at h
  obtain ⟨⟨⟨h1, h2⟩, h3⟩, h4⟩ := h
  have hz := lastChk_ok h2
  have h4 := blt_lt h4
  obtain ⟨oz, hoz⟩ : ∃ oz, ops[z]? = some oz := ⟨ops[z]'hz.lt, Array.getElem?_eq_getElem hz.lt⟩
  unfold toPlan at hg
  simp only [hoz] at hg
  refine ⟨fun γ a w hle hf hr hb => ?_⟩
  simp only [after, Exit.then]
  refine Code.wp_mono NoPan.imp (wp_region_any hm ?_)
  obtain ⟨n, hn⟩ : ∃ n, ops.size = n + 1 := ⟨ops.size - 1, by have := hz.lt; omega⟩
  rw [hn]
  refine wpAny_last hz n _ a _ (by simp [hn]) (by have := hz.lt; simp [← hn, this]) ?_
  refine wpAny_of_held _ _ _ _ ((wpPlanH_sound (S := Keep B w0) h1 (fun c a w hc => hc) p n _ a _ (by omega)).1 (by rw [hn] at h3; exact h3) ?_)
  have hh := hg.out γ a w.drew hle hf (hr.kept (Nat.le_refl _) (fun _ _ => rfl)) hb.drew
  simp only [after, plAfter] at hh
  have e : NoPan (Exit.then (wpL P ops (NoPan (after P Q k')) [oz]) (NoPan (after P Q k'))) = lastPost P ops (NoPan (after P Q k')) z := by
    funext e a w
    cases e <;> first | rfl | skip
    show wpL P ops (NoPan (after P Q k')) [oz] a w = wpOp P ops (NoPan (after P Q k')) z (fun a w => NoPan (after P Q k') .normal a w) a w
    unfold wpOp wpL
    simp only [hoz]
    rfl
  rw [e] at hh
  exact hh.2
theorem p_run (S : World → Prop) (hSe : plS g = S) (hS : ∀ w, Keep B w0 w → S w) (h : isRun g = true) (hg : Good P B w0 γ0 nt Q (pRun g)) : Good P B w0 γ0 nt Q g := by
  obtain ⟨k, s⟩ := g
  unfold isRun at h
  simp only at h
  split at h <;> first | (cases h; done) | skip
  rename_i arr i p S' k'
  split at h <;> first | (cases h; done) | skip
  rename_i o ho
  simp only [plS] at hSe
  subst hSe
  unfold pRun at hg
  simp only [ho] at hg
  refine ⟨fun γ a w hle hf hr hb => ⟨hS w hb, ?_⟩⟩
  have hh := hg.out γ a w hle hf hr hb
  show wpOp P arr (NoPan (after P Q k')) i (fun a' w' => S' w' ∧ wpPlanH P arr (NoPan (after P Q k')) S' p a' w') a w
  unfold wpOp
  simp only [ho]
  exact hh
theorem p_done (h : isDone g = true) (hg : Good P B w0 γ0 nt Q (pDone g)) (S : World → Prop) (hSe : plS g = S) (hS : ∀ w, Keep B w0 w → S w) : Good P B w0 γ0 nt Q g := by
  obtain ⟨k, s⟩ := g
  unfold isDone at h
  simp only at h
  split at h <;> first | (cases h; done) | skip
  rename_i arr S' k'
  simp only [plS] at hSe
  subst hSe
  exact ⟨fun γ a w hle hf hr hb => ⟨hS w hb, hg.out γ a w hle hf hr hb⟩⟩
theorem p_alt (h : isAlt g = true) (h1 : Good P B w0 γ0 nt Q (pAlt true g)) (h2 : Good P B w0 γ0 nt Q (pAlt false g)) : Good P B w0 γ0 nt Q g := by
  obtain ⟨k, s⟩ := g
  unfold isAlt at h
  simp only at h
  split at h <;> first | (cases h; done) | skip
  rename_i arr p q S' k'
  exact ⟨fun γ a w hle hf hr hb =>
    have a1 := h1.out γ a w hle hf hr hb
    have a2 := h2.out γ a w hle hf hr hb
    ⟨a1.1, a1.2, a2.2⟩⟩
theorem p_take1 {L : List Nat} (hS : ∀ w, Keep B w0 w → Keep Bs ws w) (hSe : plS g = Keep Bs ws) (hL : ∀ b, hasNat b L = true → ∃ p, γ0 b = some p ∧ Bs p.1) (h : pTake P nt L g = some g') (hg : Good P B w0 γ0 nt Q g') : Good P B w0 γ0 nt Q g := by
  obtain ⟨k, s⟩ := g
  unfold pTake at h
  simp only at h
  split at h <;> first | (cases h; done) | skip
  rename_i arr i p S k'
  simp only [plS] at hSe
  subst hSe
  split at h
  · cases h
  rename_i o ho
  refine ⟨fun γ a w hle hf hr hb => ⟨hS w hb, ?_⟩⟩
  have hok := hf.ok (P := P) (B := B) (G := 0) hr.glob o.op.operands.toList
  show _ ∧ ∃ o v, arr[i]? = some o ∧ YieldsIf P arr (Keep Bs ws) o v a ∧ wpPlanH P arr (NoPan (after P Q k')) (Keep Bs ws) p (a.put o.dst v) w
  refine ⟨hS w hb, o, ?_⟩
  split at h
  · cases h
  · rename_i hw
    have hw' := awanted_ok (a := a) (fun j want p t av _ _ _ ht => hf.tmps t av ht) hw
    split at h
    · cases h
    rename_i T' hT'
    injection h with h
    subst h
    exact ⟨undef, ho, .inr ⟨hw', rfl⟩, (hg.out γ _ w hle (hf.put (Gm.le.refl _) (undef_VR γ) hT') hr hb).2⟩
  · rename_i hw
    have hw' := awanted_ok (a := a) (fun j want p t av _ _ _ ht => hf.tmps t av ht) hw
    split at h
    · rename_i av hav
      split at h
      · cases h
      rename_i T' hT'
      injection h with h
      subst h
      obtain ⟨v, h1, h2⟩ := evalPure_ok hok hav
      exact ⟨v, ho, .inl ⟨hw', fun w' _ => h2 w'⟩, (hg.out γ _ w hle (hf.put (Gm.le.refl _) h1 hT') hr hb).2⟩
    · split at h <;> first | (cases h; done) | skip
      rename_i t x hop
      split at h <;> first | (cases h; done) | skip
      rename_i b off hx
      split at h <;> first | (cases h; done) | skip
      rename_i hbL
      split at h <;> first | (cases h; done) | skip
      rename_i av hav
      split at h <;> first | (cases h; done) | skip
      rename_i hfun
      split at h
      · cases h
      rename_i T' hT'
      injection h with h
      subst h
      have hxv := hok x (by simp [hop, Op.operands]) _ hx
      obtain ⟨v, h1, h2⟩ := aLoad_ok hr hxv hav
      have hrun : ∀ w' v', (Instr.loadAt t (a.eval x)).run P w' = .ok v' w' → (execOp a.eval o).run P w' = .ok (.value v') w' := fun w' v' hh => by
        unfold execOp
        rw [hop]
        exact run_v hh
      refine ⟨v, ho, .inl ⟨hw', fun w' hk' => ?_⟩, (hg.out γ _ w hle (hf.put (Gm.le.refl _) h1 hT') hr hb).2⟩
      -- the block is the same in every world that the fact allows
      obtain ⟨pb, hpb, hBs⟩ := hL b hbL
      have hγb := hle b pb hpb
      obtain ⟨blk, hblk⟩ : ∃ blk, s.h.get b = some blk := by
        cases hh : s.h.get b with
        | none => unfold aLoad at hav; simp [hh] at hav
        | some blk => exact ⟨blk, rfl⟩
      have hkw := hS w hb
      have hsame : w'.heap[pb.1]? = w.heap[pb.1]? := (hk'.block _ hBs).trans (hkw.block _ hBs).symm
      have hr1 : HR (fun _ => False) P.globals.size γ ((Tr.leaf : Hp).put b (some blk)) s.c w' := by
        refine ⟨fun b1 blk1 hb1 => ?_, fun b1 b2 blk1 blk2 p1 p2 g1 g2 _ _ _ => ?_, hr.fresh, hr.glob, fun k hk => hk.elim⟩
        · rw [Tr.get_put] at hb1
          split at hb1
          · rename_i e
            subst e
            injection hb1 with hb1
            subst hb1
            obtain ⟨p1, hp1, hbr⟩ := hr.live _ _ hblk
            rw [hγb] at hp1
            injection hp1 with hp1
            subst hp1
            refine ⟨pb, hγb, ?_⟩
            have hbr2 := hbr.kept hsame
            cases blk with
            | cells ty own clean ex lim cs => exact ⟨fun _ hF => hF, hbr2.2⟩
            | map es clock => exact ⟨fun hF => hF, hbr2.2⟩
            | row e xs => exact ⟨fun hF => hF, hbr2.2⟩
          · rw [Tr.get_leaf] at hb1; cases hb1
        · rw [Tr.get_put] at g1 g2
          split at g1 <;> split at g2
          · rename_i e1 e2; exact e1.trans e2.symm
          · rw [Tr.get_leaf] at g2; cases g2
          · rw [Tr.get_leaf] at g1; cases g1
          · rw [Tr.get_leaf] at g1; cases g1
      have hav1 : aLoad P t (.ptr b off) ((Tr.leaf : Hp).put b (some blk)) = some av := by
        rw [← hav]
        unfold aLoad
        simp only [Tr.get_put_same, hblk]
      obtain ⟨v', h3, h4⟩ := aLoad_ok hr1 hxv hav1
      rw [VR_fun h1 hfun h3]
      exact hrun w' v' h4
theorem p_load (L : List Nat) (av : AV) (h : tkLd P nt L g = some av) (hfun : avFun av = true) (hSe : plS g = Keep Bs ws) (hS : ∀ w, Keep B w0 w → Keep Bs ws w) (hL : ∀ b, hasNat b L = true → ∃ p, γ0 b = some p ∧ Bs p.1) (hg : Good P B w0 γ0 nt Q (tkNx g av)) : Good P B w0 γ0 nt Q g := by
  obtain ⟨k, s⟩ := g
  unfold tkLd at h
  split at h
  · cases h
  rename_i o ho
  unfold tkHd at ho
  simp only at ho
  split at ho <;> first | (cases ho; done) | skip
  rename_i arr i p S' k'
  simp only [plS] at hSe
  subst hSe
  split at ho
  · cases ho
  rename_i o' ho'
  split at ho <;> first | (cases ho; done) | skip
  rename_i hw
  have hoo : o' = o ∧ ∀ av, tput nt s.T o'.dst av = some (putD o'.dst s.T av) := by
    split at ho
    · rename_i hd
      injection ho with ho
      exact ⟨ho, fun av => by unfold tput putD; rw [hd]⟩
    · rename_i d hd
      split at ho <;> first | (cases ho; done) | skip
      rename_i hlt
      injection ho with ho
      exact ⟨ho, fun av => by unfold tput putD; rw [hd]; simp only [hlt]⟩
  obtain ⟨rfl, hput⟩ := hoo
  unfold tkNx at hg
  simp only [ho'] at hg
  split at h <;> first | (cases h; done) | skip
  rename_i t x hop
  split at h <;> first | (cases h; done) | skip
  rename_i b off hx
  split at h <;> first | (cases h; done) | skip
  rename_i hbL
  have hav := h
  refine ⟨fun γ a w hle hf hr hb => ⟨hS w hb, ?_⟩⟩
  have hok := hf.ok (P := P) (B := B) (G := 0) hr.glob o'.op.operands.toList
  have hw' := awanted_ok (a := a) (fun j want p t av _ _ _ ht => hf.tmps t av ht) hw
  show _ ∧ ∃ o v, arr[i]? = some o ∧ YieldsIf P arr (Keep Bs ws) o v a ∧ wpPlanH P arr (NoPan (after P Q k')) (Keep Bs ws) p (a.put o.dst v) w
  refine ⟨hS w hb, o', ?_⟩
  have hxv := hok x (by simp [hop, Op.operands]) _ hx
  obtain ⟨v, h1, h2⟩ := aLoad_ok hr hxv hav
  have hrun : ∀ w' v', (Instr.loadAt t (a.eval x)).run P w' = .ok v' w' → (execOp a.eval o').run P w' = .ok (.value v') w' := fun w' v' hh => by
    unfold execOp
    rw [hop]
    exact run_v hh
  refine ⟨v, ho', .inl ⟨hw', fun w' hk' => ?_⟩, (hg.out γ _ w hle (hf.put (Gm.le.refl _) h1 (hput _)) hr hb).2⟩
  -- the block is the same in every world that the fact allows
  obtain ⟨pb, hpb, hBs⟩ := hL b hbL
  have hγb := hle b pb hpb
  obtain ⟨blk, hblk⟩ : ∃ blk, s.h.get b = some blk := by
    cases hh : s.h.get b with
    | none => unfold aLoad at hav; simp [hh] at hav
    | some blk => exact ⟨blk, rfl⟩
  have hkw := hS w hb
  have hsame : w'.heap[pb.1]? = w.heap[pb.1]? := (hk'.block _ hBs).trans (hkw.block _ hBs).symm
  have hr1 : HR (fun _ => False) P.globals.size γ ((Tr.leaf : Hp).put b (some blk)) s.c w' := by
    refine ⟨fun b1 blk1 hb1 => ?_, fun b1 b2 blk1 blk2 p1 p2 g1 g2 _ _ _ => ?_, hr.fresh, hr.glob, fun k hk => hk.elim⟩
    · rw [Tr.get_put] at hb1
      split at hb1
      · rename_i e
        subst e
        injection hb1 with hb1
        subst hb1
        obtain ⟨p1, hp1, hbr⟩ := hr.live _ _ hblk
        rw [hγb] at hp1
        injection hp1 with hp1
        subst hp1
        refine ⟨pb, hγb, ?_⟩
        have hbr2 := hbr.kept hsame
        cases blk with
        | cells ty own clean ex lim cs => exact ⟨fun _ hF => hF, hbr2.2⟩
        | map es clock => exact ⟨fun hF => hF, hbr2.2⟩
        | row e xs => exact ⟨fun hF => hF, hbr2.2⟩
      · rw [Tr.get_leaf] at hb1; cases hb1
    · rw [Tr.get_put] at g1 g2
      split at g1 <;> split at g2
      · rename_i e1 e2; exact e1.trans e2.symm
      · rw [Tr.get_leaf] at g2; cases g2
      · rw [Tr.get_leaf] at g1; cases g1
      · rw [Tr.get_leaf] at g1; cases g1
  have hav1 : aLoad P t (.ptr b off) ((Tr.leaf : Hp).put b (some blk)) = some av := by
    rw [← hav]
    unfold aLoad
    simp only [Tr.get_put_same, hblk]
  obtain ⟨v', h3, h4⟩ := aLoad_ok hr1 hxv hav1
  rw [VR_fun h1 hfun h3]
  exact hrun w' v' h4
theorem pTakes_succ (L : List Nat) (n : Nat) (g : Cfg) : pTakes P nt L (n + 1) g = (match pTake P nt L g with
    | some g' => pTakes P nt L n g'
    | none => g) := rfl
theorem pTake_S {L : List Nat} (h : pTake P nt L g = some g') : plS g' = plS g := by
  obtain ⟨k, s⟩ := g
  unfold pTake at h
  simp only at h
  repeat' (split at h)
  all_goals first | (cases h; done) | (injection h with h; subst h; rfl)
theorem p_takes' {L : List Nat} (hS : ∀ w, Keep B w0 w → Keep Bs ws w) (hL : ∀ b, hasNat b L = true → ∃ p, γ0 b = some p ∧ Bs p.1) : ∀ (n : Nat) (g : Cfg), plS g = Keep Bs ws → Good P B w0 γ0 nt Q (pTakes P nt L n g) → Good P B w0 γ0 nt Q g
  | 0, g, _, h => h
  | n + 1, g, hSe, h => by
    rw [pTakes_succ] at h
    split at h
    · rename_i g' hg'
      exact p_take1 hS hSe hL hg' (p_takes' hS hL n g' ((pTake_S hg').trans hSe) h)
    · exact h
theorem p_takes (L : List Nat) (n : Nat) (hSe : plS g = Keep Bs ws) (hS : ∀ w, Keep B w0 w → Keep Bs ws w) (hL : ∀ b, hasNat b L = true → ∃ p, γ0 b = some p ∧ Bs p.1) (h : Good P B w0 γ0 nt Q (pTakes P nt L n g)) : Good P B w0 γ0 nt Q g :=
  p_takes' hS hL n g hSe h
/-- one that is worked out by hand -/
theorem p_val {S : Sem Value} (x : Value) (h : tkSem P nt g = some S) (hSe : plS g = Keep Bs ws) (hS : ∀ w, Keep B w0 w → Keep Bs ws w) (hrun : ∀ w, Keep Bs ws w → S.run P w = .ok x w) (hg : Good P B w0 γ0 nt Q (tkNx g (norm x))) : Good P B w0 γ0 nt Q g := by
  obtain ⟨k, s⟩ := g
  unfold tkSem at h
  split at h
  · cases h
  rename_i o ho
  split at h <;> first | (cases h; done) | skip
  rename_i hcl
  unfold tkHd at ho
  simp only at ho
  split at ho <;> first | (cases ho; done) | skip
  rename_i arr i p S' k'
  simp only [plS] at hSe
  subst hSe
  split at ho
  · cases ho
  rename_i o' ho'
  split at ho <;> first | (cases ho; done) | skip
  rename_i hw
  have hoo : o' = o ∧ ∀ av, tput nt s.T o'.dst av = some (putD o'.dst s.T av) := by
    split at ho
    · rename_i hd
      injection ho with ho
      exact ⟨ho, fun av => by unfold tput putD; rw [hd]⟩
    · rename_i d hd
      split at ho <;> first | (cases ho; done) | skip
      rename_i hlt
      injection ho with ho
      exact ⟨ho, fun av => by unfold tput putD; rw [hd]; simp only [hlt]⟩
  obtain ⟨rfl, hput⟩ := hoo
  unfold tkNx at hg
  simp only [ho'] at hg
  refine ⟨fun γ a w hle hf hr hb => ⟨hS w hb, ?_⟩⟩
  have hok := hf.ok (P := P) (B := B) (G := 0) hr.glob o'.op.operands.toList
  have hns : ∀ cs b, o'.op = .select cs b → False := fun cs b e => by rw [e] at h; cases h
  have hcong := execOp_congr (ρ := arho P s.T) (ρ' := a.eval) o' (fun cs b e => (hns cs b e).elim) (fun x hx => arho_ok hok hcl x (by simpa using hx))
  have hw' := awanted_ok (a := a) (fun j want p t av _ _ _ ht => hf.tmps t av ht) hw
  show _ ∧ ∃ o v, arr[i]? = some o ∧ YieldsIf P arr (Keep Bs ws) o v a ∧ wpPlanH P arr (NoPan (after P Q k')) (Keep Bs ws) p (a.put o.dst v) w
  exact ⟨hS w hb, o', x, ho', .inl ⟨hw', fun w' hk' => by rw [← hcong]; exact semV_run h (hrun w' hk')⟩, (hg.out γ _ w hle (hf.put (Gm.le.refl _) (norm_VR x) (hput _)) hr hb).2⟩
end
end Go.Sy
