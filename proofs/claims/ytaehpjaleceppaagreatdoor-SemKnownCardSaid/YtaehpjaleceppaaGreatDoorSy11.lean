/- The reckoner: a machine that runs a function's code as far as nothing is open, stops, and goes on behind. Any program; the conditions are in each theorem. -/
import Derived.Test.YtaehpjaleceppaaGreatDoorSy10
import Derived.Test.YtaehpjaleceppaaGreatDoorPlan
noncomputable section
namespace Go.Sy
open Go Go.RowKit
set_option linter.unusedVariables false
set_option linter.unusedSimpArgs false

/-- what is still to be done -/
inductive It where
  | code (c : Code)
  | ops (arr : Array Oper) (l : List Oper)
  | blk (id : Nat)
  | lp (c : Code)
  | sc
  | np
  | pl (arr : Array Oper) (p : Go.As.Plan) (S : World → Prop)
structure Cfg where
  k : List It
  s : St

/-- operations one after the other -/
def wpL (P : Program) (arr : Array Oper) (Q : Exit → Act → World → Prop) : List Oper → Act → World → Prop
  | [], a, w => Q .normal a w
  | o :: l, a, w => if Region.wanted o (yielded arr a.tmps) then o.wp P a w (wpL P arr Q l) Q ∨ (o.asks P a w ∧ LetsOut Q) else wpL P arr Q l (a.put o.dst undef) w
theorem wpOps_of_wpL {P : Program} {arr : Array Oper} {Q : Exit → Act → World → Prop} : ∀ {l : List Oper} {n : Nat}, (∀ j o, l[j]? = some o → arr[n + j]? = some o) → wpOps P arr Q (List.range' n l.length) = wpL P arr Q l
  | [], n, _ => by funext a w; rfl
  | o :: l, n, h => by
    have ho : arr[n]? = some o := by simpa using h 0 o rfl
    have ih := wpOps_of_wpL (P := P) (arr := arr) (Q := Q) (l := l) (n := n + 1) (fun j o' hj => by
      have := h (j + 1) o' (by simpa using hj)
      rw [show n + 1 + j = n + (j + 1) by omega]; exact this)
    funext a w
    simp only [List.length_cons, List.range'_succ, wpOps, ho, wpL, ih]
theorem wp_region_L {P : Program} {Q : Exit → Act → World → Prop} {a : Act} {w : World} {id : Nat} {arr : Array Oper} (h : wpL P arr Q arr.toList a w) : (Code.region id arr false).wp P Q a w := by
  refine wp_region ?_
  have := wpOps_of_wpL (P := P) (arr := arr) (Q := Q) (l := arr.toList) (n := 0) (fun j o hj => by rw [Nat.zero_add]; simpa using hj)
  rw [List.range_eq_range', show arr.size = arr.toList.length from Array.length_toList.symm, this]
  exact h

/-- in the middle of a region along a plan -/
def plAfter (P : Program) (arr : Array Oper) (p : Go.As.Plan) (S : World → Prop) (Q : Exit → Act → World → Prop) : Exit → Act → World → Prop
  | .normal, a, w => S w ∧ Go.As.wpPlanH P arr (Go.As.NoPan Q) S p a w
  | .exit i, a, w => Q (.exit i) a w
  | .goto i, a, w => Q (.goto i) a w
  | .ret, a, w => Q .ret a w
  | .panic c, a, w => False
  | .outgrown, a, w => Q .outgrown a w
/-- what must hold when what stands ahead of the rest ends -/
def after (P : Program) (Q : Exit → Act → World → Prop) : List It → Exit → Act → World → Prop
  | [] => Q
  | .code c :: k => Exit.then (c.wp P (after P Q k)) (after P Q k)
  | .ops arr l :: k => Exit.then (wpL P arr (after P Q k) l) (after P Q k)
  | .blk id :: k => Exit.inBlock id (after P Q k)
  | .lp c :: k => Exit.then (LoopBody P c (after P Q k)) (after P Q k)
  | .sc :: k => Exit.noGoto (after P Q k)
  | .np :: k => Go.As.NoPan (after P Q k)
  | .pl arr p S :: k => plAfter P arr p S (after P Q k)
/-- leaving blocks -/
def unw (id : Nat) : List It → Option (List It)
  | [] => none
  | .blk j :: k => match Nat.beq j id with
    | true => some k
    | false => unw id k
  | .code _ :: k => unw id k
  | .ops _ _ :: k => unw id k
  | .lp _ :: k => unw id k
  | .sc :: k => unw id k
  | .np :: k => unw id k
  | .pl _ _ _ :: k => unw id k
theorem unw_ok {P : Program} {Q : Exit → Act → World → Prop} {id : Nat} {a : Act} {w : World} : ∀ {k k' : List It}, unw id k = some k' → after P Q k' .normal a w → after P Q k (.exit id) a w
  | [], k', h, _ => by cases h
  | .blk j :: k, k', h, hq => by
    simp only [unw] at h
    split at h
    · rename_i hj
      have hj := Nat.eq_of_beq_eq_true hj
      injection h with h
      subst h hj
      simp only [after, Exit.inBlock, if_true]
      exact hq
    · rename_i hj
      have hj := Nat.ne_of_beq_eq_false hj
      show (if id = j then _ else _)
      rw [if_neg (show ¬ id = j from fun e => hj e.symm)]
      exact unw_ok h hq
  | .code _ :: k, k', h, hq => unw_ok (k := k) h hq
  | .ops _ _ :: k, k', h, hq => unw_ok (k := k) h hq
  | .lp _ :: k, k', h, hq => unw_ok (k := k) h hq
  | .sc :: k, k', h, hq => unw_ok (k := k) h hq
  | .np :: k, k', h, hq => unw_ok (k := k) h hq
  | .pl _ _ _ :: k, k', h, hq => unw_ok (k := k) h hq
theorem after_ret {P : Program} {Q : Exit → Act → World → Prop} {a : Act} {w : World} (hq : Q .ret a w) : ∀ {k : List It}, after P Q k .ret a w
  | [] => hq
  | .blk j :: k => after_ret (k := k) hq
  | .code _ :: k => after_ret (k := k) hq
  | .ops _ _ :: k => after_ret (k := k) hq
  | .lp _ :: k => after_ret (k := k) hq
  | .sc :: k => after_ret (k := k) hq
  | .np :: k => after_ret (k := k) hq
  | .pl _ _ _ :: k => after_ret (k := k) hq
/-- the rest comes to what it must, from any frame and world that are as the configuration says -/
structure Good (P : Program) (B : Nat → Prop) (w0 : World) (γ0 : Gm) (nt : Nat) (Q : Exit → Act → World → Prop) (g : Cfg) : Prop where
  out : ∀ γ a w, Gm.le γ0 γ → FR γ nt g.s.T g.s.ds a → HR B P.globals.size γ g.s.h g.s.c w → Keep B w0 w → after P Q g.k .normal a w

/-! one step -/
def stopAt (dst : Option Tmp) (stops : List Nat) : Bool := match dst with
  | none => false
  | some d => hasNat d stops
def opStep (P : Program) (I : Aux) (call : CallF) (nt : Nat) (arr : Array Oper) (o : Oper) (l : List Oper) (k : List It) (s : St) : Option Cfg := match awanted arr s.T o with
  | none => none
  | some false => match tput nt s.T o.dst (.tup []) with
    | none => none
    | some T' => some ⟨.ops arr l :: k, ⟨T', s.h, s.c, s.ds⟩⟩
  | some true => match evalOp P I call s.T s.h s.c o with
    | .val av h' c' => match tput nt s.T o.dst av with
      | none => none
      | some T' => some ⟨.ops arr l :: k, ⟨T', h', c', s.ds⟩⟩
    | .pan _ _ _ => none
    | .fail => match aDefer P s.T o with
      | none => none
      | some d => match tput nt s.T o.dst (.tup []) with
        | none => none
        | some T' => some ⟨.ops arr l :: k, ⟨T', s.h, s.c, d :: s.ds⟩⟩
def codeStepS (P : Program) (I : Aux) (call : CallF) (nt : Nat) (k : List It) (s : St) (c : Code) : Option Cfg := match c with
  | .skip => some ⟨k, s⟩
  | .label _ => some ⟨k, s⟩
  | .region _ ops draw => match draw with
    | false => some ⟨.ops ops ops.toList :: k, s⟩
    | true => match evalDraw P I call nt ops s with
      | .ok .normal s' => some ⟨k, s'⟩
      | _ => none
  | .seq x y => some ⟨.code x :: .code y :: k, s⟩
  | .block id x => some ⟨.code x :: .blk id :: k, s⟩
  | .scope x => some ⟨.code x :: .sc :: k, s⟩
  | .exit id => match unw id k with
    | none => none
    | some k' => some ⟨k', s⟩
  | _ => none
def codeStepD (c : Code) : Program → Aux → CallF → Nat → List It → St → Option Cfg := by
  induction c
  case skip => exact fun _ _ _ _ k s => some ⟨k, s⟩
  case label _ => exact fun _ _ _ _ k s => some ⟨k, s⟩
  case region _ ops draw =>
    induction draw
    · exact fun _ _ _ _ k s => some ⟨.ops ops ops.toList :: k, s⟩
    · exact fun P I call nt k s => match evalDraw P I call nt ops s with
        | .ok .normal s' => some ⟨k, s'⟩
        | _ => none
  case seq x y _ _ => exact fun _ _ _ _ k s => some ⟨.code x :: .code y :: k, s⟩
  case block id x _ => exact fun _ _ _ _ k s => some ⟨.code x :: .blk id :: k, s⟩
  case scope x _ => exact fun _ _ _ _ k s => some ⟨.code x :: .sc :: k, s⟩
  case exit id => exact fun _ _ _ _ k s => match unw id k with
    | none => none
    | some k' => some ⟨k', s⟩
  all_goals exact fun _ _ _ _ _ _ => none
def codeStep (P : Program) (I : Aux) (call : CallF) (nt : Nat) (k : List It) (s : St) (c : Code) : Option Cfg := codeStepD c P I call nt k s
theorem codeStep_eq (P : Program) (I : Aux) (call : CallF) (nt : Nat) (k : List It) (s : St) (c : Code) : codeStep P I call nt k s c = codeStepS P I call nt k s c := by
  cases c <;> first | rfl | (rename_i d; cases d <;> rfl)
def cstep (P : Program) (I : Aux) (call : CallF) (nt : Nat) (stops : List Nat) (g : Cfg) : Option Cfg := match g.k with
  | [] => none
  | .code c :: k => codeStep P I call nt k g.s c
  | .ops arr l :: k => match l with
    | [] => some ⟨k, g.s⟩
    | o :: l => match stopAt o.dst stops with
      | true => none
      | false => opStep P I call nt arr o l k g.s
  | .blk _ :: k => some ⟨k, g.s⟩
  | .sc :: k => some ⟨k, g.s⟩
  | .np :: k => some ⟨k, g.s⟩
  | .lp _ :: _ => none
  | .pl _ _ _ :: _ => none
/-- a test that is decided -/
def cond1 (P : Program) (g : Cfg) : Option Cfg := match g.k with
  | .code (.cond c x y) :: k => match aev P g.s.T c with
    | some (.v (.bool true)) => some ⟨.code x :: k, g.s⟩
    | some (.v (.bool false)) => some ⟨.code y :: k, g.s⟩
    | _ => none
  | _ => none
noncomputable def run (P : Program) (I : Aux) (call : CallF) (nt : Nat) (stops : List Nat) (n : Nat) : Nat → Cfg → Cfg :=
  Nat.rec (motive := fun _ => Nat → Cfg → Cfg) (fun _ g => g) (fun _ ih au g => match cstep P I call nt stops g with
    | some g' => ih au g'
    | none => match au with
      | 0 => g
      | au + 1 => match cond1 P g with
        | some g' => ih au g'
        | none => g) n

section
variable {P : Program} {I : Aux} {call : CallF} {B : Nat → Prop} {w0 : World} {γ0 : Gm} {nt : Nat} {Q : Exit → Act → World → Prop} {g g' : Cfg}
/-- what the machine leans on -/
structure Cx (P : Program) (I : Aux) (B : Nat → Prop) (w0 : World) : Prop where
  hm : P.follows .mixedOrders = true
  hn : Fine P I
  hW : ∀ w, Keep B w0 w → I.W w
theorem Cx.calls (cx : Cx P I B w0) (m : Nat) : CallOk P B P.globals.size w0 (evCall P I (ev P I m)) := evCall_ok cx.hn cx.hW (ev_ok cx.hm cx.hn cx.hW m)
theorem KOk2.good {γ : Gm} {r : R2} {e : AExit} {s : St} (hle : Gm.le γ0 γ) (h : r = .ok e s) {QQ : Exit → Act → World → Prop} (hq : ∀ γ' e' a w, Gm.le γ0 γ' → ER γ' e e' → FR γ' nt s.T s.ds a → HR B P.globals.size γ' s.h s.c w → Keep B w0 w → QQ e' a w) :
    KOk2 B P.globals.size γ w0 nt QQ r := by
  subst h
  exact fun γ' e' a w h1 => hq γ' e' a w (hle.trans h1)
theorem opStep_ok (hn : Fine P I) (hcall : CallOk P B P.globals.size w0 call) {arr : Array Oper} {o : Oper} {l : List Oper} {k : List It} {s : St} (h : opStep P I call nt arr o l k s = some g') (hg : Good P B w0 γ0 nt Q g') :
    Good P B w0 γ0 nt Q ⟨.ops arr (o :: l) :: k, s⟩ := by
  refine ⟨fun γ a w hle hf hr hb => ?_⟩
  simp only [after, Exit.then, wpL]
  have hok := hf.ok (P := P) (B := B) (G := 0) hr.glob o.op.operands.toList
  unfold opStep at h
  split at h
  · cases h
  · rename_i hw
    have hw' := awanted_ok (a := a) (fun j want p t av _ _ _ ht => hf.tmps t av ht) hw
    rw [if_neg (by simp [hw'])]
    split at h
    · cases h
    rename_i T' hT'
    injection h with h
    subst h
    exact hg.out γ _ w hle (hf.put (Gm.le.refl _) (undef_VR γ) hT') hr hb
  · rename_i hw
    have hw' := awanted_ok (a := a) (fun j want p t av _ _ _ ht => hf.tmps t av ht) hw
    rw [if_pos hw']
    left
    split at h
    · rename_i av h' c' hev
      split at h
      · cases h
      rename_i T' hT'
      injection h with h
      subst h
      refine evalOp_ok hn hcall hr hb hok ?_
      rw [hev]
      intro γ' v w' h1 h2 h3 h4
      exact hg.out γ' _ w' (hle.trans h1) (hf.put h1 h2 hT') h3 h4
    · cases h
    · split at h
      · cases h
      rename_i d hd
      split at h
      · cases h
      rename_i T' hT'
      injection h with h
      subst h
      obtain ⟨x, hx1, hx2⟩ := aDefer_ok hok hd
      unfold Oper.wp
      rw [hx2 w]
      simp only [Oper.upon]
      have hf2 : FR γ nt s.T (d :: s.ds) { a with defers := x :: a.defers } := ⟨hf.size, hf.tmps, hx1, hf.defs⟩
      exact hg.out γ _ w hle (hf2.put (Gm.le.refl _) (undef_VR γ) hT') hr hb
theorem codeStep_ok (hm : P.follows .mixedOrders = true) (hn : Fine P I) (hcall : CallOk P B P.globals.size w0 call) {k : List It} {s : St} {c : Code} (h : codeStep P I call nt k s c = some g') (hg : Good P B w0 γ0 nt Q g') :
    Good P B w0 γ0 nt Q ⟨.code c :: k, s⟩ := by
  refine ⟨fun γ a w hle hf hr hb => ?_⟩
  simp only [after, Exit.then]
  rw [codeStep_eq] at h
  unfold codeStepS at h
  split at h
  · injection h with h; subst h
    exact wp_skip (hg.out γ a w hle hf hr hb)
  · injection h with h; subst h
    exact wp_label (hg.out γ a w hle hf hr hb)
  · split at h
    · injection h with h; subst h
      exact wp_region_L (hg.out γ a w hle hf hr hb)
    · split at h
      · rename_i s' hev
        injection h with h; subst h
        refine evalDraw_ok hm hn hcall hf hr hb (KOk2.good (γ0 := γ0) hle hev ?_)
        intro γ' e' a' w' h1 h2 h3 h4 h5
        cases e' <;> first | exact h2.elim | skip
        exact hg.out γ' a' w' h1 h3 h4 h5
      · cases h
  · injection h with h; subst h
    exact wp_seq (hg.out γ a w hle hf hr hb)
  · injection h with h; subst h
    exact wp_block (hg.out γ a w hle hf hr hb)
  · injection h with h; subst h
    exact wp_scope_straight (hg.out γ a w hle hf hr hb)
  · split at h
    · cases h
    rename_i k' hk'
    injection h with h; subst h
    exact wp_exit (unw_ok hk' (hg.out γ a w hle hf hr hb))
  · cases h
theorem cstep_ok (hm : P.follows .mixedOrders = true) (hn : Fine P I) (hcall : CallOk P B P.globals.size w0 call) {stops : List Nat} (h : cstep P I call nt stops g = some g') (hg : Good P B w0 γ0 nt Q g') : Good P B w0 γ0 nt Q g := by
  obtain ⟨k, s⟩ := g
  unfold cstep at h
  simp only at h
  split at h
  · cases h
  · exact codeStep_ok hm hn hcall h hg
  · split at h
    · injection h with h; subst h
      exact ⟨fun γ a w hle hf hr hb => hg.out γ a w hle hf hr hb⟩
    · split at h
      · cases h
      · exact opStep_ok hn hcall h hg
  · injection h with h; subst h
    exact ⟨fun γ a w hle hf hr hb => hg.out γ a w hle hf hr hb⟩
  · injection h with h; subst h
    exact ⟨fun γ a w hle hf hr hb => hg.out γ a w hle hf hr hb⟩
  · injection h with h; subst h
    exact ⟨fun γ a w hle hf hr hb => hg.out γ a w hle hf hr hb⟩
  · cases h
  · cases h
theorem cond1_ok (h : cond1 P g = some g') (hg : Good P B w0 γ0 nt Q g') : Good P B w0 γ0 nt Q g := by
  obtain ⟨k, s⟩ := g
  unfold cond1 at h
  simp only at h
  split at h
  · rename_i c x y k'
    refine ⟨fun γ a w hle hf hr hb => ?_⟩
    simp only [after, Exit.then]
    split at h <;> first | (cases h; done) | skip
    all_goals
      rename_i hc
      injection h with h; subst h
      have hcv := hf.ok (P := P) (B := B) (G := 0) hr.glob [c] c (by simp) _ hc
      generalize hvc : a.eval c = vc at hcv
      cases hcv
    · exact wp_cond_true hvc (hg.out γ a w hle hf hr hb)
    · exact wp_cond_false hvc (hg.out γ a w hle hf hr hb)
  · cases h
theorem run_succ (stops : List Nat) (n au : Nat) (g : Cfg) : run P I call nt stops (n + 1) au g = (match cstep P I call nt stops g with
      | some g' => run P I call nt stops n au g'
      | none => match au with
        | 0 => g
        | au + 1 => match cond1 P g with
          | some g' => run P I call nt stops n au g'
          | none => g) := rfl
theorem run_ok' (hm : P.follows .mixedOrders = true) (hn : Fine P I) (hcall : CallOk P B P.globals.size w0 call) {stops : List Nat} : ∀ (n au : Nat) (g : Cfg), Good P B w0 γ0 nt Q (run P I call nt stops n au g) → Good P B w0 γ0 nt Q g
  | 0, au, g, h => h
  | n + 1, au, g, h => by
    rw [run_succ] at h
    split at h
    · rename_i g' hg'
      exact cstep_ok hm hn hcall hg' (run_ok' hm hn hcall n au g' h)
    · split at h
      · exact h
      · split at h
        · rename_i g' hg'
          exact cond1_ok hg' (run_ok' hm hn hcall n _ g' h)
        · exact h
end
end Go.Sy
