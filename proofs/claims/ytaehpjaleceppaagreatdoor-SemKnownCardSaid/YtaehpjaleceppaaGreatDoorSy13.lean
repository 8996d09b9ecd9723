/- The reckoner: slices that grow, calls that make memory. Any program; the conditions are in each theorem. -/
import Derived.Test.YtaehpjaleceppaaGreatDoorSy12
noncomputable section
namespace Go.Sy
open Go Go.RowKit
set_option linter.unusedVariables false
set_option linter.unusedSimpArgs false

/-! a slice that is being put together: 'X' is what stands for it, 'ob' what lies at block 'b' -/
def RowAt (e esz b n : Nat) (xs : List Value) (X : AV) (ob : Option Blk) : Prop :=
  xs.length = n * esz ∧ ((X = .v (.slice none 0 0) ∧ ob = none ∧ n = 0) ∨ (X = .slg b 0 n esz ∧ ob = some (.row e xs)))
theorem RowAt.nil (e esz b : Nat) : RowAt e esz b 0 [] (.v (.slice none 0 0)) none := ⟨by simp, .inl ⟨rfl, rfl, rfl⟩⟩
theorem RowAt.lt {e esz b n c : Nat} {xs : List Value} {X : AV} {ob : Option Blk} (h : RowAt e esz b n xs X ob) (hb : b < c) : avLt c X = true := by
  rcases h.2 with ⟨rfl, _⟩ | ⟨rfl, _⟩
  · rfl
  · exact Nat.ble_eq_true_of_le hb
theorem RowAt.blk {e esz b n c : Nat} {xs : List Value} {X : AV} {ob : Option Blk} (h : RowAt e esz b n xs X ob) : (match ob with | none => true | some k => blkLt c k) = true := by
  rcases h.2 with ⟨_, rfl, _⟩ | ⟨_, rfl⟩ <;> rfl

mutual
def avNo (n : Nat) : AV → Bool
  | .v _ => true
  | .ptr b _ => not (Nat.beq b n)
  | .sl b _ _ _ => not (Nat.beq b n)
  | .slg b _ _ _ => not (Nat.beq b n)
  | .agg l => avNoL n l
  | .tup l => avNoL n l
  | .ifc _ a => avNo n a
  | .fn _ l r => match avNoL n l with
    | true => avNoL n r
    | false => false
  | .map b => not (Nat.beq b n)
def avNoL (n : Nat) : List AV → Bool
  | [] => true
  | a :: l => match avNo n a with
    | true => avNoL n l
    | false => false
end
theorem avNoL_get {n : Nat} : ∀ {l : List AV}, avNoL n l = true → ∀ (i : Nat) (a : AV), l[i]? = some a → avNo n a = true
  | [], _, i, a, hi => by simp at hi
  | b :: l, h, i, a, hi => by
    simp only [avNoL] at h
    split at h
    · rename_i hb
      cases i with
      | zero => simp at hi; subst hi; exact hb
      | succ i => exact avNoL_get h i a (by simpa using hi)
    · cases h
theorem beq_no {b n : Nat} (h : (!(Nat.beq b n)) = true) : b ≠ n := fun e => by subst e; simp at h
theorem Gm.upd_ne {γ : Gm} {b c : Nat} {q p : Nat × Nat} (h : γ c = some p) (hne : c ≠ b) : γ.upd b q c = some p := by unfold Gm.upd; rw [if_neg hne]; exact h
theorem VR.upd {γ : Gm} {b : Nat} {q : Nat × Nat} {a : AV} {x : Value} (h : VR γ a x) : avNo b a = true → VR (γ.upd b q) a x := by
  induction h with
  | v x => exact fun _ => .v x
  | ptr h => exact fun hb => .ptr (Gm.upd_ne h (beq_no hb))
  | sl h hl => exact fun hb => .sl (Gm.upd_ne h (beq_no hb)) hl
  | slg h hl hm ho => exact fun hb => .slg (Gm.upd_ne h (beq_no hb)) hl hm ho
  | agg hl _ ih => exact fun hb => .agg hl (fun i a x h1 h2 => ih i a x h1 h2 (avNoL_get hb i a h1))
  | tup hl _ ih => exact fun hb => .tup hl (fun i a x h1 h2 => ih i a x h1 h2 (avNoL_get hb i a h1))
  | ifc _ ih => exact fun hb => .ifc (ih hb)
  | fn hl _ hl' _ ih ih' =>
    intro hb
    simp only [avNo] at hb
    split at hb
    · rename_i h1
      exact .fn hl (fun i a x h2 h3 => ih i a x h2 h3 (avNoL_get h1 i a h2)) hl' (fun i a x h2 h3 => ih' i a x h2 h3 (avNoL_get hb i a h2))
    · cases hb
  | map h => exact fun hb => .map (Gm.upd_ne h (beq_no hb))
def esNo (n : Nat) : List (AV × AV × Nat) → Bool
  | [] => true
  | e :: l => match avNo n e.1, avNo n e.2.1 with
    | true, true => esNo n l
    | _, _ => false
theorem esNo_get {n : Nat} : ∀ {l : List (AV × AV × Nat)}, esNo n l = true → ∀ (i : Nat) (e : AV × AV × Nat), l[i]? = some e → avNo n e.1 = true ∧ avNo n e.2.1 = true
  | [], _, i, e, h => by simp at h
  | x :: l, h, i, e, hi => by
    simp only [esNo] at h
    split at h <;> first | (cases h; done) | skip
    rename_i h1 h2
    cases i with
    | zero => simp at hi; subst hi; exact ⟨h1, h2⟩
    | succ i => exact esNo_get h i e (by simpa using hi)
def blkNo (n : Nat) : Blk → Bool
  | .cells _ _ _ _ _ cs => trAll (avNo n) cs
  | .map es _ => esNo n es
  | .row _ _ => true
theorem BR.upd {B : Nat → Prop} {γ : Gm} {b : Nat} {q : Nat × Nat} {blk : Blk} {p : Nat × Nat} {w : World} (h : BR B γ blk p w) (hb : blkNo b blk = true) : BR B (γ.upd b q) blk p w := by
  cases blk with
  | cells ty own clean ex lim cs =>
    obtain ⟨h0, c, ty', fz, h1, h2, h3, h4⟩ := h
    exact ⟨h0, c, ty', fz, h1, h2, h3, fun i a hl hi => let ⟨x, h5, h6⟩ := h4 i a hl hi; ⟨x, h5, h6.upd (trAll_get hb i a hi)⟩⟩
  | map es clock =>
    obtain ⟨h0, l, h1, h2, h3⟩ := h
    exact ⟨h0, l, h1, h2, fun i e m he hm => let ⟨a, b, c⟩ := h3 i e m he hm; ⟨a.upd (esNo_get hb i e he).1, b.upd (esNo_get hb i e he).2, c⟩⟩
  | row e xs => exact h
def eraseL : List Nat → Tr AV → Tr AV
  | [], T => T
  | t :: l, T => (eraseL l T).put t none
theorem eraseL_get : ∀ {l : List Nat} {T : Tr AV} {t : Nat} {a : AV}, (eraseL l T).get t = some a → T.get t = some a
  | [], T, t, a, h => h
  | x :: l, T, t, a, h => by
    simp only [eraseL] at h
    rw [Tr.get_put] at h
    split at h
    · cases h
    · exact eraseL_get h

/-! what stands at the head -/
def restK (g : Cfg) : List It := match g.k with
  | .ops arr (_ :: l) :: k => .ops arr l :: k
  | k => k
def dstOf (g : Cfg) : Option Nat := match g.k with
  | .ops _ (o :: _) :: _ => o.dst
  | _ => none
def putD (d : Option Nat) (T : Tr AV) (av : AV) : Tr AV := match d with
  | none => T
  | some d => T.put d (some av)
def hdApp (P : Program) (nt : Nat) (g : Cfg) : Option (List TypeId × AV × AV) := match hdOp P nt g with
  | none => none
  | some o => match o.op with
    | .call k => match k.callee, k.args.toList with
      | .builtin .append, [s, x] => match aev P g.s.T s, aev P g.s.T x with
        | some a, some b => some (k.argTypes.toList, a, b)
        | _, _ => none
      | _, _ => none
    | _ => none
def srcOf (h : Hp) (esz : Nat) (x : AV) : Option (Nat × List Value) := match aSource h esz x with
  | none => none
  | some (m, l) => match closeL l with
    | none => none
    | some vs => some (m, vs)

section
variable {P : Program} {I : Aux} {B : Nat → Prop} {w0 : World} {γ0 : Gm} {nt : Nat} {Q : Exit → Act → World → Prop} {g : Cfg}
/-- what an operation at the head must do, what is known behind it as one likes -/
theorem good_opA {o : Oper} (h : hdOp P nt g = some o)
    (H : ∀ γ a w (K : Act → World → Prop) (QQ : Exit → Act → World → Prop), Gm.le γ0 γ → FR γ nt g.s.T g.s.ds a → HR B P.globals.size γ g.s.h g.s.c w → Keep B w0 w → dstOf g = o.dst → (∀ d, o.dst = some d → d < nt) →
      (∀ a' w', after P Q (restK g) .normal a' w' → K a' w') → o.wp P a w K QQ) : Good P B w0 γ0 nt Q g := by
  obtain ⟨k, s⟩ := g
  unfold hdOp at h
  simp only at h
  split at h <;> first | (cases h; done) | skip
  rename_i arr o' l k'
  split at h <;> first | (cases h; done) | skip
  rename_i hw
  have hoo : o' = o ∧ ∀ d, o'.dst = some d → d < nt := by
    split at h
    · rename_i hd
      injection h with h
      exact ⟨h, fun d e => by rw [hd] at e; cases e⟩
    · rename_i d hd
      split at h <;> first | (cases h; done) | skip
      rename_i hlt
      injection h with h
      exact ⟨h, fun d' e => by rw [hd] at e; injection e with e; subst e; exact blt_lt hlt⟩
  obtain ⟨rfl, hd⟩ := hoo
  refine ⟨fun γ a w hle hf hr hb => ?_⟩
  simp only [after, Exit.then, wpL]
  have hw' := awanted_ok (a := a) (fun j want p t av _ _ _ ht => hf.tmps t av ht) hw
  rw [if_pos hw']
  left
  exact H γ a w _ _ hle hf hr hb rfl hd (fun a' w' h => h)
/-- what an operation at the head must do, the frame behind it as one likes -/
theorem good_opF {o : Oper} (h : hdOp P nt g = some o)
    (H : ∀ γ a w (K : Act → World → Prop) (QQ : Exit → Act → World → Prop), Gm.le γ0 γ → FR γ nt g.s.T g.s.ds a → HR B P.globals.size γ g.s.h g.s.c w → Keep B w0 w → dstOf g = o.dst → (∀ d, o.dst = some d → d < nt) →
      (∀ γ' v w' T2 h' c', Gm.le γ0 γ' → FR γ' nt T2 g.s.ds (a.put o.dst v) → HR B P.globals.size γ' h' c' w' → Keep B w0 w' → Good P B w0 γ0 nt Q ⟨restK g, ⟨T2, h', c', g.s.ds⟩⟩ → K (a.put o.dst v) w') →
      o.wp P a w K QQ) : Good P B w0 γ0 nt Q g :=
  good_opA h (fun γ a w K QQ hle hf hr hb hdst hd hK => H γ a w K QQ hle hf hr hb hdst hd (fun γ' v w' T2 h' c' h1 h2 h3 h4 hg => hK _ _ (hg.out γ' _ w' h1 h2 h3 h4)))
theorem callOf_ok {γ : Gm} {a : Act} {T : Tr AV} {o : Oper} {f : FuncId} {args : List AV} (hok : Ok P γ T a o.op.operands.toList) (h : callOf P T o = some (f, args)) :
    ∃ vs, LR γ args vs ∧ ∀ w, (execOp a.eval o).run P w = (callFunc f vs.toArray).run P w := by
  unfold callOf at h
  split at h <;> first | (cases h; done) | skip
  rename_i k hop
  split at h <;> first | (cases h; done) | skip
  · rename_i x hce
    split at h <;> first | (cases h; done) | skip
    rename_i f' first cap l hx hl
    injection h with h
    injection h with e1 e2
    subst e1 e2
    have hmem : o.op.operands.toList = x :: k.args.toList := by rw [hop]; simp [Op.operands, Call.operands, hce]
    have hxv := hok x (by rw [hmem]; simp) _ hx
    have hlv := aevs_ok (a := a) (fun y hy => hok y (by rw [hmem]; exact List.mem_cons_of_mem _ hy)) hl
    generalize hvx : a.eval x = vx at hxv
    cases hxv with
    | fn hl1 hh1 hl2 hh2 =>
      rename_i vs ws
      have r1 : LR γ first vs.toList := ⟨by simpa using hl1, fun i b y e1 e2 => hh1 i b y e1 (by simpa using e2)⟩
      have r2 : LR γ cap ws.toList := ⟨by simpa using hl2, fun i b y e1 e2 => hh2 i b y e1 (by simpa using e2)⟩
      refine ⟨_, (r1.append hlv).append r2, fun w => ?_⟩
      unfold execOp
      rw [hop]
      simp only [resolve, hce, hvx, Deferred.ofValue, Sem.run_bind, Sem.run_pure, Result.andThen_ok, invoke]
      congr 2
      apply Array.ext'
      simp
  · rename_i x name hce
    split at h <;> first | (cases h; done) | skip
    rename_i t b l hx hl
    split at h <;> first | (cases h; done) | skip
    rename_i f' hf'
    injection h with h
    injection h with e1 e2
    subst e1 e2
    have hmem : o.op.operands.toList = x :: k.args.toList := by rw [hop]; simp [Op.operands, Call.operands, hce]
    have hxv := hok x (by rw [hmem]; simp) _ hx
    have hlv := aevs_ok (a := a) (fun y hy => hok y (by rw [hmem]; exact List.mem_cons_of_mem _ hy)) hl
    generalize hvx : a.eval x = vx at hxv
    cases hxv with
    | ifc hxv =>
      rename_i vv
      refine ⟨vv :: k.args.toList.map a.eval, LR.cons hxv hlv, fun w => ?_⟩
      unfold execOp
      rw [hop]
      simp only [resolve, hce, hvx, Sem.run_bind, Sem.run_pure, Result.andThen_ok, invoke]
      have hex : (#[Value.iface t vv] ++ k.args.map a.eval).extract 1 (#[Value.iface t vv] ++ k.args.map a.eval).size = k.args.map a.eval := by
        apply Array.ext'
        simp
        exact List.take_of_length_le (by simp)
      have hget : (#[Value.iface t vv] ++ k.args.map a.eval)[0]? = some (.iface t vv) := by
        rw [Array.getElem?_append_left (by simp)]
        rfl
      rw [hget, hex]
      simp only [aMethod_ok hf']
      congr 2
      apply Array.ext'
      simp
theorem row_own {e esz b n : Nat} {xs : List Value} {X : AV} {ob : Option Blk} {γ : Gm} {h : Hp} {c G : Nat} {w : World} {x : Value} {base : Nat} (hrow : RowAt e esz b n xs X ob) (hob : h.get b = ob) (hr : HR B G γ h c w) (hv : VR γ X x) (hbase : ∀ k, ¬ B k → base ≤ k) :
    w.ownsRow base e esz x n xs ∧ (∀ k, x.ownBlock = some k → ¬ B k ∧ γ b = some (k, (γ b).getD (0, 0) |>.2)) := by
  obtain ⟨hlen, ⟨rfl, rfl, rfl⟩ | ⟨rfl, rfl⟩⟩ := hrow
  · cases hv
    exact ⟨⟨hlen, .inl ⟨rfl, rfl⟩⟩, fun k hk => by simp [Value.ownBlock] at hk⟩
  · cases hv with
    | slg hbp hl hm ho =>
      rename_i n1 N o cap
      obtain ⟨rfl, ho2⟩ := ho (.inl rfl)
      obtain ⟨p, hp, hbr⟩ := hr.live b _ hob
      rw [hbp] at hp
      injection hp with hp
      subst hp
      obtain ⟨h0, cc, k1, k2, k3⟩ := hbr
      simp only at k1 k2 h0
      refine ⟨⟨hlen, .inr ⟨n1, cap, cc, rfl, hbase _ h0, k1, hl, hm, by omega, by rw [← hlen]; exact k3⟩⟩, fun k hk => ?_⟩
      simp only [Value.ownBlock, Option.some.injEq] at hk
      subst hk
      exact ⟨h0, by rw [hbp]; rfl⟩
/-- append at the head: the slice is put together further -/
theorem good_append {t e : Nat} {i : TypeInfo} {z : Value} {y : AV} {m : Nat} (esz b n : Nat) (xs : List Value) (X : AV) (ob : Option Blk) (news : List Value) (E : List Nat)
    (h : hdApp P nt g = some ([t, t], X, y)) (hu : P.underlying t = some (.slice e)) (hi : P.info? e = some i) (hz : i.zero = some z) (hzs : z.cells.size = i.size) (hes : i.size = esz) (hpos : 0 < esz)
    (hrow : RowAt e esz b n xs X ob) (hob : g.s.h.get b = ob) (hsrc : srcOf g.s.h esz y = some (m + 1, news)) (hone : news.all (fun v => v.oneCell') = true) (h63 : n + (m + 1) ≤ maxLen) (hby : (n + (m + 1)) * i.bytes ≤ 140737488355328)
    (hγb : γ0 b = none) (hbc : Nat.blt b g.s.c = true) (hGb : Nat.ble P.globals.size b = true) (hds : g.s.ds = []) (hE : trAll (avNo b) (eraseL E g.s.T) = true) (hH : trAll (blkNo b) (g.s.h.put b none) = true)
    (hg : ∀ X' ob', RowAt e esz b (n + (m + 1)) (xs ++ news) X' ob' → Good P B w0 γ0 nt Q ⟨restK g, ⟨putD (dstOf g) (eraseL E g.s.T) X', g.s.h.put b ob', g.s.c, []⟩⟩) : Good P B w0 γ0 nt Q g := by
  have hbc := blt_lt hbc
  have hGb : P.globals.size ≤ b := Nat.le_of_ble_eq_true hGb
  unfold hdApp at h
  split at h
  · cases h
  rename_i o ho
  split at h <;> first | (cases h; done) | skip
  rename_i k hop
  split at h <;> first | (cases h; done) | skip
  rename_i s x hce hargs
  split at h <;> first | (cases h; done) | skip
  rename_i aS aX hs hx
  injection h with h
  injection h with e1 h
  injection h with e2 e3
  subst e2 e3
  have hargs' : k.args = #[s, x] := by apply Array.ext'; simpa using hargs
  have hts : k.argTypes = #[t, t] := by apply Array.ext'; simpa using e1
  have hop' : o.op = .call { callee := .builtin .append, args := #[s, x], argTypes := #[t, t] } := by rw [hop, ← hce, ← hargs', ← hts]
  refine good_opF ho (fun γ a w K QQ hle hf hr hb hdst hdlt hK => ?_)
  have hok := hf.ok (P := P) (B := B) (G := 0) hr.glob o.op.operands.toList
  have hmem : o.op.operands.toList = [s, x] := by rw [hop']; simp [Op.operands, Call.operands]
  have hs' := hok s (by simp [hmem]) _ hs
  have hx' := hok x (by simp [hmem]) _ hx
  obtain ⟨hown, hoB⟩ := row_own (base := 0) hrow hob hr hs' (fun k _ => Nat.zero_le _)
  unfold srcOf at hsrc
  split at hsrc
  · cases hsrc
  rename_i m' l hsr
  split at hsrc <;> first | (cases hsrc; done) | skip
  rename_i vs' hcl
  injection hsrc with hsrc
  injection hsrc with e4 e5
  subst e4 e5
  obtain ⟨A, kk, news', ⟨hxe, hl, hln, hA⟩ | ⟨_, _, hm0, _⟩⟩ := aSource_ok hr hx' hsr
  case inr => omega
  have hnn := closeL_eq hcl hl
  subst hnn
  have hpos' : 0 < (m + 1) * esz := Nat.mul_pos (by omega) hpos
  obtain ⟨ad, rfl, hcell⟩ := hA hpos'
  obtain ⟨v', w', hrun, hown', hgr, _, hsame⟩ := run_append_own_at (P := P) w 0 t o.type e i z esz i.bytes hu hi hz hes rfl (hzs.trans hes) hpos (a.eval s) n xs hown ad (m + 1) kk news' hln hcell (fun u hu => List.all_eq_true.1 hone u hu) h63 hby (Nat.zero_le _)
  have hopr : (execOp a.eval o).run P w = .ok (.value v') w' := by
    unfold execOp
    simp only [hop', resolve, invoke, builtin, Sem.run_bind, Sem.run_pure, Result.andThen_ok, List.map_toArray, List.map_cons, List.map_nil, hxe, hrun]
  rcases hown'.2 with ⟨_, h0⟩ | ⟨gg, cap, cur, rfl, _, hheap, hnc, hcm, hcs, htake⟩
  · omega
  have hBg : ¬ B gg := by
    have hsame' : some gg = (a.eval s).ownBlock ∨ some gg = some w.heap.size := hsame
    rcases hsame' with h5 | h5
    · exact (hoB gg h5.symm).1
    · injection h5 with h5; rw [h5]; exact hr.new
  have hbd : ∀ b1 blk p, b1 ≠ b → g.s.h.get b1 = some blk → γ b1 = some p → w'.heap[p.1]? = w.heap[p.1]? ∧ p.1 ≠ gg := by
    intro b1 blk p hne h1 h2
    obtain ⟨q, hq, hbr⟩ := hr.live b1 _ h1
    obtain rfl : q = p := by rw [hq] at h2; injection h2
    have hno : ∀ j, (a.eval s).ownBlock = some j → q.1 ≠ j := by
      intro j hj e
      obtain ⟨_, hγ⟩ := hoB j hj
      have hobs : ∃ blk2, g.s.h.get b = some blk2 := by
        rcases hrow.2 with ⟨hX, _, _⟩ | ⟨_, hob2⟩
        · subst hX
          generalize hvs : a.eval s = vS at hs' hj
          cases hs'
          simp [Value.ownBlock] at hj
        · exact ⟨_, hob.trans hob2⟩
      obtain ⟨blk2, hblk2⟩ := hobs
      exact hne (hr.inj _ _ _ _ _ _ h1 hblk2 hq hγ e)
    refine ⟨hgr.block _ hbr.lt (fun e => hno _ e.symm rfl), fun e => ?_⟩
    have hsame' : some gg = (a.eval s).ownBlock ∨ some gg = some w.heap.size := hsame
    rcases hsame' with h5 | h5
    · exact hno gg h5.symm e
    · injection h5 with h5
      have := hbr.lt
      omega
  have hrow' : RowAt e esz b (n + (m + 1)) (xs ++ news') (.slg b 0 (n + (m + 1)) esz) (some (.row e (xs ++ news'))) := ⟨hown'.1, .inr ⟨rfl, rfl⟩⟩
  have hupd : ∀ {b1 : Nat} {p : Nat × Nat}, b1 ≠ b → γ b1 = some p → (γ.upd b (gg, cap * esz)) b1 = some p := fun hne h1 => Gm.upd_ne h1 hne
  refine wp_val hopr (hK (γ.upd b (gg, cap * esz)) _ w' (putD (dstOf g) (eraseL E g.s.T) (.slg b 0 (n + (m + 1)) esz)) (g.s.h.put b (some (.row e (xs ++ news')))) g.s.c (fun b1 p hp => ?_) ⟨?_, ?_, ?_⟩ ⟨fun b1 blk hb1 => ?_, fun b1 b2 blk1 blk2 p1 p2 h1 h2 g1 g2 e => ?_, fun b1 hb1 => ?_, fun x hx => ?_, fun k hk => Nat.lt_of_lt_of_le (hr.base k hk) hgr.size⟩
    (hb.grown hgr hr.base (fun k hk => (hoB k hk).1)) (by have := hg _ _ hrow'; rw [hds]; exact this))
  · refine hupd (fun e => ?_) (hle b1 p hp)
    subst e
    rw [hγb] at hp
    cases hp
  · have := hf.size
    cases o.dst with
    | none => exact this
    | some d => simp [Act.put, this]
  · intro t' av ht
    have hold : ∀ {t'' : Nat} {av' : AV}, (eraseL E g.s.T).get t'' = some av' → (∀ d, o.dst = some d → t'' ≠ d) → ∃ v, (a.put o.dst (.slice (some ⟨gg, 0, none⟩) (n + (m + 1)) cap)).tmps[t'']? = some v ∧ VR (γ.upd b (gg, cap * esz)) av' v := by
      intro t'' av' h1 hne
      obtain ⟨v, h2, h3⟩ := hf.tmps t'' av' (eraseL_get h1)
      refine ⟨v, ?_, h3.upd (trAll_get hE t'' av' h1)⟩
      cases hd : o.dst with
      | none => simpa [Act.put, hd] using h2
      | some d => simp only [Act.put, hd]; rw [Array.getElem?_setIfInBounds_ne (fun e => hne d hd e.symm)]; exact h2
    rw [hdst] at ht
    cases hd : o.dst with
    | none =>
      rw [hd] at ht hold
      exact hold ht (fun d e => by cases e)
    | some d =>
      rw [hd] at ht hold
      simp only [putD] at ht
      rw [Tr.get_put] at ht
      split at ht
      · rename_i e
        subst e
        injection ht with ht
        subst ht
        refine ⟨_, ?_, .slg (Gm.upd_same _ _ _) hnc hcm (fun _ => ⟨rfl, by simp⟩)⟩
        simp [Act.put, hf.size, hdlt _ hd]
      · rename_i hne
        exact hold ht (fun d' e => by injection e with e; subst e; exact hne)
  · have := hf.defs
    rw [hds] at this ⊢
    have h2 : (a.put o.dst (.slice (some ⟨gg, 0, none⟩) (n + (m + 1)) cap)).defers = a.defers := by cases o.dst <;> rfl
    rw [h2]
    revert this
    cases a.defers with
    | nil => exact fun _ => trivial
    | cons d l => exact fun h => h.elim
  · rw [Tr.get_put] at hb1
    split at hb1
    · rename_i e
      subst e
      injection hb1 with hb1
      subst hb1
      refine ⟨_, Gm.upd_same _ _ _, hBg, cur, hheap, hcs, ?_⟩
      rw [hown'.1]
      exact htake
    · rename_i hne
      obtain ⟨p, hp, hbr⟩ := hr.live b1 blk hb1
      refine ⟨p, hupd hne hp, (hbr.upd ?_).kept (hbd b1 blk p hne hb1 hp).1⟩
      exact trAll_get hH b1 blk (by rw [Tr.get_put, if_neg hne]; exact hb1)
  · rw [Tr.get_put] at h1 h2
    split at h1 <;> split at h2
    · rename_i e1 e2; exact e1.trans e2.symm
    · rename_i e1 e2
      subst e1
      rw [Gm.upd_same] at g1
      injection g1 with g1
      subst g1
      obtain ⟨q, hq, _⟩ := hr.live b2 _ h2
      have : q = p2 := by have := hupd e2 hq; rw [this] at g2; injection g2
      subst this
      exact absurd e.symm (hbd b2 blk2 q e2 h2 hq).2
    · rename_i e1 e2
      subst e2
      rw [Gm.upd_same] at g2
      injection g2 with g2
      subst g2
      obtain ⟨q, hq, _⟩ := hr.live b1 _ h1
      have : q = p1 := by have := hupd e1 hq; rw [this] at g1; injection g1
      subst this
      exact absurd e (hbd b1 blk1 q e1 h1 hq).2
    · rename_i e1 e2
      obtain ⟨q, hq, _⟩ := hr.live b1 _ h1
      obtain ⟨q', hq', _⟩ := hr.live b2 _ h2
      have k1 : q = p1 := by have := hupd e1 hq; rw [this] at g1; injection g1
      have k2 : q' = p2 := by have := hupd e2 hq'; rw [this] at g2; injection g2
      subst k1 k2
      exact hr.inj _ _ _ _ _ _ h1 h2 hq hq' e
  · unfold Gm.upd
    have hb1 : g.s.c ≤ b1 := hb1
    rw [if_neg (by omega)]
    exact hr.fresh b1 hb1
  · obtain ⟨N, hN⟩ := hr.glob x hx
    exact ⟨N, hupd (by omega) hN⟩
def infoOf (P : Program) (e : TypeId) : Option (Nat × Nat) := match P.info? e with
  | some i => match i.zero with
    | some z => match Nat.beq z.cells.size i.size with
      | true => some (i.size, i.bytes)
      | false => none
    | none => none
  | none => none
def elemOf (P : Program) (t : TypeId) : Option TypeId := match P.underlying t with
  | some (.slice e) => some e
  | _ => none
theorem good_app {t e : Nat} (y : AV) (esz bytes b n m : Nat) (xs : List Value) (X : AV) (ob : Option Blk) (news : List Value) (E : List Nat)
    (h : hdApp P nt g = some ([t, t], X, y)) (hu : elemOf P t = some e) (hi : infoOf P e = some (esz, bytes)) (hpos : Nat.blt 0 esz = true)
    (hrow : RowAt e esz b n xs X ob) (hob : g.s.h.get b = ob) (hsrc : srcOf g.s.h esz y = some (m + 1, news)) (hone : news.all (fun v => v.oneCell') = true) (h63 : n + (m + 1) ≤ maxLen) (hby : (n + (m + 1)) * bytes ≤ 140737488355328)
    (hγb : γ0 b = none) (hbc : Nat.blt b g.s.c = true) (hGb : Nat.ble P.globals.size b = true) (hds : g.s.ds = []) (hE : trAll (avNo b) (eraseL E g.s.T) = true) (hH : trAll (blkNo b) (g.s.h.put b none) = true)
    (hg : ∀ X' ob', RowAt e esz b (n + (m + 1)) (xs ++ news) X' ob' → Good P B w0 γ0 nt Q ⟨restK g, ⟨putD (dstOf g) (eraseL E g.s.T) X', g.s.h.put b ob', g.s.c, []⟩⟩) : Good P B w0 γ0 nt Q g := by
  unfold elemOf at hu
  split at hu <;> first | (cases hu; done) | skip
  rename_i e' hu'
  injection hu with hu
  subst hu
  unfold infoOf at hi
  split at hi <;> first | (cases hi; done) | skip
  rename_i i hi'
  split at hi <;> first | (cases hi; done) | skip
  rename_i z hz
  split at hi <;> first | (cases hi; done) | skip
  rename_i hzs
  injection hi with hi
  injection hi with e1 e2
  subst e1 e2
  exact good_append i.size b n xs X ob news E h hu' hi' hz (Nat.eq_of_beq_eq_true hzs) rfl (blt_lt hpos) hrow hob hsrc hone h63 hby hγb hbc hGb hds hE hH hg
theorem VR_tup2 {γ : Gm} {a b : AV} {v : Value} (h : VR γ (.tup [a, b]) v) : ∃ x y, v = .tuple #[x, y] ∧ VR γ a x ∧ VR γ b y := by
  cases h with
  | tup hl hh =>
    rename_i vs
    obtain ⟨l⟩ := vs
    match l, hl with
    | [x, y], _ => exact ⟨x, y, rfl, hh 0 a x rfl rfl, hh 1 b y rfl rfl⟩
/-- a call that makes memory: from here on all that is there and is not the run's own stays -/
theorem good_callM (cx : Cx P I B w0) {f : FuncId} (xs : List Value) {Pr : World → Value → World → Prop} (h : hdCall P nt g = some (f, xs.map norm)) (hbod : bodied P f = some true) (hx : closeLL (xs.map norm) = some xs)
    (hc : ∀ w, Keep B w0 w → Calls P f xs.toArray w fun e w' => ∃ r, e = .returned r ∧ Pr w r w' ∧ Below w.heap.size w w')
    (hg : ∀ w r w' B', Keep B w0 w → Pr w r w' → Below w.heap.size w w' → Keep B w0 w' → (∀ k, B k → B' k) → (∀ k, w.heap.size ≤ k → k < w'.heap.size → B' k) → (∀ k, B' k → k < w'.heap.size) → Good P B' w' γ0 nt Q (nx0 g (norm r))) : Good P B w0 γ0 nt Q g := by
  unfold hdCall at h
  split at h
  · cases h
  rename_i o ho
  refine good_opA ho (fun γ a w K QQ hle hf hr hb hdst hdlt hK => ?_)
  have hok := hf.ok (P := P) (B := B) (G := 0) hr.glob o.op.operands.toList
  obtain ⟨fn, code, hfn, hbd⟩ := bodied_true hbod
  obtain ⟨vs, hl, hrun⟩ := callOf_ok hok h
  obtain rfl := closeLL_eq hx hl
  unfold Oper.wp
  rw [hrun, enter_ok cx.hn hfn hbd]
  refine (hc w hb).mono fun e w' hR => ?_
  obtain ⟨r, rfl, h1, h2⟩ := hR
  have hk := hb.trans (Keep.of_below h2 hr.base)
  have hr' := hr.kept h2.size h2.block
  refine hK _ _ ?_
  -- what stays from here on
  have hlt : ∀ {b blk k N}, g.s.h.get b = some blk → γ b = some (k, N) → k < w.heap.size := by
    intro b blk k N hb1 hγ
    obtain ⟨p, hp, hbr⟩ := hr.live b blk hb1
    rw [hγ] at hp
    injection hp with hp
    subst hp
    exact hbr.lt
  have hg' := hg w r w' (fun k => B k ∨ (k < w'.heap.size ∧ ∀ b blk N, g.s.h.get b = some blk → γ b ≠ some (k, N))) hb h1 h2 hk (fun k => .inl)
    (fun k h3 h4 => .inr ⟨h4, fun b blk N hb1 hγ => by have := hlt hb1 hγ; omega⟩)
    (fun k hkk => hkk.elim (fun h3 => hr'.base k h3) (fun h3 => h3.1))
  have hB : ∀ b blk p, g.s.h.get b = some blk → γ b = some p → ¬ B p.1 → ¬ (B p.1 ∨ (p.1 < w'.heap.size ∧ ∀ b blk N, g.s.h.get b = some blk → γ b ≠ some (p.1, N))) := by
    intro b blk p hb1 hγ hnB hor
    rcases hor with h3 | h3
    · exact hnB h3
    · exact h3.2 b blk p.2 hb1 hγ
  have key1 : FR γ nt (nx0 g (norm r)).s.T (nx0 g (norm r)).s.ds (a.put o.dst r) := by
    have hf' := hf.put (dst := o.dst) (av := norm r) (v := r) (T' := putD o.dst g.s.T (norm r)) (Gm.le.refl γ) (norm_VR r) (by
      unfold tput putD
      cases hd : o.dst with
      | none => rfl
      | some d =>
        have : Nat.blt d nt = true := Nat.ble_eq_true_of_le (hdlt d hd)
        simp only [this])
    have e : (nx0 g (norm r)).s.T = putD o.dst g.s.T (norm r) ∧ (nx0 g (norm r)).s.ds = g.s.ds := by
      rw [← hdst]
      obtain ⟨k, s⟩ := g
      unfold nx0 nx dstOf putD
      unfold hdOp at ho
      simp only at ho
      split at ho <;> first | (cases ho; done) | skip
      exact ⟨rfl, rfl⟩
    rw [e.1, e.2]
    exact hf'
  have key2 : HR (fun k => B k ∨ (k < w'.heap.size ∧ ∀ b blk N, g.s.h.get b = some blk → γ b ≠ some (k, N))) P.globals.size γ (nx0 g (norm r)).s.h (nx0 g (norm r)).s.c w' := by
    have e : (nx0 g (norm r)).s.h = g.s.h ∧ (nx0 g (norm r)).s.c = g.s.c := by
      obtain ⟨k, s⟩ := g
      unfold nx0 nx
      unfold hdOp at ho
      simp only at ho
      split at ho <;> first | (cases ho; done) | skip
      exact ⟨rfl, rfl⟩
    rw [e.1, e.2]
    refine ⟨fun b blk hb1 => ?_, hr'.inj, hr'.fresh, hr'.glob, fun k hkk => hkk.elim (fun h3 => hr'.base k h3) (fun h3 => h3.1)⟩
    obtain ⟨p, hp, hbr⟩ := hr'.live b blk hb1
    refine ⟨p, hp, ?_⟩
    have hBp := hB b blk p hb1 hp
    cases blk with
    | cells ty own clean ex lim cs =>
      obtain ⟨h0, h5⟩ := hbr
      exact ⟨fun ho => hBp (h0 ho), h5⟩
    | map es clock =>
      obtain ⟨h0, h5⟩ := hbr
      exact ⟨hBp h0, h5⟩
    | row e xs =>
      obtain ⟨h0, h5⟩ := hbr
      exact ⟨hBp h0, h5⟩
  have hfin := hg'.out γ (a.put o.dst r) w' hle key1 key2 (Keep.refl _ _)
  have e : (nx0 g (norm r)).k = restK g := by
    obtain ⟨k, s⟩ := g
    unfold nx0 nx restK
    unfold hdOp at ho
    simp only at ho
    split at ho <;> first | (cases ho; done) | skip
    rfl
  rw [e] at hfin
  exact hfin
/-- a loop: what holds at its head holds at the next one, and something falls -/
theorem good_loopI {ι : Type} (μ : ι → Nat) (Inv : ι → Prop) (st : ι → St) (i0 : ι) (h0 : Inv i0) (hlp : isLp g = true) (hin : Good P B w0 γ0 nt Q ⟨g.k, st i0⟩ → Good P B w0 γ0 nt Q g)
    (step : ∀ i, Inv i → (∀ j, Inv j → μ j < μ i → Good P B w0 γ0 nt Q ⟨g.k, st j⟩) → Good P B w0 γ0 nt Q (rnd ⟨g.k, st i⟩)) : Good P B w0 γ0 nt Q g := by
  have hl : ∀ i, isLp ⟨g.k, st i⟩ = true := fun i => hlp
  have key : ∀ n i, μ i = n → Inv i → Good P B w0 γ0 nt Q ⟨g.k, st i⟩ := by
    intro n
    induction n using Nat.strongRecOn with
    | _ n ih =>
      intro i hi hI
      exact good_loop (hl i) (step i hI (fun j hj hlt => ih (μ j) (hi ▸ hlt) j rfl hj))
  exact hin (key _ i0 rfl h0)
/-- the same, where the blocks that stay grow -/
theorem good_loopB {ι : Type} (μ : ι → Nat) (Inv : ι → (Nat → Prop) → World → Prop) (st : ι → St) (i0 : ι) (h0 : Inv i0 B w0) (hlp : isLp g = true) (hin : Good P B w0 γ0 nt Q ⟨g.k, st i0⟩ → Good P B w0 γ0 nt Q g)
    (step : ∀ i B w0, Inv i B w0 → (∀ j B' w', Inv j B' w' → μ j < μ i → Good P B' w' γ0 nt Q ⟨g.k, st j⟩) → Good P B w0 γ0 nt Q (rnd ⟨g.k, st i⟩)) : Good P B w0 γ0 nt Q g := by
  have hl : ∀ i, isLp ⟨g.k, st i⟩ = true := fun i => hlp
  have key : ∀ n i B' w', μ i = n → Inv i B' w' → Good P B' w' γ0 nt Q ⟨g.k, st i⟩ := by
    intro n
    induction n using Nat.strongRecOn with
    | _ n ih =>
      intro i B' w' hi hI
      exact good_loop (hl i) (step i B' w' hI (fun j B2 w2 hj hlt => ih (μ j) (hi ▸ hlt) j B2 w2 rfl hj))
  exact hin (key _ i0 B w0 rfl h0)
end
end Go.Sy
