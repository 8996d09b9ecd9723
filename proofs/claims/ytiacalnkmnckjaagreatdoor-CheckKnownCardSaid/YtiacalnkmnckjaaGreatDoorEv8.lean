/- The reckoner: a region whose order Go leaves open comes to the same in every order. Any program; no conditions. -/
import Derived.Test.YtiacalnkmnckjaaGreatDoorEv7
noncomputable section
namespace Go.Ev
open Go Go.RowKit
set_option linter.unusedVariables false
set_option linter.unusedSimpArgs false

def Uniq (l : List Oper) : Prop := ∀ (i j : Nat) (p q : Oper) (t : Nat), l[i]? = some p → l[j]? = some q → p.dst = some t → q.dst = some t → i = j
structure Spec (P : Program) (I : Aux) (call : CallF) (nt : Nat) (ops : Array Oper) (l : List Oper) (T : Tr AV) (rs : List Rec) (hs : Hs) (Te : Tr AV) : Prop where
  recs : ∀ (i : Nat) (o : Oper) (r : Rec), l[i]? = some o → rs[i]? = some r → RecOk P I call ops o r hs (ne P l i)
  hit : ∀ (i : Nat) (Ti : Tr AV) (j : Nat) (o : Oper) (r : Rec) (t : Nat), (rs.map (·.T) ++ [Te])[i]? = some Ti → j < i → l[j]? = some o → rs[j]? = some r → o.dst = some t → Ti.get t = some r.av
  miss : ∀ (i : Nat) (Ti : Tr AV) (t : Nat), (rs.map (·.T) ++ [Te])[i]? = some Ti → (∀ (j : Nat) (o : Oper), j < i → l[j]? = some o → o.dst ≠ some t) → Ti.get t = T.get t
  inb : ∀ (j : Nat) (o : Oper) (r : Rec) (t : Nat), l[j]? = some o → rs[j]? = some r → o.dst = some t → t < nt
section
variable {P : Program} {call : CallF} {I : Aux} {nt : Nat} {ops : Array Oper}
theorem RecOk.up {o : Oper} {r : Rec} {hs : Hs} {k : Nat} (x : Hp × Nat) (h : RecOk P I call ops o r hs k) : RecOk P I call ops o r (x :: hs) (k + 1) := by
  obtain ⟨h1, hc, h2, h3⟩ := h
  exact ⟨h1, hc, by simpa using h2, by simpa using h3⟩
theorem tput_hit {T T' : Tr AV} {dst : Option Tmp} {av : AV} {t : Nat} (h : tput nt T dst av = some T') (hd : dst = some t) : T'.get t = some av ∧ t < nt := by
  subst hd
  simp only [tput] at h
  split at h
  · rename_i hlt
    injection h with h
    subst h
    exact ⟨Tr.get_put_same _ _ _, blt_lt hlt⟩
  · cases h
theorem tput_miss {T T' : Tr AV} {dst : Option Tmp} {av : AV} {t : Nat} (h : tput nt T dst av = some T') (hd : dst ≠ some t) : T'.get t = T.get t := by
  cases dst with
  | none => injection h with h; subst h; rfl
  | some d =>
    simp only [tput] at h
    split at h
    · injection h with h
      subst h
      exact Tr.get_put_ne _ _ (fun e => hd (by rw [e]))
    · cases h
theorem Spec.cons {o : Oper} {l : List Oper} {T T' Te : Tr AV} {rs : List Rec} {hs hs' : Hs} {r : Rec} (hu : Uniq (o :: l)) (h : Spec P I call nt ops l T' rs hs Te) (hT : r.T = T) (hp : tput nt T o.dst r.av = some T')
    (hh : (quiet P o = true ∧ hs' = hs) ∨ (quiet P o = false ∧ ∃ x, hs' = x :: hs)) (h0 : RecOk P I call ops o r hs' 0) : Spec P I call nt ops (o :: l) T (r :: rs) hs' Te := by
  refine ⟨fun i p q hi hq => ?_, fun i Ti j p q t hi hj hp' hq hd => ?_, fun i Ti t hi hm => ?_, fun j p q t hj hq hd => ?_⟩
  · cases i with
    | zero => simp at hi hq; subst hi hq; exact h0
    | succ i =>
      have := h.recs i p q (by simpa using hi) (by simpa using hq)
      rw [ne_succ]
      rcases hh with ⟨hqt, rfl⟩ | ⟨hqt, x, rfl⟩
      · rw [hqt]; exact this
      · rw [hqt]; exact this.up x
  · cases i with
    | zero => omega
    | succ i =>
      have hi' : (rs.map (·.T) ++ [Te])[i]? = some Ti := by simpa using hi
      cases j with
      | zero =>
        simp at hp' hq
        subst hp' hq
        have hne : ∀ (j : Nat) (o' : Oper), j < i → l[j]? = some o' → o'.dst ≠ some t := fun j o' _ hj' hd' => by
          have := hu 0 (j + 1) o o' t rfl (by simpa using hj') hd hd'
          omega
        rw [h.miss i Ti t hi' hne]
        exact (tput_hit hp hd).1
      | succ j => exact h.hit i Ti j p q t hi' (by omega) (by simpa using hp') (by simpa using hq) hd
  · cases i with
    | zero => simp at hi; subst hi; rw [hT]
    | succ i =>
      have hi' : (rs.map (·.T) ++ [Te])[i]? = some Ti := by simpa using hi
      rw [h.miss i Ti t hi' (fun j o' hj ho' => hm (j + 1) o' (by omega) (by simpa using ho'))]
      exact tput_miss hp (hm 0 o (by omega) rfl)
  · cases j with
    | zero => simp at hj; subst hj; exact (tput_hit hp hd).2
    | succ j => exact h.inb j p q t (by simpa using hj) (by simpa using hq) hd
theorem Spec.nil {l : List Oper} {T : Tr AV} {h : Hp} {c : Nat} : Spec P I call nt ops l T [] [(h, c)] T := by
  refine ⟨fun i o r _ hi => by simp at hi, fun i Ti j o r t _ _ _ hj => by simp at hj, fun i Ti t hi _ => ?_, fun j o r t _ hj => by simp at hj⟩
  cases i with
  | zero => simp at hi; subst hi; rfl
  | succ i => simp at hi
theorem drawSeq_spec : ∀ {l : List Oper} {T Te : Tr AV} {h : Hp} {c : Nat} {rs : List Rec} {hs : Hs} {pn : Option Pan}, Uniq l → drawSeq P I call nt ops l T h c = some (rs, hs, Te, pn) → Spec P I call nt ops l T rs hs Te
  | [], T, Te, h, c, rs, hs, pn, _, hd => by
    simp [drawSeq_nil] at hd
    obtain ⟨rfl, rfl, rfl, rfl⟩ := hd
    exact Spec.nil
  | o :: l, T, Te, h, c, rs, hs, pn, hu, hd => by
    have hu' : Uniq l := fun i j p q t hi hj h1 h2 => by
      have := hu (i + 1) (j + 1) p q t (by simpa using hi) (by simpa using hj) h1 h2
      omega
    rw [drawSeq_cons] at hd
    unfold drawStep at hd
    split at hd <;> first | (cases hd; done) | skip
    · rename_i hw
      split at hd <;> first | (cases hd; done) | skip
      rename_i T' hT'
      split at hd <;> first | (cases hd; done) | skip
      rename_i rs' hs' Te' pn' he
      have hsp := drawSeq_spec hu' he
      obtain ⟨h1, h2, h3⟩ := drawSeq_head he
      split at hd
      · rename_i hq
        injection hd with hd
        injection hd with e1 hd
        injection hd with e2 hd
        injection hd with e3 e4
        subst e1 e2 e3 e4
        exact hsp.cons hu rfl hT' (.inl ⟨hq, rfl⟩) ⟨hw, (h, c), h1, .inl ⟨rfl, rfl, fun e => by rw [hq] at e; cases e⟩⟩
      · rename_i hq
        injection hd with hd
        injection hd with e1 hd
        injection hd with e2 hd
        injection hd with e3 e4
        subst e1 e2 e3 e4
        exact hsp.cons hu rfl hT' (.inr ⟨hq, _, rfl⟩) ⟨hw, (h, c), rfl, .inl ⟨rfl, rfl, fun _ => by simpa using h1⟩⟩
    · rename_i hw
      split at hd
      · rename_i hq
        split at hd
        · rename_i av hav
          split at hd <;> first | (cases hd; done) | skip
          rename_i T' hT'
          split at hd <;> first | (cases hd; done) | skip
          rename_i rs' hs' Te' pn' he
          have hsp := drawSeq_spec hu' he
          obtain ⟨h1, h2, h3⟩ := drawSeq_head he
          injection hd with hd
          injection hd with e1 hd
          injection hd with e2 hd
          injection hd with e3 e4
          subst e1 e2 e3 e4
          exact hsp.cons hu rfl hT' (.inl ⟨hq, rfl⟩) ⟨hw, (h, c), h1, .inr (.inl ⟨rfl, hq, .inl hav⟩)⟩
        · split at hd <;> first | (cases hd; done) | skip
          rename_i av hav
          split at hd <;> first | (cases hd; done) | skip
          rename_i T' hT'
          split at hd <;> first | (cases hd; done) | skip
          rename_i rs' hs' Te' pn' he
          have hsp := drawSeq_spec hu' he
          obtain ⟨h1, h2, h3⟩ := drawSeq_head he
          injection hd with hd
          injection hd with e1 hd
          injection hd with e2 hd
          injection hd with e3 e4
          subst e1 e2 e3 e4
          exact hsp.cons hu rfl hT' (.inl ⟨hq, rfl⟩) ⟨hw, (h, c), h1, .inr (.inl ⟨rfl, hq, .inr ⟨rfl, hav⟩⟩)⟩
      · rename_i hq
        split at hd <;> first | (cases hd; done) | skip
        · rename_i av h' c' hev
          split at hd <;> first | (cases hd; done) | skip
          rename_i T' hT'
          split at hd <;> first | (cases hd; done) | skip
          rename_i rs' hs' Te' pn' he
          have hsp := drawSeq_spec hu' he
          obtain ⟨h1, h2, h3⟩ := drawSeq_head he
          injection hd with hd
          injection hd with e1 hd
          injection hd with e2 hd
          injection hd with e3 e4
          subst e1 e2 e3 e4
          exact hsp.cons hu rfl hT' (.inr ⟨hq, _, rfl⟩) ⟨hw, (h, c), rfl, .inr (.inr ⟨rfl, hq, (h', c'), hev, by simpa using h1⟩)⟩
        · injection hd with hd
          injection hd with e1 hd
          injection hd with e2 hd
          injection hd with e3 e4
          subst e1 e2 e3 e4
          exact Spec.nil
end

/-! what is loaded is the same wherever it may be loaded -/
def ldHs (P : Program) (R : List Row) (p : Row) (r : Rec) : Hs → Nat → Bool
  | [], _ => true
  | hc :: l, k => match allowedR P p R k with
    | true => match evalLoad P r.T hc.1 p.2.1 with
      | some av => match same av r.av with
        | true => ldHs P R p r l (Nat.succ k)
        | false => false
      | none => false
    | false => ldHs P R p r l (Nat.succ k)
def ldAll (P : Program) (R : List Row) (hs : Hs) : List Row → List Rec → Bool
  | p :: l, r :: rs => match r.ld with
    | true => match ldHs P R p r hs 0 with
      | true => ldAll P R hs l rs
      | false => false
    | false => ldAll P R hs l rs
  | _, _ => true
theorem ldHs_ok {P : Program} {R : List Row} {p : Row} {r : Rec} : ∀ {l : Hs} {k0 : Nat}, ldHs P R p r l k0 = true → ∀ (k : Nat) (hc : Hp × Nat), l[k]? = some hc → allowedR P p R (k0 + k) = true → evalLoad P r.T hc.1 p.2.1 = some r.av
  | [], k0, _, k, hc, h, _ => by simp at h
  | x :: l, k0, h, 0, hc, h1, h2 => by
    simp at h1
    subst h1
    simp only [ldHs] at h
    rw [Nat.add_zero] at h2
    rw [h2] at h
    simp only at h
    split at h
    · rename_i av hav
      split at h
      · rename_i hs
        rw [hav, same_eq hs]
      · cases h
    · cases h
  | x :: l, k0, h, k + 1, hc, h1, h2 => by
    have h' : ldHs P R p r l (Nat.succ k0) = true := by
      simp only [ldHs] at h
      split at h
      · split at h
        · split at h
          · exact h
          · cases h
        · cases h
      · exact h
    exact ldHs_ok h' k hc (by simpa using h1) (by rw [show Nat.succ k0 + k = k0 + (k + 1) by omega]; exact h2)
theorem ldAll_ok {P : Program} {R : List Row} {hs : Hs} : ∀ {l : List Row} {rs : List Rec}, ldAll P R hs l rs = true → ∀ (i : Nat) (p : Row) (r : Rec), l[i]? = some p → rs[i]? = some r → r.ld = true → ldHs P R p r hs 0 = true
  | p :: l, r :: rs, h, 0, p', r', h1, h2, h3 => by
    simp at h1 h2
    subst h1 h2
    simp only [ldAll, h3] at h
    split at h
    · assumption
    · cases h
  | p :: l, r :: rs, h, i + 1, p', r', h1, h2, h3 => by
    have h' : ldAll P R hs l rs = true := by
      simp only [ldAll] at h
      split at h
      · split at h
        · exact h
        · cases h
      · exact h
    exact ldAll_ok h' i p' r' (by simpa using h1) (by simpa using h2) h3
  | [], _, _, _, _, _, h1, _, _ => by simp at h1
  | _ :: _, [], _, _, _, _, _, h2, _ => by simp at h2

/-- does all that comes behind in the text wait for it? -/
def stops (p : Nat) : List Row → Bool
  | [] => true
  | q :: l => match Nat.blt p q.1 with
    | true => match Nat.testBit q.2.2 p with
      | true => stops p l
      | false => false
    | false => stops p l
theorem stops_ok {p : Nat} : ∀ {l : List Row}, stops p l = true → ∀ q ∈ l, p < q.1 → Nat.testBit q.2.2 p = true
  | [], _, q, hq, _ => by simp at hq
  | x :: l, h, q, hq, hlt => by
    simp only [stops] at h
    rcases List.mem_cons.1 hq with rfl | hq
    · have : Nat.blt p q.1 = true := by simp [Nat.blt]; omega
      rw [this] at h
      simp only at h
      split at h
      · assumption
      · cases h
    · split at h
      · split at h
        · exact stops_ok h q hq hlt
        · cases h
      · exact stops_ok h q hq hlt
def evalDraw (P : Program) (I : Aux) (call : CallF) (nt : Nat) (ops : Array Oper) (s : St) : R2 := match drawOk P ops (rowsOf 0 ops.toList (befs ops.toList [])) with
  | false => .fail
  | true => match drawSeq P I call nt ops ops.toList s.T s.h s.c with
    | none => .fail
    | some (rs, hs, Te, pn) => match ldAll P (rowsOf 0 ops.toList (befs ops.toList [])) hs (rowsOf 0 ops.toList (befs ops.toList [])) rs with
      | false => .fail
      | true => match pn with
        | none => match hs.getLast? with
          | none => .fail
          | some hc => .ok .normal ⟨Te, hc.1, hc.2, s.ds⟩
        | some x => match stops rs.length (rowsOf 0 ops.toList (befs ops.toList [])) with
          | false => .fail
          | true => .ok (.pan x.av) ⟨.leaf, x.h, x.c, s.ds⟩

/-! in every order -/
abbrev inS (S : Array Bool) (i : Nat) : Prop := S.getD i false = true
structure DInv (P : Program) (B : Nat) (γ0 : Gm) (w0 : World) (nt : Nat) (T0 : Tr AV) (ds : List ADef) (L : List Oper) (rs : List Rec) (hs : Hs) (S : Array Bool) (a : Act) (w : World) (k : Nat) (γ : Gm) (hc : Hp × Nat) : Prop where
  size : S.size = L.length
  closed : ∀ (i : Nat) (o : Oper), inS S i → L[i]? = some o → ∀ e ∈ o.after.toList, Region.binds .any e = true → inS S e.on
  heap : hs[k]? = some hc
  le : Gm.le γ0 γ
  hr : HR B P.globals.size γ hc.1 hc.2 w
  below : Below B w0 w
  tsize : a.tmps.size = nt
  defs : DR γ ds a.defers
  eff : ∀ (i : Nat) (o : Oper), L[i]? = some o → quiet P o = false → (inS S i ↔ ne P L i < k)
  done : ∀ (i : Nat) (o : Oper) (r : Rec) (t : Nat), L[i]? = some o → rs[i]? = some r → o.dst = some t → inS S i → ∃ v, a.tmps[t]? = some v ∧ VR γ r.av v
  todo : ∀ (t : Nat) (av : AV), T0.get t = some av → (∀ (i : Nat) (o : Oper), L[i]? = some o → o.dst = some t → ¬ inS S i) → ∃ v, a.tmps[t]? = some v ∧ VR γ av v
theorem inS_set {S : Array Bool} {i j : Nat} (hi : i < S.size) : inS (S.setIfInBounds i true) j ↔ j = i ∨ inS S j := by
  unfold inS
  rw [Array.getD_eq_getD_getElem?, Array.getD_eq_getD_getElem?, Array.getElem?_setIfInBounds]
  by_cases e : i = j
  · subst e; simp [hi]
  · have : j ≠ i := fun h => e h.symm
    simp [e, this]

section
variable {P : Program} {B : Nat} {γ0 : Gm} {w0 : World} {nt : Nat} {T0 Te : Tr AV} {ds : List ADef} {ops : Array Oper} {rs : List Rec} {hs : Hs} {call : CallF} {I : Aux} {Q : Exit → Act → World → Prop}
/-- one operation more -/
theorem DInv.step {L : List Oper} {S : Array Bool} {a : Act} {w w' : World} {k k' : Nat} {γ γ' : Gm} {hc hc' : Hp × Nat} (hu : Uniq L) (hsp : Spec P I call nt ops L T0 rs hs Te) (d : DInv P B γ0 w0 nt T0 ds L rs hs S a w k γ hc)
    {i : Nat} {o : Oper} {r : Rec} (hi : L[i]? = some o) (hri : rs[i]? = some r) (hpre : ∀ e ∈ o.after.toList, Region.binds .any e = true → inS S e.on)
    (hle : Gm.le γ γ') (hheap : hs[k']? = some hc') (hr : HR B P.globals.size γ' hc'.1 hc'.2 w') (hb : Below B w0 w') {v : Value} (hv : VR γ' r.av v)
    (heff : ∀ (j : Nat) (p : Oper), L[j]? = some p → quiet P p = false → ((j = i ∨ inS S j) ↔ ne P L j < k')) :
    DInv P B γ0 w0 nt T0 ds L rs hs (S.setIfInBounds i true) (a.put o.dst v) w' k' γ' hc' := by
  have hil : i < L.length := (List.getElem?_eq_some_iff.1 hi).1
  have his : i < S.size := by rw [d.size]; exact hil
  refine ⟨by simp [d.size], fun j p hj hp e he hbn => ?_, hheap, d.le.trans hle, hr, hb, ?_, ?_, fun j p hp hq => ?_, fun j p q t hp hq hd hj => ?_, fun t av ht hnone => ?_⟩
  · rw [inS_set his] at hj ⊢
    rcases hj with rfl | hj
    · rw [hi] at hp; injection hp with hp; subst hp
      exact .inr (hpre e he hbn)
    · exact .inr (d.closed j p hj hp e he hbn)
  · cases o.dst <;> simp [Act.put, d.tsize]
  · have : (a.put o.dst v).defers = a.defers := by cases o.dst <;> rfl
    rw [this]
    exact d.defs.mono hle
  · rw [inS_set his]; exact heff j p hp hq
  · rw [inS_set his] at hj
    by_cases hji : j = i
    · subst hji
      rw [hi] at hp; injection hp with hp; subst hp
      rw [hri] at hq; injection hq with hq; subst hq
      have hlt := hsp.inb j o r t hi hri hd
      exact ⟨v, by simp [Act.put, hd, d.tsize, hlt], hv⟩
    · have hj' : inS S j := hj.resolve_left hji
      obtain ⟨x, h1, h2⟩ := d.done j p q t hp hq hd hj'
      refine ⟨x, ?_, h2.mono hle⟩
      cases hod : o.dst with
      | none => simpa [Act.put] using h1
      | some t' =>
        have hne : t' ≠ t := fun e => hji (hu j i p o t hp hi hd (by rw [hod, e]))
        simp only [Act.put]
        rw [Array.getElem?_setIfInBounds_ne hne]
        exact h1
  · have hnone' : ∀ (j : Nat) (p : Oper), L[j]? = some p → p.dst = some t → ¬ inS S j := fun j p hp hd hj => hnone j p hp hd ((inS_set his).2 (.inr hj))
    obtain ⟨x, h1, h2⟩ := d.todo t av ht hnone'
    refine ⟨x, ?_, h2.mono hle⟩
    cases hod : o.dst with
    | none => simpa [Act.put] using h1
    | some t' =>
      have hne : t' ≠ t := fun e => hnone i o hi (by rw [hod, e]) ((inS_set his).2 (.inl rfl))
      simp only [Act.put]
      rw [Array.getElem?_setIfInBounds_ne hne]
      exact h1
theorem mem_opTmps {t : Nat} : ∀ {l : List Operand}, Operand.tmp t ∈ l → t ∈ opTmps l
  | [], h => by simp at h
  | x :: l, h => by
    rcases List.mem_cons.1 h with rfl | h
    · simp [opTmps]
    · have := mem_opTmps h
      cases x <;> simp [opTmps, this]
end
end Go.Ev
