/- The reckoner: a region whose order Go leaves open comes to the same in every order. Any program; no conditions. -/
import Derived.Test.YtaehpjaleceppaaGreatDoorSy7
noncomputable section
namespace Go.Sy
open Go Go.RowKit
set_option linter.unusedVariables false
set_option linter.unusedSimpArgs false

def Uniq (l : List Oper) : Prop := ∀ (i j : Nat) (p q : Oper) (t : Nat), l[i]? = some p → l[j]? = some q → p.dst = some t → q.dst = some t → i = j
structure Spec (P : Program) (I : Aux) (call : CallF) (nt : Nat) (ops : Array Oper) (l : List Oper) (T : Tr AV) (rs : List Rec) (hs : Hs) (Te : Tr AV) : Prop where
  recs : ∀ (i : Nat) (o : Oper) (r : Rec), l[i]? = some o → rs[i]? = some r → RecOk P I call ops o r hs (ne P l i)
  hit : ∀ (i : Nat) (Ti : Tr AV) (j : Nat) (o : Oper) (r : Rec) (t : Nat), (rs.map (·.T) ++ [Te])[i]? = some Ti → j < i → l[j]? = some o → rs[j]? = some r → o.dst = some t → Ti.get t = some r.av
  miss : ∀ (i : Nat) (Ti : Tr AV) (t : Nat), (rs.map (·.T) ++ [Te])[i]? = some Ti → (∀ (j : Nat) (o : Oper), j < i → l[j]? = some o → o.dst ≠ some t) → Ti.get t = T.get t
  inb : ∀ (j : Nat) (o : Oper) (r : Rec) (t : Nat), l[j]? = some o → rs[j]? = some r → o.dst = some t → t < nt
section
variable {P : Program} {call : CallF} {I : Aux} {nt : Nat} {ops : Array Oper}
theorem RecOk.up {o : Oper} {r : Rec} {hs : Hs} {k : Nat} (x : Hp × Nat) (h : RecOk P I call ops o r hs k) : RecOk P I call ops o r (x :: hs) (k + 1) := by
  obtain ⟨h1, hc, h2, h3⟩ := h
  exact ⟨h1, hc, by simpa using h2, by simpa using h3⟩
theorem tput_hit {T T' : Tr AV} {dst : Option Tmp} {av : AV} {t : Nat} (h : tput nt T dst av = some T') (hd : dst = some t) : T'.get t = some av ∧ t < nt := by
  subst hd
  simp only [tput] at h
  split at h
  · rename_i hlt
    injection h with h
    subst h
    exact ⟨Tr.get_put_same _ _ _, blt_lt hlt⟩
  · cases h
theorem tput_miss {T T' : Tr AV} {dst : Option Tmp} {av : AV} {t : Nat} (h : tput nt T dst av = some T') (hd : dst ≠ some t) : T'.get t = T.get t := by
  cases dst with
  | none => injection h with h; subst h; rfl
  | some d =>
    simp only [tput] at h
    split at h
    · injection h with h
      subst h
      exact Tr.get_put_ne _ _ (fun e => hd (by rw [e]))
    · cases h
theorem Spec.cons {o : Oper} {l : List Oper} {T T' Te : Tr AV} {rs : List Rec} {hs hs' : Hs} {r : Rec} (hu : Uniq (o :: l)) (h : Spec P I call nt ops l T' rs hs Te) (hT : r.T = T) (hp : tput nt T o.dst r.av = some T')
    (hh : (quiet P o = true ∧ hs' = hs) ∨ (quiet P o = false ∧ ∃ x, hs' = x :: hs)) (h0 : RecOk P I call ops o r hs' 0) : Spec P I call nt ops (o :: l) T (r :: rs) hs' Te := by
  refine ⟨fun i p q hi hq => ?_, fun i Ti j p q t hi hj hp' hq hd => ?_, fun i Ti t hi hm => ?_, fun j p q t hj hq hd => ?_⟩
  · cases i with
    | zero => simp at hi hq; subst hi hq; exact h0
    | succ i =>
      have := h.recs i p q (by simpa using hi) (by simpa using hq)
      rw [ne_succ]
      rcases hh with ⟨hqt, rfl⟩ | ⟨hqt, x, rfl⟩
      · rw [hqt]; exact this
      · rw [hqt]; exact this.up x
  · cases i with
    | zero => omega
    | succ i =>
      have hi' : (rs.map (·.T) ++ [Te])[i]? = some Ti := by simpa using hi
      cases j with
      | zero =>
        simp at hp' hq
        subst hp' hq
        have hne : ∀ (j : Nat) (o' : Oper), j < i → l[j]? = some o' → o'.dst ≠ some t := fun j o' _ hj' hd' => by
          have := hu 0 (j + 1) o o' t rfl (by simpa using hj') hd hd'
          omega
        rw [h.miss i Ti t hi' hne]
        exact (tput_hit hp hd).1
      | succ j => exact h.hit i Ti j p q t hi' (by omega) (by simpa using hp') (by simpa using hq) hd
  · cases i with
    | zero => simp at hi; subst hi; rw [hT]
    | succ i =>
      have hi' : (rs.map (·.T) ++ [Te])[i]? = some Ti := by simpa using hi
      rw [h.miss i Ti t hi' (fun j o' hj ho' => hm (j + 1) o' (by omega) (by simpa using ho'))]
      exact tput_miss hp (hm 0 o (by omega) rfl)
  · cases j with
    | zero => simp at hj; subst hj; exact (tput_hit hp hd).2
    | succ j => exact h.inb j p q t (by simpa using hj) (by simpa using hq) hd
theorem Spec.nil {l : List Oper} {T : Tr AV} {h : Hp} {c : Nat} : Spec P I call nt ops l T [] [(h, c)] T := by
  refine ⟨fun i o r _ hi => by simp at hi, fun i Ti j o r t _ _ _ hj => by simp at hj, fun i Ti t hi _ => ?_, fun j o r t _ hj => by simp at hj⟩
  cases i with
  | zero => simp at hi; subst hi; rfl
  | succ i => simp at hi
theorem drawSeq_spec : ∀ {l : List Oper} {T Te : Tr AV} {h : Hp} {c : Nat} {rs : List Rec} {hs : Hs} {pn : Option Pan}, Uniq l → drawSeq P I call nt ops l T h c = some (rs, hs, Te, pn) → Spec P I call nt ops l T rs hs Te
  | [], T, Te, h, c, rs, hs, pn, _, hd => by
    simp [drawSeq_nil] at hd
    obtain ⟨rfl, rfl, rfl, rfl⟩ := hd
    exact Spec.nil
  | o :: l, T, Te, h, c, rs, hs, pn, hu, hd => by
    have hu' : Uniq l := fun i j p q t hi hj h1 h2 => by
      have := hu (i + 1) (j + 1) p q t (by simpa using hi) (by simpa using hj) h1 h2
      omega
    rw [drawSeq_cons] at hd
    unfold drawStep at hd
    split at hd <;> first | (cases hd; done) | skip
    · rename_i hw
      split at hd <;> first | (cases hd; done) | skip
      rename_i T' hT'
      split at hd <;> first | (cases hd; done) | skip
      rename_i rs' hs' Te' pn' he
      have hsp := drawSeq_spec hu' he
      obtain ⟨h1, h2, h3⟩ := drawSeq_head he
      split at hd
      · rename_i hq
        injection hd with hd
        injection hd with e1 hd
        injection hd with e2 hd
        injection hd with e3 e4
        subst e1 e2 e3 e4
        exact hsp.cons hu rfl hT' (.inl ⟨hq, rfl⟩) ⟨hw, (h, c), h1, .inl ⟨rfl, rfl, fun e => by rw [hq] at e; cases e⟩⟩
      · rename_i hq
        injection hd with hd
        injection hd with e1 hd
        injection hd with e2 hd
        injection hd with e3 e4
        subst e1 e2 e3 e4
        exact hsp.cons hu rfl hT' (.inr ⟨hq, _, rfl⟩) ⟨hw, (h, c), rfl, .inl ⟨rfl, rfl, fun _ => by simpa using h1⟩⟩
    · rename_i hw
      split at hd
      · rename_i hq
        split at hd
        · rename_i av hav
          split at hd <;> first | (cases hd; done) | skip
          rename_i T' hT'
          split at hd <;> first | (cases hd; done) | skip
          rename_i rs' hs' Te' pn' he
          have hsp := drawSeq_spec hu' he
          obtain ⟨h1, h2, h3⟩ := drawSeq_head he
          injection hd with hd
          injection hd with e1 hd
          injection hd with e2 hd
          injection hd with e3 e4
          subst e1 e2 e3 e4
          exact hsp.cons hu rfl hT' (.inl ⟨hq, rfl⟩) ⟨hw, (h, c), h1, .inr (.inl ⟨rfl, hq, .inl hav⟩)⟩
        · split at hd <;> first | (cases hd; done) | skip
          rename_i av hav
          split at hd <;> first | (cases hd; done) | skip
          rename_i T' hT'
          split at hd <;> first | (cases hd; done) | skip
          rename_i rs' hs' Te' pn' he
          have hsp := drawSeq_spec hu' he
          obtain ⟨h1, h2, h3⟩ := drawSeq_head he
          injection hd with hd
          injection hd with e1 hd
          injection hd with e2 hd
          injection hd with e3 e4
          subst e1 e2 e3 e4
          exact hsp.cons hu rfl hT' (.inl ⟨hq, rfl⟩) ⟨hw, (h, c), h1, .inr (.inl ⟨rfl, hq, .inr ⟨rfl, hav⟩⟩)⟩
      · rename_i hq
        split at hd <;> first | (cases hd; done) | skip
        · rename_i av h' c' hev
          split at hd <;> first | (cases hd; done) | skip
          rename_i T' hT'
          split at hd <;> first | (cases hd; done) | skip
          rename_i rs' hs' Te' pn' he
          have hsp := drawSeq_spec hu' he
          obtain ⟨h1, h2, h3⟩ := drawSeq_head he
          injection hd with hd
          injection hd with e1 hd
          injection hd with e2 hd
          injection hd with e3 e4
          subst e1 e2 e3 e4
          exact hsp.cons hu rfl hT' (.inr ⟨hq, _, rfl⟩) ⟨hw, (h, c), rfl, .inr (.inr ⟨rfl, hq, (h', c'), hev, by simpa using h1⟩)⟩
        · injection hd with hd
          injection hd with e1 hd
          injection hd with e2 hd
          injection hd with e3 e4
          subst e1 e2 e3 e4
          exact Spec.nil
end

/-! what is loaded is the same wherever it may be loaded -/
def ldHs (P : Program) (R : List Row) (p : Row) (r : Rec) (ko : Nat) : Hs → Nat → Bool
  | [], _ => true
  | hc :: l, k => match Nat.beq k ko with
    | true => ldHs P R p r ko l (Nat.succ k)
    | false => match allowedR P p R k with
      | true => match evalLoad P r.T hc.1 p.2.1 with
        | some av => match same av r.av with
          | true => ldHs P R p r ko l (Nat.succ k)
          | false => false
        | none => false
      | false => ldHs P R p r ko l (Nat.succ k)
def ldAll (P : Program) (L : List Oper) (R : List Row) (hs : Hs) : List Row → List Rec → Bool
  | p :: l, r :: rs => match r.ld with
    | true => match ldHs P R p r (ne P L p.1) hs 0 with
      | true => ldAll P L R hs l rs
      | false => false
    | false => ldAll P L R hs l rs
  | _, _ => true
theorem ldHs_ok {P : Program} {R : List Row} {p : Row} {r : Rec} {ko : Nat} : ∀ {l : Hs} {k0 : Nat}, ldHs P R p r ko l k0 = true → ∀ (k : Nat) (hc : Hp × Nat), l[k]? = some hc → k0 + k ≠ ko → allowedR P p R (k0 + k) = true → evalLoad P r.T hc.1 p.2.1 = some r.av
  | [], k0, _, k, hc, h, _, _ => by simp at h
  | x :: l, k0, h, 0, hc, h1, hne, h2 => by
    simp at h1
    subst h1
    simp only [ldHs] at h
    rw [Nat.add_zero] at h2 hne
    split at h
    · rename_i hb; exact absurd (Nat.eq_of_beq_eq_true hb) hne
    rw [h2] at h
    simp only at h
    split at h
    · rename_i av hav
      split at h
      · rename_i hs
        rw [hav, same_eq hs]
      · cases h
    · cases h
  | x :: l, k0, h, k + 1, hc, h1, hne, h2 => by
    have h' : ldHs P R p r ko l (Nat.succ k0) = true := by
      simp only [ldHs] at h
      split at h
      · exact h
      split at h
      · split at h
        · split at h
          · exact h
          · cases h
        · cases h
      · exact h
    exact ldHs_ok h' k hc (by simpa using h1) (by omega) (by rw [show Nat.succ k0 + k = k0 + (k + 1) by omega]; exact h2)
theorem ldAll_ok {P : Program} {L : List Oper} {R : List Row} {hs : Hs} : ∀ {l : List Row} {rs : List Rec}, ldAll P L R hs l rs = true → ∀ (i : Nat) (p : Row) (r : Rec), l[i]? = some p → rs[i]? = some r → r.ld = true → ldHs P R p r (ne P L p.1) hs 0 = true
  | p :: l, r :: rs, h, 0, p', r', h1, h2, h3 => by
    simp at h1 h2
    subst h1 h2
    simp only [ldAll, h3] at h
    split at h
    · assumption
    · cases h
  | p :: l, r :: rs, h, i + 1, p', r', h1, h2, h3 => by
    have h' : ldAll P L R hs l rs = true := by
      simp only [ldAll] at h
      split at h
      · split at h
        · exact h
        · cases h
      · exact h
    exact ldAll_ok h' i p' r' (by simpa using h1) (by simpa using h2) h3
  | [], _, _, _, _, _, h1, _, _ => by simp at h1
  | _ :: _, [], _, _, _, _, _, h2, _ => by simp at h2

/-- does all that comes behind in the text wait for it? -/
def stops (p : Nat) : List Row → Bool
  | [] => true
  | q :: l => match Nat.blt p q.1 with
    | true => match Nat.testBit q.2.2 p with
      | true => stops p l
      | false => false
    | false => stops p l
theorem stops_ok {p : Nat} : ∀ {l : List Row}, stops p l = true → ∀ q ∈ l, p < q.1 → Nat.testBit q.2.2 p = true
  | [], _, q, hq, _ => by simp at hq
  | x :: l, h, q, hq, hlt => by
    simp only [stops] at h
    rcases List.mem_cons.1 hq with rfl | hq
    · have : Nat.blt p q.1 = true := by simp [Nat.blt]; omega
      rw [this] at h
      simp only at h
      split at h
      · assumption
      · cases h
    · split at h
      · split at h
        · exact stops_ok h q hq hlt
        · cases h
      · exact stops_ok h q hq hlt
def evalDraw (P : Program) (I : Aux) (call : CallF) (nt : Nat) (ops : Array Oper) (s : St) : R2 := match drawOk P ops (rowsOf 0 ops.toList (befs ops.toList [])) with
  | false => .fail
  | true => match drawSeq P I call nt ops ops.toList s.T s.h s.c with
    | none => .fail
    | some (rs, hs, Te, pn) => match ldAll P ops.toList (rowsOf 0 ops.toList (befs ops.toList [])) hs (rowsOf 0 ops.toList (befs ops.toList [])) rs with
      | false => .fail
      | true => match pn with
        | none => match hs.getLast? with
          | none => .fail
          | some hc => .ok .normal ⟨Te, hc.1, hc.2, s.ds⟩
        | some x => match stops rs.length (rowsOf 0 ops.toList (befs ops.toList [])) with
          | false => .fail
          | true => .ok (.pan x.av) ⟨.leaf, x.h, x.c, s.ds⟩

/-! in every order -/
abbrev inS (S : Array Bool) (i : Nat) : Prop := S.getD i false = true
/-- is it the one that was made ahead of its turn? -/
def isA (ah : Option (Nat × Nat × Nat)) (x : Nat) : Prop := ∃ i b, ah = some (i, x, b)
theorem isA_none (x : Nat) : ¬ isA none x := fun ⟨_, _, h⟩ => by cases h
structure DInv (P : Program) (B : Nat → Prop) (γ0 : Gm) (w0 : World) (nt : Nat) (T0 : Tr AV) (ds : List ADef) (L : List Oper) (rs : List Rec) (hs : Hs) (ah : Option (Nat × Nat × Nat)) (S : Array Bool) (a : Act) (w : World) (k : Nat) (γ : Gm) (hc : Hp × Nat) : Prop where
  size : S.size = L.length
  closed : ∀ (i : Nat) (o : Oper), inS S i → L[i]? = some o → ∀ e ∈ o.after.toList, Region.binds .any e = true → inS S e.on
  heap : hs[k]? = some hc
  le : Gm.le γ0 γ
  hr : HR B P.globals.size γ hc.1 hc.2 w
  below : Keep B w0 w
  tsize : a.tmps.size = nt
  defs : DR γ ds a.defers
  eff : ∀ (i : Nat) (o : Oper), L[i]? = some o → quiet P o = false → (inS S i ↔ (ne P L i < k ∨ isA ah i))
  done : ∀ (i : Nat) (o : Oper) (r : Rec) (t : Nat), L[i]? = some o → rs[i]? = some r → o.dst = some t → inS S i → ¬ isA ah i → ∃ v, a.tmps[t]? = some v ∧ VR γ r.av v
  todo : ∀ (t : Nat) (av : AV), T0.get t = some av → (∀ (i : Nat) (o : Oper), L[i]? = some o → o.dst = some t → ¬ inS S i) → ∃ v, a.tmps[t]? = some v ∧ VR γ av v
  ahd : ∀ i j b, ah = some (i, j, b) → ¬ inS S i ∧ inS S j ∧ ne P L i = k ∧ ne P L j = k + 1 ∧ (∃ oi ei, L[i]? = some oi ∧ quiet P oi = false ∧ allocOp oi = some ei) ∧ ∃ oj e z, L[j]? = some oj ∧ allocOp oj = some e ∧ zeroB P e = some z ∧ w.heap[b]? = some (.cells z.cells e (0, 0)) ∧ ¬ B b ∧
    (∀ x blk p, hc.1.get x = some blk → γ x = some p → p.1 ≠ b) ∧ (∀ t, oj.dst = some t → a.tmps[t]? = some (.pointer (some ⟨b, 0, none⟩))) ∧
    (∀ (x : Nat) (o : Oper) (m : Nat), L[x]? = some o → (befs L [])[x]? = some m → x ≠ j → m.testBit j = true → m.testBit i = true)
theorem inS_set {S : Array Bool} {i j : Nat} (hi : i < S.size) : inS (S.setIfInBounds i true) j ↔ j = i ∨ inS S j := by
  unfold inS
  rw [Array.getD_eq_getD_getElem?, Array.getD_eq_getD_getElem?, Array.getElem?_setIfInBounds]
  by_cases e : i = j
  · subst e; simp [hi]
  · have : j ≠ i := fun h => e h.symm
    simp [e, this]

section
variable {P : Program} {B : Nat → Prop} {γ0 : Gm} {w0 : World} {nt : Nat} {T0 Te : Tr AV} {ds : List ADef} {ops : Array Oper} {rs : List Rec} {hs : Hs} {call : CallF} {I : Aux} {Q : Exit → Act → World → Prop}
/-- one operation more -/
theorem DInv.step {L : List Oper} {ah : Option (Nat × Nat × Nat)} {S : Array Bool} {a : Act} {w w' : World} {k k' : Nat} {γ γ' : Gm} {hc hc' : Hp × Nat} (hu : Uniq L) (hsp : Spec P I call nt ops L T0 rs hs Te) (d : DInv P B γ0 w0 nt T0 ds L rs hs ah S a w k γ hc)
    {i : Nat} {o : Oper} {r : Rec} (hi : L[i]? = some o) (hri : rs[i]? = some r) (hniS : ¬ inS S i) (hpre : ∀ e ∈ o.after.toList, Region.binds .any e = true → inS S e.on)
    (hah : ∀ i0 j b, ah = some (i0, j, b) → i ≠ i0 ∧ k' = k ∧ γ' = γ ∧ hc' = hc ∧ w' = w)
    (hle : Gm.le γ γ') (hheap : hs[k']? = some hc') (hr : HR B P.globals.size γ' hc'.1 hc'.2 w') (hb : Keep B w0 w') {v : Value} (hv : VR γ' r.av v)
    (heff : ∀ (j : Nat) (p : Oper), L[j]? = some p → quiet P p = false → ((j = i ∨ inS S j) ↔ (ne P L j < k' ∨ isA ah j))) :
    DInv P B γ0 w0 nt T0 ds L rs hs ah (S.setIfInBounds i true) (a.put o.dst v) w' k' γ' hc' := by
  have hil : i < L.length := (List.getElem?_eq_some_iff.1 hi).1
  have his : i < S.size := by rw [d.size]; exact hil
  refine ⟨by simp [d.size], fun j p hj hp e he hbn => ?_, hheap, d.le.trans hle, hr, hb, ?_, ?_, fun j p hp hq => ?_, fun j p q t hp hq hd hj hna => ?_, fun t av ht hnone => ?_, fun i0 j b hab => ?_⟩
  · rw [inS_set his] at hj ⊢
    rcases hj with rfl | hj
    · rw [hi] at hp; injection hp with hp; subst hp
      exact .inr (hpre e he hbn)
    · exact .inr (d.closed j p hj hp e he hbn)
  · cases o.dst <;> simp [Act.put, d.tsize]
  · have : (a.put o.dst v).defers = a.defers := by cases o.dst <;> rfl
    rw [this]
    exact d.defs.mono hle
  · rw [inS_set his]; exact heff j p hp hq
  · rw [inS_set his] at hj
    by_cases hji : j = i
    · subst hji
      rw [hi] at hp; injection hp with hp; subst hp
      rw [hri] at hq; injection hq with hq; subst hq
      have hlt := hsp.inb j o r t hi hri hd
      exact ⟨v, by simp [Act.put, hd, d.tsize, hlt], hv⟩
    · have hj' : inS S j := hj.resolve_left hji
      obtain ⟨x, h1, h2⟩ := d.done j p q t hp hq hd hj' hna
      refine ⟨x, ?_, h2.mono hle⟩
      cases hod : o.dst with
      | none => simpa [Act.put] using h1
      | some t' =>
        have hne : t' ≠ t := fun e => hji (hu j i p o t hp hi hd (by rw [hod, e]))
        simp only [Act.put]
        rw [Array.getElem?_setIfInBounds_ne hne]
        exact h1
  · have hnone' : ∀ (j : Nat) (p : Oper), L[j]? = some p → p.dst = some t → ¬ inS S j := fun j p hp hd hj => hnone j p hp hd ((inS_set his).2 (.inr hj))
    obtain ⟨x, h1, h2⟩ := d.todo t av ht hnone'
    refine ⟨x, ?_, h2.mono hle⟩
    cases hod : o.dst with
    | none => simpa [Act.put] using h1
    | some t' =>
      have hne : t' ≠ t := fun e => hnone i o hi (by rw [hod, e]) ((inS_set his).2 (.inl rfl))
      simp only [Act.put]
      rw [Array.getElem?_setIfInBounds_ne hne]
      exact h1
  · obtain ⟨hne0, rfl, rfl, rfl, rfl⟩ := hah i0 j b hab
    obtain ⟨g1, g2, g3, g4, g0, oj, e, z, g5, g6, g7, g8, g9, g10, g11, g12⟩ := d.ahd i0 j b hab
    have hij : i ≠ j := fun e => hniS (by rw [e]; exact g2)
    refine ⟨fun h => ?_, (inS_set his).2 (.inr g2), g3, g4, g0, oj, e, z, g5, g6, g7, g8, g9, g10, fun t ht => ?_, g12⟩
    · rcases (inS_set his).1 h with e | h
      · exact hne0 e.symm
      · exact g1 h
    · cases hod : o.dst with
      | none => simpa [Act.put] using g11 t ht
      | some t' =>
        have hne : t' ≠ t := fun e => hij (hu i j o oj t hi g5 (by rw [hod, e]) ht)
        simp only [Act.put]
        rw [Array.getElem?_setIfInBounds_ne hne]
        exact g11 t ht
/-- a variable is made ahead of its turn -/
theorem DInv.early {L : List Oper} {S : Array Bool} {a : Act} {w : World} {k : Nat} {γ : Gm} {hc : Hp × Nat} (hu : Uniq L) (hsp : Spec P I call nt ops L T0 rs hs Te) (d : DInv P B γ0 w0 nt T0 ds L rs hs none S a w k γ hc)
    {i j : Nat} {oj : Oper} {rj : Rec} {e : TypeId} {z : Value} (hj : L[j]? = some oj) (hrj : rs[j]? = some rj) (hniS : ¬ inS S i) (hnjS : ¬ inS S j) (hpre : ∀ e ∈ oj.after.toList, Region.binds .any e = true → inS S e.on)
    (hal : allocOp oj = some e) (hz : zeroB P e = some z) (hki : ne P L i = k) (hkj : ne P L j = k + 1) (hij : i ≠ j) (hoi : ∃ oi ei, L[i]? = some oi ∧ quiet P oi = false ∧ allocOp oi = some ei)
    (hfree : ∀ (x : Nat) (o : Oper) (m : Nat), L[x]? = some o → (befs L [])[x]? = some m → x ≠ j → m.testBit j = true → m.testBit i = true) :
    DInv P B γ0 w0 nt T0 ds L rs hs (some (i, j, w.heap.size)) (S.setIfInBounds j true) (a.put oj.dst (.pointer (some ⟨w.heap.size, 0, none⟩))) (w.alloc (.cells z.cells e)) k γ hc := by
  have hil : j < L.length := (List.getElem?_eq_some_iff.1 hj).1
  have his : j < S.size := by rw [d.size]; exact hil
  have hsz : w.heap.size ≤ (w.alloc (.cells z.cells e)).heap.size := by show w.heap.size ≤ (w.heap.push _).size; rw [Array.size_push]; omega
  have hA : ∀ x, isA (some (i, j, w.heap.size)) x ↔ x = j := fun x => ⟨fun ⟨_, _, h⟩ => by injection h with h; injection h with _ h; injection h with h _; exact h.symm, fun h => ⟨i, w.heap.size, by rw [h]⟩⟩
  have hput : ∀ t, oj.dst = some t → (a.put oj.dst (.pointer (some ⟨w.heap.size, 0, none⟩))).tmps[t]? = some (.pointer (some ⟨w.heap.size, 0, none⟩)) := fun t ht => by
    have hlt := hsp.inb j oj rj t hj hrj ht
    simp [Act.put, ht, d.tsize, hlt]
  have hold : ∀ (t : Nat) (v : Value), oj.dst ≠ some t → a.tmps[t]? = some v → (a.put oj.dst (.pointer (some ⟨w.heap.size, 0, none⟩))).tmps[t]? = some v := fun t v hd h1 => by
    cases hod : oj.dst with
    | none => simpa [Act.put] using h1
    | some t' =>
      have hne : t' ≠ t := fun e => hd (by rw [hod, e])
      simp only [Act.put]
      rw [Array.getElem?_setIfInBounds_ne hne]
      exact h1
  refine ⟨by simp [d.size], fun x p hx hp e he hbn => ?_, d.heap, d.le, d.hr.kept hsz (fun x hx => heap_alloc_old w _ x hx), d.below.alloc d.hr.base _, ?_, ?_, fun x p hp hq => ?_, fun x p q t hp hq hd hx hna => ?_, fun t av ht hnone => ?_, fun i0 j0 b0 hab => ?_⟩
  · rw [inS_set his] at hx ⊢
    rcases hx with rfl | hx
    · rw [hj] at hp; injection hp with hp; subst hp
      exact .inr (hpre e he hbn)
    · exact .inr (d.closed x p hx hp e he hbn)
  · cases oj.dst <;> simp [Act.put, d.tsize]
  · have : (a.put oj.dst (.pointer (some ⟨w.heap.size, 0, none⟩))).defers = a.defers := by cases oj.dst <;> rfl
    rw [this]
    exact d.defs
  · rw [inS_set his, hA, d.eff x p hp hq]
    constructor
    · rintro (h | h | h)
      · exact .inr h
      · exact .inl h
      · exact absurd h (isA_none x)
    · rintro (h | h)
      · exact .inr (.inl h)
      · exact .inl h
  · rw [inS_set his] at hx
    have hxj : x ≠ j := fun e => hna ((hA x).2 e)
    obtain ⟨y, h1, h2⟩ := d.done x p q t hp hq hd (hx.resolve_left hxj) (isA_none x)
    exact ⟨y, hold t y (fun e => hxj (hu x j p oj t hp hj hd e)) h1, h2⟩
  · obtain ⟨y, h1, h2⟩ := d.todo t av ht (fun x p hp hd hx => hnone x p hp hd ((inS_set his).2 (.inr hx)))
    exact ⟨y, hold t y (fun e => hnone j oj hj e ((inS_set his).2 (.inl rfl))) h1, h2⟩
  · injection hab with hab
    injection hab with e1 hab
    injection hab with e2 e3
    subst e1 e2 e3
    refine ⟨fun h => ?_, (inS_set his).2 (.inl rfl), hki, hkj, hoi, oj, e, z, hj, hal, hz, heap_alloc_new w _, d.hr.new, fun x blk p h1 h2 h3 => ?_, hput, hfree⟩
    · rcases (inS_set his).1 h with e | h
      · exact hij e
      · exact hniS h
    · obtain ⟨q, hq, hbr⟩ := d.hr.live x blk h1
      rw [h2] at hq
      injection hq with hq
      subst hq
      have := hbr.lt
      omega
/-- the one that stood back is made, and both have their numbers -/
theorem DInv.join {L : List Oper} {S : Array Bool} {a : Act} {w : World} {k : Nat} {γ : Gm} {hc hc2 : Hp × Nat} {i j b : Nat} (hu : Uniq L) (hsp : Spec P I call nt ops L T0 rs hs Te) (d : DInv P B γ0 w0 nt T0 ds L rs hs (some (i, j, b)) S a w k γ hc)
    {oi oj : Oper} {ri rj : Rec} {ei ej : TypeId} {zi zj : Value} (hi : L[i]? = some oi) (hri : rs[i]? = some ri) (hj : L[j]? = some oj) (hrj : rs[j]? = some rj) (hpre : ∀ e ∈ oi.after.toList, Region.binds .any e = true → inS S e.on)
    (hqi : quiet P oi = false) (hqj : quiet P oj = false)
    (hali : allocOp oi = some ei) (halj : allocOp oj = some ej) (hzi : zeroB P ei = some zi) (hzj : zeroB P ej = some zj) (havi : ri.av = .ptr hc.2 0) (havj : rj.av = .ptr (hc.2 + 1) 0)
    (hheap : hs[k + 2]? = some hc2) (hhp : hc2 = (newBlk ej (zj.cells.toList.map .v) (newBlk ei (zi.cells.toList.map .v) hc.1 hc.2) (hc.2 + 1), hc.2 + 1 + 1)) :
    ∃ γ2, DInv P B γ0 w0 nt T0 ds L rs hs none (S.setIfInBounds i true) (a.put oi.dst (.pointer (some ⟨w.heap.size, 0, none⟩))) (w.alloc (.cells zi.cells ei)) (k + 2) γ2 hc2 := by
  obtain ⟨g1, g2, g3, g4, g0, oj', e', z', g5, g6, g7, g8, g9, g10, g11, g12⟩ := d.ahd i j b rfl
  rw [hj] at g5; injection g5 with g5; subst g5
  rw [halj] at g6; injection g6 with g6; subst g6
  rw [hzj] at g7; injection g7 with g7; subst g7
  have hil : i < L.length := (List.getElem?_eq_some_iff.1 hi).1
  have his : i < S.size := by rw [d.size]; exact hil
  have hij : i ≠ j := fun e => g1 (by rw [e]; exact g2)
  obtain ⟨n1, n2, n3, n4⟩ := newBlk_ok d.hr d.below (LR.vs (γ := γ) zi.cells.toList) ei
  rw [Array.toArray_toList] at n3 n4
  have hblt : b < w.heap.size := (Array.getElem?_eq_some_iff.1 g8).1
  obtain ⟨γ1, hγ1⟩ : ∃ γ1, γ1 = γ.upd hc.2 (w.heap.size, zi.cells.toList.length) := ⟨_, rfl⟩
  rw [← hγ1] at n1 n2 n3
  have hfr : γ1 (hc.2 + 1) = none := n3.fresh _ (Nat.le_refl _)
  have hle2 := Gm.upd_le hfr (b, zj.cells.toList.length)
  have hold1 : (w.alloc (.cells zi.cells ei)).heap[b]? = some (.cells zj.cells ej (0, 0)) := by rw [heap_alloc_old w _ b hblt]; exact g8
  have hr2 := n3.add (w' := w.alloc (.cells zi.cells ei)) (b, zj.cells.toList.length) (.cells ej true true true (zj.cells.toList.map AV.v).length (putL .leaf 0 (zj.cells.toList.map .v))) (Nat.le_refl _)
    (fun x blk p h1 h2 => ⟨rfl, by
      unfold newBlk at h1
      rw [Tr.get_put] at h1
      split at h1
      · rename_i e; subst e
        rw [n2] at h2; injection h2 with h2; subst h2
        simp only; omega
      · obtain ⟨q, hq, _⟩ := d.hr.live x blk h1
        have := n1 _ _ hq
        rw [this] at h2; injection h2 with h2; subst h2
        exact g10 x blk q h1 hq⟩)
    ⟨fun _ => g9, zj.cells, ej, (0, 0), hold1, by simp, ⟨fun _ => ⟨rfl, rfl⟩, fun _ => ⟨by simp, rfl⟩⟩, fun x av hlt hx => by
      rw [putL_get, if_pos ⟨by omega, by omega⟩] at hx
      obtain ⟨y, h1, h2⟩ := (LR.vs (γ := γ1.upd (hc.2 + 1) (b, zj.cells.toList.length)) zj.cells.toList).get (by simpa using hx)
      exact ⟨y, by simpa using h1, h2⟩⟩
  obtain ⟨γ2, hγ2⟩ : ∃ γ2, γ2 = γ1.upd (hc.2 + 1) (b, zj.cells.toList.length) := ⟨_, rfl⟩
  rw [← hγ2] at hr2 hle2
  have hle : Gm.le γ γ2 := n1.trans hle2
  have hold : ∀ (t : Nat) (v : Value), oi.dst ≠ some t → a.tmps[t]? = some v → (a.put oi.dst (.pointer (some ⟨w.heap.size, 0, none⟩))).tmps[t]? = some v := fun t v hd h1 => by
    cases hod : oi.dst with
    | none => simpa [Act.put] using h1
    | some t' =>
      have hne : t' ≠ t := fun e => hd (by rw [hod, e])
      simp only [Act.put]
      rw [Array.getElem?_setIfInBounds_ne hne]
      exact h1
  have hAj : ∀ x, isA (some (i, j, b)) x ↔ x = j := fun x => ⟨fun ⟨_, _, h⟩ => by injection h with h; injection h with _ h; injection h with h _; exact h.symm, fun h => ⟨i, b, by rw [h]⟩⟩
  refine ⟨γ2, by simp [d.size], fun x p hx hp e he hbn => ?_, hheap, d.le.trans hle, by rw [hhp]; exact hr2, n4, ?_, ?_, fun x p hp hq => ?_, fun x p q t hp hq hd hx hna => ?_, fun t av ht hnone => ?_, fun i0 j0 b0 hab => by cases hab⟩
  · rw [inS_set his] at hx ⊢
    rcases hx with rfl | hx
    · rw [hi] at hp; injection hp with hp; subst hp
      exact .inr (hpre e he hbn)
    · exact .inr (d.closed x p hx hp e he hbn)
  · cases oi.dst <;> simp [Act.put, d.tsize]
  · have : (a.put oi.dst (.pointer (some ⟨w.heap.size, 0, none⟩))).defers = a.defers := by cases oi.dst <;> rfl
    rw [this]
    exact d.defs.mono hle
  · rw [inS_set his, d.eff x p hp hq, hAj]
    constructor
    · rintro (h | h | h)
      · subst h; left; omega
      · left; omega
      · subst h; left; omega
    · rintro (h | h)
      · by_cases hxi : x = i
        · exact .inl hxi
        · by_cases hxj : x = j
          · exact .inr (.inr hxj)
          · right; left
            have h1 : ne P L x ≠ ne P L i := by
              rcases Nat.lt_or_gt_of_ne hxi with hlt | hgt
              · have := ne_lt P L hp hq hlt; omega
              · have := ne_lt P L hi hqi hgt; omega
            have h2 : ne P L x ≠ ne P L j := by
              rcases Nat.lt_or_gt_of_ne hxj with hlt | hgt
              · have := ne_lt P L hp hq hlt; omega
              · have := ne_lt P L hj hqj hgt; omega
            omega
      · exact absurd h (isA_none x)
  · rw [inS_set his] at hx
    by_cases hxi : x = i
    · subst hxi
      rw [hi] at hp; injection hp with hp; subst hp
      rw [hri] at hq; injection hq with hq; subst hq
      have hlt := hsp.inb x oi ri t hi hri hd
      refine ⟨.pointer (some ⟨w.heap.size, 0, none⟩), by simp [Act.put, hd, d.tsize, hlt], ?_⟩
      rw [havi]
      exact .ptr (hle2 _ _ n2)
    · by_cases hxj : x = j
      · subst hxj
        rw [hj] at hp; injection hp with hp; subst hp
        rw [hrj] at hq; injection hq with hq; subst hq
        refine ⟨.pointer (some ⟨b, 0, none⟩), hold t _ (fun e => hxi (hu x i oj oi t hj hi hd e)) (g11 t hd), ?_⟩
        rw [havj]
        exact .ptr (by rw [hγ2]; exact Gm.upd_same _ _ _)
      · obtain ⟨y, h1, h2⟩ := d.done x p q t hp hq hd (hx.resolve_left hxi) (fun e => hxj ((hAj x).1 e))
        exact ⟨y, hold t y (fun e => hxi (hu x i p oi t hp hi hd e)) h1, h2.mono hle⟩
  · obtain ⟨y, h1, h2⟩ := d.todo t av ht (fun x p hp hd hx => hnone x p hp hd ((inS_set his).2 (.inr hx)))
    exact ⟨y, hold t y (fun e => hnone i oi hi e ((inS_set his).2 (.inl rfl))) h1, h2.mono hle⟩
theorem mem_opTmps {t : Nat} : ∀ {l : List Operand}, Operand.tmp t ∈ l → t ∈ opTmps l
  | [], h => by simp at h
  | x :: l, h => by
    rcases List.mem_cons.1 h with rfl | h
    · simp [opTmps]
    · have := mem_opTmps h
      cases x <;> simp [opTmps, this]
end
end Go.Sy
