/- The reckoner: regions, code, calls. Any program; no conditions beyond those in each theorem. -/
import Derived.Test.YtaehpjaleceppaaGreatDoorSy8
noncomputable section
namespace Go.Sy
open Go Go.RowKit
set_option linter.unusedVariables false
set_option linter.unusedSimpArgs false

section
variable {P : Program} {B : Nat → Prop} {γ0 : Gm} {w0 : World} {nt : Nat} {T0 Te : Tr AV} {ds : List ADef} {ops : Array Oper} {rs : List Rec} {hs : Hs} {call : CallF} {I : Aux} {Q : Exit → Act → World → Prop}
abbrev rowsAll (ops : Array Oper) : List Row := rowsOf 0 ops.toList (befs ops.toList [])
theorem rows_get {i : Nat} {o : Oper} (hi : ops.toList[i]? = some o) : ∃ b, (befs ops.toList [])[i]? = some b ∧ (rowsAll ops)[i]? = some (i, o, b) := by
  have h1 := befs_get ops.toList [] i o hi
  simp only [List.length_nil, Nat.zero_add] at h1
  exact ⟨_, h1, by simpa using rowsOf_get (i0 := 0) hi h1⟩
structure DOk (P : Program) (ops : Array Oper) : Prop where
  sel : Region.noSelect ops = true
  edges : ∀ (i : Nat) (o : Oper), ops.toList[i]? = some o → ∀ e ∈ o.after.toList, Region.binds .any e = true → e.on < i
  pairs : ∀ (i j : Nat) (p q : Oper) (b c : Nat), ops.toList[i]? = some p → ops.toList[j]? = some q → (befs ops.toList [])[i]? = some b → (befs ops.toList [])[j]? = some c → pairOk P ops (rowsAll ops) (i, p, b) (j, q, c) = true
theorem dok (h : drawOk P ops (rowsAll ops) = true) : DOk P ops := by
  unfold drawOk at h
  rw [Bool.and_eq_true, List.all_eq_true] at h
  refine ⟨h.1, fun i o hi => ?_, fun i j p q b c hi hj hb hc => ?_⟩
  · obtain ⟨b, _, h2⟩ := rows_get hi
    have := h.2 _ (List.mem_of_getElem? h2)
    rw [Bool.and_eq_true] at this
    exact edgesOk_mem this.1
  · have h2 := rowsOf_get (i0 := 0) hi hb
    have h3 := rowsOf_get (i0 := 0) hj hc
    rw [Nat.zero_add] at h2 h3
    have := h.2 _ (List.mem_of_getElem? h2)
    rw [Bool.and_eq_true, List.all_eq_true] at this
    exact this.2 _ (List.mem_of_getElem? h3)
theorem DOk.uniq (d : DOk P ops) : Uniq ops.toList := by
  intro i j p q t hi hj hp hq
  obtain ⟨b, hb, _⟩ := rows_get hi
  obtain ⟨c, hc, _⟩ := rows_get hj
  have := d.pairs i j p q b c hi hj hb hc
  unfold pairOk at this
  split at this
  · rename_i h; exact Nat.eq_of_beq_eq_true h
  · rw [Bool.and_eq_true, Bool.and_eq_true] at this
    have h1 := this.1.1
    simp [hp, hq] at h1
/-- the bits of what stands ahead are below -/
theorem DOk.bits (d : DOk P ops) {i j : Nat} {o : Oper} {b : Nat} (hi : ops.toList[i]? = some o) (hb : (befs ops.toList [])[i]? = some b) (h : b.testBit j = true) : j < i :=
  befs_closed (S := fun x => x < i) (fun x p hx hp e he hbn => Nat.lt_trans (d.edges x p hp e he hbn) hx) i o b hi hb (fun e he hbn => d.edges i o hi e he hbn) j h
theorem DOk.names (d : DOk P ops) {i j : Nat} {p q : Oper} {b c : Nat} {t : Nat} (hi : ops.toList[i]? = some p) (hj : ops.toList[j]? = some q) (hb : (befs ops.toList [])[i]? = some b) (hc : (befs ops.toList [])[j]? = some c)
    (hne : i ≠ j) (hq : q.dst = some t) (ht : t ∈ namesOf ops p) : b.testBit j = true ∨ c.testBit i = true := by
  have := d.pairs i j p q b c hi hj hb hc
  unfold pairOk at this
  split at this
  · rename_i h; exact absurd (Nat.eq_of_beq_eq_true h) hne
  · rw [Bool.and_eq_true, Bool.and_eq_true] at this
    have h2 := this.1.2
    simp only [hq, hasNat_iff.2 ht] at h2
    simpa using h2
/-- two variables that may be made in either order -/
def Free (P : Program) (L : List Oper) (i j : Nat) : Prop := (∃ oi ei, L[i]? = some oi ∧ quiet P oi = false ∧ allocOp oi = some ei) ∧ (∃ oj ej, L[j]? = some oj ∧ quiet P oj = false ∧ allocOp oj = some ej) ∧ ne P L j = ne P L i + 1 ∧
  (∀ (x : Nat) (o : Oper) (m : Nat), L[x]? = some o → (befs L [])[x]? = some m → x ≠ j → m.testBit j = true → m.testBit i = true)
theorem DOk.effs (d : DOk P ops) {i j : Nat} {p q : Oper} {c : Nat} (hi : ops.toList[i]? = some p) (hj : ops.toList[j]? = some q) (hc : (befs ops.toList [])[j]? = some c)
    (hlt : i < j) (hp : quiet P p = false) (hq : quiet P q = false) : c.testBit i = true ∨ Free P ops.toList i j := by
  obtain ⟨b, hb, _⟩ := rows_get hi
  have := d.pairs i j p q b c hi hj hb hc
  unfold pairOk at this
  split at this
  · rename_i h; have := Nat.eq_of_beq_eq_true h; simp at this; omega
  · rw [Bool.and_eq_true, Bool.and_eq_true] at this
    have h3 := this.2
    have hbl : Nat.blt i j = true := by simp [Nat.blt]; omega
    simp only [hp, hq, hbl] at h3
    split at h3
    · rename_i hbit; exact .inl hbit
    · split at h3 <;> first | (cases h3; done) | skip
      rename_i ei ej hei hej
      right
      refine ⟨⟨p, ei, hi, hp, hei⟩, ⟨q, ej, hj, hq, hej⟩, ?_, fun x o m hx hm hxj hbit => ?_⟩
      · have h4 := ne_step P ops.toList i p hi
        rw [hp] at h4
        simp only [Bool.false_eq_true, if_false] at h4
        rw [← h4]
        refine ne_flat P ops.toList (by omega) (fun x o h5 h6 hx => ?_)
        obtain ⟨m, hm, hrow⟩ := rows_get hx
        have := (freeOk_mem h3 (x, o, m) (List.mem_of_getElem? hrow) (by simp only; omega)).2
        cases hqx : quiet P o with
        | true => rfl
        | false => have := this hqx; simp only at this; omega
      · have hrow := rowsOf_get (i0 := 0) hx hm
        rw [Nat.zero_add] at hrow
        exact (freeOk_mem h3 (x, o, m) (List.mem_of_getElem? hrow) hxj).1 hbit
theorem ne_inj {L : List Oper} {i j : Nat} {p q : Oper} (hi : L[i]? = some p) (hj : L[j]? = some q) (hp : quiet P p = false) (hq : quiet P q = false) (h : ne P L i = ne P L j) : i = j := by
  rcases Nat.lt_trichotomy i j with hlt | he | hgt
  · have := ne_lt P L hi hp hlt; omega
  · exact he
  · have := ne_lt P L hj hq hgt; omega

/-- what an operation names stands in the frame, when its turn comes -/
theorem draw_names (dk : DOk P ops) (hsp : Spec P I call nt ops ops.toList T0 rs hs Te) {S : Array Bool} {a : Act} {w : World} {k : Nat} {γ : Gm} {hc : Hp × Nat} {ah : Option (Nat × Nat × Nat)} (d : DInv P B γ0 w0 nt T0 ds ops.toList rs hs ah S a w k γ hc)
    {i : Nat} {o : Oper} {b : Nat} {Ti : Tr AV} (hlt : i ≤ rs.length) (ho : ops.toList[i]? = some o) (hb : (befs ops.toList [])[i]? = some b) (hniS : ¬ inS S i) (hbS : ∀ j, b.testBit j = true → inS S j)
    (hcS : ∀ {j : Nat} {q : Oper} {c : Nat}, ops.toList[j]? = some q → (befs ops.toList [])[j]? = some c → c.testBit i = true → ¬ inS S j) (hTi : (rs.map (·.T) ++ [Te])[i]? = some Ti) :
    (∀ t av, t ∈ namesOf ops o → Ti.get t = some av → ∃ v, a.tmps[t]? = some v ∧ VR γ av v) ∧ Ok P γ Ti a o.op.operands.toList := by
  have hname : ∀ t av, t ∈ namesOf ops o → Ti.get t = some av → ∃ v, a.tmps[t]? = some v ∧ VR γ av v := by
    intro t av ht hav
    by_cases hex : ∃ j q, j < i ∧ ops.toList[j]? = some q ∧ q.dst = some t
    · obtain ⟨j, q, hji, hj, hq⟩ := hex
      obtain ⟨c, hcj, _⟩ := rows_get hj
      have hrj : rs[j]? = some (rs[j]'(by omega)) := List.getElem?_eq_getElem (by omega)
      have := hsp.hit i Ti j q _ t hTi hji hj hrj hq
      rw [this] at hav
      injection hav with hav
      have hSj : inS S j := by
        rcases dk.names ho hj hb hcj (by omega) hq ht with h | h
        · exact hbS j h
        · have := dk.bits hj hcj h
          omega
      rw [← hav]
      refine d.done j q _ t hj hrj hq hSj (fun hA => ?_)
      obtain ⟨i0, bb, hab⟩ := hA
      obtain ⟨g1, g2, _, _, _, _, _, _, _, _, _, _, _, _, _, g12⟩ := d.ahd i0 j bb hab
      rcases dk.names ho hj hb hcj (by omega) hq ht with h | h
      · exact g1 (hbS i0 (g12 i o b ho hb (by omega) h))
      · have := dk.bits hj hcj h
        omega
    · have hm := hsp.miss i Ti t hTi (fun j q hji hj hq => hex ⟨j, q, hji, hj, hq⟩)
      rw [hm] at hav
      refine d.todo t av hav (fun j q hj hq hS => ?_)
      by_cases hji : j = i
      · rw [hji] at hS; exact hniS hS
      · obtain ⟨c, hcj, _⟩ := rows_get hj
        rcases dk.names ho hj hb hcj (fun e => hji e.symm) hq ht with h | h
        · have := dk.bits ho hb h
          exact hex ⟨j, q, this, hj, hq⟩
        · exact hcS hj hcj h hS
  refine ⟨hname, ?_⟩
  intro x hx av hav
  cases x with
  | tmp t =>
    have hmem : t ∈ namesOf ops o := by
      have := mem_opTmps hx
      unfold namesOf
      split
      · exact this
      · split
        · exact this
        · split
          · exact this
          · exact List.mem_cons_of_mem _ this
    obtain ⟨v, h1, h2⟩ := hname t av hmem hav
    show VR γ av (a.tmps.getD t undef)
    rw [getD_of h1]
    exact h2
  | const v => injection hav with hav; subst hav; exact norm_VR v
  | global g =>
    simp only [aev] at hav
    split at hav
    · rename_i hlt
      injection hav with hav
      subst hav
      obtain ⟨N, hN⟩ := d.hr.glob g (blt_lt hlt)
      exact .ptr hN
    · cases hav
  | func f =>
    injection hav with hav
    subst hav
    exact .fn rfl (fun i a x h => by simp at h) rfl (fun i a x h => by simp at h)
/-- what it says of an operation that it is ready -/
theorem draw_ready (dk : DOk P ops) {S : Array Bool} {a : Act} {w : World} {k : Nat} {γ : Gm} {hc : Hp × Nat} {ah : Option (Nat × Nat × Nat)} (d : DInv P B γ0 w0 nt T0 ds ops.toList rs hs ah S a w k γ hc) {i : Nat} (hi : i ∈ Region.ready .any ops S) :
    ∃ o b, ops[i]? = some o ∧ ops.toList[i]? = some o ∧ (befs ops.toList [])[i]? = some b ∧ (rowsAll ops)[i]? = some (i, o, b) ∧ ¬ inS S i ∧ (∀ e ∈ o.after.toList, Region.binds .any e = true → inS S e.on) ∧ (∀ j, b.testBit j = true → inS S j) ∧
      (∀ {j : Nat} {q : Oper} {c : Nat}, ops.toList[j]? = some q → (befs ops.toList [])[j]? = some c → c.testBit i = true → ¬ inS S j) := by
  unfold Region.ready at hi
  rw [List.mem_filter, List.mem_range, Bool.and_eq_true] at hi
  obtain ⟨hin, hnl, hrd⟩ := hi
  have hiL : i < ops.toList.length := by simpa using hin
  have hop : ops[i]? = some ops[i] := Array.getElem?_eq_getElem hin
  generalize ops[i] = o at hop
  rw [hop] at hrd
  have ho : ops.toList[i]? = some o := by simpa using hop
  have hpre : ∀ e ∈ o.after.toList, Region.binds .any e = true → inS S e.on := by
    intro e he hbn
    have h1 : (o.after.all fun e => !Region.binds .any e || S.getD e.on false) = true := by simpa using hrd
    rw [Array.all_eq_true_iff_forall_mem] at h1
    have := h1 e (by simpa using he)
    rw [hbn, Bool.not_true, Bool.false_or] at this
    exact this
  have hniS : ¬ inS S i := by
    intro h
    have h2 : S.getD i true = false := by simpa using hnl
    unfold inS at h
    have hlt : i < S.size := by rw [d.size]; exact hiL
    rw [Array.getD_eq_getD_getElem?, Array.getElem?_eq_getElem hlt] at h h2
    simp at h h2
    rw [h] at h2
    cases h2
  obtain ⟨b, hb, hrow⟩ := rows_get ho
  have hbS : ∀ j, b.testBit j = true → inS S j := befs_closed d.closed i o b ho hb hpre
  have hcS : ∀ {j : Nat} {q : Oper} {c : Nat}, ops.toList[j]? = some q → (befs ops.toList [])[j]? = some c → c.testBit i = true → ¬ inS S j := by
    intro j q c hj hcj hbit hS
    exact hniS (befs_closed d.closed j q c hj hcj (d.closed j q hS hj) i hbit)
  exact ⟨o, b, hop, ho, hb, hrow, hniS, hpre, hbS, hcS⟩
/-- one that is made ahead of its turn: the next to be made is the one that stood back -/
theorem draw_ahead (dk : DOk P ops) {S : Array Bool} {a : Act} {w : World} {k : Nat} {γ : Gm} {hc : Hp × Nat} {i0 j b0 : Nat} (d : DInv P B γ0 w0 nt T0 ds ops.toList rs hs (some (i0, j, b0)) S a w k γ hc) {i : Nat} {o : Oper} {b : Nat}
    (ho : ops.toList[i]? = some o) (hb : (befs ops.toList [])[i]? = some b) (hq : quiet P o = false) (hniS : ¬ inS S i) (hbS : ∀ j, b.testBit j = true → inS S j) : i = i0 := by
  obtain ⟨g1, g2, g3, g4, ⟨oi, ei, g5, g6, g7⟩, oj, e, z, g8, g9, _⟩ := d.ahd i0 j b0 rfl
  have h1 : ¬ ne P ops.toList i < k := fun h => hniS ((d.eff i o ho hq).2 (.inl h))
  have hqj : quiet P oj = false := by
    unfold allocOp at g9
    split at g9
    · split at g9
      · rename_i hop; unfold quiet; rw [hop]
      · cases g9
    · cases g9
  by_cases hk : ne P ops.toList i = k
  · exact ne_inj ho g5 hq g6 (hk.trans g3.symm)
  · exfalso
    have hlt : i0 < i := by
      rcases Nat.lt_or_ge i0 i with h | h
      · exact h
      · have := ne_mono P ops.toList h; omega
    rcases dk.effs g5 ho hb hlt g6 hq with h | h
    · exact g1 (hbS i0 h)
    · obtain ⟨_, _, h2, _⟩ := h
      have := ne_inj ho g8 hq hqj (by omega)
      subst this
      exact hniS g2
theorem alloc_op {o : Oper} {e : TypeId} (h : allocOp o = some e) : o.op = .alloc e ∧ o.guard = none := by
  unfold allocOp at h
  split at h
  · rename_i hg
    split at h
    · rename_i hop; injection h with h; subst h; exact ⟨hop, hg⟩
    · cases h
  · cases h
theorem alloc_val {o : Oper} {e : TypeId} {T : Tr AV} {h h' : Hp} {c c' : Nat} {av : AV} (he : allocOp o = some e) (hv : evalEff P I call T h c o = .val av h' c') :
    ∃ z, zeroB P e = some z ∧ av = .ptr c 0 ∧ h' = newBlk e (z.cells.toList.map .v) h c ∧ c' = c + 1 := by
  have h1 : evalEff P I call T h c o = aAlloc P e h c := by rw [evalEff_eq]; unfold evalEffS; rw [(alloc_op he).1]
  rw [h1] at hv
  unfold aAlloc at hv
  split at hv
  · cases hv
  · rename_i z hz
    injection hv with e1 e2 e3
    exact ⟨z, hz, e1.symm, e2.symm, e3.symm⟩
theorem alloc_pan {o : Oper} {e : TypeId} {T : Tr AV} {h h' : Hp} {c c' : Nat} {av : AV} (he : allocOp o = some e) (hv : evalEff P I call T h c o = .pan av h' c') : False := by
  have h1 : evalEff P I call T h c o = aAlloc P e h c := by rw [evalEff_eq]; unfold evalEffS; rw [(alloc_op he).1]
  rw [h1] at hv
  unfold aAlloc at hv
  split at hv <;> cases hv
theorem alloc_wp {o : Oper} {e : TypeId} {z : Value} {a : Act} {w : World} {K : Act → World → Prop} (he : allocOp o = some e) (hz : zeroB P e = some z)
    (hK : K (a.put o.dst (.pointer (some ⟨w.heap.size, 0, none⟩))) (w.alloc (.cells z.cells e))) : o.wp P a w K Q := by
  refine wp_val (v := .pointer (some ⟨w.heap.size, 0, none⟩)) (w' := w.alloc (.cells z.cells e)) ?_ hK
  unfold execOp
  rw [(alloc_op he).1]
  simp only [Sem.run_bind, Sem.run_pure, Instr.alloc, zeroB_ok hz, Result.andThen_ok, newVar, newRow, run_newObj]
  rfl
theorem draw_step (hn : Fine P I) (hcall : CallOk P B P.globals.size w0 call) (dk : DOk P ops) (hsp : Spec P I call nt ops ops.toList T0 rs hs Te) (hld : ldAll P ops.toList (rowsAll ops) hs (rowsAll ops) rs = true)
    {S : Array Bool} {a : Act} {w : World} {k : Nat} {γ : Gm} {hc : Hp × Nat} {ah : Option (Nat × Nat × Nat)} (d : DInv P B γ0 w0 nt T0 ds ops.toList rs hs ah S a w k γ hc) (hall : rs.length = ops.toList.length ∨ ∀ x, inS S x → x < rs.length) {i : Nat} (hi : i ∈ Region.ready .any ops S) (hlt : i < rs.length) :
    wpOp P ops Q i (fun a' w' => ∃ ah' k' γ' hc', DInv P B γ0 w0 nt T0 ds ops.toList rs hs ah' (S.setIfInBounds i true) a' w' k' γ' hc') a w := by
  obtain ⟨o, b, hop, ho, hb, hrow, hniS, hpre, hbS, hcS⟩ := draw_ready dk d hi
  have hri : rs[i]? = some (rs[i]'hlt) := List.getElem?_eq_getElem hlt
  generalize rs[i]'hlt = r at hri
  have hTi : (rs.map (·.T) ++ [Te])[i]? = some r.T := by
    rw [List.getElem?_append_left (by simp; omega)]
    simp [hri]
  obtain ⟨hname, hok⟩ := draw_names dk hsp d (by omega) ho hb hniS hbS hcS hTi
  obtain ⟨hw, hc0, hhc0, hcase⟩ := hsp.recs i o r ho hri
  have hwant := awanted_ok (a := a) (γ := γ) (fun j want p t av hg hp hd ht => hname t av (by unfold namesOf; rw [hg]; simp only [hp, hd]; simp) ht) hw
  have hu := dk.uniq
  unfold wpOp
  rw [hop]
  simp only [hwant]
  cases hq : quiet P o with
  | true =>
    have heq : ∀ (j : Nat) (p : Oper), ops.toList[j]? = some p → quiet P p = false → ((j = i ∨ inS S j) ↔ (ne P ops.toList j < k ∨ isA ah j)) := by
      intro j p hj hpq
      have hji : j ≠ i := by rintro rfl; rw [ho] at hj; injection hj with hj; subst hj; rw [hq] at hpq; cases hpq
      rw [← d.eff j p hj hpq]
      exact ⟨fun h => h.resolve_left hji, .inr⟩
    have hah : ∀ i0 j b0, ah = some (i0, j, b0) → i ≠ i0 ∧ k = k ∧ γ = γ ∧ hc = hc ∧ w = w := by
      intro i0 j b0 hab
      obtain ⟨_, _, _, _, ⟨oi, ei, g5, g6, g7⟩, _⟩ := d.ahd i0 j b0 hab
      refine ⟨fun e => ?_, rfl, rfl, rfl, rfl⟩
      subst e
      rw [ho] at g5; injection g5 with g5; subst g5
      rw [hq] at g6; cases g6
    rcases hcase with ⟨hbf, hav, hheap⟩ | ⟨hbt, _, hval⟩ | ⟨hbt, hq', _⟩
    · rw [hbf]
      simp only [Bool.false_eq_true, if_false]
      exact ⟨ah, k, γ, hc, d.step hu hsp ho hri hniS hpre hah (Gm.le.refl _) d.heap d.hr d.below (by rw [hav]; exact undef_VR γ) heq⟩
    · rw [hbt]
      simp only [if_true]
      left
      rcases hval with hval | ⟨hldr, hval⟩
      · obtain ⟨v, h1, h2⟩ := evalPure_ok hok hval
        exact wp_val (h2 w) ⟨ah, k, γ, hc, d.step hu hsp ho hri hniS hpre hah (Gm.le.refl _) d.heap d.hr d.below h1 heq⟩
      · have hall := ldAll_ok hld i (i, o, b) r hrow hri hldr
        have hallow : allowedR P (i, o, b) (rowsAll ops) k = true := by
          refine allowedR_of (by
            obtain ⟨r', h1, h2⟩ := befs_pre ops.toList []
            rw [h1]; simp [h2]) (fun j q c hj hcj hqq => ⟨fun hlt => ?_, fun hge => ?_⟩)
          · have hS := (d.eff j q hj hqq).2 (.inl hlt)
            cases hbit : c.testBit i with
            | false => rfl
            | true => exact absurd hS (hcS hj hcj hbit)
          · rw [Nat.zero_add]
            cases hbit : b.testBit j with
            | false => rfl
            | true =>
              have hS := hbS j hbit
              rcases (d.eff j q hj hqq).1 hS with h | ⟨i0, b0, hab⟩
              · omega
              · obtain ⟨g1, g2, _, _, _, _, _, _, _, _, _, _, _, _, _, g12⟩ := d.ahd i0 j b0 hab
                exact absurd (hbS i0 (g12 i o b ho hb (fun e => hniS (by rw [e]; exact g2)) hbit)) g1
        have hload : evalLoad P r.T hc.1 o = some r.av := by
          by_cases hko : k = ne P ops.toList i
          · have hhc : hs[k]? = some hc0 := by rw [hko]; exact hhc0
            rw [d.heap] at hhc
            injection hhc with hhc
            rw [hhc]
            exact hval
          · exact ldHs_ok hall k hc d.heap (by rw [Nat.zero_add]; exact hko) (by rw [Nat.zero_add]; exact hallow)
        obtain ⟨v, h1, h2⟩ := evalLoad_ok d.hr hok hload
        exact wp_val h2 ⟨ah, k, γ, hc, d.step hu hsp ho hri hniS hpre hah (Gm.le.refl _) d.heap d.hr d.below h1 heq⟩
    · rw [hq] at hq'; cases hq'
  | false =>
    match hmah : ah, d with
    | some (i0, j, b0), d =>
      have hii := draw_ahead dk d ho hb hq hniS hbS
      subst hii
      obtain ⟨g1, g2, g3, g4, ⟨oi, ei, g5, g6, g7⟩, oj, ej, zj, g8, g9, g10, _⟩ := d.ahd i j b0 rfl
      rw [ho] at g5; injection g5 with g5; subst g5
      have hqj : quiet P oj = false := by unfold quiet; rw [(alloc_op g9).1]
      have hwt : awanted ops r.T o = some true := by unfold awanted; rw [(alloc_op g7).2]
      have hbt : r.b = true := by rw [hw] at hwt; injection hwt
      rcases hcase with ⟨hbf, _⟩ | ⟨_, hq', _⟩ | ⟨_, _, hc', hev, hheap⟩
      · rw [hbf] at hbt; cases hbt
      · rw [hq] at hq'; cases hq'
      rw [hbt]
      simp only [if_true]
      left
      have ehc : hc0 = hc := by
        have := d.heap
        rw [← g3, hhc0] at this
        injection this
      subst ehc
      obtain ⟨zi, z1, z2, z3, z4⟩ := alloc_val g7 hev
      have hjl : j < rs.length := by
        rcases hall with h | h
        · rw [h]; exact (List.getElem?_eq_some_iff.1 g8).1
        · exact h j g2
      have hrj : rs[j]? = some (rs[j]'hjl) := List.getElem?_eq_getElem hjl
      generalize rs[j]'hjl = rj at hrj
      obtain ⟨hwj, hc0j, hhc0j, hcasej⟩ := hsp.recs j oj rj g8 hrj
      have hwtj : awanted ops rj.T oj = some true := by unfold awanted; rw [(alloc_op g9).2]
      have hbtj : rj.b = true := by rw [hwj] at hwtj; injection hwtj
      rcases hcasej with ⟨hbf, _⟩ | ⟨_, hq', _⟩ | ⟨_, _, hcj', hevj, hheapj⟩
      · rw [hbf] at hbtj; cases hbtj
      · rw [hqj] at hq'; cases hq'
      have e1 : hc0j = hc' := by
        rw [g4, ← g3, hheap] at hhc0j
        injection hhc0j with h; exact h.symm
      subst e1
      obtain ⟨zj', y1, y2, y3, y4⟩ := alloc_val g9 hevj
      rw [g10] at y1; injection y1 with y1; subst y1
      have hpair : hcj' = (newBlk ej (zj.cells.toList.map .v) (newBlk ei (zi.cells.toList.map .v) hc0.1 hc0.2) (hc0.2 + 1), hc0.2 + 1 + 1) := by
        apply Prod.ext
        · show hcj'.1 = _; rw [y3, z3, z4]
        · show hcj'.2 = _; rw [y4, z4]
      obtain ⟨γ2, d2⟩ := d.join hu hsp ho hri g8 hrj hpre hq hqj g7 g9 z1 g10 z2 (by rw [y2, z4]) (by rw [g4] at hheapj; exact hheapj) hpair
      exact alloc_wp g7 z1 ⟨none, k + 2, γ2, hcj', d2⟩
    | none, d =>
      have hAn := isA_none
      by_cases hk : k = ne P ops.toList i
      · have hee : ∀ (j : Nat) (p : Oper), ops.toList[j]? = some p → quiet P p = false → ((j = i ∨ inS S j) ↔ (ne P ops.toList j < k + 1 ∨ isA none j)) := by
          intro j p hj hpq
          rw [d.eff j p hj hpq]
          constructor
          · rintro (rfl | h | h)
            · left; omega
            · left; omega
            · exact absurd h (hAn j)
          · rintro (h | h)
            · by_cases hji : j = i
              · exact .inl hji
              · right; left
                have hne : ne P ops.toList j ≠ ne P ops.toList i := fun e => hji (ne_inj hj ho hpq hq e)
                omega
            · exact absurd h (hAn j)
        have e : hc0 = hc := by
          have := d.heap
          rw [hk, hhc0] at this
          injection this
        rcases hcase with ⟨hbf, hav, hheap⟩ | ⟨_, hq', _⟩ | ⟨hbt, _, hc', hev, hheap⟩
        · rw [hbf]
          simp only [Bool.false_eq_true, if_false]
          refine ⟨none, k + 1, γ, hc, d.step hu hsp ho hri hniS hpre (fun _ _ _ h => by cases h) (Gm.le.refl _) ?_ d.hr d.below (by rw [hav]; exact undef_VR γ) hee⟩
          rw [hk, ← e]
          exact hheap hq
        · rw [hq] at hq'; cases hq'
        · rw [hbt]
          simp only [if_true]
          left
          rw [e] at hev
          refine evalEff_ok hn hcall d.hr d.below hok ?_
          rw [hev]
          intro γ' v w' h1 h2 h3 h4
          exact ⟨none, k + 1, γ', hc', d.step hu hsp ho hri hniS hpre (fun _ _ _ h => by cases h) h1 (by rw [hk]; exact hheap) h3 h4 h2 hee⟩
      · -- ahead of its turn
        have h1 : ¬ ne P ops.toList i < k := fun h => hniS ((d.eff i o ho hq).2 (.inl h))
        obtain ⟨j, q, hji, hj, hqq, hjk⟩ := ne_hit P ops.toList i k (by omega)
        have hnj : ¬ inS S j := fun h => by
          rcases (d.eff j q hj hqq).1 h with h | h
          · omega
          · exact hAn j h
        rcases dk.effs hj ho hb hji hqq hq with h | h
        · exact absurd (hbS j h) hnj
        obtain ⟨f1, ⟨oi, ei, f2, f3, f4⟩, f5, f6⟩ := h
        rw [ho] at f2; injection f2 with f2; subst f2
        have hwt : awanted ops r.T o = some true := by unfold awanted; rw [(alloc_op f4).2]
        have hbt : r.b = true := by rw [hw] at hwt; injection hwt
        rcases hcase with ⟨hbf, _⟩ | ⟨_, hq', _⟩ | ⟨_, _, hc', hev, hheap⟩
        · rw [hbf] at hbt; cases hbt
        · rw [hq] at hq'; cases hq'
        rw [hbt]
        simp only [if_true]
        left
        obtain ⟨zi, z1, z2, z3, z4⟩ := alloc_val f4 hev
        exact alloc_wp f4 z1 ⟨some (j, i, w.heap.size), k, γ, hc, d.early hu hsp ho hri hnj hniS hpre f4 z1 hjk (by omega) (by omega) f1 f6⟩

/-- the way ends early -/
theorem draw_pan (hn : Fine P I) (hcall : CallOk P B P.globals.size w0 call) (dk : DOk P ops) (hsp : Spec P I call nt ops ops.toList T0 rs hs Te) (hhs : hs.length = ne P ops.toList rs.length + 1) {x : Pan} (hx : PanOk P I call ops ops.toList rs hs Te (some x))
    (hQ : ∀ γ' a w v, Gm.le γ0 γ' → VR γ' x.av v → a.tmps.size = nt → DR γ' ds a.defers → HR B P.globals.size γ' x.h x.c w → Keep B w0 w → Q (.panic [{ v, recovered := false }]) a w)
    {S : Array Bool} {a : Act} {w : World} {k : Nat} {γ : Gm} {hc : Hp × Nat} {ah : Option (Nat × Nat × Nat)} (d : DInv P B γ0 w0 nt T0 ds ops.toList rs hs ah S a w k γ hc) (hi : rs.length ∈ Region.ready .any ops S) {X : Act → World → Prop} :
    wpOp P ops Q rs.length X a w := by
  obtain ⟨o, b, hop, ho, hb, hrow, hniS, hpre, hbS, hcS⟩ := draw_ready dk d hi
  have hTi : (rs.map (·.T) ++ [Te])[rs.length]? = some Te := by
    rw [List.getElem?_append_right (by rw [List.length_map]; exact Nat.le_refl _)]
    simp
  obtain ⟨hname, hok⟩ := draw_names dk hsp d (Nat.le_refl _) ho hb hniS hbS hcS hTi
  obtain ⟨o', hc0, ho', hq, hw, hlast, hev⟩ := hx
  rw [ho] at ho'
  injection ho' with ho'
  subst ho'
  have hwant := awanted_ok (a := a) (γ := γ) (fun j want p t av hg hp hd ht => hname t av (by unfold namesOf; rw [hg]; simp only [hp, hd]; simp) ht) hw
  match hmah : ah, d with
  | some (i0, j, b0), d =>
    have hii := draw_ahead dk d ho hb hq hniS hbS
    obtain ⟨_, _, _, _, ⟨oi, ei, g5, g6, g7⟩, _⟩ := d.ahd i0 j b0 rfl
    rw [← hii, ho] at g5; injection g5 with g5; subst g5
    exact (alloc_pan g7 hev).elim
  | none, d =>
  have hk : k = ne P ops.toList rs.length := by
    have h1 : k < hs.length := (List.getElem?_eq_some_iff.1 d.heap).1
    rcases Nat.lt_or_ge k (ne P ops.toList rs.length) with h2 | h2
    · obtain ⟨j, q, hji, hj, hqq, hjk⟩ := ne_hit P ops.toList rs.length k h2
      rcases dk.effs hj ho hb hji hqq hq with h | h
      · have hS := hbS j h
        rcases (d.eff j q hj hqq).1 hS with h | h
        · omega
        · exact absurd h (isA_none j)
      · obtain ⟨_, ⟨oi, ei, f2, f3, f4⟩, _⟩ := h
        rw [ho] at f2; injection f2 with f2; subst f2
        exact (alloc_pan f4 hev).elim
    · omega
  have e : hc0 = hc := by
    rw [List.getLast?_eq_getElem?] at hlast
    have := d.heap
    rw [show hs.length - 1 = k by omega, this] at hlast
    injection hlast with hlast
    exact hlast.symm
  rw [e] at hev
  unfold wpOp
  rw [hop]
  simp only [hwant, if_true]
  left
  refine evalEff_ok hn hcall d.hr d.below hok ?_
  rw [hev]
  intro γ' v w' h1 h2 h3 h4
  exact hQ γ' a w' v (d.le.trans h1) h2 d.tsize (d.defs.mono h1) h3 h4

theorem ready_nil (dk : DOk P ops) {S : Array Bool} (hsz : S.size = ops.size) (hr : Region.ready .any ops S = []) : ∀ i, i < ops.size → inS S i := by
  intro i hi
  induction i using Nat.strongRecOn with
  | _ i ih =>
    rcases hS : S.getD i false with _ | _
    · exfalso
      have hop : ops[i]? = some ops[i] := Array.getElem?_eq_getElem hi
      have ho : ops.toList[i]? = some ops[i] := by rw [← hop]; simp
      have : i ∈ Region.ready .any ops S := by
        unfold Region.ready
        rw [List.mem_filter, List.mem_range, Bool.and_eq_true]
        refine ⟨hi, ?_, ?_⟩
        · have hlt : i < S.size := by rw [hsz]; exact hi
          rw [Array.getD_eq_getD_getElem?, Array.getElem?_eq_getElem hlt] at hS ⊢
          simp at hS ⊢
          exact hS
        · rw [hop]
          simp only [Option.map_some, Option.getD_some, Array.all_eq_true_iff_forall_mem]
          intro e he
          cases hbn : Region.binds .any e with
          | false => rfl
          | true =>
            have hlt := dk.edges i _ ho e (by simpa using he) hbn
            have := ih e.on hlt (by omega)
            rw [Bool.not_true, Bool.false_or]
            exact this
      rw [hr] at this
      simp at this
    · exact hS
theorem count_set {n i : Nat} {S : Array Bool} (hi : i < n) (his : i < S.size) (hf : S.getD i false = false) :
    (List.range n).countP (fun j => !(S.setIfInBounds i true).getD j false) < (List.range n).countP (fun j => !S.getD j false) := by
  have hle : ∀ (l : List Nat), l.countP (fun j => !(S.setIfInBounds i true).getD j false) ≤ l.countP (fun j => !S.getD j false) := by
    intro l
    refine List.countP_mono_left (fun j _ hj => ?_)
    have : ¬ inS (S.setIfInBounds i true) j := by unfold inS; simpa using hj
    rw [inS_set his] at this
    have h2 : ¬ inS S j := fun h => this (.inr h)
    unfold inS at h2
    simpa using h2
  have hsplit : ∀ (l : List Nat), i ∈ l → l.countP (fun j => !(S.setIfInBounds i true).getD j false) < l.countP (fun j => !S.getD j false) := by
    intro l hl
    induction l with
    | nil => simp at hl
    | cons x l ihl =>
      rw [List.countP_cons, List.countP_cons]
      rcases List.mem_cons.1 hl with rfl | hl
      · have h1 : (S.setIfInBounds i true).getD i false = true := (inS_set his).2 (.inl rfl)
        rw [h1, hf]
        have := hle l
        simp only [Bool.not_true, Bool.not_false, Bool.false_eq_true, if_false, if_true, Nat.add_zero]
        omega
      · have h1 := ihl hl
        have h2 : (if (!(S.setIfInBounds i true).getD x false) = true then 1 else 0) ≤ (if (!S.getD x false) = true then 1 else 0) := by
          have := hle [x]
          simpa [List.countP_cons] using this
        omega
  exact hsplit _ (by simpa using hi)
/-- what each operation keeps, the whole region keeps -/
theorem wpAny_keep {J : Array Bool → Act → World → Prop} (dk : DOk P ops) (hsz : ∀ S a w, J S a w → S.size = ops.size) (hdone : ∀ S a w, J S a w → (∀ i, i < ops.size → inS S i) → Q .normal a w)
    (hstep : ∀ S a w i, J S a w → i ∈ Region.ready .any ops S → wpOp P ops Q i (fun a' w' => J (S.setIfInBounds i true) a' w') a w) :
    ∀ (fuel : Nat) (S : Array Bool) (a : Act) (w : World), J S a w → (List.range ops.size).countP (fun i => !S.getD i false) ≤ fuel → wpAny P .any ops Q fuel S a w := by
  intro fuel
  induction fuel with
  | zero =>
    intro S a w hd hcnt
    have hs := hsz S a w hd
    have hr : Region.ready .any ops S = [] := by
      rw [List.eq_nil_iff_forall_not_mem]
      intro i hi
      unfold Region.ready at hi
      rw [List.mem_filter, List.mem_range, Bool.and_eq_true] at hi
      have h0 : (List.range ops.size).countP (fun i => !S.getD i false) = 0 := by omega
      rw [List.countP_eq_zero] at h0
      have h1 := h0 i (by simpa using hi.1)
      have hlt : i < S.size := by rw [hs]; exact hi.1
      have h2 : S.getD i true = false := by simpa using hi.2.1
      rw [Array.getD_eq_getD_getElem?, Array.getElem?_eq_getElem hlt] at h1 h2
      simp at h1 h2
      rw [h1] at h2
      cases h2
    exact ⟨hr, hdone S a w hd (ready_nil dk hs hr)⟩
  | succ fuel ih =>
    intro S a w hd hcnt
    have hs := hsz S a w hd
    refine ⟨fun hr => hdone S a w hd (ready_nil dk hs hr), fun i hi => ?_⟩
    have hin : i < ops.size ∧ S.getD i false = false := by
      unfold Region.ready at hi
      rw [List.mem_filter, List.mem_range, Bool.and_eq_true] at hi
      refine ⟨hi.1, ?_⟩
      have hlt : i < S.size := by rw [hs]; exact hi.1
      have h2 : S.getD i true = false := by simpa using hi.2.1
      rw [Array.getD_eq_getD_getElem?, Array.getElem?_eq_getElem hlt] at h2 ⊢
      simp at h2 ⊢
      exact h2
    refine wpOp_mono (fun a' w' hd' => ih _ a' w' hd' ?_) (hstep S a w i hd hi)
    have := count_set (n := ops.size) hin.1 (by rw [hs]; exact hin.1) hin.2
    omega

theorem evalDraw_ok (hm : P.follows .mixedOrders = true) (hn : Fine P I) (hcall : CallOk P B P.globals.size w0 call) {s : St} {γ : Gm} {a : Act} {w : World} {id : Nat} (hf : FR γ nt s.T s.ds a) (hr : HR B P.globals.size γ s.h s.c w) (hb : Keep B w0 w)
    (hk : KOk2 B P.globals.size γ w0 nt Q (evalDraw P I call nt ops s)) : (Code.region id ops true).wp P Q a w := by
  unfold evalDraw at hk
  split at hk
  · exact hk.elim
  rename_i hdk
  have dk := dok hdk
  split at hk
  · exact hk.elim
  rename_i rs hs Te pn hds
  split at hk
  · exact hk.elim
  rename_i hld
  have hsp := drawSeq_spec dk.uniq hds
  obtain ⟨h0, hhs, hpn⟩ := drawSeq_head hds
  refine wp_region_any hm ?_
  have hall : ∀ i, ¬ inS (Array.replicate ops.size false) i := by
    intro i h
    unfold inS at h
    rw [Array.getD_eq_getD_getElem?] at h
    by_cases hi : i < ops.size
    · rw [Array.getElem?_eq_getElem (by simpa using hi)] at h
      simp at h
    · rw [Array.getElem?_eq_none (by simp; omega)] at h
      simp at h
  have d0 : DInv P B γ w0 nt s.T s.ds ops.toList rs hs none (Array.replicate ops.size false) a { w with drawn := w.drawn + 1 } 0 γ (s.h, s.c) := by
    refine ⟨by simp, fun i o h => absurd h (hall i), h0, Gm.le.refl _, ?_, ⟨hb.os, hb.tape, hb.output, hb.size, hb.block⟩, hf.size, hf.defs, fun i o hi hq => ⟨fun h => absurd h (hall i), fun h => by
      rcases h with h | h
      · omega
      · exact absurd h (isA_none i)⟩,
      fun i o r t _ _ _ h => absurd h (hall i), fun t av ht _ => hf.tmps t av ht, fun _ _ _ h => by cases h⟩
    exact hr.kept (Nat.le_refl _) (fun _ _ => rfl)
  split at hk
  · -- to its end
    have hlen : rs.length = ops.toList.length := hpn
    split at hk
    · exact hk.elim
    rename_i hc hlast
    refine wpAny_keep (J := fun S a w => ∃ ah k γ' hc', DInv P B γ w0 nt s.T s.ds ops.toList rs hs ah S a w k γ' hc') dk ?_ ?_ ?_ ops.size _ a _ ⟨none, 0, γ, (s.h, s.c), d0⟩ ?_
    · rintro S a w ⟨_, _, _, _, d⟩
      simpa using d.size
    · rintro S a' w' ⟨ah, k, γ', hc', d⟩ hS
      have hahn : ah = none := by
        cases ah with
        | none => rfl
        | some z =>
          obtain ⟨i0, j, b0⟩ := z
          obtain ⟨g1, _, _, _, ⟨oi, ei, g5, _⟩, _⟩ := d.ahd i0 j b0 rfl
          have : i0 < ops.size := by have := (List.getElem?_eq_some_iff.1 g5).1; simpa using this
          exact absurd (hS i0 this) g1
      subst hahn
      have hkn : k = ne P ops.toList ops.toList.length := by
        rw [hlen] at hhs
        have hle : k ≤ ne P ops.toList ops.toList.length := by
          have := (List.getElem?_eq_some_iff.1 d.heap).1
          omega
        rcases Nat.lt_or_ge k (ne P ops.toList ops.toList.length) with hlt | hge
        · obtain ⟨j, q, h1, h2, h3, h4⟩ := ne_hit P ops.toList _ _ hlt
          have hj : j < ops.size := by have := (List.getElem?_eq_some_iff.1 h2).1; simpa using this
          rcases (d.eff j q h2 h3).1 (hS j hj) with h | h
          · omega
          · exact absurd h (isA_none j)
        · omega
      have hce : hc' = hc := by
        rw [hlen] at hhs
        rw [List.getLast?_eq_getElem?] at hlast
        have := d.heap
        rw [show hs.length - 1 = k by omega, this] at hlast
        injection hlast
      subst hce
      refine hk γ' .normal a' w' d.le trivial ⟨d.tsize, fun t av ht => ?_, d.defs⟩ d.hr d.below
      have hTe : (rs.map (·.T) ++ [Te])[ops.toList.length]? = some Te := by
        rw [List.getElem?_append_right (by rw [List.length_map, hlen]; exact Nat.le_refl _)]
        simp [hlen]
      by_cases hex : ∃ (j : Nat) (q : Oper), ops.toList[j]? = some q ∧ q.dst = some t
      · obtain ⟨j, q, hj, hq⟩ := hex
        have hjl : j < ops.toList.length := (List.getElem?_eq_some_iff.1 hj).1
        have hrj : rs[j]? = some (rs[j]'(by rw [hlen]; exact hjl)) := List.getElem?_eq_getElem (by rw [hlen]; exact hjl)
        have := hsp.hit _ Te j q _ t hTe hjl hj hrj hq
        have ht' : Te.get t = some av := ht
        rw [this] at ht'
        injection ht' with ht'
        rw [← ht']
        exact d.done j q _ t hj hrj hq (hS j (by simpa using hjl)) (isA_none j)
      · have hmm := hsp.miss _ Te t hTe (fun j q _ hj hq => hex ⟨j, q, hj, hq⟩)
        have ht' : Te.get t = some av := ht
        rw [hmm] at ht'
        exact d.todo t av ht' (fun j q hj hq => absurd ⟨j, q, hj, hq⟩ hex)
    · rintro S a w i ⟨ah, k, γ', hc', d⟩ hi
      have hlt : i < rs.length := by
        obtain ⟨o, _, _, ho, _⟩ := draw_ready dk d hi
        rw [hlen]
        exact (List.getElem?_eq_some_iff.1 ho).1
      exact draw_step hn hcall dk hsp hld d (.inl hlen) hi hlt
    · refine Nat.le_trans (List.countP_le_length) (by simp)
  · -- it ends early
    rename_i x
    split at hk
    · exact hk.elim
    rename_i hst
    have hpl : rs.length < ops.toList.length := by
      obtain ⟨o, _, ho, _⟩ := hpn
      exact (List.getElem?_eq_some_iff.1 ho).1
    refine wpAny_keep (J := fun S a w => (∃ ah k γ' hc', DInv P B γ w0 nt s.T s.ds ops.toList rs hs ah S a w k γ' hc') ∧ ∀ j, inS S j → j < rs.length) dk ?_ ?_ ?_ ops.size _ a _ ⟨⟨none, 0, γ, (s.h, s.c), d0⟩, fun j h => absurd h (hall j)⟩ ?_
    · rintro S a w ⟨⟨_, _, _, _, d⟩, _⟩
      simpa using d.size
    · rintro S a' w' ⟨_, hS⟩ hal
      have := hS _ (hal rs.length (by simpa using hpl))
      omega
    · rintro S a w i ⟨⟨ah, k, γ', hc', d⟩, hS⟩ hi
      rcases Nat.lt_trichotomy i rs.length with hlt | heq | hgt
      · refine wpOp_mono (fun a' w' hd' => ⟨hd', fun j hj => ?_⟩) (draw_step hn hcall dk hsp hld d (.inr hS) hi hlt)
        have his : i < S.size := by rw [d.size]; omega
        rcases (inS_set his).1 hj with rfl | h
        · exact hlt
        · exact hS j h
      · subst heq
        exact draw_pan hn hcall dk hsp hhs hpn (fun γ'' a w v h1 h2 h3 h4 h5 h6 => hk γ'' _ a w h1 ⟨v, h2, rfl⟩ ⟨h3, fun t av ht => (by rw [Tr.get_leaf] at ht; cases ht), h4⟩ h5 h6) d hi
      · obtain ⟨o, b, _, ho, hb, hrow, _, _, hbS, _⟩ := draw_ready dk d hi
        have hbit := stops_ok hst (i, o, b) (List.mem_of_getElem? hrow) hgt
        have := hS _ (hbS _ hbit)
        omega
    · refine Nat.le_trans (List.countP_le_length) (by simp)
end
end Go.Sy
