/- The reckoner: regions whose order Go leaves open. Any program; no conditions. -/
import Derived.Test.YtaehpjaleceppaaGreatDoorSy6
noncomputable section
namespace Go.Sy
open Go Go.RowKit
set_option linter.unusedVariables false
set_option linter.unusedSimpArgs false

/-! are two values the same? -/
def sameV : Value → Value → Bool
  | .bool a, .bool b => match a, b with | true, true => true | false, false => true | _, _ => false
  | .int k n, .int k' m => decide (k = k') && decide (n = m)
  | .float k n, .float k' m => decide (k = k') && Nat.beq n m
  | .string a, .string b => decide (a.data.toList = b.data.toList)
  | .pointer none, .pointer none => true
  | .slice none a b, .slice none c d => Nat.beq a c && Nat.beq b d
  | .map none, .map none => true
  | .nilFunc, .nilFunc => true
  | .nilIface, .nilIface => true
  | _, _ => false
theorem sameV_eq {x y : Value} (h : sameV x y = true) : x = y := by
  unfold sameV at h
  split at h <;> first | rfl | (cases h; done) | skip
  · split at h <;> first | rfl | (cases h; done)
  · rw [Bool.and_eq_true] at h
    have h1 := of_decide_eq_true h.1
    have h2 := of_decide_eq_true h.2
    subst h1 h2
    rfl
  · rw [Bool.and_eq_true] at h
    have h1 := of_decide_eq_true h.1
    have h2 := Nat.eq_of_beq_eq_true h.2
    subst h1 h2
    rfl
  · rename_i a b
    have h1 := of_decide_eq_true h
    congr 1
    apply ByteArray.ext
    apply Array.ext'
    exact h1
  · rw [Bool.and_eq_true] at h
    have h1 := Nat.eq_of_beq_eq_true h.1
    have h2 := Nat.eq_of_beq_eq_true h.2
    subst h1 h2
    rfl
def sameC : AV → AV → Bool
  | .v x, .v y => sameV x y
  | .ptr b o, .ptr b' o' => Nat.beq b b' && Nat.beq o o'
  | .sl b o l c, .sl b' o' l' c' => (Nat.beq b b' && Nat.beq o o') && (Nat.beq l l' && Nat.beq c c')
  | .slg b o l c, .slg b' o' l' c' => (Nat.beq b b' && Nat.beq o o') && (Nat.beq l l' && Nat.beq c c')
  | .map b, .map b' => Nat.beq b b'
  | _, _ => false
theorem sameC_eq {x y : AV} (h : sameC x y = true) : x = y := by
  unfold sameC at h
  split at h <;> first | (cases h; done) | skip
  · rw [sameV_eq h]
  · simp at h; obtain ⟨rfl, rfl⟩ := h; rfl
  · simp at h; obtain ⟨⟨rfl, rfl⟩, rfl, rfl⟩ := h; rfl
  · simp at h; obtain ⟨⟨rfl, rfl⟩, rfl, rfl⟩ := h; rfl
  · simp at h; subst h; rfl
def sameL (f : AV → AV → Bool) : List AV → List AV → Bool
  | [], [] => true
  | a :: l, b :: r => f a b && sameL f l r
  | _, _ => false
theorem sameL_eq {f : AV → AV → Bool} (hf : ∀ x y, f x y = true → x = y) : ∀ {x y : List AV}, sameL f x y = true → x = y
  | [], [], _ => rfl
  | a :: l, b :: r, h => by
    simp only [sameL, Bool.and_eq_true] at h
    rw [hf _ _ h.1, sameL_eq hf h.2]
  | [], _ :: _, h => by cases h
  | _ :: _, [], h => by cases h
def sameF : Nat → AV → AV → Bool
  | 0, _, _ => false
  | n + 1, x, y => match x, y with
    | .agg l, .agg r => sameL (sameF n) l r
    | .tup l, .tup r => sameL (sameF n) l r
    | .fn (.func f) a b, .fn (.func g) c d => (Nat.beq f g && sameL (sameF n) a c) && sameL (sameF n) b d
    | .ifc t a, .ifc u b => Nat.beq t u && sameF n a b
    | x, y => sameC x y
theorem sameF_eq : ∀ (n : Nat) (x y : AV), sameF n x y = true → x = y
  | 0, _, _, h => by simp [sameF] at h
  | n + 1, x, y, h => by
    have ih := sameF_eq n
    unfold sameF at h
    split at h
    · rw [sameL_eq ih h]
    · rw [sameL_eq ih h]
    · simp only [Bool.and_eq_true] at h
      obtain ⟨⟨h1, h2⟩, h3⟩ := h
      have h1 := Nat.eq_of_beq_eq_true h1
      rw [h1, sameL_eq ih h2, sameL_eq ih h3]
    · simp only [Bool.and_eq_true] at h
      have h1 := Nat.eq_of_beq_eq_true h.1
      rw [h1, ih _ _ h.2]
    · exact sameC_eq h
def same (x y : AV) : Bool := sameF 5 x y
theorem same_eq {x y : AV} (h : same x y = true) : x = y := sameF_eq 5 x y h

/-! what must stand ahead -/
def mask (acc : List Nat) : List Edge → Nat
  | [] => 0
  | e :: l => match Region.binds .any e with
    | true => Nat.lor (Nat.lor (Nat.pow 2 e.on) (acc.getD e.on 0)) (mask acc l)
    | false => mask acc l
def befs : List Oper → List Nat → List Nat
  | [], acc => acc
  | o :: l, acc => befs l (acc ++ [mask acc o.after.toList])
theorem mask_bit {acc : List Nat} : ∀ {l : List Edge} {j : Nat}, (mask acc l).testBit j = true → ∃ e ∈ l, Region.binds .any e = true ∧ (j = e.on ∨ (acc.getD e.on 0).testBit j = true)
  | [], j, h => by simp [mask] at h
  | e :: l, j, h => by
    simp only [mask] at h
    split at h
    · rename_i hb
      have h' : ((2 ^ e.on ||| acc.getD e.on 0) ||| mask acc l).testBit j = true := h
      rw [Nat.testBit_or, Nat.testBit_or, Bool.or_eq_true, Bool.or_eq_true] at h'
      rcases h' with (h' | h') | h'
      · rw [Nat.testBit_two_pow] at h'
        exact ⟨e, by simp, hb, .inl (of_decide_eq_true h').symm⟩
      · exact ⟨e, by simp, hb, .inr h'⟩
      · obtain ⟨e', h1, h2⟩ := mask_bit h'
        exact ⟨e', by simp [h1], h2⟩
    · obtain ⟨e', h1, h2⟩ := mask_bit h
      exact ⟨e', by simp [h1], h2⟩
theorem befs_pre : ∀ (L : List Oper) (acc : List Nat), ∃ r, befs L acc = acc ++ r ∧ r.length = L.length
  | [], acc => ⟨[], by simp [befs], rfl⟩
  | o :: L, acc => by
    obtain ⟨r, h1, h2⟩ := befs_pre L (acc ++ [mask acc o.after.toList])
    exact ⟨mask acc o.after.toList :: r, by rw [befs, h1]; simp, by simp [h2]⟩
theorem befs_get : ∀ (L : List Oper) (acc : List Nat) (i : Nat) (o : Oper), L[i]? = some o → (befs L acc)[acc.length + i]? = some (mask ((befs L acc).take (acc.length + i)) o.after.toList)
  | [], acc, i, o, h => by simp at h
  | o :: L, acc, 0, o', h => by
    simp at h
    subst h
    obtain ⟨r, h1, h2⟩ := befs_pre L (acc ++ [mask acc o.after.toList])
    rw [befs, h1]
    simp
  | o :: L, acc, i + 1, o', h => by
    have := befs_get L (acc ++ [mask acc o.after.toList]) i o' (by simpa using h)
    simp only [List.length_append, List.length_cons, List.length_nil] at this
    rw [befs, show acc.length + (i + 1) = acc.length + (0 + 1) + i by omega]
    exact this
/-- what has all its own ahead has all that stands ahead at all -/
theorem befs_closed {L : List Oper} {S : Nat → Prop} (hS : ∀ (i : Nat) (o : Oper), S i → L[i]? = some o → ∀ e ∈ o.after.toList, Region.binds .any e = true → S e.on) :
    ∀ (i : Nat) (o : Oper) (b : Nat), L[i]? = some o → (befs L [])[i]? = some b → (∀ e ∈ o.after.toList, Region.binds .any e = true → S e.on) → ∀ j, b.testBit j = true → S j := by
  intro i
  induction i using Nat.strongRecOn with
  | _ i ih =>
    intro o b ho hb hp j hj
    have h1 := befs_get L [] i o ho
    simp only [List.length_nil, Nat.zero_add] at h1
    rw [h1] at hb
    injection hb with hb
    rw [← hb] at hj
    obtain ⟨e, he, hbn, h2 | h2⟩ := mask_bit hj
    · rw [h2]; exact hp e he hbn
    · have hin : e.on < i ∧ e.on < (befs L []).length := by
        rcases Nat.lt_or_ge e.on ((befs L []).take i).length with hlt | hge
        · simp at hlt; omega
        · rw [List.getD_eq_getElem?_getD, List.getElem?_eq_none hge] at h2
          simp at h2
      obtain ⟨r, h3, h4⟩ := befs_pre L []
      simp only [List.nil_append] at h3
      have hlen : (befs L []).length = L.length := by rw [h3, h4]
      have h5 : ((befs L []).take i).getD e.on 0 = (befs L [])[e.on]'hin.2 := by
        rw [List.getD_eq_getElem?_getD, List.getElem?_take, if_pos hin.1, List.getElem?_eq_getElem hin.2]
        rfl
      rw [h5] at h2
      exact ih e.on hin.1 (L[e.on]'(by omega)) _ (List.getElem?_eq_getElem _) (List.getElem?_eq_getElem hin.2) (hS e.on _ (hp e he hbn) (List.getElem?_eq_getElem (by omega))) j h2

/-! what a region must be -/
def quiet (P : Program) (o : Oper) : Bool := match o.op with
  | .move _ | .assign _ | .pick _ _ _ | .build _ _ | .nilCheck _ | .makeInterface _ _ | .makeFunc _ _ _ | .fieldAddr _ _ _ | .field _ _ _ | .indexAddr _ _ _ | .index _ _ _ | .extract _ _ | .typeAssert _ _ _ _
  | .slice _ _ _ _ _ | .binOp _ _ _ _ _ | .unOp _ _ _ | .load _ _ | .lookup _ _ _ _ => true
  | .convert _ dst _ => match P.underlying dst with
    | some (.slice _) => false
    | _ => true
  | .call c => match c.callee with
    | .builtin .len => true
    | .builtin .cap => true
    | .builtin .min => true
    | .builtin .max => true
    | .builtin .unsafeSliceData => true
    | _ => false
  | _ => false
def opTmps : List Operand → List Nat
  | [] => []
  | .tmp t :: l => t :: opTmps l
  | _ :: l => opTmps l
def namesOf (ops : Array Oper) (o : Oper) : List Nat := match o.guard with
  | none => opTmps o.op.operands.toList
  | some (j, _) => match ops[j]? with
    | none => opTmps o.op.operands.toList
    | some p => match p.dst with
      | none => opTmps o.op.operands.toList
      | some t => t :: opTmps o.op.operands.toList
def hasNat (t : Nat) : List Nat → Bool
  | [] => false
  | x :: l => match Nat.beq x t with
    | true => true
    | false => hasNat t l
theorem hasNat_iff {t : Nat} : ∀ {l : List Nat}, hasNat t l = true ↔ t ∈ l
  | [] => by simp [hasNat]
  | x :: l => by
    simp only [hasNat, List.mem_cons]
    split
    · rename_i h
      have h := Nat.eq_of_beq_eq_true h
      simp [h]
    · rename_i h
      have h := Nat.ne_of_beq_eq_false h
      rw [hasNat_iff (l := l)]
      constructor
      · exact .inr
      · rintro (e | e)
        · exact absurd e.symm h
        · exact e
abbrev Row := Nat × Oper × Nat
def rowsOf : Nat → List Oper → List Nat → List Row
  | i, o :: l, b :: bs => (i, o, b) :: rowsOf (Nat.succ i) l bs
  | _, _, _ => []
theorem rowsOf_get : ∀ {L : List Oper} {bs : List Nat} {i0 i : Nat} {o : Oper} {b : Nat}, L[i]? = some o → bs[i]? = some b → (rowsOf i0 L bs)[i]? = some (i0 + i, o, b)
  | o :: L, b :: bs, i0, 0, o', b', h1, h2 => by simp at h1 h2; subst h1 h2; rfl
  | o :: L, b :: bs, i0, i + 1, o', b', h1, h2 => by
    have := rowsOf_get (i0 := i0 + 1) (i := i) (L := L) (bs := bs) (by simpa using h1) (by simpa using h2)
    rw [show i0 + (i + 1) = i0 + 1 + i by omega]
    exact this
  | [], _, _, _, _, _, h1, _ => by simp at h1
  | _ :: _, [], _, _, _, _, _, h2 => by simp at h2
def edgesOk (i : Nat) : List Edge → Bool
  | [] => true
  | e :: l => match Region.binds .any e with
    | true => match Nat.blt e.on i with
      | true => edgesOk i l
      | false => false
    | false => edgesOk i l
theorem edgesOk_mem {i : Nat} : ∀ {l : List Edge}, edgesOk i l = true → ∀ e ∈ l, Region.binds .any e = true → e.on < i
  | [], _, e, he, _ => by simp at he
  | x :: l, h, e, he, hb => by
    simp only [edgesOk] at h
    rcases List.mem_cons.1 he with rfl | he
    · rw [hb] at h
      simp only at h
      split at h
      · rename_i hlt; exact blt_lt hlt
      · cases h
    · split at h
      · split at h
        · exact edgesOk_mem h e he hb
        · cases h
      · exact edgesOk_mem h e he hb
/-- an operation that makes one new variable, always -/
def allocOp (o : Oper) : Option TypeId := match o.guard with
  | none => match o.op with
    | .alloc e => some e
    | _ => none
  | some _ => none
/-- may the two be made in either order? all that waits for the second waits for the first; nothing that turns memory stands between -/
def freeOk (P : Program) (p q : Row) : List Row → Bool
  | [] => true
  | x :: l => match Nat.beq x.1 q.1 with
    | true => freeOk P p q l
    | false => match !Nat.testBit x.2.2 q.1 || Nat.testBit x.2.2 p.1 with
      | false => false
      | true => match quiet P x.2.1 || Nat.ble x.1 p.1 || Nat.blt q.1 x.1 with
        | false => false
        | true => freeOk P p q l
theorem freeOk_mem {P : Program} {p q : Row} : ∀ {l : List Row}, freeOk P p q l = true → ∀ x ∈ l, x.1 ≠ q.1 → (Nat.testBit x.2.2 q.1 = true → Nat.testBit x.2.2 p.1 = true) ∧ (quiet P x.2.1 = false → x.1 ≤ p.1 ∨ q.1 < x.1)
  | [], _, x, hx, _ => by simp at hx
  | y :: l, h, x, hx, hne => by
    simp only [freeOk] at h
    rcases List.mem_cons.1 hx with rfl | hx
    · have : Nat.beq x.1 q.1 = false := by
        cases hb : Nat.beq x.1 q.1 with
        | false => rfl
        | true => exact absurd (Nat.eq_of_beq_eq_true hb) hne
      rw [this] at h
      simp only at h
      split at h
      · cases h
      · rename_i h1
        split at h
        · cases h
        · rename_i h2
          refine ⟨fun hb => ?_, fun hq => ?_⟩
          · rw [hb] at h1; simpa using h1
          · rw [hq] at h2
            simp only [Bool.false_or, Bool.or_eq_true] at h2
            rcases h2 with h2 | h2
            · exact .inl (Nat.le_of_ble_eq_true h2)
            · exact .inr (blt_lt h2)
    · split at h
      · exact freeOk_mem h x hx hne
      · split at h
        · cases h
        · split at h
          · cases h
          · exact freeOk_mem h x hx hne
def pairOk (P : Program) (ops : Array Oper) (R : List Row) (p q : Row) : Bool := match Nat.beq p.1 q.1 with
  | true => true
  | false =>
    (match p.2.1.dst, q.2.1.dst with
      | some a, some b => !Nat.beq a b
      | _, _ => true) &&
    (match q.2.1.dst with
      | none => true
      | some t => match hasNat t (namesOf ops p.2.1) with
        | false => true
        | true => Nat.testBit p.2.2 q.1 || Nat.testBit q.2.2 p.1) &&
    (match quiet P p.2.1, quiet P q.2.1, Nat.blt p.1 q.1 with
      | false, false, true => match Nat.testBit q.2.2 p.1 with
        | true => true
        | false => match allocOp p.2.1, allocOp q.2.1 with
          | some _, some _ => freeOk P p q R
          | _, _ => false
      | _, _, _ => true)
def drawOk (P : Program) (ops : Array Oper) (R : List Row) : Bool := Region.noSelect ops && R.all fun p => edgesOk p.1 p.2.1.after.toList && R.all fun q => pairOk P ops R p q

/-- may the quiet operation p come up behind k of the others? -/
def allowedR (P : Program) (p : Row) : List Row → Nat → Bool
  | [], _ => true
  | q :: R, k => match quiet P q.2.1 with
    | true => allowedR P p R k
    | false => match k with
      | 0 => !Nat.testBit p.2.2 q.1 && allowedR P p R 0
      | k + 1 => !Nat.testBit q.2.2 p.1 && allowedR P p R k
/-- how many of the others stand ahead -/
def ne (P : Program) (L : List Oper) (i : Nat) : Nat := (L.take i).countP (fun o => !quiet P o)
theorem ne_succ (P : Program) (o : Oper) (L : List Oper) (i : Nat) : ne P (o :: L) (i + 1) = ne P L i + (if quiet P o then 0 else 1) := by
  unfold ne
  rw [List.take_succ_cons, List.countP_cons]
  cases quiet P o <;> rfl
theorem ne_zero (P : Program) (L : List Oper) : ne P L 0 = 0 := rfl
theorem ne_step (P : Program) (L : List Oper) (i : Nat) (o : Oper) (h : L[i]? = some o) : ne P L (i + 1) = ne P L i + (if quiet P o then 0 else 1) := by
  unfold ne
  rw [List.take_add_one, List.countP_append, h]
  cases hq : quiet P o <;> simp [hq]
theorem ne_mono (P : Program) (L : List Oper) {i j : Nat} (h : i ≤ j) : ne P L i ≤ ne P L j := by
  unfold ne
  have : (L.take i).Sublist (L.take j) := by
    rw [← Nat.min_eq_left h, ← List.take_take]
    exact List.take_sublist _ _
  exact this.countP_le
theorem ne_lt (P : Program) (L : List Oper) {i j : Nat} {o : Oper} (hi : L[i]? = some o) (hq : quiet P o = false) (h : i < j) : ne P L i < ne P L j := by
  have h1 := ne_step P L i o hi
  have h2 := ne_mono P L (show i + 1 ≤ j from h)
  rw [hq] at h1
  simp at h1
  omega
theorem ne_flat (P : Program) (L : List Oper) {i : Nat} : ∀ {j : Nat}, i ≤ j → (∀ x o, i ≤ x → x < j → L[x]? = some o → quiet P o = true) → ne P L j = ne P L i
  | 0, h, _ => by rw [show i = 0 by omega]
  | j + 1, h, hq => by
    rcases Nat.lt_or_ge j i with hlt | hge
    · rw [show i = j + 1 by omega]
    · rw [← ne_flat P L hge (fun x o h1 h2 => hq x o h1 (by omega))]
      cases ho : L[j]? with
      | none =>
        unfold ne
        rw [List.take_add_one, ho]
        simp
      | some o =>
        rw [ne_step P L j o ho, hq j o hge (by omega) ho]
        rfl
theorem ne_hit (P : Program) (L : List Oper) : ∀ (i k : Nat), k < ne P L i → ∃ j o, j < i ∧ L[j]? = some o ∧ quiet P o = false ∧ ne P L j = k := by
  intro i
  induction i with
  | zero => intro k h; simp [ne_zero] at h
  | succ i ih =>
    intro k h
    cases ho : L[i]? with
    | none =>
      have : ne P L (i + 1) = ne P L i := by
        unfold ne
        rw [List.take_add_one, ho]
        simp
      rw [this] at h
      obtain ⟨j, o, h1, h2⟩ := ih k h
      exact ⟨j, o, by omega, h2⟩
    | some o =>
      have hs := ne_step P L i o ho
      rcases Nat.lt_or_ge k (ne P L i) with hlt | hge
      · obtain ⟨j, o', h1, h2⟩ := ih k hlt
        exact ⟨j, o', by omega, h2⟩
      · cases hq : quiet P o with
        | true => rw [hq] at hs; simp at hs; omega
        | false =>
          rw [hq] at hs
          simp at hs
          exact ⟨i, o, by omega, ho, hq, by omega⟩
theorem allowedR_of {P : Program} {p : Row} : ∀ {L : List Oper} {bs : List Nat} {i0 k : Nat}, L.length = bs.length → (∀ (i : Nat) (o : Oper) (b : Nat), L[i]? = some o → bs[i]? = some b → quiet P o = false →
      (ne P L i < k → Nat.testBit b p.1 = false) ∧ (k ≤ ne P L i → Nat.testBit p.2.2 (i0 + i) = false)) → allowedR P p (rowsOf i0 L bs) k = true
  | [], [], i0, k, _, _ => by simp [rowsOf, allowedR]
  | o :: L, b :: bs, i0, k, hl, h => by
    have hl' : L.length = bs.length := by simpa using hl
    simp only [rowsOf, allowedR]
    cases hq : quiet P o with
    | true =>
      simp only
      refine allowedR_of hl' (fun i o' b' h1 h2 h3 => ?_)
      have := h (i + 1) o' b' (by simpa using h1) (by simpa using h2) h3
      rw [ne_succ, hq] at this
      simp only [if_true, Nat.add_zero] at this
      exact ⟨this.1, fun hk => by rw [show Nat.succ i0 + i = i0 + (i + 1) by omega]; exact this.2 hk⟩
    | false =>
      have h0 := h 0 o b rfl rfl hq
      rw [ne_zero] at h0
      cases k with
      | zero =>
        simp only [Bool.and_eq_true, Bool.not_eq_true']
        refine ⟨by simpa using h0.2 (Nat.le_refl _), allowedR_of hl' (fun i o' b' h1 h2 h3 => ⟨fun hk => by omega, fun hk => ?_⟩)⟩
        have := h (i + 1) o' b' (by simpa using h1) (by simpa using h2) h3
        rw [show Nat.succ i0 + i = i0 + (i + 1) by omega]
        exact this.2 (by omega)
      | succ k =>
        simp only [Bool.and_eq_true, Bool.not_eq_true']
        refine ⟨h0.1 (by omega), allowedR_of hl' (fun i o' b' h1 h2 h3 => ?_)⟩
        have := h (i + 1) o' b' (by simpa using h1) (by simpa using h2) h3
        rw [ne_succ, hq] at this
        simp only [Bool.false_eq_true, if_false] at this
        exact ⟨fun hk => this.1 (by omega), fun hk => by rw [show Nat.succ i0 + i = i0 + (i + 1) by omega]; exact this.2 (by omega)⟩
  | [], _ :: _, _, _, hl, _ => by simp at hl
  | _ :: _, [], _, _, hl, _ => by simp at hl

/-! the operations in the order of the text -/
structure Rec where
  T : Tr AV
  b : Bool
  ld : Bool
  av : AV
abbrev Hs := List (Hp × Nat)
/-- where the run of a region ends early -/
structure Pan where
  av : AV
  h : Hp
  c : Nat
abbrev DSeq := Tr AV → Hp → Nat → Option (List Rec × Hs × Tr AV × Option Pan)
def drawStep (P : Program) (I : Aux) (call : CallF) (nt : Nat) (ops : Array Oper) (o : Oper) (ih : DSeq) (T : Tr AV) (h : Hp) (c : Nat) : Option (List Rec × Hs × Tr AV × Option Pan) := match awanted ops T o with
    | none => none
    | some false => match tput nt T o.dst (.tup []) with
      | none => none
      | some T' => match ih T' h c with
        | none => none
        | some (rs, hs, Te, pn) => match quiet P o with
          | true => some (⟨T, false, false, .tup []⟩ :: rs, hs, Te, pn)
          | false => some (⟨T, false, false, .tup []⟩ :: rs, (h, c) :: hs, Te, pn)
    | some true => match quiet P o with
      | true => match evalPure P T o with
        | some av => match tput nt T o.dst av with
          | none => none
          | some T' => match ih T' h c with
            | none => none
            | some (rs, hs, Te, pn) => some (⟨T, true, false, av⟩ :: rs, hs, Te, pn)
        | none => match evalLoad P T h o with
          | none => none
          | some av => match tput nt T o.dst av with
            | none => none
            | some T' => match ih T' h c with
              | none => none
              | some (rs, hs, Te, pn) => some (⟨T, true, true, av⟩ :: rs, hs, Te, pn)
      | false => match evalEff P I call T h c o with
        | .val av h' c' => match tput nt T o.dst av with
          | none => none
          | some T' => match ih T' h' c' with
            | none => none
            | some (rs, hs, Te, pn) => some (⟨T, true, false, av⟩ :: rs, (h, c) :: hs, Te, pn)
        | .pan av h' c' => some ([], [(h, c)], T, some ⟨av, h', c'⟩)
        | .fail => none
def drawSeq (P : Program) (I : Aux) (call : CallF) (nt : Nat) (ops : Array Oper) (l : List Oper) : DSeq :=
  List.rec (motive := fun _ => DSeq) (fun T h c => some ([], [(h, c)], T, none)) (fun o _ ih => drawStep P I call nt ops o ih) l
theorem drawSeq_nil (P : Program) (I : Aux) (call : CallF) (nt : Nat) (ops : Array Oper) (T : Tr AV) (h : Hp) (c : Nat) : drawSeq P I call nt ops [] T h c = some ([], [(h, c)], T, none) := rfl
theorem drawSeq_cons (P : Program) (I : Aux) (call : CallF) (nt : Nat) (ops : Array Oper) (o : Oper) (l : List Oper) (T : Tr AV) (h : Hp) (c : Nat) :
    drawSeq P I call nt ops (o :: l) T h c = drawStep P I call nt ops o (drawSeq P I call nt ops l) T h c := rfl
/-- what one operation's record says -/
def RecOk (P : Program) (I : Aux) (call : CallF) (ops : Array Oper) (o : Oper) (r : Rec) (hs : Hs) (k : Nat) : Prop :=
  awanted ops r.T o = some r.b ∧ ∃ hc, hs[k]? = some hc ∧
    ((r.b = false ∧ r.av = .tup [] ∧ (quiet P o = false → hs[k + 1]? = some hc)) ∨
     (r.b = true ∧ quiet P o = true ∧ (evalPure P r.T o = some r.av ∨ (r.ld = true ∧ evalLoad P r.T hc.1 o = some r.av))) ∨
     (r.b = true ∧ quiet P o = false ∧ ∃ hc', evalEff P I call r.T hc.1 hc.2 o = .val r.av hc'.1 hc'.2 ∧ hs[k + 1]? = some hc'))
def PanOk (P : Program) (I : Aux) (call : CallF) (ops : Array Oper) (l : List Oper) (rs : List Rec) (hs : Hs) (Te : Tr AV) : Option Pan → Prop
  | none => rs.length = l.length
  | some x => ∃ o hc, l[rs.length]? = some o ∧ quiet P o = false ∧ awanted ops Te o = some true ∧ hs.getLast? = some hc ∧ evalEff P I call Te hc.1 hc.2 o = .pan x.av x.h x.c
section
variable {P : Program} {I : Aux} {call : CallF} {ops : Array Oper} {l : List Oper} {rs : List Rec} {hs : Hs} {Te : Tr AV}
theorem PanOk.cons {pn : Option Pan} (o : Oper) (r : Rec) (h : PanOk P I call ops l rs hs Te pn) : PanOk P I call ops (o :: l) (r :: rs) hs Te pn := by
  cases pn with
  | none => exact congrArg Nat.succ h
  | some x =>
    obtain ⟨p, hc, h1, h2⟩ := h
    exact ⟨p, hc, by simpa using h1, h2⟩
theorem PanOk.up {pn : Option Pan} {y : Hp × Nat} (x : Hp × Nat) (h0 : hs[0]? = some y) (h : PanOk P I call ops l rs hs Te pn) : PanOk P I call ops l rs (x :: hs) Te pn := by
  cases pn with
  | none => exact h
  | some z =>
    obtain ⟨p, hc, h1, h2, h3, h4, h5⟩ := h
    refine ⟨p, hc, h1, h2, h3, ?_, h5⟩
    cases hs with
    | nil => simp at h0
    | cons a b => simpa using h4
end
theorem drawSeq_head {P : Program} {I : Aux} {call : CallF} {nt : Nat} {ops : Array Oper} : ∀ {l : List Oper} {T Te : Tr AV} {h : Hp} {c : Nat} {rs : List Rec} {hs : Hs} {pn : Option Pan}, drawSeq P I call nt ops l T h c = some (rs, hs, Te, pn) →
    hs[0]? = some (h, c) ∧ hs.length = ne P l rs.length + 1 ∧ PanOk P I call ops l rs hs Te pn
  | [], T, Te, h, c, rs, hs, pn, hd => by
    simp [drawSeq_nil] at hd
    obtain ⟨rfl, rfl, rfl, rfl⟩ := hd
    exact ⟨rfl, rfl, rfl⟩
  | o :: l, T, Te, h, c, rs, hs, pn, hd => by
    rw [drawSeq_cons] at hd
    unfold drawStep at hd
    split at hd <;> first | (cases hd; done) | skip
    · split at hd <;> first | (cases hd; done) | skip
      split at hd <;> first | (cases hd; done) | skip
      rename_i rs' hs' Te' pn' he
      obtain ⟨h1, h2, h3⟩ := drawSeq_head he
      split at hd
      · rename_i hq
        injection hd with hd
        injection hd with e1 hd
        injection hd with e2 hd
        injection hd with e3 e4
        subst e1 e2 e3 e4
        exact ⟨h1, by rw [List.length_cons, ne_succ, hq, h2]; simp, h3.cons _ _⟩
      · rename_i hq
        injection hd with hd
        injection hd with e1 hd
        injection hd with e2 hd
        injection hd with e3 e4
        subst e1 e2 e3 e4
        exact ⟨rfl, by rw [List.length_cons, List.length_cons, ne_succ, hq, h2]; simp, (h3.up _ h1).cons _ _⟩
    · rename_i hw
      split at hd
      · rename_i hq
        split at hd
        · split at hd <;> first | (cases hd; done) | skip
          split at hd <;> first | (cases hd; done) | skip
          rename_i rs' hs' Te' pn' he
          obtain ⟨h1, h2, h3⟩ := drawSeq_head he
          injection hd with hd
          injection hd with e1 hd
          injection hd with e2 hd
          injection hd with e3 e4
          subst e1 e2 e3 e4
          exact ⟨h1, by rw [List.length_cons, ne_succ, hq, h2]; simp, h3.cons _ _⟩
        · split at hd <;> first | (cases hd; done) | skip
          split at hd <;> first | (cases hd; done) | skip
          split at hd <;> first | (cases hd; done) | skip
          rename_i rs' hs' Te' pn' he
          obtain ⟨h1, h2, h3⟩ := drawSeq_head he
          injection hd with hd
          injection hd with e1 hd
          injection hd with e2 hd
          injection hd with e3 e4
          subst e1 e2 e3 e4
          exact ⟨h1, by rw [List.length_cons, ne_succ, hq, h2]; simp, h3.cons _ _⟩
      · rename_i hq
        split at hd <;> first | (cases hd; done) | skip
        · split at hd <;> first | (cases hd; done) | skip
          split at hd <;> first | (cases hd; done) | skip
          rename_i rs' hs' Te' pn' he
          obtain ⟨h1, h2, h3⟩ := drawSeq_head he
          injection hd with hd
          injection hd with e1 hd
          injection hd with e2 hd
          injection hd with e3 e4
          subst e1 e2 e3 e4
          exact ⟨rfl, by rw [List.length_cons, List.length_cons, ne_succ, hq, h2]; simp, (h3.up _ h1).cons _ _⟩
        · rename_i av h' c' hev
          injection hd with hd
          injection hd with e1 hd
          injection hd with e2 hd
          injection hd with e3 e4
          subst e1 e2 e3 e4
          exact ⟨rfl, rfl, o, (h, c), rfl, hq, hw, rfl, hev⟩
end Go.Sy
