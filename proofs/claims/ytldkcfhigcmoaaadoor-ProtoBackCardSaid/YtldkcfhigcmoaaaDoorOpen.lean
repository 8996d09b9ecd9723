/- A statement's arguments read as lists: bytes, texts, numbers, lists of bytes. No conditions. -/
import Derived.Test.YtldkcfhigcmoaaaDoorRows
import Derived.Test.YtldkcfhigcmoaaaDoorFrame
import Derived.Test.YtldkcfhigcmoaaaDoorBytes
namespace Go.As
open Go Go.RowKit Go.WideShapes Go.ChangeShapes
set_option linter.unusedVariables false
section
variable {H : Type} {enc : TypeId × Value → H} {P : Program}
/-- a slice's cells, wherever they lie, read as a list -/
theorem open_cells {α : Type} {w : World} {held : Bool} {t e : TypeId} {fuel : Nat} {cs : List Value} {z : DataW H × List MemPlace} (cells : α → List Value) (R : α → Prop)
    (ht : P.underlying t = some (.slice e)) (hc : 0 < P.cellsOf e)
    (hdec : ∀ n cs z, DataW.trod enc P w 0 (fun _ => true) held n e cs = some z → ∃ x, cs = cells x ∧ R x)
    (hf : DataW.trod enc P w 0 (fun _ => true) held fuel t cs = some z) :
    ∃ (a : Option Addr) (n c : Nat) (xs : List α), cs = [.slice a n c] ∧ xs.length = n ∧ n ≤ c ∧ c ≤ maxLen ∧ (a = none → c = 0) ∧ (∀ x ∈ xs, R x) ∧ Sl w (P.cellsOf e) a n (xs.flatMap cells) := by
  rcases Go.Deep.open_slice ht hf with ⟨hcs, -⟩ | ⟨a, len, cap, m, n, D, Pl, hcs, -, hl, hm, hmm, -, hi⟩
  · exact ⟨none, 0, 0, [], hcs, rfl, Nat.le_refl _, by simp [maxLen], fun _ => rfl, by simp, Sl.empty _ _ _⟩
  · simp only [if_true] at hmm
    subst hmm
    have key : ∀ k, k ≤ len → ∃ xs : List α, xs.length = k ∧ (∀ x ∈ xs, R x) ∧ (xs.flatMap cells).length = k * P.cellsOf e ∧ ∀ j u, (xs.flatMap cells)[j]? = some u → w.cell? (a.add j) = some u := by
      intro k
      induction k with
      | zero => intro _; exact ⟨[], rfl, by simp, by simp, by simp⟩
      | succ k ih =>
        intro hk
        obtain ⟨xs, hx1, hx2, hx3, hx4⟩ := ih (by omega)
        obtain ⟨cs', hc1, hc2⟩ := hi k (by omega)
        obtain ⟨-, hcl, hat⟩ := World.cells?_some hc1
        obtain ⟨x, rfl, hx⟩ := hdec _ _ _ hc2
        refine ⟨xs ++ [x], by simp [hx1], ?_, ?_, ?_⟩
        · intro y hy
          simp at hy
          rcases hy with hy | rfl
          · exact hx2 y hy
          · exact hx
        · simp [hx3, hcl, Nat.add_mul]
        · intro j u hu
          simp only [List.flatMap_append, List.flatMap_cons, List.flatMap_nil, List.append_nil] at hu
          rcases Nat.lt_or_ge j (k * P.cellsOf e) with hj | hj
          · rw [List.getElem?_append_left (by omega)] at hu
            exact hx4 j u hu
          · rw [List.getElem?_append_right (by omega), hx3] at hu
            have hj2 : j - k * P.cellsOf e < P.cellsOf e := by
              have := (List.getElem?_eq_some_iff.1 hu).1
              omega
            have := hat _ hj2
            rw [add_add', show k * P.cellsOf e + (j - k * P.cellsOf e) = j by omega] at this
            rw [this, hu]
    obtain ⟨xs, hx1, hx2, hx3, hx4⟩ := key len (Nat.le_refl _)
    refine ⟨some a, _, _, xs, hcs, hx1, hl, hm, by simp, hx2, hx3, fun hn => ⟨a, rfl, ?_, hx4⟩⟩
    have hpos : 0 < (xs.flatMap cells).length := by rw [hx3]; exact Nat.mul_pos hn hc
    have := World.block_lt_of_cell? w _ (hx4 0 _ (List.getElem?_eq_getElem hpos))
    rwa [blk_add] at this
/-- an argument that is a slice -/
theorem open_arg {α : Type} {w : World} {base : Nat} {held : Bool} {t e : TypeId} {v : Value} {d : DataW H} {ps : List MemPlace} (cells : α → List Value) (R : α → Prop)
    (ht : P.underlying t = some (.slice e)) (hc : 0 < P.cellsOf e)
    (hdec : ∀ n cs z, DataW.trod enc P w 0 (fun _ => true) held n e cs = some z → ∃ x, cs = cells x ∧ R x)
    (hval : Value.okWide P w .any base t v) (hd : DataW.Trod enc P w 0 (fun _ => true) held t v d ps) :
    ∃ (a : Option Addr) (n c : Nat) (xs : List α), v = .slice a n c ∧ xs.length = n ∧ n ≤ c ∧ c ≤ maxLen ∧ (a = none → c = 0) ∧ (∀ x ∈ xs, R x) ∧ Sl w (P.cellsOf e) a n (xs.flatMap cells) := by
  obtain ⟨a0, len, cap, rfl⟩ := okWide_slice ht hval
  obtain ⟨fuel, hf⟩ := hd
  obtain ⟨a, n, c, xs, hcs, h⟩ := open_cells cells R ht hc hdec hf
  have : Value.slice a0 len cap = .slice a n c := by simpa [Value.cells] using hcs
  exact ⟨a, n, c, xs, this, h⟩
end
/-- bytes: an address, a length, room, the bytes -/
abbrev BArg := Option Addr × Nat × Nat × List UInt8
def BytAt (w : World) (x : BArg) : Prop := x.2.2.2.length = x.2.1 ∧ x.2.1 ≤ x.2.2.1 ∧ x.2.2.1 ≤ maxLen ∧ (x.1 = none → x.2.2.1 = 0) ∧ Sl w 1 x.1 x.2.1 (byt x.2.2.2)
def bargC (x : BArg) : List Value := [.slice x.1 x.2.1 x.2.2.1]
theorem flat_byt (l : List UInt8) : (l.flatMap fun b => [Value.int .u8 (b.toNat : Int)]) = byt l := by
  induction l with
  | nil => rfl
  | cons b r ih => simp [byt] at ih ⊢; exact ih
/-- texts -/
abbrev SArg := Option Addr × Nat × Nat × List (List UInt8)
def strC (l : List UInt8) : List Value := [.string (str l)]
def StrsAt (w : World) (x : SArg) : Prop := x.2.2.2.length = x.2.1 ∧ x.2.1 ≤ x.2.2.1 ∧ x.2.2.1 ≤ maxLen ∧ (x.1 = none → x.2.2.1 = 0) ∧ (∀ l ∈ x.2.2.2, l.length ≤ maxLen) ∧ Sl w 1 x.1 x.2.1 (x.2.2.2.flatMap strC)
/-- numbers -/
abbrev IArg := Option Addr × Nat × Nat × List Int
def IntsAt (w : World) (x : IArg) : Prop := x.2.2.2.length = x.2.1 ∧ x.2.1 ≤ x.2.2.1 ∧ x.2.2.1 ≤ maxLen ∧ (x.1 = none → x.2.2.1 = 0) ∧ (∀ i ∈ x.2.2.2, (Lit.int .i64 i).wf = true) ∧ Sl w 1 x.1 x.2.1 (x.2.2.2.map (Value.int .i64))
/-- lists of bytes -/
abbrev BBArg := Option Addr × Nat × Nat × List BArg
def BytsAt (w : World) (x : BBArg) : Prop := x.2.2.2.length = x.2.1 ∧ x.2.1 ≤ x.2.2.1 ∧ x.2.2.1 ≤ maxLen ∧ (x.1 = none → x.2.2.1 = 0) ∧ (∀ p ∈ x.2.2.2, BytAt w p) ∧ Sl w 1 x.1 x.2.1 (x.2.2.2.flatMap bargC)
end Go.As
namespace Go.Proofs.YtldkcfhigcmoaaaDoor
open Go.RowKit Go.As Go.WideShapes Go.ChangeShapes
set_option linter.unusedVariables false
variable {H : Type} {enc : TypeId × Value → H} {w : World} {base : Nat} {v : Value} {d : DataW H} {ps : List MemPlace}

set_option maxRecDepth 100000 in
theorem byte_dec {held : Bool} : ∀ n cs (z : DataW H × List MemPlace), DataW.trod enc Tryd.prog w 0 (fun _ => true) held n 5 cs = some z → ∃ b : UInt8, cs = [Value.int .u8 (b.toNat : Int)] ∧ True := by
  intro n cs z h
  obtain ⟨i, rfl, -, hw⟩ := DataW.trod_int Tryd.underlying5 h
  have hb : 0 ≤ i ∧ i < 256 := by
    have := hw
    simp only [Lit.wf, decide_eq_true_eq, Bool.and_eq_true] at this
    have h1 : IntKind.u8.min = 0 := by decide
    have h2 : IntKind.u8.max = 255 := by decide
    omega
  refine ⟨UInt8.ofNat i.toNat, ?_, trivial⟩
  have : ((UInt8.ofNat i.toNat).toNat : Int) = i := by
    rw [UInt8.toNat_ofNat']; omega
  rw [this]
set_option maxRecDepth 100000 in
theorem bytes_dec {held : Bool} : ∀ n cs (z : DataW H × List MemPlace), DataW.trod enc Tryd.prog w 0 (fun _ => true) held n 23 cs = some z → ∃ x : BArg, cs = bargC x ∧ BytAt w x := by
  intro n cs z h
  have hcell : Tryd.prog.cellsOf 5 = 1 := by kernel_rfl
  obtain ⟨a, n, c, xs, rfl, h1, h2, h3, h4, -, h5⟩ := open_cells (α := UInt8) (fun b => [Value.int .u8 (b.toNat : Int)]) (fun _ => True) Tryd.underlying23 (by rw [hcell]; omega) byte_dec h
  rw [hcell, flat_byt] at h5
  exact ⟨(a, n, c, xs), rfl, h1, h2, h3, h4, h5⟩
set_option maxRecDepth 100000 in
theorem bytes_open (hval : Value.okWide Tryd.prog w .any base 23 v) (hd : DataW.Trod enc Tryd.prog w 0 (fun _ => true) true 23 v d ps) (_ : ∀ x ∈ ps, x.block < w.heap.size) :
    ∃ x : BArg, v = .slice x.1 x.2.1 x.2.2.1 ∧ BytAt w x := by
  have hcell : Tryd.prog.cellsOf 5 = 1 := by kernel_rfl
  obtain ⟨a, n, c, xs, rfl, h1, h2, h3, h4, -, h5⟩ := open_arg (α := UInt8) (fun b => [Value.int .u8 (b.toNat : Int)]) (fun _ => True) Tryd.underlying23 (by rw [hcell]; omega) byte_dec hval hd
  rw [hcell, flat_byt] at h5
  exact ⟨(a, n, c, xs), rfl, h1, h2, h3, h4, h5⟩
end Go.Proofs.YtldkcfhigcmoaaaDoor
