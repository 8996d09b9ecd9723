/- A list of calls ('[]Act') of a buffer among a statement's arguments, read as a list of triples. No conditions. -/
import Derived.Test.YtnkbjjnopbmfnaaRows
import Derived.Test.YtnkbjjnopbmfnaaFrame
namespace Go.As
open Go
theorem flat_at {α : Type} (cells : α → List Value) (sz : Nat) (hc : ∀ x, (cells x).length = sz) {l : List α} {k : Nat} {x : α} (h : l[k]? = some x) (j : Nat) (hj : j < sz) : (l.flatMap cells)[k * sz + j]? = (cells x)[j]? := by
  induction l generalizing k with
  | nil => simp at h
  | cons q r ih =>
    rw [List.flatMap_cons]
    cases k with
    | zero =>
      simp at h; subst h
      rw [Nat.zero_mul, Nat.zero_add, List.getElem?_append_left (by rw [hc]; exact hj)]
    | succ k =>
      have := ih (k := k) (by simpa using h)
      rw [show (k + 1) * sz + j = sz + (k * sz + j) by rw [Nat.add_mul]; omega, List.getElem?_append_right (by rw [hc]; omega), hc, Nat.add_sub_cancel_left]
      exact this
end Go.As
namespace Go.Proofs.Ytnkbjjnopbmfnaa
open Go.RowKit Go.As Go.WideShapes Go.ChangeShapes
set_option linter.unusedVariables false

/-- the cells of one call -/
def oactC (p : Int × List UInt8 × Int) : List Value := [.int .i64 p.1, .string (str p.2.1), .int .i64 p.2.2]
theorem oactC_len (p : Int × List UInt8 × Int) : (oactC p).length = 3 := rfl
/-- its line fits in memory -/
def oactR (p : Int × List UInt8 × Int) : Prop := p.2.1.length ≤ maxLen
theorem oactR_mk (n : Int) (l : List UInt8) (m : Int) (h : l.length ≤ maxLen) : oactR (n, l, m) := h
/-- a list of calls, as the statements take it -/
def OActsAt (w : World) (x : Option Addr × Nat × Nat × List (Int × List UInt8 × Int)) : Prop :=
  x.2.2.2.length = x.2.1 ∧ x.2.1 ≤ maxLen ∧ (∀ p ∈ x.2.2.2, oactR p) ∧ Sl w 3 x.1 x.2.1 (x.2.2.2.flatMap oactC)

set_option maxRecDepth 100000 in
theorem oacts_open {H : Type} {enc : TypeId × Value → H} {w : World} {base : Nat} {v : Value} {d : DataW H} {ps : List MemPlace}
    (hval : Value.okWide Try.prog w .any base 22 v) (hd : DataW.Trod enc Try.prog w 0 (fun _ => true) true 22 v d ps) (_ : ∀ x ∈ ps, x.block < w.heap.size) :
    ∃ x : Option Addr × Nat × Nat × List (Int × List UInt8 × Int), v = .slice x.1 x.2.1 x.2.2.1 ∧ OActsAt w x := by
  have hcell : Try.prog.cellsOf 31 = 3 := by kernel_rfl
  have hint : Try.prog.cellsOf 3 = 1 := by kernel_rfl
  have hstr : Try.prog.cellsOf 9 = 1 := by kernel_rfl
  obtain ⟨a, n, c, xs, rfl, h1, h2, h3, h4, h5⟩ := open_list (α := Int × List UInt8 × Int) oactC oactR Try.underlying22 (by rw [hcell]; omega) (by
    intro n cs z h
    obtain ⟨ys, m, -, -, hlen, hyl, hf⟩ := DataW.trod_struct Try.underlying31 h
    rw [hcell] at hlen
    match cs, hlen with
    | [c0, c1, c2], _ =>
      match ys, hyl with
      | [y0, y1, y2], _ =>
        have f0 := hf 0 _ rfl
        have f1 := hf 1 _ rfl
        have f2 := hf 2 _ rfl
        change DataW.trod enc Try.prog w 0 _ _ m 3 (([c0, c1, c2].drop 0).take (Try.prog.cellsOf 3)) = some y0 at f0
        change DataW.trod enc Try.prog w 0 _ _ m 9 (([c0, c1, c2].drop 1).take (Try.prog.cellsOf 9)) = some y1 at f1
        change DataW.trod enc Try.prog w 0 _ _ m 3 (([c0, c1, c2].drop 2).take (Try.prog.cellsOf 3)) = some y2 at f2
        rw [hint] at f0 f2
        rw [hstr] at f1
        obtain ⟨n0, e0, -, -⟩ := DataW.trod_int Try.underlying3 f0
        obtain ⟨s1, e1, -, l1⟩ := DataW.trod_string Try.underlying9 f1
        obtain ⟨n2, e2, -, -⟩ := DataW.trod_int Try.underlying3 f2
        obtain ⟨l, rfl⟩ := exists_str s1
        have l2 : l.length ≤ maxLen := by rw [str_size] at l1; exact l1
        clear l1
        simp only [List.drop_zero, List.drop_succ_cons, List.take_succ_cons, List.take_zero, List.cons.injEq, and_true] at e0 e1 e2
        subst e0 e1 e2
        exact ⟨(n0, l, n2), rfl, oactR_mk _ _ _ l2⟩) hval hd
  rw [hcell] at h5
  exact ⟨(a, n, c, xs), rfl, h1, Nat.le_trans h2 h3, h4, h5⟩

end Go.Proofs.Ytnkbjjnopbmfnaa
