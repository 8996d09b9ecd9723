/- A list of calls ('[]Act') among a statement's arguments, read as a list of pairs of numbers. No conditions. -/
import Derived.Test.YtlfpkepgamnidaaRows
import Derived.Test.YtlfpkepgamnidaaFrame
namespace Go.Proofs.Ytlfpkepgamnidaa
open Go.RowKit Go.As Go.WideShapes Go.ChangeShapes
set_option linter.unusedVariables false

/-- the cells of a list of calls -/
def actCells (l : List (Int × Int)) : List Value := l.flatMap fun p => [.int .i64 p.1, .int .i64 p.2]
theorem actCells_len (l : List (Int × Int)) : (actCells l).length = l.length * 2 := by
  induction l with
  | nil => rfl
  | cons p r ih => rw [actCells, List.flatMap_cons, List.length_append, ← actCells, ih]; simp; omega
theorem actCells_at {l : List (Int × Int)} {k : Nat} {p : Int × Int} (h : l[k]? = some p) : (actCells l)[k * 2]? = some (.int .i64 p.1) ∧ (actCells l)[k * 2 + 1]? = some (.int .i64 p.2) := by
  induction l generalizing k with
  | nil => simp at h
  | cons q r ih =>
    cases k with
    | zero => simp at h; subst h; simp [actCells]
    | succ k =>
      have := ih (k := k) (by simpa using h)
      rw [show (k + 1) * 2 = k * 2 + 2 by omega]
      simpa [actCells] using this

/-- a list of calls, as the statements take it -/
def ActsAt (w : World) (x : Option Addr × Nat × Nat × List (Int × Int)) : Prop := x.2.2.2.length = x.2.1 ∧ x.2.1 ≤ maxLen ∧ Sl w 2 x.1 x.2.1 (actCells x.2.2.2)

theorem acts_open {H : Type} {enc : TypeId × Value → H} {w : World} {base : Nat} {v : Value} {d : DataW H} {ps : List MemPlace}
    (hval : Value.okWide Try.prog w .any base 44 v) (hd : DataW.Trod enc Try.prog w 0 (fun _ => true) true 44 v d ps) (_ : ∀ x ∈ ps, x.block < w.heap.size) :
    ∃ x : Option Addr × Nat × Nat × List (Int × Int), v = .slice x.1 x.2.1 x.2.2.1 ∧ ActsAt w x := by
  have hcell : Try.prog.cellsOf 51 = 2 := by kernel_rfl
  have hint : Try.prog.cellsOf 3 = 1 := by kernel_rfl
  obtain ⟨a, n, c, xs, rfl, h1, h2, h3, -, h5⟩ := open_list (α := Int × Int) (fun p => [.int .i64 p.1, .int .i64 p.2]) (fun _ => True) Try.underlying44 (by rw [hcell]; omega) (by
    intro n cs z h
    obtain ⟨ys, m, -, -, hlen, hyl, hf⟩ := DataW.trod_struct Try.underlying51 h
    rw [hcell] at hlen
    match cs, hlen with
    | [c0, c1], _ =>
      match ys, hyl with
      | [y0, y1], _ =>
        have f0 := hf 0 _ rfl
        have f1 := hf 1 _ rfl
        change DataW.trod enc Try.prog w 0 _ _ m 3 (([c0, c1].drop 0).take (Try.prog.cellsOf 3)) = some y0 at f0
        change DataW.trod enc Try.prog w 0 _ _ m 3 (([c0, c1].drop 1).take (Try.prog.cellsOf 3)) = some y1 at f1
        rw [hint] at f0 f1
        obtain ⟨n0, e0, -, -⟩ := DataW.trod_int Try.underlying3 f0
        obtain ⟨n1, e1, -, -⟩ := DataW.trod_int Try.underlying3 f1
        simp at e0 e1
        subst e0 e1
        exact ⟨(n0, n1), rfl, trivial⟩) hval hd
  rw [hcell] at h5
  exact ⟨(a, n, c, xs), rfl, h1, Nat.le_trans h2 h3, h5⟩

end Go.Proofs.Ytlfpkepgamnidaa
