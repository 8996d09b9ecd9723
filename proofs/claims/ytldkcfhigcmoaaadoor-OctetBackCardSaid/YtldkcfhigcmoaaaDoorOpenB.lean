/- Lists of numbers, of texts and of bytes among a statement's arguments. No conditions. -/
import Derived.Test.YtldkcfhigcmoaaaDoorOpen
namespace Go.Proofs.YtldkcfhigcmoaaaDoor
open Go.RowKit Go.As Go.WideShapes Go.ChangeShapes
set_option linter.unusedVariables false
variable {H : Type} {enc : TypeId × Value → H} {w : World} {base : Nat} {v : Value} {d : DataW H} {ps : List MemPlace}
set_option maxRecDepth 100000 in
theorem bytess_open (hval : Value.okWide Tryd.prog w .any base 47 v) (hd : DataW.Trod enc Tryd.prog w 0 (fun _ => true) true 47 v d ps) (_ : ∀ x ∈ ps, x.block < w.heap.size) :
    ∃ x : BBArg, v = .slice x.1 x.2.1 x.2.2.1 ∧ BytsAt w x := by
  have hcell : Tryd.prog.cellsOf 23 = 1 := by kernel_rfl
  obtain ⟨a, n, c, xs, rfl, h1, h2, h3, h4, h5, h6⟩ := open_arg (α := BArg) bargC (BytAt w) Tryd.underlying47 (by rw [hcell]; omega) bytes_dec hval hd
  rw [hcell] at h6
  exact ⟨(a, n, c, xs), rfl, h1, h2, h3, h4, h5, h6⟩
set_option maxRecDepth 100000 in
theorem strs_open (hval : Value.okWide Tryd.prog w .any base 62 v) (hd : DataW.Trod enc Tryd.prog w 0 (fun _ => true) true 62 v d ps) (_ : ∀ x ∈ ps, x.block < w.heap.size) :
    ∃ x : SArg, v = .slice x.1 x.2.1 x.2.2.1 ∧ StrsAt w x := by
  have hcell : Tryd.prog.cellsOf 9 = 1 := by kernel_rfl
  obtain ⟨a, n, c, xs, rfl, h1, h2, h3, h4, h5, h6⟩ := open_arg (α := List UInt8) strC (fun l => l.length ≤ maxLen) Tryd.underlying62 (by rw [hcell]; omega) (by
    intro n cs z h
    obtain ⟨s, rfl, -, hw⟩ := DataW.trod_string Tryd.underlying9 h
    obtain ⟨l, rfl⟩ := exists_str s
    rw [str_size] at hw
    exact ⟨l, rfl, hw⟩) hval hd
  rw [hcell] at h6
  exact ⟨(a, n, c, xs), rfl, h1, h2, h3, h4, h5, h6⟩
set_option maxRecDepth 100000 in
theorem ints_open (hval : Value.okWide Tryd.prog w .any base 86 v) (hd : DataW.Trod enc Tryd.prog w 0 (fun _ => true) true 86 v d ps) (_ : ∀ x ∈ ps, x.block < w.heap.size) :
    ∃ x : IArg, v = .slice x.1 x.2.1 x.2.2.1 ∧ IntsAt w x := by
  have hcell : Tryd.prog.cellsOf 3 = 1 := by kernel_rfl
  obtain ⟨a, n, c, xs, rfl, h1, h2, h3, h4, h5, h6⟩ := open_arg (α := Int) (fun i => [Value.int .i64 i]) (fun i => (Lit.int .i64 i).wf = true) Tryd.underlying86 (by rw [hcell]; omega) (by
    intro n cs z h
    obtain ⟨i, rfl, -, hw⟩ := DataW.trod_int Tryd.underlying3 h
    exact ⟨i, rfl, hw⟩) hval hd
  rw [hcell] at h6
  have h7 : (xs.flatMap fun i => [Value.int .i64 i]) = xs.map (Value.int .i64) := by
    clear h1 h2 h3 h4 h5 h6
    induction xs with
    | nil => rfl
    | cons b r ih => simp at ih ⊢; exact ih
  rw [h7] at h6
  exact ⟨(a, n, c, xs), rfl, h1, h2, h3, h4, h5, h6⟩
end Go.Proofs.YtldkcfhigcmoaaaDoor
