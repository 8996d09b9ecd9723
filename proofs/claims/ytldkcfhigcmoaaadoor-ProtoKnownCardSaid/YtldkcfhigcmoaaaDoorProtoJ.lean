/- A job by value: how an argument of that type is opened, and how two are compared. Conditions: those in each theorem. -/
import Derived.Test.YtldkcfhigcmoaaaDoorProtoM
import Derived.Test.YtldkcfhigcmoaaaDoorOpen
import Derived.Test.YtldkcfhigcmoaaaDoorBnd
import Derived.Lib.SmallJoins
import Derived.Laws.StructEq
namespace Go.Proofs.YtldkcfhigcmoaaaDoor
open Go.RowKit Go.As
open Go.ChangeShapes Go.WideShapes Go.ChangeAt
set_option linter.unusedVariables false

abbrev JArg := Int × Int × Int × Int × Int × Int × Int × Int
def JOk (x : JArg) : Prop := I64 x.1 ∧ I64 x.2.1 ∧ I64 x.2.2.1 ∧ I64 x.2.2.2.1 ∧ I64 x.2.2.2.2.1 ∧ I64 x.2.2.2.2.2.1 ∧ I64 x.2.2.2.2.2.2.1 ∧ I64 x.2.2.2.2.2.2.2
theorem array8 {α : Type} {cs : Array α} (h : cs.size = 8) : ∃ c0 c1 c2 c3 c4 c5 c6 c7, cs = #[c0, c1, c2, c3, c4, c5, c6, c7] := by
  obtain ⟨l⟩ := cs
  match l, h with
  | [c0, c1, c2, c3, c4, c5, c6, c7], _ => exact ⟨c0, c1, c2, c3, c4, c5, c6, c7, rfl⟩
theorem i64_wf {n : Int} (h : (Lit.int .i64 n).wf = true) : I64 n := i64_bnd h
variable {H : Type} {enc : TypeId × Value → H} {w : World} {v : Value} {d : DataW H} {ps : List MemPlace} {base : Nat}
set_option maxRecDepth 100000 in
theorem job_open (hval : Value.okWide Tryd.prog w .any base 53 v) (hd : DataW.Trod enc Tryd.prog w 0 (fun _ => true) true 53 v d ps) (_ : ∀ x ∈ ps, x.block < w.heap.size) :
    ∃ x : JArg, v = .agg (jobC x.1 x.2.1 x.2.2.1 x.2.2.2.1 x.2.2.2.2.1 x.2.2.2.2.2.1 x.2.2.2.2.2.2.1 x.2.2.2.2.2.2.2) ∧ JOk x := by
  have hs := Tryd.underlying53
  have hcell : Tryd.prog.cellsOf 3 = 1 := by kernel_rfl
  obtain ⟨cs, rfl, hsz⟩ := okWide_struct hs hval
  have h8 : Tryd.prog.cellsOf 53 = 8 := by kernel_rfl
  obtain ⟨c0, c1, c2, c3, c4, c5, c6, c7, rfl⟩ := array8 (hsz.trans h8)
  obtain ⟨fuel, hf⟩ := hd
  obtain ⟨xs, n, -, -, -, hlen, hfs⟩ := DataW.trod_struct hs hf
  have key : ∀ (i : Nat) (f : Field) (c : Value), i < xs.length → (∀ y, DataW.trod enc Tryd.prog w 0 (fun _ => true) true n 3 [c] = some y → ∃ m, c = .int .i64 m ∧ I64 m) := by
    intro i f c hi y hy
    obtain ⟨m, hm, -, hw⟩ := DataW.trod_int Tryd.underlying3 hy
    simp at hm
    exact ⟨m, hm, i64_wf hw⟩
  have hx : ∀ i, i < 8 → ∃ y, xs[i]? = some y := fun i hi => ⟨_, List.getElem?_eq_getElem (by rw [hlen]; exact hi)⟩
  have g0 : DataW.trod enc Tryd.prog w 0 (fun _ => true) true n 3 [c0] = xs[0]? := by
    have := hfs 0 _ rfl
    simpa [Value.cells, hcell] using this
  have g1 : DataW.trod enc Tryd.prog w 0 (fun _ => true) true n 3 [c1] = xs[1]? := by
    have := hfs 1 _ rfl
    simpa [Value.cells, hcell] using this
  have g2 : DataW.trod enc Tryd.prog w 0 (fun _ => true) true n 3 [c2] = xs[2]? := by
    have := hfs 2 _ rfl
    simpa [Value.cells, hcell] using this
  have g3 : DataW.trod enc Tryd.prog w 0 (fun _ => true) true n 3 [c3] = xs[3]? := by
    have := hfs 3 _ rfl
    simpa [Value.cells, hcell] using this
  have g4 : DataW.trod enc Tryd.prog w 0 (fun _ => true) true n 3 [c4] = xs[4]? := by
    have := hfs 4 _ rfl
    simpa [Value.cells, hcell] using this
  have g5 : DataW.trod enc Tryd.prog w 0 (fun _ => true) true n 3 [c5] = xs[5]? := by
    have := hfs 5 _ rfl
    simpa [Value.cells, hcell] using this
  have g6 : DataW.trod enc Tryd.prog w 0 (fun _ => true) true n 3 [c6] = xs[6]? := by
    have := hfs 6 _ rfl
    simpa [Value.cells, hcell] using this
  have g7 : DataW.trod enc Tryd.prog w 0 (fun _ => true) true n 3 [c7] = xs[7]? := by
    have := hfs 7 _ rfl
    simpa [Value.cells, hcell] using this
  obtain ⟨y0, e0⟩ := hx 0 (by omega)
  obtain ⟨y1, e1⟩ := hx 1 (by omega)
  obtain ⟨y2, e2⟩ := hx 2 (by omega)
  obtain ⟨y3, e3⟩ := hx 3 (by omega)
  obtain ⟨y4, e4⟩ := hx 4 (by omega)
  obtain ⟨y5, e5⟩ := hx 5 (by omega)
  obtain ⟨y6, e6⟩ := hx 6 (by omega)
  obtain ⟨y7, e7⟩ := hx 7 (by omega)
  obtain ⟨m0, rfl, k0⟩ := key 0 default c0 (by rw [hlen]; decide) y0 (by rw [← e0]; exact g0)
  obtain ⟨m1, rfl, k1⟩ := key 0 default c1 (by rw [hlen]; decide) y1 (by rw [← e1]; exact g1)
  obtain ⟨m2, rfl, k2⟩ := key 0 default c2 (by rw [hlen]; decide) y2 (by rw [← e2]; exact g2)
  obtain ⟨m3, rfl, k3⟩ := key 0 default c3 (by rw [hlen]; decide) y3 (by rw [← e3]; exact g3)
  obtain ⟨m4, rfl, k4⟩ := key 0 default c4 (by rw [hlen]; decide) y4 (by rw [← e4]; exact g4)
  obtain ⟨m5, rfl, k5⟩ := key 0 default c5 (by rw [hlen]; decide) y5 (by rw [← e5]; exact g5)
  obtain ⟨m6, rfl, k6⟩ := key 0 default c6 (by rw [hlen]; decide) y6 (by rw [← e6]; exact g6)
  obtain ⟨m7, rfl, k7⟩ := key 0 default c7 (by rw [hlen]; decide) y7 (by rw [← e7]; exact g7)
  exact ⟨(m0, m1, m2, m3, m4, m5, m6, m7), rfl, k0, k1, k2, k3, k4, k5, k6, k7⟩

theorem jobGuard : Tryd.prog.eqGuardType Tryd.prog.depth 53 = false := by kernel_rfl
def jEq (a b c d e f g h a' b' c' d' e' f' g' h' : Int) : Bool := a == a' && (b == b' && (c == c' && (d == d' && (e == e' && (f == f' && (g == g' && h == h'))))))
theorem jEq_self (a b c d e f g h : Int) : jEq a b c d e f g h a b c d e f g h = true := by simp [jEq]
theorem run_eqi_job (a b c d e f g h a' b' c' d' e' f' g' h' : Int) (w : World) :
    (Op.equalIn 10000 53 (.agg (jobC a b c d e f g h)) (.agg (jobC a' b' c' d' e' f' g' h'))).run Tryd.prog w = .ok (jEq a b c d e f g h a' b' c' d' e' f' g' h') w := by
  have h0 : Tryd.prog.underlying 53 = some (.struct (Tryd.prog.fieldsOf 53)) := by rw [Program.fieldsOf, Tryd.underlying53]
  rw [run_equalIn_agg w 9999 _ _ _ h0 (by kernel_rfl)]
  have hi := fun x y : Int => run_equalIn_int (P := Tryd.prog) w 9998 3 .i64 .i64 x y Tryd.underlying3
  rw [Program.fieldsOf, Tryd.underlying53]
  unfold jobC jEq
  go_simp
  (repeat' split) <;> simp_all
theorem rjJ_form (s : List UInt8) : ∃ a b c d e f g h, rjJ s = jobC a b c d e f g h ∧ I64 a ∧ I64 d ∧ I64 e ∧ I64 f ∧ I64 g ∧ I64 h := by
  have hx : ∀ i m, I64 (rjX s i m) := fun i m => by have := rdE_lo (wd (JWS s) i) m; unfold I64 rjX; omega
  have h0 : I64 0 := by unfold I64; omega
  unfold rjJ
  split
  · exact ⟨_, _, _, _, _, _, _, _, rfl, hx _ _, hx _ _, hx _ _, hx _ _, hx _ _, hx _ _⟩
  · exact ⟨_, _, _, _, _, _, _, _, rfl, h0, h0, h0, h0, h0, h0⟩
end Go.Proofs.YtldkcfhigcmoaaaDoor
