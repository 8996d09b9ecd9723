/- What the chapter's awake answers. Conditions: those in the theorem. -/
import Derived.Test.YtldkcfhigcmoaaaDoorProtoQ
import Derived.Test.YtldkcfhigcmoaaaDoorBytFn
import Derived.Test.YtldkcfhigcmoaaaDoorOAwake
namespace Go.Proofs.YtldkcfhigcmoaaaDoor
open Go.RowKit Go.As
set_option linter.unusedVariables false

theorem prE_submit : prE [83, 85, 66, 77, 73, 84, 32, 49, 48, 48, 32, 53, 48, 32, 51] = ⟨2, [], 0, 100, 50, 3, 0⟩ := by kernel_rfl
theorem prE_auth : prE [65, 85, 84, 72, 32, 48, 49, 102, 102] = ⟨1, [1, 255], 0, 0, 0, 0, 0⟩ := by kernel_rfl

def RqAt (W : World) (g : Nat) (k : Int) (tv : Value) (a b c d : Int) : Prop :=
  W.cell? ⟨g, 0, none⟩ = some (.int .i64 k) ∧ W.cell? ⟨g, 1, none⟩ = some tv ∧ W.cell? ⟨g, 2, none⟩ = some (.int .i64 a) ∧ W.cell? ⟨g, 3, none⟩ = some (.int .i64 b) ∧ W.cell? ⟨g, 4, none⟩ = some (.int .i64 c) ∧ W.cell? ⟨g, 5, none⟩ = some (.int .i64 d)
theorem Blk.rq {w : World} {g : Nat} {t : TypeId} {k a b c d : Int} {tv : Value} (h : Blk w g t (rqC k tv a b c d)) : RqAt w g k tv a b c d := ⟨h.cell 0, h.cell 1, h.cell 2, h.cell 3, h.cell 4, h.cell 5⟩

set_option maxRecDepth 100000 in
set_option maxHeartbeats 3200000 in
theorem pawake_any (w : World) :
    Calls Tryd.prog 56 #[] w fun e w' => e = .returned (.bool true) ∧ Below w.heap.size w w' := by
  go_enter Tryd.func56, Tryd.ntmps56
  go_upto_region 3 with (first
    | (go_at_call 50
       first
       | (have hm := M1.out
          clear hm
          go_must (refine (oparse_any [65, 85, 84, 72, 32, 48, 49, 102, 102] (by decide) _).mono ?_
                   rw [prE_auth]
                   rintro e' w2 ⟨tv, rfl, ⟨b, m, d, rfl, hs2⟩, hb2⟩
                   have HB2 := Lib.hid (And.intro hb2 hs2)
                   unfold rqC
                   clear hb2 hs2))
       | (refine (oparse_any [83, 85, 66, 77, 73, 84, 32, 49, 48, 48, 32, 53, 48, 32, 51] (by decide) _).mono ?_
          rw [prE_submit]
          rintro e' w1 ⟨tv, rfl, ⟨a, n, c, rfl, hs1⟩, hb1⟩
          have M1 := Lib.hid trivial
          have HB1 := Lib.hid hb1
          unfold rqC
          clear hb1 hs1)))
  have b2 := HB2.out.1
  have h1 : Blk (w2.alloc (.cells #[.int .i64 1, .slice b m d, .int .i64 0, .int .i64 0, .int .i64 0, .int .i64 0] 69)) w1.heap.size 69 (rqC 2 (.slice a n c) 0 100 50 3) := ((Blk.new w1 69 _).belowS b2).alloc (.cells #[.int .i64 1, .slice b m d, .int .i64 0, .int .i64 0, .int .i64 0, .int .i64 0] 69)
  have h3 : Blk (w2.alloc (.cells #[.int .i64 1, .slice b m d, .int .i64 0, .int .i64 0, .int .i64 0, .int .i64 0] 69)) w2.heap.size 69 (rqC 1 (.slice b m d) 0 0 0 0) := Blk.new w2 69 _
  have hs := HB2.out.2.below (below_alloc (Below.refl _ _) (.cells #[.int .i64 1, .slice b m d, .int .i64 0, .int .i64 0, .int .i64 0, .int .i64 0] 69))
  have hb := below_alloc (below_then (below_alloc HB1.out (.cells #[.int .i64 2, .slice a n c, .int .i64 0, .int .i64 100, .int .i64 50, .int .i64 3] 69)) b2) (.cells #[.int .i64 1, .slice b m d, .int .i64 0, .int .i64 0, .int .i64 0, .int .i64 0] 69)
  obtain ⟨x0, x1, x2, x3, x4, x5⟩ := Blk.rq h1
  obtain ⟨y0, y1, y2, y3, y4, y5⟩ := Blk.rq h3
  have HS := Lib.hid hs
  have HB := Lib.hid hb
  clear b2 h1 h3 hs hb HB1 HB2 M1
  generalize (w2.alloc (.cells #[.int .i64 1, .slice b m d, .int .i64 0, .int .i64 0, .int .i64 0, .int .i64 0] 69)) = W5 at *
  generalize w1.heap.size = k1 at *
  generalize w2.heap.size = k3 at *
  go_wp2_with (first
    | (go_at_call 19
       go_must (refine (sameBytes_any b (some ⟨W5.heap.size, 0, none⟩) m 2 d 2 [1, 255] [1, 255] _ (HS.out.below (below_alloc (Below.refl _ _) (.cells #[.int .u8 1, .int .u8 255] 5))) (sl_lit W5 5 [.int .u8 1, .int .u8 255] _ rfl)).mono ?_
                rw [show decide (([1, 255] : List UInt8) = [1, 255]) = true from rfl]
                rintro e' w' ⟨rfl, rfl⟩)))
  go_ret
  exact ⟨rfl, below_alloc HB.out _⟩
end Go.Proofs.YtldkcfhigcmoaaaDoor
