/- SemKnown, the last part. Closed; condition: strconv's table lies as it is laid. -/
import Derived.Test.YtaehpjaleceppaaGreatDoorSkT
namespace Go.Proofs.YtaehpjaleceppaaGreatDoor
open Go.RowKit Go.As
set_option linter.unusedVariables false

open Go.Sy in
set_option maxHeartbeats 4000000 in
set_option maxRecDepth 100000 in
theorem sk_p4 (w : World) (ht : Tab w) (γ0 : Go.Sy.Gm) (hγ0 : ∀ b, gz ≤ b → γ0 b = none) :
    Go.Sy.Good Tryz.prog (· < w.heap.size) w γ0 Tryz.f5.ntmps (bodyPostD Tryz.prog Tryz.f5 fun e w' => e = .returned (.bool true) ∧ Below w.heap.size w w') ⟨[.code (seqR (seqR (seqR (seqR (seqR (seqR (seqR (seqR (seqR (seqR (seqR (Tryz.f5.body.getD .skip))))))))))))], ⟨mkT [(0, (.v (.bool false))), (10, (.ptr 1038 0)), (11, (.v (.int .i64 0))), (12, (.ptr 1474 0)), (13, (.v (.int .i64 0)))], mkH [(1, some tabB), (968, some (.cells 129 true true false 3 (putL .leaf 0 [(.v (.string ⟨#[120]⟩)), (.v (.int .u8 1)), (.v (.int .u64 1))]))),
  (970, some (.cells 9 true true false 1 (putL .leaf 0 [(.v (.string ⟨#[109]⟩))]))),
  (988, some (.cells 55 true true false 10 (putL .leaf 0 [(.v (.int .u8 1)), (.v (.int .u8 1)), (.v (.int .u64 7)), (.v (.string ⟨#[]⟩)), (.v (.slice none 0 0)), (.v (.int .u8 1)), (.v (.int .u8 1)), (.v (.int .u64 2)), (.v (.string ⟨#[]⟩)), (.v (.slice none 0 0))]))),
  (997, some (.cells 91 true true false 18 (putL .leaf 0 [(.v (.int .i64 1)), (.v (.string ⟨#[120]⟩)), (.v (.int .u8 14)), (.v (.int .u8 0)), (.v (.int .u64 0)), (.v (.string ⟨#[]⟩)), (.slg 988 0 2 5), (.v (.slice none 0 0)), (.v (.slice none 0 0)), (.v (.int .i64 2)), (.v (.string ⟨#[109]⟩)), (.v (.int .u8 0)), (.v (.int .u8 0)), (.v (.int .u64 0)), (.v (.string ⟨#[]⟩)), (.v (.slice none 0 0)), (.v (.slice none 0 0)), (.v (.slice none 0 0))]))),
  (1004, some (.cells 129 true true false 3 (putL .leaf 0 [(.v (.string ⟨#[105]⟩)), (.v (.int .u8 1)), (.v (.int .u64 0))]))),
  (1033, some (.cells 55 true true false 10 (putL .leaf 0 [(.v (.int .u8 2)), (.v (.int .u8 0)), (.v (.int .u64 0)), (.v (.string ⟨#[105]⟩)), (.v (.slice none 0 0)), (.v (.int .u8 1)), (.v (.int .u8 1)), (.v (.int .u64 1)), (.v (.string ⟨#[]⟩)), (.v (.slice none 0 0))]))),
  (1035, some (.cells 91 true true false 27 (putL .leaf 0 [(.v (.int .i64 2)), (.v (.string ⟨#[109]⟩)), (.v (.int .u8 0)), (.v (.int .u8 0)), (.v (.int .u64 0)), (.v (.string ⟨#[]⟩)), (.v (.slice none 0 0)), (.v (.slice none 0 0)), (.v (.slice none 0 0)), (.v (.int .i64 1)), (.v (.string ⟨#[105]⟩)), (.v (.int .u8 2)), (.v (.int .u8 0)), (.v (.int .u64 0)), (.v (.string ⟨#[120]⟩)), (.v (.slice none 0 0)), (.v (.slice none 0 0)), (.v (.slice none 0 0)), (.v (.int .i64 4)), (.v (.string ⟨#[]⟩)), (.v (.int .u8 5)), (.v (.int .u8 0)), (.v (.int .u64 0)), (.v (.string ⟨#[]⟩)), (.slg 1033 0 2 5), (.v (.slice none 0 0)), (.v (.slice none 0 0))]))),
  (1037, some (.cells 111 true true false 6 (putL .leaf 0 [(.v (.string ⟨#[97]⟩)), (.v (.slice none 0 0)), (.slg 997 0 2 9), (.v (.string ⟨#[98]⟩)), (.slg 1004 0 1 3), (.slg 1035 0 3 9)]))),
  (1038, some (.cells 32 true true true 9 (putL .leaf 0 [(.slg 968 0 1 3), (.slg 970 0 1 1), (.slg 1037 0 2 3), (.v (.int .i64 3)), (.slg 1041 0 1 2), (.slg 1043 0 1 1), (.slg 1052 0 2 3), (.v (.int .i64 0)), (.v (.int .i64 (-1)))]))),
  (1041, some (.cells 52 true true false 2 (putL .leaf 0 [(.v (.int .u8 1)), (.v (.int .u64 1))]))),
  (1043, some (.cells 3 true true false 1 (putL .leaf 0 [(.v (.int .i64 (-1)))]))),
  (1050, some (.cells 52 true true false 2 (putL .leaf 0 [(.v (.int .u8 1)), (.v (.int .u64 0))]))),
  (1052, some (.cells 89 true true false 6 (putL .leaf 0 [(.v (.slice none 0 0)), (.slg 997 0 2 9), (.v (.int .i64 0)), (.slg 1050 0 1 2), (.slg 1035 0 3 9), (.v (.int .i64 0))]))),
  (1462, some (.cells 55 true true false 10 (putL .leaf 0 [(.v (.int .u8 1)), (.v (.int .u8 1)), (.v (.int .u64 1)), (.v (.string ⟨#[]⟩)), (.v (.slice none 0 0)), (.v (.int .u8 1)), (.v (.int .u8 1)), (.v (.int .u64 0)), (.v (.string ⟨#[]⟩)), (.v (.slice none 0 0))]))),
  (1469, some (.cells 55 true true false 10 (putL .leaf 0 [(.v (.int .u8 14)), (.v (.int .u8 0)), (.v (.int .u64 0)), (.v (.string ⟨#[]⟩)), (.slg 1462 0 2 5), (.v (.int .u8 1)), (.v (.int .u8 1)), (.v (.int .u64 1)), (.v (.string ⟨#[]⟩)), (.v (.slice none 0 0))]))),
  (1471, some (.cells 91 true true false 9 (putL .leaf 0 [(.v (.int .i64 4)), (.v (.string ⟨#[]⟩)), (.v (.int .u8 5)), (.v (.int .u8 0)), (.v (.int .u64 0)), (.v (.string ⟨#[]⟩)), (.slg 1469 0 2 5), (.v (.slice none 0 0)), (.v (.slice none 0 0))]))),
  (1473, some (.cells 111 true true false 3 (putL .leaf 0 [(.v (.string ⟨#[116]⟩)), (.v (.slice none 0 0)), (.slg 1471 0 1 9)]))),
  (1474, some (.cells 32 true true true 9 (putL .leaf 0 [(.v (.slice none 0 0)), (.v (.slice none 0 0)), (.slg 1473 0 1 3), (.v (.int .i64 9)), (.v (.slice none 0 0)), (.v (.slice none 0 0)), (.slg 1477 0 1 3), (.v (.int .i64 0)), (.v (.int .i64 (-1)))]))),
  (1477, some (.cells 89 true true false 3 (putL .leaf 0 [(.v (.slice none 0 0)), (.slg 1471 0 1 9), (.v (.int .i64 0))])))], 1478, []⟩⟩ := by
  refine run_ok (cxT ht) 20000 [] 10000 100 ?_
  exact good_endV (.bool true) (by kernel_rfl) (fun W hk => ⟨rfl, hk.below⟩)
end Go.Proofs.YtaehpjaleceppaaGreatDoor
