/- What a request's line is, the program's. Conditions: those in the theorem. -/
import Derived.Test.YtldkcfhigcmoaaaDoorProtoQ
import Derived.Test.YtldkcfhigcmoaaaDoorJoinW
import Derived.Test.YtldkcfhigcmoaaaDoorOctH
import Derived.Test.YtldkcfhigcmoaaaDoorDecB
import Derived.Test.YtldkcfhigcmoaaaDoorPlan
import Derived.Test.YtldkcfhigcmoaaaDoorProtoC
namespace Go.Proofs.YtldkcfhigcmoaaaDoor
open Go.RowKit Go.As
set_option linter.unusedVariables false

def subWs (sp wk ln : Int) : List (List UInt8) := [[83, 85, 66, 77, 73, 84], Lib.itoa sp, Lib.itoa wk, Lib.itoa ln]
def lineL (k : Int) (tok : List UInt8) (id sp wk ln : Int) : List UInt8 :=
  if k = 1 then [65, 85, 84, 72, 32] ++ hexL tok else if k = 2 then Lib.join (subWs sp wk ln) [32] else if k = 3 then [83, 84, 65, 84, 85, 83, 32] ++ Lib.itoa id else if k = 4 then [76, 73, 83, 84] else if k = 5 then [67, 65, 78, 67, 69, 76, 32] ++ Lib.itoa id
  else if k = 6 then [87, 65, 84, 67, 72, 32] ++ Lib.itoa id else if k = 7 then [82, 69, 80, 76, 65, 89, 32] ++ Lib.itoa id else if k = 8 then [81, 85, 73, 84] else if k = 9 then [67, 79, 77, 80, 65, 67, 84] else []
theorem sub_len (sp wk ln : Int) (hb : I64 sp) (hc : I64 wk) (hd : I64 ln) : (Lib.join (subWs sp wk ln) [32]).length ≤ 100 := by
  have q1 := itoa_len hb.1 hb.2
  have q2 := itoa_len hc.1 hc.2
  have q3 := itoa_len hd.1 hd.2
  unfold subWs
  rw [Lib.join_cons]
  simp only [Lib.joinTail, List.map_cons, List.map_nil, List.flatten_cons, List.flatten_nil, List.length_append, List.length_cons, List.length_nil]
  omega
set_option maxRecDepth 100000 in
set_option maxHeartbeats 3200000 in
theorem oline_any (k id sp wk ln : Int) (a : Option Addr) (n c : Nat) (tok : List UInt8) (w : World) (hA : Sl w 1 a n (byt tok)) (hn : n ≤ 64) (hid : I64 id) (hsp : I64 sp) (hwk : I64 wk) (hln : I64 ln) (ht : Tab w) :
    Calls Tryd.prog 74 #[.agg (rqC k (.slice a n c) id sp wk ln)] w fun e w' => e = .returned (.string (str (lineL k tok id sp wk ln))) ∧ Below w.heap.size w w' := by
  have hB := (Below.refl w.heap.size w).alloc (Nat.le_refl _) (.cells (rqC k (.slice a n c) id sp wk ln) 69)
  have HT := Lib.hid (ht.below hB)
  have HS := Lib.hid (hA.below hB)
  have HB := Lib.hid hB
  have hR := Blk.new w 69 (rqC k (.slice a n c) id sp wk ln)
  have HR := Lib.hid hR
  have htl : tok.length = n := by have := hA.len1; simpa [byt] using this
  have hhx := hexL_len tok
  have hsz : w.heap.size < (w.alloc (.cells (rqC k (.slice a n c) id sp wk ln) 69)).heap.size := by simp
  obtain ⟨HX, hHX⟩ : ∃ HX, HX = hexL tok := ⟨_, rfl⟩
  have hxl : HX.length ≤ 128 := by rw [hHX, hhx]; omega
  have HHX := Lib.hid hHX
  obtain ⟨i1, i2⟩ := hid
  clear ht hA hB hR htl hhx hHX
  unfold rqC at *
  by_cases e1 : k = 1
  · subst e1
    have HL := Lib.hid (show lineL 1 tok id sp wk ln = [65, 85, 84, 72, 32] ++ HX from by unfold lineL; rw [if_pos rfl, HHX.out])
    go_enter Tryd.func74, Tryd.ntmps74
    go_wp2_with (first
      | (go_at_call 31
         go_must (refine (ohex_any a n c tok _ HS.out (by omega)).mono ?_
                  rw [← HHX.out]
                  rintro e' w1 ⟨rfl, hb⟩
                  have H1 := Lib.hid (below_then HB.out hb)
                  clear hb)))
    go_ret
    rw [HL.out]
    exact ⟨by simp, H1.out⟩
  have b1 : (k == 1) = false := by simpa using e1
  by_cases e2 : k = 2
  · subst e2
    obtain ⟨LL, hLL⟩ : ∃ LL, LL = subWs sp wk ln := ⟨_, rfl⟩
    have HL := Lib.hid (show [[83, 85, 66, 77, 73, 84], Lib.itoa sp, Lib.itoa wk, Lib.itoa ln] = LL ∧ LL.length = 4 ∧ (Lib.join LL [32]).length ≤ 140737488355328 ∧ lineL 2 tok id sp wk ln = Lib.join LL [32] from ⟨by rw [hLL]; rfl, by rw [hLL]; rfl, by rw [hLL]; exact Nat.le_trans (sub_len sp wk ln hsp hwk hln) (by decide), by rw [hLL]; unfold lineL; rw [if_neg (by decide), if_pos rfl]⟩)
    have HJ := Lib.hid (show (w.alloc (.cells #[.int .i64 2, .slice a n c, .int .i64 id, .int .i64 sp, .int .i64 wk, .int .i64 ln] 69)).cell? ⟨w.heap.size, 3, none⟩ = some (.int .i64 sp) ∧ (w.alloc (.cells #[.int .i64 2, .slice a n c, .int .i64 id, .int .i64 sp, .int .i64 wk, .int .i64 ln] 69)).cell? ⟨w.heap.size, 4, none⟩ = some (.int .i64 wk) ∧ (w.alloc (.cells #[.int .i64 2, .slice a n c, .int .i64 id, .int .i64 sp, .int .i64 wk, .int .i64 ln] 69)).cell? ⟨w.heap.size, 5, none⟩ = some (.int .i64 ln) from ⟨HR.out.cell 3, HR.out.cell 4, HR.out.cell 5⟩)
    clear hLL
    obtain ⟨s1, s2⟩ := hsp
    obtain ⟨k1, k2⟩ := hwk
    obtain ⟨l1, l2⟩ := hln
    go_enter Tryd.func74, Tryd.ntmps74
    go_upto_region 6 with fail
    refine wp_region_planS (fun W => W.cell? ⟨w.heap.size, 3, none⟩ = some (.int .i64 sp) ∧ W.cell? ⟨w.heap.size, 4, none⟩ = some (.int .i64 wk) ∧ W.cell? ⟨w.heap.size, 5, none⟩ = some (.int .i64 ln)) (.take 0 <| .take 1 <| .take 2 <| .take 4 <| .take 5 <| .take 6 <| .take 8 <| .take 9 <| .take 10 <| .run 3 <| .run 7 <| .run 11 <| .run 12 <| .run 13 <| .take 14 <| .done) (by kernel_rfl) (by kernel_rfl) (by kernel_rfl) (by kernel_rfl) (by exact HJ.out) ?_
    go_wp2_with (first
      | (go_at_call 22
         go_must (refine (odec_any _ (by assumption) (by assumption) _ (by exact HT.out)).mono ?_
                  rintro e' w1 ⟨rfl, hb1⟩
                  replace HT := Lib.hid (show Tab w1 from Tab.below (by exact HT.out) hb1)
                  replace HJ := Lib.hid (show w1.cell? ⟨w.heap.size, 3, none⟩ = some (.int .i64 sp) ∧ w1.cell? ⟨w.heap.size, 4, none⟩ = some (.int .i64 wk) ∧ w1.cell? ⟨w.heap.size, 5, none⟩ = some (.int .i64 ln) from ⟨(hb1.cell (by exact hsz)).trans HJ.out.1, (hb1.cell (by exact hsz)).trans HJ.out.2.1, (hb1.cell (by exact hsz)).trans HJ.out.2.2⟩)
                  replace HB := Lib.hid (show Below w.heap.size w w1 by first | exact below_then HB.out hb1 | exact below_then HB.out.drew hb1)
                  replace hsz : w.heap.size < w1.heap.size := Nat.lt_of_lt_of_le hsz hb1.size
                  clear hb1))
      | (go_at_call 49
         go_must (refine (joinW_any (some ⟨w1.heap.size, 0, none⟩) 4 4 LL _ (sl_txts w1 _ HL.out.1 _ rfl HL.out.2.1) HL.out.2.1 (by omega) (by omega) HL.out.2.2.1).mono ?_
                  rintro e' w2 ⟨rfl, hb2⟩
                  have hb3 := below_alloc (Below.refl w1.heap.size w1) (.cells #[.string (str [83, 85, 66, 77, 73, 84]), .string (str (Lib.itoa sp)), .string (str (Lib.itoa wk)), .string (str (Lib.itoa ln))] 9)
                  replace HB := Lib.hid (show Below w.heap.size w w2 from below_then (below_alloc HB.out _) hb2)
                  replace HJ := Lib.hid (show w2.cell? ⟨w.heap.size, 3, none⟩ = some (.int .i64 sp) ∧ w2.cell? ⟨w.heap.size, 4, none⟩ = some (.int .i64 wk) ∧ w2.cell? ⟨w.heap.size, 5, none⟩ = some (.int .i64 ln) from ⟨(hb2.cell (by simp; omega)).trans ((hb3.cell (by exact hsz)).trans HJ.out.1), (hb2.cell (by simp; omega)).trans ((hb3.cell (by exact hsz)).trans HJ.out.2.1), (hb2.cell (by simp; omega)).trans ((hb3.cell (by exact hsz)).trans HJ.out.2.2)⟩)
                  clear hb2 hb3))
      | ((with_reducible refine PlanS_isTake ?_); refine PlanS_take (v := ?_) rfl ?_ (fun w hSw => ?_) ?_; rotate_left 1; (focus rfl); (focus ((try dsimp only at hSw); (first | (go_simp; done) | (go_simp; with_reducible rfl)))); simp only [Act.put, List.setIfInBounds_toArray, List.set_cons_zero, List.set_cons_succ]) | ((with_reducible refine PlanS_isTake ?_); refine PlanS_skip rfl ?_ ?_; (focus rfl); simp only [Act.put, List.setIfInBounds_toArray, List.set_cons_zero, List.set_cons_succ]) | ((with_reducible refine PlanS_isRun ?_); refine PlanS_run rfl (fun K hK => ?_); go_simp) | ((with_reducible refine And.intro ?_ (PlanS_is ?_)); (focus ((first | exact HJ.out | exact ⟨((below_alloc (Below.refl w1.heap.size w1) _).cell (by exact hsz)).trans HJ.out.1, ((below_alloc (Below.refl w1.heap.size w1) _).cell (by exact hsz)).trans HJ.out.2.1, ((below_alloc (Below.refl w1.heap.size w1) _).cell (by exact hsz)).trans HJ.out.2.2⟩)))) | ((with_reducible refine PlanS_alt ?_ ?_)) | ((with_reducible refine PlanS_done ?_)))
    go_ret
    rw [HL.out.2.2.2]
    exact ⟨rfl, HB.out⟩
  have b2 : (k == 2) = false := by simpa using e2
  by_cases e3 : k = 3
  · subst e3
    have HL := Lib.hid (show lineL 3 tok id sp wk ln = [83, 84, 65, 84, 85, 83, 32] ++ Lib.itoa id from by unfold lineL; rw [if_neg (by decide), if_neg (by decide), if_pos rfl])
    have hil := itoa_len i1 i2
    go_enter Tryd.func74, Tryd.ntmps74
    go_wp2_with (first
      | (go_at_call 22
         go_must (refine (odec_any _ i1 i2 _ HT.out).mono ?_
                  rintro e' w1 ⟨rfl, hb⟩
                  have H1 := Lib.hid (below_then HB.out hb)
                  clear hb)))
    go_ret
    rw [HL.out]
    exact ⟨by simp, H1.out⟩
  have b3 : (k == 3) = false := by simpa using e3
  by_cases e4 : k = 4
  · subst e4
    have HL := Lib.hid (show lineL 4 tok id sp wk ln = [76, 73, 83, 84] from by unfold lineL; rw [if_neg (by decide), if_neg (by decide), if_neg (by decide), if_pos rfl])
    go_enter Tryd.func74, Tryd.ntmps74
    go_wp2_with fail
    go_ret
    rw [HL.out]
    exact ⟨rfl, HB.out⟩
  have b4 : (k == 4) = false := by simpa using e4
  by_cases e5 : k = 5
  · subst e5
    have HL := Lib.hid (show lineL 5 tok id sp wk ln = [67, 65, 78, 67, 69, 76, 32] ++ Lib.itoa id from by unfold lineL; rw [if_neg (by decide), if_neg (by decide), if_neg (by decide), if_neg (by decide), if_pos rfl])
    have hil := itoa_len i1 i2
    go_enter Tryd.func74, Tryd.ntmps74
    go_wp2_with (first
      | (go_at_call 22
         go_must (refine (odec_any _ i1 i2 _ HT.out).mono ?_
                  rintro e' w1 ⟨rfl, hb⟩
                  have H1 := Lib.hid (below_then HB.out hb)
                  clear hb)))
    go_ret
    rw [HL.out]
    exact ⟨by simp, H1.out⟩
  have b5 : (k == 5) = false := by simpa using e5
  by_cases e6 : k = 6
  · subst e6
    have HL := Lib.hid (show lineL 6 tok id sp wk ln = [87, 65, 84, 67, 72, 32] ++ Lib.itoa id from by unfold lineL; rw [if_neg (by decide), if_neg (by decide), if_neg (by decide), if_neg (by decide), if_neg (by decide), if_pos rfl])
    have hil := itoa_len i1 i2
    go_enter Tryd.func74, Tryd.ntmps74
    go_wp2_with (first
      | (go_at_call 22
         go_must (refine (odec_any _ i1 i2 _ HT.out).mono ?_
                  rintro e' w1 ⟨rfl, hb⟩
                  have H1 := Lib.hid (below_then HB.out hb)
                  clear hb)))
    go_ret
    rw [HL.out]
    exact ⟨by simp, H1.out⟩
  have b6 : (k == 6) = false := by simpa using e6
  by_cases e7 : k = 7
  · subst e7
    have HL := Lib.hid (show lineL 7 tok id sp wk ln = [82, 69, 80, 76, 65, 89, 32] ++ Lib.itoa id from by unfold lineL; rw [if_neg (by decide), if_neg (by decide), if_neg (by decide), if_neg (by decide), if_neg (by decide), if_neg (by decide), if_pos rfl])
    have hil := itoa_len i1 i2
    go_enter Tryd.func74, Tryd.ntmps74
    go_wp2_with (first
      | (go_at_call 22
         go_must (refine (odec_any _ i1 i2 _ HT.out).mono ?_
                  rintro e' w1 ⟨rfl, hb⟩
                  have H1 := Lib.hid (below_then HB.out hb)
                  clear hb)))
    go_ret
    rw [HL.out]
    exact ⟨by simp, H1.out⟩
  have b7 : (k == 7) = false := by simpa using e7
  by_cases e8 : k = 8
  · subst e8
    have HL := Lib.hid (show lineL 8 tok id sp wk ln = [81, 85, 73, 84] from by unfold lineL; rw [if_neg (by decide), if_neg (by decide), if_neg (by decide), if_neg (by decide), if_neg (by decide), if_neg (by decide), if_neg (by decide), if_pos rfl])
    go_enter Tryd.func74, Tryd.ntmps74
    go_wp2_with fail
    go_ret
    rw [HL.out]
    exact ⟨rfl, HB.out⟩
  have b8 : (k == 8) = false := by simpa using e8
  by_cases e9 : k = 9
  · subst e9
    have HL := Lib.hid (show lineL 9 tok id sp wk ln = [67, 79, 77, 80, 65, 67, 84] from by unfold lineL; rw [if_neg (by decide), if_neg (by decide), if_neg (by decide), if_neg (by decide), if_neg (by decide), if_neg (by decide), if_neg (by decide), if_neg (by decide), if_pos rfl])
    go_enter Tryd.func74, Tryd.ntmps74
    go_wp2_with fail
    go_ret
    rw [HL.out]
    exact ⟨rfl, HB.out⟩
  have b9 : (k == 9) = false := by simpa using e9
  have HL := Lib.hid (show lineL k tok id sp wk ln = [] from by unfold lineL; rw [if_neg e1, if_neg e2, if_neg e3, if_neg e4, if_neg e5, if_neg e6, if_neg e7, if_neg e8, if_neg e9])
  clear e1 e2 e3 e4 e5 e6 e7 e8 e9
  go_enter Tryd.func74, Tryd.ntmps74
  go_wp2_with fail
  go_ret
  rw [HL.out]
  exact ⟨rfl, HB.out⟩
end Go.Proofs.YtldkcfhigcmoaaaDoor
