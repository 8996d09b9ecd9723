/- What Job answers, the program's. Conditions: those in each theorem. -/
import Derived.Test.YtldkcfhigcmoaaaDoorProtoA
import Derived.Test.YtldkcfhigcmoaaaDoorProtoB
import Derived.Test.YtldkcfhigcmoaaaDoorJoinW
import Derived.Test.YtldkcfhigcmoaaaDoorPlan
namespace Go.Proofs.YtldkcfhigcmoaaaDoor
open Go.RowKit Go.As
set_option linter.unusedVariables false

/-- a job's eight numbers, as cells -/
def jobC (a b c d e f g h : Int) : Array Value := #[.int .i64 a, .int .i64 b, .int .i64 c, .int .i64 d, .int .i64 e, .int .i64 f, .int .i64 g, .int .i64 h]
def howT (s h : Int) : List UInt8 := if s = 2 then howL h else [45]
def jobWs (word : List UInt8) (a b c d e f g h : Int) : List (List UInt8) := [word, Lib.itoa a, stateL b, howT b c, Lib.itoa d, Lib.itoa e, Lib.itoa f, Lib.itoa g, Lib.itoa h]
def jobL (word : List UInt8) (a b c d e f g h : Int) : List UInt8 := Lib.join (jobWs word a b c d e f g h) [32]
def I64 (n : Int) : Prop := -9223372036854775808 ≤ n ∧ n ≤ 9223372036854775807
def JobAt (W : World) (k : Nat) (a b c d e f g h : Int) : Prop :=
  W.cell? ⟨k, 0, none⟩ = some (.int .i64 a) ∧ W.cell? ⟨k, 1, none⟩ = some (.int .i64 b) ∧ W.cell? ⟨k, 2, none⟩ = some (.int .i64 c) ∧ W.cell? ⟨k, 3, none⟩ = some (.int .i64 d) ∧
  W.cell? ⟨k, 4, none⟩ = some (.int .i64 e) ∧ W.cell? ⟨k, 5, none⟩ = some (.int .i64 f) ∧ W.cell? ⟨k, 6, none⟩ = some (.int .i64 g) ∧ W.cell? ⟨k, 7, none⟩ = some (.int .i64 h)
theorem JobAt.below {w w' : World} {k : Nat} {a b c d e f g h : Int} (hj : JobAt w k a b c d e f g h) (hb : Below w.heap.size w w') (hk : k < w.heap.size) : JobAt w' k a b c d e f g h := by
  obtain ⟨h0, h1, h2, h3, h4, h5, h6, h7⟩ := hj
  exact ⟨(hb.cell hk).trans h0, (hb.cell hk).trans h1, (hb.cell hk).trans h2, (hb.cell hk).trans h3, (hb.cell hk).trans h4, (hb.cell hk).trans h5, (hb.cell hk).trans h6, (hb.cell hk).trans h7⟩
theorem JobAt.new (w : World) (t : TypeId) (a b c d e f g h : Int) : JobAt (w.alloc (.cells (jobC a b c d e f g h) t)) w.heap.size a b c d e f g h := by
  have hb := Blk.new w t (jobC a b c d e f g h)
  exact ⟨hb.cell 0, hb.cell 1, hb.cell 2, hb.cell 3, hb.cell 4, hb.cell 5, hb.cell 6, hb.cell 7⟩

theorem sl_txts (W : World) (xs : List (List UInt8)) {LL : List (List UInt8)} (h : xs = LL) (cs : Array Value) (hc : cs = (xs.flatMap txC).toArray) {n : Nat} (hn : LL.length = n) :
    Sl (W.alloc (.cells cs 9)) 1 (some ⟨W.heap.size, 0, none⟩) n (LL.flatMap txC) := by
  subst h hn
  have := sl_lit W 9 (xs.flatMap txC) cs hc
  rwa [txs_len] at this
theorem stateL_len (n : Int) : (stateL n).length ≤ 16 := by
  unfold stateL
  repeat' split
  all_goals decide
theorem howT_len (s n : Int) : (howT s n).length ≤ 16 := by
  unfold howT
  split
  · unfold howL
    repeat' split
    all_goals decide
  · decide
theorem jobL_len (word : List UInt8) (a b c d e f g h : Int) (hw : word.length ≤ 1048576) (a1 : -9223372036854775808 ≤ a) (a2 : a ≤ 9223372036854775807) (d1 : -9223372036854775808 ≤ d) (d2 : d ≤ 9223372036854775807) (e1 : -9223372036854775808 ≤ e) (e2 : e ≤ 9223372036854775807)
    (f1 : -9223372036854775808 ≤ f) (f2 : f ≤ 9223372036854775807) (g1 : -9223372036854775808 ≤ g) (g2 : g ≤ 9223372036854775807) (h1 : -9223372036854775808 ≤ h) (h2 : h ≤ 9223372036854775807) : (Lib.join (jobWs word a b c d e f g h) [32]).length ≤ 140737488355328 := by
  have q1 := itoa_len a1 a2
  have q2 := itoa_len d1 d2
  have q3 := itoa_len e1 e2
  have q4 := itoa_len f1 f2
  have q5 := itoa_len g1 g2
  have q6 := itoa_len h1 h2
  have q7 := stateL_len b
  have q8 := howT_len b c
  unfold jobWs
  rw [Lib.join_cons]
  simp only [Lib.joinTail, List.map_cons, List.map_nil, List.flatten_cons, List.flatten_nil, List.length_append, List.length_cons, List.length_nil]
  omega
set_option maxRecDepth 100000 in
set_option maxHeartbeats 3200000 in
theorem ojob_any (word : List UInt8) (a b c d e f g h : Int) (ha : I64 a) (hd : I64 d) (he : I64 e) (hf : I64 f) (hg : I64 g) (hh : I64 h) (hwl : word.length ≤ 1048576) (w : World) (ht : Tab w) :
    Calls Tryd.prog 41 #[.string (str word), .agg #[.int .i64 a, .int .i64 b, .int .i64 c, .int .i64 d, .int .i64 e, .int .i64 f, .int .i64 g, .int .i64 h]] w fun e' w' => e' = .returned (.string (str (jobL word a b c d e f g h))) ∧ Below w.heap.size w w' := by
  have HJ := Lib.hid (JobAt.new w 53 a b c d e f g h)
  have HT := Lib.hid (ht.below ((Below.refl w.heap.size w).alloc (Nat.le_refl _) (.cells (jobC a b c d e f g h) 53)))
  have HB := Lib.hid ((Below.refl w.heap.size w).alloc (Nat.le_refl _) (.cells (jobC a b c d e f g h) 53))
  have hsz : w.heap.size < (w.alloc (.cells (jobC a b c d e f g h) 53)).heap.size := by simp
  obtain ⟨a1, a2⟩ := ha
  obtain ⟨d1, d2⟩ := hd
  obtain ⟨e1, e2⟩ := he
  obtain ⟨f1, f2⟩ := hf
  obtain ⟨g1, g2⟩ := hg
  obtain ⟨h1, h2⟩ := hh
  clear ht
  have hj1 := HJ.out.2.1
  have hj2 := HJ.out.2.2.1
  have hlen := jobL_len word a b c d e f g h hwl a1 a2 d1 d2 e1 e2 f1 f2 g1 g2 h1 h2
  obtain ⟨HW, hHW⟩ : ∃ HW, HW = howT b c := ⟨_, rfl⟩
  obtain ⟨LL, hLL⟩ : ∃ LL, LL = jobWs word a b c d e f g h := ⟨_, rfl⟩
  have HL := Lib.hid (show [word, Lib.itoa a, stateL b, HW, Lib.itoa d, Lib.itoa e, Lib.itoa f, Lib.itoa g, Lib.itoa h] = LL ∧ LL.length = 9 ∧ (Lib.join LL [32]).length ≤ 140737488355328 ∧ jobL word a b c d e f g h = Lib.join LL [32] from ⟨by rw [hLL, hHW]; rfl, by rw [hLL]; rfl, by rw [hLL]; exact hlen, by rw [hLL]; rfl⟩)
  clear hLL hlen
  by_cases hb : b = 2
  · have hbq : (b == 2) = true := by simpa using hb
    replace hHW : HW = howL c := by rw [hHW]; unfold howT; rw [if_pos hb]
    subst hHW
    clear hb
    go_enter Tryd.func41, Tryd.ntmps41
    go_wp2_with (first
      | (go_at_call 45
         refine (ohow_any c _).mono ?_
         rintro e' w' ⟨rfl, rfl⟩))
    refine wp_region_planS (fun W => W.cell? ⟨w.heap.size, 0, none⟩ = some (.int .i64 a) ∧ W.cell? ⟨w.heap.size, 1, none⟩ = some (.int .i64 b) ∧ W.cell? ⟨w.heap.size, 2, none⟩ = some (.int .i64 c) ∧ W.cell? ⟨w.heap.size, 3, none⟩ = some (.int .i64 d) ∧ W.cell? ⟨w.heap.size, 4, none⟩ = some (.int .i64 e) ∧ W.cell? ⟨w.heap.size, 5, none⟩ = some (.int .i64 f) ∧ W.cell? ⟨w.heap.size, 6, none⟩ = some (.int .i64 g) ∧ W.cell? ⟨w.heap.size, 7, none⟩ = some (.int .i64 h)) (.take 0 <| .take 1 <| .take 2 <| .take 3 <| .take 5 <| .take 6 <| .take 8 <| .take 9 <| .take 10 <| .take 11 <| .take 13 <| .take 14 <| .take 15 <| .take 17 <| .take 18 <| .take 19 <| .take 21 <| .take 22 <| .take 23 <| .take 25 <| .take 26 <| .take 27 <| .run 4 <| .run 7 <| .run 12 <| .run 16 <| .run 20 <| .run 24 <| .run 28 <| .run 29 <| .run 30 <| .take 31 <| .done) (by kernel_rfl) (by kernel_rfl) (by kernel_rfl) (by kernel_rfl) (by exact HJ.out) ?_
    clear hj1 hj2
    go_wp2_with (first
      | (go_at_call 22
         go_must (refine (odec_any _ (by assumption) (by assumption) _ (by exact HT.out)).mono ?_
                  rintro e' w1 ⟨rfl, hb1⟩
                  replace HT := Lib.hid (show Tab w1 from Tab.below (by exact HT.out) hb1)
                  replace HJ := Lib.hid (show JobAt w1 w.heap.size a b c d e f g h from JobAt.below (by exact HJ.out) hb1 (by exact hsz))
                  replace HB := Lib.hid (show Below w.heap.size w w1 by first | exact below_then HB.out hb1 | exact below_then HB.out.drew hb1)
                  replace hsz : w.heap.size < w1.heap.size := Nat.lt_of_lt_of_le hsz hb1.size
                  clear hb1))
      | (go_at_call 43
         refine (ostate_any b _).mono ?_
         rintro e' w' ⟨rfl, rfl⟩)
      | (go_at_call 49
         go_must (refine (joinW_any (some ⟨w1.heap.size, 0, none⟩) 9 9 LL _ (sl_txts w1 _ HL.out.1 _ rfl HL.out.2.1) HL.out.2.1 (by omega) (by omega) HL.out.2.2.1).mono ?_
                  rintro e' w2 ⟨rfl, hb2⟩
                  replace HB := Lib.hid (show Below w.heap.size w w2 from below_then (below_alloc HB.out _) hb2)
                  replace HJ := Lib.hid (show JobAt w2 w.heap.size a b c d e f g h from JobAt.below (JobAt.below HJ.out ((Below.refl _ _).alloc (Nat.le_refl _) _) hsz) hb2 (by simp; omega))
                  clear hb2))
      | ((with_reducible refine PlanS_isTake ?_); refine PlanS_take (v := ?_) rfl ?_ (fun w hSw => ?_) ?_; rotate_left 1; (focus rfl); (focus ((try dsimp only at hSw); (first | (go_simp; done) | (go_simp; with_reducible rfl)))); simp only [Act.put, List.setIfInBounds_toArray, List.set_cons_zero, List.set_cons_succ]) | ((with_reducible refine PlanS_isTake ?_); refine PlanS_skip rfl ?_ ?_; (focus rfl); simp only [Act.put, List.setIfInBounds_toArray, List.set_cons_zero, List.set_cons_succ]) | ((with_reducible refine PlanS_isRun ?_); refine PlanS_run rfl (fun K hK => ?_); go_simp) | ((with_reducible refine And.intro ?_ (PlanS_is ?_)); (focus ((first | exact HJ.out | exact JobAt.below HJ.out ((Below.refl _ _).alloc (Nat.le_refl _) _) hsz)))) | ((with_reducible refine PlanS_alt ?_ ?_)) | ((with_reducible refine PlanS_done ?_)))
    go_ret
    rw [HL.out.2.2.2]
    exact ⟨rfl, HB.out⟩
  · have hbq : (b == 2) = false := by simpa using hb
    replace hHW : HW = [45] := by rw [hHW]; unfold howT; rw [if_neg hb]
    subst hHW
    clear hb
    go_enter Tryd.func41, Tryd.ntmps41
    go_wp2_with fail
    refine wp_region_planS (fun W => W.cell? ⟨w.heap.size, 0, none⟩ = some (.int .i64 a) ∧ W.cell? ⟨w.heap.size, 1, none⟩ = some (.int .i64 b) ∧ W.cell? ⟨w.heap.size, 2, none⟩ = some (.int .i64 c) ∧ W.cell? ⟨w.heap.size, 3, none⟩ = some (.int .i64 d) ∧ W.cell? ⟨w.heap.size, 4, none⟩ = some (.int .i64 e) ∧ W.cell? ⟨w.heap.size, 5, none⟩ = some (.int .i64 f) ∧ W.cell? ⟨w.heap.size, 6, none⟩ = some (.int .i64 g) ∧ W.cell? ⟨w.heap.size, 7, none⟩ = some (.int .i64 h)) (.take 0 <| .take 1 <| .take 2 <| .take 3 <| .take 5 <| .take 6 <| .take 8 <| .take 9 <| .take 10 <| .take 11 <| .take 13 <| .take 14 <| .take 15 <| .take 17 <| .take 18 <| .take 19 <| .take 21 <| .take 22 <| .take 23 <| .take 25 <| .take 26 <| .take 27 <| .run 4 <| .run 7 <| .run 12 <| .run 16 <| .run 20 <| .run 24 <| .run 28 <| .run 29 <| .run 30 <| .take 31 <| .done) (by kernel_rfl) (by kernel_rfl) (by kernel_rfl) (by kernel_rfl) (by exact HJ.out) ?_
    clear hj1 hj2
    go_wp2_with (first
      | (go_at_call 22
         go_must (refine (odec_any _ (by assumption) (by assumption) _ (by exact HT.out)).mono ?_
                  rintro e' w1 ⟨rfl, hb1⟩
                  replace HT := Lib.hid (show Tab w1 from Tab.below (by exact HT.out) hb1)
                  replace HJ := Lib.hid (show JobAt w1 w.heap.size a b c d e f g h from JobAt.below (by exact HJ.out) hb1 (by exact hsz))
                  replace HB := Lib.hid (show Below w.heap.size w w1 by first | exact below_then HB.out hb1 | exact below_then HB.out.drew hb1)
                  replace hsz : w.heap.size < w1.heap.size := Nat.lt_of_lt_of_le hsz hb1.size
                  clear hb1))
      | (go_at_call 43
         refine (ostate_any b _).mono ?_
         rintro e' w' ⟨rfl, rfl⟩)
      | (go_at_call 49
         go_must (refine (joinW_any (some ⟨w1.heap.size, 0, none⟩) 9 9 LL _ (sl_txts w1 _ HL.out.1 _ rfl HL.out.2.1) HL.out.2.1 (by omega) (by omega) HL.out.2.2.1).mono ?_
                  rintro e' w2 ⟨rfl, hb2⟩
                  replace HB := Lib.hid (show Below w.heap.size w w2 from below_then (below_alloc HB.out _) hb2)
                  replace HJ := Lib.hid (show JobAt w2 w.heap.size a b c d e f g h from JobAt.below (JobAt.below HJ.out ((Below.refl _ _).alloc (Nat.le_refl _) _) hsz) hb2 (by simp; omega))
                  clear hb2))
      | ((with_reducible refine PlanS_isTake ?_); refine PlanS_take (v := ?_) rfl ?_ (fun w hSw => ?_) ?_; rotate_left 1; (focus rfl); (focus ((try dsimp only at hSw); (first | (go_simp; done) | (go_simp; with_reducible rfl)))); simp only [Act.put, List.setIfInBounds_toArray, List.set_cons_zero, List.set_cons_succ]) | ((with_reducible refine PlanS_isTake ?_); refine PlanS_skip rfl ?_ ?_; (focus rfl); simp only [Act.put, List.setIfInBounds_toArray, List.set_cons_zero, List.set_cons_succ]) | ((with_reducible refine PlanS_isRun ?_); refine PlanS_run rfl (fun K hK => ?_); go_simp) | ((with_reducible refine And.intro ?_ (PlanS_is ?_)); (focus ((first | exact HJ.out | exact JobAt.below HJ.out ((Below.refl _ _).alloc (Nat.le_refl _) _) hsz)))) | ((with_reducible refine PlanS_alt ?_ ?_)) | ((with_reducible refine PlanS_done ?_)))
    go_ret
    rw [HL.out.2.2.2]
    exact ⟨rfl, HB.out⟩
end Go.Proofs.YtldkcfhigcmoaaaDoor
