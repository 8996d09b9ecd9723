/- What the document's Job answers. Conditions: those in the theorem. -/
import Derived.Test.YtldkcfhigcmoaaaDoorProtoC
namespace Go.Proofs.YtldkcfhigcmoaaaDoor
open Go.RowKit Go.As
set_option linter.unusedVariables false

def tailL (l : List Int) : List UInt8 := l.flatMap fun x => 32 :: Lib.itoa x
theorem jobL_eq (word : List UInt8) (a b c d e f g h : Int) : jobL word a b c d e f g h = (word ++ [32] ++ Lib.itoa a ++ [32] ++ stateL b ++ [32] ++ howT b c) ++ tailL [d, e, f, g, h] := by
  unfold jobL jobWs
  rw [Lib.join_cons]
  simp [Lib.joinTail, tailL]
theorem tailL_len (l : List Int) (h : ∀ x ∈ l, I64 x) : (tailL l).length ≤ 22 * l.length := by
  induction l with
  | nil => simp [tailL]
  | cons x r ih =>
    have h1 := itoa_len (h x (by simp)).1 (h x (by simp)).2
    have h2 := ih (fun y hy => h y (by simp [hy]))
    unfold tailL at h2 ⊢
    rw [List.flatMap_cons, List.length_append, List.length_cons, List.length_cons]
    omega
theorem tailL_step {l : List Int} {k : Nat} {x : Int} (h : l[k]? = some x) : tailL (l.take (k + 1)) = tailL (l.take k) ++ (32 :: Lib.itoa x) := by
  unfold tailL
  rw [List.take_add_one, h]
  simp


set_option maxRecDepth 100000 in
set_option maxHeartbeats 3200000 in
theorem rjob_any (word : List UInt8) (a b c d e f g h : Int) (ha : I64 a) (hd : I64 d) (he : I64 e) (hf : I64 f) (hg : I64 g) (hh : I64 h) (hwl : word.length ≤ 1048576) (w : World) :
    Calls Tryd.prog 42 #[.string (str word), .agg #[.int .i64 a, .int .i64 b, .int .i64 c, .int .i64 d, .int .i64 e, .int .i64 f, .int .i64 g, .int .i64 h]] w fun e' w' => e' = .returned (.string (str (jobL word a b c d e f g h))) ∧ Below w.heap.size w w' := by
  have HJ := Lib.hid (JobAt.new w 53 a b c d e f g h)
  have HB := Lib.hid ((Below.refl w.heap.size w).alloc (Nat.le_refl _) (.cells (jobC a b c d e f g h) 53))
  have hsz : w.heap.size < (w.alloc (.cells (jobC a b c d e f g h) 53)).heap.size := by simp
  obtain ⟨a1, a2⟩ := ha
  have hj1 := HJ.out.2.1
  have hj2 := HJ.out.2.2.1
  have hal := itoa_len a1 a2
  have hcat : ∀ (x y : List UInt8) (W : World), x.length + y.length ≤ 9223372036854775807 → (Op.stringOp .add (str x) (str y)).run Tryd.prog W = .ok (.string (str (x ++ y))) W := fun x y W h => by
    have := run_string_add_sum (P := Tryd.prog) (w := W) (str x) (str y) (by rw [str_size, str_size]; exact h)
    rw [this, str_append]
  have hsl := stateL_len b
  have hcl := howT_len b c
  by_cases hb : b = 2
  · have hbq : (b == 2) = true := by simpa using hb
    have hHW : howT b c = howL c := by unfold howT; rw [if_pos hb]
    have hcl2 := hcl
    rw [hHW] at hcl2
    have hc1 := fun W => hcat word [32] W (by simp; omega)
    have hc2 := fun W => hcat (word ++ [32]) (Lib.itoa a) W (by simp; omega)
    have hc2' := fun W => hcat (word ++ 32 :: []) (Lib.itoa a) W (by simp; omega)
    have hc3 := fun W => hcat (word ++ 32 :: Lib.itoa a) [32] W (by simp; omega)
    have hc4 := fun W => hcat (word ++ 32 :: (Lib.itoa a ++ [32])) (stateL b) W (by simp; omega)
    have hc5 := fun W => hcat (word ++ 32 :: (Lib.itoa a ++ 32 :: stateL b)) [32] W (by simp; omega)
    have hc6 := fun W => hcat (word ++ 32 :: (Lib.itoa a ++ 32 :: (stateL b ++ [32]))) (howL c) W (by simp; omega)
    have hcatT := hcat
    clear hcat
    have HHW := Lib.hid hHW
    clear hb hHW hcl2
    go_enter Tryd.func42, Tryd.ntmps42
    go_wp2_with (go_at_call 46
                 go_must (refine (rhow_any c _).mono ?_
                          rintro e' w1 ⟨rfl, hb1⟩
                          replace HJ := Lib.hid (show JobAt w1 w.heap.size a b c d e f g h from JobAt.below (by exact HJ.out) hb1 (by exact hsz))
                          replace HB := Lib.hid (show Below w.heap.size w w1 by first | exact below_then HB.out hb1 | exact below_then HB.out.drew hb1)
                          replace hsz : w.heap.size < w1.heap.size := Nat.lt_of_lt_of_le hsz hb1.size
                          replace hj1 := HJ.out.2.1
                          replace hj2 := HJ.out.2.2.1
                          clear hb1))
    refine wp_region_planS (fun W => W.cell? ⟨w.heap.size, 0, none⟩ = some (.int .i64 a) ∧ W.cell? ⟨w.heap.size, 1, none⟩ = some (.int .i64 b) ∧ W.cell? ⟨w.heap.size, 2, none⟩ = some (.int .i64 c) ∧ W.cell? ⟨w.heap.size, 3, none⟩ = some (.int .i64 d) ∧ W.cell? ⟨w.heap.size, 4, none⟩ = some (.int .i64 e) ∧ W.cell? ⟨w.heap.size, 5, none⟩ = some (.int .i64 f) ∧ W.cell? ⟨w.heap.size, 6, none⟩ = some (.int .i64 g) ∧ W.cell? ⟨w.heap.size, 7, none⟩ = some (.int .i64 h)) (.take 0 <| .take 1 <| .take 2 <| .take 3 <| .take 7 <| .take 8 <| .take 12 <| .run 4 <| .take 5 <| .take 6 <| .run 9 <| .take 10 <| .take 11 <| .take 13 <| .take 14 <| .done) (by kernel_rfl) (by kernel_rfl) (by kernel_rfl) (by kernel_rfl) (by exact HJ.out) ?_
    clear hj1 hj2
    go_wp2_with (first
      | (go_at_call 23
         refine (rdec_any a a1 a2 _).mono ?_
         rintro e' w' ⟨rfl, rfl⟩)
      | (go_at_call 44
         go_must (refine (rstate_any b _).mono ?_
                  rintro e' w1 ⟨rfl, hb1⟩
                  replace HJ := Lib.hid (show JobAt w1 w.heap.size a b c d e f g h from JobAt.below (by exact HJ.out) hb1 (by exact hsz))
                  replace HB := Lib.hid (show Below w.heap.size w w1 by first | exact below_then HB.out hb1 | exact below_then HB.out.drew hb1)
                  replace hsz : w.heap.size < w1.heap.size := Nat.lt_of_lt_of_le hsz hb1.size
                  obtain ⟨-, -, -, j3, j4, j5, j6, j7⟩ := HJ.out
                  clear hb1))
      | ((with_reducible refine PlanS_isTake ?_); refine PlanS_take (v := ?_) rfl ?_ (fun w hSw => ?_) ?_; rotate_left 1; (focus rfl); (focus ((try dsimp only at hSw); (first | (go_simp; done) | (go_simp; with_reducible rfl)))); simp only [Act.put, List.setIfInBounds_toArray, List.set_cons_zero, List.set_cons_succ]) | ((with_reducible refine PlanS_isTake ?_); refine PlanS_skip rfl ?_ ?_; (focus rfl); simp only [Act.put, List.setIfInBounds_toArray, List.set_cons_zero, List.set_cons_succ]) | ((with_reducible refine PlanS_isRun ?_); refine PlanS_run rfl (fun K hK => ?_); go_simp) | ((with_reducible refine And.intro ?_ (PlanS_is ?_)); (focus ((first | exact HJ.out | exact JobAt.below HJ.out ((Below.refl _ _).alloc (Nat.le_refl _) _) hsz)))) | ((with_reducible refine PlanS_alt ?_ ?_)) | ((with_reducible refine PlanS_done ?_)))
    clear j3 j4 j5 j6 j7
    obtain ⟨PL, hPL⟩ : ∃ PL : List Int, PL = [d, e, f, g, h] := ⟨_, rfl⟩
    have HP := Lib.hid hPL
    have hSI := sl_lit w1 3 (PL.map (Value.int .i64)) #[.int .i64 d, .int .i64 e, .int .i64 f, .int .i64 g, .int .i64 h] (by rw [hPL]; rfl)
    rw [List.length_map, show PL.length = 5 by rw [hPL]; rfl] at hSI
    have HSI := Lib.hid hSI
    have HB2 := Lib.hid (below_alloc HB.out (.cells #[.int .i64 d, .int .i64 e, .int .i64 f, .int .i64 g, .int .i64 h] 3))
    clear hPL hSI
    generalize w1.alloc (.cells #[.int .i64 d, .int .i64 e, .int .i64 f, .int .i64 g, .int .i64 h] 3) = W2 at *
    obtain ⟨PRE, hPRE⟩ : ∃ PRE : List UInt8, PRE = word ++ [32] ++ Lib.itoa a ++ [32] ++ stateL b ++ [32] ++ howT b c := ⟨_, rfl⟩
    have hPLn : PRE.length ≤ 1048700 := by rw [hPRE]; simp only [List.length_append, List.length_cons, List.length_nil]; omega
    have HPRE := Lib.hid hPRE
    clear hPRE
    go_loopw [6, 8] (fun sv iv wr => ∃ k : Nat, k ≤ 5 ∧ sv = .string (str (PRE ++ tailL (PL.take k))) ∧ iv = .int .i64 k ∧ wr = W2) (fun _ iv _ => 5 - (intOf iv).toNat)
    case atStart => exact ⟨0, by omega, by rw [HPRE.out, HHW.out]; simp [tailL], rfl, rfl⟩
    case round =>
      obtain ⟨k, hk, rfl, rfl, rfl⟩ := hrel
      have hPn : PL.length = 5 := by rw [HP.out]; rfl
      have h64 : ∀ x ∈ PL, I64 x := by
        rw [HP.out]
        intro x hx
        simp only [List.mem_cons, List.not_mem_nil, or_false] at hx
        rcases hx with rfl | rfl | rfl | rfl | rfl <;> assumption
      have htl := tailL_len (PL.take k) (fun x hx => h64 x (List.mem_of_mem_take hx))
      rw [List.length_take, hPn] at htl
      have htl2 : (tailL (PL.take k)).length ≤ 110 := by omega
      clear htl
      by_cases hlt : k < 5
      · obtain ⟨x, hx⟩ : ∃ x, PL[k]? = some x := ⟨_, List.getElem?_eq_getElem (by rw [hPn]; exact hlt)⟩
        obtain ⟨ad, u, hA, hblk, hu, hca⟩ := HSI.out.at1 hlt
        rw [List.getElem?_map, hx] at hu
        obtain rfl := Option.some.inj (show some _ = some u from hu)
        have hA' := Option.some.inj hA
        subst hA'
        have hx64 := h64 x (List.mem_of_getElem? hx)
        obtain ⟨x1, x2⟩ := hx64
        have hil := itoa_len x1 x2
        have hst := tailL_step hx
        have HST := Lib.hid hst
        obtain ⟨O, hO⟩ : ∃ O, O = PRE ++ tailL (PL.take k) := ⟨_, rfl⟩
        have hOl : O.length ≤ 1048810 := by rw [hO, List.length_append]; omega
        rw [← hO]
        have HO := Lib.hid hO
        have hs1 := fun W => hcatT O [32] W (by simp; omega)
        have hs2 := fun W => hcatT (O ++ [32]) (Lib.itoa x) W (by simp; omega)
        have hca2 : wr.cell? ⟨w1.heap.size, k, none⟩ = some (.int .i64 x) := by
          have h := hca
          simp only [Addr.add, Nat.zero_add] at h
          split at h
          · rename_i h0
            rw [h0]
            exact h
          · exact h
        clear hst hO hu hA hx h64 hPn hca
        have hlti : (k : Int) < 5 := by omega
        have hltb : decide ((k : Int) < 5) = true := by simpa using hlti
        go_wp2_with (first
          | (go_at_call 23
             refine (rdec_any x x1 x2 _).mono ?_
             rintro e' w' ⟨rfl, rfl⟩))
        go_roundw
        case rel => exact ⟨k + 1, by omega, by rw [HST.out, ← List.append_assoc, ← HO.out], by go_num, trivial⟩
        case measure => simp [intOf]; omega
      · have hk5 : k = 5 := by omega
        subst hk5
        have HSI2 := HSI
        clear h64 hPn htl2
        go_wp2_with fail
        go_ret
        exact ⟨congrArg (fun x => Ending.returned (.string (str x))) (by rw [jobL_eq, HPRE.out, HP.out]; rfl), HB2.out⟩
  · have hbq : (b == 2) = false := by simpa using hb
    have hc1 := fun W => hcat word [32] W (by simp; omega)
    have hc2 := fun W => hcat (word ++ [32]) (Lib.itoa a) W (by simp; omega)
    have hc2' := fun W => hcat (word ++ 32 :: []) (Lib.itoa a) W (by simp; omega)
    have hc3 := fun W => hcat (word ++ 32 :: Lib.itoa a) [32] W (by simp; omega)
    have hc4 := fun W => hcat (word ++ 32 :: (Lib.itoa a ++ [32])) (stateL b) W (by simp; omega)
    have hc5 := fun W => hcat (word ++ 32 :: (Lib.itoa a ++ 32 :: stateL b)) [32] W (by simp; omega)
    have hc6 := fun W => hcat (word ++ 32 :: (Lib.itoa a ++ 32 :: (stateL b ++ [32]))) [45] W (by simp; omega)
    have hcatT := hcat
    clear hcat
    have hHW : howT b c = [45] := by unfold howT; rw [if_neg hb]
    have HHW := Lib.hid hHW
    clear hb hHW
    go_enter Tryd.func42, Tryd.ntmps42
    go_wp2_with (go_at_call 46
                 go_must (refine (rhow_any c _).mono ?_
                          rintro e' w1 ⟨rfl, hb1⟩
                          replace HJ := Lib.hid (show JobAt w1 w.heap.size a b c d e f g h from JobAt.below (by exact HJ.out) hb1 (by exact hsz))
                          replace HB := Lib.hid (show Below w.heap.size w w1 by first | exact below_then HB.out hb1 | exact below_then HB.out.drew hb1)
                          replace hsz : w.heap.size < w1.heap.size := Nat.lt_of_lt_of_le hsz hb1.size
                          replace hj1 := HJ.out.2.1
                          replace hj2 := HJ.out.2.2.1
                          clear hb1))
    refine wp_region_planS (fun W => W.cell? ⟨w.heap.size, 0, none⟩ = some (.int .i64 a) ∧ W.cell? ⟨w.heap.size, 1, none⟩ = some (.int .i64 b) ∧ W.cell? ⟨w.heap.size, 2, none⟩ = some (.int .i64 c) ∧ W.cell? ⟨w.heap.size, 3, none⟩ = some (.int .i64 d) ∧ W.cell? ⟨w.heap.size, 4, none⟩ = some (.int .i64 e) ∧ W.cell? ⟨w.heap.size, 5, none⟩ = some (.int .i64 f) ∧ W.cell? ⟨w.heap.size, 6, none⟩ = some (.int .i64 g) ∧ W.cell? ⟨w.heap.size, 7, none⟩ = some (.int .i64 h)) (.take 0 <| .take 1 <| .take 2 <| .take 3 <| .take 7 <| .take 8 <| .take 12 <| .run 4 <| .take 5 <| .take 6 <| .run 9 <| .take 10 <| .take 11 <| .take 13 <| .take 14 <| .done) (by kernel_rfl) (by kernel_rfl) (by kernel_rfl) (by kernel_rfl) (by exact HJ.out) ?_
    clear hj1 hj2
    go_wp2_with (first
      | (go_at_call 23
         refine (rdec_any a a1 a2 _).mono ?_
         rintro e' w' ⟨rfl, rfl⟩)
      | (go_at_call 44
         go_must (refine (rstate_any b _).mono ?_
                  rintro e' w1 ⟨rfl, hb1⟩
                  replace HJ := Lib.hid (show JobAt w1 w.heap.size a b c d e f g h from JobAt.below (by exact HJ.out) hb1 (by exact hsz))
                  replace HB := Lib.hid (show Below w.heap.size w w1 by first | exact below_then HB.out hb1 | exact below_then HB.out.drew hb1)
                  replace hsz : w.heap.size < w1.heap.size := Nat.lt_of_lt_of_le hsz hb1.size
                  obtain ⟨-, -, -, j3, j4, j5, j6, j7⟩ := HJ.out
                  clear hb1))
      | ((with_reducible refine PlanS_isTake ?_); refine PlanS_take (v := ?_) rfl ?_ (fun w hSw => ?_) ?_; rotate_left 1; (focus rfl); (focus ((try dsimp only at hSw); (first | (go_simp; done) | (go_simp; with_reducible rfl)))); simp only [Act.put, List.setIfInBounds_toArray, List.set_cons_zero, List.set_cons_succ]) | ((with_reducible refine PlanS_isTake ?_); refine PlanS_skip rfl ?_ ?_; (focus rfl); simp only [Act.put, List.setIfInBounds_toArray, List.set_cons_zero, List.set_cons_succ]) | ((with_reducible refine PlanS_isRun ?_); refine PlanS_run rfl (fun K hK => ?_); go_simp) | ((with_reducible refine And.intro ?_ (PlanS_is ?_)); (focus ((first | exact HJ.out | exact JobAt.below HJ.out ((Below.refl _ _).alloc (Nat.le_refl _) _) hsz)))) | ((with_reducible refine PlanS_alt ?_ ?_)) | ((with_reducible refine PlanS_done ?_)))
    clear j3 j4 j5 j6 j7
    obtain ⟨PL, hPL⟩ : ∃ PL : List Int, PL = [d, e, f, g, h] := ⟨_, rfl⟩
    have HP := Lib.hid hPL
    have hSI := sl_lit w1 3 (PL.map (Value.int .i64)) #[.int .i64 d, .int .i64 e, .int .i64 f, .int .i64 g, .int .i64 h] (by rw [hPL]; rfl)
    rw [List.length_map, show PL.length = 5 by rw [hPL]; rfl] at hSI
    have HSI := Lib.hid hSI
    have HB2 := Lib.hid (below_alloc HB.out (.cells #[.int .i64 d, .int .i64 e, .int .i64 f, .int .i64 g, .int .i64 h] 3))
    clear hPL hSI
    generalize w1.alloc (.cells #[.int .i64 d, .int .i64 e, .int .i64 f, .int .i64 g, .int .i64 h] 3) = W2 at *
    obtain ⟨PRE, hPRE⟩ : ∃ PRE : List UInt8, PRE = word ++ [32] ++ Lib.itoa a ++ [32] ++ stateL b ++ [32] ++ howT b c := ⟨_, rfl⟩
    have hPLn : PRE.length ≤ 1048700 := by rw [hPRE]; simp only [List.length_append, List.length_cons, List.length_nil]; omega
    have HPRE := Lib.hid hPRE
    clear hPRE
    go_loopw [6, 8] (fun sv iv wr => ∃ k : Nat, k ≤ 5 ∧ sv = .string (str (PRE ++ tailL (PL.take k))) ∧ iv = .int .i64 k ∧ wr = W2) (fun _ iv _ => 5 - (intOf iv).toNat)
    case atStart => exact ⟨0, by omega, by rw [HPRE.out, HHW.out]; simp [tailL], rfl, rfl⟩
    case round =>
      obtain ⟨k, hk, rfl, rfl, rfl⟩ := hrel
      have hPn : PL.length = 5 := by rw [HP.out]; rfl
      have h64 : ∀ x ∈ PL, I64 x := by
        rw [HP.out]
        intro x hx
        simp only [List.mem_cons, List.not_mem_nil, or_false] at hx
        rcases hx with rfl | rfl | rfl | rfl | rfl <;> assumption
      have htl := tailL_len (PL.take k) (fun x hx => h64 x (List.mem_of_mem_take hx))
      rw [List.length_take, hPn] at htl
      have htl2 : (tailL (PL.take k)).length ≤ 110 := by omega
      clear htl
      by_cases hlt : k < 5
      · obtain ⟨x, hx⟩ : ∃ x, PL[k]? = some x := ⟨_, List.getElem?_eq_getElem (by rw [hPn]; exact hlt)⟩
        obtain ⟨ad, u, hA, hblk, hu, hca⟩ := HSI.out.at1 hlt
        rw [List.getElem?_map, hx] at hu
        obtain rfl := Option.some.inj (show some _ = some u from hu)
        have hA' := Option.some.inj hA
        subst hA'
        have hx64 := h64 x (List.mem_of_getElem? hx)
        obtain ⟨x1, x2⟩ := hx64
        have hil := itoa_len x1 x2
        have hst := tailL_step hx
        have HST := Lib.hid hst
        obtain ⟨O, hO⟩ : ∃ O, O = PRE ++ tailL (PL.take k) := ⟨_, rfl⟩
        have hOl : O.length ≤ 1048810 := by rw [hO, List.length_append]; omega
        rw [← hO]
        have HO := Lib.hid hO
        have hs1 := fun W => hcatT O [32] W (by simp; omega)
        have hs2 := fun W => hcatT (O ++ [32]) (Lib.itoa x) W (by simp; omega)
        have hca2 : wr.cell? ⟨w1.heap.size, k, none⟩ = some (.int .i64 x) := by
          have h := hca
          simp only [Addr.add, Nat.zero_add] at h
          split at h
          · rename_i h0
            rw [h0]
            exact h
          · exact h
        clear hst hO hu hA hx h64 hPn hca
        have hlti : (k : Int) < 5 := by omega
        have hltb : decide ((k : Int) < 5) = true := by simpa using hlti
        go_wp2_with (first
          | (go_at_call 23
             refine (rdec_any x x1 x2 _).mono ?_
             rintro e' w' ⟨rfl, rfl⟩))
        go_roundw
        case rel => exact ⟨k + 1, by omega, by rw [HST.out, ← List.append_assoc, ← HO.out], by go_num, trivial⟩
        case measure => simp [intOf]; omega
      · have hk5 : k = 5 := by omega
        subst hk5
        have HSI2 := HSI
        clear h64 hPn htl2
        go_wp2_with fail
        go_ret
        exact ⟨congrArg (fun x => Ending.returned (.string (str x))) (by rw [jobL_eq, HPRE.out, HP.out]; rfl), HB2.out⟩
end Go.Proofs.YtldkcfhigcmoaaaDoor
