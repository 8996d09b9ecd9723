/- The law ProtoKnown: the chapter's examples are answered as it says; a closed statement. -/
import Derived.Test.YtldkcfhigcmoaaaDoorDoor
import Derived.Test.YtldkcfhigcmoaaaDoorProtoF
import Derived.Test.YtldkcfhigcmoaaaDoorProtoJ
import Derived.Test.YtldkcfhigcmoaaaDoorProtoR
import Derived.Deep.CutBlock
import Derived.Deep.DeepCutAuto
namespace Go.Proofs.YtldkcfhigcmoaaaDoor
open Go.RowKit Go.As
set_option linter.unusedVariables false

def badsL : List (List UInt8) := [[65, 85, 84, 72, 32, 48], [83, 84, 65, 84, 85, 83, 32, 48], [83, 84, 65, 84, 85, 83, 32, 48, 49], [83, 84, 65, 84, 85, 83], [76, 73, 83, 84, 32, 49], [83, 85, 66, 77, 73, 84, 32, 48, 32, 49, 32, 49], [83, 85, 66, 77, 73, 84, 32, 49, 32, 49, 48, 50, 53, 32, 49], [83, 85, 66, 77, 73, 84, 32, 49, 32, 49, 32, 53, 49, 51], [83, 84, 65, 84, 85, 83, 32, 49, 48, 55, 51, 55, 52, 49, 56, 50, 53]]
theorem bads_all : ∀ x ∈ badsL, prE x = pBad 2 ∧ x.length ≤ 1048576 := by
  intro x hx
  unfold badsL at hx
  simp only [List.mem_cons, List.not_mem_nil, or_false] at hx
  rcases hx with rfl | rfl | rfl | rfl | rfl | rfl | rfl | rfl | rfl
  all_goals exact ⟨by kernel_rfl, by decide⟩
theorem prE_k1 : prE [97, 117, 116, 104, 32, 48, 49] = pBad 5 := by kernel_rfl
theorem prE_k2 : prE [76, 73, 83, 84, 32] = pBad 4 := by kernel_rfl
theorem prE_k3 : prE [] = pBad 4 := by kernel_rfl
theorem rj_k1 : rjW [74, 79, 66, 32, 51, 32, 114, 101, 102, 117, 116, 101, 100, 32, 100, 101, 97, 100, 108, 111, 99, 107, 32, 57, 32, 53, 32, 52, 32, 50, 32, 54] = [74, 79, 66] ∧ rjJ [74, 79, 66, 32, 51, 32, 114, 101, 102, 117, 116, 101, 100, 32, 100, 101, 97, 100, 108, 111, 99, 107, 32, 57, 32, 53, 32, 52, 32, 50, 32, 54] = jobC 3 2 4 9 5 4 2 6 ∧ rjF [74, 79, 66, 32, 51, 32, 114, 101, 102, 117, 116, 101, 100, 32, 100, 101, 97, 100, 108, 111, 99, 107, 32, 57, 32, 53, 32, 52, 32, 50, 32, 54] = 0 := ⟨by kernel_rfl, by kernel_rfl, by kernel_rfl⟩
theorem rj_k2 : rjW [74, 79, 66, 32, 51, 32, 114, 101, 102, 117, 116, 101, 100, 32, 45, 32, 57, 32, 53, 32, 52, 32, 50, 32, 54] = [] ∧ rjJ [74, 79, 66, 32, 51, 32, 114, 101, 102, 117, 116, 101, 100, 32, 45, 32, 57, 32, 53, 32, 52, 32, 50, 32, 54] = jobC 0 0 0 0 0 0 0 0 ∧ rjF [74, 79, 66, 32, 51, 32, 114, 101, 102, 117, 116, 101, 100, 32, 45, 32, 57, 32, 53, 32, 52, 32, 50, 32, 54] = 4 := ⟨by kernel_rfl, by kernel_rfl, by kernel_rfl⟩

set_option maxRecDepth 100000 in
set_option maxHeartbeats 6400000 in
theorem protoKnown_walk (w : World) (ht : Tab w) :
    Calls Tryd.prog 11 #[] w fun e w' => e = .returned (.bool true) ∧ Below w.heap.size w w' := by
  have HT := Lib.hid ht
  clear ht
  go_enter Tryd.func11, Tryd.ntmps11
  go_wp2_with fail
  have hsl := sl_txts w badsL rfl #[.string (str [65, 85, 84, 72, 32, 48]), .string (str [83, 84, 65, 84, 85, 83, 32, 48]), .string (str [83, 84, 65, 84, 85, 83, 32, 48, 49]), .string (str [83, 84, 65, 84, 85, 83]), .string (str [76, 73, 83, 84, 32, 49]), .string (str [83, 85, 66, 77, 73, 84, 32, 48, 32, 49, 32, 49]), .string (str [83, 85, 66, 77, 73, 84, 32, 49, 32, 49, 48, 50, 53, 32, 49]), .string (str [83, 85, 66, 77, 73, 84, 32, 49, 32, 49, 32, 53, 49, 51]), .string (str [83, 84, 65, 84, 85, 83, 32, 49, 48, 55, 51, 55, 52, 49, 56, 50, 53])] rfl (n := 9) rfl
  have hb1 := below_alloc (Below.refl w.heap.size w) (.cells #[.string (str [65, 85, 84, 72, 32, 48]), .string (str [83, 84, 65, 84, 85, 83, 32, 48]), .string (str [83, 84, 65, 84, 85, 83, 32, 48, 49]), .string (str [83, 84, 65, 84, 85, 83]), .string (str [76, 73, 83, 84, 32, 49]), .string (str [83, 85, 66, 77, 73, 84, 32, 48, 32, 49, 32, 49]), .string (str [83, 85, 66, 77, 73, 84, 32, 49, 32, 49, 48, 50, 53, 32, 49]), .string (str [83, 85, 66, 77, 73, 84, 32, 49, 32, 49, 32, 53, 49, 51]), .string (str [83, 84, 65, 84, 85, 83, 32, 49, 48, 55, 51, 55, 52, 49, 56, 50, 53])] 9)
  have HS := Lib.hid hsl
  have HB := Lib.hid hb1
  clear hsl hb1
  generalize hk : w.heap.size = k20 at *
  generalize hW : (w.alloc (.cells #[.string (str [65, 85, 84, 72, 32, 48]), .string (str [83, 84, 65, 84, 85, 83, 32, 48]), .string (str [83, 84, 65, 84, 85, 83, 32, 48, 49]), .string (str [83, 84, 65, 84, 85, 83]), .string (str [76, 73, 83, 84, 32, 49]), .string (str [83, 85, 66, 77, 73, 84, 32, 48, 32, 49, 32, 49]), .string (str [83, 85, 66, 77, 73, 84, 32, 49, 32, 49, 48, 50, 53, 32, 49]), .string (str [83, 85, 66, 77, 73, 84, 32, 49, 32, 49, 32, 53, 49, 51]), .string (str [83, 84, 65, 84, 85, 83, 32, 49, 48, 55, 51, 55, 52, 49, 56, 50, 53])] 9)) = W1 at *
  have HK := Lib.hid hk
  clear hk hW
  go_loopw [22] (fun iv wr => ∃ k : Nat, k ≤ 9 ∧ iv = .int .i64 k ∧ Below W1.heap.size W1 wr) (fun iv _ => 9 - (intOf iv).toNat)
  case atStart => exact ⟨0, by omega, rfl, Below.refl _ _⟩
  case round =>
    obtain ⟨k, hk, rfl, hbz⟩ := hrel
    by_cases hlt : k < 9
    · obtain ⟨x, hx⟩ : ∃ x, badsL[k]? = some x := ⟨_, List.getElem?_eq_getElem (by unfold badsL; simpa using hlt)⟩
      obtain ⟨ad, u, hA, -, hu, hca⟩ := (HS.out.below hbz).at1 hlt
      rw [txs_get hx] at hu
      obtain rfl := Option.some.inj hu
      have hA' := Option.some.inj hA
      subst hA'
      have hca2 : wr.cell? ⟨k20, k, none⟩ = some (.string (str x)) := by
        have h := hca
        simp only [Addr.add, Nat.zero_add] at h
        split at h
        · rename_i h0
          rw [h0]
          exact h
        · exact h
      have HX := Lib.hid (bads_all x (List.mem_of_getElem? hx))
      have HZ := Lib.hid hbz
      have hki : (k : Int) < 9 := by omega
      clear hbz hu hA hca hx
      go_wp2_with (first
        | (go_at_call 50
           go_must (refine (oparse_any x HX.out.2 _).mono ?_
                    rw [HX.out.1]
                    unfold pBad
                    rintro e' w2 ⟨tv, rfl, ⟨a, n, c, rfl, -⟩, hb⟩
                    unfold rqC
                    have HY := Lib.hid (below_then HZ.out hb)
                    clear hb)))
      go_roundw
      case rel => exact ⟨k + 1, by omega, by go_num, below_alloc HY.out _⟩
      case measure => simp [intOf]; omega
    · obtain rfl : k = 9 := by omega
      have HZ := Lib.hid (below_then (show Below w.heap.size w W1 from by rw [HK.out]; exact HB.out) hbz)
      clear hbz hlt hk
      go_upto_region 9 with (first
        | (go_at_call 50
           go_must (refine (oparse_any [97, 117, 116, 104, 32, 48, 49] (by decide) _).mono ?_
                    rw [prE_k1]
                    unfold pBad
                    rintro e' v1 ⟨tv, rfl, ⟨a1, n1, c1, rfl, -⟩, hb⟩
                    unfold rqC
                    have HY1 := Lib.hid (below_then HZ.out hb)
                    clear hb)))
      go_upto_region 10 with (first
        | (go_at_call 50
           go_must (refine (oparse_any [76, 73, 83, 84, 32] (by decide) _).mono ?_
                    rw [prE_k2]
                    unfold pBad
                    rintro e' v2 ⟨tv, rfl, ⟨a2, n2, c2, rfl, -⟩, hb⟩
                    unfold rqC
                    have HY2 := Lib.hid (below_then (below_alloc HY1.out _) hb)
                    clear hb)))
      go_upto_region 11 with (first
        | (go_at_call 50
           go_must (refine (oparse_any [] (by decide) _).mono ?_
                    rw [prE_k3]
                    unfold pBad
                    rintro e' v3 ⟨tv, rfl, ⟨a3, n3, c3, rfl, -⟩, hb⟩
                    unfold rqC
                    have HY3 := Lib.hid (below_then (below_alloc HY2.out _) hb)
                    clear hb)))
      go_upto_region 13 with fail
      have hb11 := below_alloc (below_alloc HY3.out (.cells #[.int .i64 0, .slice a3 n3 c3, .int .i64 0, .int .i64 0, .int .i64 0, .int .i64 0] 69)) (.cells #[.int .i64 3, .int .i64 2, .int .i64 4, .int .i64 9, .int .i64 5, .int .i64 4, .int .i64 2, .int .i64 6] 53)
      have j11 : JobAt ((v3.alloc (.cells #[.int .i64 0, .slice a3 n3 c3, .int .i64 0, .int .i64 0, .int .i64 0, .int .i64 0] 69)).alloc (.cells #[.int .i64 3, .int .i64 2, .int .i64 4, .int .i64 9, .int .i64 5, .int .i64 4, .int .i64 2, .int .i64 6] 53)) (v3.heap.size + 1) 3 2 4 9 5 4 2 6 := by
        have := JobAt.new (v3.alloc (.cells #[.int .i64 0, .slice a3 n3 c3, .int .i64 0, .int .i64 0, .int .i64 0, .int .i64 0] 69)) 53 3 2 4 9 5 4 2 6
        rwa [show (v3.alloc (.cells #[.int .i64 0, .slice a3 n3 c3, .int .i64 0, .int .i64 0, .int .i64 0, .int .i64 0] 69)).heap.size = v3.heap.size + 1 by simp] at this
      have HB11 := Lib.hid hb11
      have HJ11 := Lib.hid j11
      clear hb11 j11 HY1 HY2 HY3 HZ HS HB HK
      generalize v3.heap.size = p11 at *
      generalize ((v3.alloc (.cells #[.int .i64 0, .slice a3 n3 c3, .int .i64 0, .int .i64 0, .int .i64 0, .int .i64 0] 69)).alloc (.cells #[.int .i64 3, .int .i64 2, .int .i64 4, .int .i64 9, .int .i64 5, .int .i64 4, .int .i64 2, .int .i64 6] 53)) = W11 at *
      go_upto_region 14 with (first
        | (go_at_call 34
           go_must (refine (oreadjob_any [74, 79, 66, 32, 51, 32, 114, 101, 102, 117, 116, 101, 100, 32, 100, 101, 97, 100, 108, 111, 99, 107, 32, 57, 32, 53, 32, 52, 32, 50, 32, 54] (by decide) _ (HT.out.below HB11.out)).mono ?_
                    rw [rj_k1.1, rj_k1.2.1, rj_k1.2.2]
                    unfold jobC
                    rintro e' v5 ⟨rfl, hb⟩
                    have HY5 := Lib.hid hb
                    clear hb)))
      go_upto_region 15 with (first
        | (go_at_call 34
           go_must (refine (oreadjob_any [74, 79, 66, 32, 51, 32, 114, 101, 102, 117, 116, 101, 100, 32, 45, 32, 57, 32, 53, 32, 52, 32, 50, 32, 54] (by decide) _ (HT.out.below (below_alloc (below_then HB11.out HY5.out) _))).mono ?_
                    rw [rj_k2.1, rj_k2.2.1, rj_k2.2.2]
                    unfold jobC
                    rintro e' v6 ⟨rfl, hb⟩
                    have HY6 := Lib.hid hb
                    clear hb)))
      have b6 := HY6.out
      have hb15 := below_alloc (below_then (below_alloc (below_then HB11.out HY5.out) (.cells #[.int .i64 3, .int .i64 2, .int .i64 4, .int .i64 9, .int .i64 5, .int .i64 4, .int .i64 2, .int .i64 6] 53)) b6) (.cells #[.int .i64 0, .int .i64 0, .int .i64 0, .int .i64 0, .int .i64 0, .int .i64 0, .int .i64 0, .int .i64 0] 53)
      have j11 : JobAt (v6.alloc (.cells #[.int .i64 0, .int .i64 0, .int .i64 0, .int .i64 0, .int .i64 0, .int .i64 0, .int .i64 0, .int .i64 0] 53)) (p11 + 1) 3 2 4 9 5 4 2 6 := by
        have h1 := JobAt.below HJ11.out HY5.out (World.block_lt_of_cell? _ _ HJ11.out.1)
        have h2 := JobAt.below h1 (below_alloc (Below.refl _ _) (.cells #[.int .i64 3, .int .i64 2, .int .i64 4, .int .i64 9, .int .i64 5, .int .i64 4, .int .i64 2, .int .i64 6] 53)) (World.block_lt_of_cell? _ _ h1.1)
        have h3 := JobAt.below h2 b6 (World.block_lt_of_cell? _ _ h2.1)
        exact JobAt.below h3 (below_alloc (Below.refl _ _) (.cells #[.int .i64 0, .int .i64 0, .int .i64 0, .int .i64 0, .int .i64 0, .int .i64 0, .int .i64 0, .int .i64 0] 53)) (World.block_lt_of_cell? _ _ h3.1)
      have j14 : JobAt (v6.alloc (.cells #[.int .i64 0, .int .i64 0, .int .i64 0, .int .i64 0, .int .i64 0, .int .i64 0, .int .i64 0, .int .i64 0] 53)) v5.heap.size 3 2 4 9 5 4 2 6 := by
        have h2 := JobAt.new v5 53 3 2 4 9 5 4 2 6
        have h3 := JobAt.below h2 b6 (World.block_lt_of_cell? _ _ h2.1)
        exact JobAt.below h3 (below_alloc (Below.refl _ _) (.cells #[.int .i64 0, .int .i64 0, .int .i64 0, .int .i64 0, .int .i64 0, .int .i64 0, .int .i64 0, .int .i64 0] 53)) (World.block_lt_of_cell? _ _ h3.1)
      have HB15 := Lib.hid hb15
      replace HJ11 := Lib.hid j11
      have HJ14 := Lib.hid j14
      clear b6 hb15 j11 j14 HY5 HY6 HB11
      generalize v5.heap.size = k14 at *
      generalize (v6.alloc (.cells #[.int .i64 0, .int .i64 0, .int .i64 0, .int .i64 0, .int .i64 0, .int .i64 0, .int .i64 0, .int .i64 0] 53)) = W15 at *
      have HT15 := Lib.hid (HT.out.below HB15.out)
      clear HT
      go_cut [19] (fun sv wx => sv = .bool true ∧ Below W15.heap.size W15 wx)
      case first =>
        have d0 : doneL 0 = [79, 75] := by decide
        have d7 : doneL 7 = [79, 75, 32, 55] := by kernel_rfl
        have i12 : Lib.itoa 12 = [49, 50] := by kernel_rfl
        have i2 : Lib.itoa 2 = [50] := by kernel_rfl
        have i1 : Lib.itoa 1 = [49] := by kernel_rfl
        have jl : jobL [74, 79, 66] 3 2 4 9 5 4 2 6 = [74, 79, 66, 32, 51, 32, 114, 101, 102, 117, 116, 101, 100, 32, 100, 101, 97, 100, 108, 111, 99, 107, 32, 57, 32, 53, 32, 52, 32, 50, 32, 54] := by kernel_rfl
        have H0 := Lib.hid (Below.refl W15.heap.size W15)
        go_wp2_with (first
          | (go_at_call 36
             first
             | (have hm := M1.out
                clear hm
                go_must (refine (odone_any 7 (by decide) (by decide) _ (HT15.out.below H1.out)).mono ?_
                         rintro e' u2 ⟨rfl, hb⟩
                         have H2 := Lib.hid (below_then H1.out hb)
                         clear hb))
             | (refine (odone_any 0 (by decide) (by decide) _ HT15.out).mono ?_
                rintro e' u1 ⟨rfl, hb⟩
                have M1 := Lib.hid trivial
                have H1 := Lib.hid hb
                clear hb))
          | (go_at_call 38
             go_must (refine (ofail_any 12 (by decide) (by decide) _ (HT15.out.below H2.out)).mono ?_
                      rintro e' u3 ⟨rfl, hb⟩
                      have H3 := Lib.hid (below_then H2.out hb)
                      clear hb))
          | (go_at_call 40
             go_must (refine (oend_any 2 (by decide) (by decide) _ (HT15.out.below H3.out)).mono ?_
                      rintro e' u4 ⟨rfl, hb⟩
                      have H4 := Lib.hid (below_then H3.out hb)
                      clear hb))
          | (go_at_call 39
             go_must (refine (otrace_any 1 (by decide) (by decide) [120] (by decide) _ (HT15.out.below H4.out)).mono ?_
                      rintro e' u5 ⟨rfl, hb⟩
                      have H5 := Lib.hid (below_then H4.out hb)
                      obtain ⟨x0, x1, x2, x3, x4, x5, x6, x7⟩ := JobAt.below HJ11.out (below_then H4.out hb) (World.block_lt_of_cell? _ _ HJ11.out.1)
                      clear hb))
          | (go_at_call 41
             go_must (refine (ojob_any [74, 79, 66] 3 2 4 9 5 4 2 6 (by unfold I64; omega) (by unfold I64; omega) (by unfold I64; omega) (by unfold I64; omega) (by unfold I64; omega) (by unfold I64; omega) (by decide) _ (HT15.out.below H5.out)).mono ?_
                      rw [jl]
                      rintro e' u6 ⟨rfl, hb⟩
                      have H6 := Lib.hid (below_then H5.out hb)
                      clear hb)))
        go_meet
        case rel => exact ⟨rfl, H6.out⟩
      case rest =>
        obtain ⟨rfl, hb6⟩ := hcut
        obtain ⟨W16, hW16⟩ : ∃ W, W = wc := ⟨_, rfl⟩
        subst hW16
        replace HJ11 := Lib.hid (JobAt.below HJ11.out hb6 (World.block_lt_of_cell? _ _ HJ11.out.1))
        replace HJ14 := Lib.hid (JobAt.below HJ14.out hb6 (World.block_lt_of_cell? _ _ HJ14.out.1))
        replace HB15 := Lib.hid (below_then HB15.out hb6)
        clear hb6 HT15
        have s5 : stateL 5 = [63] := by decide
        have s0 : stateL 0 = [119, 97, 105, 116, 105, 110, 103] := by decide
        have h1 : howL (-1) = [63] := by decide
        have h5 : howL 5 = [111, 118, 101, 114, 114, 117, 110] := by decide
        have hqi := fun W => run_eqi_job 3 2 4 9 5 4 2 6 3 2 4 9 5 4 2 6 W
        rw [jEq_self] at hqi
        unfold jobC at hqi
        have hgd := jobGuard
        go_wp2_with (first
          | (go_at_call 56
             go_must (refine (pawake_any _).mono ?_
                      rintro e' u7 ⟨rfl, hb⟩
                      have H7 := Lib.hid (below_then HB15.out hb)
                      obtain ⟨x0, x1, x2, x3, x4, x5, x6, x7⟩ := JobAt.below HJ11.out hb (World.block_lt_of_cell? _ _ HJ11.out.1)
                      obtain ⟨y0, y1, y2, y3, y4, y5, y6, y7⟩ := JobAt.below HJ14.out hb (World.block_lt_of_cell? _ _ HJ14.out.1)
                      clear hb))
          | (go_at_call 43
             refine (ostate_any _ _).mono ?_
             rintro e' w' ⟨rfl, rfl⟩)
          | (go_at_call 45
             refine (ohow_any _ _).mono ?_
             rintro e' w' ⟨rfl, rfl⟩))
        go_ret
        exact ⟨rfl, H7.out⟩
namespace protoKnown
set_option linter.unusedVariables false
open Go.ChangeShapes Go.WideShapes Go.ChangeAt Go.RowKit Go.As
theorem own : ownKnob Tryd.prog.godebug = none := by kernel_rfl
theorem laidOut : laidOutB Tryd.prog = true := by kernel_rfl
theorem door_met (os : Os) (args : Array Value) : laidMetH Tryd.prog Rows.protoKnownRow.laid ((World.doorLaid Tryd.prog 24 os).forCall (fun _ _ => 0) ⟨#[], args, []⟩).memory :=
  laidMetH_of_parts3 (fuel := 8) (laidMet_of_run' 8 (by kernel_rfl) (by kernel_rfl)) (by kernel_rfl) (by kernel_rfl)
set_option maxRecDepth 100000 in
theorem lifted (os : Os) (started : os.Started) (H : Type) (enc : TypeId × Value → H) :
    ReturnsInHanded {} Tryd.checked os 11 .any (fun w args => (Rows.protoKnownSpec.pre enc Tryd.prog Tryd.f11 [] false w args ∧ laidMetH Tryd.prog Rows.protoKnownRow.laid w) ∧ sizedMet enc Tryd.prog Tryd.f11 (OpenSpec.ofChange Rows.protoKnownSpec) false w args) (Rows.protoKnownSpec.post enc Tryd.prog Tryd.f11 false true false false) := by
  refine returnsInHanded_of_change_and (C := Tryd.checked) (X := fun w _ => laidMetH Tryd.prog Rows.protoKnownRow.laid w) (fun _ _ _ hh h => h.of_heap hh) own started (by kernel_rfl) Tryd.func11
    (ChangeSpec.witness_shaped (enc := enc) (C := Tryd.checked) (os := os) (X := fun w _ => laidMetH Tryd.prog Rows.protoKnownRow.laid w) false (World.doorLaid Tryd.prog 24 os) #[] 8 rfl (World.shaped_of_RefB (by kernel_rfl) (by kernel_rfl)) (by kernel_rfl) (by kernel_rfl) (by kernel_rfl) (door_met os _)) ?_
  intro W base args ds gs before hval0 hW hcnd _ hL _
  have hval : ∀ (j : Nat) t v, Tryd.f11.params[j]? = some t → args[j]? = some v → Value.okWide Tryd.prog W .any base t v := hval0
  have hW' := hW
  obtain ⟨p, q, hA0, hV, hpq, hfz, hnd⟩ := hW
  have hA : DataW.TrodAll enc Tryd.prog W 0 (fun _ => true) true Tryd.f11.params.toList args.toList ds p := hA0
  have hlt : ∀ x ∈ p, x.block < W.heap.size := fun x hx => hW'.lt x (by rw [hpq]; exact List.mem_append_left _ hx)
  rw [Tryd.params11] at hA hval
  obtain ⟨hargs, rfl, hpn⟩ := trodAll_nil hA
  obtain rfl : args = #[] := by cases args; simp_all
  obtain ⟨rfl, rfl⟩ := trodVars_none hV
  refine (protoKnown_walk  W (tab_of_laid (laid := Rows.protoKnownRow.laid) rfl hL)).mono fun e W' ⟨he, hg⟩ => ?_
  subst he
  exact ⟨_, rfl, law_post (T := 4) laidOut (by kernel_rfl) Tryd.underlying4 rfl rfl hW' rfl rfl rfl hg⟩
theorem over : Rows.protoKnownRow.holds Tryd.pinned (OpenSpec.ofChange Rows.protoKnownSpec) :=
  OpenClaim.holds_of_wide 11 Tryd.f11 rfl rfl rfl rfl rfl rfl rfl ⟨rfl, rfl, rfl, rfl, rfl⟩ rfl rfl rfl rfl rfl (by kernel_rfl) Tryd.func11 (by kernel_rfl)
    (of_decide_eq_true (by kernel_rfl)) (by unfold Func.isWrapper; rw [if_neg (of_decide_eq_false (by kernel_rfl))]; exact ⟨rfl, rfl⟩)
    (fun os started H enc _ => lifted os started H enc)
/-- the statement -/
theorem proved : Rows.ProtoKnownCardSaid :=
  Claim7.holds_tied_plain_at .later [] [.data, .data, .data] true (true, "c5dbe156eb60a59730607763013cde13550478e2496cc4cac80feebce387f0b5") false over (fun _ h => by cases h) (by kernel_rfl) (fun _ h => by cases h) protoKnown_row_tie rfl ⟨rfl, rfl⟩ (by kernel_rfl) rfl
    (fun f fn hf hfn => by
      obtain rfl : f = 11 := Option.some.inj ((show Tryd.prog.funcNamed "assize/assizelaw28.ProtoKnown" = some 11 by kernel_rfl).symm.trans hf) |>.symm
      obtain rfl : fn = Tryd.f11 := (Option.some.inj (Tryd.func11.symm.trans hfn)).symm
      exact ⟨by kernel_rfl, fun j t ht => by
        rw [Tryd.params11] at ht
        simp at ht⟩)
    (by kernel_rfl)
#print axioms proved
end protoKnown
end Go.Proofs.YtldkcfhigcmoaaaDoor
