/- What number of lex answers, on any text at a digit. No conditions but those in each theorem. -/
import Derived.Test.YtiacalnkmnckjaaLxD
namespace Go.Proofs.Ytiacalnkmnckjaa
open Go.RowKit Go.As
set_option linter.unusedVariables false
set_option linter.unusedSimpArgs false

def dgN (r : List UInt8) : Nat := (r.takeWhile fun c => digI (c.toNat : Int)).length
def ptN (r : List UInt8) : Bool := r[dgN r]? == some 46 && ((r.drop (dgN r + 1)).head?.map fun c => digI (c.toNat : Int)) == some true
def nmLen (r : List UInt8) : Nat := if ptN r = true then dgN r + 1 + dgN (r.drop (dgN r + 1)) else dgN r
def nmTxt (r : List UInt8) : List UInt8 := r.take (nmLen r)
def whT (s : List UInt8) : Int := if whOk s = true then 1 else 0
def whV (s : List UInt8) : Int := if whOk s = true then (decV s : Nat) else 0
theorem whCells_eq (s : List UInt8) : whCells s = #[.int .u8 (whT s), .int .u64 (whV s)] := by
  unfold whCells whT whV
  split <;> rfl
def nmK (r : List UInt8) : Int := if ptN r = true then 3 else 2
def nmT (r : List UInt8) : Int := if ptN r = true then 3 else whT (nmTxt r)
def nmV (r : List UInt8) : Int := if ptN r = true then (rpB (nmTxt r) : Nat) else whV (nmTxt r)
def nmOk (r : List UInt8) : Bool := if ptN r = true then rpF (nmTxt r) == 0 else whOk (nmTxt r)
def tkC (k : Int) (t : List UInt8) (a : Int) (ty v : Int) : Array Value := #[.int .i64 k, .string (str t), .int .i64 a, .int .u8 ty, .int .u64 v]
theorem run_dgN (s : List UInt8) (k : Nat) : runL digI s k = k + dgN (s.drop k) := rfl
theorem dgN_le (r : List UInt8) : dgN r ≤ r.length := (List.takeWhile_prefix _).length_le
theorem dgN_all (r : List UInt8) : (r.take (dgN r)).all digB = true := by
  unfold dgN
  rw [← (List.prefix_iff_eq_take.1 (List.takeWhile_prefix (p := fun c => digI (c.toNat : Int)) (l := r)))]
  refine List.all_eq_true.2 (fun x hx => ?_)
  have := List.all_eq_true.1 (List.all_takeWhile (p := fun c : UInt8 => digI (c.toNat : Int)) (l := r)) x hx
  unfold digI at this
  unfold digB
  have h := of_decide_eq_true this
  exact decide_eq_true (by omega)
theorem digit_is {c : Int} {b : Bool} (h : digI c = b) (w : World) : Calls Try.prog 16 #[.int .u8 c] w fun e w' => e = .returned (.bool b) ∧ w = w' := by
  rw [← h]
  exact digit_any c w
set_option maxRecDepth 100000 in
set_option maxHeartbeats 6400000 in
theorem number_any (s : List UInt8) (k : Nat) (hs : s.length ≤ 1048576) (hk : k < s.length) (hd : digI ((s[k]).toNat : Int) = true) (w : World) :
    Calls Try.prog 17 #[.string (str s), .int .i64 (k : Int)] w fun e w' => e = .returned (.tuple #[.agg (tkC (nmK (s.drop k)) (nmTxt (s.drop k)) k (nmT (s.drop k)) (nmV (s.drop k))), .bool (nmOk (s.drop k))]) ∧ Below w.heap.size w w' := by
  obtain ⟨r, hr⟩ : ∃ r, r = s.drop k := ⟨_, rfl⟩
  obtain ⟨E, hE⟩ : ∃ E, E = runL digI s k := ⟨_, rfl⟩
  have hEr : E = k + dgN r := by rw [hE, hr]; rfl
  have hle := runL_le digI s k (by omega)
  have hgt : k < E := by
    rw [hE, runL_go digI s k hk, hd, if_pos rfl]
    have := runL_le digI s (k + 1) (by omega)
    omega
  rw [← hE] at hle
  have HR1 := Lib.hid (fun W => run_any 16 digI s k W hs (by omega) (fun args w => by simp [go_sem]) (fun c w => digit_any c w))
  rw [← hE] at HR1
  have hsl : List.take (E - k) (List.drop k s) = r.take (dgN r) := by rw [← hr, hEr]; congr 1; omega
  have HNE := Lib.hid hd
  rw [← hr]
  clear hd
  go_enter Try.func17, Try.ntmps17
  go_upto_region 1 with fail
  obtain ⟨g, hg⟩ : ∃ g, g = w.heap.size := ⟨_, rfl⟩
  have hblk0 := Blk.new w 33 (tkC 0 [] 0 0 0)
  have hbel0 := (Below.refl w.heap.size w).alloc (Nat.le_refl _) (.cells (tkC 0 [] 0 0 0) 33)
  obtain ⟨w1, hw1⟩ : ∃ w1, w1 = w.alloc (.cells (tkC 0 [] 0 0 0) 33) := ⟨_, rfl⟩
  rw [← hw1] at hblk0 hbel0
  have hw2 : w1 = w.alloc (.cells #[.int .i64 0, .string (str []), .int .i64 0, .int .u8 0, .int .u64 0] 33) := hw1
  rw [← hw2]
  rw [← hg] at hblk0
  rw [← hg]
  have HB := Lib.hid hbel0
  have HBK := Lib.hid hblk0
  have HG := Lib.hid hg
  clear hblk0 hbel0 hw1 hw2 hg
  have w1k : IntKind.i64.wrap ((E : Int) + 1) = (E : Int) + 1 := by rw [IntKind.wrap_i64]; omega
  have e1 : E ≤ s.length := hle.2
  have e2 : (E : Int) ≤ s.length := by omega
  have e3 : k ≤ E := hle.1
  have e4 : (k : Int) ≤ E := by omega
  have HQ := Lib.hid (show r = s.drop k ∧ E = k + dgN r from ⟨hr, hEr⟩)
  have HR0 := Lib.hid (show r.length = s.length - k from by rw [hr, List.length_drop])
  have hgE : ∀ j, r[j]? = s[k + j]? := fun j => by rw [hr, List.getElem?_drop]
  have hhd : (r.drop (dgN r + 1)).head? = s[E + 1]? := by rw [List.head?_drop, hgE, hEr, Nat.add_assoc]
  have hrE : r[dgN r]? = s[E]? := by rw [hgE, hEr]
  have HF := Lib.hid (And.intro hhd hrE)
  clear hgE hhd hrE hr hE hEr hle
  by_cases h1 : E + 1 < s.length
  · have hx1 := fun W => run_idx0 s E (by omega) W
    have hx2 : ∀ W, (Instr.index 9 (.string (str s)) (.int .i64 ((E : Int) + 1))).run Try.prog W = .ok (.int .u8 ((s[E + 1]).toNat : Nat)) W := fun W => run_idx0 s (E + 1) h1 W
    have hp1 : s[E]? = some s[E] := List.getElem?_eq_getElem (by omega)
    have hp2 : s[E + 1]? = some s[E + 1] := List.getElem?_eq_getElem h1
    obtain ⟨x, hx⟩ : ∃ x, x = s[E] := ⟨_, rfl⟩
    obtain ⟨y, hy⟩ : ∃ y, y = s[E + 1] := ⟨_, rfl⟩
    rw [← hx] at hx1 hp1
    rw [← hy] at hx2 hp2
    have h1i : (E : Int) + 1 < s.length := by omega
    clear hx hy
    by_cases h46 : x.toNat = 46
    · have b46 : ((x.toNat : Int) == 46) = true := beq_iff_eq.2 (by omega)
      cases hdg : digI (y.toNat : Int) with
      | true =>
        have HDG := Lib.hid (fun W => digit_is hdg W)
        have hpt : ptN r = true := by
          unfold ptN
          rw [HF.out.1, HF.out.2, hp1, hp2, show x = 46 from UInt8.toNat.inj (by rw [h46]; rfl)]
          simp [hdg]
        clear hp1 hp2 hdg
        have hE2 := runL_le digI s (E + 1) (by omega)
        have HR2 := Lib.hid (show ∀ W, Calls Try.prog 12 #[.string (str s), .int .i64 ((E : Int) + 1), .func (.func 16) #[] #[]] W fun e w' => e = .returned (.int .i64 (runL digI s (E + 1) : Nat)) ∧ W = w' from
          fun W => run_any 16 digI s (E + 1) W hs (by omega) (fun args w => by simp [go_sem]) (fun c w => digit_any c w))
        obtain ⟨E2, hE2e⟩ : ∃ E2, E2 = runL digI s (E + 1) := ⟨_, rfl⟩
        rw [← hE2e] at HR2 hE2
        obtain ⟨T, hT⟩ : ∃ T, T = nmTxt r := ⟨_, rfl⟩
        have hnl : nmLen r = E2 - k := by
          unfold nmLen
          rw [hpt, if_pos rfl, hE2e, HQ.out.1, List.drop_drop]
          have := HQ.out.2
          rw [HQ.out.1] at this
          rw [show k + (dgN (s.drop k) + 1) = E + 1 by omega, run_dgN]
          omega
        have hsl2 : List.take (E2 - k) (List.drop k s) = T := by rw [hT, ← HQ.out.1]; unfold nmTxt; rw [hnl]
        have htl : T.length ≤ 1048576 := by rw [← hsl2, List.length_take, List.length_drop]; omega
        obtain ⟨v, hv⟩ : ∃ v, rpB T = v := ⟨_, rfl⟩
        obtain ⟨z, hz⟩ : ∃ z, rpF T = z := ⟨_, rfl⟩
        have HPA := Lib.hid (show ∀ W, Calls Try.prog 19 #[.string (str T)] W fun e w' => e = .returned (.tuple #[.int .u64 (v : Int), .int .i64 z]) ∧ Below W.heap.size W w' from fun W => by rw [← hv, ← hz]; exact rparse_any T htl W)
        have HV := Lib.hid (show nmK r = 3 ∧ nmT r = 3 ∧ nmV r = (v : Int) ∧ nmOk r = (z == 0) from by unfold nmK nmT nmV nmOk; rw [hpt, if_pos rfl, if_pos rfl, if_pos rfl, if_pos rfl, ← hT, hv, hz]; exact ⟨rfl, rfl, rfl, rfl⟩)
        have HTT := Lib.hid hT
        have f1 : E2 ≤ s.length := hE2.2
        have f2 : (E2 : Int) ≤ s.length := by omega
        have f3 : k ≤ E2 := by omega
        have f4 : (k : Int) ≤ E2 := by omega
        clear hpt hT htl hv hz hnl hE2e hE2 hsl
        go_upto_region 5 with (first
          | (go_at_call 12; first | (with_reducible refine (HR1.out _).mono ?_) | (with_reducible refine (HR2.out _).mono ?_)
             rintro e w' ⟨rfl, rfl⟩)
          | (go_at_call 16; (with_reducible refine (HDG.out _).mono ?_); rintro e w' ⟨rfl, rfl⟩)
          | (go_at_call 19; (with_reducible refine (HPA.out _).mono ?_); rintro e w2 ⟨rfl, hb2⟩; have HB2 := Lib.hid (below_then HB.out hb2); have HBK2 := Lib.hid (HBK.out.below hb2 HBK.out.lt); clear hb2))
        go_wp2_with (refine wpList_store_mid rfl 33 (.tmp 4) (.tmp 51) rfl g 0 (tkC 3 T k 3 v) rfl rfl (HBK2.out.there (Nat.le_refl 5)) (by kernel_rfl) (by kernel_rfl) ?_)
        (try simp (config := { zetaDelta := true }) only [Exit.inBlock, Exit.then])
        refine bodyPost_ret (v := .tuple #[.agg (tkC 3 T k 3 v), .bool (z == 0)]) (results_ct g 33 (tkC 3 T k 3 v) (0, 0) _ rfl rfl rfl (HBK2.out.setCells [.int .i64 3, .string (str T), .int .i64 (k : Int), .int .u8 3, .int .u64 (v : Int)] rfl) Try.underlying33 rfl (by kernel_rfl)) rfl ?_
        rw [HV.out.1, HV.out.2.1, HV.out.2.2.1, HV.out.2.2.2, ← HTT.out]
        exact ⟨rfl, below_cells (Nat.le_of_eq HG.out.symm) _ _ HB2.out⟩
      | false =>
        have HDG := Lib.hid (fun W => digit_is hdg W)
        have hpt : ptN r = false := by
          unfold ptN
          rw [HF.out.1, hp2]
          simp [hdg]
        clear hp1 hp2 hdg
        obtain ⟨T, hT⟩ : ∃ T, T = nmTxt r := ⟨_, rfl⟩
        have hT2 : T = r.take (dgN r) := by rw [hT]; unfold nmTxt nmLen; rw [hpt, if_neg (by decide)]
        have HV := Lib.hid (show nmK r = 2 ∧ nmT r = whT T ∧ nmV r = whV T ∧ nmOk r = whOk T from by unfold nmK nmT nmV nmOk; rw [hpt, if_neg (by decide), if_neg (by decide), if_neg (by decide), if_neg (by decide), hT]; exact ⟨rfl, rfl, rfl, rfl⟩)
        have htl : T.length = E - k := by rw [hT2, List.length_take]; have := dgN_le r; have := HQ.out.2; omega
        have HWH := Lib.hid (fun W => whole_any T (by omega) (by omega) (by rw [hT2]; exact dgN_all r) W)
        rw [whCells_eq] at HWH
        rw [← hT2] at hsl
        have HTT := Lib.hid hT
        clear hpt hT hT2 htl
        go_upto_region 6 with (first
          | (go_at_call 12; (with_reducible refine (HR1.out _).mono ?_); rintro e w' ⟨rfl, rfl⟩)
          | (go_at_call 16; (with_reducible refine (HDG.out _).mono ?_); rintro e w' ⟨rfl, rfl⟩))
        go_upto_region 7 with (go_at_call 20; (with_reducible refine (HWH.out _).mono ?_); rintro e w2 ⟨rfl, hb2⟩; have HB2 := Lib.hid (below_then HB.out hb2); have HBK2 := Lib.hid (HBK.out.below hb2 HBK.out.lt); clear hb2)
        obtain ⟨ty, hty⟩ : ∃ ty, ty = whT T := ⟨_, rfl⟩
        obtain ⟨va, hva⟩ : ∃ va, va = whV T := ⟨_, rfl⟩
        obtain ⟨ok, hok⟩ : ∃ ok, ok = whOk T := ⟨_, rfl⟩
        rw [← hty, ← hva, ← hok]
        rw [← hty, ← hva, ← hok] at HV
        obtain ⟨k9, hk9⟩ : ∃ k9, k9 = w2.heap.size := ⟨_, rfl⟩
        have hblk9 := Blk.new w2 31 #[.int .u8 ty, .int .u64 va]
        have hb9 := (Below.refl w2.heap.size w2).alloc (Nat.le_refl _) (.cells #[.int .u8 ty, .int .u64 va] 31)
        obtain ⟨W3, hW3⟩ : ∃ W3, W3 = w2.alloc (.cells #[.int .u8 ty, .int .u64 va] 31) := ⟨_, rfl⟩
        rw [← hW3] at hblk9 hb9 ⊢
        rw [← hk9] at hblk9
        have HB3 := Lib.hid (below_then HB2.out hb9)
        have HBK3 := Lib.hid (HBK2.out.below hb9 HBK2.out.lt)
        have HNEQ := Lib.hid (show k9 ≠ g from by have := HBK2.out.lt; omega)
        have HB9 := Lib.hid hblk9
        have HC := Lib.hid (show W3.cell? ⟨k9, 0, none⟩ = some (.int .u8 ty) ∧ W3.cell? ⟨k9, 1, none⟩ = some (.int .u64 va) from ⟨by rw [hblk9.cell]; rfl, by rw [hblk9.cell]; rfl⟩)
        rw [← hk9]
        clear hblk9 hb9 hW3 hk9 hty hva hok
        go_cut [5] (fun s5 wx => s5 = .bool ok ∧ Blk wx g 33 (tkC 2 T k ty va) ∧ Below w.heap.size w wx)
        case first =>
          refine wp_region_planS (fun W => W.cell? ⟨k9, 0, none⟩ = some (.int .u8 ty) ∧ W.cell? ⟨k9, 1, none⟩ = some (.int .u64 va)) (.take 0 <| .take 1 <| .take 2 <| .take 3 <| .take 4 <| .take 5 <| .take 6 <| .take 7 <| .run 8 <| .take 9 <| .done) (by kernel_rfl) (by kernel_rfl) (by kernel_rfl) (by kernel_rfl) (by exact HC.out) ?_
          go_wp2_with (first
            | ((with_reducible refine PlanS_isRun ?_)
               go_must (refine PlanS_store rfl rfl 33 (.tmp 4) (.tmp 68) rfl g (tkC 2 T k ty va) rfl rfl (Blk.there (w := W3.drew) HBK3.out (Nat.le_refl 5)) (by kernel_rfl) (by kernel_rfl) ⟨by rw [(Blk.farCells (w := W3.drew) HB9.out HNEQ.out _ 0).cell]; rfl, by rw [(Blk.farCells (w := W3.drew) HB9.out HNEQ.out _ 0).cell]; rfl⟩ ?_)
               simp only [Act.put])
            | ((with_reducible refine PlanS_isTake ?_); refine PlanS_take (v := ?_) rfl ?_ (fun w hSw => ?_) ?_; rotate_left 1; (focus rfl); (focus ((try dsimp only at hSw); (first | (go_simp; done) | (go_simp; with_reducible rfl)))); simp only [Act.put, List.setIfInBounds_toArray, List.set_cons_zero, List.set_cons_succ]) | ((with_reducible refine PlanS_isTake ?_); refine PlanS_skip rfl ?_ ?_; (focus rfl); simp only [Act.put, List.setIfInBounds_toArray, List.set_cons_zero, List.set_cons_succ]) | ((with_reducible refine PlanS_isRun ?_); refine PlanS_run rfl (fun K hK => ?_); go_simp) | ((with_reducible refine And.intro ?_ (PlanS_is ?_)); (focus ((exact HC.out)))) | ((with_reducible refine PlanS_alt ?_ ?_)) | ((with_reducible refine PlanS_done ?_)))
          go_meet
          case rel => exact ⟨rfl, (HBK3.out.drewN 1).setCells [.int .i64 2, .string (str T), .int .i64 (k : Int), .int .u8 ty, .int .u64 va] rfl, below_cells (Nat.le_of_eq HG.out.symm) _ _ (below_drewN HB3.out 1)⟩
        case rest =>
          obtain ⟨rfl, h3, hb5⟩ := hcut
          rename_i hK
          refine hK _ _ ?_
          refine wp_ret ?_
          simp (config := { zetaDelta := true }) only [Exit.inBlock, Exit.then]
          refine bodyPost_ret (v := .tuple #[.agg (tkC 2 T k ty va), .bool ok]) (results_ct g 33 (tkC 2 T k ty va) (0, 0) _ rfl rfl rfl h3 Try.underlying33 rfl (by kernel_rfl)) rfl ?_
          rw [HV.out.1, HV.out.2.1, HV.out.2.2.1, HV.out.2.2.2, ← HTT.out]
          exact ⟨rfl, hb5⟩
    · have b46 : ((x.toNat : Int) == 46) = false := beq_false_of_ne (by omega)
      have hpt : ptN r = false := by
        unfold ptN
        have : x ≠ 46 := fun e => h46 (by rw [e]; rfl)
        rw [HF.out.2, hp1]
        simp [this]
      clear hp1 hp2
      obtain ⟨T, hT⟩ : ∃ T, T = nmTxt r := ⟨_, rfl⟩
      have hT2 : T = r.take (dgN r) := by rw [hT]; unfold nmTxt nmLen; rw [hpt, if_neg (by decide)]
      have HV := Lib.hid (show nmK r = 2 ∧ nmT r = whT T ∧ nmV r = whV T ∧ nmOk r = whOk T from by unfold nmK nmT nmV nmOk; rw [hpt, if_neg (by decide), if_neg (by decide), if_neg (by decide), if_neg (by decide), hT]; exact ⟨rfl, rfl, rfl, rfl⟩)
      have htl : T.length = E - k := by rw [hT2, List.length_take]; have := dgN_le r; have := HQ.out.2; omega
      have HWH := Lib.hid (fun W => whole_any T (by omega) (by omega) (by rw [hT2]; exact dgN_all r) W)
      rw [whCells_eq] at HWH
      rw [← hT2] at hsl
      have HTT := Lib.hid hT
      clear hpt hT hT2 htl
      go_upto_region 6 with (first
        | (go_at_call 12; (with_reducible refine (HR1.out _).mono ?_); rintro e w' ⟨rfl, rfl⟩)
        | (go_at_call 16; (with_reducible refine (HDG.out _).mono ?_); rintro e w' ⟨rfl, rfl⟩))
      go_upto_region 7 with (go_at_call 20; (with_reducible refine (HWH.out _).mono ?_); rintro e w2 ⟨rfl, hb2⟩; have HB2 := Lib.hid (below_then HB.out hb2); have HBK2 := Lib.hid (HBK.out.below hb2 HBK.out.lt); clear hb2)
      obtain ⟨ty, hty⟩ : ∃ ty, ty = whT T := ⟨_, rfl⟩
      obtain ⟨va, hva⟩ : ∃ va, va = whV T := ⟨_, rfl⟩
      obtain ⟨ok, hok⟩ : ∃ ok, ok = whOk T := ⟨_, rfl⟩
      rw [← hty, ← hva, ← hok]
      rw [← hty, ← hva, ← hok] at HV
      obtain ⟨k9, hk9⟩ : ∃ k9, k9 = w2.heap.size := ⟨_, rfl⟩
      have hblk9 := Blk.new w2 31 #[.int .u8 ty, .int .u64 va]
      have hb9 := (Below.refl w2.heap.size w2).alloc (Nat.le_refl _) (.cells #[.int .u8 ty, .int .u64 va] 31)
      obtain ⟨W3, hW3⟩ : ∃ W3, W3 = w2.alloc (.cells #[.int .u8 ty, .int .u64 va] 31) := ⟨_, rfl⟩
      rw [← hW3] at hblk9 hb9 ⊢
      rw [← hk9] at hblk9
      have HB3 := Lib.hid (below_then HB2.out hb9)
      have HBK3 := Lib.hid (HBK2.out.below hb9 HBK2.out.lt)
      have HNEQ := Lib.hid (show k9 ≠ g from by have := HBK2.out.lt; omega)
      have HB9 := Lib.hid hblk9
      have HC := Lib.hid (show W3.cell? ⟨k9, 0, none⟩ = some (.int .u8 ty) ∧ W3.cell? ⟨k9, 1, none⟩ = some (.int .u64 va) from ⟨by rw [hblk9.cell]; rfl, by rw [hblk9.cell]; rfl⟩)
      rw [← hk9]
      clear hblk9 hb9 hW3 hk9 hty hva hok
      go_cut [5] (fun s5 wx => s5 = .bool ok ∧ Blk wx g 33 (tkC 2 T k ty va) ∧ Below w.heap.size w wx)
      case first =>
        refine wp_region_planS (fun W => W.cell? ⟨k9, 0, none⟩ = some (.int .u8 ty) ∧ W.cell? ⟨k9, 1, none⟩ = some (.int .u64 va)) (.take 0 <| .take 1 <| .take 2 <| .take 3 <| .take 4 <| .take 5 <| .take 6 <| .take 7 <| .run 8 <| .take 9 <| .done) (by kernel_rfl) (by kernel_rfl) (by kernel_rfl) (by kernel_rfl) (by exact HC.out) ?_
        go_wp2_with (first
          | ((with_reducible refine PlanS_isRun ?_)
             go_must (refine PlanS_store rfl rfl 33 (.tmp 4) (.tmp 68) rfl g (tkC 2 T k ty va) rfl rfl (Blk.there (w := W3.drew) HBK3.out (Nat.le_refl 5)) (by kernel_rfl) (by kernel_rfl) ⟨by rw [(Blk.farCells (w := W3.drew) HB9.out HNEQ.out _ 0).cell]; rfl, by rw [(Blk.farCells (w := W3.drew) HB9.out HNEQ.out _ 0).cell]; rfl⟩ ?_)
             simp only [Act.put])
          | ((with_reducible refine PlanS_isTake ?_); refine PlanS_take (v := ?_) rfl ?_ (fun w hSw => ?_) ?_; rotate_left 1; (focus rfl); (focus ((try dsimp only at hSw); (first | (go_simp; done) | (go_simp; with_reducible rfl)))); simp only [Act.put, List.setIfInBounds_toArray, List.set_cons_zero, List.set_cons_succ]) | ((with_reducible refine PlanS_isTake ?_); refine PlanS_skip rfl ?_ ?_; (focus rfl); simp only [Act.put, List.setIfInBounds_toArray, List.set_cons_zero, List.set_cons_succ]) | ((with_reducible refine PlanS_isRun ?_); refine PlanS_run rfl (fun K hK => ?_); go_simp) | ((with_reducible refine And.intro ?_ (PlanS_is ?_)); (focus ((exact HC.out)))) | ((with_reducible refine PlanS_alt ?_ ?_)) | ((with_reducible refine PlanS_done ?_)))
        go_meet
        case rel => exact ⟨rfl, (HBK3.out.drewN 1).setCells [.int .i64 2, .string (str T), .int .i64 (k : Int), .int .u8 ty, .int .u64 va] rfl, below_cells (Nat.le_of_eq HG.out.symm) _ _ (below_drewN HB3.out 1)⟩
      case rest =>
        obtain ⟨rfl, h3, hb5⟩ := hcut
        rename_i hK
        refine hK _ _ ?_
        refine wp_ret ?_
        simp (config := { zetaDelta := true }) only [Exit.inBlock, Exit.then]
        refine bodyPost_ret (v := .tuple #[.agg (tkC 2 T k ty va), .bool ok]) (results_ct g 33 (tkC 2 T k ty va) (0, 0) _ rfl rfl rfl h3 Try.underlying33 rfl (by kernel_rfl)) rfl ?_
        rw [HV.out.1, HV.out.2.1, HV.out.2.2.1, HV.out.2.2.2, ← HTT.out]
        exact ⟨rfl, hb5⟩
  · have h1i : ¬ (E : Int) + 1 < s.length := by omega
    have hpt : ptN r = false := by
      unfold ptN
      rw [HF.out.1, List.getElem?_eq_none (show s.length ≤ E + 1 by omega)]
      simp
    obtain ⟨T, hT⟩ : ∃ T, T = nmTxt r := ⟨_, rfl⟩
    have hT2 : T = r.take (dgN r) := by rw [hT]; unfold nmTxt nmLen; rw [hpt, if_neg (by decide)]
    have HV := Lib.hid (show nmK r = 2 ∧ nmT r = whT T ∧ nmV r = whV T ∧ nmOk r = whOk T from by unfold nmK nmT nmV nmOk; rw [hpt, if_neg (by decide), if_neg (by decide), if_neg (by decide), if_neg (by decide), hT]; exact ⟨rfl, rfl, rfl, rfl⟩)
    have htl : T.length = E - k := by rw [hT2, List.length_take]; have := dgN_le r; have := HQ.out.2; omega
    have HWH := Lib.hid (fun W => whole_any T (by omega) (by omega) (by rw [hT2]; exact dgN_all r) W)
    rw [whCells_eq] at HWH
    rw [← hT2] at hsl
    have HTT := Lib.hid hT
    clear hpt hT hT2 htl
    go_upto_region 6 with (first
      | (go_at_call 12; (with_reducible refine (HR1.out _).mono ?_); rintro e w' ⟨rfl, rfl⟩)
      | (go_at_call 16; (with_reducible refine (HDG.out _).mono ?_); rintro e w' ⟨rfl, rfl⟩))
    go_upto_region 7 with (go_at_call 20; (with_reducible refine (HWH.out _).mono ?_); rintro e w2 ⟨rfl, hb2⟩; have HB2 := Lib.hid (below_then HB.out hb2); have HBK2 := Lib.hid (HBK.out.below hb2 HBK.out.lt); clear hb2)
    obtain ⟨ty, hty⟩ : ∃ ty, ty = whT T := ⟨_, rfl⟩
    obtain ⟨va, hva⟩ : ∃ va, va = whV T := ⟨_, rfl⟩
    obtain ⟨ok, hok⟩ : ∃ ok, ok = whOk T := ⟨_, rfl⟩
    rw [← hty, ← hva, ← hok]
    rw [← hty, ← hva, ← hok] at HV
    obtain ⟨k9, hk9⟩ : ∃ k9, k9 = w2.heap.size := ⟨_, rfl⟩
    have hblk9 := Blk.new w2 31 #[.int .u8 ty, .int .u64 va]
    have hb9 := (Below.refl w2.heap.size w2).alloc (Nat.le_refl _) (.cells #[.int .u8 ty, .int .u64 va] 31)
    obtain ⟨W3, hW3⟩ : ∃ W3, W3 = w2.alloc (.cells #[.int .u8 ty, .int .u64 va] 31) := ⟨_, rfl⟩
    rw [← hW3] at hblk9 hb9 ⊢
    rw [← hk9] at hblk9
    have HB3 := Lib.hid (below_then HB2.out hb9)
    have HBK3 := Lib.hid (HBK2.out.below hb9 HBK2.out.lt)
    have HNEQ := Lib.hid (show k9 ≠ g from by have := HBK2.out.lt; omega)
    have HB9 := Lib.hid hblk9
    have HC := Lib.hid (show W3.cell? ⟨k9, 0, none⟩ = some (.int .u8 ty) ∧ W3.cell? ⟨k9, 1, none⟩ = some (.int .u64 va) from ⟨by rw [hblk9.cell]; rfl, by rw [hblk9.cell]; rfl⟩)
    rw [← hk9]
    clear hblk9 hb9 hW3 hk9 hty hva hok
    go_cut [5] (fun s5 wx => s5 = .bool ok ∧ Blk wx g 33 (tkC 2 T k ty va) ∧ Below w.heap.size w wx)
    case first =>
      refine wp_region_planS (fun W => W.cell? ⟨k9, 0, none⟩ = some (.int .u8 ty) ∧ W.cell? ⟨k9, 1, none⟩ = some (.int .u64 va)) (.take 0 <| .take 1 <| .take 2 <| .take 3 <| .take 4 <| .take 5 <| .take 6 <| .take 7 <| .run 8 <| .take 9 <| .done) (by kernel_rfl) (by kernel_rfl) (by kernel_rfl) (by kernel_rfl) (by exact HC.out) ?_
      go_wp2_with (first
        | ((with_reducible refine PlanS_isRun ?_)
           go_must (refine PlanS_store rfl rfl 33 (.tmp 4) (.tmp 68) rfl g (tkC 2 T k ty va) rfl rfl (Blk.there (w := W3.drew) HBK3.out (Nat.le_refl 5)) (by kernel_rfl) (by kernel_rfl) ⟨by rw [(Blk.farCells (w := W3.drew) HB9.out HNEQ.out _ 0).cell]; rfl, by rw [(Blk.farCells (w := W3.drew) HB9.out HNEQ.out _ 0).cell]; rfl⟩ ?_)
           simp only [Act.put])
        | ((with_reducible refine PlanS_isTake ?_); refine PlanS_take (v := ?_) rfl ?_ (fun w hSw => ?_) ?_; rotate_left 1; (focus rfl); (focus ((try dsimp only at hSw); (first | (go_simp; done) | (go_simp; with_reducible rfl)))); simp only [Act.put, List.setIfInBounds_toArray, List.set_cons_zero, List.set_cons_succ]) | ((with_reducible refine PlanS_isTake ?_); refine PlanS_skip rfl ?_ ?_; (focus rfl); simp only [Act.put, List.setIfInBounds_toArray, List.set_cons_zero, List.set_cons_succ]) | ((with_reducible refine PlanS_isRun ?_); refine PlanS_run rfl (fun K hK => ?_); go_simp) | ((with_reducible refine And.intro ?_ (PlanS_is ?_)); (focus ((exact HC.out)))) | ((with_reducible refine PlanS_alt ?_ ?_)) | ((with_reducible refine PlanS_done ?_)))
      go_meet
      case rel => exact ⟨rfl, (HBK3.out.drewN 1).setCells [.int .i64 2, .string (str T), .int .i64 (k : Int), .int .u8 ty, .int .u64 va] rfl, below_cells (Nat.le_of_eq HG.out.symm) _ _ (below_drewN HB3.out 1)⟩
    case rest =>
      obtain ⟨rfl, h3, hb5⟩ := hcut
      rename_i hK
      refine hK _ _ ?_
      refine wp_ret ?_
      simp (config := { zetaDelta := true }) only [Exit.inBlock, Exit.then]
      refine bodyPost_ret (v := .tuple #[.agg (tkC 2 T k ty va), .bool ok]) (results_ct g 33 (tkC 2 T k ty va) (0, 0) _ rfl rfl rfl h3 Try.underlying33 rfl (by kernel_rfl)) rfl ?_
      rw [HV.out.1, HV.out.2.1, HV.out.2.2.1, HV.out.2.2.2, ← HTT.out]
      exact ⟨rfl, hb5⟩
end Go.Proofs.Ytiacalnkmnckjaa
