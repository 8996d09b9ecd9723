/- What Parse answers, the program's. Conditions: those in the theorem. -/
import Derived.Test.YtldkcfhigcmoaaaDoorProtoP
import Derived.Deep.CutBlock
import Derived.Deep.DeepCutAuto
namespace Go.Proofs.YtldkcfhigcmoaaaDoor
open Go.RowKit Go.As
set_option linter.unusedVariables false

/-- a request's cells -/
def rqC (k : Int) (tv : Value) (id sp wk ln : Int) : Array Value := #[.int .i64 k, tv, .int .i64 id, .int .i64 sp, .int .i64 wk, .int .i64 ln]
def rq0 : Array Value := rqC 0 (.slice none 0 0) 0 0 0 0
def TokAt (w : World) (tv : Value) (l : List UInt8) : Prop := ∃ a n c, tv = .slice a n c ∧ Sl w 1 a n (byt l)
theorem TokAt.below {w w' : World} {tv : Value} {l : List UInt8} (h : TokAt w tv l) (hb : Below w.heap.size w w') : TokAt w' tv l := by
  obtain ⟨a, n, c, h1, h2⟩ := h
  exact ⟨a, n, c, h1, h2.below hb⟩
/-- a token in a block above lo -/
def TokN (lo : Nat) (w : World) (tv : Value) (l : List UInt8) : Prop := ∃ a n c, tv = .slice a n c ∧ Sl w 1 a n (byt l) ∧ ∀ ad, a = some ad → lo < ad.block
theorem TokN.only {lo : Nat} {w w' : World} {tv : Value} {l : List UInt8} {F : Nat → Prop} (h : TokN lo w tv l) (ho : Only F w w') (hF : ∀ j, F j → j ≤ lo) : TokN lo w' tv l := by
  obtain ⟨a, n, c, h1, h2, h3⟩ := h
  exact ⟨a, n, c, h1, h2.only ho (fun ad e hf => by have := h3 ad e; have := hF _ hf; omega), h3⟩
theorem TokN.tok {lo : Nat} {w : World} {tv : Value} {l : List UInt8} (h : TokN lo w tv l) : TokAt w tv l := by
  obtain ⟨a, n, c, h1, h2, -⟩ := h
  exact ⟨a, n, c, h1, h2⟩
theorem TokN.nil (lo : Nat) (w : World) : TokN lo w (.slice none 0 0) [] := ⟨none, 0, 0, rfl, Sl.empty _ _ _, fun ad e => by cases e⟩
theorem rqC_set1 (k : Int) (tv u : Value) (a b c d : Int) : (rqC k tv a b c d).setIfInBounds 1 u = rqC k u a b c d := rfl
theorem rqC_set2 (k : Int) (tv : Value) (a b c d u : Int) : (rqC k tv a b c d).setIfInBounds 2 (.int .i64 u) = rqC k tv u b c d := rfl
theorem rqC_set345 (k : Int) (tv : Value) (a b c d x y z : Int) : (((rqC k tv a b c d).setIfInBounds 3 (.int .i64 x)).setIfInBounds 4 (.int .i64 y)).setIfInBounds 5 (.int .i64 z) = rqC k tv a x y z := rfl
/-- what is read of a line -/
structure PR where
  kind : Int
  tok : List UInt8
  id : Int
  sp : Int
  wk : Int
  ln : Int
  err : Int
def pBad (e : Int) : PR := ⟨0, [], 0, 0, 0, 0, e⟩
def pTok (s : List UInt8) : List UInt8 := (unhexL (wd (JWS s) 1)).getD []
def prK (s : List UInt8) (k : Int) : PR :=
  if k = 1 then (if hexE (wd (JWS s) 1) = 0 ∧ 1 ≤ (pTok s).length ∧ (pTok s).length ≤ 64 then ⟨1, pTok s, 0, 0, 0, 0, 0⟩ else pBad 2)
  else if k = 2 then (if (rjNum s 1 1 1099511627776 && rjNum s 2 1 1024 && rjNum s 3 1 512) = true then ⟨2, [], 0, rjX s 1 1099511627776, rjX s 2 1024, rjX s 3 512, 0⟩ else pBad 2)
  else if k = 4 ∨ k = 8 ∨ k = 9 then ⟨k, [], 0, 0, 0, 0, 0⟩
  else (if rjNum s 1 1 1073741824 = true then ⟨k, [], rjX s 1 1073741824, 0, 0, 0, 0⟩ else pBad 2)
def prE (s : List UInt8) : PR :=
  if (wordsE s).1 ≠ 0 then pBad 4 else if (kdE (wd (JWS s) 0)).1 = 0 then pBad 5 else if ((JWS s).length : Int) ≠ (kdE (wd (JWS s) 0)).2 then pBad 2 else prK s (kdE (wd (JWS s) 0)).1
theorem kd_cases (x : List UInt8) : kdE x = (0, 0) ∨ kdE x = (1, 2) ∨ kdE x = (2, 4) ∨ (∃ k, kdE x = (k, 1) ∧ (k = 4 ∨ k = 8 ∨ k = 9)) ∨ (∃ k, kdE x = (k, 2) ∧ (k = 3 ∨ k = 5 ∨ k = 6 ∨ k = 7)) := by
  unfold kdE
  repeat' split
  all_goals simp


set_option maxRecDepth 100000 in
set_option maxHeartbeats 6400000 in
theorem oparse_any (s : List UInt8) (hs : s.length ≤ 1048576) (w : World) :
    Calls Tryd.prog 50 #[.string (str s)] w fun e w' => ∃ tv, e = .returned (.tuple #[.agg (rqC (prE s).kind tv (prE s).id (prE s).sp (prE s).wk (prE s).ln), .int .i64 (prE s).err]) ∧ TokAt w' tv (prE s).tok ∧ Below w.heap.size w w' := by
  obtain ⟨LL, err, hLL⟩ : ∃ LL err, wordsE s = (err, LL) := ⟨_, _, rfl⟩
  have HE := Lib.hid hLL
  clear hLL
  have hmf : ∀ fn first cap w, (Instr.makeFunc fn first cap).run Tryd.prog w = .ok (.func fn first cap) w := fun _ _ _ _ => rfl
  go_enter Tryd.func50, Tryd.ntmps50
  go_upto_region 2 with (first
    | (go_at_call 47
       refine (owords_any s _ hs).mono ?_
       rw [HE.out]
       rintro e' w1 ⟨tv, rfl, hr1, hb1⟩
       obtain ⟨ta, tc, rfl, hnc, -⟩ := own_form hr1
       have HOB := Lib.hid (own_base hr1)
       have H1 := Lib.hid (And.intro hb1 (Sl.of_own hr1))
       clear hr1 hb1))
  obtain ⟨k2, hk2⟩ : ∃ k, k = w.heap.size := ⟨_, rfl⟩
  have hb0 := H1.out.1
  have hb1 : Below w.heap.size w w1 := below_then ((Below.refl _ _).alloc (Nat.le_refl _) _) hb0
  have hlt2 : w.heap.size < w1.heap.size := Nat.lt_of_lt_of_le (by simp) hb0.size
  have h2 : Blk w1 w.heap.size 69 rq0 := (Blk.new w 69 _).belowS hb0
  have hB := below_alloc hb1 (.cells #[.slice ta LL.length tc] 62)
  have h4 := Blk.new w1 62 #[.slice ta LL.length tc]
  have h2' := h2.alloc (.cells #[.slice ta LL.length tc] 62)
  have hS := H1.out.2.below (below_alloc (Below.refl _ _) (.cells #[.slice ta LL.length tc] 62))
  rw [← hk2] at h2' hB hlt2
  simp only [← hk2]
  have HTA := Lib.hid (show ∀ ad, 0 < LL.length → ta = some ad → ad.block < w1.heap.size from fun ad h0 e => by
    obtain ⟨ad', e', hb, -⟩ := H1.out.2.2 h0
    rw [e] at e'
    injection e' with e'
    rw [e']; exact hb)
  have HB := Lib.hid hB
  have H2 := Lib.hid h2'
  have H4 := Lib.hid h4
  have HS := Lib.hid hS
  have HK2 := Lib.hid hk2
  have HLT := Lib.hid hlt2
  clear hb0 hb1 h2 hB h4 h2' hS H1 HOB
  generalize hk4 : w1.heap.size = k4 at *
  generalize (w1.alloc (.cells #[.slice ta LL.length tc] 62)) = W at *
  generalize hn : LL.length = n at *
  have HN := Lib.hid hn
  have c4 := H4.out.cell 0
  simp only [List.getElem?_toArray, List.getElem?_cons_zero] at c4
  clear hk4 hn hk2 hlt2
  by_cases he : err = 0
  · subst he
    have HJW := Lib.hid (show JWS s = LL from by unfold JWS; rw [HE.out])
    have HE0 := Lib.hid (show (wordsE s).1 = 0 from by rw [HE.out])
    have hn0 : 0 < n := by
      rcases wordsE_cases s with h | h | ⟨h, -, h2, -⟩
      · rw [h] at HE; exact absurd (congrArg Prod.fst HE.out) (by simp)
      · rw [h] at HE; exact absurd (congrArg Prod.fst HE.out) (by simp)
      · rw [← HN.out, ← HJW.out, JWS_split HE0.out]
        exact List.length_pos_iff.2 (splitW_ne s)
    clear HE
    obtain ⟨ad, u, hA, -, hu, hca⟩ := HS.out.at1 (k := 0) hn0
    rw [txs_get (wd_get (by rw [HN.out]; omega))] at hu
    obtain rfl := Option.some.inj hu
    subst hA
    have hca0 : W.cell? ad = some (.string (str (wd LL 0))) := by simpa [Addr.add] using hca
    clear hca hu
    obtain ⟨x0, hx0⟩ : ∃ x, x = wd LL 0 := ⟨_, rfl⟩
    rw [← hx0] at hca0
    have HX := Lib.hid hx0
    clear hx0
    obtain ⟨K, m, hkm⟩ : ∃ K m, kdE x0 = (K, m) := ⟨_, _, rfl⟩
    have HKD := Lib.hid hkm
    have HC := Lib.hid (show kdE (wd (JWS s) 0) = (K, m) from by rw [HJW.out, ← HX.out]; exact hkm)
    have hkc := kd_cases x0
    rw [hkm] at hkc
    have HCS := Lib.hid hkc
    clear hkm hkc
    have hni : (0 : Int) < n := by omega
    go_upto_region 5 with (first
      | (go_at_call 69
         refine (okinds_any x0 _).mono ?_
         rw [HKD.out]
         rintro e' w' ⟨rfl, rfl⟩))
    clear HKD
    by_cases hk0 : K = 0
    · have HK := Lib.hid (show prE s = pBad 5 from by unfold prE; rw [HE0.out, HC.out, hk0]; rfl)
      subst hk0
      clear hca0 c4
      go_upto_region 6 with fail
      refine wp_region_lit ?_
      refine wpList_val (.agg rq0) rfl (by kernel_rfl) ?_
      refine wpList_store_mid rfl 69 (.tmp 2) (.tmp 29) rfl k2 0 rq0 rfl rfl (H2.out.there (by decide)) (by kernel_rfl) (by kernel_rfl) ?_
      refine wpList_val (.int .i64 5) rfl (by kernel_rfl) ?_
      refine wpList_nil ?_
      simp only [Exit.then]
      rename_i hK
      refine hK _ _ ?_
      refine wp_ret ?_
      simp (config := { zetaDelta := true }) only [Exit.then, Exit.inBlock]
      refine bodyPost_ret (v := .tuple #[.agg rq0, .int .i64 5]) (results_ct k2 69 rq0 (0, 0) _ rfl rfl rfl (H2.out.setCells rq0.toList rfl) Tryd.underlying69 rfl (by kernel_rfl)) rfl ?_
      exact ⟨.slice none 0 0, by rw [HK.out]; rfl, by rw [HK.out]; exact ⟨none, 0, 0, rfl, Sl.empty _ _ _⟩, by rw [← HK2.out]; exact below_only HK2.out HB.out ((Only.refl (· = k2) _).setCells _ _ (.inl rfl)) (fun j hj => by omega)⟩
    have hkb : (K == 0) = false := by simpa using hk0
    by_cases hm : (n : Int) = m
    · have hmb : ((n : Int) != m) = false := by simpa using hm
      have HP := Lib.hid (show prE s = prK s K from by
        unfold prE
        rw [HE0.out, HC.out, HJW.out, HN.out]
        simp only
        rw [if_neg (by simp), if_neg hk0, if_neg (by simpa using hm)])
      have HM := Lib.hid hm
      clear hk0 hm
      go_upto_block 1 with fail
      have h8 := (Blk.new W 4 #[.bool false]).alloc (.cells #[.int .i64 K, .slice none 0 0, .int .i64 0, .int .i64 0, .int .i64 0, .int .i64 0] 69)
      have h10 : Blk ((W.alloc (.cells #[.bool false] 4)).alloc (.cells #[.int .i64 K, .slice none 0 0, .int .i64 0, .int .i64 0, .int .i64 0, .int .i64 0] 69)) (W.heap.size + 1) 69 (rqC K (.slice none 0 0) 0 0 0 0) := by
        have := Blk.new (W.alloc (.cells #[.bool false] 4)) 69 #[.int .i64 K, .slice none 0 0, .int .i64 0, .int .i64 0, .int .i64 0, .int .i64 0]
        rwa [show (W.alloc (.cells #[.bool false] 4)).heap.size = W.heap.size + 1 by simp] at this
      have hb2 := below_alloc (below_alloc (Below.refl W.heap.size W) (.cells #[.bool false] 4)) (.cells #[.int .i64 K, .slice none 0 0, .int .i64 0, .int .i64 0, .int .i64 0, .int .i64 0] 69)
      replace HB := Lib.hid (below_only HK2.out HB.out (Only.of_below hb2 (fun _ => False)) (fun j _ h => h))
      have hadk : ad.block < W.heap.size := sl_blk HS.out hn0
      have h2l := H2.out.lt
      have h4l := H4.out.lt
      replace H2 := Lib.hid (H2.out.belowS hb2)
      replace H4 := Lib.hid (H4.out.belowS hb2)
      replace HS := Lib.hid (HS.out.below hb2)
      have HWL := Lib.hid (show ∀ i, (wd LL i).length ≤ 1048576 from fun i => by have := wd_len (s := s) i; rw [HJW.out] at this; omega)
      clear c4 hca0 hb2
      generalize hk8 : W.heap.size = k8 at *
      generalize ((W.alloc (.cells #[.bool false] 4)).alloc (.cells #[.int .i64 K, .slice none 0 0, .int .i64 0, .int .i64 0, .int .i64 0, .int .i64 0] 69)) = W5 at *
      have H8 := Lib.hid h8
      have H10 := Lib.hid h10
      have HLK := Lib.hid (And.intro h2l (And.intro h4l hadk))
      clear h8 h10 h2l h4l hadk hk8
      go_cut [5] (fun s5 wx => ∃ (bd : Bool) (tv : Value) (tok : List UInt8) (ii sp wk ln : Int), Blk wx k8 4 #[.bool bd] ∧ Blk wx (k8 + 1) 69 (rqC K tv ii sp wk ln) ∧ TokN (k8 + 1) wx tv tok ∧ Only (fun b => b = k8 ∨ b = k8 + 1) W5 wx ∧ (bd = false → prE s = ⟨K, tok, ii, sp, wk, ln, 0⟩) ∧ (bd = true → prE s = pBad 2))
      case first =>
        have hlk := HLK.out
        have c4 := H4.out.cell 0
        have c8 := H8.out.cell 0
        have f8 := H8.out.frozen 0
        simp only [List.getElem?_toArray, List.getElem?_cons_zero] at c4 c8
        rcases HCS.out with h | h | h | ⟨k, h, hkk⟩ | ⟨k, h, hkk⟩
        · injection h with h1 h2
          rw [h1] at hkb; simp at hkb
        · injection h with h1 h2
          subst h1 h2
          have hn2 : n = 2 := by have := HM.out; omega
          subst hn2
          obtain ⟨ad2, v2, e2, -, hu2, c1⟩ := HS.out.at1 (k := 1) (by omega)
          rw [txs_get (wd_get (by rw [HN.out]; omega))] at hu2
          obtain rfl := Option.some.inj hu2
          injection e2 with e2
          subst e2
          obtain ⟨x1, hx1⟩ : ∃ x, x = wd LL 1 := ⟨_, rfl⟩
          rw [← hx1] at c1
          have c1' : W5.cell? ⟨ad.block, ad.off + 1, none⟩ = some (.string (str x1)) := by simpa [Addr.add] using c1
          have HX1 := Lib.hid (show x1.length ≤ 1048576 from by rw [hx1]; exact HWL.out 1)
          have HPT := Lib.hid (show pTok s = (unhexL x1).getD [] ∧ wd (JWS s) 1 = x1 from by unfold pTok; rw [HJW.out, ← hx1]; exact ⟨rfl, rfl⟩)
          obtain ⟨E, hE⟩ : ∃ E, E = hexE x1 := ⟨_, rfl⟩
          obtain ⟨T, hT⟩ : ∃ T, T = (unhexL x1).getD [] := ⟨_, rfl⟩
          have HET := Lib.hid (And.intro hE hT)
          clear hu2 hx1 hE hT hlk
          go_upto_region 16 with (first
            | (go_at_call 30
               refine (oreadhex_any x1 _ HX1.out).mono ?_
               rw [← HET.out.1, ← HET.out.2]
               rintro e' w3 ⟨v, rm, rfl, hr, hb⟩
               obtain ⟨ta, tn, tc, rfl, htn, -, -⟩ := hr.form2
               have d1 := (H10.out.belowS hb).cell 1
               have g1 := (H10.out.belowS hb).frozen 1
               have d8 := (H8.out.belowS hb).cell 0
               have g8 := (H8.out.belowS hb).frozen 0
               simp only [List.getElem?_toArray, List.getElem?_cons_zero] at d8
               have H10' := Lib.hid (show Blk (w3.setCell ⟨k8 + 1, 1, none⟩ (.slice ta tn tc)) (k8 + 1) 69 (rqC 1 (.slice ta tn tc) 0 0 0 0) from (H10.out.belowS hb).set_ 1 _)
               have H8' := Lib.hid (show Blk (w3.setCell ⟨k8 + 1, 1, none⟩ (.slice ta tn tc)) k8 4 #[.bool false] from (H8.out.belowS hb).far (by simp) _)
               have HO' := Lib.hid (show Only (fun b => b = k8 ∨ b = k8 + 1) W5 (w3.setCell ⟨k8 + 1, 1, none⟩ (.slice ta tn tc)) from (Only.of_below hb _).set (p := ⟨k8 + 1, 1, none⟩) (.inl (.inr rfl)) _)
               have HTK := Lib.hid (show TokN (k8 + 1) (w3.setCell ⟨k8 + 1, 1, none⟩ (.slice ta tn tc)) (.slice ta tn tc) T ∧ T.length = tn from by
                 have h0 := H10.out.lt
                 have ht : TokN (k8 + 1) w3 (.slice ta tn tc) T := ⟨ta, tn, tc, rfl, by rw [htn]; exact hr.sl, fun ad e => by
                   have := (hr.lt ad.block (by rw [e]; rfl)).1
                   omega⟩
                 exact ⟨ht.only ((Only.refl (· = k8 + 1) w3).set (p := ⟨k8 + 1, 1, none⟩) (.inl rfl) _) (fun j hj => by omega), htn.symm⟩)
               clear hr hb htn))
          by_cases hE0 : E = 0
          · by_cases ht1 : (tn : Int) < 1
            · have HQ := Lib.hid (show prE s = pBad 2 from by
                rw [HP.out]; unfold prK
                rw [if_pos rfl, if_neg (fun h => by have := h.2.1; rw [HPT.out.1, ← HET.out.2, HTK.out.2] at this; omega)])
              have hEb : (E != 0) = false := by simpa using hE0
              clear hE0
              go_wp2_with fail
              go_meet
              case rel => exact ⟨true, .slice ta tn tc, T, 0, 0, 0, 0, H8'.out.set_ 0 (.bool true), H10'.out.far (by simp) _, HTK.out.1.only ((Only.refl (· = k8) _).set (p := ⟨k8, 0, none⟩) (.inl rfl) _) (fun j hj => by omega), HO'.out.set (p := ⟨k8, 0, none⟩) (.inl (.inl rfl)) _, fun h => (by cases h), fun _ => HQ.out⟩
            by_cases ht2 : (64 : Int) < tn
            · have HQ := Lib.hid (show prE s = pBad 2 from by
                rw [HP.out]; unfold prK
                rw [if_pos rfl, if_neg (fun h => by have := h.2.2; rw [HPT.out.1, ← HET.out.2, HTK.out.2] at this; omega)])
              have hEb : (E != 0) = false := by simpa using hE0
              clear hE0
              go_wp2_with fail
              go_meet
              case rel => exact ⟨true, .slice ta tn tc, T, 0, 0, 0, 0, H8'.out.set_ 0 (.bool true), H10'.out.far (by simp) _, HTK.out.1.only ((Only.refl (· = k8) _).set (p := ⟨k8, 0, none⟩) (.inl rfl) _) (fun j hj => by omega), HO'.out.set (p := ⟨k8, 0, none⟩) (.inl (.inl rfl)) _, fun h => (by cases h), fun _ => HQ.out⟩
            · have HQ := Lib.hid (show prE s = ⟨1, T, 0, 0, 0, 0, 0⟩ from by
                rw [HP.out]; unfold prK
                rw [if_pos rfl, if_pos ⟨by rw [HPT.out.2, ← HET.out.1]; exact hE0, by rw [HPT.out.1, ← HET.out.2, HTK.out.2]; omega, by rw [HPT.out.1, ← HET.out.2, HTK.out.2]; omega⟩, HPT.out.1, ← HET.out.2])
              have hEb : (E != 0) = false := by simpa using hE0
              have ht3 : decide ((64 : Int) < tn) = false := by simpa using ht2
              clear hE0
              go_wp2_with fail
              go_meet
              case rel => exact ⟨false, .slice ta tn tc, T, 0, 0, 0, 0, by first | exact H8'.out.set_ 0 (.bool false) | (rw [ht3]; exact H8'.out.set_ 0 (.bool false)), H10'.out.far (by simp) _, HTK.out.1.only ((Only.refl (· = k8) _).set (p := ⟨k8, 0, none⟩) (.inl rfl) _) (fun j hj => by omega), HO'.out.set (p := ⟨k8, 0, none⟩) (.inl (.inl rfl)) _, fun _ => HQ.out, fun h => (by cases h)⟩
          · have HQ := Lib.hid (show prE s = pBad 2 from by
              rw [HP.out]; unfold prK
              rw [if_pos rfl, if_neg (fun h => by have := h.1; rw [HPT.out.2, ← HET.out.1] at this; exact hE0 this)])
            have hEb : (E != 0) = true := by simpa using hE0
            clear hE0
            go_wp2_with fail
            go_meet
            case rel => exact ⟨true, .slice ta tn tc, T, 0, 0, 0, 0, H8'.out.set_ 0 (.bool true), H10'.out.far (by simp) _, HTK.out.1.only ((Only.refl (· = k8) _).set (p := ⟨k8, 0, none⟩) (.inl rfl) _) (fun j hj => by omega), HO'.out.set (p := ⟨k8, 0, none⟩) (.inl (.inl rfl)) _, fun h => (by cases h), fun _ => HQ.out⟩
        · injection h with h1 h2
          subst h1 h2
          have hn4 : n = 4 := by have := HM.out; omega
          subst hn4
          have c3 := H10.out.cell 3
          have c5 := H10.out.cell 4
          have c6 := H10.out.cell 5
          have f3 := H10.out.frozen
          have HOO := Lib.hid (Only.refl (fun b => b = k8 ∨ b = k8 + 1) W5)
          clear c4 c8 f8 hlk
          go_wp2_with (go_at_call 70
                       refine (opnum_any _ _ (some ad) 4 tc k4 k8 _ LL _ H4.out H8.out HS.out HN.out (by decide) (by decide) (by decide) (fun i => Nat.le_trans (HWL.out i) (by decide)) (by decide) (by decide)).mono ?_
                       rintro e' W1 ⟨rfl, ho, h8⟩
                       replace H8 := Lib.hid h8
                       replace H4 := Lib.hid (H4.out.only ho (by have := HLK.out; omega))
                       replace H10 := Lib.hid (H10.out.only ho (by simp))
                       replace HS := Lib.hid (HS.out.only ho (fun ad' e => by injection e with e; subst e; have := HLK.out; omega))
                       replace HOO := Lib.hid (HOO.out.trans ho (fun j _ h => Or.inl h))
                       replace c3 := H10.out.cell 3
                       replace c5 := H10.out.cell 4
                       replace c6 := H10.out.cell 5
                       replace f3 := H10.out.frozen
                       clear ho h8)
          go_meet
          case rel =>
            refine ⟨(false || !numOk (wd LL 1) 1 1099511627776) || !numOk (wd LL 2) 1 1024 || !numOk (wd LL 3) 1 512, .slice none 0 0, [], 0, (rdE (wd LL 1) 1099511627776).1, (rdE (wd LL 2) 1024).1, (rdE (wd LL 3) 512).1, ((H8.out.far (p := ⟨k8 + 1, 3, none⟩) (by simp) _).far (p := ⟨k8 + 1, 4, none⟩) (by simp) _).far (p := ⟨k8 + 1, 5, none⟩) (by simp) _,
              ((H10.out.set_ 3 _).set_ 4 _).set_ 5 _, TokN.nil _ _, ((HOO.out.set (p := ⟨k8 + 1, 3, none⟩) (.inl (.inr rfl)) _).set (p := ⟨k8 + 1, 4, none⟩) (.inl (.inr rfl)) _).set (p := ⟨k8 + 1, 5, none⟩) (.inl (.inr rfl)) _, fun h => ?_, fun h => ?_⟩
            · rw [HP.out]; unfold prK
              rw [if_neg (by decide), if_pos rfl, if_pos (by unfold rjNum; rw [HJW.out]; simpa [and_assoc] using h)]
              unfold rjX
              rw [HJW.out]
            · rw [HP.out]; unfold prK
              rw [if_neg (by decide), if_pos rfl, if_neg (fun g => by unfold rjNum at g; rw [HJW.out] at g; simp at g h; rcases h with (h | h) | h <;> simp [h] at g)]
        · injection h with h1 h2
          have HL4 := Lib.hid (show prE s = ⟨K, [], 0, 0, 0, 0, 0⟩ from by
            rw [HP.out]; unfold prK
            rw [if_neg (by omega), if_neg (by omega), if_pos (by rw [h1]; exact hkk)])
          rcases hkk with hk | hk | hk
          · rw [hk] at h1
            subst h1
            clear h2 hk
            go_wp2_with fail
            go_meet
            case rel => exact ⟨false, .slice none 0 0, [], 0, 0, 0, 0, H8.out, H10.out, TokN.nil _ _, Only.refl _ _, fun _ => HL4.out, fun h => (by cases h)⟩
          · rw [hk] at h1
            subst h1
            clear h2 hk
            go_wp2_with fail
            go_meet
            case rel => exact ⟨false, .slice none 0 0, [], 0, 0, 0, 0, H8.out, H10.out, TokN.nil _ _, Only.refl _ _, fun _ => HL4.out, fun h => (by cases h)⟩
          · rw [hk] at h1
            subst h1
            clear h2 hk
            go_wp2_with fail
            go_meet
            case rel => exact ⟨false, .slice none 0 0, [], 0, 0, 0, 0, H8.out, H10.out, TokN.nil _ _, Only.refl _ _, fun _ => HL4.out, fun h => (by cases h)⟩
        · injection h with h1 h2
          rw [← h1] at hkk
          have hn2 : n = 2 := by have := HM.out; omega
          subst hn2
          have q1 : (K == 1) = false := by simp; omega
          have q2 : (K == 2) = false := by simp; omega
          have q4 : (K == 4) = false := by simp; omega
          have q8 : (K == 8) = false := by simp; omega
          have q9 : (K == 9) = false := by simp; omega
          have HPK := Lib.hid (show prE s = (if rjNum s 1 1 1073741824 = true then ⟨K, [], rjX s 1 1073741824, 0, 0, 0, 0⟩ else pBad 2) from by
            rw [HP.out]; unfold prK
            rw [if_neg (by omega), if_neg (by omega), if_neg (by omega)])
          have c2 := H10.out.cell 2
          have f2 := H10.out.frozen
          have HOO := Lib.hid (Only.refl (fun b => b = k8 ∨ b = k8 + 1) W5)
          clear c4 c8 f8 hlk h1 h2 hkk
          go_wp2_with (go_at_call 70
                       refine (opnum_any _ _ (some ad) 2 tc k4 k8 _ LL _ H4.out H8.out HS.out HN.out (by decide) (by decide) (by decide) (fun i => Nat.le_trans (HWL.out i) (by decide)) (by decide) (by decide)).mono ?_
                       rintro e' W1 ⟨rfl, ho, h8⟩
                       replace H8 := Lib.hid h8
                       replace H4 := Lib.hid (H4.out.only ho (by have := HLK.out; omega))
                       replace H10 := Lib.hid (H10.out.only ho (by simp))
                       replace HS := Lib.hid (HS.out.only ho (fun ad' e => by injection e with e; subst e; have := HLK.out; omega))
                       replace HOO := Lib.hid (HOO.out.trans ho (fun j _ h => Or.inl h))
                       replace c2 := H10.out.cell 2
                       replace f2 := H10.out.frozen
                       clear ho h8)
          go_meet
          case rel =>
            refine ⟨(false || !numOk (wd LL 1) 1 1073741824), .slice none 0 0, [], (rdE (wd LL 1) 1073741824).1, 0, 0, 0, H8.out.far (p := ⟨k8 + 1, 2, none⟩) (by simp) _, H10.out.set_ 2 _, TokN.nil _ _, HOO.out.set (p := ⟨k8 + 1, 2, none⟩) (.inl (.inr rfl)) _, fun h => ?_, fun h => ?_⟩
            · rw [HPK.out, if_pos (by unfold rjNum; rw [HJW.out]; simpa using h)]
              unfold rjX
              rw [HJW.out]
            · rw [HPK.out, if_neg (fun g => by unfold rjNum at g; rw [HJW.out] at g; simp [g] at h)]
      case rest =>
        obtain ⟨bd, tv, tok, ii, sp, wk, ln, h8, h10, htk, ho, p1, p2⟩ := hcut
        have hlk := HLK.out
        obtain ⟨W, hWc⟩ : ∃ W, W = wc := ⟨_, rfl⟩
        subst hWc
        replace H2 := Lib.hid (H2.out.only ho (by omega))
        replace HB := Lib.hid (below_only HK2.out HB.out ho (fun j hj => by have := HLT.out; omega))
        have c8 := h8.cell 0
        simp only [List.getElem?_toArray, List.getElem?_cons_zero] at c8
        have H10 := Lib.hid h10
        have HTK := Lib.hid htk
        have HONE := Lib.hid (show (rqC K tv ii sp wk ln).all (·.oneCell') = true from by obtain ⟨a, nn, c, rfl, -, -⟩ := htk; kernel_rfl)
        clear h8 h10 htk ho hlk
        cases bd with
        | true =>
          have HK := Lib.hid (p2 rfl)
          clear p1 p2 H10 HTK
          go_upto_region 23 with fail
          refine wp_region_lit ?_
          refine wpList_val (.agg rq0) rfl (by kernel_rfl) ?_
          refine wpList_store_mid rfl 69 (.tmp 2) (.tmp 83) rfl k2 0 rq0 rfl rfl (H2.out.there (by decide)) (by kernel_rfl) (by kernel_rfl) ?_
          refine wpList_val (.int .i64 2) rfl (by kernel_rfl) ?_
          refine wpList_nil ?_
          simp only [Exit.then]
          rename_i hK
          refine hK _ _ ?_
          refine wp_ret ?_
          simp (config := { zetaDelta := true }) only [Exit.then]
          refine bodyPost_ret (v := .tuple #[.agg rq0, .int .i64 2]) (results_ct k2 69 rq0 (0, 0) _ rfl rfl rfl (H2.out.setCells rq0.toList rfl) Tryd.underlying69 rfl (by kernel_rfl)) rfl ?_
          exact ⟨.slice none 0 0, by rw [HK.out]; rfl, by rw [HK.out]; exact ⟨none, 0, 0, rfl, Sl.empty _ _ _⟩, by rw [← HK2.out]; exact below_only HK2.out HB.out ((Only.refl (· = k2) _).setCells _ _ (.inl rfl)) (fun j hj => by omega)⟩
        | false =>
          have HK := Lib.hid (p1 rfl)
          clear p1 p2
          go_upto_region 24 with fail
          refine wp_region_lit ?_
          refine wpList_load_row rfl 69 (.tmp 10) rfl (k8 + 1) rfl 69 _ _ _ H10.out Tryd.underlying69 rfl (by kernel_rfl) ?_
          refine wpList_store_mid rfl 69 (.tmp 2) (.tmp 84) rfl k2 0 (rqC K tv ii sp wk ln) rfl rfl (H2.out.there (Nat.le_refl 6)) (by kernel_rfl) HONE.out ?_
          refine wpList_val (.int .i64 0) rfl (by kernel_rfl) ?_
          refine wpList_nil ?_
          simp only [Exit.then]
          rename_i hK
          refine hK _ _ ?_
          refine wp_ret ?_
          refine bodyPost_ret (v := .tuple #[.agg (rqC K tv ii sp wk ln), .int .i64 0]) (results_ct k2 69 (rqC K tv ii sp wk ln) (0, 0) _ rfl rfl rfl (H2.out.setCells (rqC K tv ii sp wk ln).toList rfl) Tryd.underlying69 rfl (by kernel_rfl)) rfl ?_
          exact ⟨tv, by rw [HK.out], by rw [HK.out]; exact (HTK.out.only ((Only.refl (· = k2) _).setCells _ _ (.inl rfl)) (fun j hj => by have := HLK.out; omega)).tok, by rw [← HK2.out]; exact below_only HK2.out HB.out ((Only.refl (· = k2) _).setCells _ _ (.inl rfl)) (fun j hj => by omega)⟩
    · have hmb : ((n : Int) != m) = true := by simpa using hm
      have HK := Lib.hid (show prE s = pBad 2 from by
        unfold prE
        rw [HE0.out, HC.out, HJW.out, HN.out]
        simp only
        rw [if_neg (by simp), if_neg hk0, if_pos hm])
      clear hm hk0
      go_upto_region 8 with fail
      refine wp_region_lit ?_
      refine wpList_val (.agg rq0) rfl (by kernel_rfl) ?_
      refine wpList_store_mid rfl 69 (.tmp 2) (.tmp 35) rfl k2 0 rq0 rfl rfl (H2.out.there (by decide)) (by kernel_rfl) (by kernel_rfl) ?_
      refine wpList_val (.int .i64 2) rfl (by kernel_rfl) ?_
      refine wpList_nil ?_
      simp only [Exit.then]
      rename_i hK
      refine hK _ _ ?_
      refine wp_ret ?_
      simp (config := { zetaDelta := true }) only [Exit.then, Exit.inBlock]
      refine bodyPost_ret (v := .tuple #[.agg rq0, .int .i64 2]) (results_ct k2 69 rq0 (0, 0) _ rfl rfl rfl (H2.out.setCells rq0.toList rfl) Tryd.underlying69 rfl (by kernel_rfl)) rfl ?_
      exact ⟨.slice none 0 0, by rw [HK.out]; rfl, by rw [HK.out]; exact ⟨none, 0, 0, rfl, Sl.empty _ _ _⟩, by rw [← HK2.out]; exact below_only HK2.out HB.out ((Only.refl (· = k2) _).setCells _ _ (.inl rfl)) (fun j hj => by omega)⟩
  · have heb : (err != 0) = true := by simpa using he
    have HK := Lib.hid (show prE s = pBad 4 from by unfold prE; rw [show (wordsE s).1 = err by rw [HE.out], if_pos he])
    clear he
    go_upto_region 3 with fail
    refine wp_region_lit ?_
    refine wpList_val (.agg rq0) rfl (by kernel_rfl) ?_
    refine wpList_store_mid rfl 69 (.tmp 2) (.tmp 18) rfl k2 0 rq0 rfl rfl (H2.out.there (by decide)) (by kernel_rfl) (by kernel_rfl) ?_
    refine wpList_val (.int .i64 4) rfl (by kernel_rfl) ?_
    refine wpList_nil ?_
    simp only [Exit.then]
    rename_i hK
    refine hK _ _ ?_
    refine wp_ret ?_
    simp (config := { zetaDelta := true }) only [Exit.then]
    refine bodyPost_ret (v := .tuple #[.agg rq0, .int .i64 4]) (results_ct k2 69 rq0 (0, 0) _ rfl rfl rfl (H2.out.setCells rq0.toList rfl) Tryd.underlying69 rfl (by kernel_rfl)) rfl ?_
    exact ⟨.slice none 0 0, by rw [HK.out]; rfl, by rw [HK.out]; exact ⟨none, 0, 0, rfl, Sl.empty _ _ _⟩, by rw [← HK2.out]; exact below_only HK2.out HB.out ((Only.refl (· = k2) _).setCells _ _ (.inl rfl)) (fun j hj => by omega)⟩
end Go.Proofs.YtldkcfhigcmoaaaDoor
