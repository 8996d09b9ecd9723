/- The law LineTells: lines that are fine, written one behind the other, are told as they were; a long one as such; every input. -/
import Derived.Test.YtnkbjjnopbmfnaaLineS
import Derived.Test.YtnkbjjnopbmfnaaOpenB
import Derived.Test.YtnkbjjnopbmfnaaStrB
import Derived.Test.YtnkbjjnopbmfnaaShelf4
import Derived.Deep.CutBlock
namespace Go.Proofs.Ytnkbjjnopbmfnaa
open Go.RowKit Go.As
set_option linter.unusedVariables false

theorem joined (x : List UInt8) (xs : List (List UInt8)) : Lib.join (x :: xs) [10] ++ [10] = (x :: xs).flatMap (· ++ [10]) := by
  rw [Lib.join_cons]
  have key : ∀ (r : List (List UInt8)), Lib.joinTail [10] r ++ [10] = 10 :: r.flatMap (· ++ [10]) := by
    intro r
    induction r with
    | nil => rfl
    | cons y r ih =>
      simp only [Lib.joinTail, List.map_cons, List.flatten_cons, List.append_assoc, List.flatMap_cons] at ih ⊢
      rw [ih]
      simp
  rw [List.append_assoc, key]
  simp
theorem join_any (A : Option Addr) (n c : Nat) (xs : List (List UInt8)) (w : World) (ha : Sl w 1 A n (xs.flatMap strC)) (hl : xs.length = n) (hnc : n ≤ c) (hN : n ≤ 140737488355328) (hlen : (Lib.join xs [10]).length ≤ 140737488355328) :
    Calls Try.prog 36 #[.slice A n c, .string { data := #[10] }] w fun e w' => e = .returned (.string (str (Lib.join xs [10]))) ∧ Below w.heap.size w w' := by
  rcases Nat.eq_zero_or_pos n with h0 | h0
  · subst h0
    obtain rfl : xs = [] := List.eq_nil_of_length_eq_zero hl
    exact (Try.strings_Join_none A c _ w).mono fun e w' ⟨h1, h2⟩ => ⟨h1, by rw [h2]; exact Below.refl _ _⟩
  · obtain ⟨ad, rfl, hb, hc⟩ := ha.2 h0
    have hx : ∀ (j : Nat) x, xs[j]? = some x → w.cell? (ad.add j) = some (.string (str x)) := by
      intro j x h
      refine hc j _ ?_
      have := flat_at strC 1 (fun _ => rfl) h 0 (by omega)
      simpa [strC] using this
    have h00 := hx 0 _ (List.getElem?_eq_getElem (by omega))
    have hsp : ad.spot = none := by
      have := World.cell?_spot h00
      simpa [Addr.add] using this
    obtain ⟨bk, o, sp⟩ := ad
    simp only at hsp hb
    subst hsp
    have hm : (xs.map str).map (·.data.toList) = xs := by
      rw [List.map_map]
      conv => rhs; rw [← List.map_id xs]
      apply List.map_congr_left
      intro l _
      simp [str_data]
    have := Try.strings_Join bk o c (xs.map str) ⟨#[10]⟩ w (by
      intro j x h
      rw [List.getElem?_map, Option.map_eq_some_iff] at h
      obtain ⟨y, hy, rfl⟩ := h
      have := hx j y hy
      have e : (⟨bk, o, none⟩ : Addr).add j = ⟨bk, o + j, none⟩ := by unfold Addr.add; split <;> simp_all
      rwa [e] at this) hb (by simpa [hl] using hN) (by simpa [hl] using hnc) (by rw [hm]; exact hlen)
    rw [hm, List.length_map, hl] at this
    exact this

/-- what is told of a fine line -/
def wantL (lim : Nat) (l : List UInt8) : Ln := if lim < l.length then (1, []) else (0, l)
theorem fine_no {l : List UInt8} (h : l.all fineB = true) : (10 : UInt8) ∉ l := by
  intro hm
  have := List.all_eq_true.1 h 10 hm
  exact absurd this (by decide)
theorem tells (lim : Nat) : ∀ (xs : List (List UInt8)), (∀ l ∈ xs, l.all fineB = true) → feedB lim ([], false) (xs.flatMap (· ++ [10])) = (xs.map (wantL lim), ([], false)) := by
  intro xs
  induction xs with
  | nil => intro _; rfl
  | cons l r ih =>
    intro h
    have hl := h l (by simp)
    have hr := ih (fun x hx => h x (by simp [hx]))
    rw [List.flatMap_cons, List.append_assoc, List.singleton_append, feedB_line, feedB_plain lim l [] (fine_no hl) (by simp), hr]
    simp only [List.length_nil, Nat.zero_add, List.nil_append, List.map_cons]
    by_cases hf : lim < l.length
    · simp [hf, wantL]
    · simp [hf, wantL, toldL, hl]
theorem flat_len (xs : List (List UInt8)) (h : ∀ l ∈ xs, l.length ≤ 300) : (xs.flatMap (· ++ [10])).length ≤ xs.length * 301 := by
  induction xs with
  | nil => simp
  | cons l r ih =>
    have := ih (fun x hx => h x (by simp [hx]))
    have := h l (by simp)
    simp only [List.flatMap_cons, List.length_append, List.length_cons, List.length_nil]
    omega
theorem LS.grow {w0 w w' : World} {top b lim : Nat} {cur : List UInt8} {over : Bool} {u : Value} {us : List Ln} (h : LS w0 w top b lim cur over) (hu : LnRow w w0 u us) (hO : Only (fun k => u.ownBlock = some k) w w') : LS w0 w' top b lim cur over := by
  obtain ⟨v, rm, h1, h2, h3, h4, h5⟩ := h
  refine ⟨v, rm, h1.only hO ?_, h2, hO.below' h3 (fun k hk hf => by have := (hu.lt k hf).1; omega), Nat.le_trans h4 hO.size, h5⟩
  rintro k (rfl | e) hk
  · exact own_ne hu h1.1 (by decide) hk
  · exact own_ne hu (h1.2.blk e) (by decide) hk


set_option maxRecDepth 100000 in
set_option maxHeartbeats 6400000 in
theorem lineTells_walk (limit : Int) (wl : (Lit.int .i64 limit).wf = true) (x : SArg) (w : World) (ox : StrsAt w x) :
    Calls Try.prog 9 #[.int .i64 limit, .slice x.1 x.2.1 x.2.2.1] w fun e w' => e = .returned (.bool true) ∧ Below w.heap.size w w' := by
  obtain ⟨A, n, c, xs⟩ := x
  obtain ⟨hl, hnc, hcm, -, hx, ha⟩ := ox
  simp only at hl hnc hcm hx ha
  have hn : n ≤ 9223372036854775807 := by simp only [maxLen] at hcm; omega
  clear wl
  by_cases hbad : limit < 16 ∨ 200 < limit ∨ 40 < n
  · have HA := Lib.hid (lawake_ok w)
    clear ha hl hnc hcm hx
    by_cases h0 : limit < 16
    · go_enter Try.func9, Try.ntmps9
      go_wp2_with (go_at_call 25; refine HA.out.mono ?_; rintro e w' ⟨rfl, hb⟩)
      go_ret
      exact ⟨rfl, hb⟩
    by_cases h1 : 200 < limit
    · go_enter Try.func9, Try.ntmps9
      go_wp2_with (go_at_call 25; refine HA.out.mono ?_; rintro e w' ⟨rfl, hb⟩)
      go_ret
      exact ⟨rfl, hb⟩
    have h2 : 40 < n := by omega
    go_enter Try.func9, Try.ntmps9
    go_wp2_with (go_at_call 25; refine HA.out.mono ?_; rintro e w' ⟨rfl, hb⟩)
    go_ret
    exact ⟨rfl, hb⟩
  obtain ⟨lim, rfl⟩ : ∃ lim : Nat, limit = lim := ⟨limit.toNat, by omega⟩
  have hlo : 16 ≤ lim := by omega
  have hh2 : lim ≤ 200 := by omega
  have hn40 : n ≤ 40 := by omega
  have HA := Lib.hid (And.intro ha (And.intro hl (And.intro hx hnc)))
  clear ha hl hx hcm hbad hn hnc
  have kb := fun (w : World) (l : List UInt8) => Lib.run_convert_string_bytes (P := Try.prog) w 9 33 5 (str l) Try.underlying9 Try.underlying33 Try.underlying5
  go_enter Try.func9, Try.ntmps9
  go_wp2_with fail
  refine (lawake_ok w).mono ?_
  rintro e w1 ⟨rfl, hb1⟩
  have HB1 := Lib.hid hb1
  clear hb1
  go_wp2_with fail
  refine (newLS (w0 := w) lim HB1.out hlo (by omega)).mono ?_
  rintro e w2 ⟨rfl, h2, -⟩
  have H2 := Lib.hid h2
  clear h2
  go_wp2_with fail
  go_loopw [8, 9] (fun so i wr => ∃ (k : Nat) (tv : Value) , k ≤ n ∧ i = .int .i64 k ∧ so = tv ∧ (LS w wr w2.heap.size w1.heap.size lim [] false ∧ LnRow wr w tv ((xs.take k).map (wantL lim))) ∧ ∀ y ∈ xs.take k, y.all fineB = true ∧ y.length ≤ 300) (fun _ i _ => n - (intOf i).toNat)
  case atStart => exact ⟨0, _, by omega, rfl, rfl, ⟨H2.out, World.ownsRow_nil _ _ _ _⟩, by simp⟩
  case round =>
    clear H2 HB1
    obtain ⟨k, tv, hk, rfl, htv, hls, hfine⟩ := hrel
    have htv' := htv.symm
    subst htv'
    have HL := Lib.hid hls
    have HF := Lib.hid hfine
    have hsz := HL.out.1.bel.size
    clear hls hfine
    by_cases hlt : k < n
    · obtain ⟨l, hx⟩ : ∃ l, xs[k]? = some l := ⟨_, List.getElem?_eq_getElem (by rw [HA.out.2.1]; exact hlt)⟩
      have hlm := HA.out.2.2.1 l (List.mem_of_getElem? hx)
      have hlm2 : l.length ≤ 9223372036854775807 := by simp only [maxLen] at hlm; omega
      obtain ⟨ad, u, hA, hadlt, hu, hc0⟩ := HA.out.1.at1 hlt
      have hux := flat_at strC 1 (fun _ => rfl) hx 0 (by omega)
      simp only [strC, Nat.mul_one, Nat.add_zero, List.getElem?_cons_zero] at hux
      rw [hux] at hu
      obtain rfl := Option.some.inj hu
      subst hA
      have hc := (HL.out.1.bel.cell (p := ad.add k) (by rw [blk_add]; exact hadlt)).trans hc0
      have HX := Lib.hid hx
      have hmk : ((xs.take k).map (wantL lim)).length = k := by rw [List.length_map, List.length_take, HA.out.2.1]; omega
      have HMK := Lib.hid hmk
      clear hx hlm hux hu hc0 hmk
      by_cases hbig : 300 < l.length
      · go_wp2_with fail
        go_ret
        exact ⟨rfl, HL.out.1.bel⟩
      go_wp2_with fail
      go_loop [10] (fun i => ∃ j : Nat, j ≤ l.length ∧ i = .int .i64 j ∧ (l.take j).all fineB = true) (fun i => l.length - (intOf i).toNat)
      case atStart => exact ⟨0, by omega, rfl, by simp⟩
      case round =>
        obtain ⟨j, hj, rfl, he⟩ := hrel
        have HE := Lib.hid he
        clear he
        by_cases hjl : j < l.length
        · by_cases h1 : (l[j].toNat : Int) < 32
          · go_wp2_with fail
            go_ret
            exact ⟨rfl, HL.out.1.bel⟩
          by_cases h2 : 126 < (l[j].toNat : Int)
          · go_wp2_with fail
            go_ret
            exact ⟨rfl, HL.out.1.bel⟩
          have HE2 := Lib.hid (all_take hjl HE.out (by simp [fineB]; omega))
          go_wp2_with fail
          go_round
          case rel => exact ⟨j + 1, by omega, by go_num, HE2.out⟩
          case measure => simp [intOf]; omega
        · have HXF := Lib.hid (show l.all fineB = true ∧ l.length ≤ 300 from ⟨by have := HE.out; rwa [List.take_of_length_le (by omega)] at this, by omega⟩)
          by_cases hlong : lim < l.length
          · obtain ⟨PP, hPP⟩ : ∃ PP : Ln, PP = (1, []) := ⟨_, rfl⟩
            have HPP := Lib.hid (show wantL lim l = PP by rw [hPP]; simp [wantL, hlong])
            have HPQ := Lib.hid hPP
            clear hPP
            go_wp2_with (first
              | (at_builtin
                 refine wpl_app1 rfl _ _ _ rfl w.heap.size 74 _ 2 24 Try.underlying52 lineInfo rfl (by omega) (by omega) _ _ _ (lnC (1, [])) rfl HL.out.2 rfl rfl (lnC_one _) (by rw [HMK.out]; omega) hsz ?_
                 rw [← HPQ.out]
                 intro v5 w5 hown5 hg5 hs5
                 have hF : ∀ y ∈ xs.take (k + 1), y.all fineB = true ∧ y.length ≤ 300 := by
                   intro y hy
                   rw [List.take_add_one, HX.out, Option.toList_some, List.mem_append, List.mem_singleton] at hy
                   rcases hy with hy | rfl
                   · exact HF.out y hy
                   · exact HXF.out
                 have hM : (xs.take (k + 1)).map (wantL lim) = (xs.take k).map (wantL lim) ++ [wantL lim l] := by
                   rw [List.take_add_one, HX.out, Option.toList_some, List.map_append]; rfl
                 have hrow : LnRow w5 w v5 ((xs.take (k + 1)).map (wantL lim)) := by
                   unfold LnRow
                   rw [hM, lns_app, List.length_append, show wantL lim l = PP from HPP.out]
                   simpa using hown5
                 have HR5 := Lib.hid (And.intro (HL.out.1.grow HL.out.2 (Only.of_grown hg5 (fun k hk => hk))) (And.intro hrow hF))
                 clear hown5 hg5 hs5 hF hM hrow
                ))
            go_roundw
            case rel => exact ⟨k + 1, _, by omega, by go_num, rfl, ⟨HR5.out.1, HR5.out.2.1⟩, HR5.out.2.2⟩
            case measure => simp [intOf]; omega
          · obtain ⟨PP, hPP⟩ : ∃ PP : Ln, PP = (0, l) := ⟨_, rfl⟩
            have HPP := Lib.hid (show wantL lim l = PP by rw [hPP]; simp [wantL, hlong])
            have HPQ := Lib.hid hPP
            clear hPP
            go_wp2_with (first
              | (at_builtin
                 refine wpl_app1 rfl _ _ _ rfl w.heap.size 74 _ 2 24 Try.underlying52 lineInfo rfl (by omega) (by omega) _ _ _ (lnC (0, l)) rfl HL.out.2 rfl rfl (lnC_one _) (by rw [HMK.out]; omega) hsz ?_
                 rw [← HPQ.out]
                 intro v5 w5 hown5 hg5 hs5
                 have hF : ∀ y ∈ xs.take (k + 1), y.all fineB = true ∧ y.length ≤ 300 := by
                   intro y hy
                   rw [List.take_add_one, HX.out, Option.toList_some, List.mem_append, List.mem_singleton] at hy
                   rcases hy with hy | rfl
                   · exact HF.out y hy
                   · exact HXF.out
                 have hM : (xs.take (k + 1)).map (wantL lim) = (xs.take k).map (wantL lim) ++ [wantL lim l] := by
                   rw [List.take_add_one, HX.out, Option.toList_some, List.map_append]; rfl
                 have hrow : LnRow w5 w v5 ((xs.take (k + 1)).map (wantL lim)) := by
                   unfold LnRow
                   rw [hM, lns_app, List.length_append, show wantL lim l = PP from HPP.out]
                   simpa using hown5
                 have HR5 := Lib.hid (And.intro (HL.out.1.grow HL.out.2 (Only.of_grown hg5 (fun k hk => hk))) (And.intro hrow hF))
                 clear hown5 hg5 hs5 hF hM hrow
                ))
            go_roundw
            case rel => exact ⟨k + 1, _, by omega, by go_num, rfl, ⟨HR5.out.1, HR5.out.2.1⟩, HR5.out.2.2⟩
            case measure => simp [intOf]; omega
    · have hfull : xs.take k = xs := List.take_of_length_le (by rw [HA.out.2.1]; omega)
      rw [hfull] at HL HF
      clear hfull
      have hj1 := flat_len xs (fun y hy => (HF.out y hy).2)
      rw [HA.out.2.1] at hj1
      have HQ := Lib.hid (tells lim xs (fun y hy => (HF.out y hy).1))
      obtain ⟨LL, hLL⟩ : ∃ LL, LL = xs.map (wantL lim) := ⟨_, rfl⟩
      have hLn : LL.length ≤ 9223372036854775807 := by rw [hLL, List.length_map, HA.out.2.1]; omega
      rw [← hLL] at HQ HL
      clear hLL
      obtain ⟨J, hJ⟩ : ∃ J, J = Lib.join xs [10] := ⟨_, rfl⟩
      have hJl : J.length ≤ 12040 := by
        rw [hJ]
        cases hxs : xs with
        | nil => simp [Lib.join_nil]
        | cons y r =>
          have := joined y r
          have h2 := congrArg List.length this
          rw [hxs] at hj1
          simp only [List.length_append, List.length_cons, List.length_nil] at h2
          omega
      have hsl := HA.out.1.below HL.out.1.bel
      have hcall := join_any A n c xs wr hsl HA.out.2.1 HA.out.2.2.2 (by omega) (by rw [← hJ]; omega)
      rw [← hJ] at hcall
      have HC := Lib.hid hcall
      clear hsl hcall
      by_cases hn0 : n = 0
      · subst hn0
        have hx0 : xs = [] := List.eq_nil_of_length_eq_zero HA.out.2.1
        rw [hx0] at HQ
        have HX0 := Lib.hid hx0
        rw [List.flatMap_nil] at HQ
        clear hJ hx0
        go_wp2_with (go_at_call 36; refine HC.out.mono ?_; rintro e w4 ⟨rfl, hb4⟩; have HL4 := Lib.hid (And.intro (HL.out.1.below hb4) (HL.out.2.below hb4)); clear hb4)
        refine (feedS _ 0 _ [] (HL4.out.1.below (bw_below _ 5 [])) (bw_slN _ 5 [] 0 rfl) (by exact bw_capN _ _ _) (by simp) (by omega) (fun ad e _ => by injection e with e; subst e; exact .inr HL4.out.1.top_le) HQ.out).mono ?_
        rintro e w5 ⟨o5, rfl, r5, h5, k5, -⟩
        obtain ⟨a5, c5, rfl⟩ := r5.form
        have H5 := Lib.hid (And.intro h5 (And.intro r5 (k5 _ _ _ (HL4.out.2.below (bw_below _ 5 [])))))
        clear h5 r5 k5
        obtain ⟨a6, c6, rfl⟩ := H5.out.2.2.form
        go_wp2_with fail
        refine (lines_any a5 a6 _ _ c5 c6 LL LL _ H5.out.2.1.sl H5.out.2.2.sl hLn).mono ?_
        rintro e w6 ⟨rfl, dq, hw6⟩
        have H6 := Lib.hid (show LS w w6 _ _ lim [] false by rw [hw6]; exact H5.out.1.below (below_drewN (Below.refl _ _) _))
        clear hw6
        go_wp2_with fail
        refine (pendingS H6.out).mono ?_
        rintro e w' ⟨rfl, rfl⟩
        go_wp2_with fail
        go_ret
        exact ⟨rfl, H6.out.bel⟩
      · have hTT : J ++ [10] = xs.flatMap (· ++ [10]) := by
          rw [hJ]
          cases hxs : xs with
          | nil => exact absurd (by rw [← HA.out.2.1, hxs]; rfl) hn0
          | cons y r => exact joined y r
        rw [← hTT] at HQ
        have hnb : ((n : Int) == 0) = false := by simpa using hn0
        clear hJ hTT hn0
        go_wp2_with (go_at_call 36; refine HC.out.mono ?_; rintro e w4 ⟨rfl, hb4⟩; have HL4 := Lib.hid (And.intro (HL.out.1.below hb4) (HL.out.2.below hb4)); clear hb4)
        refine (feedS _ (J.length + 1) _ (J ++ [10]) (HL4.out.1.below (bw_below _ 5 (J ++ [10]))) (bw_slN _ 5 (J ++ [10]) (J.length + 1) (by simp)) (by exact bw_capN _ _ _) (by simp) (by omega) (fun ad e _ => by injection e with e; subst e; exact .inr HL4.out.1.top_le) HQ.out).mono ?_
        rintro e w5 ⟨o5, rfl, r5, h5, k5, -⟩
        obtain ⟨a5, c5, rfl⟩ := r5.form
        have H5 := Lib.hid (And.intro h5 (And.intro r5 (k5 _ _ _ (HL4.out.2.below (bw_below _ 5 (J ++ [10]))))))
        clear h5 r5 k5
        obtain ⟨a6, c6, rfl⟩ := H5.out.2.2.form
        go_wp2_with fail
        refine (lines_any a5 a6 _ _ c5 c6 LL LL _ H5.out.2.1.sl H5.out.2.2.sl hLn).mono ?_
        rintro e w6 ⟨rfl, dq, hw6⟩
        have H6 := Lib.hid (show LS w w6 _ _ lim [] false by rw [hw6]; exact H5.out.1.below (below_drewN (Below.refl _ _) _))
        clear hw6
        go_wp2_with fail
        refine (pendingS H6.out).mono ?_
        rintro e w' ⟨rfl, rfl⟩
        go_wp2_with fail
        go_ret
        exact ⟨rfl, H6.out.bel⟩

namespace lineTells
set_option linter.unusedVariables false
open Go.ChangeShapes Go.WideShapes Go.ChangeAt Go.RowKit Go.As
theorem own : ownKnob Try.prog.godebug = none := by kernel_rfl
theorem laidOut : laidOutB Try.prog = true := by kernel_rfl
set_option maxRecDepth 100000 in
theorem lifted (os : Os) (started : os.Started) (H : Type) (enc : TypeId × Value → H) :
    ReturnsInHanded {} Try.checked os 9 .any (Rows.lineTellsSpec.pre6 enc Try.prog Try.f9 Rows.lineTellsRow.domain false) (Rows.lineTellsSpec.post enc Try.prog Try.f9 false true false false) := by
  refine returnsInHanded_of_change (C := Try.checked) own started (by kernel_rfl) Try.func9
    (ChangeSpec.witness6 (enc := enc) (C := Try.checked) false ⟨#[], #[.int .i64 0, .slice none 0 0], []⟩ 8 (by kernel_rfl) (by kernel_rfl) (by kernel_rfl) (by kernel_rfl)) ?_
  intro W base args ds gs before hval0 hW hcnd _
  have hval : ∀ (j : Nat) t v, Try.f9.params[j]? = some t → args[j]? = some v → Value.okWide Try.prog W .any base t v := hval0
  have hW' := hW
  obtain ⟨p, q, hA0, hV, hpq, hfz, hnd⟩ := hW
  have hA : DataW.TrodAll enc Try.prog W 0 (fun _ => true) true Try.f9.params.toList args.toList ds p := hA0
  have hlt : ∀ x ∈ p, x.block < W.heap.size := fun x hx => hW'.lt x (by rw [hpq]; exact List.mem_append_left _ hx)
  rw [Try.params9] at hA hval
  obtain ⟨v0, vs0, d0, ds0, p0, q0, hargs, rfl, hp0, h0, r0⟩ := trodAll_cons hA
  obtain ⟨v1, vs1, d1, ds1, p1, q1, rfl, rfl, hp1, h1, r1⟩ := trodAll_cons r0
  obtain ⟨rfl, rfl, hpn⟩ := trodAll_nil r1
  obtain rfl : args = #[v0, v1] := by cases args; simp_all
  obtain ⟨rfl, rfl⟩ := trodVars_none hV
  obtain ⟨a0, rfl, rfl, -, w0⟩ := open_int Try.underlying3 (hval 0 3 v0 rfl rfl) h0
  obtain ⟨x1, rfl, o1⟩ := strs_open (hval 1 _ v1 rfl rfl) h1 (fun x hx => hlt x (by simp_all))
  refine (lineTells_walk a0 w0 x1 W o1).mono fun e W' ⟨he, hg⟩ => ?_
  subst he
  exact ⟨_, rfl, law_post (T := 4) laidOut (by kernel_rfl) Try.underlying4 rfl rfl hW' rfl rfl rfl hg⟩
theorem over : Rows.lineTellsRow.holds Try.pinned (OpenSpec.ofChange Rows.lineTellsSpec) :=
  OpenClaim.holds_of_wide 9 Try.f9 rfl rfl rfl rfl rfl rfl rfl ⟨rfl, rfl, rfl, rfl, rfl⟩ rfl rfl rfl rfl rfl (by kernel_rfl) Try.func9 (by kernel_rfl)
    (of_decide_eq_true (by kernel_rfl)) (by unfold Func.isWrapper; rw [if_neg (of_decide_eq_false (by kernel_rfl))]; exact ⟨rfl, rfl⟩)
    (fun os started H enc _ => lifted os started H enc)
/-- the statement -/
theorem proved : Rows.LineTellsSaid := over
#print axioms proved
end lineTells
end Go.Proofs.Ytnkbjjnopbmfnaa
