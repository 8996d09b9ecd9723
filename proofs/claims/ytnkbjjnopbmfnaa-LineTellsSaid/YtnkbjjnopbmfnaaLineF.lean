/- What Feed of the program's line reader answers. Conditions: a reader that was made; bytes that are not the reader's own. -/
import Derived.Test.YtnkbjjnopbmfnaaLineC
namespace Go.Proofs.Ytnkbjjnopbmfnaa
open Go.RowKit Go.As
set_option linter.unusedVariables false

/-- a slice's length -/
def lnOf : Value → Nat
  | .slice _ n _ => n
  | _ => 0
/-- where Feed stands -/
structure FIn (w wr : World) (b lim : Nat) (v0 : Value) (s0 : LSt) (l r : List UInt8) (A : Option Addr) (n c : Nat) (ls : List Ln) (o v : Value) (cur rm : List UInt8) (over : Bool) : Prop where
  lr : LR wr b v lim cur rm over
  out : wr.ownsRow w.heap.size 74 2 o ls.length (ls.flatMap lnC)
  only : Only (FB b v0) w wr
  son : SameOrNew w v0 v
  ok : okS lim (cur, over)
  eq : feedB lim s0 l = (ls ++ (feedB lim (cur, over) r).1, (feedB lim (cur, over) r).2)
  sl : Sl w 1 A n (byt r)
  hnc : n ≤ c
  hA : A = none → c = 0
  hap : ∀ ad, A = some ad → 0 < n → ¬ FB b v0 ad.block
  cnt : ls.length + r.length ≤ l.length

section
variable {w wr w' : World} {b lim : Nat} {v0 : Value} {s0 : LSt} {l r : List UInt8} {A : Option Addr} {n c : Nat} {ls : List Ln} {o v : Value} {cur rm : List UInt8} {over : Bool}
theorem FIn.below (h : FIn w wr b lim v0 s0 l r A n c ls o v cur rm over) (hb : Below wr.heap.size wr w') : FIn w w' b lim v0 s0 l r A n c ls o v cur rm over :=
  ⟨h.lr.below hb, own_below h.out hb, h.only.trans (Only.of_below hb (FB b v0)) (fun _ _ h => h), h.son, h.ok, h.eq, h.sl, h.hnc, h.hA, h.hap, h.cnt⟩
theorem FIn.slr (h : FIn w wr b lim v0 s0 l r A n c ls o v cur rm over) : Sl wr 1 A n (byt r) := sl_only h.sl h.only h.hap
/-- the lines' row shares no block with the reader -/
theorem FIn.apart (h : FIn w wr b lim v0 s0 l r A n c ls o v cur rm over) : ∀ k, o.ownBlock = some k → ¬ FB b v k := by
  rintro k hk (rfl | e)
  · exact own_ne h.out h.lr.1 (by decide) hk
  · exact own_ne h.out (h.lr.2.blk e) (by decide) hk
theorem FIn.sub (h : FIn w wr b lim v0 s0 l r A n c ls o v cur rm over) : ∀ k, k < w.heap.size → FB b v k → FB b v0 k := by
  rintro k hk (rfl | e)
  · exact .inl rfl
  · rcases h.son k e with e | e
    · exact .inr e
    · omega
/-- the reader has turned -/
theorem FIn.step (h : FIn w wr b lim v0 s0 l r A n c ls o v cur rm over) {v' : Value} {cur' rm' : List UInt8} {over' : Bool} (hr : LR w' b v' lim cur' rm' over') (hO : Only (FB b v) wr w') (hs : SameOrNew wr v v') :
    LR w' b v' lim cur' rm' over' ∧ w'.ownsRow w.heap.size 74 2 o ls.length (ls.flatMap lnC) ∧ Only (FB b v0) w w' ∧ SameOrNew w v0 v' := by
  refine ⟨hr, own_only h.out hO h.apart, h.only.trans hO h.sub, ?_⟩
  intro k hk
  rcases hs k hk with e | e
  · exact h.son k e
  · have := h.only.size; omega
theorem FIn.next (h : FIn w wr b lim v0 s0 l r A n c ls o v cur rm over) {p r2 : List UInt8} (hr : r = p ++ 10 :: r2) {x : List Ln × LSt} (hx : feedB lim (cur, over) p = x) {ls' : List Ln}
    (hls : ls' = ls ++ (x.1 ++ (if x.2.2 = true then [] else [toldL x.2.1]))) (hlr : LR w' b (.slice none 0 0) lim [] [] false) {o' : Value} (hout : w'.ownsRow w.heap.size 74 2 o' ls'.length (ls'.flatMap lnC))
    (honly : Only (FB b v0) w w') {A2 : Option Addr} {d2 : Nat} (hsl2 : ∀ W, Sl W 1 A n (byt (p ++ 10 :: r2)) → Sl W 1 A2 r2.length (byt r2)) (hd1 : r2.length ≤ d2) (hd3 : A2 = none → d2 = 0)
    (hd4 : ∀ ad', A2 = some ad' → ∃ ad, A = some ad ∧ ad'.block = ad.block) (hcnt : ls'.length ≤ ls.length + 1) :
    FIn w w' b lim v0 s0 l r2 A2 r2.length d2 ls' o' (.slice none 0 0) [] [] false := by
  refine ⟨hlr, hout, honly, fun k hk => by simp [Value.ownBlock] at hk, ⟨Nat.zero_le _, fun _ => rfl⟩, ?_, hsl2 _ (by rw [← hr]; exact h.sl), hd1, hd3, ?_, ?_⟩
  · rw [h.eq, hr, feedB_line, hx, hls]
    simp only [List.append_assoc]
  · intro ad' e hpos
    obtain ⟨ad, e1, e2⟩ := hd4 ad' e
    rw [e2]
    have := h.sl.len1
    rw [hr, byt_len, List.length_append, List.length_cons] at this
    exact h.hap ad e1 (by omega)
  · have := h.cnt
    rw [hr] at this
    simp only [List.length_append, List.length_cons] at this
    omega
end

set_option maxRecDepth 100000 in
set_option maxHeartbeats 6400000 in
theorem feed_ok (w : World) (b lim : Nat) (v : Value) (cur rm : List UInt8) (over : Bool) (A : Option Addr) (n c : Nat) (l : List UInt8) (h : LR w b v lim cur rm over) (hlim : 16 ≤ lim) (hlim2 : lim ≤ 65536) (hok : okS lim (cur, over))
    (ha : Sl w 1 A n (byt l)) (hnc : n ≤ c) (hA : A = none → c = 0) (hn : n ≤ 1099511627776) (hap : ∀ ad, A = some ad → 0 < n → ¬ FB b v ad.block) :
    Calls Try.prog 27 #[.pointer (some ⟨b, 0, none⟩), .slice A n c] w fun e w' =>
      ∃ o v' rm', e = .returned (.tuple #[o, .int .i64 0]) ∧ w'.ownsRow w.heap.size 74 2 o (feedB lim (cur, over) l).1.length ((feedB lim (cur, over) l).1.flatMap lnC) ∧
        LR w' b v' lim (feedB lim (cur, over) l).2.1 rm' (feedB lim (cur, over) l).2.2 ∧ Only (FB b v) w w' ∧ SameOrNew w v v' := by
  have hll : l.length = n := by have := ha.len1; simpa [byt] using this
  have HN := Lib.hid (lnone_ok w b lim v cur rm over h hlim)
  have HI := Lib.hid (show FIn w w b lim v (cur, over) l l A n c [] (.slice none 0 0) v cur rm over from
    ⟨h, World.ownsRow_nil _ _ _ _, Only.refl _ _, SameOrNew.rfl _ _, hok, by simp, ha, hnc, hA, hap, by simp⟩)
  obtain ⟨s0, hs0⟩ : ∃ s0, s0 = (cur, over) := ⟨_, rfl⟩
  rw [← hs0] at HI ⊢
  clear h hok ha hA hap
  go_enter Try.func27, Try.ntmps27
  go_wp2_with (go_at_call 41; refine HN.out.mono ?_; rintro e w' ⟨rfl, rfl⟩)
  go_loopw [1, 6, 7] (fun sb so se wr => ∃ (r : List UInt8) (A : Option Addr) (n c : Nat) (ls : List Ln) (o v' : Value) (cur rm : List UInt8) (over : Bool), sb = .slice A n c ∧ so = o ∧ se = .bool true ∧ FIn w wr b lim v s0 l r A n c ls o v' cur rm over) (fun sb _ _ _ => lnOf sb)
  case atStart => exact ⟨l, A, n, c, [], _, v, cur, rm, over, rfl, rfl, rfl, HI.out⟩
  case round =>
    clear HI HN hs0 hnc
    obtain ⟨r, A, nr, c, ls, o, v', cur, rm, over, rfl, ho, rfl, hin⟩ := hrel
    have ho' := ho.symm
    subst ho'
    have hrn : r.length = nr := by have := hin.sl.len1; simpa [byt] using this
    have hcnt := hin.cnt
    have hnr : nr ≤ 4611686018427387904 := by omega
    have hok1 := hin.ok.1
    have hsz := hin.only.size
    have HI := Lib.hid hin
    clear hin
    have hsep : (wr.alloc (.cells #[.int .u8 10] 5)).cell? ⟨wr.heap.size, 0, none⟩ = some (.int .u8 10) := (Blk.new _ _ _).cell 0
    have hslA : Sl (wr.alloc (.cells #[.int .u8 10] 5)) 1 A nr (byt r) := HI.out.slr.below ((Below.refl _ _).alloc (Nat.le_refl _) _)
    rcases split_ten r with hno | ⟨p, r2, hr, hno⟩
    · have HC := Lib.hid (cut_no A nr c wr.heap.size r _ hslA HI.out.hA HI.out.hnc hnr hno hsep)
      clear hsep hslA
      cases over
      case true =>
        have HQ := Lib.hid (show feedB lim s0 l = (ls, (cur, true)) by rw [HI.out.eq, feedB_skip lim cur r hno]; simp)
        have HR := Lib.hid (fun (w2 : World) (h : Sl w2 1 A nr (byt r)) => h)
        clear hno
        go_wp2_with (first
          | (go_at_call 42
             refine HC.out.mono ?_
             rintro e w2 ⟨rfl, q, hw2⟩
             have HI2 := Lib.hid (HI.out.below (w' := w2) (by rw [hw2]; exact below_drewN ((Below.refl _ _).alloc (Nat.le_refl _) _) _))
             have c0 := HI2.out.lr.1.cell 0
             have c1 := HI2.out.lr.1.cell 1
             have c2 := HI2.out.lr.1.cell 2
             have f1 := HI2.out.lr.1.frozen 1
             have f2 := HI2.out.lr.1.frozen 2
             simp only [List.getElem?_toArray, List.getElem?_cons_succ, List.getElem?_cons_zero] at c0 c1 c2
             have HSP := Lib.hid (HR.out w2 HI2.out.slr)
             clear hw2)
          )
        go_ret2
        rw [HQ.out]
        exact ⟨_, v', rm, rfl, HI2.out.out, HI2.out.lr, HI2.out.only, HI2.out.son⟩
      case false =>
        obtain ⟨pl, hpl⟩ : ∃ pl, pl = r := ⟨_, rfl⟩
        obtain ⟨pn, hpn⟩ : ∃ pn, pn = nr := ⟨_, rfl⟩
        have HR := Lib.hid (fun (w2 : World) (h : Sl w2 1 A nr (byt r)) => (show Sl w2 1 A pn (byt pl) by rw [hpl, hpn]; exact h))
        have hplen : pl.length = pn := by rw [hpl, hpn]; exact hrn
        have HQ := Lib.hid (show feedB lim s0 l = (ls ++ (if lim < cur.length + pl.length then ([(1, [])], ([], true)) else ([], (cur ++ pl, false)) : List Ln × LSt).1, (if lim < cur.length + pl.length then ([(1, [])], ([], true)) else ([], (cur ++ pl, false)) : List Ln × LSt).2) by
          rw [HI.out.eq, feedB_plain lim r cur hno hok1, hpl])
        rw [← hpn] at HC hrn ⊢
        clear hno hpl hpn
        go_wp2_with (first
          | (go_at_call 42
             refine HC.out.mono ?_
             rintro e w2 ⟨rfl, q, hw2⟩
             have HI2 := Lib.hid (HI.out.below (w' := w2) (by rw [hw2]; exact below_drewN ((Below.refl _ _).alloc (Nat.le_refl _) _) _))
             have c0 := HI2.out.lr.1.cell 0
             have c1 := HI2.out.lr.1.cell 1
             have c2 := HI2.out.lr.1.cell 2
             have f1 := HI2.out.lr.1.frozen 1
             have f2 := HI2.out.lr.1.frozen 2
             simp only [List.getElem?_toArray, List.getElem?_cons_succ, List.getElem?_cons_zero] at c0 c1 c2
             have HSP := Lib.hid (HR.out w2 HI2.out.slr)
             clear hw2)
          | (at_builtin
             refine wpl_appB rfl _ _ _ rfl 0 5 Try.underlying33 byteInfo _ cur rm HI2.out.lr.2 rfl A pn c pl rfl HSP.out (by omega) (by omega) ?_
             intro v3 rm3 w3 hown3 hg3 hs3
             obtain ⟨a3, n3, d3, rfl, hn3, -, -⟩ := hown3.form2
             have hne3 : ∀ k, (Value.slice a3 n3 d3).ownBlock = some k → ¬ k = b := fun k hk e => by
               rcases hs3 k hk with e1 | e1
               · exact HI2.out.lr.2.ne_ HI2.out.lr.1 (by decide) (by rw [e1, e])
               · have := HI2.out.lr.1.lt; omega
             have hB3 := HI2.out.lr.1.grown hg3 (fun e => HI2.out.lr.2.ne_ HI2.out.lr.1 (by decide) e.symm)
             have g1 := hB3.frozen 1
             have e1 := hB3.cell 1
             simp only [List.getElem?_toArray, List.getElem?_cons_succ, List.getElem?_cons_zero] at e1
             have hLR : LR (w3.setCell ⟨b, 1, none⟩ (.slice a3 n3 d3)) b (.slice a3 n3 d3) lim (cur ++ pl) rm3 false :=
               ⟨by have := Blk.set_ hB3 1 (.slice a3 n3 d3); simpa using this, hown3.only ((Only.refl (· = b) w3).set (p := ⟨b, 1, none⟩) (.inl rfl) _) hne3⟩
             have HS := Lib.hid (HI2.out.step hLR (Only.set (Only.of_grown hg3 (F := FB b v') (fun k hk => .inr hk)) (p := ⟨b, 1, none⟩) (.inl (.inl rfl)) (.slice a3 n3 d3)) hs3)
             have hn4 : cur.length + pl.length = n3 := by rw [hn3, List.length_append]
             have HN4 := Lib.hid hn4
             clear hown3 hg3 hs3 hne3 hB3 hLR hn3 hn4)
        )
        obtain ⟨w4, hw4⟩ : ∃ w4, w4 = w3.setCell ⟨b, 1, none⟩ (.slice a3 n3 d3) := ⟨_, rfl⟩
        rw [← hw4] at HS ⊢
        have k0 := HS.out.1.1.cell 0
        have k1 := HS.out.1.1.cell 1
        have k2 := HS.out.1.1.cell 2
        simp only [List.getElem?_toArray, List.getElem?_cons_succ, List.getElem?_cons_zero] at k0 k1 k2
        have hn4 := HN4.out
        clear hw4 g1 e1 f1 f2 c0 c1 c2
        by_cases hfull : lim < cur.length + pl.length
        · rw [if_pos hfull] at HQ
          go_quiet (fail)
          go_wp2_with (first
            | (at_builtin
               refine wpl_app1 rfl _ _ _ rfl w.heap.size 74 _ 2 24 Try.underlying52 lineInfo rfl (by omega) (by omega) _ _ _ (lnC (1, [])) rfl (own_below HS.out.2.1 (below_drewN (Below.refl _ _) nq)) rfl rfl (lnC_one _) (by omega) (Nat.le_trans HS.out.2.2.1.size (by simp)) ?_
               intro v5 w5 hown5 hg5 hs5
               obtain ⟨a5, d5, rfl, -, -⟩ := own_form hown5
               have hfb : ∀ k, o.ownBlock = some k → ¬ FB b (.slice a3 n3 d3) k := by
                 rintro k hk (rfl | e)
                 · exact own_ne HS.out.2.1 HS.out.1.1 (by decide) hk
                 · exact own_ne HS.out.2.1 (HS.out.1.2.blk e) (by decide) hk
               have hB5 : Blk w5 b 69 _ := Blk.grown (w := w4.drewN nq) HS.out.1.1 hg5 (fun e => hfb b e.symm (.inl rfl))
               have g1 := hB5.frozen 1
               have g2 := hB5.frozen 2
               have e1 := hB5.cell 1
               have e2 := hB5.cell 2
               simp only [List.getElem?_toArray, List.getElem?_cons_succ, List.getElem?_cons_zero] at e1 e2
               have hnb : ∀ k, (Value.slice a5 (ls.length + 1) d5).ownBlock = some k → ¬ k = b := fun k hk e => own_ne hown5 hB5 (by decide) (by rw [hk, e])
               have hO5 : Only (FB b v) w w5 := (HS.out.2.2.1.trans (Only.of_below (below_drewN (Below.refl _ _) nq) (fun _ => False)) (fun _ _ h => h.elim)).grown hg5 (fun k hk => .inr (HS.out.2.1.lt k hk).1)
               have H5 := Lib.hid (And.intro hown5 (And.intro hB5 (And.intro hnb hO5)))
               clear hown5 hg5 hs5 hB5 hnb hO5 hfb)
          )
          go_ret2
          rw [HQ.out]
          refine ⟨_, rfl, ?_, .slice none 0 0, ⟨[], ?_, RowB.nil _ _ _⟩, Only.set (Only.set H5.out.2.2.2 (p := ⟨b, 2, none⟩) (.inl (.inl rfl)) _) (p := ⟨b, 1, none⟩) (.inl (.inl rfl)) _, fun k hk => by simp [Value.ownBlock] at hk⟩
          · have := own_only H5.out.1 (Only.set (Only.set (Only.refl (· = b) w5) (p := ⟨b, 2, none⟩) (.inl rfl) (.bool true)) (p := ⟨b, 1, none⟩) (.inl rfl) (.slice none 0 0)) H5.out.2.2.1
            simpa [List.flatMap_append] using this
          · have := Blk.set_ (Blk.set_ H5.out.2.1 2 (.bool true)) 1 (.slice none 0 0)
            simpa using this
        · rw [if_neg hfull] at HQ
          go_quiet (fail)
          go_wp2_with fail
          go_ret2
          rw [HQ.out]
          refine ⟨_, rfl, ?_, .slice a3 n3 d3, ⟨rm3, HS.out.1.below (below_drewN (Below.refl _ _) nq)⟩, HS.out.2.2.1.trans (Only.of_below (below_drewN (Below.refl _ _) nq) (fun _ => False)) (fun _ _ h => h.elim), HS.out.2.2.2⟩
          have := own_below HS.out.2.1 (below_drewN (Below.refl _ _) nq)
          simpa using this
    · obtain ⟨pl, hpl⟩ : ∃ pl, pl = p := ⟨_, rfl⟩
      rw [← hpl] at hr hno
      clear hpl
      obtain ⟨pn, hpn⟩ : ∃ pn, pn = pl.length := ⟨_, rfl⟩
      have hplen : pl.length = pn := hpn.symm
      have hrl : pn + (r2.length + 1) = nr := by rw [hpn, ← hrn, hr]; simp
      have HR := Lib.hid (fun (w2 : World) (h : Sl w2 1 A pn (byt pl)) => h)
      have HR2 := Lib.hid hr
      have hc0 := cut_yes A nr c wr.heap.size pl r2 _ (by rw [← hr]; exact hslA) HI.out.hA HI.out.hnc hnr hno hsep
      rw [← hpn] at hc0
      have HC := Lib.hid hc0
      clear hsep hslA hc0 hr hpn
      cases over
      case true =>
        have HQ := Lib.hid (feedB_skip lim cur pl hno)
        clear hno
        go_wp2_with (first
          | (go_at_call 42
             refine HC.out.mono ?_
             rintro e w2 ⟨⟨A2, d2, rfl, hsl2, hslp, hd1, hd2, hd3, hd4⟩, q, hw2⟩
             have HI2 := Lib.hid (HI.out.below (w' := w2) (by rw [hw2]; exact below_drewN ((Below.refl _ _).alloc (Nat.le_refl _) _) _))
             have HD := Lib.hid (And.intro hsl2 (And.intro hd1 (And.intro hd3 hd4)))
             have c0 := HI2.out.lr.1.cell 0
             have c1 := HI2.out.lr.1.cell 1
             have c2 := HI2.out.lr.1.cell 2
             have f1 := HI2.out.lr.1.frozen 1
             have f2 := HI2.out.lr.1.frozen 2
             simp only [List.getElem?_toArray, List.getElem?_cons_succ, List.getElem?_cons_zero] at c0 c1 c2
             have HSP := Lib.hid (HR.out w2 (hslp _ (by rw [← HR2.out]; exact HI2.out.slr)))
             clear hw2 hsl2 hslp hd1 hd2 hd3 hd4)
        )
        go_roundw
        case rel =>
          refine ⟨r2, A2, r2.length, d2, ls, o, .slice none 0 0, [], [], false, rfl, rfl, rfl, ?_⟩
          have hS := HI2.out.step (w' := (w2.setCell ⟨b, 2, none⟩ (.bool false)).setCell ⟨b, 1, none⟩ (.slice none 0 0)) (v' := .slice none 0 0) (cur' := []) (rm' := []) (over' := false)
            ⟨by have := Blk.set_ (Blk.set_ HI2.out.lr.1 2 (.bool false)) 1 (.slice none 0 0); simpa using this, RowB.nil _ _ _⟩
            (Only.set (Only.set (Only.refl (FB b v') w2) (p := ⟨b, 2, none⟩) (.inl (.inl rfl)) _) (p := ⟨b, 1, none⟩) (.inl (.inl rfl)) _)
            (fun k hk => by simp [Value.ownBlock] at hk)
          exact HI.out.next HR2.out HQ.out (by simp) hS.1 hS.2.1 hS.2.2.1 HD.out.1 HD.out.2.1 HD.out.2.2.1 HD.out.2.2.2 (by omega)
        case measure => simp [lnOf]; omega
      case false =>
        have HQ := Lib.hid (feedB_plain lim pl cur hno hok1)
        clear hno
        go_wp2_with (first
          | (go_at_call 42
             refine HC.out.mono ?_
             rintro e w2 ⟨⟨A2, d2, rfl, hsl2, hslp, hd1, hd2, hd3, hd4⟩, q, hw2⟩
             have HI2 := Lib.hid (HI.out.below (w' := w2) (by rw [hw2]; exact below_drewN ((Below.refl _ _).alloc (Nat.le_refl _) _) _))
             have HD := Lib.hid (And.intro hsl2 (And.intro hd1 (And.intro hd3 hd4)))
             have c0 := HI2.out.lr.1.cell 0
             have c1 := HI2.out.lr.1.cell 1
             have c2 := HI2.out.lr.1.cell 2
             have f1 := HI2.out.lr.1.frozen 1
             have f2 := HI2.out.lr.1.frozen 2
             simp only [List.getElem?_toArray, List.getElem?_cons_succ, List.getElem?_cons_zero] at c0 c1 c2
             have HSP := Lib.hid (HR.out w2 (hslp _ (by rw [← HR2.out]; exact HI2.out.slr)))
             clear hw2 hsl2 hslp hd1 hd2 hd3 hd4)
          | (at_builtin
             refine wpl_appB rfl _ _ _ rfl 0 5 Try.underlying33 byteInfo _ cur rm HI2.out.lr.2 rfl A pn c pl rfl HSP.out (by omega) (by omega) ?_
             intro v3 rm3 w3 hown3 hg3 hs3
             obtain ⟨a3, n3, d3, rfl, hn3, -, -⟩ := hown3.form2
             have hne3 : ∀ k, (Value.slice a3 n3 d3).ownBlock = some k → ¬ k = b := fun k hk e => by
               rcases hs3 k hk with e1 | e1
               · exact HI2.out.lr.2.ne_ HI2.out.lr.1 (by decide) (by rw [e1, e])
               · have := HI2.out.lr.1.lt; omega
             have hB3 := HI2.out.lr.1.grown hg3 (fun e => HI2.out.lr.2.ne_ HI2.out.lr.1 (by decide) e.symm)
             have g1 := hB3.frozen 1
             have e1 := hB3.cell 1
             simp only [List.getElem?_toArray, List.getElem?_cons_succ, List.getElem?_cons_zero] at e1
             have hLR : LR (w3.setCell ⟨b, 1, none⟩ (.slice a3 n3 d3)) b (.slice a3 n3 d3) lim (cur ++ pl) rm3 false :=
               ⟨by have := Blk.set_ hB3 1 (.slice a3 n3 d3); simpa using this, hown3.only ((Only.refl (· = b) w3).set (p := ⟨b, 1, none⟩) (.inl rfl) _) hne3⟩
             have HS := Lib.hid (HI2.out.step hLR (Only.set (Only.of_grown hg3 (F := FB b v') (fun k hk => .inr hk)) (p := ⟨b, 1, none⟩) (.inl (.inl rfl)) (.slice a3 n3 d3)) hs3)
             have hn4 : cur.length + pl.length = n3 := by rw [hn3, List.length_append]
             have HN4 := Lib.hid hn4
             clear hown3 hg3 hs3 hne3 hB3 hLR hn3 hn4)
        )
        obtain ⟨w4, hw4⟩ : ∃ w4, w4 = w3.setCell ⟨b, 1, none⟩ (.slice a3 n3 d3) := ⟨_, rfl⟩
        rw [← hw4] at HS ⊢
        have k0 := HS.out.1.1.cell 0
        have k1 := HS.out.1.1.cell 1
        have k2 := HS.out.1.1.cell 2
        simp only [List.getElem?_toArray, List.getElem?_cons_succ, List.getElem?_cons_zero] at k0 k1 k2
        have hn4 := HN4.out
        clear hw4 g1 e1 f1 f2 c0 c1 c2
        by_cases hfull : lim < cur.length + pl.length
        · rw [if_pos hfull] at HQ
          go_quiet (fail)
          go_wp2_with (first
            | (at_builtin
               refine wpl_app1 rfl _ _ _ rfl w.heap.size 74 _ 2 24 Try.underlying52 lineInfo rfl (by omega) (by omega) _ _ _ (lnC (1, [])) rfl (own_below HS.out.2.1 (below_drewN (Below.refl _ _) nq)) rfl rfl (lnC_one _) (by omega) (Nat.le_trans HS.out.2.2.1.size (by simp)) ?_
               intro v5 w5 hown5 hg5 hs5
               obtain ⟨a5, d5, rfl, -, -⟩ := own_form hown5
               have hfb : ∀ k, o.ownBlock = some k → ¬ FB b (.slice a3 n3 d3) k := by
                 rintro k hk (rfl | e)
                 · exact own_ne HS.out.2.1 HS.out.1.1 (by decide) hk
                 · exact own_ne HS.out.2.1 (HS.out.1.2.blk e) (by decide) hk
               have hB5 : Blk w5 b 69 _ := Blk.grown (w := w4.drewN nq) HS.out.1.1 hg5 (fun e => hfb b e.symm (.inl rfl))
               have g1 := hB5.frozen 1
               have g2 := hB5.frozen 2
               have e1 := hB5.cell 1
               have e2 := hB5.cell 2
               simp only [List.getElem?_toArray, List.getElem?_cons_succ, List.getElem?_cons_zero] at e1 e2
               have hnb : ∀ k, (Value.slice a5 (ls.length + 1) d5).ownBlock = some k → ¬ k = b := fun k hk e => own_ne hown5 hB5 (by decide) (by rw [hk, e])
               have hO5 : Only (FB b v) w w5 := (HS.out.2.2.1.trans (Only.of_below (below_drewN (Below.refl _ _) nq) (fun _ => False)) (fun _ _ h => h.elim)).grown hg5 (fun k hk => .inr (HS.out.2.1.lt k hk).1)
               have H5 := Lib.hid (And.intro hown5 (And.intro hB5 (And.intro hnb hO5)))
               clear hown5 hg5 hs5 hB5 hnb hO5 hfb)
          )
          go_roundw
          case rel =>
            refine ⟨r2, A2, r2.length, d2, ls ++ [(1, [])], .slice a5 (ls.length + 1) d5, .slice none 0 0, [], [], false, rfl, rfl, rfl, ?_⟩
            have hlr : LR ((((w5.setCell ⟨b, 2, none⟩ (.bool true)).setCell ⟨b, 1, none⟩ (.slice none 0 0)).setCell ⟨b, 2, none⟩ (.bool false)).setCell ⟨b, 1, none⟩ (.slice none 0 0)) b (.slice none 0 0) lim [] [] false :=
              ⟨by have := Blk.set_ (Blk.set_ (Blk.set_ (Blk.set_ H5.out.2.1 2 (.bool true)) 1 (.slice none 0 0)) 2 (.bool false)) 1 (.slice none 0 0); simpa using this, RowB.nil _ _ _⟩
            have hout := own_only H5.out.1 (Only.set (Only.set (Only.set (Only.set (Only.refl (· = b) w5) (p := ⟨b, 2, none⟩) (.inl rfl) (.bool true)) (p := ⟨b, 1, none⟩) (.inl rfl) (.slice none 0 0)) (p := ⟨b, 2, none⟩) (.inl rfl) (.bool false)) (p := ⟨b, 1, none⟩) (.inl rfl) (.slice none 0 0)) H5.out.2.2.1
            have honly := Only.set (Only.set (Only.set (Only.set H5.out.2.2.2 (p := ⟨b, 2, none⟩) (.inl (.inl rfl)) (.bool true)) (p := ⟨b, 1, none⟩) (.inl (.inl rfl)) (.slice none 0 0)) (p := ⟨b, 2, none⟩) (.inl (.inl rfl)) (.bool false)) (p := ⟨b, 1, none⟩) (.inl (.inl rfl)) (.slice none 0 0)
            exact HI.out.next HR2.out HQ.out (by simp) hlr (by simpa [List.flatMap_append] using hout) honly HD.out.1 HD.out.2.1 HD.out.2.2.1 HD.out.2.2.2 (by simp)
          case measure => simp [lnOf]; omega
        · rw [if_neg hfull] at HQ
          have HN5 := Lib.hid (show (cur ++ pl).length = n3 by rw [List.length_append]; exact hn4)
          have hn5 : n3 ≤ maxLen := by simp only [maxLen]; omega
          go_quiet (fail)
          go_wp2_with (first
            | (go_at_call 43
               refine (told_any a3 n3 d3 (cur ++ pl) _ (by rw [← HN5.out]; exact (HS.out.1.below (below_drewN (Below.refl _ _) nq)).2.sl) hn5).mono ?_
               rintro e w6 ⟨rfl, hb6⟩
               have HT := Lib.hid (below_then (below_drewN (Below.refl _ _) nq) hb6)
               clear hb6)
            | (at_builtin
               refine wpl_app1 rfl _ _ _ rfl w.heap.size 74 _ 2 24 Try.underlying52 lineInfo rfl (by omega) (by omega) _ _ _ (lnC (toldL (cur ++ pl))) rfl (own_below HS.out.2.1 HT.out) rfl rfl (lnC_one _) (by omega) (Nat.le_trans HS.out.2.2.1.size HT.out.size) ?_
               intro v5 w5 hown5 hg5 hs5
               obtain ⟨a5, d5, rfl, -, -⟩ := own_form hown5
               have hfb : ∀ k, o.ownBlock = some k → ¬ FB b (.slice a3 n3 d3) k := by
                 rintro k hk (rfl | e)
                 · exact own_ne HS.out.2.1 HS.out.1.1 (by decide) hk
                 · exact own_ne HS.out.2.1 (HS.out.1.2.blk e) (by decide) hk
               have hB5 : Blk w5 b 69 _ := Blk.grown (w := w6) (HS.out.1.1.belowS HT.out) hg5 (fun e => hfb b e.symm (.inl rfl))
               have g1 := hB5.frozen 1
               have g2 := hB5.frozen 2
               have e1 := hB5.cell 1
               have e2 := hB5.cell 2
               simp only [List.getElem?_toArray, List.getElem?_cons_succ, List.getElem?_cons_zero] at e1 e2
               have hnb : ∀ k, (Value.slice a5 (ls.length + 1) d5).ownBlock = some k → ¬ k = b := fun k hk e => own_ne hown5 hB5 (by decide) (by rw [hk, e])
               have hO5 : Only (FB b v) w w5 := (HS.out.2.2.1.trans (Only.of_below HT.out (fun _ => False)) (fun _ _ h => h.elim)).grown hg5 (fun k hk => .inr (HS.out.2.1.lt k hk).1)
               have H5 := Lib.hid (And.intro hown5 (And.intro hB5 (And.intro hnb hO5)))
               clear hown5 hg5 hs5 hB5 hnb hO5 hfb)
          )
          go_roundw
          case rel =>
            refine ⟨r2, A2, r2.length, d2, ls ++ [toldL (cur ++ pl)], .slice a5 (ls.length + 1) d5, .slice none 0 0, [], [], false, rfl, rfl, rfl, ?_⟩
            have hlr : LR ((w5.setCell ⟨b, 2, none⟩ (.bool false)).setCell ⟨b, 1, none⟩ (.slice none 0 0)) b (.slice none 0 0) lim [] [] false :=
              ⟨by have := Blk.set_ (Blk.set_ H5.out.2.1 2 (.bool false)) 1 (.slice none 0 0); simpa using this, RowB.nil _ _ _⟩
            have hout := own_only H5.out.1 (Only.set (Only.set (Only.refl (· = b) w5) (p := ⟨b, 2, none⟩) (.inl rfl) (.bool false)) (p := ⟨b, 1, none⟩) (.inl rfl) (.slice none 0 0)) H5.out.2.2.1
            have honly := Only.set (Only.set H5.out.2.2.2 (p := ⟨b, 2, none⟩) (.inl (.inl rfl)) (.bool false)) (p := ⟨b, 1, none⟩) (.inl (.inl rfl)) (.slice none 0 0)
            exact HI.out.next HR2.out HQ.out (by simp) hlr (by simpa [List.flatMap_append] using hout) honly HD.out.1 HD.out.2.1 HD.out.2.2.1 HD.out.2.2.2 (by simp)
          case measure => simp [lnOf]; omega
end Go.Proofs.Ytnkbjjnopbmfnaa
