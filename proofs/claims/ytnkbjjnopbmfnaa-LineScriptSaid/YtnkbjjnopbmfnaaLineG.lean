/- What Feed of the document's line reader answers. Conditions: a reader that was made; bytes that are not the reader's own. -/
import Derived.Test.YtnkbjjnopbmfnaaLineC
import Derived.Test.YtnkbjjnopbmfnaaGuard
import Derived.BigQuiet
namespace Go.Proofs.Ytnkbjjnopbmfnaa
open Go.RowKit Go.As
set_option linter.unusedVariables false

/-- where the document's Feed stands -/
structure QIn (w wr : World) (b lim : Nat) (v0 : Value) (s0 : LSt) (l : List UInt8) (k : Nat) (ls : List Ln) (o v : Value) (cur rm : List UInt8) (over : Bool) : Prop where
  rr : RR wr b v lim cur rm over
  out : wr.ownsRow w.heap.size 74 2 o ls.length (ls.flatMap lnC)
  only : Only (FB b v0) w wr
  son : SameOrNew w v0 v
  ok : okS lim (cur, over)
  eq : feedB lim s0 (l.take k) = (ls, (cur, over))
  cnt : ls.length ≤ k

section
variable {w wr w' : World} {b lim : Nat} {v0 : Value} {s0 : LSt} {l : List UInt8} {k : Nat} {ls : List Ln} {o v : Value} {cur rm : List UInt8} {over : Bool}
theorem QIn.below (h : QIn w wr b lim v0 s0 l k ls o v cur rm over) (hb : Below wr.heap.size wr w') : QIn w w' b lim v0 s0 l k ls o v cur rm over :=
  ⟨h.rr.below hb, own_below h.out hb, h.only.trans (Only.of_below hb (FB b v0)) (fun _ _ h => h), h.son, h.ok, h.eq, h.cnt⟩
theorem QIn.apart (h : QIn w wr b lim v0 s0 l k ls o v cur rm over) : ∀ k, o.ownBlock = some k → ¬ FB b v k := by
  rintro k hk (rfl | e)
  · exact own_ne h.out h.rr.1 (by decide) hk
  · exact own_ne h.out (h.rr.2.blk e) (by decide) hk
theorem QIn.sub (h : QIn w wr b lim v0 s0 l k ls o v cur rm over) : ∀ k, k < w.heap.size → FB b v k → FB b v0 k := by
  rintro k hk (rfl | e)
  · exact .inl rfl
  · rcases h.son k e with e | e
    · exact .inr e
    · omega
/-- the reader has turned, the lines not -/
theorem QIn.next (h : QIn w wr b lim v0 s0 l k ls o v cur rm over) {x : UInt8} (hx : l[k]? = some x) {v' : Value} {cur' rm' : List UInt8} {over' : Bool} (hr : RR w' b v' lim cur' rm' over') (hO : Only (FB b v) wr w') (hs : SameOrNew wr v v')
    (hst : stepB lim (cur, over) x = ([], (cur', over'))) : QIn w w' b lim v0 s0 l (k + 1) ls o v' cur' rm' over' := by
  refine ⟨hr, own_only h.out hO h.apart, h.only.trans hO h.sub, ?_, ?_, ?_, by have := h.cnt; omega⟩
  · intro j hj
    rcases hs j hj with e | e
    · exact h.son j e
    · have := h.only.size; omega
  · have := stepB_ok x h.ok; rw [hst] at this; exact this
  · rw [List.take_add_one, hx, Option.toList_some, feedB_snoc, h.eq, hst, List.append_nil]
/-- a line more -/
theorem QIn.line (h : QIn w wr b lim v0 s0 l k ls o v cur rm over) {x : UInt8} (hx : l[k]? = some x) {p : Ln} {v' : Value} {over' : Bool} (hr : RR w' b (.slice none 0 0) lim [] [] over') (hO : Only (FB b v0) w w')
    {o' : Value} (hout : w'.ownsRow w.heap.size 74 2 o' (ls.length + 1) (ls.flatMap lnC ++ lnC p))
    (hst : stepB lim (cur, over) x = ([p], ([], over'))) : QIn w w' b lim v0 s0 l (k + 1) (ls ++ [p]) o' (.slice none 0 0) [] [] over' := by
  refine ⟨hr, by simpa [List.flatMap_append] using hout, hO, fun k hk => by simp [Value.ownBlock] at hk, ?_, ?_, by have := h.cnt; simp; omega⟩
  · have := stepB_ok x h.ok; rw [hst] at this; exact this
  · rw [List.take_add_one, hx, Option.toList_some, feedB_snoc, h.eq, hst]
end


set_option maxRecDepth 100000 in
set_option maxHeartbeats 6400000 in
theorem qfeed_ok (w : World) (b lim : Nat) (v : Value) (cur rm : List UInt8) (over : Bool) (A : Option Addr) (n c : Nat) (l : List UInt8) (h : RR w b v lim cur rm over) (hlim2 : lim ≤ 65536) (hok : okS lim (cur, over))
    (ha : Sl w 1 A n (byt l)) (hn : n ≤ 1099511627776) (hap : ∀ ad, A = some ad → 0 < n → ¬ FB b v ad.block) :
    Calls Try.prog 33 #[.pointer (some ⟨b, 0, none⟩), .slice A n c] w fun e w' =>
      ∃ o v' rm', e = .returned o ∧ w'.ownsRow w.heap.size 74 2 o (feedB lim (cur, over) l).1.length ((feedB lim (cur, over) l).1.flatMap lnC) ∧
        RR w' b v' lim (feedB lim (cur, over) l).2.1 rm' (feedB lim (cur, over) l).2.2 ∧ Only (FB b v) w w' ∧ SameOrNew w v v' := by
  have hll : l.length = n := by have := ha.len1; simpa [byt] using this
  have HI := Lib.hid (show QIn w w b lim v (cur, over) l 0 [] (.slice none 0 0) v cur rm over from
    ⟨h, World.ownsRow_nil _ _ _ _, Only.refl _ _, SameOrNew.rfl _ _, hok, by simp [feedB], by simp⟩)
  obtain ⟨s0, hs0⟩ : ∃ s0, s0 = (cur, over) := ⟨_, rfl⟩
  rw [← hs0] at HI ⊢
  have HA := Lib.hid (And.intro ha hap)
  clear h hok ha hap
  go_enter Try.func33, Try.ntmps33
  go_wp2_with fail
  go_loopw [5, 6] (fun so i wr => ∃ (k : Nat) (ls : List Ln) (o v' : Value) (cur rm : List UInt8) (over : Bool), k ≤ n ∧ i = .int .i64 k ∧ so = o ∧ QIn w wr b lim v s0 l k ls o v' cur rm over) (fun _ i _ => n - (intOf i).toNat)
  case atStart => exact ⟨0, [], _, v, cur, rm, over, by omega, rfl, rfl, HI.out⟩
  case round =>
    clear HI hs0
    obtain ⟨k, ls, o, v', cur, rm, over, hk, rfl, ho, hin⟩ := hrel
    have ho' := ho.symm
    subst ho'
    have hcnt := hin.cnt
    have hok1 : cur.length ≤ lim := hin.ok.1
    have hsz := hin.only.size
    have HI := Lib.hid hin
    clear hin
    by_cases hlt : k < n
    · obtain ⟨ad, u, hA, -, hu, hc⟩ := (sl_only HA.out.1 HI.out.only HA.out.2).at1 hlt
      subst hA
      obtain ⟨x, hx, rfl⟩ := byt_get hu
      have HX := Lib.hid hx
      have c0 := HI.out.rr.1.cell 0
      have c1 := HI.out.rr.1.cell 1
      have c2 := HI.out.rr.1.cell 2
      have f1 := HI.out.rr.1.frozen 1
      have f2 := HI.out.rr.1.frozen 2
      simp only [List.getElem?_toArray, List.getElem?_cons_succ, List.getElem?_cons_zero] at c0 c1 c2
      clear hu hx
      by_cases hx10 : x = 10
      · subst hx10
        cases over
        case true =>
          have HST := Lib.hid (show stepB lim (cur, true) 10 = ([], ([], false)) by simp [stepB])
          go_wp2_with fail
          have HN := Lib.hid (HI.out.next (w' := (wr.setCell ⟨b, 1, none⟩ (.slice none 0 0)).setCell ⟨b, 2, none⟩ (.bool false)) HX.out (v' := .slice none 0 0) (rm' := [])
            ⟨by have := Blk.set_ (Blk.set_ HI.out.rr.1 1 (.slice none 0 0)) 2 (.bool false); simpa using this, RowB.nil _ _ _⟩
            (Only.set (Only.set (Only.refl (FB b v') wr) (p := ⟨b, 1, none⟩) (.inl (.inl rfl)) _) (p := ⟨b, 2, none⟩) (.inl (.inl rfl)) _)
            (fun k hk => by simp [Value.ownBlock] at hk) HST.out)
          go_roundw
          case rel => exact ⟨k + 1, _, _, _, _, _, _, by omega, by go_num, rfl, HN.out⟩
          case measure => simp [intOf]; omega
        case false =>
          obtain ⟨PP, hPP⟩ : ∃ PP, PP = toldL cur := ⟨_, rfl⟩
          obtain ⟨OO, hOO⟩ : ∃ OO, OO = false := ⟨_, rfl⟩
          have HST := Lib.hid (show stepB lim (cur, false) 10 = ([PP], ([], OO)) by rw [hPP, hOO]; simp [stepB])
          obtain ⟨va, hv, hvm⟩ := HI.out.rr.2.form
          subst hv
          have HPP := Lib.hid (And.intro hPP hOO)
          clear hPP hOO
          have hcm : cur.length ≤ maxLen := by simp only [maxLen]; omega
          go_wp2_with (first
            | (go_at_call 44
               refine (rline_any va cur.length _ cur _ HI.out.rr.2.sl hcm).mono ?_
               rw [← HPP.out.1]
               rintro e w6 ⟨rfl, hb6⟩
               have HS := Lib.hid (HI.out.below hb6)
               clear hb6)
            | (at_builtin
               refine wpl_app1 rfl _ _ _ rfl w.heap.size 74 _ 2 24 Try.underlying52 lineInfo rfl (by omega) (by omega) _ _ _ (lnC PP) rfl HS.out.out rfl rfl (lnC_one _) (by omega) HS.out.only.size ?_
               intro v5 w5 hown5 hg5 hs5
               obtain ⟨a5, d5, rfl, -, -⟩ := own_form hown5
               have hB5 : Blk w5 b 65 _ := HS.out.rr.1.grown hg5 (fun e => HS.out.apart b e.symm (.inl rfl))
               have g1 := hB5.frozen 1
               have g2 := hB5.frozen 2
               have e1 := hB5.cell 1
               have e2 := hB5.cell 2
               simp only [List.getElem?_toArray, List.getElem?_cons_succ, List.getElem?_cons_zero] at e1 e2
               have hnb : ∀ k, (Value.slice a5 (ls.length + 1) d5).ownBlock = some k → ¬ k = b := fun k hk e => own_ne hown5 hB5 (by decide) (by rw [hk, e])
               have hO5 : Only (FB b v) w w5 := HS.out.only.grown hg5 (fun k hk => .inr (HS.out.out.lt k hk).1)
               have H5 := Lib.hid (And.intro hown5 (And.intro hB5 (And.intro hnb hO5)))
               clear hown5 hg5 hs5 hB5 hnb hO5)
          )
          rw [← HPP.out.2]
          have HN := Lib.hid (HS.out.line (w' := (w5.setCell ⟨b, 1, none⟩ (.slice none 0 0)).setCell ⟨b, 2, none⟩ (.bool OO)) HX.out (p := PP) (v' := .slice none 0 0) (over' := OO)
            ⟨by have := Blk.set_ (Blk.set_ H5.out.2.1 1 (.slice none 0 0)) 2 (.bool OO); simpa using this, RowB.nil _ _ _⟩
            (Only.set (Only.set H5.out.2.2.2 (p := ⟨b, 1, none⟩) (.inl (.inl rfl)) (.slice none 0 0)) (p := ⟨b, 2, none⟩) (.inl (.inl rfl)) (.bool OO))
            (own_only H5.out.1 (Only.set (Only.set (Only.refl (· = b) w5) (p := ⟨b, 1, none⟩) (.inl rfl) (.slice none 0 0)) (p := ⟨b, 2, none⟩) (.inl rfl) (.bool OO)) H5.out.2.2.1) HST.out)
          go_roundw
          case rel => exact ⟨k + 1, _, _, _, _, _, _, by omega, by go_num, rfl, HN.out⟩
          case measure => simp [intOf]; omega
      · have hxb : ((x.toNat : Int) == 10) = false := by
          have : x.toNat ≠ 10 := fun e => hx10 (UInt8.toNat_inj.1 e)
          simp; omega
        have HXB := Lib.hid hx10
        clear hx10
        cases over
        case true =>
          have HN := Lib.hid (HI.out.next HX.out (v' := v') HI.out.rr (Only.refl _ _) (SameOrNew.rfl _ _) (by simp [stepB, HXB.out]))
          go_wp2_with fail
          go_roundw
          case rel => exact ⟨k + 1, _, _, _, _, _, _, by omega, by go_num, rfl, HN.out⟩
          case measure => simp [intOf]; omega
        case false =>
          obtain ⟨va, hv, hvm⟩ := HI.out.rr.2.form
          subst hv
          by_cases hfull : cur.length = lim
          · obtain ⟨PP, hPP⟩ : ∃ PP : Ln, PP = (1, []) := ⟨_, rfl⟩
            obtain ⟨OO, hOO⟩ : ∃ OO, OO = true := ⟨_, rfl⟩
            have HST := Lib.hid (show stepB lim (cur, false) x = ([PP], ([], OO)) by rw [hPP, hOO]; simp [stepB, HXB.out, hfull])
            have HPP := Lib.hid (And.intro hPP hOO)
            clear hPP hOO
            have hfb : ((cur.length : Int) == (lim : Int)) = true := by simp; omega
            clear hfull
            go_wp2_with fail
            go_quiet (fail)
            have HS := Lib.hid (HI.out.below (w' := wr.drewN nq) (below_drewN (Below.refl _ _) _))
            go_wp2_with (first
              | (at_builtin
                 refine wpl_app1 rfl _ _ _ rfl w.heap.size 74 _ 2 24 Try.underlying52 lineInfo rfl (by omega) (by omega) _ _ _ (lnC (1, [])) rfl HS.out.out rfl rfl (lnC_one _) (by omega) HS.out.only.size ?_
                 rw [← HPP.out.1]
                 intro v5 w5 hown5 hg5 hs5
                 obtain ⟨a5, d5, rfl, -, -⟩ := own_form hown5
                 have hB5 : Blk w5 b 65 _ := HS.out.rr.1.grown hg5 (fun e => HS.out.apart b e.symm (.inl rfl))
                 have g1 := hB5.frozen 1
                 have g2 := hB5.frozen 2
                 have e1 := hB5.cell 1
                 have e2 := hB5.cell 2
                 simp only [List.getElem?_toArray, List.getElem?_cons_succ, List.getElem?_cons_zero] at e1 e2
                 have hnb : ∀ k, (Value.slice a5 (ls.length + 1) d5).ownBlock = some k → ¬ k = b := fun k hk e => own_ne hown5 hB5 (by decide) (by rw [hk, e])
                 have hO5 : Only (FB b v) w w5 := HS.out.only.grown hg5 (fun k hk => .inr (HS.out.out.lt k hk).1)
                 have H5 := Lib.hid (And.intro hown5 (And.intro hB5 (And.intro hnb hO5)))
                 clear hown5 hg5 hs5 hB5 hnb hO5)
            )
            rw [← HPP.out.2]
            have HN := Lib.hid (HS.out.line (w' := (w5.setCell ⟨b, 1, none⟩ (.slice none 0 0)).setCell ⟨b, 2, none⟩ (.bool OO)) HX.out (p := PP) (v' := .slice none 0 0) (over' := OO)
              ⟨by have := Blk.set_ (Blk.set_ H5.out.2.1 1 (.slice none 0 0)) 2 (.bool OO); simpa using this, RowB.nil _ _ _⟩
              (Only.set (Only.set H5.out.2.2.2 (p := ⟨b, 1, none⟩) (.inl (.inl rfl)) (.slice none 0 0)) (p := ⟨b, 2, none⟩) (.inl (.inl rfl)) (.bool OO))
              (own_only H5.out.1 (Only.set (Only.set (Only.refl (· = b) w5) (p := ⟨b, 1, none⟩) (.inl rfl) (.slice none 0 0)) (p := ⟨b, 2, none⟩) (.inl rfl) (.bool OO)) H5.out.2.2.1) HST.out)
            go_roundw
            case rel => exact ⟨k + 1, _, _, _, _, _, _, by omega, by go_num, rfl, HN.out⟩
            case measure => simp [intOf]; omega
          · have hfb : ((cur.length : Int) == (lim : Int)) = false := by simp; omega
            have HST := Lib.hid (show stepB lim (cur, false) x = ([], (cur ++ [x], false)) by simp [stepB, HXB.out, hfull])
            clear hfull
            go_wp2_with fail
            go_quiet (fail)
            go_wp2_with fail
            have HS := Lib.hid (HI.out.below (w' := (wr.drewN nq).drew) (by exact (below_drewN (Below.refl _ _) _).drew))
            have cS : ∀ m, ((wr.drewN m).alloc (.cells #[.int .u8 x.toNat] 5)).cell? ⟨b, 1, none⟩ = some (.slice va cur.length (cur.length + rm.length)) := fun m => (Blk.alloc (w := wr.drewN m) HI.out.rr.1 _).cell 1
            refine wp_region_plan (.take 0 <| .take 1 <| .take 2 <| .take 3 <| .take 5 <| .take 6 <| .take 7 <| .alt (.run 4 <| .run 8 <| .run 9 <| .run 10 <| .take 11 <| .take 12 <| .run 13 <| .done) (.run 8 <| .alt (.run 4 <| .run 9 <| .run 10 <| .take 11 <| .take 12 <| .run 13 <| .done) (.run 9 <| .run 4 <| .run 10 <| .take 11 <| .take 12 <| .run 13 <| .done))) (by kernel_rfl) (by kernel_rfl) (by kernel_rfl) (by kernel_rfl) ?_
            go_wp2_with (first
              | (refine plan_appB1 rfl rfl _ _ _ rfl 0 5 Try.underlying33 byteInfo _ cur rm HS.out.rr.2 rfl x _ rfl rfl (by omega) (by omega) ?_
                 intro v5 rm5 w5 hown5 hg5 hs5
                 obtain ⟨a5, n5, d5, rfl, hn5, -, -⟩ := hown5.form2
                 have hB5 := HS.out.rr.1.grown hg5 (fun e => HS.out.rr.2.ne_ HS.out.rr.1 (by decide) e.symm)
                 have g1 := hB5.frozen 1
                 have e1 := hB5.cell 1
                 simp only [List.getElem?_toArray, List.getElem?_cons_succ, List.getElem?_cons_zero] at e1
                 have H5 := Lib.hid (And.intro hown5 (And.intro hB5 (And.intro hg5 hs5)))
                 clear hown5 hB5 hg5 hs5 hn5)
              | ((with_reducible refine wpPlan_isTake ?_); refine wpPlan_take (v := ?_) rfl ?_ (fun w => ?_) ?_; rotate_left 1; (focus rfl); (focus (first | (go_simp; done) | (go_simp; with_reducible rfl))); simp only [Act.put, List.setIfInBounds_toArray, List.set_cons_zero, List.set_cons_succ]) | ((with_reducible refine wpPlan_isTake ?_); refine wpPlan_skip rfl ?_ ?_; (focus rfl); simp only [Act.put, List.setIfInBounds_toArray, List.set_cons_zero, List.set_cons_succ]) | ((with_reducible refine wpPlan_isRun ?_); refine wpPlan_run rfl (fun K hK => ?_); go_simp) | ((with_reducible refine wpPlan_alt ?_ ?_)) | ((with_reducible refine wpPlan_done ?_)))
            all_goals
              have hne5 : ∀ j, (Value.slice a5 n5 d5).ownBlock = some j → ¬ j = b := fun j hj e => H5.out.1.ne_ H5.out.2.1 (by decide) (by rw [hj, e])
              have HN := Lib.hid (HS.out.next (w' := w5.setCell ⟨b, 1, none⟩ (.slice a5 n5 d5)) HX.out (v' := .slice a5 n5 d5) (rm' := rm5)
                ⟨by have := Blk.set_ H5.out.2.1 1 (.slice a5 n5 d5); simpa using this, H5.out.1.only ((Only.refl (· = b) w5).set (p := ⟨b, 1, none⟩) (.inl rfl) _) hne5⟩
                (Only.set (Only.of_grown H5.out.2.2.1 (fun j hj => .inr hj)) (p := ⟨b, 1, none⟩) (.inl (.inl rfl)) _) H5.out.2.2.2 HST.out)
              exact ⟨⟨k + 1, _, _, _, _, _, _, by omega, by go_num, rfl, HN.out⟩, by simp [intOf]; omega⟩
    · have hfull : l.take k = l := List.take_of_length_le (by omega)
      have heq := HI.out.eq
      rw [hfull] at heq
      have HQ := Lib.hid heq
      clear heq hfull
      go_wp2_with fail
      go_ret
      rw [HQ.out]
      exact ⟨_, rfl, HI.out.out, v', ⟨rm, HI.out.rr⟩, HI.out.only, HI.out.son⟩
end Go.Proofs.Ytnkbjjnopbmfnaa
