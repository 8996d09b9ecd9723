/- The law OutDrains: what is drained is the beginning of the lines that were taken, and what waits is the rest; every input. -/
import Derived.Test.YtnkbjjnopbmfnaaOutS
import Derived.Test.YtnkbjjnopbmfnaaOActs
import Derived.Test.YtnkbjjnopbmfnaaGuard
import Derived.Deep.DeepCutAuto
import Derived.Deep.CutBlock
namespace Go.Proofs.Ytnkbjjnopbmfnaa
open Go.RowKit Go.As
set_option linter.unusedVariables false

/-- a buffer, what was taken, what was drained: apart from one another, above what was there -/
structure ODr (w0 w : World) (lim b : Nat) (v : Value) (pre rm l : List UInt8) (t : Nat) (o : Bool) (tv : Value) (T trm : List UInt8) (dv : Value) (D drm : List UInt8) : Prop where
  s : OBuf w b v lim pre l rm t o
  tk : RowB w w0.heap.size 5 tv T trm
  dr : RowB w w0.heap.size 5 dv D drm
  lo : ∀ k, FB b v k → w0.heap.size ≤ k
  d1 : ∀ k, FB b v k → tv.ownBlock ≠ some k
  d2 : ∀ k, FB b v k → dv.ownBlock ≠ some k
  d3 : ∀ k, tv.ownBlock = some k → dv.ownBlock ≠ some k
  bel : Below w0.heap.size w0 w

section
variable {w0 w w' : World} {lim b : Nat} {v v' : Value} {pre pre' rm rm' l l' : List UInt8} {t t' : Nat} {o o' : Bool} {tv tv' : Value} {T T' trm trm' : List UInt8} {dv dv' : Value} {D D' drm drm' : List UInt8}
theorem ODr.below (h : ODr w0 w lim b v pre rm l t o tv T trm dv D drm) (hb : Below w.heap.size w w') : ODr w0 w' lim b v pre rm l t o tv T trm dv D drm :=
  ⟨h.s.below hb, h.tk.below hb, h.dr.below hb, h.lo, h.d1, h.d2, h.d3, below_then h.bel hb⟩
theorem ODr.step (h : ODr w0 w lim b v pre rm l t o tv T trm dv D drm) (ho : OBuf w' b v' lim pre' l' rm' t' o') (hO : Only (FB b v) w w') (hs : SameOrNew w v v') :
    ODr w0 w' lim b v' pre' rm' l' t' o' tv T trm dv D drm := by
  refine ⟨ho, h.tk.only hO (fun k hk hf => h.d1 k hf hk), h.dr.only hO (fun k hk hf => h.d2 k hf hk), ?_, ?_, ?_, h.d3, hO.below' h.bel (fun k hk hf => by have := h.lo k hf; omega)⟩
  · rintro k (rfl | hk)
    · exact h.lo _ (.inl rfl)
    · rcases hs k hk with e | e
      · exact h.lo k (.inr e)
      · have := h.bel.size; omega
  · rintro k (rfl | hk) e2
    · exact h.d1 _ (.inl rfl) e2
    · rcases hs k hk with e | e
      · exact h.d1 k (.inr e) e2
      · have := (h.tk.lt k e2).2; omega
  · rintro k (rfl | hk) e2
    · exact h.d2 _ (.inl rfl) e2
    · rcases hs k hk with e | e
      · exact h.d2 k (.inr e) e2
      · have := (h.dr.lt k e2).2; omega
theorem ODr.stepD (h : ODr w0 w lim b v pre rm l t o tv T trm dv D drm) (hr : RowB w' w0.heap.size 5 dv' D' drm') (hg : w.grownBy w' dv.ownBlock) (hs : SameOrNew w dv dv') :
    ODr w0 w' lim b v pre rm l t o tv T trm dv' D' drm' := by
  have hO : Only (fun k => dv.ownBlock = some k) w w' := Only.of_grown hg (fun k hk => hk)
  refine ⟨h.s.only hO (fun k hk hf => h.d2 k hk hf), h.tk.only hO (fun k hk hf => h.d3 k hk hf), hr, h.lo, h.d1, ?_, ?_, hO.below' h.bel (fun k hk hf => by have := (h.dr.lt k hf).1; omega)⟩
  · intro k hk e2
    rcases hs k e2 with e | e
    · exact h.d2 k hk e
    · have := h.s.lt k hk; omega
  · intro k hk e2
    rcases hs k e2 with e | e
    · exact h.d3 k hk e
    · have := (h.tk.lt k hk).2; omega
theorem ODr.stepT (h : ODr w0 w lim b v pre rm l t o tv T trm dv D drm) (hr : RowB w' w0.heap.size 5 tv' T' trm') (hg : w.grownBy w' tv.ownBlock) (hs : SameOrNew w tv tv') :
    ODr w0 w' lim b v pre rm l t o tv' T' trm' dv D drm := by
  have hO : Only (fun k => tv.ownBlock = some k) w w' := Only.of_grown hg (fun k hk => hk)
  refine ⟨h.s.only hO (fun k hk hf => h.d1 k hk hf), hr, h.dr.only hO (fun k hk hf => h.d3 k hf hk), h.lo, ?_, h.d2, ?_, hO.below' h.bel (fun k hk hf => by have := (h.tk.lt k hf).1; omega)⟩
  · intro k hk e2
    rcases hs k e2 with e | e
    · exact h.d1 k hk e
    · have := h.s.lt k hk; omega
  · intro k hk e2
    rcases hs k hk with e | e
    · exact h.d3 k e e2
    · have := (h.dr.lt k e2).2; omega
end


set_option maxRecDepth 100000 in
set_option maxHeartbeats 6400000 in
theorem outDrains_go (limit : Int) (A : Option Addr) (n c : Nat) (acts : List (Int × List UInt8 × Int)) (w : World) (ha : Sl w 3 A n (acts.flatMap oactC)) (hl : acts.length = n) (hn : n ≤ maxLen) :
    Calls Try.prog 5 #[.int .i64 limit, .slice A n c] w fun e w' => e = .returned (.bool true) ∧ Below w.heap.size w w' := by
  unfold maxLen at hn
  by_cases hbad : limit < 64 ∨ 5000 < limit ∨ 80 < n
  · have HA := Lib.hid (oawake_ok w)
    clear ha
    rcases hbad with hbad | hbad
    · go_enter Try.func5, Try.ntmps5
      go_wp2_with (go_at_call 23; refine HA.out.mono ?_; rintro e w' ⟨rfl, hb⟩)
      go_ret
      exact ⟨rfl, hb⟩
    by_cases h0 : limit < 64
    · go_enter Try.func5, Try.ntmps5
      go_wp2_with (go_at_call 23; refine HA.out.mono ?_; rintro e w' ⟨rfl, hb⟩)
      go_ret
      exact ⟨rfl, hb⟩
    rcases hbad with hbad | hbad
    · go_enter Try.func5, Try.ntmps5
      go_wp2_with (go_at_call 23; refine HA.out.mono ?_; rintro e w' ⟨rfl, hb⟩)
      go_ret
      exact ⟨rfl, hb⟩
    by_cases h1 : 5000 < limit
    · go_enter Try.func5, Try.ntmps5
      go_wp2_with (go_at_call 23; refine HA.out.mono ?_; rintro e w' ⟨rfl, hb⟩)
      go_ret
      exact ⟨rfl, hb⟩
    go_enter Try.func5, Try.ntmps5
    go_wp2_with (go_at_call 23; refine HA.out.mono ?_; rintro e w' ⟨rfl, hb⟩)
    go_ret
    exact ⟨rfl, hb⟩
  obtain ⟨lim, rfl⟩ : ∃ lim : Nat, limit = lim := ⟨limit.toNat, by omega⟩
  have hlo : 64 ≤ lim := by omega
  have hh5 : lim ≤ 5000 := by omega
  have hhi : lim ≤ 1048576 := by omega
  have hn80 : n ≤ 80 := by omega
  have HA := Lib.hid ha
  have HL := Lib.hid hl
  have HC := Lib.hid contains_nl
  clear ha hl hbad
  go_enter Try.func5, Try.ntmps5
  go_wp2_with fail
  refine (oawake_ok w).mono ?_
  rintro e w1 ⟨rfl, hb1⟩
  have HB1 := Lib.hid hb1
  clear hb1
  go_wp2_with fail
  refine (onew_ok lim _ hlo hhi).mono ?_
  rintro e w2 ⟨rfl, ho2, hb2, hz2⟩
  have hP : ODr w w2 lim w1.heap.size (.slice none 0 0) [] [] [] 0 false (.slice none 0 0) [] [] (.slice none 0 0) [] [] := by
    refine ⟨ho2, RowB.nil _ _ _, RowB.nil _ _ _, ?_, ?_, ?_, ?_, below_then HB1.out hb2⟩
    · rintro k (rfl | hk)
      · exact HB1.out.size
      · simp [Value.ownBlock] at hk
    · intro k _ e; simp [Value.ownBlock] at e
    · intro k _ e; simp [Value.ownBlock] at e
    · intro k _ e; simp [Value.ownBlock] at e
  have HP := Lib.hid hP
  clear hP HB1 ho2 hb2 hz2
  go_wp2_with fail
  go_loopw [8, 9, 10, 11] (fun tv dv ov i wr => ∃ (k : Nat) (v : Value) (pre rm l : List UInt8) (t : Nat) (o : Bool) (T trm D drm : List UInt8) (tv' dv' : Value), k ≤ n ∧ i = .int .i64 k ∧ (ov = .bool o ∧ tv = tv' ∧ dv = dv') ∧ ODr w wr lim w1.heap.size v pre rm l t o tv' T trm dv' D drm ∧ (T = D ++ l ∧ t = D.length ∧ T.length ≤ k * 301 ∧ l.length ≤ lim ∧ pre.length ≤ t)) (fun _ _ _ i _ => n - (intOf i).toNat)
  case atStart => exact ⟨0, _, [], [], [], 0, false, [], [], [], [], _, _, by omega, rfl, ⟨rfl, rfl, rfl⟩, HP.out, by simp⟩
  case round =>
    clear HP
    obtain ⟨k, v, pre, rm, l, t, o, T, trm, D, drm, tv', dv', hk, rfl, ⟨rfl, rfl, rfl⟩, hpair, hT, hD, hTl, hll, hpre⟩ := hrel
    have hsz := hpair.bel.size
    have HP := Lib.hid hpair
    have hDl : D.length + l.length ≤ k * 301 := by rw [hT, List.length_append] at hTl; exact hTl
    have HT := Lib.hid hT
    clear hpair hT
    by_cases hlt : k < n
    · obtain ⟨ad, u, hA, -, -, -⟩ := (HA.out.below HP.out.bel).at_ hlt (show 0 < 3 by omega)
      obtain ⟨p, hp⟩ : ∃ p, acts[k]? = some p := ⟨_, List.getElem?_eq_getElem (by rw [HL.out]; exact hlt)⟩
      obtain ⟨kind, line, num⟩ := p
      have hcells := ((HA.out.below HP.out.bel).2 (by omega))
      obtain ⟨ad', hA', hadlt, hcell⟩ := hcells
      rw [hA] at hA'
      obtain rfl : ad = ad' := Option.some.inj hA'
      have c0 := hcell (k * 3 + 0) _ (flat_at oactC 3 oactC_len hp 0 (by omega))
      have c1 := hcell (k * 3 + 1) _ (flat_at oactC 3 oactC_len hp 1 (by omega))
      have c2 := hcell (k * 3 + 2) _ (flat_at oactC 3 oactC_len hp 2 (by omega))
      rw [← add_add'] at c0 c1 c2
      have c1b : wr.cell? ⟨(ad.add (k * 3)).block, (ad.add (k * 3)).off + 1, none⟩ = some (.string (str line)) := by simpa [Addr.add] using c1
      have c2b : wr.cell? ⟨(ad.add (k * 3)).block, (ad.add (k * 3)).off + 2, none⟩ = some (.int .i64 num) := by simpa [Addr.add] using c2
      have c0c : wr.cell? (ad.add (k * 3)) = some (.int .i64 kind) := by simpa [Addr.add] using c0
      subst hA
      clear hp hA' hcell c0 c1 c2
      have HP0 := Lib.hid (HP.out.below ((Below.refl wr.heap.size wr).alloc (Nat.le_refl _) (.cells #[.int .i64 kind, .string (str line), .int .i64 num] 31)))
      by_cases hline : 300 < line.length
      · go_wp2_with fail
        go_ret
        exact ⟨rfl, HP0.out.bel⟩
      by_cases hm : (10 : UInt8) ∈ line
      · have hd : decide ((10 : UInt8) ∈ line) = true := by simpa using hm
        go_wp2_with (go_at_call 24; refine (HC.out _ _).mono ?_; rw [hd]; rintro e w' ⟨rfl, rfl⟩)
        go_ret
        exact ⟨rfl, HP0.out.bel⟩
      have hd : decide ((10 : UInt8) ∈ line) = false := by simpa using hm
      have HD := Lib.hid hd
      have HM := Lib.hid hm
      clear hd hm
      have hline2 : line.length ≤ 281474976710656 := by omega
      obtain ⟨ta, htv, htmx⟩ := HP.out.tk.form
      obtain ⟨da, hdv, hdmx⟩ := HP.out.dr.form
      subst htv hdv
      have hTL : D.length + l.length = T.length := by rw [HT.out, List.length_append]
      have HB0 := Lib.hid (Blk.new wr 31 #[.int .i64 kind, .string (str line), .int .i64 num])
      have hpre2 : pre.length ≤ 1099511627776 := by omega
      have ht2 : t ≤ 1099511627776 := by omega
      have hg1 : ¬ FB w1.heap.size v wr.heap.size := fun h => by have := HP.out.s.lt _ h; omega
      have HG := Lib.hid hg1
      clear hg1 htmx hdmx
      by_cases k0 : kind = 0
      · subst k0
        cases o
        case true =>
          have HE := Lib.hid (show putE lim l true line = (10, l, true) from rfl)
          go_wp2_with (first
            | (go_at_call 24; refine (HC.out _ _).mono ?_; rw [HD.out]; rintro e w' ⟨rfl, rfl⟩)
            | (go_at_call 14
               refine (oput_ok _ _ _ _ _ _ _ _ _ line (by exact HP0.out.s) hlo hhi hll hpre2 hline2).mono ?_
               rw [HE.out]
               rintro e w3 ⟨rfl, v', pre', rm', hr3, hp3, ho3, hs3⟩
               have HPt := Lib.hid (HP0.out.step hr3 ho3 hs3)
               have HNt := Lib.hid (show T = D ++ l ∧ t = D.length ∧ T.length ≤ (k + 1) * 301 ∧ l.length ≤ lim ∧ pre'.length ≤ t from ⟨HT.out, hD, by omega, hll, by omega⟩)
               clear hr3 ho3 hs3 hp3))
          go_wp2_with (first
            | (go_at_call 22; refine (oover_ok _ _ _ _ _ _ _ _ _ HPt.out.s hlo).mono ?_; rintro e w' ⟨rfl, rfl⟩))
          go_roundw
          case rel => exact ⟨k + 1, _, _, _, _, _, _, _, _, _, _, _, _, by omega, by go_num, ⟨rfl, rfl, rfl⟩, HPt.out, HNt.out⟩
          case measure => simp [intOf]; omega
        case false =>
          by_cases hfull : lim < l.length + line.length + 1
          · have HE := Lib.hid (show putE lim l false line = (8, l, true) by simp [putE, HM.out, hfull])
            go_wp2_with (first
              | (go_at_call 24; refine (HC.out _ _).mono ?_; rw [HD.out]; rintro e w' ⟨rfl, rfl⟩)
              | (go_at_call 14
                 refine (oput_ok _ _ _ _ _ _ _ _ _ line (by exact HP0.out.s) hlo hhi hll hpre2 hline2).mono ?_
                 rw [HE.out]
                 rintro e w3 ⟨rfl, v', pre', rm', hr3, hp3, ho3, hs3⟩
                 have HPt := Lib.hid (HP0.out.step hr3 ho3 hs3)
                 have HNt := Lib.hid (show T = D ++ l ∧ t = D.length ∧ T.length ≤ (k + 1) * 301 ∧ l.length ≤ lim ∧ pre'.length ≤ t from ⟨HT.out, hD, by omega, hll, by omega⟩)
                 clear hr3 ho3 hs3 hp3)
              | fail)
            go_wp2_with (first
              | (go_at_call 22; refine (oover_ok _ _ _ _ _ _ _ _ _ HPt.out.s hlo).mono ?_; rintro e w' ⟨rfl, rfl⟩))
            go_roundw
            case rel => exact ⟨k + 1, _, _, _, _, _, _, _, _, _, _, _, _, by omega, by go_num, ⟨rfl, rfl, rfl⟩, HPt.out, HNt.out⟩
            case measure => simp [intOf]; omega
          · have HE := Lib.hid (show putE lim l false line = (0, l ++ line ++ [10], false) by simp [putE, HM.out, hfull])
            go_wp2_with (first
              | (go_at_call 24; refine (HC.out _ _).mono ?_; rw [HD.out]; rintro e w' ⟨rfl, rfl⟩)
              | (go_at_call 14
                 refine (oput_ok _ _ _ _ _ _ _ _ _ line (by exact HP0.out.s) hlo hhi hll hpre2 hline2).mono ?_
                 rw [HE.out]
                 rintro e w3 ⟨rfl, v', pre', rm', hr3, hp3, ho3, hs3⟩
                 have HP3 := Lib.hid (HP0.out.step hr3 ho3 hs3)
                 have hsz3 := HP3.out.bel.size
                 have HB3 := Lib.hid (HB0.out.only ho3 HG.out)
                 have e1 := HB3.out.cell 1
                 simp only [List.getElem?_toArray, List.getElem?_cons_succ, List.getElem?_cons_zero] at e1
                 have HN3 := Lib.hid hp3
                 clear hr3 ho3 hs3 hp3)
              | (at_builtin
                 refine wpl_appBS rfl _ _ _ _ rfl w.heap.size 5 Try.underlying33 Try.underlying9 byteInfo _ T trm HP3.out.tk rfl line rfl (by omega) hsz3 ?_
                 intro v4 rm4 w4 hown4 hg4 hs4
                 obtain ⟨a4, n4, d4, rfl, -, -, -⟩ := hown4.form2
                 have HP4 := Lib.hid (HP3.out.stepT hown4 hg4 hs4)
                 have hsz4 := HP4.out.bel.size
                 clear hown4 hg4 hs4)
              | (at_builtin
                 refine wpl_appB1 rfl _ _ _ rfl w.heap.size 5 Try.underlying33 byteInfo _ _ _ HP4.out.tk rfl 10 _ rfl rfl (by simp; omega) hsz4 ?_
                 intro v5 rm5 w5 hown5 hg5 hs5
                 obtain ⟨a5, n5, d5, rfl, -, -, -⟩ := hown5.form2
                 have HPt := Lib.hid (HP4.out.stepT hown5 hg5 hs5)
                 have HNt := Lib.hid (show T ++ line ++ [10] = D ++ (l ++ line ++ [10]) ∧ t = D.length ∧ (T ++ line ++ [10]).length ≤ (k + 1) * 301 ∧ (l ++ line ++ [10]).length ≤ lim ∧ pre'.length ≤ t from ⟨by rw [HT.out]; simp, hD, by simp; omega, by simp; omega, Nat.le_trans HN3.out hpre⟩)
                 clear hown5 hg5 hs5))
            go_wp2_with (first
              | (go_at_call 22; refine (oover_ok _ _ _ _ _ _ _ _ _ HPt.out.s hlo).mono ?_; rintro e w' ⟨rfl, rfl⟩))
            go_roundw
            case rel => exact ⟨k + 1, _, _, _, _, _, _, _, _, _, _, _, _, by omega, by go_num, ⟨rfl, rfl, rfl⟩, HPt.out, HNt.out⟩
            case measure => simp [intOf]; omega
      · have kb : (kind == 0) = false := by simpa using k0
        clear k0
        by_cases hneg : num < 0
        · go_wp2_with (first
            | (go_at_call 24; refine (HC.out _ _).mono ?_; rw [HD.out]; rintro e w' ⟨rfl, rfl⟩)
            | (go_at_call 16
               refine (odrain_bad _ _ _ _ _ _ _ _ _ num (by exact HP0.out.s) hlo hneg).mono ?_
               rintro e w' ⟨rfl, rfl⟩)
            | (at_builtin
               refine wpl_appB rfl _ _ _ rfl w.heap.size 5 Try.underlying33 byteInfo _ D drm HP0.out.dr rfl none 0 0 [] rfl (Sl.empty _ _ _) (by omega) HP0.out.bel.size ?_
               intro v5 rm5 w5 hown5 hg5 hs5
               obtain ⟨a5, n5, d5, rfl, -, -, -⟩ := hown5.form2
               have hPt := HP0.out.stepD hown5 hg5 hs5
               rw [List.append_nil] at hPt
               have HPt := Lib.hid hPt
               have HNt := Lib.hid (show T = D ++ l ∧ t = D.length ∧ T.length ≤ (k + 1) * 301 ∧ l.length ≤ lim ∧ pre.length ≤ t from ⟨HT.out, hD, by omega, hll, hpre⟩)
               clear hown5 hg5 hs5 hPt))
          go_roundw
          case rel => exact ⟨k + 1, _, _, _, _, _, _, _, _, _, _, _, _, by omega, by go_num, ⟨rfl, rfl, rfl⟩, HPt.out, HNt.out⟩
          case measure => simp [intOf]; omega
        · have hpos : 0 ≤ num := by omega
          have HN5 := Lib.hid (show T = (D ++ l.take num.toNat) ++ l.drop num.toNat ∧ t + min num.toNat l.length = (D ++ l.take num.toNat).length ∧ T.length ≤ (k + 1) * 301 ∧ (l.drop num.toNat).length ≤ lim ∧ (pre ++ l.take num.toNat).length ≤ t + min num.toNat l.length from
            ⟨by rw [List.append_assoc, List.take_append_drop]; exact HT.out, by rw [List.length_append, List.length_take, hD], by omega, by rw [List.length_drop]; omega, by rw [List.length_append, List.length_take]; omega⟩)
          have hx5 : (l.take num.toNat).length ≤ num.toNat := by rw [List.length_take]; omega
          have hx6 : (l.take num.toNat).length ≤ l.length := by rw [List.length_take]; omega
          have HX5 := Lib.hid (And.intro hx5 hx6)
          clear hx5 hx6
          go_wp2_with (first
            | (go_at_call 24; refine (HC.out _ _).mono ?_; rw [HD.out]; rintro e w' ⟨rfl, rfl⟩)
            | (go_at_call 16
               refine (odrain_ok _ _ _ _ _ _ _ _ _ num (by exact HP0.out.s) hlo hhi hll hpre2 ht2 hpos).mono ?_
               rintro e w3 ⟨x, xrm, rfl, hx, ho3, hO3⟩
               obtain ⟨xa, xn, xc, rfl, hxn, -, -⟩ := hx.form2
               have hxle : (xn : Int) ≤ num := by have := HX5.out.1; omega
               have hxle2 : xn ≤ 5000 := by have := HX5.out.2; omega
               have HX := Lib.hid (show Sl w3 1 xa xn (byt (l.take num.toNat)) by rw [hxn]; exact hx.sl)
               have HP3 := Lib.hid (HP0.out.step ho3 (hO3.mono (fun i _ h => .inl h)) (SameOrNew.rfl _ _))
               have hsz3 := HP3.out.bel.size
               have HB3 := Lib.hid (HB0.out.only hO3 (fun e => HG.out (.inl e)))
               have e2 := HB3.out.cell 2
               simp only [List.getElem?_toArray, List.getElem?_cons_succ, List.getElem?_cons_zero] at e2
               clear hx hxn ho3 hO3)
            | (at_builtin
               refine wpl_appB rfl _ _ _ rfl w.heap.size 5 Try.underlying33 byteInfo _ D drm HP3.out.dr rfl xa xn xc (l.take num.toNat) rfl HX.out (by omega) hsz3 ?_
               intro v5 rm5 w5 hown5 hg5 hs5
               obtain ⟨a5, n5, d5, rfl, -, -, -⟩ := hown5.form2
               have HPt := Lib.hid (HP3.out.stepD hown5 hg5 hs5)
               clear hown5 hg5 hs5))
          go_roundw
          case rel => exact ⟨k + 1, _, _, _, _, _, _, _, _, _, _, _, _, by omega, by go_num, ⟨rfl, rfl, rfl⟩, HPt.out, HN5.out⟩
          case measure => simp [intOf]; omega
    · obtain ⟨ta, htv, htmx⟩ := HP.out.tk.form
      obtain ⟨da, hdv, hdmx⟩ := HP.out.dr.form
      subst htv hdv
      have hTL : D.length + l.length = T.length := by rw [HT.out, List.length_append]
      have hpre2 : pre.length ≤ 1099511627776 := by omega
      have ht2 : t ≤ 1099511627776 := by omega
      clear htmx hdmx
      have HX := Lib.hid (show l.take (5000 : Int).toNat = l ∧ l.drop (5000 : Int).toNat = [] ∧ t + min (5000 : Int).toNat l.length = T.length from
        ⟨List.take_of_length_le (by show l.length ≤ 5000; omega), List.drop_of_length_le (by show l.length ≤ 5000; omega), by show t + min 5000 l.length = _; omega⟩)
      go_wp2_with (first
        | (go_at_call 16
           refine (odrain_ok _ _ _ _ _ _ _ _ _ 5000 (by exact HP.out.s) hlo hhi hll hpre2 ht2 (by omega)).mono ?_
           rw [HX.out.1, HX.out.2.1, HX.out.2.2]
           rintro e w3 ⟨x, xrm, rfl, hx, ho3, hO3⟩
           obtain ⟨xa, xn, xc, rfl, hxn, -, -⟩ := hx.form2
           have hxle2 : xn ≤ 5000 := by omega
           have HXs := Lib.hid (show Sl w3 1 xa xn (byt l) by rw [hxn]; exact hx.sl)
           have HP3 := Lib.hid (HP.out.step ho3 (hO3.mono (fun i _ h => .inl h)) (SameOrNew.rfl _ _))
           have hsz3 := HP3.out.bel.size
           clear hx hxn ho3 hO3)
        | (at_builtin
           refine wpl_appBG rfl _ _ _ rfl w.heap.size 5 Try.underlying33 byteInfo _ D drm HP3.out.dr rfl xa xn xc l rfl HXs.out (by omega) hsz3 ?_
           intro v5 rm5 w5 hown5 hg5 hs5
           obtain ⟨a5, n5, d5, rfl, hn5, -, -⟩ := hown5.form2
           have HP5 := Lib.hid (And.intro (HP3.out.stepD hown5 hg5 hs5) hn5)
           clear hown5 hg5 hs5 hn5)
        | (go_at_call 18
           refine (sameBytes_any a5 ta n5 T.length d5 _ (D ++ l) T _ (by rw [HP5.out.2]; exact HP5.out.1.dr.sl) HP5.out.1.tk.sl).mono ?_
           rw [show decide (D ++ l = T) = true by simp [HT.out]]
           rintro e w' ⟨rfl, rfl⟩)
        | (go_at_call 20
           refine (olen_ok _ _ _ _ _ _ _ _ _ HP5.out.1.s hlo).mono ?_
           rintro e w6 ⟨rfl, dn, hw6⟩
           have HP6 := Lib.hid (show ODr w w6 _ _ _ _ _ _ _ _ _ _ _ _ _ _ by rw [hw6]; exact HP5.out.1.below (below_drewN (Below.refl _ _) _))
           clear hw6)
        | (go_at_call 21
           refine (ototal_ok _ _ _ _ _ _ _ _ _ HP6.out.s hlo).mono ?_
           rintro e w' ⟨rfl, rfl⟩))
      go_ret
      exact ⟨rfl, HP6.out.bel⟩

theorem outDrains_walk (limit : Int) (wl : (Lit.int .i64 limit).wf = true) (x : Option Addr × Nat × Nat × List (Int × List UInt8 × Int)) (w : World) (ox : OActsAt w x) :
    Calls Try.prog 5 #[.int .i64 limit, .slice x.1 x.2.1 x.2.2.1] w fun e w' => e = .returned (.bool true) ∧ Below w.heap.size w w' :=
  outDrains_go limit x.1 x.2.1 x.2.2.1 x.2.2.2 w ox.2.2.2 ox.1 ox.2.1

namespace outDrains
set_option linter.unusedVariables false
open Go.ChangeShapes Go.WideShapes Go.ChangeAt Go.RowKit Go.As
theorem own : ownKnob Try.prog.godebug = none := by kernel_rfl
theorem laidOut : laidOutB Try.prog = true := by kernel_rfl
set_option maxRecDepth 100000 in
theorem lifted (os : Os) (started : os.Started) (H : Type) (enc : TypeId × Value → H) :
    ReturnsInHanded {} Try.checked os 5 .any (Rows.outDrainsSpec.pre6 enc Try.prog Try.f5 Rows.outDrainsRow.domain false) (Rows.outDrainsSpec.post enc Try.prog Try.f5 false true false false) := by
  refine returnsInHanded_of_change (C := Try.checked) own started (by kernel_rfl) Try.func5
    (ChangeSpec.witness6 (enc := enc) (C := Try.checked) false ⟨#[], #[.int .i64 0, .slice none 0 0], []⟩ 8 (by kernel_rfl) (by kernel_rfl) (by kernel_rfl) (by kernel_rfl)) ?_
  intro W base args ds gs before hval0 hW hcnd _
  have hval : ∀ (j : Nat) t v, Try.f5.params[j]? = some t → args[j]? = some v → Value.okWide Try.prog W .any base t v := hval0
  have hW' := hW
  obtain ⟨p, q, hA0, hV, hpq, hfz, hnd⟩ := hW
  have hA : DataW.TrodAll enc Try.prog W 0 (fun _ => true) true Try.f5.params.toList args.toList ds p := hA0
  have hlt : ∀ x ∈ p, x.block < W.heap.size := fun x hx => hW'.lt x (by rw [hpq]; exact List.mem_append_left _ hx)
  rw [Try.params5] at hA hval
  obtain ⟨v0, vs0, d0, ds0, p0, q0, hargs, rfl, hp0, h0, r0⟩ := trodAll_cons hA
  obtain ⟨v1, vs1, d1, ds1, p1, q1, rfl, rfl, hp1, h1, r1⟩ := trodAll_cons r0
  obtain ⟨rfl, rfl, hpn⟩ := trodAll_nil r1
  obtain rfl : args = #[v0, v1] := by cases args; simp_all
  obtain ⟨rfl, rfl⟩ := trodVars_none hV
  obtain ⟨a0, rfl, rfl, -, w0⟩ := open_int Try.underlying3 (hval 0 3 v0 rfl rfl) h0
  obtain ⟨x1, rfl, o1⟩ := oacts_open (hval 1 _ v1 rfl rfl) h1 (fun x hx => hlt x (by simp_all))
  refine (outDrains_walk a0 w0 x1 W o1).mono fun e W' ⟨he, hg⟩ => ?_
  subst he
  exact ⟨_, rfl, law_post (T := 4) laidOut (by kernel_rfl) Try.underlying4 rfl rfl hW' rfl rfl rfl hg⟩
theorem over : Rows.outDrainsRow.holds Try.pinned (OpenSpec.ofChange Rows.outDrainsSpec) :=
  OpenClaim.holds_of_wide 5 Try.f5 rfl rfl rfl rfl rfl rfl rfl ⟨rfl, rfl, rfl, rfl, rfl⟩ rfl rfl rfl rfl rfl (by kernel_rfl) Try.func5 (by kernel_rfl)
    (of_decide_eq_true (by kernel_rfl)) (by unfold Func.isWrapper; rw [if_neg (of_decide_eq_false (by kernel_rfl))]; exact ⟨rfl, rfl⟩)
    (fun os started H enc _ => lifted os started H enc)
/-- the statement -/
theorem proved : Rows.OutDrainsSaid := over
#print axioms proved
end outDrains
end Go.Proofs.Ytnkbjjnopbmfnaa
