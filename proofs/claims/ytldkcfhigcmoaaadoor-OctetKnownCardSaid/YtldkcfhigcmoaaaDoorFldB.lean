/- What ReadFields answers: rows of rows of the call's own. Conditions: those in the theorem. -/
import Derived.Test.YtldkcfhigcmoaaaDoorFldA
namespace Go.Proofs.YtldkcfhigcmoaaaDoor
open Go.RowKit Go.As
set_option linter.unusedVariables false

/-- a row of bytes in a row: its value, its bytes, what stands in its room -/
abbrev IR := Value × List UInt8 × List UInt8
def irC (r : IR) : List Value := [r.1]
/-- a row of rows of bytes, of the call's own -/
def RRow (w : World) (base : Nat) (v : Value) (rs : List IR) : Prop := w.ownsRow base 23 1 v rs.length (rs.flatMap irC) ∧ ∀ r ∈ rs, RowB w base 5 r.1 r.2.1 r.2.2
theorem RRow.nil (w : World) (base : Nat) : RRow w base (.slice none 0 0) [] := ⟨World.ownsRow_nil _ _ _ _, by simp⟩
theorem RRow.below {w w' : World} {base : Nat} {v : Value} {rs : List IR} (h : RRow w base v rs) (hb : Below w.heap.size w w') : RRow w' base v rs := ⟨own_below h.1 hb, fun r hr => (h.2 r hr).below hb⟩
theorem inner_grown {w w' : World} {base base' : Nat} {eo ei : TypeId} {v r : Value} {n : Nat} {xs : List Value} {l rm : List UInt8} (ho : w.ownsRow base eo 1 v n xs) (hi : RowB w base' ei r l rm) (hg : w.grownBy w' v.ownBlock) (hne : ei ≠ eo) : RowB w' base' ei r l rm :=
  hi.grown hg (fun k hk e => by
    rcases ho.2 with ⟨rfl, _⟩ | ⟨g, cap, cur, rfl, _, hh, _⟩
    · simp [Value.ownBlock] at e
    · have : g = k := by simpa [Value.ownBlock] using e
      subst this
      exact hi.ne_ (t := eo) hh hne hk)
theorem rows_info : (Tryd.prog.info? 23).map (fun i => (i.zero, i.size, i.bytes)) = some (some (.slice none 0 0), 1, 24) := by kernel_rfl
theorem cut_lo {w : World} {a : Option Addr} {n c : Nat} {l : List UInt8} (h : Sl w 1 a n (byt l)) (kd : IntKind) {q : Nat} (hq : q ≤ n) (hc : n ≤ c) :
    ∃ a1, (∀ W, (Instr.slice 23 (.slice a n c) (some (.int kd (q : Int))) none none).run Tryd.prog W = .ok (.slice a1 (n - q) (c - q)) W) ∧ Sl w 1 a1 (n - q) (byt (l.drop q)) := by
  have h1 := run_slice_lo (P := Tryd.prog) 23 5 _ 1 1 Tryd.underlying23 byteInfo a n c kd (q : Int) (by omega) (by omega)
  rw [show ((q : Int)).toNat = q by omega] at h1
  have h2 := h.cut (k := q) (cap := c) hq hc
  rw [Nat.mul_one, byt_drop] at h2
  rw [Nat.mul_one] at h1
  exact ⟨_, h1, h2⟩
theorem cut_hi {w : World} {a : Option Addr} {n c : Nat} {l : List UInt8} (h : Sl w 1 a n (byt l)) (kd : IntKind) {q : Nat} (hq : q ≤ n) (hc : n ≤ c) :
    (∀ W, (Instr.slice 23 (.slice a n c) none (some (.int kd (q : Int))) none).run Tryd.prog W = .ok (.slice a q c) W) ∧ Sl w 1 a q (byt (l.take q)) := by
  have h1 := run_slice_hi (P := Tryd.prog) 23 5 _ 1 1 Tryd.underlying23 byteInfo a n c kd (q : Int) (by omega) (by omega)
  rw [show ((q : Int)).toNat = q by omega] at h1
  have h2 := h.take (k := q) hq
  rw [Nat.mul_one, byt_take] at h2
  exact ⟨h1, h2⟩
theorem rsE_cases (l : List UInt8) : (readS 0 l = none ∧ rsE l = (0, 0, 4)) ∨ ∃ v u : Nat, readS 0 l = some (v, u) ∧ rsE l = (v, u, 0) ∧ 0 < u ∧ u ≤ l.length ∧ v < 18446744073709551616 := by
  cases hr : readS 0 l with
  | none => exact .inl ⟨rfl, rsE_none hr⟩
  | some x =>
    obtain ⟨h1, h2, -, -, h5, -⟩ := shortL_readS l 0 x.1 x.2 hr
    exact .inr ⟨x.1, x.2, rfl, rsE_some hr, h1, h2, by simpa using h5⟩

set_option maxRecDepth 100000 in
set_option maxHeartbeats 3200000 in
theorem oreadfields_any (A : Option Addr) (n c : Nat) (l : List UInt8) (w : World) (ha : Sl w 1 A n (byt l)) (hnc : n ≤ c) (hc : c ≤ 9223372036854775807) :
    Calls Tryd.prog 33 #[.slice A n c] w fun e w' => ∃ v rs, e = .returned (.tuple #[v, .int .i64 (rfE l).1]) ∧ RRow w' w.heap.size v rs ∧ rs.map (·.2.1) = (rfE l).2 ∧ Below w.heap.size w w' := by
  have hl : l.length = n := by have := ha.len1; simpa [byt] using this
  have hn : n ≤ 9223372036854775807 := by omega
  have bad : ∀ W, Below w.heap.size w W → rfE l = (4, []) → ∃ v rs, Ending.returned (.tuple #[.slice none 0 0, .int .i64 4]) = .returned (.tuple #[v, .int .i64 (rfE l).1]) ∧ RRow W w.heap.size v rs ∧ rs.map (·.2.1) = (rfE l).2 ∧ Below w.heap.size w W := by
    intro W hW he
    rw [he]
    exact ⟨_, [], rfl, RRow.nil _ _, rfl, hW⟩
  have HBAD := Lib.hid bad
  have HA := Lib.hid ha
  have HL := Lib.hid hl
  clear bad
  rcases rsE_cases l with ⟨hr, hs⟩ | ⟨N, k, hr, hs, hk0, hkl, hN⟩
  · have HN := Lib.hid (rfE_none hr)
    have HS := Lib.hid hs
    clear hr hs ha hl
    go_enter Tryd.func33, Tryd.ntmps33
    go_wp2_with (first
      | (go_at_call 16
         refine (oreads_any A n c l w HA.out hn).mono ?_
         rw [HS.out]
         rintro e w' ⟨rfl, rfl⟩))
    go_ret2
    first | exact HBAD.out _ (Below.refl _ _) HN.out | (obtain ⟨v, rs, h1, h2, h3, h4⟩ := HBAD.out _ (Below.refl _ _) HN.out; first | exact ⟨v, h1, ⟨rs, h2, h3⟩, h4⟩ | exact ⟨v, h1, rs, h2, h3, h4⟩ | exact ⟨v, rs, h1, h2, h3, h4⟩)
  rw [hl] at hkl
  by_cases hbig : 4096 < N ∨ 1048576 < n
  · have HN := Lib.hid (rfE_big hr (by rw [hl]; exact hbig))
    have HS := Lib.hid hs
    clear hr hs ha hl
    rcases hbig with h1 | h1
    · go_enter Tryd.func33, Tryd.ntmps33
      go_wp2_with (first
        | (go_at_call 16
           refine (oreads_any A n c l w HA.out hn).mono ?_
           rw [HS.out]
           rintro e w' ⟨rfl, rfl⟩))
      go_ret2
      first | exact HBAD.out _ (Below.refl _ _) HN.out | (obtain ⟨v, rs, h1, h2, h3, h4⟩ := HBAD.out _ (Below.refl _ _) HN.out; first | exact ⟨v, h1, ⟨rs, h2, h3⟩, h4⟩ | exact ⟨v, h1, rs, h2, h3, h4⟩ | exact ⟨v, rs, h1, h2, h3, h4⟩)
    · go_enter Tryd.func33, Tryd.ntmps33
      go_wp2_with (first
        | (go_at_call 16
           refine (oreads_any A n c l w HA.out hn).mono ?_
           rw [HS.out]
           rintro e w' ⟨rfl, rfl⟩))
      all_goals
        go_ret2
        first | exact HBAD.out _ (Below.refl _ _) HN.out | (obtain ⟨v, rs, h1, h2, h3, h4⟩ := HBAD.out _ (Below.refl _ _) HN.out; first | exact ⟨v, h1, ⟨rs, h2, h3⟩, h4⟩ | exact ⟨v, h1, rs, h2, h3, h4⟩ | exact ⟨v, rs, h1, h2, h3, h4⟩)
  have HF := Lib.hid (show FAt l [] N (l.drop k) from rfE_ok hr (by rw [hl]; exact hbig))
  have hN4 : N ≤ 4096 := by omega
  have hn20 : n ≤ 1048576 := by omega
  obtain ⟨a1, hcut1, hsl1⟩ := cut_lo ha .i64 hkl hnc
  have HS := Lib.hid hs
  have HS1 := Lib.hid hsl1
  have hNb : ¬ 4096 < N := by omega
  have hnb : ¬ 1048576 < n := by omega
  clear hr hs ha hl hbig hsl1
  go_enter Tryd.func33, Tryd.ntmps33
  go_wp2_with (first
    | (go_at_call 16
       refine (oreads_any A n c l w HA.out hn).mono ?_
       rw [HS.out]
       rintro e w' ⟨rfl, rfl⟩))
  go_loopw [0, 7, 32] (fun bv ov iv wr => ∃ (i rn rc : Nat) (ra : Option Addr) (r : List UInt8) (v : Value) (rs : List IR), i ≤ N ∧ bv = .slice ra rn rc ∧ ov = v ∧ iv = .int .u64 i ∧ rn ≤ rc ∧ rc ≤ 9223372036854775807 ∧ rn ≤ 1048576 ∧ Sl w 1 ra rn (byt r) ∧ rs.length = i ∧ FAt l (rs.map (·.2.1)) (N - i) r ∧ RRow wr w.heap.size v rs ∧ Below w.heap.size w wr) (fun _ _ iv _ => N - (intOf iv).toNat)
  case atStart => exact ⟨0, n - k, c - k, a1, l.drop k, _, [], by omega, rfl, rfl, rfl, by omega, by omega, by omega, HS1.out, rfl, HF.out, RRow.nil _ _, Below.refl _ _⟩
  case round =>
    clear hcut1 HS1 HF HS
    obtain ⟨i, rn, rc, ra, r, v, rs, hi, rfl, hv, rfl, hrnc, hrc, hrn20, hsl, hrs, hat, hrow, hbel⟩ := hrel
    have hv' := hv.symm
    subst hv'
    have hrl : r.length = rn := by have := hsl.len1; simpa [byt] using this
    have hsz := hbel.size
    have hrn : rn ≤ 9223372036854775807 := by omega
    have HR := Lib.hid (And.intro hrow (And.intro hbel (And.intro hsl hrs)))
    have HAT := Lib.hid hat
    clear hv hrow hbel hrs hat
    by_cases hlt : i < N
    · obtain ⟨m, hm⟩ : ∃ m, N - i = m + 1 := ⟨N - i - 1, by omega⟩
      rw [hm] at HAT
      have HM := Lib.hid hm
      clear hm
      rcases rsE_cases r with ⟨hr, hs⟩ | ⟨sz, q, hr, hs, hq0, hqr, hsz64⟩
      · have HN := Lib.hid (HAT.out.bad (readFs_none hr))
        have HS := Lib.hid hs
        clear hr hs hsl hrl
        go_wp2_with (first
          | (go_at_call 16
             refine (oreads_any ra rn rc r _ (HR.out.2.2.1.below HR.out.2.1) hrn).mono ?_
             rw [HS.out]
             rintro e w' ⟨rfl, rfl⟩))
        go_ret2
        exact HBAD.out _ HR.out.2.1 HN.out
      rw [hrl] at hqr
      have hwu : IntKind.u64.wrap ((rn : Int) - (q : Int)) = ((rn - q : Nat) : Int) := by rw [IntKind.wrap_u64]; omega
      by_cases hfew : rn - q < sz
      · have HN := Lib.hid (HAT.out.bad (readFs_short hr (by rw [hrl]; exact hfew)))
        have HS := Lib.hid hs
        clear hr hs hsl hrl
        go_wp2_with (first
          | (go_at_call 16
             refine (oreads_any ra rn rc r _ (HR.out.2.2.1.below HR.out.2.1) hrn).mono ?_
             rw [HS.out]
             rintro e w' ⟨rfl, rfl⟩))
        go_ret2
        exact HBAD.out _ HR.out.2.1 HN.out
      · have HN := Lib.hid (HAT.out.step hr (by rw [hrl]; exact hfew))
        have HS := Lib.hid hs
        obtain ⟨b1, hb1, hb2⟩ := cut_lo hsl .i64 hqr hrnc
        have hle1 : sz ≤ rn - q := by omega
        have hle2 : rn - q ≤ rc - q := by omega
        obtain ⟨hb3, hb4⟩ := cut_hi hb2 .u64 hle1 hle2
        obtain ⟨b5, hb5, hb6⟩ := cut_lo hb2 .u64 hle1 hle2
        have HB := Lib.hid (And.intro hb4 hb6)
        clear hr hs hsl hrl hb2 hb4 hb6
        go_wp2_with (first
          | (go_at_call 16
             refine (oreads_any ra rn rc r _ (HR.out.2.2.1.below HR.out.2.1) hrn).mono ?_
             rw [HS.out]
             rintro e w' ⟨rfl, rfl⟩)
          | (at_builtin
             first
             | (have hm := H5.out
                clear hm
                refine wpl_app1 rfl _ _ _ rfl w.heap.size 23 _ 1 24 Tryd.underlying47 rows_info rfl (by omega) (by omega) v _ (rs.flatMap irC) [.slice ia inn ic] rfl H5.out.2.1.1 rfl rfl (by intro u hu; rw [List.mem_singleton] at hu; subst hu; rfl) (by have := HR.out.2.2.2; omega) hsz5 ?_
                intro v6 w6 hown6 hg6 hs6
                have H6 := Lib.hid (show RRow w6 w.heap.size v6 (rs ++ [(.slice ia inn ic, List.take sz (List.drop q r), rm5)]) ∧ Below w.heap.size w w6 from ⟨⟨by
                  rw [List.flatMap_append, List.length_append]; exact hown6, fun y hy => by
                  rcases List.mem_append.1 hy with h | h
                  · exact inner_grown H5.out.2.1.1 (H5.out.2.1.2 y h) hg6 (by decide)
                  · rw [List.mem_singleton] at h
                    subst h
                    exact inner_grown H5.out.2.1.1 H5.out.1 hg6 (by decide)⟩, H5.out.2.2.grown hg6 hsz5 (fun j hj => (H5.out.2.1.1.lt j hj).1)⟩)
                clear hown6 hg6 hs6)
             | (refine wpl_appB rfl _ _ _ rfl w.heap.size 5 Tryd.underlying23 byteInfo (.slice (some ⟨wr.heap.size, 0, none⟩) 0 0) [] [] (RowB.made wr w.heap.size 5 [] hsz (by simp)) rfl b1 sz _ (List.take sz (List.drop q r)) rfl ((HB.out.1.below HR.out.2.1).below ((Below.refl _ _).alloc (Nat.le_refl _) _)) (by simp; omega) (by simp; omega) ?_
                intro v5 rm5 w5 hown5 hg5 hs5
                obtain ⟨ia, inn, ic, rfl, -, -, -⟩ := hown5.form2
                have hbn : Below wr.heap.size wr w5 := ((Below.refl wr.heap.size wr).alloc (Nat.le_refl _) (.cells #[] 5)).grown hg5 (by simp) (fun j hj => by simp [Value.ownBlock] at hj; omega)
                have H5 := Lib.hid (show RowB w5 w.heap.size 5 (.slice ia inn ic) (List.take sz (List.drop q r)) rm5 ∧ RRow w5 w.heap.size v rs ∧ Below w.heap.size w w5 from ⟨hown5, HR.out.1.below hbn, below_then HR.out.2.1 hbn⟩)
                have hsz5 := (below_then HR.out.2.1 hbn).size
                clear hown5 hg5 hs5 hbn)))
        go_roundw
        case rel => exact ⟨i + 1, rn - q - sz, rc - q - sz, b5, _, v6, _, by omega, rfl, rfl, by go_num, by omega, by omega, by omega, HB.out.2, by rw [List.length_append, HR.out.2.2.2]; rfl, by have h := HN.out; rw [← List.drop_drop] at h; rw [List.map_append, show N - (i + 1) = m by have := HM.out; omega]; exact h, H6.out.1, H6.out.2⟩
        case measure => simp [intOf]; omega
    · have hat := HAT.out
      rw [show N - i = 0 by omega] at hat
      have HD := Lib.hid hat.done
      obtain ⟨va, vc, rfl, -, -⟩ := own_form HR.out.1.1
      clear hat
      by_cases hr0 : 0 < rn
      · have HN := Lib.hid (show rfE l = (4, []) by rw [HD.out, if_neg (by intro e; rw [e] at hrl; simp at hrl; omega)])
        clear hsl hrl
        go_wp2_with fail
        go_ret2
        exact HBAD.out _ HR.out.2.1 HN.out
      · have HN := Lib.hid (show rfE l = (0, rs.map (·.2.1)) by rw [HD.out, if_pos (List.eq_nil_of_length_eq_zero (by omega))])
        clear hsl hrl
        go_wp2_with fail
        go_ret2
        rw [HN.out]
        first | exact ⟨_, rs, rfl, HR.out.1, rfl, HR.out.2.1⟩ | exact ⟨_, rfl, ⟨rs, HR.out.1, rfl⟩, HR.out.2.1⟩
end Go.Proofs.YtldkcfhigcmoaaaDoor
