/- What bytes.Cut at a newline and the statements' own comparison of lines answer. Conditions: those in each theorem. -/
import Derived.Test.YtnkbjjnopbmfnaaLineP
import Derived.Test.YtnkbjjnopbmfnaaOActs
import Derived.Test.YtnkbjjnopbmfnaaShelf3
namespace Go.Proofs.Ytnkbjjnopbmfnaa
open Go.RowKit Go.As
set_option linter.unusedVariables false

theorem nums_of (l : List UInt8) : Lib.bytesOf (l.map fun b => (b.toNat : Int)) = l := by
  simp only [Lib.bytesOf, List.map_map]
  conv => rhs; rw [← List.map_id l]
  apply List.map_congr_left
  intro b _
  simp
theorem idx_no {l : List UInt8} (h : (10 : UInt8) ∉ l) : Lib.indexByte l 10 = -1 := by
  have hge := Lib.indexByte_ge l 10
  rcases Int.lt_or_le (Lib.indexByte l 10) 0 with hneg | hpos
  · omega
  · obtain ⟨k, hk⟩ := Int.eq_ofNat_of_zero_le hpos
    exact absurd (List.mem_of_getElem? (Lib.indexByte_some hk).1) h
theorem idx_at (p r : List UInt8) (h : (10 : UInt8) ∉ p) : Lib.indexByte (p ++ 10 :: r) 10 = p.length := by
  induction p with
  | nil => simp [Lib.indexByte]
  | cons c p ih =>
    simp only [List.mem_cons, not_or] at h
    have hne : (c == 10) = false := by simpa using Ne.symm h.1
    have ih' := ih h.2
    simp only [List.cons_append, Lib.indexByte, hne, ih']
    have : ((p.length : Int) == -1) = false := by simp
    simp [this]

theorem idx_any (A : Option Addr) (n c g : Nat) (l : List UInt8) (w : World) (ha : Sl w 1 A n (byt l)) (hA : A = none → c = 0) (hnc : n ≤ c) (hsep : w.cell? ⟨g, 0, none⟩ = some (.int .u8 10)) :
    Calls Try.prog 52 #[.slice A n c, .slice (some ⟨g, 0, none⟩) 1 1] w fun e w' => e = .returned (.int .i64 (Lib.indexByte l 10)) ∧ ∃ q, w' = w.drewN q := by
  have hl : l.length = n := by have := ha.len1; simpa [byt] using this
  cases A with
  | none =>
    obtain rfl : c = 0 := hA rfl
    obtain rfl : n = 0 := by omega
    obtain rfl : l = [] := List.eq_nil_of_length_eq_zero hl
    exact (Try.bytes_Index_one_nil g 0 1 10 w hsep).mono fun e w' ⟨h1, h2⟩ => ⟨h1, 0, h2⟩
  | some ad =>
    have hc : ∀ i, i < n → w.cell? (ad.add i) = some (.int .u8 ((l.map fun b => (b.toNat : Int)).getD i 0)) := by
      intro i hi
      obtain ⟨ad', u, hA', -, hu, hcc⟩ := ha.at1 hi
      injection hA' with hA'
      subst hA'
      obtain ⟨x, hx, rfl⟩ := byt_get hu
      rw [hcc]
      simp [hx]
    have := Try.bytes_Index_one_at ad n c g 0 1 (l.map fun b => (b.toNat : Int)) 10 w (by simpa using hl) hc hsep
    rw [nums_of] at this
    exact this.mono fun e w' ⟨h1, h2⟩ => ⟨h1, 0, h2⟩

theorem cut_no (A : Option Addr) (n c g : Nat) (l : List UInt8) (w : World) (ha : Sl w 1 A n (byt l)) (hA : A = none → c = 0) (hnc : n ≤ c) (hn : n ≤ 4611686018427387904) (hno : (10 : UInt8) ∉ l) (hsep : w.cell? ⟨g, 0, none⟩ = some (.int .u8 10)) :
    Calls Try.prog 42 #[.slice A n c, .slice (some ⟨g, 0, none⟩) 1 1] w fun e w' => e = .returned (.tuple #[.slice A n c, .slice none 0 0, .bool false]) ∧ ∃ q, w' = w.drewN q := by
  have hi := idx_any A n c g l w ha hA hnc hsep
  rw [idx_no hno] at hi
  refine (Try.bytes_Cut_of A (some ⟨g, 0, none⟩) n c 1 1 (-1) w hnc (by omega) (by omega) hn hi).mono ?_
  rintro e w' ⟨rfl, hq⟩
  exact ⟨rfl, hq⟩
theorem cut_yes (A : Option Addr) (n c g : Nat) (p r : List UInt8) (w : World) (ha : Sl w 1 A n (byt (p ++ 10 :: r))) (hA : A = none → c = 0) (hnc : n ≤ c) (hn : n ≤ 4611686018427387904) (hno : (10 : UInt8) ∉ p) (hsep : w.cell? ⟨g, 0, none⟩ = some (.int .u8 10)) :
    Calls Try.prog 42 #[.slice A n c, .slice (some ⟨g, 0, none⟩) 1 1] w fun e w' => (∃ A' c', e = .returned (.tuple #[.slice A p.length c, .slice A' r.length c', .bool true]) ∧ (∀ W, Sl W 1 A n (byt (p ++ 10 :: r)) → Sl W 1 A' r.length (byt r)) ∧ (∀ W, Sl W 1 A n (byt (p ++ 10 :: r)) → Sl W 1 A p.length (byt p)) ∧ r.length ≤ c' ∧ c' ≤ c ∧ (A' = none → c' = 0) ∧ (∀ ad', A' = some ad' → ∃ ad, A = some ad ∧ ad'.block = ad.block)) ∧ ∃ q, w' = w.drewN q := by
  have hl : p.length + (r.length + 1) = n := by have := ha.len1; simpa [byt] using this
  have hi := idx_any A n c g _ w ha hA hnc hsep
  rw [idx_at p r hno] at hi
  refine (Try.bytes_Cut_of A (some ⟨g, 0, none⟩) n c 1 1 p.length w hnc (by omega) (by omega) hn hi).mono ?_
  rintro e w' ⟨rfl, hq⟩
  refine ⟨?_, hq⟩
  have e1 : ((p.length : Int)).toNat = p.length := by omega
  refine ⟨if c = p.length + 1 then A else A.map (·.add (p.length + 1)), c - (p.length + 1), ?_, ?_, ?_, by omega, by omega, ?_, ?_⟩
  · simp only [Lib.cutV, Lib.fromV, e1]
    rw [if_pos (by omega), show n - (p.length + 1) = r.length by omega]
  · intro W ha
    have := ha.cut (k := p.length + 1) (cap := c) (by omega) hnc
    rw [Nat.mul_one, show n - (p.length + 1) = r.length by omega, byt_drop, show (p ++ 10 :: r).drop (p.length + 1) = r by simp [List.drop_append]] at this
    exact this
  · intro W ha
    have := ha.take (k := p.length) (by omega)
    rw [Nat.mul_one, byt_take, show (p ++ 10 :: r).take p.length = p by simp] at this
    exact this
  · intro h
    split at h
    · rename_i hc; omega
    · cases A with
      | none => have := hA rfl; omega
      | some ad => simp at h
  · intro ad' h
    cases A with
    | none => split at h <;> simp at h
    | some ad =>
      refine ⟨ad, rfl, ?_⟩
      split at h
      · injection h with h; rw [h]
      · simp at h; rw [← h, blk_add]

theorem lineGuard : Try.prog.eqGuardType Try.prog.depth 74 = false := by kernel_rfl
theorem run_neq_line (a b : Int) (s t : List UInt8) (w : World) :
    (binOp .neq 74 (.agg #[.int .i64 a, .string (str s)]) (.agg #[.int .i64 b, .string (str t)])).run Try.prog w = .ok (.bool (!(decide ((a, s) = (b, t))))) w := by
  have h0 : Try.prog.underlying 74 = some (.struct (Try.prog.fieldsOf 74)) := by rw [Program.fieldsOf, Try.underlying74]
  rw [run_neq_struct, run_equalIn_agg w 9999 _ _ _ h0 (by kernel_rfl)]
  have h1 := run_equalIn_int (P := Try.prog) w 9998 3 .i64 .i64 a b Try.underlying3
  have h2 := run_equalIn_string (P := Try.prog) w 9998 9 (str s) (str t) Try.underlying9
  rw [str_toList, str_toList] at h2
  rw [Program.fieldsOf, Try.underlying74]
  go_simp
  by_cases ha : a = b <;> by_cases hs : s = t <;> simp [ha, hs]

set_option maxRecDepth 100000 in
set_option maxHeartbeats 800000 in
theorem lines_any (A B : Option Addr) (n m c d : Nat) (xs ys : List Ln) (w : World) (ha : Sl w 2 A n (xs.flatMap lnC)) (hb : Sl w 2 B m (ys.flatMap lnC)) (hn : n ≤ 9223372036854775807) :
    Calls Try.prog 30 #[.slice A n c, .slice B m d] w fun e w' => e = .returned (.bool (decide (xs = ys))) ∧ ∃ q, w' = w.drewN q := by
  have hx : xs.length = n := by have := ha.len; rw [lns_len] at this; omega
  have hy : ys.length = m := by have := hb.len; rw [lns_len] at this; omega
  have HA := Lib.hid ha
  have HB := Lib.hid hb
  have HX := Lib.hid hx
  have HY := Lib.hid hy
  clear ha hb hx hy
  by_cases hnm : n = m
  · subst hnm
    go_enter Try.func30, Try.ntmps30
    go_wp2_with fail
    go_loopw [5] (fun i wr => ∃ k : Nat, k ≤ n ∧ i = .int .i64 k ∧ xs.take k = ys.take k ∧ ∃ q, wr = w.drewN q) (fun i _ => n - (intOf i).toNat)
    case atStart => exact ⟨0, by omega, rfl, by simp, 0, rfl⟩
    case round =>
      obtain ⟨k, hk, rfl, he, q, rfl⟩ := hrel
      have HE := Lib.hid he
      clear he
      by_cases hlt : k < n
      · obtain ⟨x, hx⟩ : ∃ x, xs[k]? = some x := ⟨_, List.getElem?_eq_getElem (by rw [HX.out]; exact hlt)⟩
        obtain ⟨y, hy⟩ : ∃ y, ys[k]? = some y := ⟨_, List.getElem?_eq_getElem (by rw [HY.out]; exact hlt)⟩
        obtain ⟨ad, u, hA, -, -, -⟩ := HA.out.at_ hlt (show 0 < 2 by omega)
        obtain ⟨bd, v, hB, -, -, -⟩ := HB.out.at_ hlt (show 0 < 2 by omega)
        obtain ⟨ad', hA', -, hca⟩ := HA.out.2 (by omega)
        obtain ⟨bd', hB', -, hcb⟩ := HB.out.2 (by omega)
        rw [hA] at hA'
        rw [hB] at hB'
        obtain rfl : ad = ad' := Option.some.inj hA'
        obtain rfl : bd = bd' := Option.some.inj hB'
        have a0 := hca (k * 2 + 0) _ (flat_at lnC 2 lnC_len hx 0 (by omega))
        have a1 := hca (k * 2 + 1) _ (flat_at lnC 2 lnC_len hx 1 (by omega))
        have b0 := hcb (k * 2 + 0) _ (flat_at lnC 2 lnC_len hy 0 (by omega))
        have b1 := hcb (k * 2 + 1) _ (flat_at lnC 2 lnC_len hy 1 (by omega))
        rw [← add_add'] at a0 a1 b0 b1
        have a0' : w.cell? (ad.add (k * 2)) = some (.int .i64 x.1) := by simpa [Addr.add] using a0
        have b0' : w.cell? (bd.add (k * 2)) = some (.int .i64 y.1) := by simpa [Addr.add] using b0
        have a1' : w.cell? ⟨(ad.add (k * 2)).block, (ad.add (k * 2)).off + 1, none⟩ = some (.string (str x.2)) := by simpa [Addr.add] using a1
        have b1' : w.cell? ⟨(bd.add (k * 2)).block, (bd.add (k * 2)).off + 1, none⟩ = some (.string (str y.2)) := by simpa [Addr.add] using b1
        subst hA hB
        clear hA' hB' hca hcb a0 a1 b0 b1
        have HXY := Lib.hid (And.intro hx hy)
        clear hx hy
        have hneq := run_neq_line x.1 y.1 x.2 y.2
        have hgd := lineGuard
        by_cases hxy : x = y
        · have hd : decide ((x.1, x.2) = (y.1, y.2)) = true := by rw [hxy]; simp
          rw [hd] at hneq
          have HXQ := Lib.hid (show xs.take (k + 1) = ys.take (k + 1) by rw [List.take_add_one, List.take_add_one, HE.out, HXY.out.1, HXY.out.2, hxy])
          clear hd hxy
          go_wp2_with fail
          go_quiet (fail)
          go_wp2_with fail
          go_roundw
          case rel => exact ⟨k + 1, by omega, by go_num, HXQ.out, q + nq, rfl⟩
          case measure => simp [intOf]; omega
        · have hd : decide ((x.1, x.2) = (y.1, y.2)) = false := decide_eq_false (fun h => hxy (by cases x; cases y; exact h))
          rw [hd] at hneq
          have HXQ := Lib.hid (show xs ≠ ys from fun e => hxy (by have := HXY.out.1; rw [e, HXY.out.2] at this; exact (Option.some.inj this).symm))
          clear hd hxy
          go_wp2_with fail
          go_quiet (fail)
          go_wp2_with fail
          go_ret
          exact ⟨ret_bool (by simp [HXQ.out]), q + nq, by simp [World.drewN, Nat.add_assoc]⟩
      · have hfull : xs = ys := by
          have := HE.out
          rwa [List.take_of_length_le (by rw [HX.out]; omega), List.take_of_length_le (by rw [HY.out]; omega)] at this
        have HF := Lib.hid hfull
        clear hfull
        go_wp2_with fail
        go_ret
        exact ⟨ret_bool (by simp [HF.out]), q, rfl⟩
  · have hne : xs ≠ ys := fun e => hnm (by rw [← HX.out, ← HY.out, e])
    have HN := Lib.hid hne
    have hb : ((n : Int) == (m : Int)) = false := by simp; omega
    clear hne hnm
    go_enter Try.func30, Try.ntmps30
    go_wp2_with fail
    go_ret
    exact ⟨ret_bool (by simp [HN.out]), 0, rfl⟩
end Go.Proofs.Ytnkbjjnopbmfnaa
