/- What the library's slices.Index, Clone, Grow and Concat do on lists of numbers. Conditions: lists of at most 2^31 elements. -/
import Derived.Test.YtlfpkepgamnidaaInts
import Derived.Handy
namespace Go.Proofs.Ytlfpkepgamnidaa
open Go.RowKit Go.As

def idxI (l : List Int) (x : Int) : Int := if x ∈ l then (l.idxOf x : Int) else -1
theorem idxI_at {l : List Int} {x : Int} {k : Nat} (h : x ∉ l.take k) (hx : l[k]? = some x) : idxI l x = k := by
  have hk : k < l.length := by
    rcases Nat.lt_or_ge k l.length with h | h
    · exact h
    · rw [List.getElem?_eq_none h] at hx; cases hx
  have hx' : l[k] = x := by rw [List.getElem?_eq_getElem hk] at hx; exact Option.some.inj hx
  have e : l = l.take k ++ x :: l.drop (k + 1) := by
    conv => lhs; rw [← List.take_append_drop k l, List.drop_eq_getElem_cons hk, hx']
  have hm : x ∈ l := by rw [e]; simp
  rw [idxI, if_pos hm, e, List.idxOf_append, if_neg h, List.idxOf_cons_self, List.length_take]
  simp; omega
theorem idxI_no {l : List Int} {x : Int} (h : x ∉ l) : idxI l x = -1 := by simp [idxI, h]

set_option maxHeartbeats 400000 in
theorem index_any (A : Option Addr) (n c : Nat) (l : List Int) (x : Int) (w : World) (ha : Sl w 1 A n (ints l)) (hn : n ≤ maxLen) :
    Calls Try.prog 47 #[.slice A n c, .int .i64 x] w fun e w' => e = .returned (.int .i64 (idxI l x)) ∧ w = w' := by
  have hl : l.length = n := by have := ha.len1; simpa [ints] using this
  have HA := Lib.hid ha
  have HL := Lib.hid hl
  clear ha hl
  unfold maxLen at hn
  go_enter Try.func47, Try.ntmps47
  go_wp2_with fail
  go_loop [8] (fun i => ∃ k : Nat, k ≤ n ∧ i = .int .i64 k ∧ x ∉ l.take k) (fun i => n - (intOf i).toNat)
  case atStart => exact ⟨0, by omega, rfl, by simp⟩
  case round =>
    obtain ⟨k, hk, rfl, he⟩ := hrel
    have HE := Lib.hid he
    clear he
    by_cases hlt : k < n
    · obtain ⟨ad, u, hA, -, hu, hc⟩ := HA.out.at1 hlt
      subst hA
      obtain ⟨y, hy, rfl⟩ := ints_get hu
      have HY := Lib.hid hy
      clear hu hy
      by_cases hxy : x = y
      · have hb : (x == y) = true := by simpa using hxy
        have HXY := Lib.hid hxy
        clear hxy
        go_wp2_with fail
        go_ret
        refine ⟨ret_int ?_, rfl⟩
        rw [idxI_at HE.out (by rw [HXY.out]; exact HY.out)]
      · have hb : (x == y) = false := by simpa using hxy
        have HXY := Lib.hid hxy
        clear hxy
        go_wp2_with fail
        go_round
        case rel =>
          refine ⟨k + 1, by omega, by go_num, ?_⟩
          rw [List.take_add_one, HY.out]
          simp only [Option.toList_some, List.mem_append, List.mem_singleton, not_or]
          exact ⟨HE.out, HXY.out⟩
        case measure => simp [intOf]; omega
    · go_wp2_with fail
      go_ret
      refine ⟨ret_int ?_, rfl⟩
      have := HE.out
      rw [List.take_of_length_le (by rw [HL.out]; omega)] at this
      rw [idxI_no this]

theorem ints_len (l : List Int) : (ints l).length = l.length := by simp [ints]
theorem intInfo : (Try.prog.info? 3).map (fun i => (i.zero, i.size, i.bytes)) = some (some (.int .i64 0), 1, 8) := by kernel_rfl

set_option maxHeartbeats 400000 in
theorem clone_any (A : Option Addr) (n c : Nat) (l : List Int) (w : World) (ha : Sl w 1 A n (ints l)) (hn : n ≤ 2147483648) :
    Calls Try.prog 50 #[.slice A n c] w fun e w' => ∃ v, e = .returned v ∧ w'.ownsRow w.heap.size 3 1 v n (ints l) ∧ Below w.heap.size w w' := by
  have hrun := fun (W : World) (A : Option Addr) (n c : Nat) => Lib.run_eql_slice_nil (P := Try.prog) W 28 3 A n c 0 0 Try.underlying28
  have HA := Lib.hid ha
  clear ha
  cases A with
  | none =>
    have h0 : n = 0 := by
      rcases Nat.eq_zero_or_pos n with h | h
      · exact h
      · obtain ⟨ad, e, _⟩ := HA.out.2 h; cases e
    subst h0
    have hl : ints l = [] := List.eq_nil_of_length_eq_zero (by simpa using HA.out.len1)
    have HL := Lib.hid hl
    clear hl
    go_enter Try.func50, Try.ntmps50
    go_wp2_with fail
    go_ret
    exact ⟨_, rfl, by rw [HL.out]; exact World.ownsRow_nil _ _ _ _, Below.refl _ _⟩
  | some ad =>
    have hS := HA.out.below ((Below.refl w.heap.size w).alloc (Nat.le_refl _) (.cells #[] 3))
    have HS := Lib.hid hS
    clear hS
    go_enter Try.func50, Try.ntmps50
    go_wp2_with (at_builtin; refine wpl_app rfl _ _ _ rfl w.heap.size 3 _ 1 8 Try.underlying28 intInfo rfl (by omega) (by omega) _ 0 [] (World.ownsRow_made w #[] 0 (Nat.le_refl _) (by decide) rfl) rfl (some ad) n c (ints l) rfl HS.out (ints_one l) (by omega) (by simp) ?_; intro v' w' hown' hg' hs')
    go_ret
    refine ⟨v', rfl, by simpa using hown', ?_⟩
    exact ((Below.refl _ _).alloc (Nat.le_refl _) _).grown hg' (by simp) (fun k hk => by simp [Value.ownBlock] at hk; omega)

set_option maxHeartbeats 400000 in
theorem grow_nil (n : Nat) (w : World) (hn : n ≤ 2147483648) :
    Calls Try.prog 51 #[.slice none 0 0, .int .i64 (n : Int)] w fun e w' => ∃ v, e = .returned v ∧ w'.ownsRow w.heap.size 3 1 v 0 [] ∧ Below w.heap.size w w' := by
  by_cases h0 : 0 < n
  · obtain ⟨w1, cap, hrun, hcap, hown, hb⟩ := run_app_zeros (P := Try.prog) (w := w) 28 3 28 3 .i64 _ 1 8 Try.underlying28 Try.underlying3 intInfo rfl (by omega) (by omega) n h0 (by omega)
    have HO := Lib.hid (And.intro hown (And.intro hb hrun))
    have hcap0 : 0 < cap := by omega
    have hcapne : ¬ cap = 0 := by omega
    clear hown hb hrun
    go_enter Try.func51, Try.ntmps51
    go_wp2_with (at_builtin; refine wpl_appRun rfl _ _ _ _ rfl HO.out.2.2 rfl rfl ?_)
    go_ret
    exact ⟨_, rfl, HO.out.1, HO.out.2.1⟩
  · obtain rfl : n = 0 := by omega
    go_enter Try.func51, Try.ntmps51
    go_wp2_with fail
    go_ret
    exact ⟨_, rfl, World.ownsRow_nil _ _ _ _, Below.refl _ _⟩

/-- a slice of numbers, as a value and as a list -/
structure Part where
  a : Option Addr
  n : Nat
  c : Nat
  l : List Int
def Part.val (p : Part) : Value := .slice p.a p.n p.c
def Part.ok (w : World) (p : Part) : Prop := Sl w 1 p.a p.n (ints p.l)
def flatL (ps : List Part) : List Int := ps.flatMap (·.l)
theorem flatL_succ {ps : List Part} {k : Nat} {p : Part} (h : ps[k]? = some p) : flatL (ps.take (k + 1)) = flatL (ps.take k) ++ p.l := by
  rw [List.take_add_one, h]; simp [flatL]
theorem flatL_le (ps : List Part) (k : Nat) : (flatL (ps.take k)).length ≤ (flatL ps).length := by
  conv => rhs; rw [← List.take_append_drop k ps]
  simp only [flatL, List.flatMap_append, List.length_append]; omega

set_option maxHeartbeats 800000 in
theorem concat_any (A : Option Addr) (m c : Nat) (ps : List Part) (w : World) (ha : Sl w 1 A m (ps.map Part.val)) (hp : ∀ p ∈ ps, p.ok w) (hm : m ≤ 65536) (hn : (flatL ps).length ≤ 2147483648) :
    Calls Try.prog 48 #[.slice A m c] w fun e w' => ∃ v, e = .returned v ∧ w'.ownsRow w.heap.size 3 1 v (flatL ps).length (ints (flatL ps)) ∧ Below w.heap.size w w' := by
  have hl : ps.length = m := by have := ha.len1; simpa using this
  have HA := Lib.hid ha
  have HP := Lib.hid hp
  have HL := Lib.hid hl
  clear ha hp hl
  go_enter Try.func48, Try.ntmps48
  go_wp2_with fail
  go_loop [3, 11] (fun s i => ∃ k : Nat, k ≤ m ∧ i = .int .i64 k ∧ s = .int .i64 (flatL (ps.take k)).length) (fun _ i => m - (intOf i).toNat)
  case atStart => exact ⟨0, by omega, rfl, by simp [flatL]⟩
  case round =>
    obtain ⟨k, hk, rfl, rfl⟩ := hrel
    have hle := flatL_le ps k
    by_cases hlt : k < m
    · obtain ⟨ad, u, hA, -, hu, hc⟩ := HA.out.at1 hlt
      subst hA
      rw [List.getElem?_map, Option.map_eq_some_iff] at hu
      obtain ⟨p, hp, rfl⟩ := hu
      have hpl : p.l.length = p.n := by have := (HP.out p (List.mem_of_getElem? hp)).len1; simpa [ints] using this
      have hs := flatL_succ hp
      have hle2 := flatL_le ps (k + 1)
      rw [hs, List.length_append, hpl] at hle2
      have HS := Lib.hid (And.intro hs hpl)
      unfold Part.val at hc
      clear hp hs hpl
      go_wp2_with fail
      go_round
      case rel =>
        refine ⟨k + 1, by omega, by go_num, ?_⟩
        rw [HS.out.1, List.length_append, HS.out.2]; go_num
      case measure => simp [intOf]; omega
    · have hkm : k = m := by omega
      have HK := Lib.hid hkm
      have hfull : ps.take k = ps := List.take_of_length_le (by rw [HL.out]; omega)
      rw [hfull]
      clear hkm hfull hle
      go_wp2_with fail
      refine (grow_nil _ _ hn).mono ?_
      rintro e w1 ⟨v1, rfl, hown, hb⟩
      have HO := Lib.hid (And.intro hown hb)
      clear hown hb
      go_wp2_with fail
      go_loopw [6, 27] (fun v i wr => ∃ k : Nat, k ≤ m ∧ i = .int .i64 k ∧ wr.ownsRow w.heap.size 3 1 v (flatL (ps.take k)).length (ints (flatL (ps.take k))) ∧ Below w.heap.size w wr) (fun _ i _ => m - (intOf i).toNat)
      case atStart => exact ⟨0, by omega, rfl, by simpa [flatL, ints] using HO.out.1, HO.out.2⟩
      case round =>
        clear HO HK
        rename_i k0 _ _
        clear hlt hk
        obtain ⟨k, hk, rfl, hown, hb⟩ := hrel
        have hsz := hb.size
        have HO := Lib.hid (And.intro hown hb)
        clear hown hb
        by_cases hlt : k < m
        · obtain ⟨ad, u, hA, -, hu, hc⟩ := (HA.out.below HO.out.2).at1 hlt
          subst hA
          rw [List.getElem?_map, Option.map_eq_some_iff] at hu
          obtain ⟨p, hp, rfl⟩ := hu
          have hpok := (HP.out p (List.mem_of_getElem? hp)).below HO.out.2
          have hpl : p.l.length = p.n := by have := hpok.len1; simpa [ints] using this
          have hs := flatL_succ hp
          have hle2 := flatL_le ps (k + 1)
          rw [hs, List.length_append, hpl] at hle2
          have HS := Lib.hid (And.intro hs (And.intro hpl hpok))
          unfold Part.val at hc
          clear hp hs hpl hpok
          go_wp2_with (at_builtin; refine wpl_app rfl _ _ _ rfl w.heap.size 3 _ 1 8 Try.underlying28 intInfo rfl (by omega) (by omega) _ _ _ HO.out.1 rfl p.a p.n p.c (ints p.l) rfl HS.out.2.2 (ints_one p.l) (by omega) hsz ?_; intro v' w' hown' hg' hs')
          have hb' := HO.out.2.grown hg' hsz (fun g hg => (HO.out.1.lt g hg).1)
          have HO' := Lib.hid (And.intro hown' hb')
          clear hown' hb' hg' hs'
          go_wp2_with fail
          go_roundw
          case rel =>
            refine ⟨k + 1, by omega, by go_num, ?_, HO'.out.2⟩
            rw [HS.out.1, List.length_append, HS.out.2.1]
            have := HO'.out.1
            simpa [ints] using this
          case measure => simp [intOf]; omega
        · have hfull : ps.take k = ps := List.take_of_length_le (by rw [HL.out]; omega)
          have HF := Lib.hid hfull
          clear hfull
          go_wp2_with fail
          go_ret
          refine ⟨_, rfl, ?_, HO.out.2⟩
          have := HO.out.1
          rw [HF.out] at this
          exact this
end Go.Proofs.Ytlfpkepgamnidaa
