/- What SameTexts and the digit functions answer. Conditions: those in each theorem. -/
import Derived.Test.YtldkcfhigcmoaaaDoorOctP
import Derived.Test.YtldkcfhigcmoaaaDoorOActs0
import Derived.Test.YtldkcfhigcmoaaaDoorBytFn
import Derived.BigQuiet
namespace Go.Proofs.YtldkcfhigcmoaaaDoor
open Go.RowKit Go.As
set_option linter.unusedVariables false

def txC (l : List UInt8) : List Value := [.string (str l)]
theorem txs_len (l : List (List UInt8)) : (l.flatMap txC).length = l.length := by
  induction l with
  | nil => rfl
  | cons p r ih => rw [List.flatMap_cons, List.length_append, ih]; simp [txC]; omega
theorem txs_get {l : List (List UInt8)} {k : Nat} {x : List UInt8} (h : l[k]? = some x) : (l.flatMap txC)[k]? = some (.string (str x)) := by
  have := flat_at txC 1 (fun _ => rfl) h 0 (by omega)
  simpa [txC] using this

set_option maxRecDepth 100000 in
set_option maxHeartbeats 800000 in
theorem sameTexts_any (A B : Option Addr) (n m c d : Nat) (xs ys : List (List UInt8)) (w : World) (ha : Sl w 1 A n (xs.flatMap txC)) (hb : Sl w 1 B m (ys.flatMap txC)) (hn : n ≤ 9223372036854775807) :
    Calls Tryd.prog 60 #[.slice A n c, .slice B m d] w fun e w' => e = .returned (.bool (decide (xs = ys))) ∧ ∃ q, w' = w.drewN q := by
  have hx : xs.length = n := by have := ha.len1; rw [txs_len] at this; omega
  have hy : ys.length = m := by have := hb.len1; rw [txs_len] at this; omega
  have HA := Lib.hid ha
  have HB := Lib.hid hb
  have HX := Lib.hid hx
  have HY := Lib.hid hy
  clear ha hb hx hy
  by_cases hnm : n = m
  · subst hnm
    go_enter Tryd.func60, Tryd.ntmps60
    go_wp2_with fail
    go_loopw [5] (fun i wr => ∃ k : Nat, k ≤ n ∧ i = .int .i64 k ∧ xs.take k = ys.take k ∧ ∃ q, wr = w.drewN q) (fun i _ => n - (intOf i).toNat)
    case atStart => exact ⟨0, by omega, rfl, by simp, 0, rfl⟩
    case round =>
      obtain ⟨k, hk, rfl, he, q, rfl⟩ := hrel
      have HE := Lib.hid he
      clear he
      by_cases hlt : k < n
      · obtain ⟨x, hx⟩ : ∃ x, xs[k]? = some x := ⟨_, List.getElem?_eq_getElem (by rw [HX.out]; exact hlt)⟩
        obtain ⟨y, hy⟩ : ∃ y, ys[k]? = some y := ⟨_, List.getElem?_eq_getElem (by rw [HY.out]; exact hlt)⟩
        obtain ⟨ad, u, hA, -, hu, hca⟩ := HA.out.at1 hlt
        obtain ⟨bd, v, hB, -, hv, hcb⟩ := HB.out.at1 hlt
        rw [txs_get hx] at hu
        rw [txs_get hy] at hv
        obtain rfl := Option.some.inj hu
        obtain rfl := Option.some.inj hv
        subst hA hB
        have HXY := Lib.hid (And.intro hx hy)
        clear hx hy hu hv
        cases hxy : (x == y)
        · have HXQ := Lib.hid (show xs ≠ ys from fun e => by
            have h1 := HXY.out.1
            rw [e, HXY.out.2] at h1
            have := Option.some.inj h1
            simp [this] at hxy)
          go_wp2_with fail
          go_quiet (fail)
          go_wp2_with fail
          go_ret
          exact ⟨ret_bool (by simp [HXQ.out]), q + nq, by simp [World.drewN, Nat.add_assoc]⟩
        · have HXQ := Lib.hid (show xs.take (k + 1) = ys.take (k + 1) by
            have : x = y := by simpa using hxy
            rw [List.take_add_one, List.take_add_one, HE.out, HXY.out.1, HXY.out.2, this])
          go_wp2_with fail
          go_quiet (fail)
          go_wp2_with fail
          go_roundw
          case rel => exact ⟨k + 1, by omega, by go_num, HXQ.out, q + nq, rfl⟩
          case measure => simp [intOf]; omega
      · have hfull : xs = ys := by
          have := HE.out
          rwa [List.take_of_length_le (by rw [HX.out]; omega), List.take_of_length_le (by rw [HY.out]; omega)] at this
        have HF := Lib.hid hfull
        clear hfull
        go_wp2_with fail
        go_ret
        exact ⟨ret_bool (by simp [HF.out]), q, rfl⟩
  · have hne : xs ≠ ys := fun e => hnm (by rw [← HX.out, ← HY.out, e])
    have HN := Lib.hid hne
    have hb : ((n : Int) == (m : Int)) = false := by simp; omega
    clear hne hnm
    go_enter Tryd.func60, Tryd.ntmps60
    go_wp2_with fail
    go_ret
    exact ⟨ret_bool (by simp [HN.out]), 0, rfl⟩

theorem odigit_any (c : UInt8) (w : World) : Calls Tryd.prog 61 #[.int .u8 c.toNat] w fun e w' => e = .returned (.int .u8 (digV c)) ∧ w = w' := by
  have hc := c.toNat_lt
  by_cases h1 : 48 ≤ c.toNat ∧ c.toNat ≤ 57
  · rw [show digV c = c.toNat - 48 by simp [digV, h1]]
    have hw : IntKind.u8.wrap ((c.toNat : Int) - 48) = ((c.toNat - 48 : Nat) : Int) := by rw [IntKind.wrap_u8]; omega
    obtain ⟨ha, hb⟩ := h1
    go_enter Tryd.func61, Tryd.ntmps61
    go_wp2
    go_ret
    exact ⟨ret_int (by omega), rfl⟩
  by_cases h2 : 97 ≤ c.toNat ∧ c.toNat ≤ 102
  · rw [show digV c = c.toNat - 87 by simp [digV, h1, h2]]
    obtain ⟨ha, hb⟩ := h2
    have h3 : ¬ c.toNat ≤ 57 := by omega
    clear h1
    go_enter Tryd.func61, Tryd.ntmps61
    go_wp2
    go_ret
    exact ⟨ret_int (by omega), rfl⟩
  · rw [show digV c = 16 by simp [digV, h1, h2]]
    go_enter Tryd.func61, Tryd.ntmps61
    go_wp2
    all_goals first
      | omega
      | (go_ret; exact ⟨rfl, rfl⟩)
theorem rdigit_any (c : UInt8) (w : World) : Calls Tryd.prog 84 #[.int .u8 c.toNat] w fun e w' => e = .returned (.int .i64 (if digV c = 16 then -1 else (digV c : Int))) ∧ w = w' := by
  have hc := c.toNat_lt
  by_cases h1 : 48 ≤ c.toNat ∧ c.toNat ≤ 57
  · rw [show digV c = c.toNat - 48 by simp [digV, h1], if_neg (by omega)]
    obtain ⟨ha, hb⟩ := h1
    go_enter Tryd.func84, Tryd.ntmps84
    go_wp2
    go_ret
    exact ⟨ret_int (by omega), rfl⟩
  by_cases h2 : 97 ≤ c.toNat ∧ c.toNat ≤ 102
  · rw [show digV c = c.toNat - 87 by simp [digV, h1, h2], if_neg (by omega)]
    obtain ⟨ha, hb⟩ := h2
    have h3 : ¬ c.toNat ≤ 57 := by omega
    clear h1
    go_enter Tryd.func84, Tryd.ntmps84
    go_wp2
    go_ret
    exact ⟨ret_int (by omega), rfl⟩
  · rw [show digV c = 16 by simp [digV, h1, h2], if_pos rfl]
    go_enter Tryd.func84, Tryd.ntmps84
    go_wp2
    all_goals first
      | omega
      | (go_ret; exact ⟨rfl, rfl⟩)
end Go.Proofs.YtldkcfhigcmoaaaDoor
