/- What strings.Join answers at a blank. Conditions: those in each theorem. -/
import Derived.Test.YtldkcfhigcmoaaaDoorOctA
import Derived.Test.YtldkcfhigcmoaaaDoorWordQ
import Derived.Test.YtldkcfhigcmoaaaDoorShelf2
import Derived.Lib.IndexLaws
namespace Go.Proofs.YtldkcfhigcmoaaaDoor
open Go.RowKit Go.As
set_option linter.unusedVariables false

theorem joinW_any (A : Option Addr) (n c : Nat) (xs : List (List UInt8)) (w : World) (ha : Sl w 1 A n (xs.flatMap txC)) (hl : xs.length = n) (hnc : n ≤ c) (hN : n ≤ 140737488355328) (hlen : (Lib.join xs [32]).length ≤ 140737488355328) :
    Calls Tryd.prog 49 #[.slice A n c, .string { data := #[32] }] w fun e w' => e = .returned (.string (str (Lib.join xs [32]))) ∧ Below w.heap.size w w' := by
  rcases Nat.eq_zero_or_pos n with h0 | h0
  · subst h0
    obtain rfl : xs = [] := List.eq_nil_of_length_eq_zero hl
    exact (Tryd.strings_Join_none A c _ w).mono fun e w' ⟨h1, h2⟩ => ⟨h1, by rw [h2]; exact Below.refl _ _⟩
  · obtain ⟨ad, rfl, hb, hc⟩ := ha.2 h0
    have hx : ∀ (j : Nat) x, xs[j]? = some x → w.cell? (ad.add j) = some (.string (str x)) := by
      intro j x h
      refine hc j _ ?_
      have := flat_at txC 1 (fun _ => rfl) h 0 (by omega)
      simpa [txC] using this
    have h00 := hx 0 _ (List.getElem?_eq_getElem (by omega))
    have hsp : ad.spot = none := by
      have := World.cell?_spot h00
      simpa [Addr.add] using this
    obtain ⟨bk, o, sp⟩ := ad
    simp only at hsp hb
    subst hsp
    have hm : (xs.map str).map (·.data.toList) = xs := by
      rw [List.map_map]
      conv => rhs; rw [← List.map_id xs]
      apply List.map_congr_left
      intro l _
      simp [str_data]
    have := Tryd.strings_Join bk o c (xs.map str) ⟨#[32]⟩ w (by
      intro j x h
      rw [List.getElem?_map, Option.map_eq_some_iff] at h
      obtain ⟨y, hy, rfl⟩ := h
      have := hx j y hy
      have e : (⟨bk, o, none⟩ : Addr).add j = ⟨bk, o + j, none⟩ := by unfold Addr.add; split <;> simp_all
      rwa [e] at this) hb (by simpa [hl] using hN) (by simpa [hl] using hnc) (by rw [hm]; exact hlen)
    rw [hm, List.length_map, hl] at this
    exact this
end Go.Proofs.YtldkcfhigcmoaaaDoor
