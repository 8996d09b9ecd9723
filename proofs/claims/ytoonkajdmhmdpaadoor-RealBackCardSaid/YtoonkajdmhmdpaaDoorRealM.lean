/- What Print and Text of a real answer, by its plain law. Conditions: those in each theorem. -/
import Derived.Test.YtoonkajdmhmdpaaDoorRealZq
import Derived.Test.YtoonkajdmhmdpaaDoorAwR
import Derived.Test.YtoonkajdmhmdpaaDoorRealKnown
namespace Go.Proofs.YtoonkajdmhmdpaaDoor
open Go.RowKit Go.As
set_option linter.unusedVariables false

theorem TSpec.total (c : Nat) : ∃ s, TSpec c s := by
  by_cases h1 : c = 9221120237041090560
  · exact ⟨_, .inl ⟨h1, rfl⟩⟩
  · by_cases h2 : c = 9218868437227405312
    · exact ⟨_, .inr (.inl ⟨h2, rfl⟩)⟩
    · by_cases h3 : c = 18442240474082181120
      · exact ⟨_, .inr (.inr (.inl ⟨h3, rfl⟩))⟩
      · rcases PSpec.total c with ⟨t, h4⟩ | h4
        · exact ⟨t, .inr (.inr (.inr ⟨h1, h2, h3, .inl h4⟩))⟩
        · rcases PSpec.total (negW c) with ⟨t, h5⟩ | h5
          · exact ⟨_, .inr (.inr (.inr ⟨h1, h2, h3, .inr ⟨h4, .inl ⟨t, h5, rfl⟩⟩⟩))⟩
          · exact ⟨_, .inr (.inr (.inr ⟨h1, h2, h3, .inr ⟨h4, .inr ⟨h5, rfl⟩⟩⟩))⟩
theorem PSpec.all (c : Nat) : ∃ t z, PSpec c t z ∧ (z = 0 ∨ z = 2) := by
  rcases PSpec.total c with ⟨t, h⟩ | h
  · exact ⟨t, 0, h, .inl rfl⟩
  · exact ⟨[], 2, h, .inr rfl⟩
theorem rprint_of {b : Nat} {t : List UInt8} {z : Int} (hl : b < 18446744073709551616) (h : PSpec (toN b) t z) (w : World) (ht : Tab w) :
    Calls Tryd.prog 24 #[.int .u64 (b : Int)] w fun e w' => e = .returned (.tuple #[.string (str t), .int .i64 z]) ∧ Below w.heap.size w w' := by
  refine (rprint_any b hl w ht).mono ?_
  rintro e w' ⟨s, y, rfl, hp, hb⟩
  obtain ⟨h1, h2⟩ := hp.uniq h
  rw [h1, h2]
  exact ⟨rfl, hb⟩
theorem qprint_of {b : Nat} {t : List UInt8} {z : Int} (hl : b < 18446744073709551616) (h : PSpec (toN b) t z) (w : World) :
    Calls Tryd.prog 25 #[.int .u64 (b : Int)] w fun e w' => e = .returned (.tuple #[.string (str t), .int .i64 z]) ∧ Below w.heap.size w w' := by
  refine (qprint_any b hl w).mono ?_
  rintro e w' ⟨s, y, rfl, hp, hb⟩
  obtain ⟨h1, h2⟩ := hp.uniq h
  rw [h1, h2]
  exact ⟨rfl, hb⟩
theorem rtext_of {b : Nat} {t : List UInt8} (hl : b < 18446744073709551616) (h : TSpec (toN b) t) (w : World) (ht : TabAB w) :
    Calls Tryd.prog 26 #[.int .u64 (b : Int)] w fun e w' => e = .returned (.string (str t)) ∧ Below w.heap.size w w' := by
  refine (rtext_any b hl w ht.1 ht.2).mono ?_
  rintro e w' ⟨s, rfl, hp, hb⟩
  rw [hp.uniq h]
  exact ⟨rfl, hb⟩
theorem qtext_of {b : Nat} {t : List UInt8} (hl : b < 18446744073709551616) (h : TSpec (toN b) t) (w : World) :
    Calls Tryd.prog 27 #[.int .u64 (b : Int)] w fun e w' => e = .returned (.string (str t)) ∧ Below w.heap.size w w' := by
  refine (qtext_any b hl w).mono ?_
  rintro e w' ⟨s, rfl, hp, hb⟩
  rw [hp.uniq h]
  exact ⟨rfl, hb⟩
theorem rparse_is {s : List UInt8} {v : Nat} {z : Int} (hs : s.length ≤ 1048576) (h1 : rpB s = v) (h2 : rpF s = z) (w : World) :
    Calls Tryd.prog 22 #[.string (str s)] w fun e w' => e = .returned (.tuple #[.int .u64 (v : Int), .int .i64 z]) ∧ Below w.heap.size w w' := by
  rw [← h1, ← h2]
  exact rparse_any s hs w
theorem qparse_is {s : List UInt8} {v : Nat} {z : Int} (hs : s.length ≤ 1048576) (h1 : rpB s = v) (h2 : rpF s = z) (w : World) :
    Calls Tryd.prog 23 #[.string (str s)] w fun e w' => e = .returned (.tuple #[.int .u64 (v : Int), .int .i64 z]) ∧ w = w' := by
  rw [← h1, ← h2]
  exact qparse_any s hs w
end Go.Proofs.YtoonkajdmhmdpaaDoor
