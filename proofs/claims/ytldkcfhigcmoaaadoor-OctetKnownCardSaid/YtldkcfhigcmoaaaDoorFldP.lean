/- Fields as one text: plain laws. No program is named; the conditions are in each theorem. -/
import Derived.Test.YtldkcfhigcmoaaaDoorNumP
namespace Go.As
open Go
set_option linter.unusedVariables false

def fld (f : List UInt8) : List UInt8 := shortL f.length ++ f
def fieldsL (ls : List (List UInt8)) : List UInt8 := shortL ls.length ++ ls.flatMap fld
def readFs : Nat → List UInt8 → Option (List (List UInt8))
  | 0, b => if b = [] then some [] else none
  | m + 1, b => match readS 0 b with
    | none => none
    | some x => if b.length - x.2 < x.1 then none else (readFs m (b.drop (x.2 + x.1))).map ((b.drop x.2).take x.1 :: ·)
/-- the error's number, and the fields -/
def rfE (b : List UInt8) : Int × List (List UInt8) := match readS 0 b with
  | none => (4, [])
  | some x => if 4096 < x.1 ∨ 1048576 < b.length then (4, []) else match readFs x.1 (b.drop x.2) with
    | none => (4, [])
    | some l => (0, l)
theorem rfE_none {b : List UInt8} (h : readS 0 b = none) : rfE b = (4, []) := by simp [rfE, h]
theorem rfE_big {b : List UInt8} {n k : Nat} (h : readS 0 b = some (n, k)) (h2 : 4096 < n ∨ 1048576 < b.length) : rfE b = (4, []) := by simp [rfE, h, h2]
theorem rfE_ok {b : List UInt8} {n k : Nat} (h : readS 0 b = some (n, k)) (h2 : ¬ (4096 < n ∨ 1048576 < b.length)) : rfE b = match readFs n (b.drop k) with | none => (4, []) | some l => (0, l) := by
  unfold rfE
  rw [h]
  simp only [if_neg h2]
/-- one field more -/
theorem readFs_step {m : Nat} {b : List UInt8} {sz k : Nat} (h : readS 0 b = some (sz, k)) (h2 : ¬ b.length - k < sz) : readFs (m + 1) b = (readFs m (b.drop (k + sz))).map ((b.drop k).take sz :: ·) := by
  simp only [readFs, h, if_neg h2]
theorem readFs_short {m : Nat} {b : List UInt8} {sz k : Nat} (h : readS 0 b = some (sz, k)) (h2 : b.length - k < sz) : readFs (m + 1) b = none := by
  simp only [readFs, h, if_pos h2]
theorem readFs_none {m : Nat} {b : List UInt8} (h : readS 0 b = none) : readFs (m + 1) b = none := by
  simp only [readFs, h]
/-- where the reading stands: 'out' was read, 'r' is left, 'm' fields are to come -/
def FAt (b : List UInt8) (out : List (List UInt8)) (m : Nat) (r : List UInt8) : Prop := rfE b = match readFs m r with | none => (4, []) | some l => (0, out ++ l)
theorem FAt.step {b r : List UInt8} {out : List (List UInt8)} {m sz k : Nat} (h : FAt b out (m + 1) r) (hr : readS 0 r = some (sz, k)) (h2 : ¬ r.length - k < sz) : FAt b (out ++ [(r.drop k).take sz]) m (r.drop (k + sz)) := by
  unfold FAt at h ⊢
  rw [h, readFs_step hr h2]
  cases readFs m (r.drop (k + sz)) with
  | none => rfl
  | some l => simp
theorem FAt.bad {b r : List UInt8} {out : List (List UInt8)} {m : Nat} (h : FAt b out (m + 1) r) (hn : readFs (m + 1) r = none) : rfE b = (4, []) := by
  unfold FAt at h
  rw [h, hn]
theorem FAt.done {b r : List UInt8} {out : List (List UInt8)} (h : FAt b out 0 r) : rfE b = if r = [] then (0, out) else (4, []) := by
  unfold FAt at h
  rw [h]
  by_cases hr : r = []
  · simp [readFs, hr]
  · simp [readFs, hr]

theorem readFs_fields : ∀ (ls : List (List UInt8)), (∀ f ∈ ls, f.length < 18446744073709551616) → readFs ls.length (ls.flatMap fld) = some ls
  | [], _ => rfl
  | f :: r, h => by
    have hf := h f (by simp)
    have h1 := readS_shortL 0 f.length (f ++ r.flatMap fld) (by omega) (by simpa using hf) (by omega)
    have e : (f :: r).flatMap fld = shortL f.length ++ (f ++ r.flatMap fld) := by simp [fld]
    rw [List.length_cons, e, readFs_step h1 (by simp)]
    have e1 : (shortL f.length ++ (f ++ r.flatMap fld)).drop ((shortL f.length).length + f.length) = r.flatMap fld := by
      rw [← List.append_assoc, List.drop_append_of_le_length (by simp)]
      simp
    have e2 : (shortL f.length ++ (f ++ r.flatMap fld)).drop (shortL f.length).length = f ++ r.flatMap fld := by simp
    rw [e1, e2, readFs_fields r (fun x hx => h x (by simp [hx]))]
    simp
/-- what was told is read as it was -/
theorem rfE_fields {ls : List (List UInt8)} (hn : ls.length ≤ 4096) (hf : ∀ f ∈ ls, f.length < 18446744073709551616) (hb : (fieldsL ls).length ≤ 1048576) : rfE (fieldsL ls) = (0, ls) := by
  have h1 := readS_shortL 0 ls.length (ls.flatMap fld) (by omega) (by omega) (by omega)
  unfold fieldsL at hb ⊢
  rw [rfE_ok h1 (by omega)]
  rw [List.drop_left, readFs_fields ls hf]
theorem fields_readFs : ∀ (m : Nat) (b : List UInt8) (ls : List (List UInt8)), readFs m b = some ls → ls.length = m ∧ ls.flatMap fld = b
  | 0, b, ls, h => by
    simp only [readFs] at h
    split at h
    · rename_i hb; subst hb; cases h; exact ⟨rfl, rfl⟩
    · cases h
  | m + 1, b, ls, h => by
    cases hr : readS 0 b with
    | none => rw [readFs_none hr] at h; cases h
    | some x =>
      obtain ⟨sz, k⟩ := x
      by_cases h2 : b.length - k < sz
      · rw [readFs_short hr h2] at h; cases h
      · rw [readFs_step hr h2, Option.map_eq_some_iff] at h
        obtain ⟨l, hl, rfl⟩ := h
        obtain ⟨h3, h4⟩ := fields_readFs m _ l hl
        obtain ⟨hk0, hkl, hs, -⟩ := shortL_readS b 0 sz k hr
        refine ⟨by simp [h3], ?_⟩
        rw [List.flatMap_cons, h4, fld]
        have : ((b.drop k).take sz).length = sz := by rw [List.length_take, List.length_drop]; omega
        rw [this, hs, List.append_assoc, ← List.drop_drop, List.take_append_drop, List.take_append_drop]
/-- what was read is told again as these bytes -/
theorem fields_rfE {b : List UInt8} {ls : List (List UInt8)} (h : rfE b = (0, ls)) : fieldsL ls = b ∧ ls.length ≤ 4096 := by
  unfold rfE at h
  cases hr : readS 0 b with
  | none => rw [hr] at h; simp at h
  | some x =>
    obtain ⟨n, k⟩ := x
    rw [hr] at h
    simp only at h
    split at h
    · simp at h
    · rename_i h2
      cases hf : readFs n (b.drop k) with
      | none => rw [hf] at h; simp at h
      | some l =>
        rw [hf] at h
        simp only [Prod.mk.injEq, true_and] at h
        subst h
        obtain ⟨h3, h4⟩ := fields_readFs n _ l hf
        obtain ⟨hk0, hkl, hs, -⟩ := shortL_readS b 0 n k hr
        refine ⟨?_, by omega⟩
        rw [fieldsL, h3, h4, hs, List.take_append_drop]
theorem rfE_cases (b : List UInt8) : rfE b = (4, []) ∨ ∃ ls, rfE b = (0, ls) := by
  unfold rfE
  cases readS 0 b with
  | none => exact .inl rfl
  | some x =>
    simp only
    split
    · exact .inl rfl
    · cases readFs x.1 (b.drop x.2) with
      | none => exact .inl rfl
      | some l => exact .inr ⟨l, rfl⟩
end Go.As
