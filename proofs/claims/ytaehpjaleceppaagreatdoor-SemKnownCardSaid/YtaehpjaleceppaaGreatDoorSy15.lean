/- The reckoner: slices that lie in blocks that stay. Any program; the conditions are in each theorem. -/
import Derived.Test.YtaehpjaleceppaaGreatDoorSy14
noncomputable section
namespace Go.Sy
open Go Go.RowKit
set_option linter.unusedVariables false
set_option linter.unusedSimpArgs false

def gB (a : Option Addr) : Nat := match a with
  | some x => x.block
  | none => 0
def oB (a : Option Addr) : Nat := match a with
  | some x => x.off
  | none => 0
/-- the slice at 'a' of n elements of sz cells has these cells, in blocks of F -/
structure SlAt (F : Nat → Prop) (w : World) (a : Option Addr) (n sz : Nat) (xs : List Value) : Prop where
  len : xs.length = n * sz
  place : n = 0 ∨ (a = some ⟨gB a, oB a, none⟩ ∧ F (gB a) ∧ w.rangeAt (gB a) (oB a) xs)
theorem rangeAt_keep {F : Nat → Prop} {w w' : World} (hk : Keep F w w') {b o : Nat} {xs : List Value} (hF : F b) (h : w.rangeAt b o xs) : w'.rangeAt b o xs := fun j v hv => by
  rw [World.cell?_of_block (w := w) (hk.block b hF)]
  exact h j v hv
theorem SlAt.keep {F : Nat → Prop} {w w' : World} {a : Option Addr} {n sz : Nat} {xs : List Value} (h : SlAt F w a n sz xs) (hk : Keep F w w') : SlAt F w' a n sz xs :=
  ⟨h.len, h.place.imp id fun ⟨h1, h2, h3⟩ => ⟨h1, h2, rangeAt_keep hk h2 h3⟩⟩
theorem SlAt.mono {F F' : Nat → Prop} {w : World} {a : Option Addr} {n sz : Nat} {xs : List Value} (h : SlAt F w a n sz xs) (hF : ∀ k, F k → F' k) : SlAt F' w a n sz xs :=
  ⟨h.len, h.place.imp id fun ⟨h1, h2, h3⟩ => ⟨h1, hF _ h2, h3⟩⟩
theorem SlAt.of_own {F : Nat → Prop} {w : World} {base e sz n : Nat} {x : Value} {xs : List Value} (h : w.ownsRow base e sz x n xs) (hF : ∀ k, base ≤ k → k < w.heap.size → F k) : ∃ a cap, x = .slice a n cap ∧ n ≤ cap ∧ SlAt F w a n sz xs := by
  obtain ⟨hl, ⟨rfl, rfl⟩ | ⟨g, cap, cur, rfl, hb, hh, hnc, hcm, hcs, ht⟩⟩ := h
  · exact ⟨none, 0, rfl, Nat.le_refl _, ⟨hl, .inl rfl⟩⟩
  · refine ⟨some ⟨g, 0, none⟩, cap, rfl, hnc, ⟨hl, .inr ⟨rfl, hF g hb (Array.getElem?_eq_some_iff.1 hh).1, fun j v hv => ?_⟩⟩⟩
    rw [← ht] at hv
    have hj := (List.getElem?_eq_some_iff.1 hv).1
    rw [List.length_take] at hj
    rw [List.getElem?_take, if_pos (by omega)] at hv
    simp only [gB, oB, Nat.zero_add]
    simp [World.cell?, hh]
    simpa using hv
section
variable {P : Program} {F : Nat → Prop} {w : World} {a : Option Addr} {n sz cap : Nat} {xs : List Value}
theorem idx_sl {t e : TypeId} (h : SlAt F w a n sz xs) (hu : elemOf P t = some e) (hi : szB P e = some sz) {i : Nat} (hin : i < n) (W : World) :
    (Instr.indexAt t (.slice a n cap) (.int .i64 (i : Int))).run P W = .ok (.pointer (some ⟨gB a, oB a + i * sz, none⟩)) W := by
  rcases h.place with h0 | ⟨ha, _, _⟩
  · omega
  unfold elemOf at hu
  split at hu <;> first | (cases hu; done) | skip
  rename_i e' hu'
  injection hu with hu
  subst hu
  rw [ha]
  simp [Instr.indexAt, asIntOf, run_underlying hu', szB_ok hi, Addr.add_mid, hin, gB, oB]
theorem load_cell {ty : TypeId} {b o j : Nat} {v : Value} (hb : aggB P ty = some false) (h : w.cell? ⟨b, o + j, none⟩ = some v) : (Instr.loadAt ty (.pointer (some ⟨b, o + j, none⟩))).run P w = .ok v w := by
  simp [Instr.loadAt, Instr.sureAddr, loadVar, aggB_ok hb, h]
theorem sl_cell (h : SlAt F w a n sz xs) {j : Nat} {v : Value} (hv : xs[j]? = some v) : w.cell? ⟨gB a, oB a + j, none⟩ = some v := by
  rcases h.place with h0 | ⟨_, _, h3⟩
  · have := h.len
    rw [h0, Nat.zero_mul] at this
    rw [List.eq_nil_of_length_eq_zero this] at hv
    simp at hv
  · exact h3 j v hv
/-- one cell of an element -/
theorem load_sl {ty : TypeId} (h : SlAt F w a n sz xs) (hb : aggB P ty = some false) (i o : Nat) {v : Value} (hv : xs[i * sz + o]? = some v) {W : World} (hk : Keep F w W) :
    (Instr.loadAt ty (.pointer (some ⟨gB a, oB a + i * sz + o, none⟩))).run P W = .ok v W := by
  rw [Nat.add_assoc]
  exact load_cell hb (sl_cell (h.keep hk) hv)
/-- a struct within an element -/
theorem load_slA {ty : TypeId} {m : Nat} (h : SlAt F w a n sz xs) (hb : aggB P ty = some true) (hs : szB P ty = some m) (i o : Nat) {cs : List Value} (hm : cs.length = m) (hc : ∀ j v, cs[j]? = some v → xs[i * sz + o + j]? = some v) {W : World} (hk : Keep F w W) :
    (Instr.loadAt ty (.pointer (some ⟨gB a, oB a + i * sz + o, none⟩))).run P W = .ok (.agg cs.toArray) W := by
  have hl : (loadCells ⟨gB a, oB a + i * sz + o, none⟩ cs.length).run P W = .ok cs.toArray W :=
    run_loadCells_list (P := P) W _ cs (fun j v hv => by
      rw [Addr.add_mid, Nat.add_assoc, Nat.add_assoc, ← Nat.add_assoc (i * sz)]
      exact sl_cell (h.keep hk) (hc j v hv))
  simp [Instr.loadAt, Instr.sureAddr, loadVar, aggB_ok hb, szB_ok hs, ← hm, hl]
end
end Go.Sy
