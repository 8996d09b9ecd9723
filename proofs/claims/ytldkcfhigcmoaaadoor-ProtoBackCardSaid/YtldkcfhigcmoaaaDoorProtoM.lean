/- Small laws for the two walks of ReadJob. Conditions: those in each theorem. -/
import Derived.Test.YtldkcfhigcmoaaaDoorProtoL
import Derived.Test.YtldkcfhigcmoaaaDoorRowS
namespace Go.Proofs.YtldkcfhigcmoaaaDoor
open Go.RowKit Go.As
set_option linter.unusedVariables false

theorem wd_get {ws : List (List UInt8)} {i : Nat} (h : i < ws.length) : ws[i]? = some (wd ws i) := by
  unfold wd
  rw [List.getD_eq_getElem?_getD, List.getElem?_eq_getElem h, Option.getD_some]
theorem wd_len {s : List UInt8} (i : Nat) : (wd (JWS s) i).length ≤ s.length := by
  by_cases h : i < (JWS s).length
  · have hm := List.mem_of_getElem? (wd_get h)
    rcases wordsE_cases s with he | he | ⟨he, -⟩
    · unfold JWS at h; rw [he] at h; simp at h
    · unfold JWS at h; rw [he] at h; simp at h
    · have hJ : JWS s = splitW s := by unfold JWS; rw [he]
      rw [hJ] at hm ⊢
      have hj := join_splitW s
      obtain ⟨u, v, huv⟩ := List.append_of_mem hm
      have hl : (Lib.join (splitW s) [32]).length = s.length := by rw [hj]
      have key : ∀ (xs : List (List UInt8)) (x : List UInt8), x ∈ xs → x.length ≤ (Lib.join xs [32]).length := by
        intro xs
        induction xs with
        | nil => intro x hx; simp at hx
        | cons y ys ih =>
          intro x hx
          cases ys with
          | nil => rw [List.mem_singleton] at hx; subst hx; rw [Lib.join_one]; exact Nat.le_refl _
          | cons z zs =>
            have e : Lib.join (y :: z :: zs) [32] = y ++ 32 :: Lib.join (z :: zs) [32] := by
              rw [Lib.join_cons, Lib.join_cons]
              simp [Lib.joinTail]
            rw [e, List.length_append, List.length_cons]
            rw [List.mem_cons] at hx
            rcases hx with rfl | hx
            · omega
            · have := ih x hx; omega
      have := key (splitW s) _ hm
      omega
  · unfold wd
    rw [List.getD_eq_getElem?_getD, List.getElem?_eq_none (by omega)]
    simp
theorem Blk.job {w : World} {g : Nat} {t : TypeId} {a b c d e f i h : Int} (hb : Blk w g t (jobC a b c d e f i h)) : JobAt w g a b c d e f i h :=
  ⟨hb.cell 0, hb.cell 1, hb.cell 2, hb.cell 3, hb.cell 4, hb.cell 5, hb.cell 6, hb.cell 7⟩
theorem below_only {w W W' : World} {k : Nat} {F : Nat → Prop} (hk : k = w.heap.size) (hb : Below k w W) (ho : Only F W W') (hF : ∀ j, j < k → ¬ F j) : Below k w W' := by
  subst hk; exact ho.below' hb hF
theorem sl_blk {w : World} {sz n : Nat} {ad : Addr} {xs : List Value} (h : Sl w sz (some ad) n xs) (hn : 0 < n) : ad.block < w.heap.size := by
  obtain ⟨ad', e, hb, -⟩ := h.2 hn
  injection e with e
  rw [e]; exact hb
theorem cell_only {F : Nat → Prop} {w w' : World} {p : Addr} {v : Value} (h : w.cell? p = some v) (ho : Only F w w') (hF : ¬ F p.block) : w'.cell? p = some v := by
  have hb := ho.block p.block (World.block_lt_of_cell? w _ h) hF
  unfold World.cell? at h ⊢
  rw [hb]; exact h
theorem rj_good {s : List UInt8} (h : rjGood s = true) : rjW s = wd (JWS s) 0 ∧ rjJ s = jobC (rjX s 1 1073741824) (rjS s) (rjH s) (rjX s 4 1099511627776) (rjX s 5 1024) (rjX s 6 9223372036854775807) (rjX s 7 9223372036854775807) (rjX s 8 9223372036854775807) ∧ rjF s = 0 := by
  unfold rjW rjJ rjF
  rw [if_pos h, if_pos h, if_pos h]
  exact ⟨rfl, rfl, rfl⟩
theorem own_base {w : World} {base : Nat} {e : TypeId} {sz : Nat} {a : Option Addr} {c n m : Nat} {xs : List Value} (h : w.ownsRow base e sz (.slice a n c) m xs) : ∀ ad, a = some ad → base ≤ ad.block := by
  intro ad ha
  rcases h.2 with ⟨hv, -⟩ | ⟨g, cap, cur, hv, hb, -⟩
  · injection hv with h1
    rw [h1] at ha; cases ha
  · injection hv with h1
    rw [h1] at ha
    injection ha with ha
    rw [← ha]; exact hb
theorem rj_bad {s : List UInt8} (h : rjGood s = false) : rjW s = [] ∧ rjJ s = jobC 0 0 0 0 0 0 0 0 ∧ rjF s = 4 := by
  unfold rjW rjJ rjF
  rw [h]
  exact ⟨rfl, rfl, rfl⟩
end Go.Proofs.YtldkcfhigcmoaaaDoor
