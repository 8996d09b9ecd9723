/- What the document's own word and name answer (assizeref04), and that both sides agree. No conditions but that a string fits in memory. -/
import Derived.Test.YtlfpkepgamnidaaLexA
namespace Go.Proofs.Ytlfpkepgamnidaa
open Go.RowKit Go.As

theorem contains_take {l : List UInt8} {k : Nat} {x : List UInt8} (h : (wordsL.take k).contains l = false) (hx : wordsL[k]? = some x) (hn : (x == l) = false) : (wordsL.take (k + 1)).contains l = false := by
  rw [List.take_add_one, hx]
  have hn' : x ≠ l := by simpa using hn
  have hn2 : ¬ l = x := fun e => hn' e.symm
  simp_all

set_option maxHeartbeats 400000 in
theorem wordR_any (l : List UInt8) (w : World) : Calls Try.prog 14 #[.string (str l)] w fun e w' => e = .returned (.bool (wordB l)) ∧ Below w.heap.size w w' := by
  go_enter Try.func14, Try.ntmps14
  go_wp2_with (go_at_call 44; refine (words_any _).mono ?_; rintro e w' ⟨rfl, rfl⟩)
  have hb : Below w.heap.size w (w.alloc (.cells wordVals.toArray 9)) := (Below.refl _ _).alloc (Nat.le_refl _) _
  have hcell : ∀ k x, wordsL[k]? = some x → (w.alloc (.cells wordVals.toArray 9)).cell? ⟨w.heap.size, k, none⟩ = some (.string (str x)) := by
    intro k x h
    rw [World.cell?_alloc_at _ _ _ _ rfl]
    simp [wordVals, h]
  generalize hW : w.alloc (.cells wordVals.toArray 9) = W at *
  have HB := Lib.hid hb
  have HC := Lib.hid hcell
  clear hb hcell hW
  go_loop [4] (fun i => ∃ k : Nat, k ≤ 18 ∧ i = .int .i64 k ∧ (wordsL.take k).contains l = false) (fun i => 18 - (intOf i).toNat)
  case atStart => exact ⟨0, by omega, rfl, rfl⟩
  case round =>
    obtain ⟨k, hk, rfl, he⟩ := hrel
    have HE := Lib.hid he
    clear he
    by_cases hlt : k < 18
    · obtain ⟨x, hx⟩ : ∃ x, wordsL[k]? = some x := ⟨_, List.getElem?_eq_getElem (show k < wordsL.length from hlt)⟩
      have hg := HC.out k x hx
      have HX := Lib.hid hx
      clear hx
      cases heq : (x == l)
      · go_wp2_with fail
        go_round
        case rel => exact ⟨k + 1, by omega, by go_num, contains_take HE.out HX.out heq⟩
        case measure => simp [intOf]; omega
      · go_wp2_with fail
        go_ret
        refine ⟨ret_bool ?_, HB.out⟩
        simp only [beq_iff_eq] at heq
        subst heq
        have := List.mem_of_getElem? HX.out
        simp [wordB, this]
    · go_wp2_with fail
      go_ret
      refine ⟨ret_bool ?_, HB.out⟩
      have := HE.out
      rw [List.take_of_length_le (show wordsL.length ≤ k by show 18 ≤ k; omega)] at this
      simp only [wordB, this]

def nmC (c : Int) : Bool := letterB c || digitB c
def allN (l : List UInt8) : Bool := l.all fun c => nmC (c.toNat : Int)
def nameB (l : List UInt8) : Bool :=
  if l.length < 1 then false else if 24 < l.length then false else
  if letterB ((l.headD 0).toNat : Int) then if wordB l then false else allN l else false

theorem allN_take {l : List UInt8} {k : Nat} (hk : k < l.length) (h : allN (l.take k) = true) (hx : nmC (l[k].toNat : Int) = true) : allN (l.take (k + 1)) = true := by
  rw [List.take_succ_eq_append_getElem hk]
  simp only [allN, List.all_append, List.all_cons, List.all_nil, Bool.and_true, Bool.and_eq_true]
  exact ⟨h, hx⟩
theorem allN_no {l : List UInt8} {k : Nat} (hk : k < l.length) (hx : nmC (l[k].toNat : Int) = false) : allN l = false := by
  simp only [allN, List.all_eq_false]
  exact ⟨l[k], List.getElem_mem _, by simp [hx]⟩
theorem head_get {l : List UInt8} (h : 0 < l.length) : l.headD 0 = l[0] := by
  cases l with
  | nil => simp at h
  | cons c r => rfl

set_option maxHeartbeats 800000 in
theorem nameR_any (l : List UInt8) (w : World) (hl : l.length ≤ maxLen) : Calls Try.prog 12 #[.string (str l)] w fun e w' => e = .returned (.bool (nameB l)) ∧ Below w.heap.size w w' := by
  unfold maxLen at hl
  by_cases h0 : l.length < 1
  · go_enter Try.func12, Try.ntmps12
    go_wp2_with fail
    go_ret
    exact ⟨ret_bool (by simp [nameB, h0]), Below.refl _ _⟩
  by_cases h1 : 24 < l.length
  · go_enter Try.func12, Try.ntmps12
    go_wp2_with fail
    go_ret
    exact ⟨ret_bool (by simp [nameB, h1]), Below.refl _ _⟩
  have h00 : 0 < l.length := by omega
  cases hL : letterB (l[0].toNat : Int)
  · have HL := Lib.hid hL
    clear hL
    go_enter Try.func12, Try.ntmps12
    go_wp2_with (go_at_call 42; refine (letterR_any _ _).mono ?_; rintro e w' ⟨rfl, rfl⟩; have hL := HL.out)
    go_ret
    exact ⟨ret_bool (by simp only [nameB, head_get h00, HL.out]; simp), Below.refl _ _⟩
  cases hw : wordB l
  all_goals
    have HL := Lib.hid hL
    have HW := Lib.hid hw
    clear hL hw
    go_enter Try.func12, Try.ntmps12
    go_wp2_with (first | (go_at_call 42; refine (letterR_any _ _).mono ?_; rintro e w' ⟨rfl, rfl⟩; have hL := HL.out) | (go_at_call 14; refine (wordR_any _ _).mono ?_; rintro e w1 ⟨rfl, hb⟩; have hw := HW.out))
  · have HB := Lib.hid hb
    clear hb hL hw
    go_loop [3] (fun i => ∃ k : Nat, k ≤ l.length ∧ i = .int .i64 k ∧ allN (l.take k) = true) (fun i => l.length - (intOf i).toNat)
    case atStart => exact ⟨0, by omega, rfl, by simp [allN]⟩
    case round =>
      obtain ⟨k, hk, rfl, he⟩ := hrel
      have HE := Lib.hid he
      clear he
      by_cases hlt : k < l.length
      · cases hc : letterB (l[k].toNat : Int)
        · cases hd : digitB (l[k].toNat : Int)
          · have hn : nmC (l[k].toNat : Int) = false := by simp [nmC, hc, hd]
            have HN := Lib.hid hn
            have HC := Lib.hid hc
            have HD := Lib.hid hd
            clear hn hc hd
            go_wp2_with (first | (go_at_call 42; refine (letterR_any _ _).mono ?_; rintro e w' ⟨rfl, rfl⟩; have hc := HC.out) | (go_at_call 43; refine (digitR_any _ _).mono ?_; rintro e w' ⟨rfl, rfl⟩; have hd := HD.out))
            go_ret
            exact ⟨ret_bool (by simp only [nameB, head_get h00, HL.out, HW.out, allN_no hlt HN.out]; simp), HB.out⟩
          · have hn : nmC (l[k].toNat : Int) = true := by simp [nmC, hc, hd]
            have HN := Lib.hid hn
            have HC := Lib.hid hc
            have HD := Lib.hid hd
            clear hn hc hd
            go_wp2_with (first | (go_at_call 42; refine (letterR_any _ _).mono ?_; rintro e w' ⟨rfl, rfl⟩; have hc := HC.out) | (go_at_call 43; refine (digitR_any _ _).mono ?_; rintro e w' ⟨rfl, rfl⟩; have hd := HD.out))
            go_round
            case rel => exact ⟨k + 1, by omega, by go_num, allN_take hlt HE.out HN.out⟩
            case measure => simp [intOf]; omega
        · have hn : nmC (l[k].toNat : Int) = true := by simp [nmC, hc]
          have HN := Lib.hid hn
          have HC := Lib.hid hc
          clear hn hc
          go_wp2_with (first | (go_at_call 42; refine (letterR_any _ _).mono ?_; rintro e w' ⟨rfl, rfl⟩; have hc := HC.out))
          go_round
          case rel => exact ⟨k + 1, by omega, by go_num, allN_take hlt HE.out HN.out⟩
          case measure => simp [intOf]; omega
      · go_wp2_with fail
        go_ret
        have := HE.out
        rw [List.take_of_length_le (by omega)] at this
        exact ⟨ret_bool (by simp only [nameB, head_get h00, HL.out, HW.out, this, if_neg h0, if_neg h1]; simp), HB.out⟩
  · go_ret
    exact ⟨ret_bool (by simp only [nameB, head_get h00, HL.out, HW.out]; simp), hb⟩

end Go.Proofs.Ytlfpkepgamnidaa
