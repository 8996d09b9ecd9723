/- What the small functions of lex and assizeref04 answer, on any bytes: letters, digits, words, names. No conditions but that a string fits in memory. -/
import Derived.Test.YtlfpkepgamnidaaRows
import Derived.Test.YtlfpkepgamnidaaBase
namespace Go.Proofs.Ytlfpkepgamnidaa
open Go.RowKit Go.As

def letterB (c : Int) : Bool := decide (97 ≤ c ∧ c ≤ 122 ∨ 65 ≤ c ∧ c ≤ 90 ∨ c = 95)
def digitB (c : Int) : Bool := decide (48 ≤ c ∧ c ≤ 57)

theorem letter_any (c : Int) (w : World) : Calls Try.prog 38 #[.int .u8 c] w fun e w' => e = .returned (.bool (letterB c)) ∧ w = w' := by
  go_enter Try.func38, Try.ntmps38
  go_wp2
  all_goals
    go_ret
    refine ⟨ret_bool ?_, rfl⟩
    rw [Bool.eq_iff_iff]; simp [letterB] at *; omega

theorem letterR_any (c : Int) (w : World) : Calls Try.prog 42 #[.int .u8 c] w fun e w' => e = .returned (.bool (letterB c)) ∧ w = w' := by
  go_enter Try.func42, Try.ntmps42
  go_wp2
  all_goals
    go_ret
    refine ⟨ret_bool ?_, rfl⟩
    rw [Bool.eq_iff_iff]; simp [letterB] at *; omega

theorem digit_any (c : Int) (w : World) : Calls Try.prog 41 #[.int .u8 c] w fun e w' => e = .returned (.bool (digitB c)) ∧ w = w' := by
  go_enter Try.func41, Try.ntmps41
  go_wp2
  all_goals
    go_ret
    refine ⟨ret_bool ?_, rfl⟩
    rw [Bool.eq_iff_iff]; simp [digitB] at *; omega

theorem digitR_any (c : Int) (w : World) : Calls Try.prog 43 #[.int .u8 c] w fun e w' => e = .returned (.bool (digitB c)) ∧ w = w' := by
  go_enter Try.func43, Try.ntmps43
  go_wp2
  all_goals
    go_ret
    refine ⟨ret_bool ?_, rfl⟩
    rw [Bool.eq_iff_iff]; simp [digitB] at *; omega

theorem name1_any (c : Int) (w : World) : Calls Try.prog 40 #[.int .u8 c] w fun e w' => e = .returned (.bool (letterB c || digitB c)) ∧ w = w' := by
  go_enter Try.func40, Try.ntmps40
  go_wp2_with (first | (go_at_call 38; refine (letter_any _ _).mono ?_; rintro e w' ⟨rfl, rfl⟩) | (go_at_call 41; refine (digit_any _ _).mono ?_; rintro e w' ⟨rfl, rfl⟩))
  all_goals
    go_ret
    refine ⟨ret_bool ?_, rfl⟩
    simp [*]

/-- where the bytes of a kind end, from a place on -/
def runL (p : Int → Bool) (l : List UInt8) (at_ : Nat) : Nat := at_ + ((l.drop at_).takeWhile fun c => p (c.toNat : Int)).length

theorem runL_le (p : Int → Bool) (l : List UInt8) (k : Nat) (h : k ≤ l.length) : k ≤ runL p l k ∧ runL p l k ≤ l.length := by
  unfold runL
  have : ((l.drop k).takeWhile fun c => p (c.toNat : Int)).length ≤ (l.drop k).length := (List.takeWhile_prefix _).length_le
  simp at this; omega
theorem runL_stop (p : Int → Bool) (l : List UInt8) (k : Nat) (h : l.length ≤ k) : runL p l k = k := by
  unfold runL; simp [List.drop_eq_nil_of_le h]
theorem runL_go (p : Int → Bool) (l : List UInt8) (k : Nat) (h : k < l.length) : runL p l k = if p (l[k].toNat : Int) then runL p l (k + 1) else k := by
  unfold runL
  rw [List.drop_eq_getElem_cons h, List.takeWhile_cons]
  split <;> simp_all <;> omega

set_option maxHeartbeats 400000 in
theorem run_any (F : Nat) (p : Int → Bool) (l : List UInt8) (k0 : Nat) (w : World) (hs : l.length ≤ maxLen) (hk0 : k0 ≤ l.length)
    (hc : ∀ args w, (callFunc F args).run Try.prog w = .ok (.enter F args) w)
    (hF : Hid (∀ (c : Int) (w : World), Calls Try.prog F #[.int .u8 c] w fun e w' => e = .returned (.bool (p c)) ∧ w = w')) :
    Calls Try.prog 39 #[.string (str l), .int .i64 k0, .func (.func F) #[] #[]] w fun e w' => e = .returned (.int .i64 (runL p l k0)) ∧ w = w' := by
  unfold maxLen at hs
  go_enter Try.func39, Try.ntmps39
  go_wp2_with fail
  go_loop [1] (fun i => ∃ k : Nat, k ≤ l.length ∧ i = .int .i64 k ∧ runL p l k = runL p l k0) (fun i => l.length - (intOf i).toNat)
  case atStart => exact ⟨k0, hk0, rfl, rfl⟩
  case round =>
    obtain ⟨k, hk, rfl, he⟩ := hrel
    have HE := Lib.hid he
    clear he
    by_cases hlt : k < l.length
    · have hg := Lib.hid (runL_go p l k hlt)
      go_wp2_with fail
      refine (hF.out _ _).mono ?_
      rintro e w' ⟨rfl, rfl⟩
      cases hp : p (l[k].toNat : Int)
      all_goals
        have HP := Lib.hid hp
        clear hp
        go_wp2_with fail
      · go_ret
        refine ⟨ret_int ?_, rfl⟩
        rw [← HE.out, hg.out, if_neg]
        simpa using HP.out
      · go_round
        case rel => exact ⟨k + 1, by omega, by go_num, by rw [← HE.out, hg.out, if_pos]; simpa using HP.out⟩
        case measure => simp [intOf]; omega
    · go_wp2_with fail
      go_ret
      refine ⟨ret_int ?_, rfl⟩
      rw [← HE.out, runL_stop _ _ _ (by omega)]

def wordsL : List (List UInt8) := [[115, 104, 97, 114, 101, 100], [109, 117, 116, 101, 120], [116, 104, 114, 101, 97, 100], [108, 111, 99, 97, 108], [105, 110, 116], [98, 111, 111, 108], [114, 101, 97, 108], [108, 111, 99, 107], [117, 110, 108, 111, 99, 107], [97, 115, 115, 101, 114, 116], [105, 102], [101, 108, 115, 101], [119, 104, 105, 108, 101], [115, 107, 105, 112], [116, 114, 117, 101], [102, 97, 108, 115, 101], [110, 97, 110], [105, 110, 102]]
def wordB (l : List UInt8) : Bool := wordsL.contains l

set_option maxHeartbeats 800000 in
theorem word_any (l : List UInt8) (w : World) : Calls Try.prog 13 #[.string (str l)] w fun e w' => e = .returned (.bool (wordB l)) ∧ w = w' := by
  go_enter Try.func13, Try.ntmps13
  go_wp2
  all_goals
    go_ret
    refine ⟨ret_bool ?_, rfl⟩
    simp_all [wordB, wordsL]

def wordVals : List Value := wordsL.map fun l => .string (str l)

theorem words_any (w : World) : Calls Try.prog 44 #[] w fun e w' => e = .returned (.slice (some ⟨w.heap.size, 0, none⟩) 18 18) ∧ w' = w.alloc (.cells wordVals.toArray 9) := by
  go_enter Try.func44, Try.ntmps44
  go_wp2
  go_ret
  exact ⟨rfl, rfl⟩

end Go.Proofs.Ytlfpkepgamnidaa
