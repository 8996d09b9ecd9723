/- What the small functions of lex answer, on any bytes: letters, digits, blanks, runs. No conditions but that a string fits in memory. -/
import Derived.Test.YtiacalnkmnckjaaRows
import Derived.Test.YtiacalnkmnckjaaBase
namespace Go.Proofs.Ytiacalnkmnckjaa
open Go.RowKit Go.As
set_option linter.unusedVariables false

def letB (c : Int) : Bool := decide (97 ≤ c ∧ c ≤ 122 ∨ 65 ≤ c ∧ c ≤ 90 ∨ c = 95)
def digI (c : Int) : Bool := decide (48 ≤ c ∧ c ≤ 57)
def blkB (c : Int) : Bool := decide (c = 9 ∨ c = 10 ∨ c = 13 ∨ c = 32)
def nmB (c : Int) : Bool := letB c || digI c
def offB (c : Int) : Bool := decide (c ≠ 10)

theorem letter_any (c : Int) (w : World) : Calls Try.prog 14 #[.int .u8 c] w fun e w' => e = .returned (.bool (letB c)) ∧ w = w' := by
  go_enter Try.func14, Try.ntmps14
  go_wp2
  all_goals
    go_ret
    refine ⟨ret_bool ?_, rfl⟩
    rw [Bool.eq_iff_iff]; simp [letB] at *; omega
theorem digit_any (c : Int) (w : World) : Calls Try.prog 16 #[.int .u8 c] w fun e w' => e = .returned (.bool (digI c)) ∧ w = w' := by
  go_enter Try.func16, Try.ntmps16
  go_wp2
  all_goals
    go_ret
    refine ⟨ret_bool ?_, rfl⟩
    rw [Bool.eq_iff_iff]; simp [digI] at *; omega
theorem blank_any (c : Int) (w : World) : Calls Try.prog 11 #[.int .u8 c] w fun e w' => e = .returned (.bool (blkB c)) ∧ w = w' := by
  go_enter Try.func11, Try.ntmps11
  go_wp2
  all_goals
    go_ret
    refine ⟨ret_bool ?_, rfl⟩
    rw [Bool.eq_iff_iff]; simp [blkB] at *; omega
theorem next1_any (c : Int) (w : World) : Calls Try.prog 13 #[.int .u8 c] w fun e w' => e = .returned (.bool (offB c)) ∧ w = w' := by
  go_enter Try.func13, Try.ntmps13
  go_wp2
  all_goals
    go_ret
    refine ⟨ret_bool ?_, rfl⟩
    rw [Bool.eq_iff_iff]; simp [offB] at *
theorem token1_any (c : Int) (w : World) : Calls Try.prog 15 #[.int .u8 c] w fun e w' => e = .returned (.bool (nmB c)) ∧ w = w' := by
  go_enter Try.func15, Try.ntmps15
  go_wp2_with (first | (go_at_call 14; refine (letter_any _ _).mono ?_; rintro e w' ⟨rfl, rfl⟩) | (go_at_call 16; refine (digit_any _ _).mono ?_; rintro e w' ⟨rfl, rfl⟩))
  all_goals
    go_ret
    refine ⟨ret_bool ?_, rfl⟩
    simp [nmB, *]

/-- where the bytes of a kind end, from a place on -/
def runL (p : Int → Bool) (l : List UInt8) (at_ : Nat) : Nat := at_ + ((l.drop at_).takeWhile fun c => p (c.toNat : Int)).length
theorem runL_le (p : Int → Bool) (l : List UInt8) (k : Nat) (h : k ≤ l.length) : k ≤ runL p l k ∧ runL p l k ≤ l.length := by
  unfold runL
  have : ((l.drop k).takeWhile fun c => p (c.toNat : Int)).length ≤ (l.drop k).length := (List.takeWhile_prefix _).length_le
  simp at this; omega
theorem runL_stop (p : Int → Bool) (l : List UInt8) (k : Nat) (h : l.length ≤ k) : runL p l k = k := by
  unfold runL; simp [List.drop_eq_nil_of_le h]
theorem runL_go (p : Int → Bool) (l : List UInt8) (k : Nat) (h : k < l.length) : runL p l k = if p (l[k].toNat : Int) then runL p l (k + 1) else k := by
  unfold runL
  rw [List.drop_eq_getElem_cons h, List.takeWhile_cons]
  split <;> simp_all <;> omega

set_option maxHeartbeats 400000 in
theorem run_any (F : Nat) (p : Int → Bool) (l : List UInt8) (k0 : Nat) (w : World) (hs : l.length ≤ 1048576) (hk0 : k0 ≤ l.length)
    (hc : ∀ args w, (callFunc F args).run Try.prog w = .ok (.enter F args) w)
    (hF : Hid (∀ (c : Int) (w : World), Calls Try.prog F #[.int .u8 c] w fun e w' => e = .returned (.bool (p c)) ∧ w = w')) :
    Calls Try.prog 12 #[.string (str l), .int .i64 k0, .func (.func F) #[] #[]] w fun e w' => e = .returned (.int .i64 (runL p l k0)) ∧ w = w' := by
  go_enter Try.func12, Try.ntmps12
  go_wp2_with fail
  go_loop [1] (fun i => ∃ k : Nat, k ≤ l.length ∧ i = .int .i64 k ∧ runL p l k = runL p l k0) (fun i => l.length - (intOf i).toNat)
  case atStart => exact ⟨k0, hk0, rfl, rfl⟩
  case round =>
    obtain ⟨k, hk, rfl, he⟩ := hrel
    have HE := Lib.hid he
    clear he
    by_cases hlt : k < l.length
    · have hg := Lib.hid (runL_go p l k hlt)
      go_wp2_with fail
      refine (hF.out _ _).mono ?_
      rintro e w' ⟨rfl, rfl⟩
      cases hp : p (l[k].toNat : Int)
      all_goals
        have HP := Lib.hid hp
        clear hp
        go_wp2_with fail
      · go_ret
        refine ⟨ret_int ?_, rfl⟩
        rw [← HE.out, hg.out, if_neg]
        simpa using HP.out
      · go_round
        case rel => exact ⟨k + 1, by omega, by go_num, by rw [← HE.out, hg.out, if_pos]; simpa using HP.out⟩
        case measure => simp [intOf]; omega
    · go_wp2_with fail
      go_ret
      refine ⟨ret_int ?_, rfl⟩
      rw [← HE.out, runL_stop _ _ _ (by omega)]
end Go.Proofs.Ytiacalnkmnckjaa
