/- What next of lex answers, on any text: where the next token begins. No conditions but those in the theorem. -/
import Derived.Test.YtiacalnkmnckjaaLxB
import Derived.WalkMore
namespace Go.Proofs.Ytiacalnkmnckjaa
open Go.RowKit Go.As
set_option linter.unusedVariables false

/-- how many bytes of blanks and comments stand ahead; true: in a comment -/
def skN : Bool → List UInt8 → Nat
  | _, [] => 0
  | false, c :: r => if blkB (c.toNat : Int) then skN false r + 1 else if c.toNat = 35 then skN true r + 1 else 0
  | true, c :: r => if offB (c.toNat : Int) then skN true r + 1 else skN false r + 1
theorem skN_note : ∀ (r : List UInt8), skN true r = (r.takeWhile fun c => offB (c.toNat : Int)).length + skN false (r.drop (r.takeWhile fun c => offB (c.toNat : Int)).length)
  | [] => rfl
  | c :: r => by
    rw [List.takeWhile_cons]
    cases h : offB (c.toNat : Int) with
    | true =>
      rw [if_pos rfl, List.length_cons, List.drop_succ_cons]
      show (if offB (c.toNat : Int) then skN true r + 1 else skN false r + 1) = _
      rw [h, if_pos rfl, skN_note r]
      omega
    | false =>
      rw [if_neg (by decide)]
      show (if offB (c.toNat : Int) then skN true r + 1 else skN false r + 1) = 0 + (if blkB (c.toNat : Int) then skN false r + 1 else if c.toNat = 35 then skN true r + 1 else 0)
      have hb : blkB (c.toNat : Int) = true := by
        unfold offB at h
        unfold blkB
        have := of_decide_eq_false h
        exact decide_eq_true (by omega)
      rw [h, if_neg (by decide), hb, if_pos rfl]
      omega
theorem skN_le : ∀ (b : Bool) (r : List UInt8), skN b r ≤ r.length
  | _, [] => Nat.zero_le _
  | false, c :: r => by
    have h1 := skN_le false r
    have h2 := skN_le true r
    show (if blkB (c.toNat : Int) then skN false r + 1 else if c.toNat = 35 then skN true r + 1 else 0) ≤ _
    rw [List.length_cons]
    (repeat' split) <;> omega
  | true, c :: r => by
    have h1 := skN_le false r
    have h2 := skN_le true r
    show (if offB (c.toNat : Int) then skN true r + 1 else skN false r + 1) ≤ _
    rw [List.length_cons]
    split <;> omega
/-- where the next token begins -/
def nxN (s : List UInt8) (k : Nat) : Nat := k + skN false (s.drop k)
theorem nxN_le {s : List UInt8} {k : Nat} (h : k ≤ s.length) : k ≤ nxN s k ∧ nxN s k ≤ s.length := by
  unfold nxN
  have := skN_le false (s.drop k)
  rw [List.length_drop] at this
  omega
theorem nxN_end {s : List UInt8} {k : Nat} (h : s.length ≤ k) : nxN s k = k := by
  unfold nxN
  rw [List.drop_eq_nil_of_le h]
  rfl
theorem nxN_step {s : List UInt8} {k : Nat} (h : k < s.length) : nxN s k = if blkB (s[k].toNat : Int) then nxN s (k + 1) else if s[k].toNat = 35 then nxN s (runL offB s k) else k := by
  unfold nxN
  have hd : s.drop k = s[k] :: s.drop (k + 1) := List.drop_eq_getElem_cons h
  obtain ⟨c, hc⟩ : ∃ c, c = s[k] := ⟨_, rfl⟩
  rw [← hc] at hd ⊢
  have hru : c.toNat = 35 → runL offB s k = k + 1 + ((s.drop (k + 1)).takeWhile fun c => offB (c.toNat : Int)).length := by
    intro h35
    unfold runL
    rw [hd, List.takeWhile_cons, if_pos (by rw [h35]; decide), List.length_cons]
    omega
  rw [hd]
  show k + (if blkB (c.toNat : Int) then skN false (s.drop (k + 1)) + 1 else if c.toNat = 35 then skN true (s.drop (k + 1)) + 1 else 0) = _
  split
  · omega
  · split
    · rename_i h35
      rw [hru h35, skN_note, List.drop_drop]
      omega
    · omega
set_option maxRecDepth 100000 in
set_option maxHeartbeats 1600000 in
theorem next_any (s : List UInt8) (k0 : Nat) (hs : s.length ≤ 1048576) (hk0 : k0 ≤ s.length) (w : World) : Calls Try.prog 9 #[.string (str s), .int .i64 (k0 : Int)] w fun e w' => e = .returned (.int .i64 (nxN s k0 : Nat)) ∧ w = w' := by
  go_enter Try.func9, Try.ntmps9
  go_wp2_with fail
  go_step3
  go_wp2_with fail
  go_step3
  go_wp2_with fail
  go_loop [1] (fun i => ∃ k : Nat, k ≤ s.length ∧ i = .int .i64 k ∧ nxN s k = nxN s k0) (fun i => s.length - (intOf i).toNat)
  case atStart => exact ⟨k0, hk0, rfl, rfl⟩
  case round =>
    obtain ⟨k, hk, rfl, he⟩ := hrel
    have HE := Lib.hid he
    clear he
    by_cases hlt : k < s.length
    · have hg := Lib.hid (nxN_step hlt)
      have hix := fun W => run_idx0 s k hlt W
      have hil : (k : Int) < s.length := by omega
      obtain ⟨c, hc⟩ : ∃ c, c = s[k] := ⟨_, rfl⟩
      rw [← hc] at hix hg
      have HC := Lib.hid hc
      clear hc
      cases hb : blkB (c.toNat : Int) with
      | true =>
        have hgo := hg.out
        rw [hb, if_pos rfl] at hgo
        have HG := Lib.hid hgo
        have HB := Lib.hid hb
        have w1 : IntKind.i64.wrap ((k : Int) + 1) = (k : Int) + 1 := by rw [IntKind.wrap_i64]; omega
        clear hgo hb
        go_wp2_with (go_at_call 11; refine (blank_any _ _).mono ?_; rintro e w' ⟨rfl, rfl⟩; have hb := HB.out)
        go_round
        case rel => exact ⟨k + 1, by omega, by go_num, by rw [← HE.out, HG.out]⟩
        case measure => simp [intOf]; omega
      | false =>
        have hgo := hg.out
        rw [hb, if_neg (by decide)] at hgo
        have HB := Lib.hid hb
        clear hb
        by_cases h35 : c.toNat = 35
        · rw [if_pos h35] at hgo
          have HG := Lib.hid hgo
          have h35' : ((c.toNat : Int) == 35) = true := beq_iff_eq.2 (by omega)
          have hle := runL_le offB s k hk
          have hgt : k < runL offB s k := by
            rw [runL_go offB s k hlt, ← HC.out, h35, if_pos (by decide)]
            have := runL_le offB s (k + 1) (by omega)
            omega
          have HR := Lib.hid (fun W => run_any 13 offB s k W hs hk (fun args w => by simp [go_sem]) (fun c w => next1_any c w))
          obtain ⟨r, hr⟩ : ∃ r, r = runL offB s k := ⟨_, rfl⟩
          rw [← hr] at HG HR hle hgt
          clear hgo h35 hr
          go_wp2_with (first
            | (go_at_call 11; refine (blank_any _ _).mono ?_; rintro e w' ⟨rfl, rfl⟩; have hb := HB.out)
            | (go_at_call 12; (with_reducible refine (HR.out _).mono ?_); rintro e w' ⟨rfl, rfl⟩))
          go_round
          case rel => exact ⟨r, hle.2, rfl, by rw [← HE.out, HG.out]⟩
          case measure => simp [intOf]; omega
        · rw [if_neg h35] at hgo
          have HG := Lib.hid hgo
          have h35' : ((c.toNat : Int) == 35) = false := beq_false_of_ne (by omega)
          clear hgo h35
          go_wp2_with (go_at_call 11; refine (blank_any _ _).mono ?_; rintro e w' ⟨rfl, rfl⟩; have hb := HB.out)
          rw [Exit.noGoto_ret]
          go_ret
          rw [← HE.out, HG.out]
          exact ⟨rfl, rfl⟩
    · have hg := nxN_end (s := s) (k := k) (by omega)
      have HG := Lib.hid hg
      have hil : ¬ (k : Int) < s.length := by omega
      clear hg
      go_wp2_with fail
      go_ret
      rw [← HE.out, HG.out]
      exact ⟨rfl, rfl⟩
end Go.Proofs.Ytiacalnkmnckjaa
