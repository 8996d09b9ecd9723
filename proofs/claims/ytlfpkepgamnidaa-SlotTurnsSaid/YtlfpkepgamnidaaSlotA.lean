/- What the functions of slots on wheels and on numbers of slots answer, and a statement's own small helpers (Pick, turns, once). No conditions but those in each theorem. -/
import Derived.Test.YtlfpkepgamnidaaRows
import Derived.Test.YtlfpkepgamnidaaOps
import Derived.Test.YtlfpkepgamnidaaSlices
namespace Go.Proofs.Ytlfpkepgamnidaa
open Go.RowKit Go.As

theorem boolInfo : (Try.prog.info? 4).map (fun i => (i.zero, i.size, i.bytes)) = some (some (.bool false), 1, 1) := by kernel_rfl

theorem tmod_pos (x n : Int) (h : 1 ≤ n) (h0 : 0 ≤ x.tmod n) : x.tmod n = x % n := by
  have h2 := Int.tmod_add_mul_tdiv x n
  have h1 := Int.tmod_lt_of_pos x (show 0 < n by omega)
  have : x % n = (x.tmod n) % n := by
    calc x % n = (x.tmod n + n * x.tdiv n) % n := by rw [h2]
      _ = _ := Int.add_mul_emod_self_left ..
  rw [this, Int.emod_eq_of_lt h0 h1]
theorem tmod_neg (x n : Int) (h : 1 ≤ n) (h0 : x.tmod n < 0) : x.tmod n + n = x % n := by
  have h2 := Int.tmod_add_mul_tdiv x n
  have h1 := Int.lt_tmod_of_pos x (show 0 < n by omega)
  have : x % n = (x.tmod n + n) % n := by
    calc x % n = (x.tmod n + n * x.tdiv n) % n := by rw [h2]
      _ = _ := by rw [Int.add_mul_emod_self_left, Int.add_emod_right]
  rw [this, Int.emod_eq_of_lt (by omega) (by omega)]

theorem pick_any (x n : Int) (w : World) (hn : 1 ≤ n) (hn2 : n ≤ 9223372036854775807) :
    Calls Try.prog 18 #[.int .i64 x, .int .i64 n] w fun e w' => e = .returned (.int .i64 (x % n)) ∧ w = w' := by
  have hp := Lib.hid (fun h => tmod_pos x n hn h)
  have hq := Lib.hid (fun h => tmod_neg x n hn h)
  have hl := Int.lt_tmod_of_pos x (show 0 < n by omega)
  have hu := Int.tmod_lt_of_pos x (show 0 < n by omega)
  go_enter Try.func18, Try.ntmps18
  go_wp2
  all_goals go_ret
  · exact ⟨ret_int (hq.out (by assumption)), rfl⟩
  · exact ⟨ret_int (hp.out (by assumption)), rfl⟩

theorem wnew_bad (n : Int) (w : World) (h : n < 1 ∨ 64 < n) :
    Calls Try.prog 16 #[.int .i64 n] w fun e w' => e = .returned (.tuple #[.pointer none, .int .i64 2]) ∧ w = w' := by
  rcases h with h | h
  · go_enter Try.func16, Try.ntmps16
    go_wp2
    go_ret2
    exact ⟨rfl, rfl⟩
  · have h' : ¬ n < 1 := by omega
    go_enter Try.func16, Try.ntmps16
    go_wp2
    go_ret2
    exact ⟨rfl, rfl⟩

theorem wnew_ok (n : Int) (w : World) (h : 1 ≤ n) (h2 : n ≤ 64) :
    Calls Try.prog 16 #[.int .i64 n] w fun e w' => e = .returned (.tuple #[.pointer (some ⟨w.heap.size, 0, none⟩), .int .i64 0]) ∧ w' = w.alloc (.cells #[.int .i64 n, .int .i64 0] 59) := by
  go_enter Try.func16, Try.ntmps16
  go_wp2
  go_ret2
  exact ⟨rfl, rfl⟩

/-- a wheel of n at a place -/
def WheelAt (w : World) (b : Nat) (n at_ : Int) : Prop := Blk w b 59 #[.int .i64 n, .int .i64 at_]

theorem WheelAt.set {w : World} {b : Nat} {n at_ : Int} (h : WheelAt w b n at_) (x : Int) : WheelAt (w.setCell ⟨b, 1, none⟩ (.int .i64 x)) b n x := by
  have := Blk.set_ h 1 (.int .i64 x)
  simpa [WheelAt] using this

theorem turn_ok (b : Nat) (n at_ : Int) (w : World) (hb : WheelAt w b n at_) (h : 1 ≤ n) (h2 : n ≤ 64) (h3 : 0 ≤ at_) (h4 : at_ < n) :
    Calls Try.prog 23 #[.pointer (some ⟨b, 0, none⟩)] w fun e w' => e = .returned (.tuple #[.int .i64 at_, .int .i64 0]) ∧ WheelAt w' b n ((at_ + 1) % n) ∧ Only (· = b) w w' := by
  have c0 : w.cell? ⟨b, 0, none⟩ = some (.int .i64 n) := hb.cell 0
  have c1 : w.cell? ⟨b, 1, none⟩ = some (.int .i64 at_) := hb.cell 1
  have f1 : w.frozen? ⟨b, 1, none⟩ = false := hb.frozen 1
  have HB := Lib.hid hb
  clear hb
  have hn0 : (n == 0) = false := by simp; omega
  go_enter Try.func23, Try.ntmps23
  go_wp2
  go_ret2
  exact ⟨rfl, HB.out.set _, (Only.refl (· = b) w).set (p := ⟨b, 1, none⟩) (.inl rfl) _⟩

theorem next_ok (b : Nat) (n at_ : Int) (w : World) (hb : WheelAt w b n at_) (h : 1 ≤ n) :
    Calls Try.prog 22 #[.pointer (some ⟨b, 0, none⟩)] w fun e w' => e = .returned (.int .i64 at_) ∧ w = w' := by
  have c0 : w.cell? ⟨b, 0, none⟩ = some (.int .i64 n) := hb.cell 0
  have c1 : w.cell? ⟨b, 1, none⟩ = some (.int .i64 at_) := hb.cell 1
  clear hb
  have hn0 : (n == 0) = false := by simp; omega
  go_enter Try.func22, Try.ntmps22
  go_wp2
  go_ret
  exact ⟨rfl, rfl⟩

theorem reset_ok (b : Nat) (n at_ : Int) (w : World) (hb : WheelAt w b n at_) (h : 1 ≤ n) :
    Calls Try.prog 21 #[.pointer (some ⟨b, 0, none⟩)] w fun e w' => e = .returned (.int .i64 0) ∧ WheelAt w' b n 0 ∧ Only (· = b) w w' := by
  have c0 : w.cell? ⟨b, 0, none⟩ = some (.int .i64 n) := hb.cell 0
  have c1 : w.cell? ⟨b, 1, none⟩ = some (.int .i64 at_) := hb.cell 1
  have f1 : w.frozen? ⟨b, 1, none⟩ = false := hb.frozen 1
  have HB := Lib.hid hb
  clear hb
  have hn0 : (n == 0) = false := by simp; omega
  go_enter Try.func21, Try.ntmps21
  go_wp2
  go_ret
  exact ⟨rfl, HB.out.set _, (Only.refl (· = b) w).set (p := ⟨b, 1, none⟩) (.inl rfl) _⟩

/-- what m turns of a wheel tell -/
def turnsI (n at_ : Int) (m : Nat) : List Int := (List.range m).map fun i : Nat => (at_ + i) % n
theorem turnsI_succ (n at_ : Int) (m : Nat) : ints (turnsI n at_ (m + 1)) = ints (turnsI n at_ m) ++ [.int .i64 ((at_ + m) % n)] := by
  simp [turnsI, ints, List.range_succ]

set_option maxHeartbeats 400000 in
theorem turns_ok (b : Nat) (n at_ : Int) (m : Nat) (w : World) (hb : WheelAt w b n at_) (h : 1 ≤ n) (h2 : n ≤ 64) (h3 : 0 ≤ at_) (h4 : at_ < n) (hm : m ≤ 65536) :
    Calls Try.prog 17 #[.pointer (some ⟨b, 0, none⟩), .int .i64 (m : Int)] w fun e w' =>
      ∃ v, e = .returned v ∧ w'.ownsRow w.heap.size 3 1 v m (ints (turnsI n at_ m)) ∧ WheelAt w' b n ((at_ + m) % n) ∧ Only (· = b) w w' := by
  have hbl := hb.lt
  have HB := Lib.hid hb
  clear hb
  go_enter Try.func17, Try.ntmps17
  go_wp2_with fail
  go_loopw [5, 6] (fun v i wr => ∃ k : Nat, k ≤ m ∧ i = .int .i64 k ∧ wr.ownsRow w.heap.size 3 1 v k (ints (turnsI n at_ k)) ∧ WheelAt wr b n ((at_ + k) % n) ∧ Only (· = b) w wr) (fun _ i _ => m - (intOf i).toNat)
  case atStart => exact ⟨0, by omega, rfl, World.ownsRow_nil _ _ _ _, by simpa [Int.emod_eq_of_lt h3 h4] using HB.out, Only.refl _ _⟩
  case round =>
    obtain ⟨k, hk, rfl, hown, hwh, honly⟩ := hrel
    have hsz := honly.size
    have HO := Lib.hid hown
    have HW := Lib.hid hwh
    have HN := Lib.hid honly
    clear hown hwh honly
    by_cases hlt : k < m
    · have p0 := Int.emod_nonneg (at_ + k) (show n ≠ 0 by omega)
      have p1 := Int.emod_lt_of_pos (at_ + k) (show 0 < n by omega)
      go_wp2_with fail
      refine (turn_ok b n _ _ HW.out h h2 p0 p1).mono ?_
      rintro e w1 ⟨rfl, hW1, hO1⟩
      have hown1 := own_only HO.out hO1 (fun g hg => by have := (HO.out.lt g hg).1; omega)
      have hN1 := HN.out.trans hO1 (fun i _ h => h)
      have hsz1 := hN1.size
      have hv := Lib.hid (And.intro hown1 (And.intro hW1 hN1))
      clear hown1 hW1 hN1 hO1
      go_wp2_with (at_builtin; go_loud (refine wpl_app1 rfl _ _ _ rfl w.heap.size 3 _ 1 8 Try.underlying28 intInfo rfl (by omega) (by omega) _ k _ [.int .i64 ((at_ + k) % n)] rfl hv.out.1 rfl rfl (by simp [Value.oneCell']) (by omega) (by omega) ?_); intro v' w' hown' hg' hs')
      have hgW := Blk.grown hv.out.2.1 hg' (fun e => by
        have := (hv.out.1.lt b e.symm).1; omega)
      have hgN := hv.out.2.2.grown hg' (fun g hg => .inr (hv.out.1.lt g hg).1)
      have hz := Lib.hid (And.intro hown' (And.intro hgW hgN))
      clear hown' hgW hgN hg' hs' hv
      go_wp2_with fail
      go_roundw
      case rel =>
        refine ⟨k + 1, by omega, by go_num, ?_, ?_, hz.out.2.2⟩
        · rw [turnsI_succ]; exact hz.out.1
        · have := hz.out.2.1
          have e : ((at_ + k) % n + 1) % n = (at_ + ((k + 1 : Nat) : Int)) % n := by
            rw [Int.emod_add_emod]; congr 1; omega
          rw [← e]; exact this
      case measure => simp [intOf]; omega
    · have : k = m := by omega
      subst this
      go_wp2_with fail
      go_ret
      exact ⟨_, rfl, HO.out, HW.out, HN.out⟩

end Go.Proofs.Ytlfpkepgamnidaa
