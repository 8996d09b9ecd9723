/- What Hex answers, the program's and the document's. Conditions: those in each theorem. -/
import Derived.Test.YtldkcfhigcmoaaaDoorOctB
import Derived.Test.YtldkcfhigcmoaaaDoorGuard
namespace Go.Proofs.YtldkcfhigcmoaaaDoor
open Go.RowKit Go.As
set_option linter.unusedVariables false

def digs : List UInt8 := [48, 49, 50, 51, 52, 53, 54, 55, 56, 57, 97, 98, 99, 100, 101, 102]
theorem digs_at (j : Nat) (hj : j < 16) : digs[j]'(by simpa [digs] using hj) = hexC j := by
  have key : ∀ j : Fin 16, digs[j.val]'(by simp [digs]) = hexC j.val := by decide
  exact key ⟨j, hj⟩
theorem run_dig (kd : IntKind) (i : Int) (j : Nat) (hij : i = j) (hj : j < 16) (W : World) : (Instr.index 9 (.string (str [48, 49, 50, 51, 52, 53, 54, 55, 56, 57, 97, 98, 99, 100, 101, 102])) (.int kd i)).run Tryd.prog W = .ok (.int .u8 ((hexC j).toNat : Nat)) W := by
  subst hij
  show (Instr.index 9 (.string (str digs)) (.int kd j)).run Tryd.prog W = _
  rw [run_index_string W 9 (str digs) kd _ Tryd.underlying9, dif_pos ⟨by omega, by rw [str_size]; simp [digs]; omega⟩]
  simp only [Int.toNat_natCast, str_get]
  rw [digs_at j hj]
theorem bits_and15 (x : UInt8) : bits .and .u8 (x.toNat : Int) 15 = (x.toNat : Int) % 16 := by
  have h1 : (BitVec.ofInt 8 (x.toNat : Int)).toNat = x.toNat := by
    rw [BitVec.ofInt_natCast, BitVec.toNat_ofNat]; exact Nat.mod_eq_of_lt x.toNat_lt
  have h2 : (BitVec.ofInt 8 15).toNat = 15 := by decide
  show IntKind.u8.wrap ((BitVec.ofInt 8 (x.toNat : Int) &&& BitVec.ofInt 8 15).toNat : Int) = _
  rw [BitVec.toNat_and, h1, h2, show (15 : Nat) = 2 ^ 4 - 1 from rfl, Nat.and_two_pow_sub_one_eq_mod, IntKind.wrap_u8]
  omega
theorem hexL_succ {l : List UInt8} {k : Nat} {x : UInt8} (h : l[k]? = some x) : hexL (l.take (k + 1)) = hexL (l.take k) ++ hex2 x := by
  rw [List.take_add_one, h]; simp [hexL]
theorem hexL_len (l : List UInt8) : (hexL l).length = 2 * l.length := by
  induction l with
  | nil => rfl
  | cons b r ih => simp only [hexL, List.flatMap_cons, List.length_append] at ih ⊢; rw [ih]; simp [hex2]; omega

set_option maxRecDepth 100000 in
set_option maxHeartbeats 1600000 in
theorem ohex_any (A : Option Addr) (n c : Nat) (l : List UInt8) (w : World) (ha : Sl w 1 A n (byt l)) (hn : n ≤ 1048576) :
    Calls Tryd.prog 31 #[.slice A n c] w fun e w' => e = .returned (.string (str (hexL l))) ∧ Below w.heap.size w w' := by
  have hl : l.length = n := by have := ha.len1; simpa [byt] using this
  have HA := Lib.hid ha
  clear ha
  go_enter Tryd.func31, Tryd.ntmps31
  go_wp2_with fail
  go_loopw [3, 5, 8] (fun ov _ i wr => ∃ (k : Nat) (rm : List UInt8) (v : Value), k ≤ n ∧ i = .int .i64 k ∧ ov = v ∧ RowB wr w.heap.size 5 v (hexL (l.take k)) rm ∧ Below w.heap.size w wr) (fun _ _ i _ => n - (intOf i).toNat)
  case atStart => exact ⟨0, [], _, by omega, rfl, rfl, by simpa [hexL] using RowB.nil _ _ _, Below.refl _ _⟩
  case round =>
    obtain ⟨k, rm, v, hk, rfl, hv, hrow, hbel⟩ := hrel
    have hv' := hv.symm
    subst hv'
    have hsz := hbel.size
    have HR := Lib.hid (And.intro hrow hbel)
    clear hrow hbel
    by_cases hlt : k < n
    · obtain ⟨ad, u, hA, -, hu, hc⟩ := (HA.out.below HR.out.2).at1 hlt
      subst hA
      obtain ⟨x, hx, rfl⟩ := byt_get hu
      have HX := Lib.hid hx
      clear hu hx
      have hi1 := run_dig .u8 ((x.toNat : Int) / 16) (x.toNat / 16) (by omega) (by have := x.toNat_lt; omega)
      have hi2 := run_dig .u8 ((x.toNat : Int) % 16) (x.toNat % 16) (by omega) (by omega)
      have hba := bits_and15 x
      have hol : (hexL (l.take k)).length ≤ 2097152 := by rw [hexL_len, List.length_take]; omega
      obtain ⟨H1, hH1⟩ : ∃ H1, H1 = hexC (x.toNat / 16) := ⟨_, rfl⟩
      obtain ⟨H2, hH2⟩ : ∃ H2, H2 = hexC (x.toNat % 16) := ⟨_, rfl⟩
      rw [← hH1] at hi1
      rw [← hH2] at hi2
      have HH := Lib.hid (show hex2 x = [H1, H2] by rw [hH1, hH2]; rfl)
      clear hH1 hH2
      go_wp2_with fail
      refine wp_region_plan (.take 0 <| .take 1 <| .take 2 <| .take 3 <| .take 4 <| .take 5 <| .take 6 <| .run 7 <| .run 8 <| .take 9 <| .done) (by kernel_rfl) (by kernel_rfl) (by kernel_rfl) (by kernel_rfl) ?_
      go_wp2_with (first
        | (refine plan_appBn rfl rfl _ _ _ rfl w.heap.size 5 Tryd.underlying23 byteInfo v (hexL (l.take k)) rm (show RowB wr.drew _ _ _ _ _ from HR.out.1) rfl [H1, H2] _ rfl rfl (by simp only [List.length_cons, List.length_nil]; omega) hsz ?_
           intro v5 rm5 w5 hown5 hg5 hs5
           have H5 := Lib.hid (And.intro hown5 ((HR.out.2.drew).grown hg5 hsz (fun j hj => (HR.out.1.lt j hj).1)))
           clear hown5 hg5 hs5)
        | ((with_reducible refine wpPlan_isTake ?_); refine wpPlan_take (v := ?_) rfl ?_ (fun w => ?_) ?_; rotate_left 1; (focus rfl); (focus (first | (go_simp; done) | (go_simp; with_reducible rfl))); simp only [Act.put, List.setIfInBounds_toArray, List.set_cons_zero, List.set_cons_succ]) | ((with_reducible refine wpPlan_isTake ?_); refine wpPlan_skip rfl ?_ ?_; (focus rfl); simp only [Act.put, List.setIfInBounds_toArray, List.set_cons_zero, List.set_cons_succ]) | ((with_reducible refine wpPlan_isRun ?_); refine wpPlan_run rfl (fun K hK => ?_); go_simp) | ((with_reducible refine wpPlan_alt ?_ ?_)) | ((with_reducible refine wpPlan_done ?_)))
      have hfin : RowB w5 w.heap.size 5 v5 (hexL (l.take (k + 1))) rm5 := by rw [hexL_succ HX.out, HH.out]; exact H5.out.1
      have HF := Lib.hid hfin
      clear hfin
      go_roundw
      case rel => exact ⟨v5, _, .int .i64 ((k : Int) + 1), _, _, _, _, _, _, _, _, _, _, _, _, _, ⟨k + 1, rm5, v5, by omega, by go_num, rfl, HF.out, H5.out.2⟩, rfl⟩
      case measure => simp [intOf]; omega
    · have hfull : l.take k = l := List.take_of_length_le (by omega)
      have hr := HR.out.1
      rw [hfull] at hr
      obtain ⟨va, vn, vc, rfl, hvn, -, -⟩ := hr.form2
      have hrun := run_strB (P := Tryd.prog) 23 9 5 va vn vc (hexL l) (by rw [hvn]; exact hr.sl) Tryd.underlying23 Tryd.underlying5 Tryd.underlying9
      clear hr hfull hvn
      go_wp2_with fail
      go_ret
      exact ⟨rfl, HR.out.2⟩
end Go.Proofs.YtldkcfhigcmoaaaDoor
