/- What the helpers on bytes answer: SameBytes, slices.Clone on bytes, OverBytes. Conditions: those in each theorem. -/
import Derived.Test.YtldkcfhigcmoaaaDoorRowB
import Derived.Test.YtldkcfhigcmoaaaDoorRows
import Derived.Handy
namespace Go.Proofs.YtldkcfhigcmoaaaDoor
open Go.RowKit Go.As
set_option linter.unusedVariables false

theorem byteInfo : (Tryd.prog.info? 5).map (fun i => (i.zero, i.size, i.bytes)) = some (some (.int .u8 0), 1, 1) := by kernel_rfl

theorem sameBytes_any (A B : Option Addr) (n m c d : Nat) (l r : List UInt8) (w : World) (ha : Sl w 1 A n (byt l)) (hb : Sl w 1 B m (byt r)) :
    Calls Tryd.prog 19 #[.slice A n c, .slice B m d] w fun e w' => e = .returned (.bool (decide (l = r))) ∧ w = w' := by
  have h1 := run_strB (P := Tryd.prog) 23 9 5 A n c l ha Tryd.underlying23 Tryd.underlying5 Tryd.underlying9
  have h2 := run_strB (P := Tryd.prog) 23 9 5 B m d r hb Tryd.underlying23 Tryd.underlying5 Tryd.underlying9
  clear ha hb
  go_enter Tryd.func19, Tryd.ntmps19
  go_wp2
  go_ret
  refine ⟨ret_bool ?_, rfl⟩
  by_cases h : l = r
  · simp [h]
  · simp [h]

theorem bits_xor_u8 (a b : UInt8) : bits .xor .u8 (a.toNat : Int) (b.toNat : Int) = ((a ^^^ b).toNat : Int) := by
  have ha := a.toNat_lt
  have hb := b.toNat_lt
  have hx : a.toNat ^^^ b.toNat < 2 ^ 8 := Nat.xor_lt_two_pow (by omega) (by omega)
  have h1 : (BitVec.ofInt 8 (a.toNat : Int)).toNat = a.toNat := by
    rw [BitVec.ofInt_natCast, BitVec.toNat_ofNat]; exact Nat.mod_eq_of_lt (by omega)
  have h2 : (BitVec.ofInt 8 (b.toNat : Int)).toNat = b.toNat := by
    rw [BitVec.ofInt_natCast, BitVec.toNat_ofNat]; exact Nat.mod_eq_of_lt (by omega)
  show IntKind.u8.wrap ((BitVec.ofInt 8 (a.toNat : Int) ^^^ BitVec.ofInt 8 (b.toNat : Int)).toNat : Int) = _
  rw [BitVec.toNat_xor, h1, h2, IntKind.wrap_u8, UInt8.toNat_xor]
  omega
theorem byt_set (l : List UInt8) (k : Nat) (b : UInt8) : (byt l).toArray.setIfInBounds k (.int .u8 b.toNat) = (byt (l.set k b)).toArray := by
  simp [byt]

set_option maxHeartbeats 400000 in
theorem overB_own (base : Nat) (v : Value) (l rm : List UInt8) (w : World) (h : RowB w base 5 v l rm) :
    Calls Tryd.prog 76 #[v] w fun e w' => e = .returned (.tuple #[]) ∧ Only (fun k => v.ownBlock = some k) w w' := by
  rcases h with ⟨rfl, rfl, rfl⟩ | ⟨g, rfl, hb, hg, hm⟩
  · go_enter Tryd.func76, Tryd.ntmps76
    go_wp2_with fail
    go_loopw [3] (fun i wr => i = .int .i64 0 ∧ wr = w) (fun i _ => 0)
    case atStart => exact ⟨rfl, rfl⟩
    case round =>
      obtain ⟨rfl, rfl⟩ := hrel
      go_wp2_with fail
      go_end0
      exact ⟨rfl, Only.refl _ _⟩
  · generalize hcap : l.length + rm.length = cap at hm ⊢
    have HC := Lib.hid hcap
    have hle : l.length ≤ cap := by omega
    clear hcap
    have HG := Lib.hid hg
    have hrun := fun W => run_slice_hi (P := Tryd.prog) 23 5 _ 1 1 Tryd.underlying23 byteInfo (some ⟨g, 0, none⟩) l.length cap .i64 cap (by omega) (by omega) W
    have hmm : cap ≤ 9223372036854775807 := by simp only [maxLen] at hm; omega
    clear hg hm
    go_enter Tryd.func76, Tryd.ntmps76
    go_wp2_with fail
    go_loopw [3] (fun i wr => ∃ (k : Nat) (bs : List UInt8), k ≤ cap ∧ i = .int .i64 k ∧ bs.length = cap ∧ Blk wr g 5 (byt bs).toArray ∧ Only (· = g) w wr) (fun i _ => cap - (intOf i).toNat)
    case atStart => exact ⟨0, l ++ rm, by omega, rfl, by rw [← HC.out]; simp, HG.out, Only.refl _ _⟩
    case round =>
      obtain ⟨k, bs, hk, rfl, hlen, hblk, honly⟩ := hrel
      have HB := Lib.hid (And.intro hblk honly)
      clear hblk honly
      by_cases hlt : k < cap
      · obtain ⟨b, hbk⟩ : ∃ b, bs[k]? = some b := ⟨_, List.getElem?_eq_getElem (by omega)⟩
        have hc : wr.cell? ⟨g, k, none⟩ = some (.int .u8 b.toNat) := by
          rw [HB.out.1.cell]; simp [byt, hbk]
        have hf := HB.out.1.frozen k
        have hst := fun c => HB.out.1.set_ k (.int .u8 c)
        have HS := Lib.hid hst
        clear hst hbk
        go_wp2_with fail
        rw [show (90 : Int) = ((90 : UInt8).toNat : Int) from rfl, bits_xor_u8]
        go_roundw
        case rel =>
          have h := HS.out (b ^^^ 90).toNat
          rw [byt_set] at h
          exact ⟨k + 1, _, by omega, by go_num, by rw [List.length_set]; exact hlen, h, HB.out.2.set (p := ⟨g, k, none⟩) (.inl rfl) _⟩
        case measure => simp [intOf]; omega
      · go_wp2_with fail
        go_end0
        exact ⟨rfl, HB.out.2.mono (fun i _ h => by simp [Value.ownBlock, h])⟩
end Go.Proofs.YtldkcfhigcmoaaaDoor
