/- FormatUint to the base sixteen: the library's walk. Conditions: those in each theorem. -/
import Derived.Test.YtoonkajdmhmdpaaDoorRealX
import Derived.Laws.IdiomStrings
import Derived.Laws.Bits64b
namespace Go.Proofs.YtoonkajdmhmdpaaDoor
open Go.RowKit Go.As
set_option linter.unusedVariables false

theorem pow2_16 (w : World) : Calls Tryd.prog 80 #[.int .i64 16] w fun e w' => e = .returned (.bool true) ∧ w = w' := by
  have k1 : bits .and .i64 16 15 = 0 := by decide
  go_enter Tryd.func80, Tryd.ntmps80
  go_wp2
  go_ret
  exact ⟨rfl, rfl⟩
theorem byt_set (l : List UInt8) (k : Nat) (b : UInt8) : (byt l).toArray.setIfInBounds k (.int .u8 b.toNat) = (byt (l.set k b)).toArray := by
  simp [byt, List.map_set]
def digs36 : List UInt8 := [48, 49, 50, 51, 52, 53, 54, 55, 56, 57, 97, 98, 99, 100, 101, 102, 103, 104, 105, 106, 107, 108, 109, 110, 111, 112, 113, 114, 115, 116, 117, 118, 119, 120, 121, 122]
theorem and15 (u : Nat) (hu : u < 18446744073709551616) : bits .and .u64 (u : Int) 15 = ((u % 16 : Nat) : Int) := by
  have := bits_and_u64_nat u 15 hu (by omega)
  rw [show ((15 : Nat) : Int) = 15 from rfl] at this
  rw [this, show (15 : Nat) = 2 ^ 4 - 1 by rfl, Nat.and_two_pow_sub_one_eq_mod]
theorem hex_at (d : Nat) (h : d < 16) : digs36[d]'(by unfold digs36; simp; omega) = hexCh d := by
  have : d = 0 ∨ d = 1 ∨ d = 2 ∨ d = 3 ∨ d = 4 ∨ d = 5 ∨ d = 6 ∨ d = 7 ∨ d = 8 ∨ d = 9 ∨ d = 10 ∨ d = 11 ∨ d = 12 ∨ d = 13 ∨ d = 14 ∨ d = 15 := by omega
  rcases this with rfl | rfl | rfl | rfl | rfl | rfl | rfl | rfl | rfl | rfl | rfl | rfl | rfl | rfl | rfl | rfl <;> rfl
theorem hex_idx (d : Nat) (h : d < 16) (W : World) : (Instr.index 9 (.string (str [48, 49, 50, 51, 52, 53, 54, 55, 56, 57, 97, 98, 99, 100, 101, 102, 103, 104, 105, 106, 107, 108, 109, 110, 111, 112, 113, 114, 115, 116, 117, 118, 119, 120, 121, 122])) (.int .u64 (d : Int))).run Tryd.prog W = .ok (.int .u8 ((hexCh d).toNat : Nat)) W := by
  show (Instr.index 9 (.string (str digs36)) (.int .u64 (d : Int))).run Tryd.prog W = _
  have hl : digs36.length = 36 := rfl
  rw [run_index_string W 9 (str digs36) .u64 _ Tryd.underlying9, dif_pos ⟨by omega, by rw [str_size]; omega⟩]
  simp only [Int.toNat_natCast, str_get]
  rw [hex_at d h]
theorem slice65 (g i : Nat) (hi : i < 65) (W : World) : (Instr.sliceAt 94 (.pointer (some ⟨g, 0, none⟩)) (some (.int .i64 (i : Int))) none none).run Tryd.prog W = .ok (.slice (some ⟨g, i, none⟩) (65 - i) (65 - i)) W := by
  have hlen : Tryd.prog.arrayLen 94 = 65 := by kernel_rfl
  have hu : Tryd.prog.underlying 94 = some (.array (Tryd.prog.arrayLen 94) (Tryd.prog.elem 94)) := by kernel_rfl
  have hsz : (sizeOf (Tryd.prog.elem 94)).run Tryd.prog W = .ok 1 W := by kernel_rfl
  rw [run_sliceAt_array_l (P := Tryd.prog) W 94 ⟨g, 0, none⟩ hu .i64 (i : Int) (by omega) (by rw [hlen]; omega), hsz]
  show Result.ok (slicedAt ⟨g, 0, none⟩ ((i : Int)).toNat (Tryd.prog.arrayLen 94) (Tryd.prog.arrayLen 94) 1) W = _
  rw [hlen, Int.toNat_natCast]
  unfold slicedAt
  have ha : (Addr.mk g 0 none).add i = ⟨g, i, none⟩ := by
    unfold Addr.add
    split
    · rename_i h0; rw [h0]
    · rw [Nat.zero_add]
  rw [if_neg (by omega), Nat.mul_one, ha]
set_option maxRecDepth 100000 in
theorem fmtBits16 (u : Nat) (hu : u < 18446744073709551616) (w : World) (hb : TabB w) :
    Calls Tryd.prog 64 #[.slice none 0 0, .int .u64 (u : Int), .int .i64 16, .bool false, .bool false] w fun e w' => e = .returned (.tuple #[.slice none 0 0, .string (str (hexd (nHex u) u))]) ∧ Below w.heap.size w w' := by
  have HT := Lib.hid hb
  clear hb
  go_enter Tryd.func64, Tryd.ntmps64
  go_upto_region 4 with fail
  obtain ⟨g, hg⟩ : ∃ g, g = w.heap.size := ⟨_, rfl⟩
  have hz : Tryd.zeroCells94 = (byt (List.replicate 65 0)).toArray := by kernel_rfl
  have hblk0 := Blk.new w 94 Tryd.zeroCells94
  have hbel0 := (Below.refl w.heap.size w).alloc (Nat.le_refl _) (.cells Tryd.zeroCells94 94)
  obtain ⟨w1, hw1⟩ : ∃ w1, w1 = w.alloc (.cells Tryd.zeroCells94 94) := ⟨_, rfl⟩
  rw [← hw1] at hblk0 hbel0 ⊢
  rw [hz, ← hg] at hblk0
  rw [← hg]
  have HB0 := Lib.hid (And.intro hblk0 hbel0)
  have HG := Lib.hid hg
  have HTW := Lib.hid (HT.out.below hbel0)
  clear hblk0 hbel0 hw1 hz hg
  go_wp2_with (first
    | (go_at_call 80; refine (pow2_16 _).mono ?_; rintro e w' ⟨rfl, rfl⟩)
    | (go_at_call 81; refine (tz16 _ HTW.out).mono ?_; rintro e w' ⟨rfl, rfl⟩))
  go_loopw [1, 13] (fun uv iv wr => ∃ (j : Nat) (pre : List UInt8), j ≤ 16 ∧ uv = .int .u64 ((u / 16 ^ j : Nat) : Int) ∧ iv = .int .i64 (65 - (j : Int)) ∧ pre.length = 65 - j ∧ j + 1 ≤ nHex u ∧ Blk wr g 94 (byt (pre ++ hexd j u)).toArray ∧ Below w.heap.size w wr) (fun _ iv _ => (intOf iv).toNat)
  case atStart => exact ⟨0, List.replicate 65 0, by omega, by simp, rfl, by simp, nHex_pos u, by rw [hexd, List.append_nil]; exact HB0.out.1, HB0.out.2⟩
  case round =>
    obtain ⟨j, pre, hj, rfl, rfl, hpl, hjn, hblk, hbel⟩ := hrel
    obtain ⟨q, hq⟩ : ∃ q, q = u / 16 ^ j := ⟨_, rfl⟩
    rw [← hq]
    have hqu : q < 18446744073709551616 := by rw [hq]; exact Nat.lt_of_le_of_lt (Nat.div_le_self _ _) hu
    have hn16 : nHex u ≤ 15 + 1 := nHex_le hu
    have hmore := nHex_more u j
    rw [← hq] at hmore
    obtain ⟨p, x, hpx⟩ : ∃ p x, pre = p ++ [x] := ⟨pre.dropLast, pre.getLast (by intro e; rw [e] at hpl; simp at hpl; omega), (List.dropLast_concat_getLast _).symm⟩
    have hpl2 : p.length = 64 - j := by rw [hpx, List.length_append] at hpl; simp at hpl; omega
    obtain ⟨i, hi⟩ : ∃ i, i = 64 - j := ⟨_, rfl⟩
    have hc : wr.cell? ⟨g, i, none⟩ = some (.int .u8 (x.toNat : Nat)) := by
      rw [hblk.cell, hpx]
      simp [byt, hi, ← hpl2]
    have hf := hblk.frozen i
    have hw1 : IntKind.i64.wrap (65 - (j : Int) - 1) = (i : Int) := by rw [IntKind.wrap_i64]; omega
    have hi65 : (i : Int) < 65 := by omega
    have hi65' : i < 65 := by omega
    have hst := fun c : UInt8 => hblk.set_ i (.int .u8 c.toNat)
    have hset : ∀ c : UInt8, Blk (wr.setCell ⟨g, i, none⟩ (.int .u8 c.toNat)) g 94 (byt (p ++ c :: hexd j u)).toArray := fun c => by
      have := hst c
      rw [byt_set, hpx, List.append_assoc, List.set_append_right _ _ (by omega), show i - p.length = 0 by omega] at this
      exact this
    have hbs : ∀ c : UInt8, Below w.heap.size w (wr.setCell ⟨g, i, none⟩ (.int .u8 c.toNat)) := fun c => hbel.setCell (p := ⟨g, i, none⟩) (by rw [HG.out]; exact Nat.le_refl _) _
    have HS := Lib.hid (And.intro hset hbs)
    have HI := Lib.hid hi
    by_cases hmo : 16 ≤ q
    · have hmi : (16 : Int) ≤ q := by omega
      obtain ⟨d, hd⟩ : ∃ d, d = q % 16 := ⟨_, rfl⟩
      have hd16 : d < 16 := by omega
      have ha : bits .and .u64 (q : Int) 15 = (d : Int) := by rw [hd]; exact and15 q hqu
      have hidx := hex_idx d hd16
      have hsh : (q : Int) / 16 = ((q / 16 : Nat) : Int) := (Int.natCast_ediv q 16).symm
      have hjj : j + 2 ≤ nHex u := by have := hmore.1 hmo; omega
      have HJ := Lib.hid (show j + 1 ≤ 16 ∧ ((u / 16 ^ (j + 1) : Nat) : Int) = ((q / 16 : Nat) : Int) ∧ (65 : Int) - ((j + 1 : Nat) : Int) = (i : Int) ∧ p.length = 65 - (j + 1) ∧ j + 1 + 1 ≤ nHex u ∧ hexd (j + 1) u = hexCh d :: hexd j u from
        ⟨by omega, by rw [Nat.pow_succ, ← Nat.div_div_eq_div_mul, ← hq], by omega, by omega, hjj, by rw [hexd_cons, ← hq, ← hd]⟩)
      obtain ⟨q2, hq2⟩ : ∃ q2, q2 = q / 16 := ⟨_, rfl⟩
      rw [← hq2] at hsh
      have HQ2 := Lib.hid hq2
      clear hq hpl hjn hblk hbel hn16 hmore hpx hpl2 hst hset hbs hmo hd hjj hqu hi hq2
      go_wp2_with fail
      go_roundw
      case rel => exact ⟨j + 1, p, HJ.out.1, by rw [HJ.out.2.1, HQ2.out], by rw [HJ.out.2.2.1], HJ.out.2.2.2.1, HJ.out.2.2.2.2.1, by rw [HJ.out.2.2.2.2.2]; exact HS.out.1 _, HS.out.2 _⟩
      case measure => have := HI.out; simp [intOf]; omega
    · have hmi : ¬ (16 : Int) ≤ q := by omega
      have hq16 : q < 16 := by omega
      have hidx := hex_idx q hq16
      have hjn2 : nHex u = j + 1 := by
        have : ¬ j + 1 < nHex u := fun h => hmo (hmore.2 h)
        omega
      have hfin : hexd (nHex u) u = hexCh q :: hexd j u := by rw [hjn2, hexd_cons, ← hq, Nat.mod_eq_of_lt hq16]
      have HF := Lib.hid (And.intro hfin (show (hexd (nHex u) u).length = j + 1 from by rw [hexd_length]; exact hjn2))
      have hlen : 65 - i = j + 1 := by omega
      clear hq hpl hjn hblk hbel hn16 hmore hpx hst hset hbs hmo hqu hi hjn2 hfin
      go_upto_region 30 with fail
      obtain ⟨w2, hw2⟩ : ∃ w2, w2 = wr.setCell ⟨g, i, none⟩ (.int .u8 (hexCh q).toNat) := ⟨_, rfl⟩
      have hB2 := HS.out.1 (hexCh q)
      have hb2 := HS.out.2 (hexCh q)
      rw [← hw2] at hB2 hb2 ⊢
      obtain ⟨l, hl⟩ : ∃ l, l = hexd (nHex u) u := ⟨_, rfl⟩
      have hl1 : l = hexCh q :: hexd j u := by rw [hl]; exact HF.out.1
      have hl2 : l.length = 65 - i := by rw [hl, HF.out.2, hlen]
      rw [← hl1] at hB2
      have hconv : ∀ cap : Nat, (convert 48 9 (.slice (some ⟨g, i, none⟩) (65 - i) cap)).run Tryd.prog w2 = .ok (.string (str l)) w2 := fun cap => by
        rw [← hl2]
        refine run_convert_bytes_back w2 48 9 5 ⟨g, i, none⟩ cap l Tryd.underlying48 Tryd.underlying5 Tryd.underlying9 (fun k hk => ?_)
        have ha : (Addr.mk g i none).add k = ⟨g, i + k, none⟩ := by
          unfold Addr.add
          split
          · rename_i h0; rw [h0]; rfl
          · rfl
        rw [ha, hB2.cell]
        have hpi : p.length = i := by omega
        simp only [byt, List.getElem?_toArray, List.getElem?_map]
        rw [List.getElem?_append_right (by omega), show i + k - p.length = k by omega, List.getElem?_eq_getElem hk]
        rfl
      have hsl := slice65 g i hi65'
      have HE := Lib.hid (And.intro hl hb2)
      clear hw2 hB2 hb2 hl hl1 hl2 hlen hpl2 hc hf
      go_wp2_with fail
      go_ret2
      rw [HE.out.1]
      exact ⟨rfl, HE.out.2⟩
/-- FormatUint to the base sixteen -/
theorem fmtUint16 (u : Nat) (hu : u < 18446744073709551616) (w : World) (hb : TabB w) :
    Calls Tryd.prog 40 #[.int .u64 (u : Int), .int .i64 16] w fun e w' => e = .returned (.string (str (hexd (nHex u) u))) ∧ Below w.heap.size w w' := by
  have HI := Lib.hid (fmtBits16 u hu w hb)
  have HN := Lib.hid (show Calls Tryd.prog 50 #[.int .u64 (u : Int), .int .i64 16] w fun e w' => e = .returned (.string (str (hexd (nHex u) u))) ∧ Below w.heap.size w w' from by
    go_enter Tryd.func50, Tryd.ntmps50
    go_wp2_with (go_at_call 64; (with_reducible refine HI.out.mono ?_); rintro e w1 ⟨rfl, hbb⟩; have HB := Lib.hid hbb; clear hbb)
    go_ret
    exact ⟨rfl, HB.out⟩)
  go_enter Tryd.func40, Tryd.ntmps40
  go_wp2_with (go_at_call 50; (with_reducible refine HN.out.mono ?_); rintro e w1 ⟨rfl, hbb⟩; have HB := Lib.hid hbb; clear hbb)
  go_ret
  exact ⟨rfl, HB.out⟩
end Go.Proofs.YtoonkajdmhmdpaaDoor
