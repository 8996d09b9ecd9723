/- What whole of lex answers, on digits: the value, or none. No conditions but those in each theorem. -/
import Derived.Test.YtiacalnkmnckjaaLxC
import Derived.Test.YtiacalnkmnckjaaRowS
import Derived.Test.YtiacalnkmnckjaaShelf2
import Derived.Laws.Externs
namespace Go.Proofs.Ytiacalnkmnckjaa
open Go.RowKit Go.As
set_option linter.unusedVariables false
set_option linter.unusedSimpArgs false

theorem below_cells {B : Nat} {a : World} {g : Nat} (hg : B ≤ g) : ∀ (vs : List Value) (o : Nat) {w : World}, Below B a w → Below B a (w.setCells g o vs)
  | [], _, _, h => h
  | v :: r, o, _, h => below_cells hg r (o + 1) (h.setCell (p := ⟨g, o, none⟩) hg v)
theorem hadd (x y : Nat) (W : World) : (callFunc 25 #[.int .u64 (x : Int), .int .u64 (y : Int), .int .u64 0]).run Try.prog W = .ok (.value (.tuple #[.int .u64 (((x + y) % 18446744073709551616 : Nat) : Int), .int .u64 (((x + y) / 18446744073709551616 : Nat) : Int)])) W := by
  rw [run_callFunc_extern (P := Try.prog) Try.func25 (by kernel_rfl) (by kernel_rfl) (e := add64Entry) (by kernel_rfl) (by kernel_rfl)]
  have := run_add64 (P := Try.prog) (x : Int) (y : Int) 0 (by omega) (by omega) (by omega) (by omega) W
  rw [this]
  show Result.ok (Next.value (.tuple #[.int .u64 (((x : Int) + (y : Int) + 0) % 18446744073709551616), .int .u64 (((x : Int) + (y : Int) + 0) / 18446744073709551616)])) W = _
  have e1 : ((x : Int) + (y : Int) + 0) % 18446744073709551616 = (((x + y) % 18446744073709551616 : Nat) : Int) := by omega
  have e2 : ((x : Int) + (y : Int) + 0) / 18446744073709551616 = (((x + y) / 18446744073709551616 : Nat) : Int) := by omega
  rw [e1, e2]
theorem hmul (x : Nat) (hx : x < 18446744073709551616) (W : World) : Calls Try.prog 24 #[.int .u64 (x : Int), .int .u64 10] W fun e w' => e = .returned (.tuple #[.int .u64 ((x * 10 / 18446744073709551616 : Nat) : Int), .int .u64 ((x * 10 % 18446744073709551616 : Nat) : Int)]) ∧ W = w' := by
  refine (Try.bits_Mul64 x 10 hx (by omega) W).mono ?_
  rintro e w' ⟨rfl, rfl⟩
  exact ⟨rfl, rfl⟩
def whOk (s : List UInt8) : Bool := decide (¬ (s.head? = some 48 ∧ 1 < s.length) ∧ decV s < 9223372036854775808)
def whCells (s : List UInt8) : Array Value := if whOk s = true then #[.int .u8 1, .int .u64 (decV s : Nat)] else #[.int .u8 0, .int .u64 0]
theorem wh_bad {s : List UInt8} (h : whOk s = false) : whCells s = #[.int .u8 0, .int .u64 0] := by unfold whCells; rw [h, if_neg (by decide)]
theorem wh_ok {s : List UInt8} (h : whOk s = true) : whCells s = #[.int .u8 1, .int .u64 (decV s : Nat)] := by unfold whCells; rw [h, if_pos rfl]
theorem decV_app (r : List UInt8) : ∀ l : List UInt8, decV l ≤ decV (l ++ r) := by
  induction r with
  | nil => intro l; rw [List.append_nil]; exact Nat.le_refl _
  | cons c r ih =>
    intro l
    have h1 := ih (l ++ [c])
    rw [List.append_assoc, List.singleton_append] at h1
    have h2 := decV_succ l c
    omega
theorem decV_take (s : List UInt8) (k : Nat) : decV (s.take k) ≤ decV s := by
  have := decV_app (s.drop k) (s.take k)
  rw [List.take_append_drop] at this
  exact this
set_option maxRecDepth 100000 in
set_option maxHeartbeats 3200000 in
theorem whole_any (s : List UInt8) (hs : s.length ≤ 1048576) (h0 : 0 < s.length) (hd : s.all digB = true) (w : World) :
    Calls Try.prog 20 #[.string (str s)] w fun e w' => e = .returned (.tuple #[.agg (whCells s), .bool (whOk s)]) ∧ Below w.heap.size w w' := by
  have hidx : ∀ W, (Instr.index 9 (.string (str s)) (.int .i64 0)).run Try.prog W = .ok (.int .u8 ((s[0]).toNat : Nat)) W := fun W => run_idx0 s 0 h0 W
  obtain ⟨c0, hc0⟩ : ∃ c0, c0 = s[0] := ⟨_, rfl⟩
  rw [← hc0] at hidx
  have hhd : s.head? = some c0 := by rw [hc0]; cases s with
    | nil => simp at h0
    | cons x r => rfl
  have HD := Lib.hid hd
  clear hd hc0
  go_enter Try.func20, Try.ntmps20
  go_upto_region 1 with fail
  obtain ⟨g, hg⟩ : ∃ g, g = w.heap.size := ⟨_, rfl⟩
  have hblk0 := Blk.new w 31 (#[.int .u8 0, .int .u64 0] : Array Value)
  have hbel0 := (Below.refl w.heap.size w).alloc (Nat.le_refl _) (.cells (#[.int .u8 0, .int .u64 0] : Array Value) 31)
  obtain ⟨w1, hw1⟩ : ∃ w1, w1 = w.alloc (.cells (#[.int .u8 0, .int .u64 0] : Array Value) 31) := ⟨_, rfl⟩
  rw [← hw1] at hblk0 hbel0 ⊢
  rw [← hg] at hblk0
  rw [← hg]
  have HB := Lib.hid hbel0
  have HBK := Lib.hid hblk0
  have HG := Lib.hid hg
  clear hblk0 hbel0 hw1 hg
  by_cases h48 : c0 = 48 ∧ 1 < s.length
  · have HBAD := Lib.hid (show whOk s = false from by unfold whOk; exact decide_eq_false (fun h => h.1 ⟨by rw [hhd, h48.1], h48.2⟩))
    have b1 : ((c0.toNat : Int) == 48) = true := by rw [h48.1]; rfl
    have b2 : (1 : Int) < s.length := by omega
    have b3 := h48.2
    clear h48 hhd
    go_upto_region 2 with fail
    refine wp_region_lit ?_
    refine wpList_val (.agg #[.int .u8 0, .int .u64 0]) rfl (by kernel_rfl) ?_
    refine wpList_store_mid rfl 31 (.tmp 2) (.tmp 19) rfl g 0 #[.int .u8 0, .int .u64 0] rfl rfl (HBK.out.there (by decide)) (by kernel_rfl) (by kernel_rfl) ?_
    refine wpList_val (.bool false) rfl (by kernel_rfl) ?_
    refine wpList_nil ?_
    simp only [Exit.then]
    rename_i hK
    refine hK _ _ ?_
    refine wp_ret ?_
    simp (config := { zetaDelta := true }) only [Exit.then]
    refine bodyPost_ret (v := .tuple #[.agg #[.int .u8 0, .int .u64 0], .bool false]) (results_ct g 31 #[.int .u8 0, .int .u64 0] (0, 0) _ rfl rfl rfl (HBK.out.setCells [.int .u8 0, .int .u64 0] rfl) Try.underlying31 rfl (by kernel_rfl)) rfl ?_
    exact ⟨by rw [wh_bad HBAD.out, HBAD.out], below_cells (Nat.le_of_eq HG.out.symm) _ _ HB.out⟩
  · have HNZ := Lib.hid (show ¬ (s.head? = some 48 ∧ 1 < s.length) from fun h => h48 ⟨by rw [hhd] at h; exact Option.some.inj h.1, h.2⟩)
    have b0 : ¬ (c0.toNat = 48 ∧ 1 < s.length) := fun h => h48 ⟨UInt8.toNat.inj (by rw [h.1]; rfl), h.2⟩
    clear h48 hhd
    have kb := fun (w : World) (l : List UInt8) => Lib.run_convert_string_bytes (P := Try.prog) w 9 52 5 (str l) Try.underlying9 Try.underlying52 Try.underlying5
    by_cases c48 : c0.toNat = 48
    · have b1 : ((c0.toNat : Int) == 48) = true := beq_iff_eq.2 (by omega)
      have b2 : ¬ (1 : Int) < s.length := by omega
      have b3 : ¬ 1 < s.length := by omega
      clear b0 c48
      obtain ⟨n, hn⟩ : ∃ n, n = s.length := ⟨_, rfl⟩
      have HN := Lib.hid hn
      clear hn
      go_wp2_with fail
      have hbw := bw_below w1 5 s
      have HS := Lib.hid (bw_slN w1 5 s n HN.out.symm)
      have HB2 := Lib.hid (below_then HB.out hbw)
      have HBK2 := Lib.hid (HBK.out.below hbw HBK.out.lt)
      clear hbw kb
      generalize hk : w1.heap.size = k21 at *
      generalize (Lib.bytesWorld w1 5 (str s)) = W2 at *
      have HB := HB2
      have HBK := HBK2
      have hnl : n ≤ 1048576 := by rw [HN.out]; exact hs
      have HK1 := Lib.hid hk
      clear hk
      go_loopw [4, 23] (fun nv iv wr => ∃ k : Nat, k ≤ n ∧ nv = .int .u64 (decV (s.take k) : Nat) ∧ iv = .int .i64 k ∧ wr = W2 ∧ decV (s.take k) < 9223372036854775808) (fun _ iv _ => n - (intOf iv).toNat)
      case atStart => exact ⟨0, by omega, by simp [decV], rfl, rfl, by simp [decV]⟩
      case round =>
        obtain ⟨k, hk, rfl, rfl, rfl, hV63⟩ := hrel
        have hnD : s.length = n := HN.out.symm
        by_cases hlt : k < n
        · have hkD : k < s.length := by omega
          obtain ⟨x, hx⟩ : ∃ x, s[k]? = some x := ⟨_, List.getElem?_eq_getElem hkD⟩
          obtain ⟨ad, u, hA, -, hu, hca⟩ := HS.out.at1 hlt
          have hu2 : u = .int .u8 (x.toNat : Int) := by
            have := hu
            unfold byt at this
            rw [List.getElem?_map, hx] at this
            exact (Option.some.inj this).symm
          subst hu2
          have hA' := Option.some.inj hA
          subst hA'
          have hca2 : wr.cell? ⟨k21, k, none⟩ = some (.int .u8 (x.toNat : Int)) := by
            have h := hca
            simp only [Addr.add, Nat.zero_add] at h
            split at h
            · rename_i h0
              rw [h0]
              exact h
            · exact h
          have htk : s.take (k + 1) = s.take k ++ [x] := by rw [List.take_add_one, hx]; rfl
          obtain ⟨V, hV⟩ : ∃ V, V = decV (s.take k) := ⟨_, rfl⟩
          rw [← hV] at hV63 ⊢
          have hxd := digB_val (List.all_eq_true.1 HD.out x (List.mem_of_getElem? hx))
          obtain ⟨d, hdd⟩ : ∃ d, d = x.toNat - 48 := ⟨_, rfl⟩
          have hsum : decV (s.take (k + 1)) = 10 * V + d := by rw [htk, decV_succ, ← hV, hdd]
          have hle := decV_take s (k + 1)
          have HMU := Lib.hid (hmul V (by omega))
          obtain ⟨q, hq⟩ : ∃ q, q = V * 10 / 18446744073709551616 := ⟨_, rfl⟩
          obtain ⟨r, hr⟩ : ∃ r, r = V * 10 % 18446744073709551616 := ⟨_, rfl⟩
          rw [← hq, ← hr] at HMU
          have hqr : V * 10 = 18446744073709551616 * q + r := by rw [hq, hr]; omega
          have hrl : r < 18446744073709551616 := by omega
          have had := fun W => hadd r d W
          obtain ⟨c, hc⟩ : ∃ c, c = (r + d) / 18446744073709551616 := ⟨_, rfl⟩
          obtain ⟨t, ht⟩ : ∃ t, t = (r + d) % 18446744073709551616 := ⟨_, rfl⟩
          rw [← hc, ← ht] at had
          have hct : r + d = 18446744073709551616 * c + t := by rw [hc, ht]; omega
          have htl : t < 18446744073709551616 := by omega
          have x48 : IntKind.u8.wrap ((x.toNat : Int) - 48) = (d : Int) := by rw [IntKind.wrap_u8]; omega
          have xd : IntKind.u64.wrap (d : Int) = (d : Int) := by rw [IntKind.wrap_u64]; omega
          have hbad := fun (h : 9223372036854775808 ≤ 10 * V + d) => (show whOk s = false from by unfold whOk; exact decide_eq_false (fun g => by have := g.2; omega))
          have HSU := Lib.hid hsum
          have wk : IntKind.i64.wrap ((k : Int) + 1) = (k : Int) + 1 := by rw [IntKind.wrap_i64]; omega
          have hki : (k : Int) < n := by omega
          by_cases q0 : q = 0
          · have q1 : ((q : Int) == 0) = true := beq_iff_eq.2 (by omega)
            by_cases k0 : c = 0
            · have c1 : ((c : Int) == 0) = true := beq_iff_eq.2 (by omega)
              by_cases t0 : 9223372036854775807 < t
              · have HBAD := Lib.hid (hbad (by omega))
                have t1 : (9223372036854775807 : Int) < t := by omega
                clear hu hA hca hx htk hV hq hr hqr hrl hc ht hct htl hbad hsum hle hdd hxd hnD
                go_upto_region 10 with (go_at_call 24; (with_reducible refine (HMU.out _).mono ?_); rintro e w' ⟨rfl, rfl⟩)
                refine wp_region_lit ?_
                refine wpList_val (.agg #[.int .u8 0, .int .u64 0]) rfl (by kernel_rfl) ?_
                refine wpList_store_mid rfl 31 (.tmp 2) (.tmp 50) rfl g 0 #[.int .u8 0, .int .u64 0] rfl rfl (HBK.out.there (by decide)) (by kernel_rfl) (by kernel_rfl) ?_
                refine wpList_val (.bool false) rfl (by kernel_rfl) ?_
                refine wpList_nil ?_
                simp only [Exit.then]
                rename_i hK
                refine hK _ _ ?_
                refine wp_ret ?_
                simp (config := { zetaDelta := true }) only [Exit.then, Exit.inBlock]
                refine bodyPost_ret (v := .tuple #[.agg #[.int .u8 0, .int .u64 0], .bool false]) (results_ct g 31 #[.int .u8 0, .int .u64 0] (0, 0) _ rfl rfl rfl (HBK.out.setCells [.int .u8 0, .int .u64 0] rfl) Try.underlying31 rfl (by kernel_rfl)) rfl ?_
                exact ⟨by rw [wh_bad HBAD.out, HBAD.out], below_cells (Nat.le_of_eq HG.out.symm) _ _ HB.out⟩
              · have HT := Lib.hid (show (t : Int) = ((decV (s.take (k + 1)) : Nat) : Int) ∧ decV (s.take (k + 1)) < 9223372036854775808 from ⟨by omega, by omega⟩)
                have t1 : ¬ (9223372036854775807 : Int) < t := by omega
                clear hu hA hca hx htk hV hq hr hqr hrl hc ht hct htl hbad hsum hle hdd hxd hnD
                go_wp2_with (go_at_call 24; (with_reducible refine (HMU.out _).mono ?_); rintro e w' ⟨rfl, rfl⟩)
                go_roundw
                case rel => exact ⟨k + 1, by omega, by rw [HT.out.1], by go_num, trivial, HT.out.2⟩
                case measure => simp [intOf]; omega
            · have HBAD := Lib.hid (hbad (by omega))
              have c1 : ((c : Int) == 0) = false := beq_false_of_ne (by omega)
              clear hu hA hca hx htk hV hq hr hqr hrl hc ht hct htl hbad hsum hle hdd hxd hnD
              go_upto_region 10 with (go_at_call 24; (with_reducible refine (HMU.out _).mono ?_); rintro e w' ⟨rfl, rfl⟩)
              refine wp_region_lit ?_
              refine wpList_val (.agg #[.int .u8 0, .int .u64 0]) rfl (by kernel_rfl) ?_
              refine wpList_store_mid rfl 31 (.tmp 2) (.tmp 50) rfl g 0 #[.int .u8 0, .int .u64 0] rfl rfl (HBK.out.there (by decide)) (by kernel_rfl) (by kernel_rfl) ?_
              refine wpList_val (.bool false) rfl (by kernel_rfl) ?_
              refine wpList_nil ?_
              simp only [Exit.then]
              rename_i hK
              refine hK _ _ ?_
              refine wp_ret ?_
              simp (config := { zetaDelta := true }) only [Exit.then, Exit.inBlock]
              refine bodyPost_ret (v := .tuple #[.agg #[.int .u8 0, .int .u64 0], .bool false]) (results_ct g 31 #[.int .u8 0, .int .u64 0] (0, 0) _ rfl rfl rfl (HBK.out.setCells [.int .u8 0, .int .u64 0] rfl) Try.underlying31 rfl (by kernel_rfl)) rfl ?_
              exact ⟨by rw [wh_bad HBAD.out, HBAD.out], below_cells (Nat.le_of_eq HG.out.symm) _ _ HB.out⟩
          · have HBAD := Lib.hid (hbad (by omega))
            have q1 : ((q : Int) == 0) = false := beq_false_of_ne (by omega)
            clear hu hA hca hx htk hV hq hr hqr hrl hc ht hct htl hbad hsum hle hdd hxd hnD
            go_upto_region 10 with (go_at_call 24; (with_reducible refine (HMU.out _).mono ?_); rintro e w' ⟨rfl, rfl⟩)
            refine wp_region_lit ?_
            refine wpList_val (.agg #[.int .u8 0, .int .u64 0]) rfl (by kernel_rfl) ?_
            refine wpList_store_mid rfl 31 (.tmp 2) (.tmp 50) rfl g 0 #[.int .u8 0, .int .u64 0] rfl rfl (HBK.out.there (by decide)) (by kernel_rfl) (by kernel_rfl) ?_
            refine wpList_val (.bool false) rfl (by kernel_rfl) ?_
            refine wpList_nil ?_
            simp only [Exit.then]
            rename_i hK
            refine hK _ _ ?_
            refine wp_ret ?_
            simp (config := { zetaDelta := true }) only [Exit.then, Exit.inBlock]
            refine bodyPost_ret (v := .tuple #[.agg #[.int .u8 0, .int .u64 0], .bool false]) (results_ct g 31 #[.int .u8 0, .int .u64 0] (0, 0) _ rfl rfl rfl (HBK.out.setCells [.int .u8 0, .int .u64 0] rfl) Try.underlying31 rfl (by kernel_rfl)) rfl ?_
            exact ⟨by rw [wh_bad HBAD.out, HBAD.out], below_cells (Nat.le_of_eq HG.out.symm) _ _ HB.out⟩
        · have hki : ¬ (k : Int) < n := by omega
          have hks : ¬ k < s.length := by omega
          have htk : s.take k = s := List.take_of_length_le (by omega)
          rw [htk] at hV63 ⊢
          have HOK := Lib.hid (show whOk s = true from by unfold whOk; exact decide_eq_true ⟨HNZ.out, hV63⟩)
          obtain ⟨V, hV⟩ : ∃ V, V = decV s := ⟨_, rfl⟩
          rw [← hV] at hV63 ⊢
          have HV := Lib.hid hV
          clear htk hnD hV
          go_upto_region 13 with fail
          refine wp_region_lit ?_
          refine wpList_val (.int .u64 (V : Int)) rfl (by kernel_rfl) ?_
          refine wpList_val (.agg #[.int .u8 1, .int .u64 (V : Int)]) rfl (by kernel_rfl) ?_
          refine wpList_store_mid rfl 31 (.tmp 2) (.tmp 54) rfl g 0 #[.int .u8 1, .int .u64 (V : Int)] rfl rfl (HBK.out.there (Nat.le_refl 2)) (by kernel_rfl) (by kernel_rfl) ?_
          refine wpList_val (.bool true) rfl (by kernel_rfl) ?_
          refine wpList_nil ?_
          simp only [Exit.then]
          rename_i hK
          refine hK _ _ ?_
          refine wp_ret ?_
          simp (config := { zetaDelta := true }) only [Exit.then, Exit.inBlock]
          refine bodyPost_ret (v := .tuple #[.agg #[.int .u8 1, .int .u64 (V : Int)], .bool true]) (results_ct g 31 #[.int .u8 1, .int .u64 (V : Int)] (0, 0) _ rfl rfl rfl (HBK.out.setCells [.int .u8 1, .int .u64 (V : Int)] rfl) Try.underlying31 rfl (by kernel_rfl)) rfl ?_
          exact ⟨by rw [wh_ok HOK.out, HOK.out, HV.out], below_cells (Nat.le_of_eq HG.out.symm) _ _ HB.out⟩
    · have b1 : ((c0.toNat : Int) == 48) = false := beq_false_of_ne (by omega)
      clear b0 c48
      obtain ⟨n, hn⟩ : ∃ n, n = s.length := ⟨_, rfl⟩
      have HN := Lib.hid hn
      clear hn
      go_wp2_with fail
      have hbw := bw_below w1 5 s
      have HS := Lib.hid (bw_slN w1 5 s n HN.out.symm)
      have HB2 := Lib.hid (below_then HB.out hbw)
      have HBK2 := Lib.hid (HBK.out.below hbw HBK.out.lt)
      clear hbw kb
      generalize hk : w1.heap.size = k21 at *
      generalize (Lib.bytesWorld w1 5 (str s)) = W2 at *
      have HB := HB2
      have HBK := HBK2
      have hnl : n ≤ 1048576 := by rw [HN.out]; exact hs
      have HK1 := Lib.hid hk
      clear hk
      go_loopw [4, 23] (fun nv iv wr => ∃ k : Nat, k ≤ n ∧ nv = .int .u64 (decV (s.take k) : Nat) ∧ iv = .int .i64 k ∧ wr = W2 ∧ decV (s.take k) < 9223372036854775808) (fun _ iv _ => n - (intOf iv).toNat)
      case atStart => exact ⟨0, by omega, by simp [decV], rfl, rfl, by simp [decV]⟩
      case round =>
        obtain ⟨k, hk, rfl, rfl, rfl, hV63⟩ := hrel
        have hnD : s.length = n := HN.out.symm
        by_cases hlt : k < n
        · have hkD : k < s.length := by omega
          obtain ⟨x, hx⟩ : ∃ x, s[k]? = some x := ⟨_, List.getElem?_eq_getElem hkD⟩
          obtain ⟨ad, u, hA, -, hu, hca⟩ := HS.out.at1 hlt
          have hu2 : u = .int .u8 (x.toNat : Int) := by
            have := hu
            unfold byt at this
            rw [List.getElem?_map, hx] at this
            exact (Option.some.inj this).symm
          subst hu2
          have hA' := Option.some.inj hA
          subst hA'
          have hca2 : wr.cell? ⟨k21, k, none⟩ = some (.int .u8 (x.toNat : Int)) := by
            have h := hca
            simp only [Addr.add, Nat.zero_add] at h
            split at h
            · rename_i h0
              rw [h0]
              exact h
            · exact h
          have htk : s.take (k + 1) = s.take k ++ [x] := by rw [List.take_add_one, hx]; rfl
          obtain ⟨V, hV⟩ : ∃ V, V = decV (s.take k) := ⟨_, rfl⟩
          rw [← hV] at hV63 ⊢
          have hxd := digB_val (List.all_eq_true.1 HD.out x (List.mem_of_getElem? hx))
          obtain ⟨d, hdd⟩ : ∃ d, d = x.toNat - 48 := ⟨_, rfl⟩
          have hsum : decV (s.take (k + 1)) = 10 * V + d := by rw [htk, decV_succ, ← hV, hdd]
          have hle := decV_take s (k + 1)
          have HMU := Lib.hid (hmul V (by omega))
          obtain ⟨q, hq⟩ : ∃ q, q = V * 10 / 18446744073709551616 := ⟨_, rfl⟩
          obtain ⟨r, hr⟩ : ∃ r, r = V * 10 % 18446744073709551616 := ⟨_, rfl⟩
          rw [← hq, ← hr] at HMU
          have hqr : V * 10 = 18446744073709551616 * q + r := by rw [hq, hr]; omega
          have hrl : r < 18446744073709551616 := by omega
          have had := fun W => hadd r d W
          obtain ⟨c, hc⟩ : ∃ c, c = (r + d) / 18446744073709551616 := ⟨_, rfl⟩
          obtain ⟨t, ht⟩ : ∃ t, t = (r + d) % 18446744073709551616 := ⟨_, rfl⟩
          rw [← hc, ← ht] at had
          have hct : r + d = 18446744073709551616 * c + t := by rw [hc, ht]; omega
          have htl : t < 18446744073709551616 := by omega
          have x48 : IntKind.u8.wrap ((x.toNat : Int) - 48) = (d : Int) := by rw [IntKind.wrap_u8]; omega
          have xd : IntKind.u64.wrap (d : Int) = (d : Int) := by rw [IntKind.wrap_u64]; omega
          have hbad := fun (h : 9223372036854775808 ≤ 10 * V + d) => (show whOk s = false from by unfold whOk; exact decide_eq_false (fun g => by have := g.2; omega))
          have HSU := Lib.hid hsum
          have wk : IntKind.i64.wrap ((k : Int) + 1) = (k : Int) + 1 := by rw [IntKind.wrap_i64]; omega
          have hki : (k : Int) < n := by omega
          by_cases q0 : q = 0
          · have q1 : ((q : Int) == 0) = true := beq_iff_eq.2 (by omega)
            by_cases k0 : c = 0
            · have c1 : ((c : Int) == 0) = true := beq_iff_eq.2 (by omega)
              by_cases t0 : 9223372036854775807 < t
              · have HBAD := Lib.hid (hbad (by omega))
                have t1 : (9223372036854775807 : Int) < t := by omega
                clear hu hA hca hx htk hV hq hr hqr hrl hc ht hct htl hbad hsum hle hdd hxd hnD
                go_upto_region 10 with (go_at_call 24; (with_reducible refine (HMU.out _).mono ?_); rintro e w' ⟨rfl, rfl⟩)
                refine wp_region_lit ?_
                refine wpList_val (.agg #[.int .u8 0, .int .u64 0]) rfl (by kernel_rfl) ?_
                refine wpList_store_mid rfl 31 (.tmp 2) (.tmp 50) rfl g 0 #[.int .u8 0, .int .u64 0] rfl rfl (HBK.out.there (by decide)) (by kernel_rfl) (by kernel_rfl) ?_
                refine wpList_val (.bool false) rfl (by kernel_rfl) ?_
                refine wpList_nil ?_
                simp only [Exit.then]
                rename_i hK
                refine hK _ _ ?_
                refine wp_ret ?_
                simp (config := { zetaDelta := true }) only [Exit.then, Exit.inBlock]
                refine bodyPost_ret (v := .tuple #[.agg #[.int .u8 0, .int .u64 0], .bool false]) (results_ct g 31 #[.int .u8 0, .int .u64 0] (0, 0) _ rfl rfl rfl (HBK.out.setCells [.int .u8 0, .int .u64 0] rfl) Try.underlying31 rfl (by kernel_rfl)) rfl ?_
                exact ⟨by rw [wh_bad HBAD.out, HBAD.out], below_cells (Nat.le_of_eq HG.out.symm) _ _ HB.out⟩
              · have HT := Lib.hid (show (t : Int) = ((decV (s.take (k + 1)) : Nat) : Int) ∧ decV (s.take (k + 1)) < 9223372036854775808 from ⟨by omega, by omega⟩)
                have t1 : ¬ (9223372036854775807 : Int) < t := by omega
                clear hu hA hca hx htk hV hq hr hqr hrl hc ht hct htl hbad hsum hle hdd hxd hnD
                go_wp2_with (go_at_call 24; (with_reducible refine (HMU.out _).mono ?_); rintro e w' ⟨rfl, rfl⟩)
                go_roundw
                case rel => exact ⟨k + 1, by omega, by rw [HT.out.1], by go_num, trivial, HT.out.2⟩
                case measure => simp [intOf]; omega
            · have HBAD := Lib.hid (hbad (by omega))
              have c1 : ((c : Int) == 0) = false := beq_false_of_ne (by omega)
              clear hu hA hca hx htk hV hq hr hqr hrl hc ht hct htl hbad hsum hle hdd hxd hnD
              go_upto_region 10 with (go_at_call 24; (with_reducible refine (HMU.out _).mono ?_); rintro e w' ⟨rfl, rfl⟩)
              refine wp_region_lit ?_
              refine wpList_val (.agg #[.int .u8 0, .int .u64 0]) rfl (by kernel_rfl) ?_
              refine wpList_store_mid rfl 31 (.tmp 2) (.tmp 50) rfl g 0 #[.int .u8 0, .int .u64 0] rfl rfl (HBK.out.there (by decide)) (by kernel_rfl) (by kernel_rfl) ?_
              refine wpList_val (.bool false) rfl (by kernel_rfl) ?_
              refine wpList_nil ?_
              simp only [Exit.then]
              rename_i hK
              refine hK _ _ ?_
              refine wp_ret ?_
              simp (config := { zetaDelta := true }) only [Exit.then, Exit.inBlock]
              refine bodyPost_ret (v := .tuple #[.agg #[.int .u8 0, .int .u64 0], .bool false]) (results_ct g 31 #[.int .u8 0, .int .u64 0] (0, 0) _ rfl rfl rfl (HBK.out.setCells [.int .u8 0, .int .u64 0] rfl) Try.underlying31 rfl (by kernel_rfl)) rfl ?_
              exact ⟨by rw [wh_bad HBAD.out, HBAD.out], below_cells (Nat.le_of_eq HG.out.symm) _ _ HB.out⟩
          · have HBAD := Lib.hid (hbad (by omega))
            have q1 : ((q : Int) == 0) = false := beq_false_of_ne (by omega)
            clear hu hA hca hx htk hV hq hr hqr hrl hc ht hct htl hbad hsum hle hdd hxd hnD
            go_upto_region 10 with (go_at_call 24; (with_reducible refine (HMU.out _).mono ?_); rintro e w' ⟨rfl, rfl⟩)
            refine wp_region_lit ?_
            refine wpList_val (.agg #[.int .u8 0, .int .u64 0]) rfl (by kernel_rfl) ?_
            refine wpList_store_mid rfl 31 (.tmp 2) (.tmp 50) rfl g 0 #[.int .u8 0, .int .u64 0] rfl rfl (HBK.out.there (by decide)) (by kernel_rfl) (by kernel_rfl) ?_
            refine wpList_val (.bool false) rfl (by kernel_rfl) ?_
            refine wpList_nil ?_
            simp only [Exit.then]
            rename_i hK
            refine hK _ _ ?_
            refine wp_ret ?_
            simp (config := { zetaDelta := true }) only [Exit.then, Exit.inBlock]
            refine bodyPost_ret (v := .tuple #[.agg #[.int .u8 0, .int .u64 0], .bool false]) (results_ct g 31 #[.int .u8 0, .int .u64 0] (0, 0) _ rfl rfl rfl (HBK.out.setCells [.int .u8 0, .int .u64 0] rfl) Try.underlying31 rfl (by kernel_rfl)) rfl ?_
            exact ⟨by rw [wh_bad HBAD.out, HBAD.out], below_cells (Nat.le_of_eq HG.out.symm) _ _ HB.out⟩
        · have hki : ¬ (k : Int) < n := by omega
          have hks : ¬ k < s.length := by omega
          have htk : s.take k = s := List.take_of_length_le (by omega)
          rw [htk] at hV63 ⊢
          have HOK := Lib.hid (show whOk s = true from by unfold whOk; exact decide_eq_true ⟨HNZ.out, hV63⟩)
          obtain ⟨V, hV⟩ : ∃ V, V = decV s := ⟨_, rfl⟩
          rw [← hV] at hV63 ⊢
          have HV := Lib.hid hV
          clear htk hnD hV
          go_upto_region 13 with fail
          refine wp_region_lit ?_
          refine wpList_val (.int .u64 (V : Int)) rfl (by kernel_rfl) ?_
          refine wpList_val (.agg #[.int .u8 1, .int .u64 (V : Int)]) rfl (by kernel_rfl) ?_
          refine wpList_store_mid rfl 31 (.tmp 2) (.tmp 54) rfl g 0 #[.int .u8 1, .int .u64 (V : Int)] rfl rfl (HBK.out.there (Nat.le_refl 2)) (by kernel_rfl) (by kernel_rfl) ?_
          refine wpList_val (.bool true) rfl (by kernel_rfl) ?_
          refine wpList_nil ?_
          simp only [Exit.then]
          rename_i hK
          refine hK _ _ ?_
          refine wp_ret ?_
          simp (config := { zetaDelta := true }) only [Exit.then, Exit.inBlock]
          refine bodyPost_ret (v := .tuple #[.agg #[.int .u8 1, .int .u64 (V : Int)], .bool true]) (results_ct g 31 #[.int .u8 1, .int .u64 (V : Int)] (0, 0) _ rfl rfl rfl (HBK.out.setCells [.int .u8 1, .int .u64 (V : Int)] rfl) Try.underlying31 rfl (by kernel_rfl)) rfl ?_
          exact ⟨by rw [wh_ok HOK.out, HOK.out, HV.out], below_cells (Nat.le_of_eq HG.out.symm) _ _ HB.out⟩
end Go.Proofs.Ytiacalnkmnckjaa
