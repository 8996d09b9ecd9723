/- What Parse's parts answer, the program's: the kind of a word, a number of a line. Conditions: those in each theorem. -/
import Derived.Test.YtldkcfhigcmoaaaDoorProtoM
import Derived.Test.YtldkcfhigcmoaaaDoorOctB
namespace Go.Proofs.YtldkcfhigcmoaaaDoor
open Go.RowKit Go.As
set_option linter.unusedVariables false

/-- a request's words, and how many words its line has -/
def kdE (x : List UInt8) : Int × Int :=
  if x = [65, 85, 84, 72] then (1, 2) else if x = [83, 85, 66, 77, 73, 84] then (2, 4) else if x = [83, 84, 65, 84, 85, 83] then (3, 2) else if x = [76, 73, 83, 84] then (4, 1) else if x = [67, 65, 78, 67, 69, 76] then (5, 2)
  else if x = [87, 65, 84, 67, 72] then (6, 2) else if x = [82, 69, 80, 76, 65, 89] then (7, 2) else if x = [81, 85, 73, 84] then (8, 1) else if x = [67, 79, 77, 80, 65, 67, 84] then (9, 1) else (0, 0)

set_option maxRecDepth 100000 in
set_option maxHeartbeats 1600000 in
theorem okinds_any (x : List UInt8) (w : World) :
    Calls Tryd.prog 69 #[.string (str x)] w fun e w' => e = .returned (.tuple #[.int .i64 (kdE x).1, .int .i64 (kdE x).2]) ∧ w = w' := by
  unfold kdE
  by_cases h1 : x = [65, 85, 84, 72]
  · rw [if_pos h1]
    subst h1
    go_enter Tryd.func69, Tryd.ntmps69
    go_wp2_with fail
    go_ret2
    exact ⟨rfl, rfl⟩
  rw [if_neg h1]
  have b1 : (x == [65, 85, 84, 72]) = false := by simpa using h1
  by_cases h2 : x = [83, 85, 66, 77, 73, 84]
  · rw [if_pos h2]
    subst h2
    clear h1
    go_enter Tryd.func69, Tryd.ntmps69
    go_wp2_with fail
    go_ret2
    exact ⟨rfl, rfl⟩
  rw [if_neg h2]
  have b2 : (x == [83, 85, 66, 77, 73, 84]) = false := by simpa using h2
  by_cases h3 : x = [83, 84, 65, 84, 85, 83]
  · rw [if_pos h3]
    subst h3
    clear h1 h2
    go_enter Tryd.func69, Tryd.ntmps69
    go_wp2_with fail
    go_ret2
    exact ⟨rfl, rfl⟩
  rw [if_neg h3]
  have b3 : (x == [83, 84, 65, 84, 85, 83]) = false := by simpa using h3
  by_cases h4 : x = [76, 73, 83, 84]
  · rw [if_pos h4]
    subst h4
    clear h1 h2 h3
    go_enter Tryd.func69, Tryd.ntmps69
    go_wp2_with fail
    go_ret2
    exact ⟨rfl, rfl⟩
  rw [if_neg h4]
  have b4 : (x == [76, 73, 83, 84]) = false := by simpa using h4
  by_cases h5 : x = [67, 65, 78, 67, 69, 76]
  · rw [if_pos h5]
    subst h5
    clear h1 h2 h3 h4
    go_enter Tryd.func69, Tryd.ntmps69
    go_wp2_with fail
    go_ret2
    exact ⟨rfl, rfl⟩
  rw [if_neg h5]
  have b5 : (x == [67, 65, 78, 67, 69, 76]) = false := by simpa using h5
  by_cases h6 : x = [87, 65, 84, 67, 72]
  · rw [if_pos h6]
    subst h6
    clear h1 h2 h3 h4 h5
    go_enter Tryd.func69, Tryd.ntmps69
    go_wp2_with fail
    go_ret2
    exact ⟨rfl, rfl⟩
  rw [if_neg h6]
  have b6 : (x == [87, 65, 84, 67, 72]) = false := by simpa using h6
  by_cases h7 : x = [82, 69, 80, 76, 65, 89]
  · rw [if_pos h7]
    subst h7
    clear h1 h2 h3 h4 h5 h6
    go_enter Tryd.func69, Tryd.ntmps69
    go_wp2_with fail
    go_ret2
    exact ⟨rfl, rfl⟩
  rw [if_neg h7]
  have b7 : (x == [82, 69, 80, 76, 65, 89]) = false := by simpa using h7
  by_cases h8 : x = [81, 85, 73, 84]
  · rw [if_pos h8]
    subst h8
    clear h1 h2 h3 h4 h5 h6 h7
    go_enter Tryd.func69, Tryd.ntmps69
    go_wp2_with fail
    go_ret2
    exact ⟨rfl, rfl⟩
  rw [if_neg h8]
  have b8 : (x == [81, 85, 73, 84]) = false := by simpa using h8
  by_cases h9 : x = [67, 79, 77, 80, 65, 67, 84]
  · rw [if_pos h9]
    subst h9
    clear h1 h2 h3 h4 h5 h6 h7 h8
    go_enter Tryd.func69, Tryd.ntmps69
    go_wp2_with fail
    go_ret2
    exact ⟨rfl, rfl⟩
  rw [if_neg h9]
  have b9 : (x == [67, 79, 77, 80, 65, 67, 84]) = false := by simpa using h9
  clear h1 h2 h3 h4 h5 h6 h7 h8 h9
  go_enter Tryd.func69, Tryd.ntmps69
  go_wp2_with fail
  go_ret2
  exact ⟨rfl, rfl⟩

theorem numOk_iff (s : List UInt8) (most : Int) {x f : Int} (h : rdE s most = (x, f)) : numOk s 1 most = (decide (f = 0) && !decide (x < 1)) := by
  unfold numOk
  rw [h]
  simp only
  by_cases h1 : f = 0 <;> by_cases h2 : x < 1 <;> simp [h1, h2] <;> omega
set_option maxRecDepth 100000 in
set_option maxHeartbeats 1600000 in
theorem opnum_any (I most : Int) (A : Option Addr) (n c Bw Be : Nat) (bad : Bool) (ws : List (List UInt8)) (w : World) (hw : Blk w Bw 62 #[.slice A n c]) (he : Blk w Be 4 #[.bool bad])
    (hA : Sl w 1 A n (ws.flatMap txC)) (hl : ws.length = n) (hI : 0 ≤ I) (hin : I < n) (hn : n ≤ 9223372036854775807) (hs : ∀ i, (wd ws i).length ≤ 9223372036854775807) (hm1 : -9223372036854775808 ≤ most) (hm2 : most ≤ 9223372036854775807) :
    Calls Tryd.prog 70 #[.int .i64 I, .int .i64 most, .pointer (some ⟨Bw, 0, none⟩), .pointer (some ⟨Be, 0, none⟩)] w fun e w' => e = .returned (.int .i64 (rdE (wd ws I.toNat) most).1) ∧ Only (· = Be) w w' ∧ Blk w' Be 4 #[.bool (bad || !numOk (wd ws I.toNat) 1 most)] := by
  obtain ⟨i, rfl⟩ := Int.eq_ofNat_of_zero_le hI
  rw [Int.toNat_natCast]
  have hin2 : i < n := by omega
  have cw := hw.cell 0
  have ce := he.cell 0
  have fe := he.frozen 0
  simp only [List.getElem?_toArray, List.getElem?_cons_zero] at cw ce
  obtain ⟨ad, u, hAd, hblk, hu, hca⟩ := hA.at1 hin2
  rw [txs_get (wd_get (by omega))] at hu
  obtain rfl := Option.some.inj hu
  subst hAd
  obtain ⟨x, f, hR⟩ : ∃ x f, rdE (wd ws i) most = (x, f) := ⟨_, _, rfl⟩
  have hsi := hs i
  have HN := Lib.hid (numOk_iff _ _ hR)
  obtain ⟨xs, hxs⟩ : ∃ xs, xs = wd ws i := ⟨_, rfl⟩
  rw [← hxs] at hca hsi hR
  rw [show (rdE (wd ws i) most).1 = x by rw [← hxs, hR]]
  have HR := Lib.hid hR
  have hs1 : ∀ b : Bool, (store (⟨Be, 0, none⟩ : Addr) (.bool b) .plain).run Tryd.prog w = stored Tryd.prog w ⟨Be, 0, none⟩ (.bool b) .plain := fun b => run_store Tryd.prog w ⟨Be, 0, none⟩ (.bool b) .plain rfl
  have HE := Lib.hid (fun u => he.set_ 0 u)
  have hOnly := Lib.hid (fun u => (Only.refl (fun x => x = Be) w).set (p := ⟨Be, 0, none⟩) (.inl rfl) u)
  clear hw hA hI hin hl hs hu hR hxs hblk
  cases bad with
  | true =>
    clear he
    go_enter Tryd.func70, Tryd.ntmps70
    go_wp2_with (first
      | (go_at_call 17
         refine (oreaddec_any xs most _ hsi hm1 hm2).mono ?_
         rintro e' w' ⟨rfl, rfl⟩
         rw [HR.out]))
    go_ret
    exact ⟨rfl, hOnly.out _, HE.out _⟩
  | false =>
    clear he
    by_cases hf : f = 0
    · subst hf
      by_cases hx : x < 1
      · have HK := Lib.hid (show numOk (wd ws i) 1 most = false from by rw [HN.out]; simp [hx])
        go_enter Tryd.func70, Tryd.ntmps70
        go_wp2_with (first
          | (go_at_call 17
             refine (oreaddec_any xs most _ hsi hm1 hm2).mono ?_
             rintro e' w' ⟨rfl, rfl⟩
             rw [HR.out]))
        go_ret
        rw [HK.out]
        exact ⟨rfl, hOnly.out _, HE.out _⟩
      · have HK := Lib.hid (show numOk (wd ws i) 1 most = true from by rw [HN.out]; simp [hx])
        go_enter Tryd.func70, Tryd.ntmps70
        go_wp2_with (first
          | (go_at_call 17
             refine (oreaddec_any xs most _ hsi hm1 hm2).mono ?_
             rintro e' w' ⟨rfl, rfl⟩
             rw [HR.out]))
        go_ret
        rw [HK.out]
        rw [show decide (x < 1) = false by simpa using hx]
        exact ⟨rfl, hOnly.out _, HE.out _⟩
    · have HK := Lib.hid (show numOk (wd ws i) 1 most = false from by rw [HN.out]; simp [hf])
      have hfb : (f != 0) = true := by simpa using hf
      clear hf
      go_enter Tryd.func70, Tryd.ntmps70
      go_wp2_with (first
        | (go_at_call 17
           refine (oreaddec_any xs most _ hsi hm1 hm2).mono ?_
           rintro e' w' ⟨rfl, rfl⟩
           rw [HR.out]))
      go_ret
      rw [HK.out]
      exact ⟨rfl, hOnly.out _, HE.out _⟩
end Go.Proofs.YtldkcfhigcmoaaaDoor
