/- What ReadJob's inner function answers, and the plain side of reading a job. Conditions: those in the theorem. -/
import Derived.Test.YtldkcfhigcmoaaaDoorProtoD
import Derived.Test.YtldkcfhigcmoaaaDoorDecA
import Derived.Test.YtldkcfhigcmoaaaDoorOctX
namespace Go.Proofs.YtldkcfhigcmoaaaDoor
open Go.RowKit Go.As
set_option linter.unusedVariables false

/-- a number's word is within its bounds -/
def numOk (s : List UInt8) (least most : Int) : Bool := decide ((rdE s most).2 = 0 ∧ least ≤ (rdE s most).1)
/-- the error's cell behind a number's word -/
def errE (b : Bool) (err : Int) : Int := if b then err else 4
theorem rdE_lo (s : List UInt8) (most : Int) : 0 ≤ (rdE s most).1 ∧ (rdE s most).1 ≤ 9223372036854775807 := by
  unfold rdE
  repeat' split
  all_goals simp only
  all_goals omega
theorem rdE_err (s : List UInt8) (most : Int) : 0 ≤ (rdE s most).2 ∧ (rdE s most).2 ≤ 4 := by
  unfold rdE
  repeat' split
  all_goals simp

set_option maxRecDepth 100000 in
set_option maxHeartbeats 1600000 in
theorem onum_any (i : Nat) (least most : Int) (A : Option Addr) (n c Bw Be : Nat) (s : List UInt8) (err : Int) (ws : List (List UInt8)) (w : World) (hw : Blk w Bw 62 #[.slice A n c]) (he : Blk w Be 25 #[.int .i64 err])
    (hA : Sl w 1 A n (ws.flatMap txC)) (hi : ws[i]? = some s) (hin : i < n) (hn : n ≤ 9223372036854775807) (hs : s.length ≤ 9223372036854775807) (hm1 : -9223372036854775808 ≤ most) (hm2 : most ≤ 9223372036854775807) :
    Calls Tryd.prog 62 #[.int .i64 i, .int .i64 least, .int .i64 most, .pointer (some ⟨Bw, 0, none⟩), .pointer (some ⟨Be, 0, none⟩)] w fun e w' => e = .returned (.int .i64 (rdE s most).1) ∧ Only (· = Be) w w' ∧ Blk w' Be 25 #[.int .i64 (errE (numOk s least most) err)] := by
  have cw := hw.cell 0
  have ce := he.cell 0
  have fe := he.frozen 0
  simp only [List.getElem?_toArray, List.getElem?_cons_zero] at cw ce
  obtain ⟨ad, u, hAd, hblk, hu, hca⟩ := hA.at1 hin
  rw [txs_get hi] at hu
  obtain rfl := Option.some.inj hu
  subst hAd
  have HE := Lib.hid he
  obtain ⟨R, hR⟩ : ∃ R, R = rdE s most := ⟨_, rfl⟩
  have hr1 := rdE_lo s most
  have hr2 := rdE_err s most
  rw [← hR] at hr1 hr2
  obtain ⟨x, f⟩ := R
  simp only at hr1 hr2
  have HN := Lib.hid (show numOk s least most = decide (f = 0 ∧ least ≤ x) by unfold numOk; rw [← hR])
  rw [← hR]
  have HR := Lib.hid hR
  clear hR hw he hA hi hu
  have hset := fun u => HE.out.set_ 0 u
  have hs1 := run_store Tryd.prog w ⟨Be, 0, none⟩ (.int .i64 4) .plain rfl
  by_cases hf : f = 0
  · by_cases hl : least ≤ x
    · have HK := Lib.hid (show numOk s least most = true by rw [HN.out]; simp [hf, hl])
      clear hset hs1
      have hfb : (f != 0) = false := by simp [hf]
      have hlt : ¬ x < least := by omega
      clear hf
      go_enter Tryd.func62, Tryd.ntmps62
      go_wp2_with (first
        | (go_at_call 17
           refine (oreaddec_any s most _ hs hm1 hm2).mono ?_
           rintro e' w' ⟨rfl, rfl⟩
           rw [← HR.out]))
      go_ret
      rw [HK.out]
      exact ⟨rfl, Only.refl _ _, HE.out⟩
    · have HK := Lib.hid (show numOk s least most = false by rw [HN.out]; simp [hl])
      have hfb : (f != 0) = false := by simp [hf]
      have hlt : x < least := by omega
      clear hf hl
      go_enter Tryd.func62, Tryd.ntmps62
      go_wp2_with (first
        | (go_at_call 17
           refine (oreaddec_any s most _ hs hm1 hm2).mono ?_
           rintro e' w' ⟨rfl, rfl⟩
           rw [← HR.out]))
      go_ret
      rw [HK.out]
      exact ⟨rfl, (Only.refl (fun x => x = Be) w).set (p := ⟨Be, 0, none⟩) (.inl rfl) _, hset _⟩
  · have HK := Lib.hid (show numOk s least most = false by rw [HN.out]; simp [hf])
    have hfb : (f != 0) = true := by simp [hf]
    clear hf
    go_enter Tryd.func62, Tryd.ntmps62
    go_wp2_with (first
      | (go_at_call 17
         refine (oreaddec_any s most _ hs hm1 hm2).mono ?_
         rintro e' w' ⟨rfl, rfl⟩
         rw [← HR.out]))
    go_ret
    rw [HK.out]
    exact ⟨rfl, (Only.refl (fun x => x = Be) w).set (p := ⟨Be, 0, none⟩) (.inl rfl) _, hset _⟩
end Go.Proofs.YtldkcfhigcmoaaaDoor
