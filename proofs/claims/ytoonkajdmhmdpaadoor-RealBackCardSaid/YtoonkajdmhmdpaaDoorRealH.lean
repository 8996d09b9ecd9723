/- What Parse of a real's literal answers, the document's. Conditions: those in the theorem. -/
import Derived.Test.YtoonkajdmhmdpaaDoorRealF
namespace Go.Proofs.YtoonkajdmhmdpaaDoor
open Go.RowKit Go.As
set_option linter.unusedVariables false

theorem qdigit_any (x : UInt8) (w : World) : Calls Tryd.prog 32 #[.int .u8 (x.toNat : Nat)] w fun e w' => e = .returned (.bool (digB x)) ∧ w = w' := by
  have hx : x.toNat ≤ 255 := by have := x.toNat_lt; omega
  by_cases h1 : 48 ≤ x.toNat
  · by_cases h2 : x.toNat ≤ 57
    · rw [show digB x = true from by unfold digB; exact decide_eq_true ⟨h1, h2⟩]
      have g1 : (48 : Int) ≤ x.toNat := by omega
      have g2 : (x.toNat : Int) ≤ 57 := by omega
      go_enter Tryd.func32, Tryd.ntmps32
      go_wp2
      go_ret
      exact ⟨rfl, rfl⟩
    · rw [show digB x = false from by unfold digB; exact decide_eq_false (fun h => h2 h.2)]
      have g1 : (48 : Int) ≤ x.toNat := by omega
      have g2 : ¬ (x.toNat : Int) ≤ 57 := by omega
      go_enter Tryd.func32, Tryd.ntmps32
      go_wp2
      go_ret
      exact ⟨rfl, rfl⟩
  · rw [show digB x = false from by unfold digB; exact decide_eq_false (fun h => h1 h.1)]
    have g1 : ¬ (48 : Int) ≤ x.toNat := by omega
    go_enter Tryd.func32, Tryd.ntmps32
    go_wp2
    go_ret
    exact ⟨rfl, rfl⟩

/-- what was seen so far: digits, and perhaps one point among them -/
def PP (pre : List UInt8) (p : Int) : Prop := (p = -1 ∧ pre.all digB = true) ∨ ∃ X Q, pre = X ++ 46 :: Q ∧ X.all digB = true ∧ Q.all digB = true ∧ p = (X.length : Nat)
theorem pp_digit {pre : List UInt8} {p : Int} {c : UInt8} (h : PP pre p) (hc : digB c = true) : PP (pre ++ [c]) p := by
  rcases h with ⟨h1, h2⟩ | ⟨X, Q, h1, h2, h3, h4⟩
  · exact .inl ⟨h1, by rw [List.all_append, h2]; simp [hc]⟩
  · exact .inr ⟨X, Q ++ [c], by rw [h1]; simp, h2, by rw [List.all_append, h3]; simp [hc], h4⟩
theorem pp_point {pre : List UInt8} {p : Int} (h : PP pre p) (hp : p < 0) : PP (pre ++ [46]) (pre.length : Nat) := by
  rcases h with ⟨h1, h2⟩ | ⟨X, Q, h1, h2, h3, h4⟩
  · exact .inr ⟨pre, [], by simp, h2, rfl, rfl⟩
  · omega
theorem ok_parts {s : List UInt8} (h : rpOk s = true) : s = rpW s ++ 46 :: rpP s ∧ (rpW s).all digB = true ∧ (rpP s).all digB = true ∧ fmtB true (rpW s) (rpP s) = true := by
  unfold rpOk at h
  rw [Bool.and_eq_true, List.all_append, Bool.and_eq_true] at h
  have hf := h.1
  unfold fmtB at hf
  have ho := (of_decide_eq_true hf).1
  have h1 := h.1
  rw [ho] at h1
  exact ⟨(rp_point ho).1, h.2.1, h.2.2, h1⟩
theorem point_one {X P X' P' : List UInt8} (h : X ++ 46 :: P = X' ++ 46 :: P') (h1 : (46 : UInt8) ∉ X) (h2 : (46 : UInt8) ∉ X') : X = X' ∧ P = P' := by
  have e1 := cut_app (X := X) (P := P) h1
  have e2 := cut_app (X := X') (P := P') h2
  rw [h, e2] at e1
  injection e1 with a1 a2
  injection a2 with a2 _
  exact ⟨a1.symm, a2.symm⟩
theorem pp_bad {s pre r : List UInt8} {p : Int} {c : UInt8} (h : PP pre p) (hs : s = pre ++ c :: r) (hc : digB c = false) (hcp : c ≠ 46 ∨ ¬ p < 0) : rpOk s = false := by
  cases hok : rpOk s with
  | false => rfl
  | true =>
    exfalso
    obtain ⟨o1, o2, o3, _⟩ := ok_parts hok
    have hmem : c ∈ s := by rw [hs]; simp
    have hc46 : c = 46 := by
      rw [o1] at hmem
      rcases List.mem_append.1 hmem with hm | hm
      · have := List.all_eq_true.1 o2 c hm; rw [hc] at this; cases this
      · rcases List.mem_cons.1 hm with hm | hm
        · exact hm
        · have := List.all_eq_true.1 o3 c hm; rw [hc] at this; cases this
    have hp : ¬ p < 0 := hcp.resolve_left (fun h => h hc46)
    rcases h with ⟨h1, _⟩ | ⟨X, Q, h1, h2, h3, h4⟩
    · omega
    · subst hc46
      have e : X ++ 46 :: (Q ++ 46 :: r) = rpW s ++ 46 :: rpP s := by rw [← o1, hs, h1]; simp
      obtain ⟨_, e2⟩ := point_one e (no_point h2) (no_point o2)
      have := no_point o3
      rw [← e2] at this
      exact this (by simp)
theorem pp_ok {X Q : List UInt8} (h1 : X.all digB = true) (h2 : Q.all digB = true) : rpW (X ++ 46 :: Q) = X ∧ rpP (X ++ 46 :: Q) = Q ∧ rpOk (X ++ 46 :: Q) = fmtB true X Q := by
  have hc := cut_app (X := X) (P := Q) (no_point h1)
  unfold rpOk rpW rpP rpO
  rw [hc, List.all_append, h1, h2]
  simp
theorem fmt_iff {X Q : List UInt8} : fmtB true X Q = true ↔ (1 ≤ X.length ∧ 1 ≤ Q.length ∧ Q.length ≤ 6 ∧ X.length + Q.length ≤ 15 ∧ ¬ (X.head? = some 48 ∧ 1 < X.length)) := by
  unfold fmtB
  rw [decide_eq_true_iff]
  have hX : X ≠ [] ↔ 1 ≤ X.length := by cases X <;> simp
  have hQ : Q ≠ [] ↔ 1 ≤ Q.length := by cases Q <;> simp
  have hh : X.head? = some 48 → (X ≠ [48] ↔ 1 < X.length) := by
    intro h
    cases X with
    | nil => simp at h
    | cons a l =>
      simp at h
      subst h
      cases l <;> simp
  constructor
  · rintro ⟨_, a, b, c, d, e⟩
    exact ⟨hX.1 a, hQ.1 b, c, d, fun ⟨f, g⟩ => e ⟨f, (hh f).2 g⟩⟩
  · rintro ⟨a, b, c, d, e⟩
    exact ⟨rfl, hX.2 a, hQ.2 b, c, d, fun ⟨f, g⟩ => e ⟨f, (hh f).1 g⟩⟩
/-- the digits alone -/
def dots (l : List UInt8) : List UInt8 := l.filter (fun c => c != 46)
theorem dots_digits {l : List UInt8} (h : l.all digB = true) : dots l = l := by
  unfold dots
  rw [List.filter_eq_self]
  intro c hc
  have := no_point h
  simp
  intro e
  exact this (by rw [← e]; exact hc)
theorem dots_all {X Q : List UInt8} (h1 : X.all digB = true) (h2 : Q.all digB = true) : dots (X ++ 46 :: Q) = X ++ Q := by
  have e1 := dots_digits h1
  have e2 := dots_digits h2
  unfold dots at *
  rw [List.filter_append, List.filter_cons]
  simp [e1, e2]
theorem powT_int {k : Nat} (h : k ≤ 6) : floatOfInt .f64 ((10 ^ k : Nat) : Int) = powT k := by
  have hk : k = 0 ∨ k = 1 ∨ k = 2 ∨ k = 3 ∨ k = 4 ∨ k = 5 ∨ k = 6 := by omega
  rcases hk with rfl | rfl | rfl | rfl | rfl | rfl | rfl <;> decide
theorem dots_app_digit {l : List UInt8} {x : UInt8} (h : digB x = true) : dots (l ++ [x]) = dots l ++ [x] := by
  have : (x != 46) = true := by
    have := digB_val h
    simp
    intro e
    rw [e] at this
    simp at this
  unfold dots
  rw [List.filter_append]
  simp only [List.filter_cons, List.filter_nil, this, if_true]
theorem dots_app_dot {l : List UInt8} : dots (l ++ [46]) = dots l := by
  unfold dots
  rw [List.filter_append]
  simp
theorem dots_lt {s X Q : List UInt8} (hs : s = X ++ 46 :: Q) (h1 : (X ++ Q).all digB = true) (h2 : (X ++ Q).length ≤ 15) (j : Nat) : decV (dots (s.take j)) < 1000000000000000 := by
  have hsub : (dots (s.take j)).Sublist (X ++ Q) := by
    have h3 : dots s = X ++ Q := by
      rw [List.all_append, Bool.and_eq_true] at h1
      rw [hs]; exact dots_all h1.1 h1.2
    rw [← h3]
    unfold dots
    exact (List.take_sublist j s).filter _
  have h4 : (dots (s.take j)).all digB = true := List.all_eq_true.2 fun c hc => List.all_eq_true.1 h1 c (hsub.subset hc)
  have h5 := decV_lt _ h4
  have h6 : (10 : Nat) ^ (dots (s.take j)).length ≤ 10 ^ 15 := Nat.pow_le_pow_right (by omega) (Nat.le_trans hsub.length_le h2)
  have : (10 : Nat) ^ 15 = 1000000000000000 := by decide
  omega
theorem dots_at {s X Q : List UInt8} (hs : s = X ++ 46 :: Q) (h1 : (X ++ Q).all digB = true) {j : Nat} {x : UInt8} (hx : s[j]? = some x) (hj : j ≠ X.length) : digB x = true := by
  rw [List.all_append, Bool.and_eq_true] at h1
  rw [hs] at hx
  rcases Nat.lt_or_ge j X.length with h | h
  · rw [List.getElem?_append_left h] at hx
    exact List.all_eq_true.1 h1.1 x (List.mem_of_getElem? hx)
  · rw [List.getElem?_append_right h, show j - X.length = (j - X.length - 1) + 1 by omega, List.getElem?_cons_succ] at hx
    exact List.all_eq_true.1 h1.2 x (List.mem_of_getElem? hx)
theorem dots_here {s X Q : List UInt8} (hs : s = X ++ 46 :: Q) {j : Nat} {x : UInt8} (hx : s[j]? = some x) (hj : j = X.length) : x = 46 := by
  rw [hs, hj, List.getElem?_append_right (Nat.le_refl _), Nat.sub_self, List.getElem?_cons_zero] at hx
  exact (Option.some.inj hx).symm
theorem quo_valid {l : List UInt8} {b : Nat} (h1 : l.all digB = true) (h2 : l.length ≤ 15) (hb : b ≤ 6) (h : floatBits .quo .f64 (floatOfInt .f64 ((decV l : Nat) : Int)) (powT b) = none) : False := by
  have h3 := decV_lt _ h1
  have h4 : (10 : Nat) ^ l.length ≤ 10 ^ 15 := Nat.pow_le_pow_right (by omega) h2
  have h5 : (10 : Nat) ^ 15 = 1000000000000000 := by decide
  obtain ⟨s, i, e, _⟩ := isI_int (N := ((decV l : Nat) : Int)) (by omega)
  obtain ⟨c, J, e2, hc⟩ : ∃ c J, fd.read (powT b) = .number false c J ∧ c ≠ 0 := by
    rcases Nat.eq_zero_or_pos b with h0 | h0
    · rw [h0]
      exact ⟨4503599627370496, -52, by decide, by decide⟩
    · obtain ⟨J, r1, _, _, r2, _⟩ := powT_read h0 hb
      exact ⟨_, _, r1, by omega⟩
  have : floatBits .quo .f64 (floatOfInt .f64 ((decV l : Nat) : Int)) (powT b) = ((fd.read (floatOfInt .f64 ((decV l : Nat) : Int))).quotient (52 + 2) (fd.read (powT b))).map fd.write := rfl
  rw [this, e, e2] at h
  simp only [Ieee.Datum.quotient] at h
  rw [if_neg hc] at h
  cases h
set_option maxRecDepth 100000 in
set_option maxHeartbeats 3200000 in
theorem qparse_any (s : List UInt8) (hs : s.length ≤ 1048576) (w : World) :
    Calls Tryd.prog 23 #[.string (str s)] w fun e w' => e = .returned (.tuple #[.int .u64 (rpB s), .int .i64 (rpF s)]) ∧ w = w' := by
  by_cases hl : 16 < s.length
  · have HK := Lib.hid (rp_bad (s := s) (by
      cases hok : rpOk s with
      | false => rfl
      | true =>
        exfalso
        obtain ⟨o1, _, _, o4⟩ := ok_parts hok
        have := fmt_iff.1 o4
        have h2 := congrArg List.length o1
        rw [List.length_append, List.length_cons] at h2
        omega))
    have hl2 : (16 : Int) < s.length := by omega
    go_enter Tryd.func23, Tryd.ntmps23
    go_wp2_with fail
    go_ret2
    rw [HK.out.1, HK.out.2]
    exact ⟨rfl, rfl⟩
  · have hl2 : ¬ (16 : Int) < s.length := by omega
    have hl3 : s.length ≤ 16 := by omega
    clear hs
    go_enter Tryd.func23, Tryd.ntmps23
    go_wp2_with fail
    go_loopw [4, 5] (fun pv iv wr => ∃ (i : Nat) (p : Int), i ≤ s.length ∧ pv = .int .i64 p ∧ iv = .int .i64 i ∧ wr = w ∧ PP (s.take i) p) (fun _ iv _ => s.length - (intOf iv).toNat)
    case atStart => exact ⟨0, -1, by omega, rfl, rfl, rfl, .inl ⟨rfl, by simp⟩⟩
    case round =>
      obtain ⟨i, p, hi, rfl, rfl, rfl, hpp⟩ := hrel
      have HP := Lib.hid hpp
      by_cases hlt : i < s.length
      · obtain ⟨x, hx⟩ : ∃ x, s[i]? = some x := ⟨_, List.getElem?_eq_getElem hlt⟩
        have hxe : s[i]'hlt = x := by rw [List.getElem?_eq_getElem hlt] at hx; exact Option.some.inj hx
        have hidx : ∀ W, (Instr.index 9 (.string (str s)) (.int .i64 (i : Int))).run Tryd.prog W = .ok (.int .u8 (x.toNat : Nat)) W := fun W => by rw [run_idx0 s i hlt W, hxe]
        have htk : s.take (i + 1) = s.take i ++ [x] := by rw [List.take_add_one, hx]; rfl
        have hsp : s = s.take i ++ x :: s.drop (i + 1) := by
          have h1 := (List.take_append_drop i s).symm
          rw [List.drop_eq_getElem_cons hlt, hxe] at h1
          exact h1
        have hx255 : x.toNat ≤ 255 := by have := x.toNat_lt; omega
        have hin : (i : Int) < s.length := by omega
        have hwi : IntKind.i64.wrap ((i : Int) + 1) = (i : Int) + 1 := by rw [IntKind.wrap_i64]; omega
        by_cases hx46 : x = 46
        · subst hx46
          have HD := Lib.hid (show digB 46 = false by decide)
          have h46 : (((46 : UInt8).toNat : Int) == 46) = true := rfl
          by_cases hp : p < 0
          · have HJ := Lib.hid (show PP (s.take (i + 1)) (i : Int) from by
              have := pp_point hpp hp
              rw [htk]
              rw [List.length_take, Nat.min_eq_left hi] at this
              exact this)
            clear hpp hx hxe htk hsp hx255
            generalize (46 : UInt8) = x at *
            go_wp2_with fail
            go_roundw
            case rel => exact ⟨i + 1, (i : Int), by omega, by go_num, by go_num, trivial, HJ.out⟩
            case measure => simp [intOf]; omega
          · have HK := Lib.hid (rp_bad (pp_bad hpp hsp (by decide) (.inr hp)))
            clear hpp hx hxe htk hsp hx255
            generalize (46 : UInt8) = x at *
            go_wp2_with (go_at_call 32; refine (qdigit_any x _).mono ?_; rw [HD.out]; rintro e w' ⟨rfl, rfl⟩)
            go_ret2
            rw [HK.out.1, HK.out.2]
            exact ⟨rfl, rfl⟩
        · have hxn : ((x.toNat : Int) == 46) = false := by
            have : x.toNat ≠ 46 := fun e => hx46 (UInt8.toNat_inj.1 e)
            exact beq_false_of_ne (by omega)
          rcases hdx : digB x with _ | _
          · have HK := Lib.hid (rp_bad (pp_bad hpp hsp hdx (.inl hx46)))
            have HD := Lib.hid hdx
            clear hpp hx hxe htk hsp hx255 hx46 hdx
            go_wp2_with (go_at_call 32; refine (qdigit_any x _).mono ?_; rw [HD.out]; rintro e w' ⟨rfl, rfl⟩)
            go_ret2
            rw [HK.out.1, HK.out.2]
            exact ⟨rfl, rfl⟩
          · have HJ := Lib.hid (show PP (s.take (i + 1)) p from by rw [htk]; exact pp_digit hpp hdx)
            have HD := Lib.hid hdx
            clear hpp hx hxe htk hsp hx255 hx46 hdx
            go_wp2_with (go_at_call 32; refine (qdigit_any x _).mono ?_; rw [HD.out]; rintro e w' ⟨rfl, rfl⟩)
            go_roundw
            case rel => exact ⟨i + 1, p, by omega, by go_num, by go_num, trivial, HJ.out⟩
            case measure => simp [intOf]; omega
      · have hfull : s.take i = s := List.take_of_length_le (by omega)
        rw [hfull] at hpp
        clear hfull
        have hlt2 : ¬ (i : Int) < s.length := by omega
        rcases hpp with ⟨rfl, hall⟩ | ⟨X, Q, hsXQ, hX, hQ, rfl⟩
        · have HK := Lib.hid (rp_bad (s := s) (by
            cases hok : rpOk s with
            | false => rfl
            | true =>
              exfalso
              have := no_point hall
              rw [(ok_parts hok).1] at this
              exact this (by simp)))
          have hwb : IntKind.i64.wrap (IntKind.i64.wrap ((s.length : Int) - -1) - 1) = (s.length : Int) := by rw [IntKind.wrap_i64, IntKind.wrap_i64]; omega
          clear hall
          go_wp2_with fail
          go_ret2
          rw [HK.out.1, HK.out.2]
          exact ⟨rfl, rfl⟩
        · have hlen : s.length = X.length + 1 + Q.length := by rw [hsXQ, List.length_append, List.length_cons]; omega
          obtain ⟨o1, o2, o3⟩ := pp_ok hX hQ
          rw [← hsXQ] at o1 o2 o3
          obtain ⟨a, ha⟩ : ∃ a, a = X.length := ⟨_, rfl⟩
          obtain ⟨b, hb⟩ : ∃ b, b = Q.length := ⟨_, rfl⟩
          have hfi := @fmt_iff X Q
          rw [← ha, ← hb] at hfi hlen
          have hwb1 : (s.length : Int) - a = b + 1 := by omega
          have hwb2 : IntKind.i64.wrap ((b : Int) + 1) = (b : Int) + 1 := by rw [IntKind.wrap_i64]; omega
          have hwb3 : (b : Int) + 1 - 1 = b := by omega
          have hwb4 : IntKind.i64.wrap (b : Int) = (b : Int) := by rw [IntKind.wrap_i64]; omega
          rw [← ha]
          obtain ⟨x0, hx0⟩ : ∃ x0, s[0]? = some x0 := ⟨_, List.getElem?_eq_getElem (by omega)⟩
          have hx0e : s[0]'(by omega) = x0 := by rw [List.getElem?_eq_getElem (by omega)] at hx0; exact Option.some.inj hx0
          have hidx : ∀ W, (Instr.index 9 (.string (str s)) (.int .i64 0)).run Tryd.prog W = .ok (.int .u8 (x0.toNat : Nat)) W := fun W => by
            have := run_idx0 s 0 (by omega) W
            rw [hx0e] at this
            exact this
          have hhead : 1 ≤ a → (X.head? = some 48 ↔ x0 = 48) := by
            intro h1
            cases X with
            | nil => simp at ha; omega
            | cons c l =>
              rw [hsXQ] at hx0
              simp at hx0
              rw [List.head?_cons, hx0]
              simp
          have HS := Lib.hid (show dots s = X ++ Q ∧ (X ++ Q).all digB = true ∧ (X ++ Q).length ≤ 15 ∧ s = X ++ 46 :: Q ∧ a = X.length ∧ b = Q.length from
            ⟨by rw [hsXQ]; exact dots_all hX hQ, by rw [List.all_append, hX, hQ]; rfl, by rw [List.length_append]; omega, hsXQ, ha, hb⟩)
          have hlb : b ≤ 16 ∧ a ≤ 16 ∧ a + b ≤ 15 := by omega
          rcases hf : fmtB true X Q with _ | _
          · have HK := Lib.hid (rp_bad (s := s) (by rw [o3, hf]))
            have hn : ¬ (1 ≤ a ∧ 1 ≤ b ∧ b ≤ 6 ∧ a + b ≤ 15 ∧ ¬ (X.head? = some 48 ∧ 1 < a)) := fun h => by have := hfi.2 h; rw [hf] at this; cases this
            clear o1 o2 o3 hf hfi ha hb hx0 hx0e hsXQ hX hQ HP hlen
            by_cases c1 : a < 1
            · have g1 : (a : Int) < 1 := by omega
              clear hhead hn
              go_wp2_with fail
              go_ret2
              rw [HK.out.1, HK.out.2]
              exact ⟨rfl, rfl⟩
            · have g1 : ¬ (a : Int) < 1 := by omega
              by_cases c2 : b < 1
              · have g2 : (b : Int) < 1 := by omega
                clear hhead hn
                go_wp2_with fail
                go_ret2
                rw [HK.out.1, HK.out.2]
                exact ⟨rfl, rfl⟩
              · have g2 : ¬ (b : Int) < 1 := by omega
                by_cases c3 : 6 < b
                · have g3 : (6 : Int) < b := by omega
                  clear hhead hn
                  go_wp2_with fail
                  go_ret2
                  rw [HK.out.1, HK.out.2]
                  exact ⟨rfl, rfl⟩
                · have g3 : ¬ (6 : Int) < b := by omega
                  have hc : X.head? = some 48 ∧ 1 < a := Classical.byContradiction fun h => hn ⟨by omega, by omega, by omega, hlb.2.2, h⟩
                  have hx48 : x0 = 48 := (hhead (by omega)).1 hc.1
                  have g4 : ((x0.toNat : Int) == 48) = true := by rw [hx48]; rfl
                  have g5 : (1 : Int) < a := by omega
                  clear hhead hn hc hx48
                  go_wp2_with fail
                  go_ret2
                  rw [HK.out.1, HK.out.2]
                  exact ⟨rfl, rfl⟩
          · have hn := hfi.1 hf
            have HOK := Lib.hid (show rpB s = arN .quo (floatOfInt .f64 (decV (X ++ Q))) (powT b) ∧ rpF s = 0 from by
              unfold rpB rpF
              rw [o3, hf, if_pos rfl, if_pos rfl, o1, o2, ← hb]
              exact ⟨rfl, rfl⟩)
            have hpw : floatOfInt .f64 ((10 ^ b : Nat) : Int) = powT b := powT_int hn.2.2.1
            obtain ⟨Pw, hPw⟩ : ∃ Pw : Nat, Pw = 10 ^ b := ⟨_, rfl⟩
            rw [← hPw] at hpw
            have HPW := Lib.hid hPw
            have g1 : ¬ (a : Int) < 1 := by omega
            have g2 : ¬ (b : Int) < 1 := by omega
            have g3 : ¬ (6 : Int) < b := by omega
            have hb6 := hn.2.2.1
            by_cases hx48 : x0 = 48
            · have g4 : ((x0.toNat : Int) == 48) = true := by rw [hx48]; rfl
              have g5 : ¬ (1 : Int) < a := by
                intro h
                exact hn.2.2.2.2 ⟨(hhead (by omega)).2 hx48, by omega⟩
              clear o1 o2 o3 hf hfi ha hb hx0 hx0e hsXQ hX hQ HP hlen hn hhead hPw hx48 hlt
              go_wp2_with fail
              go_loopw [7, 8, 9] (fun nv pv iv wq => ∃ j : Nat, j ≤ s.length ∧ nv = .int .i64 ((decV (dots (s.take j)) : Nat) : Int) ∧ pv = .int .i64 ((10 ^ (j - (a + 1)) : Nat) : Int) ∧ iv = .int .i64 j ∧ wq = wr) (fun _ _ iv _ => s.length - (intOf iv).toNat)
              case atStart => exact ⟨0, by omega, by simp [dots, decV], by simp, rfl, rfl⟩
              case round =>
                obtain ⟨j, hj, rfl, rfl, rfl, rfl⟩ := hrel
                have hV := dots_lt HS.out.2.2.2.1 HS.out.2.1 HS.out.2.2.1 j
                obtain ⟨V, hVe⟩ : ∃ V, V = decV (dots (s.take j)) := ⟨_, rfl⟩
                obtain ⟨R, hRe⟩ : ∃ R, R = 10 ^ (j - (a + 1)) := ⟨_, rfl⟩
                rw [← hVe] at hV ⊢
                rw [← hRe]
                by_cases hlt : j < s.length
                · obtain ⟨x, hx⟩ : ∃ x, s[j]? = some x := ⟨_, List.getElem?_eq_getElem hlt⟩
                  have hxe : s[j]'hlt = x := by rw [List.getElem?_eq_getElem hlt] at hx; exact Option.some.inj hx
                  have hidx2 : ∀ W, (Instr.index 9 (.string (str s)) (.int .i64 (j : Int))).run Tryd.prog W = .ok (.int .u8 (x.toNat : Nat)) W := fun W => by rw [run_idx0 s j hlt W, hxe]
                  have htk : s.take (j + 1) = s.take j ++ [x] := by rw [List.take_add_one, hx]; rfl
                  have hjn : (j : Int) < s.length := by omega
                  have hx255 : x.toNat ≤ 255 := by have := x.toNat_lt; omega
                  have hwi : IntKind.i64.wrap ((j : Int) + 1) = (j : Int) + 1 := by rw [IntKind.wrap_i64]; omega
                  have hVi : (V : Int) < 1000000000000000 := by omega
                  rcases Nat.lt_trichotomy j a with c | c | c
                  · have hxd := dots_at HS.out.2.2.2.1 HS.out.2.1 hx (by rw [← HS.out.2.2.2.2.1]; omega)
                    have hxv := digB_val hxd
                    have hx3 : (48 : Int) ≤ x.toNat := by omega
                    have hx4 : (x.toNat : Int) ≤ 57 := by omega
                    have HJ := Lib.hid (show ((decV (dots (s.take (j + 1))) : Nat) : Int) = 10 * (V : Int) + ((x.toNat : Int) - 48) ∧ ((10 ^ (j + 1 - (a + 1)) : Nat) : Int) = (R : Int) from
                      ⟨by rw [htk, dots_app_digit hxd, decV_succ, ← hVe]; omega, by rw [hRe, show j + 1 - (a + 1) = j - (a + 1) by omega]⟩)
                    have q1 : ((j : Int) == a) = false := beq_false_of_ne (by omega)
                    have q1' : ((j : Int) != a) = true := by simp; omega
                    have q2 : ¬ (a : Int) < j := by omega
                    clear hx hxe htk hV hVe hRe hxd hxv c hx255
                    go_wp2_with fail
                    go_roundw
                    case rel => exact ⟨j + 1, by omega, by rw [HJ.out.1], by rw [HJ.out.2], by go_num, trivial⟩
                    case measure => simp [intOf]; omega
                  · have hx46 := dots_here HS.out.2.2.2.1 hx (by rw [← HS.out.2.2.2.2.1]; exact c)
                    have HJ := Lib.hid (show ((decV (dots (s.take (j + 1))) : Nat) : Int) = (V : Int) ∧ ((10 ^ (j + 1 - (a + 1)) : Nat) : Int) = (R : Int) from
                      ⟨by rw [htk, hx46, dots_app_dot, hVe], by rw [hRe, show j + 1 - (a + 1) = j - (a + 1) by omega]⟩)
                    have q1 : ((j : Int) == a) = true := beq_iff_eq.2 (by omega)
                    have q1' : ((j : Int) != a) = false := by simp; omega
                    have q2 : ¬ (a : Int) < j := by omega
                    clear hx hxe htk hV hVe hRe hx46 c hx255
                    go_wp2_with fail
                    go_roundw
                    case rel => exact ⟨j + 1, by omega, by rw [HJ.out.1], by rw [HJ.out.2], by go_num, trivial⟩
                    case measure => simp [intOf]; omega
                  · have hxd := dots_at HS.out.2.2.2.1 HS.out.2.1 hx (by rw [← HS.out.2.2.2.2.1]; omega)
                    have hxv := digB_val hxd
                    have hx3 : (48 : Int) ≤ x.toNat := by omega
                    have hx4 : (x.toNat : Int) ≤ 57 := by omega
                    have hR6 : R ≤ 1000000 := by
                      rw [hRe]
                      have : (10 : Nat) ^ (j - (a + 1)) ≤ 10 ^ 6 := Nat.pow_le_pow_right (by omega) (by
                        have h1 := congrArg List.length HS.out.2.2.2.1
                        rw [List.length_append, List.length_cons, ← HS.out.2.2.2.2.1, ← HS.out.2.2.2.2.2] at h1
                        omega)
                      exact this
                    have hRi : (R : Int) ≤ 1000000 := by omega
                    have hR0 : (0 : Int) ≤ R := by omega
                    have HJ := Lib.hid (show ((decV (dots (s.take (j + 1))) : Nat) : Int) = 10 * (V : Int) + ((x.toNat : Int) - 48) ∧ ((10 ^ (j + 1 - (a + 1)) : Nat) : Int) = 10 * (R : Int) from
                      ⟨by rw [htk, dots_app_digit hxd, decV_succ, ← hVe]; omega, by rw [hRe, show j + 1 - (a + 1) = j - (a + 1) + 1 by omega, Nat.pow_succ]; omega⟩)
                    have q1 : ((j : Int) == a) = false := beq_false_of_ne (by omega)
                    have q1' : ((j : Int) != a) = true := by simp; omega
                    have q2 : (a : Int) < j := by omega
                    clear hx hxe htk hV hVe hRe hxd hxv c hx255 hR6
                    go_wp2_with fail
                    go_roundw
                    case rel => exact ⟨j + 1, by omega, by rw [HJ.out.1], by rw [HJ.out.2], by go_num, trivial⟩
                    case measure => simp [intOf]; omega
                · have hjl : j = s.length := by omega
                  have hVX : V = decV (X ++ Q) := by rw [hVe, hjl, List.take_of_length_le (by omega), HS.out.1]
                  have hRP : R = Pw := by
                    rw [hRe, HPW.out]
                    congr 1
                    have h1 := congrArg List.length HS.out.2.2.2.1
                    rw [List.length_append, List.length_cons, ← HS.out.2.2.2.2.1, ← HS.out.2.2.2.2.2] at h1
                    omega
                  rw [hRP]
                  have hjn : ¬ (j : Int) < s.length := by omega
                  have HV := Lib.hid hVX
                  clear hVe hRe hRP hV hVX hjl
                  cases h : floatBits .quo .f64 (floatOfInt .f64 (V : Int)) (powT b) with
                  | some r =>
                    have hrun := fun w t => run_float_arith (P := Tryd.prog) w .quo t .f64 _ _ _ h
                    have HE := Lib.hid (show arN .quo (floatOfInt .f64 (V : Int)) (powT b) = toN r by simp [arN, h])
                    clear h
                    go_wp2_with (go_at_call 33; refine (qto_any _ _).mono ?_; rintro e w' ⟨rfl, rfl⟩)
                    go_ret2
                    rw [HOK.out.1, HOK.out.2, ← HV.out, HE.out]
                    exact ⟨rfl, rfl⟩
                  | none =>
                    exfalso
                    exact quo_valid (l := X ++ Q) HS.out.2.1 HS.out.2.2.1 hb6 (by rw [← HV.out]; exact h)
            · have g4 : ((x0.toNat : Int) == 48) = false := by
                have : x0.toNat ≠ 48 := fun e => hx48 (UInt8.toNat_inj.1 e)
                exact beq_false_of_ne (by omega)
              clear o1 o2 o3 hf hfi ha hb hx0 hx0e hsXQ hX hQ HP hlen hn hhead hPw hx48 hlt
              go_wp2_with fail
              go_loopw [7, 8, 9] (fun nv pv iv wq => ∃ j : Nat, j ≤ s.length ∧ nv = .int .i64 ((decV (dots (s.take j)) : Nat) : Int) ∧ pv = .int .i64 ((10 ^ (j - (a + 1)) : Nat) : Int) ∧ iv = .int .i64 j ∧ wq = wr) (fun _ _ iv _ => s.length - (intOf iv).toNat)
              case atStart => exact ⟨0, by omega, by simp [dots, decV], by simp, rfl, rfl⟩
              case round =>
                obtain ⟨j, hj, rfl, rfl, rfl, rfl⟩ := hrel
                have hV := dots_lt HS.out.2.2.2.1 HS.out.2.1 HS.out.2.2.1 j
                obtain ⟨V, hVe⟩ : ∃ V, V = decV (dots (s.take j)) := ⟨_, rfl⟩
                obtain ⟨R, hRe⟩ : ∃ R, R = 10 ^ (j - (a + 1)) := ⟨_, rfl⟩
                rw [← hVe] at hV ⊢
                rw [← hRe]
                by_cases hlt : j < s.length
                · obtain ⟨x, hx⟩ : ∃ x, s[j]? = some x := ⟨_, List.getElem?_eq_getElem hlt⟩
                  have hxe : s[j]'hlt = x := by rw [List.getElem?_eq_getElem hlt] at hx; exact Option.some.inj hx
                  have hidx2 : ∀ W, (Instr.index 9 (.string (str s)) (.int .i64 (j : Int))).run Tryd.prog W = .ok (.int .u8 (x.toNat : Nat)) W := fun W => by rw [run_idx0 s j hlt W, hxe]
                  have htk : s.take (j + 1) = s.take j ++ [x] := by rw [List.take_add_one, hx]; rfl
                  have hjn : (j : Int) < s.length := by omega
                  have hx255 : x.toNat ≤ 255 := by have := x.toNat_lt; omega
                  have hwi : IntKind.i64.wrap ((j : Int) + 1) = (j : Int) + 1 := by rw [IntKind.wrap_i64]; omega
                  have hVi : (V : Int) < 1000000000000000 := by omega
                  rcases Nat.lt_trichotomy j a with c | c | c
                  · have hxd := dots_at HS.out.2.2.2.1 HS.out.2.1 hx (by rw [← HS.out.2.2.2.2.1]; omega)
                    have hxv := digB_val hxd
                    have hx3 : (48 : Int) ≤ x.toNat := by omega
                    have hx4 : (x.toNat : Int) ≤ 57 := by omega
                    have HJ := Lib.hid (show ((decV (dots (s.take (j + 1))) : Nat) : Int) = 10 * (V : Int) + ((x.toNat : Int) - 48) ∧ ((10 ^ (j + 1 - (a + 1)) : Nat) : Int) = (R : Int) from
                      ⟨by rw [htk, dots_app_digit hxd, decV_succ, ← hVe]; omega, by rw [hRe, show j + 1 - (a + 1) = j - (a + 1) by omega]⟩)
                    have q1 : ((j : Int) == a) = false := beq_false_of_ne (by omega)
                    have q1' : ((j : Int) != a) = true := by simp; omega
                    have q2 : ¬ (a : Int) < j := by omega
                    clear hx hxe htk hV hVe hRe hxd hxv c hx255
                    go_wp2_with fail
                    go_roundw
                    case rel => exact ⟨j + 1, by omega, by rw [HJ.out.1], by rw [HJ.out.2], by go_num, trivial⟩
                    case measure => simp [intOf]; omega
                  · have hx46 := dots_here HS.out.2.2.2.1 hx (by rw [← HS.out.2.2.2.2.1]; exact c)
                    have HJ := Lib.hid (show ((decV (dots (s.take (j + 1))) : Nat) : Int) = (V : Int) ∧ ((10 ^ (j + 1 - (a + 1)) : Nat) : Int) = (R : Int) from
                      ⟨by rw [htk, hx46, dots_app_dot, hVe], by rw [hRe, show j + 1 - (a + 1) = j - (a + 1) by omega]⟩)
                    have q1 : ((j : Int) == a) = true := beq_iff_eq.2 (by omega)
                    have q1' : ((j : Int) != a) = false := by simp; omega
                    have q2 : ¬ (a : Int) < j := by omega
                    clear hx hxe htk hV hVe hRe hx46 c hx255
                    go_wp2_with fail
                    go_roundw
                    case rel => exact ⟨j + 1, by omega, by rw [HJ.out.1], by rw [HJ.out.2], by go_num, trivial⟩
                    case measure => simp [intOf]; omega
                  · have hxd := dots_at HS.out.2.2.2.1 HS.out.2.1 hx (by rw [← HS.out.2.2.2.2.1]; omega)
                    have hxv := digB_val hxd
                    have hx3 : (48 : Int) ≤ x.toNat := by omega
                    have hx4 : (x.toNat : Int) ≤ 57 := by omega
                    have hR6 : R ≤ 1000000 := by
                      rw [hRe]
                      have : (10 : Nat) ^ (j - (a + 1)) ≤ 10 ^ 6 := Nat.pow_le_pow_right (by omega) (by
                        have h1 := congrArg List.length HS.out.2.2.2.1
                        rw [List.length_append, List.length_cons, ← HS.out.2.2.2.2.1, ← HS.out.2.2.2.2.2] at h1
                        omega)
                      exact this
                    have hRi : (R : Int) ≤ 1000000 := by omega
                    have hR0 : (0 : Int) ≤ R := by omega
                    have HJ := Lib.hid (show ((decV (dots (s.take (j + 1))) : Nat) : Int) = 10 * (V : Int) + ((x.toNat : Int) - 48) ∧ ((10 ^ (j + 1 - (a + 1)) : Nat) : Int) = 10 * (R : Int) from
                      ⟨by rw [htk, dots_app_digit hxd, decV_succ, ← hVe]; omega, by rw [hRe, show j + 1 - (a + 1) = j - (a + 1) + 1 by omega, Nat.pow_succ]; omega⟩)
                    have q1 : ((j : Int) == a) = false := beq_false_of_ne (by omega)
                    have q1' : ((j : Int) != a) = true := by simp; omega
                    have q2 : (a : Int) < j := by omega
                    clear hx hxe htk hV hVe hRe hxd hxv c hx255 hR6
                    go_wp2_with fail
                    go_roundw
                    case rel => exact ⟨j + 1, by omega, by rw [HJ.out.1], by rw [HJ.out.2], by go_num, trivial⟩
                    case measure => simp [intOf]; omega
                · have hjl : j = s.length := by omega
                  have hVX : V = decV (X ++ Q) := by rw [hVe, hjl, List.take_of_length_le (by omega), HS.out.1]
                  have hRP : R = Pw := by
                    rw [hRe, HPW.out]
                    congr 1
                    have h1 := congrArg List.length HS.out.2.2.2.1
                    rw [List.length_append, List.length_cons, ← HS.out.2.2.2.2.1, ← HS.out.2.2.2.2.2] at h1
                    omega
                  rw [hRP]
                  have hjn : ¬ (j : Int) < s.length := by omega
                  have HV := Lib.hid hVX
                  clear hVe hRe hRP hV hVX hjl
                  cases h : floatBits .quo .f64 (floatOfInt .f64 (V : Int)) (powT b) with
                  | some r =>
                    have hrun := fun w t => run_float_arith (P := Tryd.prog) w .quo t .f64 _ _ _ h
                    have HE := Lib.hid (show arN .quo (floatOfInt .f64 (V : Int)) (powT b) = toN r by simp [arN, h])
                    clear h
                    go_wp2_with (go_at_call 33; refine (qto_any _ _).mono ?_; rintro e w' ⟨rfl, rfl⟩)
                    go_ret2
                    rw [HOK.out.1, HOK.out.2, ← HV.out, HE.out]
                    exact ⟨rfl, rfl⟩
                  | none =>
                    exfalso
                    exact quo_valid (l := X ++ Q) HS.out.2.1 HS.out.2.2.1 hb6 (by rw [← HV.out]; exact h)
end Go.Proofs.YtoonkajdmhmdpaaDoor
