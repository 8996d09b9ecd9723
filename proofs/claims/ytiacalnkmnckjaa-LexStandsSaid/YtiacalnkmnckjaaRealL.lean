/- Reals: literals with up to six places: which real is read of one, and that no two are read as one. Plain laws; no program is named; the conditions are in each theorem. -/
import Derived.Test.YtiacalnkmnckjaaRealO
namespace Go.As
open Go Ieee
set_option linter.unusedVariables false

theorem rnd_half (n : Nat) {D : Nat} (hD : 0 < D) : 2 * (rnd n D * D) ≤ 2 * n + D ∧ 2 * n ≤ 2 * (rnd n D * D) + D := by
  have h := Nat.div_add_mod n D
  have hm := Nat.mod_lt n hD
  rcases rnd_cases n hD with ⟨e, h2⟩ | ⟨e, h2⟩
  · rw [e]
    rw [Nat.mul_comm] at h
    generalize n / D * D = z at *
    omega
  · rw [e, Nat.add_mul, Nat.one_mul]
    rw [Nat.mul_comm] at h
    generalize n / D * D = z at *
    omega
/-- a literal's real, times the power of ten: less than a quarter off the whole number -/
theorem near_mul {b n k : Nat} (h : Near b n (10 ^ k)) (hn : n < 1000000000000000) (h1 : 1 ≤ k) (h6 : k ≤ 6) :
    ∃ r c F : Nat, floatBits .mul .f64 b (powT k) = some r ∧ fd.read r = .number false c (-(F : Int)) ∧ c < 9007199254740992 ∧ 4 * c < (4 * n + 1) * 2 ^ F ∧ 4 * n * 2 ^ F < 4 * c + 2 ^ F := by
  obtain ⟨c, E, r1, c1, c2, hE1, hE2, b1, b2⟩ := h
  obtain ⟨J, r2, hJ1, hJ2, m1, m2⟩ := powT_read h1 h6
  have hP := pow10_ge h1
  generalize 10 ^ k = P at *
  obtain ⟨N, hN⟩ : ∃ N, N = c * (P * 2 ^ J) := ⟨_, rfl⟩
  have hmul : floatBits .mul .f64 b (powT k) = some (fd.nearest false N (-(E : Int) + -(J : Int))) := by
    show ((fd.read b).product (fd.read (powT k))).map fd.write = _
    rw [r1, r2, hN]
    rfl
  have hN1 : 2 ^ 104 ≤ N := by rw [hN, show (2 : Nat) ^ 104 = 4503599627370496 * 4503599627370496 by rfl]; exact Nat.mul_le_mul c1 m1
  have hN2 : N < 2 ^ 106 := by rw [hN, show (2 : Nat) ^ 106 = 9007199254740992 * 9007199254740992 by rfl]; exact Nat.mul_lt_mul'' c2 m2
  have hN0 : N ≠ 0 := by have := Nat.two_pow_pos 104; omega
  have hl1 : 104 ≤ N.log2 := (Nat.le_log2 hN0).2 hN1
  have hl2 : N.log2 < 106 := (Nat.log2_lt hN0).2 hN2
  obtain ⟨d, hd⟩ : ∃ d, N.log2 = 52 + d := ⟨N.log2 - 52, by omega⟩
  have hd1 : 52 ≤ d ∧ d ≤ 53 := by omega
  have hNd1 : 2 ^ (52 + d) ≤ N := by rw [← hd]; exact Nat.log2_self_le hN0
  have hNd2 : N < 2 ^ (53 + d) := by
    have : N < 2 ^ (N.log2 + 1) := Nat.lt_log2_self
    rw [hd] at this
    rw [show 53 + d = 52 + d + 1 by omega]
    exact this
  -- the size
  have hX := Nat.two_pow_pos E
  have hcP : c * P < 2 ^ (50 + E) := by
    have e1 : 4503599627370496 * P ≤ c * P := Nat.mul_le_mul_right _ c1
    have e2 : n * 2 ^ E ≤ 999999999999999 * 2 ^ E := Nat.mul_le_mul_right _ (by omega)
    rw [Nat.pow_add, show (2 : Nat) ^ 50 = 1125899906842624 by rfl]
    generalize n * 2 ^ E = y at *
    generalize 2 ^ E = X at *
    generalize c * P = z at *
    omega
  have hF : d + 3 ≤ E + J := by
    have e1 : N < 2 ^ (50 + E + J) := by
      rw [hN, ← Nat.mul_assoc, Nat.pow_add _ (50 + E)]
      exact Nat.mul_lt_mul_of_pos_right hcP (Nat.two_pow_pos _)
    have e2 : (2 : Nat) ^ (52 + d) < 2 ^ (50 + E + J) := Nat.lt_of_le_of_lt hNd1 e1
    have := (Nat.pow_lt_pow_iff_right (a := 2) (by omega)).1 e2
    omega
  obtain ⟨F, hF2⟩ : ∃ F, F + d = E + J := ⟨E + J - d, by omega⟩
  have hb := rnd_bounds (n := N) (lo := 4503599627370496) (hi := 9007199254740992) (Nat.two_pow_pos d) (by rw [show 4503599627370496 = 2 ^ 52 by rfl, ← Nat.pow_add]; exact hNd1) (by rw [show 9007199254740992 = 2 ^ 53 by rfl, ← Nat.pow_add]; exact hNd2)
  have hh := rnd_half N (Nat.two_pow_pos d)
  obtain ⟨R, hR⟩ : ∃ R, rnd N (2 ^ d) = R := ⟨_, rfl⟩
  have hread := nearest_normal (N := N) (d := d) (R := R) (place := -(E : Int) + -(J : Int)) (last := -(F : Int)) (by omega) hd hR (by omega) (by omega) (by omega) (by rw [← hR]; exact hb.1) (by rw [← hR]; exact hb.2)
  rw [hR] at hb hh
  have hJp := Nat.two_pow_pos J
  have hA : 2 * (R * 2 ^ E) ≤ 2 * (c * P * 2 ^ F) + 2 ^ E ∧ 2 * (c * P * 2 ^ F) ≤ 2 * (R * 2 ^ E) + 2 ^ E := by
    have g1 : R * 2 ^ d * 2 ^ F = R * 2 ^ E * 2 ^ J := by rw [Nat.mul_assoc, Nat.mul_assoc, ← Nat.pow_add, ← Nat.pow_add, Nat.add_comm d F, hF2]
    have g2 : N * 2 ^ F = c * P * 2 ^ F * 2 ^ J := by rw [hN]; generalize 2 ^ J = j; generalize 2 ^ F = f; rw [← Nat.mul_assoc, Nat.mul_assoc (c * P), Nat.mul_comm j f, ← Nat.mul_assoc (c * P)]
    have g3 : 2 ^ d * 2 ^ F = 2 ^ E * 2 ^ J := by rw [← Nat.pow_add, ← Nat.pow_add, Nat.add_comm d F, hF2]
    have k1 := Nat.mul_le_mul_right (2 ^ F) hh.1
    have k2 := Nat.mul_le_mul_right (2 ^ F) hh.2
    rw [Nat.add_mul, Nat.mul_assoc, Nat.mul_assoc 2 N, g1, g2, g3, ← Nat.mul_assoc, ← Nat.mul_assoc 2 (c * P * 2 ^ F), ← Nat.add_mul] at k1
    rw [Nat.add_mul, Nat.mul_assoc, Nat.mul_assoc 2 (R * 2 ^ d), g1, g2, g3, ← Nat.mul_assoc, ← Nat.mul_assoc 2 (R * 2 ^ E), ← Nat.add_mul] at k2
    exact ⟨Nat.le_of_mul_le_mul_right k1 hJp, Nat.le_of_mul_le_mul_right k2 hJp⟩
  have hfin : 4 * R < (4 * n + 1) * 2 ^ F ∧ 4 * n * 2 ^ F < 4 * R + 2 ^ F := by
    have e3 : P * 9007199254740991 ≤ 2000000000000000 * 2 ^ E := by
      have e1 : 4503599627370496 * P ≤ c * P := Nat.mul_le_mul_right _ c1
      have e2 : n * 2 ^ E ≤ 999999999999999 * 2 ^ E := Nat.mul_le_mul_right _ (by omega)
      generalize n * 2 ^ E = y at *
      generalize 2 ^ E = X at *
      generalize c * P = z at *
      omega
    have hY : 8 ≤ 2 ^ F := by
      have := Nat.pow_le_pow_right (n := 2) (by omega) (show 3 ≤ F by omega)
      exact this
    have s1 := Nat.mul_le_mul_right (2 ^ F) b1
    have s2 := Nat.mul_le_mul_right (2 ^ F) b2
    have s3 := Nat.mul_le_mul_right (2 ^ F) e3
    have s4 := Nat.mul_le_mul_left (2 ^ E) hY
    rw [Nat.add_mul, Nat.mul_assoc, Nat.mul_assoc 2 (n * 2 ^ E)] at s1
    rw [Nat.add_mul, Nat.mul_assoc, Nat.mul_assoc 2 (c * P)] at s2
    rw [Nat.mul_assoc, Nat.mul_comm 9007199254740991, ← Nat.mul_assoc, Nat.mul_assoc 2000000000000000] at s3
    have t1 : 4 * (R * 2 ^ E) < 4 * (n * 2 ^ E * 2 ^ F) + 2 ^ E * 2 ^ F ∧ 4 * (n * 2 ^ E * 2 ^ F) < 4 * (R * 2 ^ E) + 2 ^ E * 2 ^ F := by
      have hz : 0 < 2 ^ E * 2 ^ F := Nat.mul_pos hX (Nat.two_pow_pos _)
      generalize n * 2 ^ E * 2 ^ F = y at *
      generalize 2 ^ E * 2 ^ F = z at *
      generalize P * 2 ^ F = p at *
      generalize c * P * 2 ^ F = q at *
      generalize R * 2 ^ E = a at *
      generalize 2 ^ E = X at *
      omega
    have u1 : 4 * R * 2 ^ E < (4 * n + 1) * 2 ^ F * 2 ^ E := by
      have e1 : (4 * n + 1) * 2 ^ F * 2 ^ E = 4 * (n * 2 ^ E * 2 ^ F) + 2 ^ E * 2 ^ F := by
        rw [Nat.add_mul, Nat.add_mul, Nat.one_mul, Nat.mul_comm (2 ^ F) (2 ^ E), Nat.mul_assoc 4, Nat.mul_assoc 4, Nat.mul_assoc n, Nat.mul_assoc n, Nat.mul_comm (2 ^ F) (2 ^ E)]
      rw [e1, Nat.mul_assoc]
      exact t1.1
    have u2 : 4 * n * 2 ^ F * 2 ^ E < (4 * R + 2 ^ F) * 2 ^ E := by
      rw [Nat.add_mul, Nat.mul_comm (2 ^ F) (2 ^ E), Nat.mul_assoc 4 R, Nat.mul_assoc 4 n, Nat.mul_assoc 4, Nat.mul_assoc n, Nat.mul_comm (2 ^ F) (2 ^ E), ← Nat.mul_assoc n]
      exact t1.2
    exact ⟨Nat.lt_of_mul_lt_mul_right u1, Nat.lt_of_mul_lt_mul_right u2⟩
  refine ⟨fd.nearest false N (-(E : Int) + -(J : Int)), ?_⟩
  by_cases hc : R < 9007199254740992
  · rw [if_pos hc] at hread
    exact ⟨R, F, hmul, hread, hc, hfin.1, hfin.2⟩
  · obtain rfl : R = 9007199254740992 := by omega
    rw [if_neg hc] at hread
    obtain ⟨F', rfl⟩ : ∃ F', F = F' + 1 := ⟨F - 1, by omega⟩
    refine ⟨4503599627370496, F', hmul, ?_, by omega, ?_, ?_⟩
    · rw [hread]
      congr 1
      omega
    · have := hfin.1
      rw [Nat.pow_succ, ← Nat.mul_assoc] at this
      omega
    · have := hfin.2
      rw [Nat.pow_succ, ← Nat.mul_assoc] at this
      omega
/-! literals -/
/-- the real of the literal of n by ten to the power of k -/
def quoW (n k : Nat) : Nat := arN .quo (floatOfInt .f64 (n : Int)) (powT k)
/-- the word b is read of the literal of n by ten to the power of k -/
def LitIs (b k n : Nat) : Prop := 1 ≤ k ∧ k ≤ 6 ∧ n < 1000000000000000 ∧ quoW n k = b
theorem quoW_zero {k : Nat} (h1 : 1 ≤ k) (h6 : k ≤ 6) : quoW 0 k = 0 := by
  have hk : k = 1 ∨ k = 2 ∨ k = 3 ∨ k = 4 ∨ k = 5 ∨ k = 6 := by omega
  rcases hk with rfl | rfl | rfl | rfl | rfl | rfl <;> decide
theorem LitIs.near {b k n : Nat} (h : LitIs b k n) : (n = 0 ∧ b = 0) ∨ (0 < n ∧ Near b n (10 ^ k)) := by
  obtain ⟨h1, h6, hn, hb⟩ := h
  rcases Nat.eq_zero_or_pos n with h0 | h0
  · subst h0
    rw [quoW_zero h1 h6] at hb
    exact .inl ⟨rfl, hb.symm⟩
  · right
    rw [← hb]
    exact ⟨h0, quo_near h0 hn h1 h6⟩
theorem read_zero : fd.read 0 = .number false 0 (-1074) := by decide
theorem near_not_zero {n P : Nat} (h : Near 0 n P) : False := by
  obtain ⟨c, E, r1, c1, _⟩ := h
  rw [read_zero] at r1
  injection r1 with _ e1 _
  omega

/-! the floor of a real -/
def flW (r : Nat) : Nat := fd.write ((fd.read r).integral .down)
theorem cut_down (n drop : Nat) : Toward.down.cut false n drop = n / 2 ^ drop := by
  simp only [Toward.cut, Bool.false_and, Bool.toNat_false, Nat.add_zero, Nat.shiftLeft_eq, Nat.one_mul]
  rcases Nat.le_total drop (n.log2 + 2) with hl | hl
  · rw [Nat.min_eq_left hl]
  · rw [Nat.min_eq_right hl]
    have h1 : n < 2 ^ (n.log2 + 1) := Nat.lt_log2_self
    have h2 : 2 ^ (n.log2 + 1) ≤ 2 ^ (n.log2 + 2) := Nat.pow_le_pow_right (by omega) (by omega)
    have h3 : 2 ^ (n.log2 + 2) ≤ 2 ^ drop := Nat.pow_le_pow_right (by omega) hl
    rw [Nat.div_eq_of_lt (by omega), Nat.div_eq_of_lt (by omega)]
/-- the whole part of a number -/
def whV (c : Nat) (e : Int) : Nat := (c <<< e.toNat) / 2 ^ (-e).toNat
theorem flW_num {r c : Nat} {e : Int} (h : fd.read r = .number false c e) : flW r = fd.nearest false (whV c e) 0 := by
  unfold flW
  rw [h]
  simp only [Datum.integral, Format.write]
  rw [cut_down]
  rfl
def w15 : Nat := 4831355200913801216
theorem w15_read : fd.read w15 = .number false 8000000000000000 (-3) := by decide
theorem w15_int : IsI w15 1000000000000000 := ⟨false, -3, by rw [w15_read]; rfl, by omega, by omega, fun _ => rfl, fun h => by omega⟩
theorem floor_or {r c : Nat} {e : Int} (h : fd.read r = .number false c e) :
    (whV c e < 9007199254740992 ∧ IsI (flW r) (whV c e)) ∨ (9007199254740992 ≤ whV c e ∧ fd.order (flW r) w15 = some .gt ∧ nanW (flW r) = false) := by
  have hr := read_num h
  rw [flW_num h]
  rcases Nat.lt_or_ge (whV c e) 9007199254740992 with hV | hV
  · left
    refine ⟨hV, isI_nearest (Z := 0) (by omega) (fun _ => rfl) (fun h => by omega) (by omega) (by omega) (by simp)⟩
  · right
    refine ⟨hV, ?_⟩
    have he : 0 < e := by
      rcases Int.lt_or_le 0 e with h' | h'
      · exact h'
      · exfalso
        unfold whV at hV
        rw [show e.toNat = 0 by omega, Nat.shiftLeft_zero] at hV
        have := Nat.div_le_self c (2 ^ (-e).toNat)
        omega
    have hVe : whV c e = c * 2 ^ e.toNat := by
      unfold whV
      rw [show (-e).toNat = 0 by omega, Nat.pow_zero, Nat.div_one, Nat.shiftLeft_eq]
    have hc0 : 0 < c := by
      rcases Nat.eq_zero_or_pos c with h0 | h0
      · rw [hVe, h0, Nat.zero_mul] at hV; omega
      · exact h0
    obtain ⟨K, last, e1, e2, e3, e4, e5, e6⟩ := nearest_exact false (mag := whV c e) (place := 0) (M := c) (E := e) (Z := 0) hc0 hr.1 hr.2.1 hr.2.2 (by omega) (by omega)
      (by rw [hVe, show ((0 : Int) + 0).toNat = 0 by omega, Nat.pow_zero, Nat.mul_one, Int.add_zero])
    have hlast : 1 ≤ last := by
      have h1 : 53 ≤ (whV c e).log2 := (Nat.le_log2 (by omega)).2 hV
      rw [hVe, log2_mul_pow hc0] at h1
      omega
    refine ⟨?_, by unfold nanW; rw [e1]; rfl⟩
    unfold Format.order
    rw [e1, w15_read]
    simp only [Datum.order]
    congr 1
    rw [Int.min_eq_right (by omega : (-3 : Int) ≤ last), show (-3 - -3 : Int).toNat = 0 by omega, show (last - -3).toNat = last.toNat + 3 by omega]
    have hk : K * 2 ^ last.toNat = whV c e := by
      rw [e4, hVe, Nat.mul_assoc, ← Nat.pow_add, show (e - last).toNat + last.toNat = e.toNat by omega]
    have : signed false K (last.toNat + 3) = ((whV c e * 8 : Nat) : Int) := by
      unfold signed
      rw [if_neg (by decide), Nat.shiftLeft_eq, Nat.pow_add, ← Nat.mul_assoc, hk]
    rw [this, show signed false 8000000000000000 0 = 8000000000000000 by decide]
    exact Int.compare_eq_gt.2 (by omega)

/-! the product with a power of ten, of a literal's real -/
theorem whV_neg {c F : Nat} : whV c (-(F : Int)) = c / 2 ^ F := by
  unfold whV
  rw [show (-(F : Int)).toNat = 0 by omega, Nat.shiftLeft_zero, show (- -(F : Int)).toNat = F by omega]
theorem LitIs.floor {b k n : Nat} (h : LitIs b k n) : ∃ r V : Nat, floatBits .mul .f64 b (powT k) = some r ∧ nanW r = false ∧ IsI (flW r) V ∧ (V = n ∨ V + 1 = n) := by
  have h1 := h.1
  have h6 := h.2.1
  rcases h.near with ⟨rfl, rfl⟩ | ⟨h0, hn⟩
  · refine ⟨0, 0, ?_, by decide, ?_, .inl rfl⟩
    · have hk : k = 1 ∨ k = 2 ∨ k = 3 ∨ k = 4 ∨ k = 5 ∨ k = 6 := by omega
      rcases hk with rfl | rfl | rfl | rfl | rfl | rfl <;> decide
    · rcases floor_or read_zero with ⟨_, h3⟩ | ⟨h3, _⟩
      · have : whV 0 (-1074) = 0 := by unfold whV; rw [Nat.zero_shiftLeft, Nat.zero_div]
        rw [this] at h3
        exact h3
      · have : whV 0 (-1074) = 0 := by unfold whV; rw [Nat.zero_shiftLeft, Nat.zero_div]
        omega
  · obtain ⟨r, c, F, hr, hread, hc, b1, b2⟩ := near_mul hn h.2.2.1 h1 h6
    have hY := Nat.two_pow_pos F
    have hV := whV_neg (c := c) (F := F)
    have e1 := Nat.div_add_mod c (2 ^ F)
    have e2 := Nat.mod_lt c hY
    rw [Nat.mul_comm] at e1
    have hb1 : c / 2 ^ F ≤ n := by
      rcases Nat.lt_or_ge n (c / 2 ^ F) with hlt | hge
      · have : (n + 1) * 2 ^ F ≤ c / 2 ^ F * 2 ^ F := Nat.mul_le_mul_right _ hlt
        rw [Nat.add_mul, Nat.one_mul] at this
        rw [Nat.add_mul, Nat.one_mul, Nat.mul_assoc] at b1
        omega
      · exact hge
    have hb2 : n ≤ c / 2 ^ F + 1 := by
      rcases Nat.lt_or_ge (c / 2 ^ F + 1) n with hlt | hge
      · have : (c / 2 ^ F + 1 + 1) * 2 ^ F ≤ n * 2 ^ F := Nat.mul_le_mul_right _ hlt
        rw [Nat.add_mul, Nat.add_mul, Nat.one_mul] at this
        rw [Nat.mul_assoc] at b2
        omega
      · exact hge
    have hnn := h.2.2.1
    refine ⟨r, c / 2 ^ F, hr, by unfold nanW; rw [hread]; rfl, ?_, by omega⟩
    rcases floor_or hread with ⟨_, h3⟩ | ⟨h3, _⟩
    · rw [hV] at h3; exact h3
    · rw [hV] at h3; omega
/-- one literal with so many places at most -/
theorem LitIs.uniq {b k n m : Nat} (h : LitIs b k n) (g : LitIs b k m) : n = m := by
  rcases h.near with ⟨rfl, rfl⟩ | ⟨h0, hn⟩
  · rcases g.near with ⟨rfl, _⟩ | ⟨g0, gn⟩
    · rfl
    · exact (near_not_zero gn).elim
  · rcases g.near with ⟨rfl, rfl⟩ | ⟨g0, gn⟩
    · exact (near_not_zero hn).elim
    · obtain ⟨r, c, F, hr, hread, hc, b1, b2⟩ := near_mul hn h.2.2.1 h.1 h.2.1
      obtain ⟨r', c', F', hr', hread', hc', d1, d2⟩ := near_mul gn g.2.2.1 g.1 g.2.1
      rw [hr] at hr'
      injection hr' with hr'
      subst hr'
      rw [hread] at hread'
      injection hread' with _ e1 e2
      subst e1
      have : F = F' := by omega
      subst this
      have hY := Nat.two_pow_pos F
      rw [Nat.add_mul, Nat.one_mul] at b1 d1
      rcases Nat.lt_trichotomy n m with hlt | he | hgt
      · have := Nat.mul_le_mul_right (2 ^ F) (show 4 * n + 4 ≤ 4 * m by omega)
        rw [Nat.add_mul] at this
        omega
      · exact he
      · have := Nat.mul_le_mul_right (2 ^ F) (show 4 * m + 4 ≤ 4 * n by omega)
        rw [Nat.add_mul] at this
        omega
theorem Near.small {b n P : Nat} {c E : Nat} (c1 : 4503599627370496 ≤ c) (hn : n < 1000000000000000) (b1 : 2 * (c * P) ≤ 2 * (n * 2 ^ E) + P) : P * 9007199254740991 ≤ 2000000000000000 * 2 ^ E := by
  have e1 : 4503599627370496 * P ≤ c * P := Nat.mul_le_mul_right _ c1
  have e2 : n * 2 ^ E ≤ 999999999999999 * 2 ^ E := Nat.mul_le_mul_right _ (by omega)
  generalize n * 2 ^ E = y at *
  generalize 2 ^ E = X at *
  generalize c * P = z at *
  omega
/-- literals of one real with fewer and with more places are one number -/
theorem LitIs.across {b k l n m : Nat} (h : LitIs b k n) (g : LitIs b l m) (hkl : k < l) : n * 10 ^ (l - k) = m := by
  rcases h.near with ⟨rfl, rfl⟩ | ⟨h0, hn⟩
  · rcases g.near with ⟨rfl, _⟩ | ⟨g0, gn⟩
    · simp
    · exact (near_not_zero gn).elim
  · rcases g.near with ⟨rfl, rfl⟩ | ⟨g0, gn⟩
    · exact (near_not_zero hn).elim
    · obtain ⟨c, E, r1, c1, c2, hE1, hE2, b1, b2⟩ := hn
      obtain ⟨c', E', r1', c1', c2', hE1', hE2', d1, d2⟩ := gn
      rw [r1] at r1'
      injection r1' with _ e1 e2
      subst e1
      have : E = E' := by omega
      subst this
      have hsm := Near.small (b := b) c1 g.2.2.1 d1
      have hX := Nat.two_pow_pos E
      have hPQ : 10 ^ l = 10 ^ k * 10 ^ (l - k) := by rw [← Nat.pow_add]; congr 1; omega
      have hQ : 1 ≤ 10 ^ (l - k) := Nat.pos_of_ne_zero (by simp)
      rw [hPQ] at d1 d2 hsm
      generalize 10 ^ (l - k) = q at *
      generalize 10 ^ k = P at *
      have s1 := Nat.mul_le_mul_right q b1
      have s2 := Nat.mul_le_mul_right q b2
      rw [Nat.add_mul, Nat.mul_assoc, Nat.mul_assoc 2 (n * 2 ^ E), Nat.mul_assoc c, Nat.mul_right_comm n] at s1
      rw [Nat.add_mul, Nat.mul_assoc, Nat.mul_assoc 2 (c * P), Nat.mul_assoc c, Nat.mul_right_comm n] at s2
      generalize n * q = x at *
      have t1 : x * 2 ^ E < m * 2 ^ E + 2 ^ E ∧ m * 2 ^ E < x * 2 ^ E + 2 ^ E := by
        generalize x * 2 ^ E = u at *
        generalize m * 2 ^ E = v at *
        generalize c * (P * q) = z at *
        generalize P * q = p at *
        generalize 2 ^ E = X at *
        omega
      rcases Nat.lt_trichotomy x m with hlt | he | hgt
      · have := Nat.mul_le_mul_right (2 ^ E) (show x + 1 ≤ m by omega)
        rw [Nat.add_mul, Nat.one_mul] at this
        omega
      · exact he
      · have := Nat.mul_le_mul_right (2 ^ E) (show m + 1 ≤ x by omega)
        rw [Nat.add_mul, Nat.one_mul] at this
        omega
/-- a literal's real is no greater than the bound -/
theorem LitIs.bound {b k n : Nat} (h : LitIs b k n) : fd.order b w15 = some .lt ∧ nanW b = false ∧ b < 9223372036854775808 := by
  have hb64 : b < 18446744073709551616 := by
    rw [← h.2.2.2]
    unfold quoW arN
    split
    · rename_i r hr
      have : r < 2 ^ 64 := by
        have := floatBits_wf hr
        simpa [Lit.wf] using this
      unfold toN
      split
      · exact this
      · omega
    · omega
  rcases h.near with ⟨rfl, rfl⟩ | ⟨h0, hn⟩
  · exact ⟨by decide, by decide, by omega⟩
  · obtain ⟨c, E, r1, c1, c2, hE1, hE2, b1, b2⟩ := hn
    have hP := pow10_ge h.1
    have hnan : nanW b = false := by unfold nanW; rw [r1]; rfl
    refine ⟨?_, hnan, ?_⟩
    · unfold Format.order
      rw [r1, w15_read]
      simp only [Datum.order]
      congr 1
      rw [Int.min_eq_left (by omega : -(E : Int) ≤ -3), show (-(E : Int) - -(E : Int)).toNat = 0 by omega, show (-3 - -(E : Int)).toNat = E - 3 by omega]
      have hX : 2 ^ E = 8 * 2 ^ (E - 3) := by
        rw [show (8 : Nat) = 2 ^ 3 by rfl, ← Nat.pow_add]; congr 1; omega
      have hc : c < 8000000000000000 * 2 ^ (E - 3) := by
        have hnn := h.2.2.1
        rw [hX] at b1
        have e2 : n * (8 * 2 ^ (E - 3)) ≤ 999999999999999 * (8 * 2 ^ (E - 3)) := Nat.mul_le_mul_right _ (by omega)
        have e3 : c * 10 ≤ c * 10 ^ k := Nat.mul_le_mul_left _ hP
        have e4 : 10 ^ k * 1 ≤ 10 ^ k * c := Nat.mul_le_mul_left _ (by omega)
        rw [Nat.mul_comm (10 ^ k) c] at e4
        have hZ := Nat.two_pow_pos (E - 3)
        generalize n * (8 * 2 ^ (E - 3)) = y at *
        generalize 2 ^ (E - 3) = Z at *
        generalize c * 10 ^ k = z at *
        generalize 10 ^ k = P at *
        omega
      unfold signed
      rw [if_neg (by decide), if_neg (by decide), Nat.shiftLeft_zero, Nat.shiftLeft_eq]
      exact Int.compare_eq_lt.2 (by exact Int.ofNat_lt.2 hc)
    · have hcan := (read_canon hb64 r1).1
      unfold Format.word at hcan
      rw [if_neg (by decide)] at hcan
      omega
/-- a real, times a power of ten, rounded -/
theorem mul_round {b c E k : Nat} (r1 : fd.read b = .number false c (-(E : Int))) (c1 : 4503599627370496 ≤ c) (c2 : c < 9007199254740992) (hE2 : E ≤ 72) (hcP' : c * 10 ^ k < 2 ^ (50 + E)) (h1 : 1 ≤ k) (h6 : k ≤ 6) :
    ∃ r c' F : Nat, floatBits .mul .f64 b (powT k) = some r ∧ fd.read r = .number false c' (-(F : Int)) ∧ c' < 9007199254740992 ∧ 2 * (c' * 2 ^ E) ≤ 2 * (c * 10 ^ k * 2 ^ F) + 2 ^ E := by
  obtain ⟨J, r2, hJ1, hJ2, m1, m2⟩ := powT_read h1 h6
  have hP := pow10_ge h1
  generalize 10 ^ k = P at *
  obtain ⟨N, hN⟩ : ∃ N, N = c * (P * 2 ^ J) := ⟨_, rfl⟩
  have hmul : floatBits .mul .f64 b (powT k) = some (fd.nearest false N (-(E : Int) + -(J : Int))) := by
    show ((fd.read b).product (fd.read (powT k))).map fd.write = _
    rw [r1, r2, hN]
    rfl
  have hN1 : 2 ^ 104 ≤ N := by rw [hN, show (2 : Nat) ^ 104 = 4503599627370496 * 4503599627370496 by rfl]; exact Nat.mul_le_mul c1 m1
  have hN2 : N < 2 ^ 106 := by rw [hN, show (2 : Nat) ^ 106 = 9007199254740992 * 9007199254740992 by rfl]; exact Nat.mul_lt_mul'' c2 m2
  have hN0 : N ≠ 0 := by have := Nat.two_pow_pos 104; omega
  have hl1 : 104 ≤ N.log2 := (Nat.le_log2 hN0).2 hN1
  have hl2 : N.log2 < 106 := (Nat.log2_lt hN0).2 hN2
  obtain ⟨d, hd⟩ : ∃ d, N.log2 = 52 + d := ⟨N.log2 - 52, by omega⟩
  have hd1 : 52 ≤ d ∧ d ≤ 53 := by omega
  have hNd1 : 2 ^ (52 + d) ≤ N := by rw [← hd]; exact Nat.log2_self_le hN0
  have hNd2 : N < 2 ^ (53 + d) := by
    have : N < 2 ^ (N.log2 + 1) := Nat.lt_log2_self
    rw [hd] at this
    rw [show 53 + d = 52 + d + 1 by omega]
    exact this
  -- the size
  have hX := Nat.two_pow_pos E
  have hcP := hcP'
  have hF : d + 3 ≤ E + J := by
    have e1 : N < 2 ^ (50 + E + J) := by
      rw [hN, ← Nat.mul_assoc, Nat.pow_add _ (50 + E)]
      exact Nat.mul_lt_mul_of_pos_right hcP (Nat.two_pow_pos _)
    have e2 : (2 : Nat) ^ (52 + d) < 2 ^ (50 + E + J) := Nat.lt_of_le_of_lt hNd1 e1
    have := (Nat.pow_lt_pow_iff_right (a := 2) (by omega)).1 e2
    omega
  obtain ⟨F, hF2⟩ : ∃ F, F + d = E + J := ⟨E + J - d, by omega⟩
  have hb := rnd_bounds (n := N) (lo := 4503599627370496) (hi := 9007199254740992) (Nat.two_pow_pos d) (by rw [show 4503599627370496 = 2 ^ 52 by rfl, ← Nat.pow_add]; exact hNd1) (by rw [show 9007199254740992 = 2 ^ 53 by rfl, ← Nat.pow_add]; exact hNd2)
  have hh := rnd_half N (Nat.two_pow_pos d)
  obtain ⟨R, hR⟩ : ∃ R, rnd N (2 ^ d) = R := ⟨_, rfl⟩
  have hread := nearest_normal (N := N) (d := d) (R := R) (place := -(E : Int) + -(J : Int)) (last := -(F : Int)) (by omega) hd hR (by omega) (by omega) (by omega) (by rw [← hR]; exact hb.1) (by rw [← hR]; exact hb.2)
  rw [hR] at hb hh
  have hJp := Nat.two_pow_pos J
  have hA : 2 * (R * 2 ^ E) ≤ 2 * (c * P * 2 ^ F) + 2 ^ E ∧ 2 * (c * P * 2 ^ F) ≤ 2 * (R * 2 ^ E) + 2 ^ E := by
    have g1 : R * 2 ^ d * 2 ^ F = R * 2 ^ E * 2 ^ J := by rw [Nat.mul_assoc, Nat.mul_assoc, ← Nat.pow_add, ← Nat.pow_add, Nat.add_comm d F, hF2]
    have g2 : N * 2 ^ F = c * P * 2 ^ F * 2 ^ J := by rw [hN]; generalize 2 ^ J = j; generalize 2 ^ F = f; rw [← Nat.mul_assoc, Nat.mul_assoc (c * P), Nat.mul_comm j f, ← Nat.mul_assoc (c * P)]
    have g3 : 2 ^ d * 2 ^ F = 2 ^ E * 2 ^ J := by rw [← Nat.pow_add, ← Nat.pow_add, Nat.add_comm d F, hF2]
    have k1 := Nat.mul_le_mul_right (2 ^ F) hh.1
    have k2 := Nat.mul_le_mul_right (2 ^ F) hh.2
    rw [Nat.add_mul, Nat.mul_assoc, Nat.mul_assoc 2 N, g1, g2, g3, ← Nat.mul_assoc, ← Nat.mul_assoc 2 (c * P * 2 ^ F), ← Nat.add_mul] at k1
    rw [Nat.add_mul, Nat.mul_assoc, Nat.mul_assoc 2 (R * 2 ^ d), g1, g2, g3, ← Nat.mul_assoc, ← Nat.mul_assoc 2 (R * 2 ^ E), ← Nat.add_mul] at k2
    exact ⟨Nat.le_of_mul_le_mul_right k1 hJp, Nat.le_of_mul_le_mul_right k2 hJp⟩
  refine ⟨fd.nearest false N (-(E : Int) + -(J : Int)), ?_⟩
  by_cases hc : R < 9007199254740992
  · rw [if_pos hc] at hread
    exact ⟨R, F, hmul, hread, hc, hA.1⟩
  · obtain rfl : R = 9007199254740992 := by omega
    rw [if_neg hc] at hread
    obtain ⟨F', rfl⟩ : ∃ F', F = F' + 1 := ⟨F - 1, by omega⟩
    refine ⟨4503599627370496, F', hmul, ?_, by omega, ?_⟩
    · rw [hread]
      congr 1
      omega
    · have := hA.1
      have e : c * P * 2 ^ (F' + 1) = 2 * (c * P * 2 ^ F') := by rw [Nat.pow_succ, ← Nat.mul_assoc, Nat.mul_comm 2]
      rw [e] at this
      omega
/-- a real with a literal of more places is no great number -/
theorem LitIs.far {b k l m : Nat} (g : LitIs b l m) (h1 : 1 ≤ k) (hkl : k < l) : ∃ r V : Nat, floatBits .mul .f64 b (powT k) = some r ∧ nanW r = false ∧ IsI (flW r) V ∧ V ≤ 1000000000000000 := by
  have h6 : k ≤ 6 := by have := g.2.1; omega
  rcases g.near with ⟨rfl, rfl⟩ | ⟨g0, gn⟩
  · obtain ⟨r, V, e1, e2, e3, e4⟩ := (show LitIs 0 k 0 from ⟨h1, h6, by omega, quoW_zero h1 h6⟩).floor
    exact ⟨r, V, e1, e2, e3, by omega⟩
  · obtain ⟨c, E, r1, c1, c2, hE1, hE2, b1, b2⟩ := gn
    have hmm := g.2.2.1
    have hPQ : 10 ^ l = 10 ^ k * 10 ^ (l - k) := by rw [← Nat.pow_add]; congr 1; omega
    have hQ := pow10_ge (k := l - k) (by omega)
    have hsm := Near.small (b := b) c1 hmm b1
    have hX := Nat.two_pow_pos E
    have hcP : c * 10 ^ k * 10 ≤ c * 10 ^ l := by
      rw [hPQ, ← Nat.mul_assoc]
      exact Nat.mul_le_mul_left _ hQ
    have e2 : m * 2 ^ E ≤ 999999999999999 * 2 ^ E := Nat.mul_le_mul_right _ (by omega)
    have hsz : c * 10 ^ k < 2 ^ (50 + E) := by
      rw [Nat.pow_add, show (2 : Nat) ^ 50 = 1125899906842624 by rfl]
      generalize m * 2 ^ E = y at *
      generalize c * 10 ^ k = z at *
      generalize c * 10 ^ l = z' at *
      generalize 10 ^ l = P at *
      generalize 2 ^ E = X at *
      omega
    obtain ⟨r, c', F, hr, hread, hc', hA⟩ := mul_round r1 c1 c2 hE2 hsz h1 h6
    have hY := Nat.two_pow_pos F
    have hV : c' / 2 ^ F ≤ 1000000000000000 := by
      rcases Nat.lt_or_ge 1000000000000000 (c' / 2 ^ F) with hlt | hge
      · exfalso
        have h3 : 1000000000000001 * 2 ^ F ≤ c' := (Nat.le_div_iff_mul_le hY).1 hlt
        have h4 := Nat.mul_le_mul_right (2 ^ E) h3
        have h5 : c * 10 ^ k * 2 ^ F * 10 ≤ (m * 2 ^ E + 10 ^ l) * 2 ^ F := by
          rw [Nat.mul_right_comm]
          refine Nat.mul_le_mul_right _ ?_
          omega
        have h6 := Nat.mul_le_mul_right (2 ^ F) e2
        have h7 := Nat.mul_le_mul_right (2 ^ F) hsm
        rw [Nat.add_mul] at h5
        rw [Nat.mul_assoc 1000000000000001] at h4
        have hYX : 2 ^ E * 1 ≤ 2 ^ E * 2 ^ F := Nat.mul_le_mul_left _ hY
        rw [Nat.mul_right_comm, Nat.mul_assoc 2000000000000000] at h7
        rw [Nat.mul_comm (2 ^ F) (2 ^ E)] at h4
        rw [Nat.mul_assoc 999999999999999] at h6
        generalize c' * 2 ^ E = u at *
        generalize c * 10 ^ k * 2 ^ F = z at *
        generalize 10 ^ l * 2 ^ F = p at *
        generalize m * 2 ^ E * 2 ^ F = y at *
        generalize 2 ^ E * 2 ^ F = t at *
        generalize 2 ^ E = X at *
        omega
      · exact hge
    refine ⟨r, c' / 2 ^ F, hr, by unfold nanW; rw [hread]; rfl, ?_, hV⟩
    rcases floor_or hread with ⟨_, h3⟩ | ⟨h3, _⟩
    · rw [whV_neg] at h3; exact h3
    · rw [whV_neg] at h3; omega

/-! any real below the bound -/
theorem nearest_number {mag : Nat} {place : Int} (h : mag = 0 ∨ place + mag.log2 ≤ 900) : ∃ K last, fd.read (fd.nearest false mag place) = .number false K last := by
  by_cases h0 : mag = 0
  · subst h0
    exact ⟨0, -1074, nearest_zero false place⟩
  · have h := h.resolve_left h0
    unfold Format.nearest
    rw [if_neg h0, fd_lp, fd_fb]
    obtain ⟨last, hlast⟩ : ∃ last, last = max (place + (mag.log2 : Int) - (52 : Nat)) (-1074) := ⟨_, rfl⟩
    simp only
    rw [← hlast, cut_even, Nat.shiftLeft_eq]
    have hml : mag < 2 ^ (mag.log2 + 1) := Nat.lt_log2_self
    have hk : rnd (mag * 2 ^ (place - last).toNat) (2 ^ (last - place).toNat) ≤ 9007199254740992 := by
      refine (rnd_bounds (lo := 0) (Nat.two_pow_pos _) (by omega) ?_).2
      have e1 : mag * 2 ^ (place - last).toNat < 2 ^ (mag.log2 + 1) * 2 ^ (place - last).toNat := Nat.mul_lt_mul_of_pos_right hml (Nat.two_pow_pos _)
      refine Nat.lt_of_lt_of_le e1 ?_
      rw [show 9007199254740992 = 2 ^ 53 by rfl, ← Nat.pow_add, ← Nat.pow_add]
      exact Nat.pow_le_pow_right (by omega) (by omega)
    generalize rnd (mag * 2 ^ (place - last).toNat) (2 ^ (last - place).toNat) = R at *
    obtain ⟨q, hq⟩ : ∃ q : Nat, q = (last - -1074).toNat := ⟨_, rfl⟩
    rw [← hq, fd_bin, fd_inf, Nat.min_eq_left (by omega)]
    have e0 : fd.word false (q * 4503599627370496 + R) = q * 4503599627370496 + R := by unfold Format.word; rw [if_neg (by decide)]
    rw [e0]
    have e2 : ((q * 4503599627370496 + R) / 9223372036854775808 % 2 == 1) = false := by
      rw [show (q * 4503599627370496 + R) / 9223372036854775808 % 2 = 0 by omega]; rfl
    unfold Format.read
    simp only [fd_sw, fd_bin, fd_inf, fd_lp]
    rw [e2, Nat.mod_eq_of_lt (by omega : q * 4503599627370496 + R < 9223372036854775808)]
    split
    · exact ⟨_, _, rfl⟩
    · rw [if_pos (by omega)]
      exact ⟨_, _, rfl⟩
theorem prod_gen {b k c : Nat} {i : Int} (hr : fd.read b = .number false c i) (hlt : fd.order b w15 = some .lt) (h1 : 1 ≤ k) (h6 : k ≤ 6) :
    ∃ r c' e', floatBits .mul .f64 b (powT k) = some r ∧ fd.read r = .number false c' e' := by
  obtain ⟨J, r2, hJ1, hJ2, m1, m2⟩ := powT_read h1 h6
  have hmul : floatBits .mul .f64 b (powT k) = some (fd.nearest false (c * (10 ^ k * 2 ^ J)) (i + -(J : Int))) := by
    show ((fd.read b).product (fd.read (powT k))).map fd.write = _
    rw [hr, r2]
    rfl
  have hn := read_num hr
  have hnum : c * (10 ^ k * 2 ^ J) = 0 ∨ i + -(J : Int) + (c * (10 ^ k * 2 ^ J)).log2 ≤ 900 := by
    rcases Nat.eq_zero_or_pos c with h0 | h0
    · left; rw [h0, Nat.zero_mul]
    · right
      have hci : i ≤ 53 := by
        rcases Int.lt_or_le 53 i with h | h
        · exfalso
          unfold Format.order at hlt
          rw [hr, w15_read] at hlt
          simp only [Datum.order, Option.some.injEq] at hlt
          rw [Int.min_eq_right (by omega : (-3 : Int) ≤ i), Int.compare_eq_lt, show (-3 - -3 : Int).toNat = 0 by omega] at hlt
          unfold signed at hlt
          rw [if_neg (by decide), if_neg (by decide), Nat.shiftLeft_eq, Nat.shiftLeft_zero] at hlt
          have e1 : 1 * 2 ^ 56 ≤ c * 2 ^ (i - -3).toNat := Nat.mul_le_mul h0 (Nat.pow_le_pow_right (by omega) (by omega))
          have e2 : (2 : Nat) ^ 56 = 72057594037927936 := by decide
          omega
        · exact h
      have hlog : (c * (10 ^ k * 2 ^ J)).log2 < 106 := (Nat.log2_lt (Nat.ne_of_gt (Nat.mul_pos h0 (by omega)))).2 (by
        rw [show (2 : Nat) ^ 106 = 9007199254740992 * 9007199254740992 by rfl]
        exact Nat.mul_lt_mul'' hn.1 m2)
      omega
  obtain ⟨K, last, h⟩ := nearest_number hnum
  exact ⟨_, K, last, hmul, h⟩
end Go.As
