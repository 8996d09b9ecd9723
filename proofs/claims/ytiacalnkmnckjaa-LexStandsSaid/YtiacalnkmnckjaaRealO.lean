/- Reals: order, rounding where nothing is lost, sums and products turned about, whole numbers: plain laws over the model's arithmetic. No program is named; the conditions are in each theorem. -/
import Derived.Test.YtiacalnkmnckjaaRealP
import Derived.Laws.Entries
namespace Go.As
open Go Ieee
set_option linter.unusedVariables false
abbrev fd : Format := FloatKind.f64.format
theorem fd_sw : fd.signWeight = 9223372036854775808 := by decide
theorem fd_bin : fd.binade = 4503599627370496 := by decide
theorem fd_inf : fd.infRung = 9218868437227405312 := by decide
theorem fd_lp : fd.leastPlace = -1074 := by decide
theorem fd_fb : fd.fractionBits = 52 := rfl

/-- what a word stands for lies within -/
theorem read_num {b : Nat} {s : Bool} {m : Nat} {i : Int} (h : fd.read b = .number s m i) : m < 9007199254740992 ∧ -1074 ≤ i ∧ i ≤ 971 := by
  unfold Format.read at h
  simp only [fd_sw, fd_bin, fd_inf, fd_lp] at h
  split at h
  · injection h with h1 h2 h3
    omega
  · split at h
    · injection h with h1 h2 h3
      have : b % 9223372036854775808 / 4503599627370496 < 2047 := by omega
      have := Nat.mod_lt (b % 9223372036854775808) (show 4503599627370496 > 0 by omega)
      omega
    · split at h <;> cases h

/-- greater than any number -/
def Big (B : Nat) : Prop := 0 < B ∧ ∀ m k : Nat, m < 9007199254740992 → k ≤ 2045 → m <<< k < B
theorem big_is : ∃ B, Big B := by
  obtain ⟨e, he⟩ : ∃ e : Nat, e = 2045 := ⟨_, rfl⟩
  refine ⟨9007199254740992 * 2 ^ e, Nat.mul_pos (by omega) (Nat.two_pow_pos _), fun m k hm hk => ?_⟩
  rw [← he] at hk
  rw [Nat.shiftLeft_eq]
  exact Nat.mul_lt_mul_of_lt_of_le hm (Nat.pow_le_pow_right (by omega) hk) (Nat.two_pow_pos _)
/-- a datum's size in the least units -/
def val (B : Nat) : Datum → Int
  | .number s m i => signed s m (i + 1074).toNat
  | .infinity s => if s then -(B : Int) else B
  | .nan _ _ => 0
theorem signed_add (s : Bool) (m a b : Nat) : signed s m (a + b) = signed s m a * 2 ^ b := by
  unfold signed
  rw [Nat.shiftLeft_add]
  cases s
  · simp [Nat.shiftLeft_eq]
  · simp [Nat.shiftLeft_eq, Int.neg_mul]
theorem signed_neg (s : Bool) (m a : Nat) : signed (!s) m a = - signed s m a := by
  unfold signed
  cases s <;> simp
theorem compare_mul {x y : Int} {k : Nat} : compare (x * 2 ^ k) (y * 2 ^ k) = compare x y := by
  have hk : (0 : Int) < 2 ^ k := Int.pow_pos (by omega)
  rcases Int.lt_trichotomy x y with h | h | h
  · rw [Int.compare_eq_lt.2 h, Int.compare_eq_lt.2 (Int.mul_lt_mul_of_pos_right h hk)]
  · rw [h]; simp
  · rw [Int.compare_eq_gt.2 h, Int.compare_eq_gt.2 (Int.mul_lt_mul_of_pos_right h hk)]
theorem val_lt {B : Nat} (hB : Big B) {b : Nat} {s : Bool} {m : Nat} {i : Int} (h : fd.read b = .number s m i) : - (B : Int) < signed s m (i + 1074).toNat ∧ signed s m (i + 1074).toNat < (B : Int) := by
  obtain ⟨h1, h2, h3⟩ := read_num h
  have := hB.2 m (i + 1074).toNat h1 (by omega)
  unfold signed
  generalize m <<< (i + 1074).toNat = z at *
  cases s <;> simp only [Bool.false_eq_true, if_false, if_true] <;> omega
theorem order_val {B : Nat} (hB : Big B) {x y : Nat} (hx : (fd.read x).isNaN = false) (hy : (fd.read y).isNaN = false) : fd.order x y = some (compare (val B (fd.read x)) (val B (fd.read y))) := by
  unfold Format.order
  have hB0 := hB.1
  cases hdx : fd.read x with
  | nan s p => rw [hdx] at hx; cases hx
  | infinity s =>
    cases hdy : fd.read y with
    | nan s p => rw [hdy] at hy; cases hy
    | infinity t =>
      cases s <;> cases t <;> simp only [Datum.order, val, Bool.toNat, if_true, Bool.false_eq_true, if_false, cond_true, cond_false] <;> congr 1
      · simp
      · rw [Int.compare_eq_gt.2 (by omega)]; rfl
      · rw [Int.compare_eq_lt.2 (by omega)]; rfl
      · simp
    | number t n j =>
      have := val_lt hB hdy
      cases s <;> simp only [Datum.order, val, if_true, Bool.false_eq_true, if_false] <;> congr 1
      · rw [Int.compare_eq_gt.2 this.2]
      · rw [Int.compare_eq_lt.2 this.1]
  | number s m i =>
    have h1 := val_lt hB hdx
    cases hdy : fd.read y with
    | nan s p => rw [hdy] at hy; cases hy
    | infinity t =>
      cases t <;> simp only [Datum.order, val, if_true, Bool.false_eq_true, if_false] <;> congr 1
      · rw [Int.compare_eq_lt.2 h1.2]
      · rw [Int.compare_eq_gt.2 h1.1]
    | number t n j =>
      have h2 := read_num hdx
      have h3 := read_num hdy
      simp only [Datum.order, val]
      congr 1
      rw [show (i + 1074).toNat = (i - min i j).toNat + (min i j + 1074).toNat by omega, show (j + 1074).toNat = (j - min i j).toNat + (min i j + 1074).toNat by omega, signed_add, signed_add, compare_mul]
theorem order_nan {x y : Nat} (h : (fd.read x).isNaN = true ∨ (fd.read y).isNaN = true) : fd.order x y = none := by
  unfold Format.order
  cases hx : fd.read x with
  | nan s p => cases fd.read y <;> rfl
  | infinity s => cases hy : fd.read y with
    | nan t q => rfl
    | _ => rw [hx, hy] at h; simp [Datum.isNaN] at h
  | number s m i => cases hy : fd.read y with
    | nan t q => rfl
    | _ => rw [hx, hy] at h; simp [Datum.isNaN] at h
/-- the word with the other sign -/
def negW (b : Nat) : Nat := if b < 9223372036854775808 then b + 9223372036854775808 else b - 9223372036854775808
theorem xor_lo {b : Nat} (h : b < 9223372036854775808) : b ^^^ 9223372036854775808 = b + 9223372036854775808 := by
  have e0 := Nat.two_pow_add_eq_or_of_lt (i := 63) (b := b) h 1
  rw [Nat.mul_one] at e0
  rw [Nat.add_comm, show 9223372036854775808 = 2 ^ 63 by rfl, e0]
  apply Nat.eq_of_testBit_eq
  intro i
  rw [Nat.testBit_xor, Nat.testBit_or, Nat.testBit_two_pow]
  by_cases hi : 63 = i
  · subst hi
    rw [Nat.testBit_lt_two_pow h]
    simp
  · simp [hi]
theorem xor_neg {b : Nat} (h : b < 18446744073709551616) : b ^^^ 9223372036854775808 = negW b := by
  unfold negW
  split
  · rename_i hl; exact xor_lo hl
  · rename_i hl
    have := xor_lo (b := b - 9223372036854775808) (by omega)
    rw [show b - 9223372036854775808 + 9223372036854775808 = b by omega] at this
    have h2 : b ^^^ 9223372036854775808 = (b - 9223372036854775808 ^^^ 9223372036854775808) ^^^ 9223372036854775808 := by rw [this]
    rw [Nat.xor_assoc, Nat.xor_self, Nat.xor_zero] at h2
    exact h2
theorem negW_lt {b : Nat} (h : b < 18446744073709551616) : negW b < 18446744073709551616 := by unfold negW; split <;> omega
theorem negW_negW {b : Nat} (h : b < 18446744073709551616) : negW (negW b) = b := by unfold negW; (repeat' split) <;> omega
theorem bits_neg {b : Nat} (h : b < 18446744073709551616) : bits .xor .u64 (b : Int) 9223372036854775808 = (negW b : Int) := by
  have e : (BitVec.ofInt 64 (b : Int) ^^^ BitVec.ofInt 64 9223372036854775808).toNat = negW b := by
    rw [BitVec.toNat_xor]
    have h1 : (BitVec.ofInt 64 (b : Int)).toNat = b := by rw [BitVec.toNat_ofInt]; omega
    have h2 : (BitVec.ofInt 64 9223372036854775808).toNat = 9223372036854775808 := by decide
    rw [h1, h2, xor_neg h]
  show IntKind.u64.wrap _ = _
  have h2 := negW_lt h
  have : IntKind.u64.wrap ((negW b : Nat) : Int) = (negW b : Int) := by
    have e3 : ∀ n : Int, IntKind.u64.wrap n = n % 18446744073709551616 := fun n => rfl
    rw [e3]
    omega
  rw [← this]
  congr 1
  exact congrArg Int.ofNat e
theorem read_neg {b : Nat} (h : b < 18446744073709551616) : fd.read (negW b) = (fd.read b).opposite := by
  have e1 : negW b % 9223372036854775808 = b % 9223372036854775808 := by unfold negW; split <;> omega
  have e2 : (negW b / 9223372036854775808 % 2 == 1) = !(b / 9223372036854775808 % 2 == 1) := by
    unfold negW
    split
    · rw [show (b + 9223372036854775808) / 9223372036854775808 % 2 = 1 by omega, show b / 9223372036854775808 % 2 = 0 by omega]; rfl
    · rw [show (b - 9223372036854775808) / 9223372036854775808 % 2 = 0 by omega, show b / 9223372036854775808 % 2 = 1 by omega]; rfl
  unfold Format.read
  simp only [fd_sw, fd_bin, fd_inf, fd_lp]
  rw [e1, e2]
  generalize b % 9223372036854775808 = r
  generalize (b / 9223372036854775808 % 2 == 1) = q
  split
  · rfl
  · split
    · rfl
    · split <;> rfl
theorem opp_nan (d : Datum) : d.opposite.isNaN = d.isNaN := by cases d <;> rfl
theorem val_opp (B : Nat) (d : Datum) : val B d.opposite = - val B d := by
  cases d with
  | number s m i => exact signed_neg s m _
  | infinity s => cases s <;> simp [Datum.opposite, val]
  | nan s p => rfl
/-- is it no number? -/
def nanW (b : Nat) : Bool := (fd.read b).isNaN
theorem nanW_iff (b : Nat) : fd.order b b = if nanW b then none else some .eq := by
  obtain ⟨B, hB⟩ := big_is
  cases h : nanW b with
  | true => exact order_nan (.inl h)
  | false => rw [order_val hB h h]; simp
/-! rounding, where nothing is lost -/
theorem log2_mul_pow {m k : Nat} (h : 0 < m) : (m * 2 ^ k).log2 = m.log2 + k := by
  have hp := Nat.two_pow_pos k
  have h0 : m * 2 ^ k ≠ 0 := Nat.ne_of_gt (Nat.mul_pos h hp)
  rw [Nat.log2_eq_iff h0]
  constructor
  · rw [Nat.pow_add]
    exact Nat.mul_le_mul_right _ (Nat.log2_self_le (by omega))
  · rw [show m.log2 + k + 1 = m.log2 + 1 + k by omega, Nat.pow_add]
    exact Nat.mul_lt_mul_of_pos_right Nat.lt_log2_self hp
/-- half to even -/
def rnd (n D : Nat) : Nat := n / D + (decide (D < 2 * (n % D)) || (D == 2 * (n % D) && n / D % 2 == 1)).toNat
theorem cut_even (s : Bool) (n drop : Nat) : Toward.even.cut s n drop = rnd n (2 ^ drop) := by
  simp only [Toward.cut, Nat.shiftLeft_eq, Nat.one_mul]
  rcases Nat.le_total drop (n.log2 + 2) with hl | hl
  · rw [Nat.min_eq_left hl]; rfl
  · rw [Nat.min_eq_right hl]
    have h1 : n < 2 ^ (n.log2 + 1) := Nat.lt_log2_self
    have h2 : 2 ^ (n.log2 + 2) ≤ 2 ^ drop := Nat.pow_le_pow_right (by omega) hl
    have h3 : 2 ^ (n.log2 + 2) = 2 * 2 ^ (n.log2 + 1) := by rw [Nat.pow_succ]; omega
    have key : ∀ D, 2 * n < D → rnd n D = 0 := by
      intro D hD
      unfold rnd
      rw [Nat.div_eq_of_lt (by omega), Nat.mod_eq_of_lt (by omega)]
      have e1 : decide (D < 2 * n) = false := decide_eq_false (by omega)
      have e2 : (D == 2 * n) = false := beq_false_of_ne (by omega)
      rw [e1, e2]; rfl
    rw [key (2 ^ drop) (by omega)]
    exact key (2 ^ (n.log2 + 2)) (by omega)
theorem rnd_exact {K D : Nat} (hD : 0 < D) : rnd (K * D) D = K := by
  unfold rnd
  rw [Nat.mul_div_cancel _ hD, Nat.mul_mod_left]
  have e2 : (D == 2 * 0) = false := beq_false_of_ne (by omega)
  simp [e2]
/-- the rung of a place and a size -/
theorem read_word (neg : Bool) {q K : Nat} (hq : q ≤ 2045) (hK : K < 9007199254740992) (hn : q = 0 ∨ 4503599627370496 ≤ K) : fd.read (fd.word neg (min (q * fd.binade + K) fd.infRung)) = .number neg K ((q : Int) - 1074) := by
  rw [fd_bin, fd_inf, Nat.min_eq_left (by omega)]
  have e0 : fd.word neg (q * 4503599627370496 + K) = (if neg then 9223372036854775808 else 0) + (q * 4503599627370496 + K) := by
    unfold Format.word
    rw [fd_sw]
    cases neg
    · simp
    · simp
  rw [e0]
  have e1 : ((if neg then 9223372036854775808 else 0) + (q * 4503599627370496 + K)) % 9223372036854775808 = q * 4503599627370496 + K := by
    cases neg
    · simp only [Bool.false_eq_true, if_false]; omega
    · simp only [if_true]; omega
  have e2 : (((if neg then 9223372036854775808 else 0) + (q * 4503599627370496 + K)) / 9223372036854775808 % 2 == 1) = neg := by
    cases neg
    · simp only [Bool.false_eq_true, if_false]
      rw [show (0 + (q * 4503599627370496 + K)) / 9223372036854775808 % 2 = 0 by omega]; rfl
    · simp only [if_true]
      rw [show (9223372036854775808 + (q * 4503599627370496 + K)) / 9223372036854775808 % 2 = 1 by omega]; rfl
  unfold Format.read
  simp only [fd_sw, fd_bin, fd_inf, fd_lp]
  rw [e1, e2]
  split
  · obtain rfl : q = 0 := by omega
    congr 1 <;> omega
  · rw [if_pos (by omega)]
    congr 1 <;> omega
/-- a number that the format has is kept -/
theorem nearest_exact (neg : Bool) {mag M : Nat} {place E Z : Int} (hM : 0 < M) (hM2 : M < 9007199254740992) (hE : -1074 ≤ E) (hE2 : E ≤ 971) (hp : 0 ≤ place + Z) (hz : 0 ≤ E + Z)
    (h : mag * 2 ^ (place + Z).toNat = M * 2 ^ (E + Z).toNat) : ∃ K last, fd.read (fd.nearest neg mag place) = .number neg K last ∧ -1074 ≤ last ∧ last ≤ E ∧ K = M * 2 ^ (E - last).toNat ∧ last = max (E + (M.log2 : Int) - 52) (-1074) ∧ fd.nearest neg mag place = fd.word neg ((last + 1074).toNat * 4503599627370496 + K) := by
  have hmag : 0 < mag := by
    rcases Nat.eq_zero_or_pos mag with e | e
    · rw [e, Nat.zero_mul] at h
      have := Nat.mul_pos hM (Nat.two_pow_pos (E + Z).toNat)
      omega
    · exact e
  have hlog : (mag.log2 : Int) + place = M.log2 + E := by
    have := congrArg Nat.log2 h
    rw [log2_mul_pow hmag, log2_mul_pow hM] at this
    omega
  have hl : M.log2 ≤ 52 := by
    have := (Nat.log2_lt (n := M) (k := 53) (by omega)).2 hM2
    omega
  unfold Format.nearest
  rw [if_neg (by omega), fd_lp, fd_fb]
  obtain ⟨last, hlast⟩ : ∃ last, last = max (place + (mag.log2 : Int) - (52 : Nat)) (-1074) := ⟨_, rfl⟩
  simp only
  rw [← hlast, cut_even, Nat.shiftLeft_eq]
  have h1 : -1074 ≤ last ∧ last ≤ E := by omega
  obtain ⟨K, hK⟩ : ∃ K, K = M * 2 ^ (E - last).toNat := ⟨_, rfl⟩
  have hval : mag * 2 ^ (place - last).toNat = K * 2 ^ (last - place).toNat := by
    rcases Int.le_total last place with hc | hc
    · rw [show (last - place).toNat = 0 by omega, Nat.pow_zero, Nat.mul_one, hK]
      apply Nat.eq_of_mul_eq_mul_right (Nat.two_pow_pos (last + Z).toNat)
      rcases Int.le_total 0 (last + Z) with hcc | hcc
      · rw [Nat.mul_assoc, Nat.mul_assoc, ← Nat.pow_add, ← Nat.pow_add, show (place - last).toNat + (last + Z).toNat = (place + Z).toNat by omega, show (E - last).toNat + (last + Z).toNat = (E + Z).toNat by omega]
        exact h
      · apply Nat.eq_of_mul_eq_mul_right (Nat.two_pow_pos (last + Z).toNat)
        rw [show (last + Z).toNat = 0 by omega, Nat.pow_zero, Nat.mul_one, Nat.mul_one, Nat.mul_one, Nat.mul_one]
        rw [show (place - last).toNat = (place + Z).toNat + (-(last + Z)).toNat by omega, show (E - last).toNat = (E + Z).toNat + (-(last + Z)).toNat by omega, Nat.pow_add, Nat.pow_add, ← Nat.mul_assoc, ← Nat.mul_assoc, h]
    · rw [show (place - last).toNat = 0 by omega, Nat.pow_zero, Nat.mul_one, hK]
      apply Nat.eq_of_mul_eq_mul_right (Nat.two_pow_pos (place + Z).toNat)
      rw [h, Nat.mul_assoc, Nat.mul_assoc, ← Nat.pow_add, ← Nat.pow_add]
      congr 2
      omega
  have hKpos : 0 < K := by rw [hK]; exact Nat.mul_pos hM (Nat.two_pow_pos _)
  have hKlog : (K.log2 : Int) + last = M.log2 + E := by
    rw [hK, log2_mul_pow hM]
    omega
  have hK53 : K < 9007199254740992 := by
    have : K.log2 < 53 := by omega
    exact (Nat.log2_lt (n := K) (k := 53) (by omega)).1 this
  have hKlo : (last + 1074).toNat = 0 ∨ 4503599627370496 ≤ K := by
    rcases Int.le_total last (-1074) with hc | hc
    · left; omega
    · by_cases e : last = -1074
      · left; omega
      · right
        have : 52 ≤ K.log2 := by omega
        exact (Nat.le_log2 (n := K) (k := 52) (by omega)).1 this
  rw [hval, rnd_exact (Nat.two_pow_pos _), show last - -1074 = last + 1074 by omega, read_word neg (by omega) hK53 hKlo]
  refine ⟨K, last, ?_, h1.1, h1.2, hK, by omega, ?_⟩
  · congr 1
    omega
  · rw [fd_bin, fd_inf, Nat.min_eq_left (by omega)]
theorem nearest_zero (neg : Bool) (place : Int) : fd.read (fd.nearest neg 0 place) = .number neg 0 (-1074) := by
  unfold Format.nearest
  rw [if_pos rfl]
  have := read_word neg (q := 0) (K := 0) (by omega) (by omega) (.inl rfl)
  simpa using this
/-- the word is the whole number -/
def IsI (b : Nat) (N : Int) : Prop := ∃ s i, fd.read b = .number s (N.natAbs * 2 ^ (-i).toNat) i ∧ -1074 ≤ i ∧ i ≤ 0 ∧ (0 < N → s = false) ∧ (N < 0 → s = true)
theorem signed_int {s : Bool} {N : Int} (h1 : 0 < N → s = false) (h2 : N < 0 → s = true) (a c : Nat) : signed s (N.natAbs * 2 ^ a) c = N * 2 ^ (a + c) := by
  unfold signed
  rw [Nat.shiftLeft_eq, Nat.mul_assoc, ← Nat.pow_add]
  rcases Int.lt_trichotomy N 0 with h | h | h
  · rw [h2 h, if_pos rfl, Int.natCast_mul, Int.natCast_pow]
    have : ((N.natAbs : Nat) : Int) = -N := by omega
    rw [this, Int.neg_mul, Int.neg_neg]
    rfl
  · subst h
    cases s <;> simp
  · rw [h1 h, if_neg (by decide), Int.natCast_mul, Int.natCast_pow]
    have : ((N.natAbs : Nat) : Int) = N := by omega
    rw [this]
    rfl
theorem isI_nearest {s : Bool} {N : Int} (hN : N.natAbs < 9007199254740992) (h1 : 0 < N → s = false) (h2 : N < 0 → s = true) {mag : Nat} {place Z : Int} (hp : 0 ≤ place + Z) (hz : 0 ≤ Z)
    (h : mag * 2 ^ (place + Z).toNat = N.natAbs * 2 ^ Z.toNat) : IsI (fd.nearest s mag place) N := by
  by_cases h0 : N = 0
  · subst h0
    have : mag = 0 := by
      have := Nat.two_pow_pos (place + Z).toNat
      rw [Int.natAbs_zero, Nat.zero_mul] at h
      exact (Nat.mul_eq_zero.1 h).resolve_right (by omega)
    subst this
    exact ⟨s, -1074, by rw [nearest_zero, Int.natAbs_zero, Nat.zero_mul], by omega, by omega, h1, h2⟩
  · obtain ⟨K, last, e1, e2, e3, e4, _⟩ := nearest_exact s (M := N.natAbs) (E := 0) (Z := Z) (by omega) hN (by omega) (by omega) hp (by omega) (by rw [Int.zero_add]; exact h)
    refine ⟨s, last, ?_, e2, e3, h1, h2⟩
    rw [e1, e4, Int.zero_sub]
theorem isI_int {N : Int} (hN : N.natAbs < 9007199254740992) : IsI (floatOfInt .f64 N) N := by
  unfold floatOfInt
  exact isI_nearest (Z := 0) hN (fun h => decide_eq_false (by omega)) (fun h => decide_eq_true h) (by omega) (by omega) (by simp)
theorem IsI.nan {b : Nat} {N : Int} (h : IsI b N) : nanW b = false := by
  obtain ⟨s, i, h, _⟩ := h
  unfold nanW
  rw [h]; rfl
theorem toN_of {b : Nat} (h : nanW b = false) : toN b = b := by
  unfold toN
  have := nanW_iff b
  rw [h] at this
  rw [if_pos (by simpa using this)]
theorem sum_int {a b : Nat} {A B : Int} (ha : IsI a A) (hb : IsI b B) (hN : (A + B).natAbs < 9007199254740992) : ∃ r, ((fd.read a).sum (fd.read b)).map fd.write = some r ∧ IsI r (A + B) := by
  obtain ⟨s, i, e1, l1, u1, p1, n1⟩ := ha
  obtain ⟨t, j, e2, l2, u2, p2, n2⟩ := hb
  rw [e1, e2]
  obtain ⟨base, hbase⟩ : ∃ base, base = min i j := ⟨_, rfl⟩
  have ht : signed s (A.natAbs * 2 ^ (-i).toNat) (i - base).toNat + signed t (B.natAbs * 2 ^ (-j).toNat) (j - base).toNat = (A + B) * 2 ^ (-base).toNat := by
    rw [signed_int p1 n1, signed_int p2 n2, show (-i).toNat + (i - base).toNat = (-base).toNat by omega, show (-j).toNat + (j - base).toNat = (-base).toNat by omega, Int.add_mul]
  refine ⟨fd.nearest (if (A + B) * 2 ^ (-base).toNat = 0 then s && t else decide ((A + B) * 2 ^ (-base).toNat < 0)) ((A + B) * 2 ^ (-base).toNat).natAbs base, ?_, ?_⟩
  · simp only [Datum.sum, ← hbase, ht, Option.map_some]
    rfl
  · have hp : (0 : Int) < 2 ^ (-base).toNat := Int.pow_pos (by omega)
    have hz : ((A + B) * 2 ^ (-base).toNat = 0) ↔ A + B = 0 := by
      rw [Int.mul_eq_zero]
      constructor
      · rintro (h | h)
        · exact h
        · omega
      · exact .inl
    have hl : ((A + B) * 2 ^ (-base).toNat < 0) ↔ A + B < 0 := by
      constructor
      · intro h
        by_cases h' : A + B < 0
        · exact h'
        · have := Int.mul_nonneg (show 0 ≤ A + B by omega) (Int.le_of_lt hp)
          omega
      · intro h; exact Int.mul_neg_of_neg_of_pos h hp
    refine isI_nearest (Z := -base) hN (fun h => ?_) (fun h => ?_) (by omega) (by omega) ?_
    · rw [if_neg (by rw [hz]; omega)]
      exact decide_eq_false (by rw [hl]; omega)
    · rw [if_neg (by rw [hz]; omega)]
      exact decide_eq_true (by rw [hl]; omega)
    · rw [show base + -base = 0 by omega, Int.toNat_zero, Nat.pow_zero, Nat.mul_one, Int.natAbs_mul, Int.natAbs_pow]
      rfl
theorem isI_add {a b : Nat} {A B : Int} (ha : IsI a A) (hb : IsI b B) (hN : (A + B).natAbs < 9007199254740992) : IsI (arN .add a b) (A + B) := by
  obtain ⟨r, h1, h2⟩ := sum_int ha hb hN
  have : floatBits .add .f64 a b = some r := h1
  unfold arN
  rw [this]
  simp only
  rw [toN_of h2.nan]
  exact h2
theorem isI_sub {a b : Nat} {A B : Int} (ha : IsI a A) (hb : IsI b B) (hbl : b < 18446744073709551616) (hN : (A - B).natAbs < 9007199254740992) : IsI (arN .sub a b) (A - B) := by
  have hb' : IsI (negW b) (-B) := by
    obtain ⟨t, j, e2, l2, u2, p2, n2⟩ := hb
    refine ⟨!t, j, ?_, l2, u2, fun h => ?_, fun h => ?_⟩
    · rw [read_neg hbl, e2, Int.natAbs_neg]; rfl
    · rw [n2 (by omega)]; rfl
    · rw [p2 (by omega)]; rfl
  obtain ⟨r, h1, h2⟩ := sum_int ha hb' hN
  have : floatBits .sub .f64 a b = some r := by
    rw [read_neg hbl] at h1
    exact h1
  unfold arN
  rw [this]
  simp only
  rw [toN_of h2.nan]
  exact h2
theorem isI_mul {a b : Nat} {A B : Int} (ha : IsI a A) (hb : IsI b B) (hN : (A * B).natAbs < 9007199254740992) : IsI (arN .mul a b) (A * B) := by
  obtain ⟨s, i, e1, l1, u1, p1, n1⟩ := ha
  obtain ⟨t, j, e2, l2, u2, p2, n2⟩ := hb
  have h1 : floatBits .mul .f64 a b = some (fd.nearest (s ^^ t) (A.natAbs * 2 ^ (-i).toNat * (B.natAbs * 2 ^ (-j).toNat)) (i + j)) := by
    show ((fd.read a).product (fd.read b)).map fd.write = _
    rw [e1, e2]
    rfl
  have h2 : IsI (fd.nearest (s ^^ t) (A.natAbs * 2 ^ (-i).toNat * (B.natAbs * 2 ^ (-j).toNat)) (i + j)) (A * B) := by
    refine isI_nearest (Z := -(i + j)) hN (fun h => ?_) (fun h => ?_) (by omega) (by omega) ?_
    · rcases Int.lt_trichotomy A 0 with hA | hA | hA
      · rcases Int.lt_trichotomy B 0 with hB | hB | hB
        · rw [n1 hA, n2 hB]; rfl
        · subst hB; simp at h
        · have := Int.mul_neg_of_neg_of_pos hA hB; omega
      · subst hA; simp at h
      · rcases Int.lt_trichotomy B 0 with hB | hB | hB
        · have := Int.mul_neg_of_pos_of_neg hA hB; omega
        · subst hB; simp at h
        · rw [p1 hA, p2 hB]; rfl
    · rcases Int.lt_trichotomy A 0 with hA | hA | hA
      · rcases Int.lt_trichotomy B 0 with hB | hB | hB
        · have := Int.mul_pos_of_neg_of_neg hA hB; omega
        · subst hB; simp at h
        · rw [n1 hA, p2 hB]; rfl
      · subst hA; simp at h
      · rcases Int.lt_trichotomy B 0 with hB | hB | hB
        · rw [p1 hA, n2 hB]; rfl
        · subst hB; simp at h
        · have := Int.mul_pos hA hB; omega
    · rw [show i + j + -(i + j) = 0 by omega, Int.toNat_zero, Nat.pow_zero, Nat.mul_one, Int.natAbs_mul, show (-(i + j)).toNat = (-i).toNat + (-j).toNat by omega, Nat.pow_add]
      simp only [Nat.mul_left_comm, Nat.mul_assoc]
  unfold arN
  rw [h1]
  simp only
  rw [toN_of h2.nan]
  exact h2
theorem isI_order {a b : Nat} {A B : Int} (ha : IsI a A) (hb : IsI b B) : fd.order a b = some (compare A B) := by
  obtain ⟨s, i, e1, l1, u1, p1, n1⟩ := ha
  obtain ⟨t, j, e2, l2, u2, p2, n2⟩ := hb
  unfold Format.order
  rw [e1, e2]
  simp only [Datum.order]
  rw [signed_int p1 n1, signed_int p2 n2, show (-i).toNat + (i - min i j).toNat = (-min i j).toNat by omega, show (-j).toNat + (j - min i j).toNat = (-min i j).toNat by omega, compare_mul]
theorem isI_toInt {a : Nat} {A : Int} (ha : IsI a A) : (fd.read a).toInt .zero = some A := by
  obtain ⟨s, i, e1, l1, u1, p1, n1⟩ := ha
  rw [e1]
  have hc : Toward.zero.cut s ((A.natAbs * 2 ^ (-i).toNat) <<< i.toNat) (-i).toNat = A.natAbs := by
    simp only [Toward.cut, Bool.toNat_false, Nat.add_zero, Nat.shiftLeft_eq, Nat.one_mul]
    rw [show i.toNat = 0 by omega, Nat.pow_zero, Nat.mul_one]
    generalize hd : (-i).toNat = d
    have hp := Nat.two_pow_pos d
    rcases Nat.le_total d ((A.natAbs * 2 ^ d).log2 + 2) with hl | hl
    · rw [Nat.min_eq_left hl, Nat.mul_div_cancel _ hp]
    · rcases Nat.eq_zero_or_pos A.natAbs with h0 | h0
      · rw [h0]; simp
      · rw [log2_mul_pow h0] at hl ⊢
        rw [Nat.min_eq_left (by omega), Nat.mul_div_cancel _ hp]
  show (match (Datum.number s (A.natAbs * 2 ^ (-i).toNat) i).integral .zero with | .number s m _ => some (signed s m 0) | _ => none) = _
  simp only [Datum.integral]
  rw [hc]
  congr 1
  have := signed_int p1 n1 0 0
  simpa using this
theorem isI_ti {a : Nat} {A : Int} (ha : IsI a A) (hN : A.natAbs < 9007199254740992) : tiN a = (A, true) := by
  have h1 := isI_order ha (b := 4890909195324358656) (B := 9223372036854775808)
  unfold tiN
  rw [isI_toInt ha]
  have r1 : fd.read 4890909195324358656 = .number false 4503599627370496 11 := by decide
  have r2 : fd.read 14114281232179134464 = .number true 4503599627370496 11 := by decide
  obtain ⟨s, i, e1, l1, u1, p1, n1⟩ := ha
  have key : ∀ t, signed t 4503599627370496 (11 - i).toNat = (if t then -9223372036854775808 else 9223372036854775808) * 2 ^ (-i).toNat := by
    intro t
    rw [show (11 - i).toNat = 11 + (-i).toNat by omega, signed_add, show signed t 4503599627370496 11 = (if t then -9223372036854775808 else 9223372036854775808) by cases t <;> decide]
  have o1 : FloatKind.f64.format.order a 4890909195324358656 = some (compare A 9223372036854775808) := by
    unfold Format.order
    show (fd.read a).order (fd.read 4890909195324358656) = _
    rw [e1, r1]
    simp only [Datum.order]
    rw [Int.min_eq_left (by omega : i ≤ 11), signed_int p1 n1, key, show (-i).toNat + (i - i).toNat = (-i).toNat by omega]
    simp only [Bool.false_eq_true, if_false]
    rw [compare_mul]
  have o2 : FloatKind.f64.format.order a 14114281232179134464 = some (compare A (-9223372036854775808)) := by
    unfold Format.order
    show (fd.read a).order (fd.read 14114281232179134464) = _
    rw [e1, r2]
    simp only [Datum.order]
    rw [Int.min_eq_left (by omega : i ≤ 11), signed_int p1 n1, key, show (-i).toNat + (i - i).toNat = (-i).toNat by omega]
    simp only [if_true]
    rw [compare_mul]
  rw [o1, o2, Int.compare_eq_lt.2 (by omega), Int.compare_eq_gt.2 (by omega)]
  simp
/-! order -/
theorem ord_pair {a b : Nat} (ha : nanW a = false) (hb : nanW b = false) (la : a < 18446744073709551616) (lb : b < 18446744073709551616) :
    ∃ x y : Int, fd.order a b = some (compare x y) ∧ fd.order b a = some (compare y x) ∧ fd.order (negW b) (negW a) = some (compare (-y) (-x)) := by
  obtain ⟨B, hB⟩ := big_is
  refine ⟨_, _, order_val hB ha hb, order_val hB hb ha, ?_⟩
  rw [order_val hB (by rw [read_neg lb, opp_nan]; exact hb) (by rw [read_neg la, opp_nan]; exact ha), read_neg la, read_neg lb, val_opp, val_opp]
theorem lt_iff {B : Nat} (hB : Big B) {a b : Nat} : fd.order a b = some .lt ↔ nanW a = false ∧ nanW b = false ∧ val B (fd.read a) < val B (fd.read b) := by
  cases ha : nanW a with
  | true => rw [order_nan (.inl ha)]; simp
  | false =>
    cases hb : nanW b with
    | true => rw [order_nan (.inr hb)]; simp
    | false => rw [order_val hB ha hb]; simp [Int.compare_eq_lt]
theorem ord_trans {a b c : Nat} (h1 : fd.order a b = some .lt) (h2 : fd.order b c = some .lt) : fd.order a c = some .lt := by
  obtain ⟨B, hB⟩ := big_is
  rw [lt_iff hB] at *
  exact ⟨h1.1, h2.2.1, by omega⟩

/-! turned about -/
theorem bne_bne (s t : Bool) : (s ^^ t) = (t ^^ s) := by cases s <;> cases t <;> rfl
theorem sum_comm (x y : Datum) : x.sum y = y.sum x := by
  cases x with
  | nan s p => cases y <;> rfl
  | infinity s => cases y with
    | infinity t => cases s <;> cases t <;> rfl
    | _ => rfl
  | number s m i => cases y with
    | number t n j =>
      simp only [Datum.sum]
      rw [Int.min_comm j i, Int.add_comm (signed t n _), Bool.and_comm t s]
    | _ => rfl
theorem product_comm (x y : Datum) : x.product y = y.product x := by
  cases x with
  | nan s p => cases y <;> rfl
  | infinity s => cases y with
    | infinity t => simp only [Datum.product]; rw [bne_bne]
    | number t n j => simp only [Datum.product]
    | nan t q => rfl
  | number s m i => cases y with
    | number t n j => simp only [Datum.product]; rw [bne_bne, Nat.mul_comm, Int.add_comm]
    | infinity t => simp only [Datum.product]
    | nan t q => rfl
theorem arN_add_comm (a b : Nat) : arN .add a b = arN .add b a := by
  have : floatBits .add .f64 a b = floatBits .add .f64 b a := by
    show ((fd.read a).sum (fd.read b)).map fd.write = ((fd.read b).sum (fd.read a)).map fd.write
    rw [sum_comm]
  unfold arN
  rw [this]
theorem arN_mul_comm (a b : Nat) : arN .mul a b = arN .mul b a := by
  have : floatBits .mul .f64 a b = floatBits .mul .f64 b a := by
    show ((fd.read a).product (fd.read b)).map fd.write = ((fd.read b).product (fd.read a)).map fd.write
    rw [product_comm]
  unfold arN
  rw [this]
theorem nan_lit : nanW 9221120237041090560 = true := by decide
theorem toN_nanW {b : Nat} (h : nanW b = true) : toN b = 9221120237041090560 := by
  unfold toN
  have := nanW_iff b
  rw [h] at this
  rw [if_neg (by rw [show FloatKind.f64.format.order b b = _ from this]; simp)]
theorem toN_toN (b : Nat) : toN (toN b) = toN b := by
  cases h : nanW b with
  | true => rw [toN_nanW h, toN_nanW nan_lit]
  | false => rw [toN_of h, toN_of h]
theorem toN_arN (op : BinOp) (a b : Nat) : toN (arN op a b) = arN op a b := by
  unfold arN
  split
  · exact toN_toN _
  · exact toN_nanW nan_lit
theorem sum_nan {x y : Datum} (h : x.isNaN = true) : x.sum y = none := by
  cases x <;> simp [Datum.isNaN] at h
  rfl
theorem arN_add_nan {c b : Nat} (hc : nanW c = true) : arN .add c b = 9221120237041090560 := by
  have : floatBits .add .f64 c b = none := by
    show ((fd.read c).sum (fd.read b)).map fd.write = none
    rw [sum_nan hc]; rfl
  unfold arN
  rw [this]
theorem arN_sub_nan {c b : Nat} (hc : nanW c = true) : arN .sub b c = 9221120237041090560 := by
  have : floatBits .sub .f64 b c = none := by
    show ((fd.read b).sum (fd.read c).opposite).map fd.write = none
    rw [sum_comm, sum_nan (by rw [opp_nan]; exact hc)]; rfl
  unfold arN
  rw [this]
theorem arN_add_toN (a b : Nat) : arN .add (toN a) b = arN .add a b := by
  cases h : nanW a with
  | false => rw [toN_of h]
  | true =>
    rw [toN_nanW h]
    rw [arN_add_nan h, arN_add_nan nan_lit]
/-- the other sign, with one NaN, of words -/
def ngW (b : Nat) : Nat := if nanW b then 9221120237041090560 else negW b
theorem nanW_neg {b : Nat} (h : b < 18446744073709551616) : nanW (negW b) = nanW b := by unfold nanW; rw [read_neg h, opp_nan]
theorem ngW_ngW {b : Nat} (h : b < 18446744073709551616) : ngW (ngW b) = toN b := by
  unfold ngW
  cases hb : nanW b with
  | true => rw [if_pos rfl, if_pos nan_lit, toN_nanW hb]
  | false =>
    simp only [Bool.false_eq_true, if_false]
    rw [nanW_neg h, hb, if_neg (by decide), negW_negW h, toN_of hb]
theorem toN_ngW {b : Nat} (h : b < 18446744073709551616) : toN (ngW b) = ngW b := by
  unfold ngW
  cases hb : nanW b with
  | true => rw [if_pos rfl, toN_nanW nan_lit]
  | false => rw [if_neg (by decide), toN_of (by rw [nanW_neg h]; exact hb)]
theorem arN_sub (a : Nat) {b : Nat} (h : b < 18446744073709551616) : arN .sub a b = arN .add a (ngW b) := by
  cases hb : nanW b with
  | true =>
    have e : ngW b = 9221120237041090560 := by unfold ngW; rw [if_pos hb]
    rw [e, arN_add_comm, arN_add_nan nan_lit, arN_sub_nan hb]
  | false =>
    have e : ngW b = negW b := by unfold ngW; rw [hb, if_neg (by decide)]
    rw [e]
    have hr := read_neg h
    generalize negW b = n at hr
    have : floatBits .sub .f64 a b = floatBits .add .f64 a n := by
      show ((fd.read a).sum (fd.read b).opposite).map fd.write = ((fd.read a).sum (fd.read n)).map fd.write
      rw [hr]
    unfold arN
    rw [this]
/-! times one -/
theorem read_canon {a : Nat} (h : a < 18446744073709551616) {s : Bool} {m : Nat} {i : Int} (hr : fd.read a = .number s m i) :
    a = fd.word s ((i + 1074).toNat * 4503599627370496 + m) ∧ (i = -1074 ∨ 4503599627370496 ≤ m) := by
  have hs : (a / 9223372036854775808 % 2 == 1) = s ∧ a % 9223372036854775808 = (i + 1074).toNat * 4503599627370496 + m ∧ (i = -1074 ∨ 4503599627370496 ≤ m) := by
    unfold Format.read at hr
    simp only [fd_sw, fd_bin, fd_inf, fd_lp] at hr
    split at hr
    · injection hr with h1 h2 h3
      exact ⟨h1, by omega, by omega⟩
    · split at hr
      · injection hr with h1 h2 h3
        exact ⟨h1, by omega, by omega⟩
      · split at hr <;> cases hr
  refine ⟨?_, hs.2.2⟩
  rw [← hs.2.1]
  unfold Format.word
  rw [fd_sw]
  have := hs.1
  cases s with
  | true =>
    have := beq_iff_eq.1 this
    rw [if_pos rfl]; omega
  | false =>
    have := beq_eq_false_iff_ne.1 this
    rw [if_neg (by decide)]; omega
theorem read_inf {a : Nat} (h : a < 18446744073709551616) {s : Bool} (hr : fd.read a = .infinity s) : a = fd.word s fd.infRung := by
  have hs : (a / 9223372036854775808 % 2 == 1) = s ∧ a % 9223372036854775808 = 9218868437227405312 := by
    unfold Format.read at hr
    simp only [fd_sw, fd_bin, fd_inf, fd_lp] at hr
    split at hr
    · cases hr
    · split at hr
      · cases hr
      · split at hr
        · injection hr with h1
          exact ⟨h1, by assumption⟩
        · cases hr
  unfold Format.word
  rw [fd_sw, fd_inf]
  have := hs.1
  cases s with
  | true =>
    have := beq_iff_eq.1 this
    rw [if_pos rfl]; omega
  | false =>
    have := beq_eq_false_iff_ne.1 this
    rw [if_neg (by decide)]; omega
theorem one_read : fd.read (floatOfInt .f64 1) = .number false 4503599627370496 (-52) := by decide
theorem arN_mul_one {a : Nat} (h : a < 18446744073709551616) : arN .mul a (toN (floatOfInt .f64 1)) = toN a := by
  rw [toN_of (by unfold nanW; rw [one_read]; rfl)]
  cases hr : fd.read a with
  | nan s p =>
    have k1 : floatBits .mul .f64 a (floatOfInt .f64 1) = none := by
      show ((fd.read a).product (fd.read (floatOfInt .f64 1))).map fd.write = none
      rw [hr]; rfl
    unfold arN
    rw [k1, toN_nanW (by unfold nanW; rw [hr]; rfl)]
  | infinity s =>
    have k1 : floatBits .mul .f64 a (floatOfInt .f64 1) = some a := by
      show ((fd.read a).product (fd.read (floatOfInt .f64 1))).map fd.write = some a
      rw [hr, one_read]
      show some (fd.word (s ^^ false) fd.infRung) = some a
      rw [Bool.xor_false, ← read_inf h hr]
    unfold arN
    rw [k1]
  | number s m i =>
    have hc := read_canon h hr
    have hn := read_num hr
    have k1 : floatBits .mul .f64 a (floatOfInt .f64 1) = some a := by
      show ((fd.read a).product (fd.read (floatOfInt .f64 1))).map fd.write = some a
      rw [hr, one_read]
      show some (fd.nearest (s ^^ false) (m * 4503599627370496) (i + -52)) = some a
      rw [Bool.xor_false]
      congr 1
      rcases Nat.eq_zero_or_pos m with h0 | h0
      · subst h0
        rw [Nat.zero_mul]
        unfold Format.nearest
        rw [if_pos rfl]
        have h1 := hc.2
        have h2 := hc.1
        rw [show (i + 1074).toNat * 4503599627370496 + 0 = 0 by omega] at h2
        exact h2.symm
      · obtain ⟨K, last, e1, e2, e3, e4, e5, e6⟩ := nearest_exact s (mag := m * 4503599627370496) (place := i + -52) (M := m) (E := i) (Z := 52 - i) h0 hn.1 hn.2.1 hn.2.2 (by omega) (by omega)
          (by rw [show (i + -52 + (52 - i)).toNat = 0 by omega, show (i + (52 - i)).toNat = 52 by omega, Nat.pow_zero, Nat.mul_one])
        have hl : (m.log2 : Int) ≤ 52 := by
          have := (Nat.log2_lt (n := m) (k := 53) (by omega)).2 hn.1
          omega
        have hli : last = i := by
          rcases hc.2 with e | e
          · omega
          · have : 52 ≤ m.log2 := (Nat.le_log2 (n := m) (k := 52) (by omega)).2 e
            omega
        rw [e6, e4, hli, show (i - i).toNat = 0 by omega, Nat.pow_zero, Nat.mul_one]
        exact hc.1.symm
    unfold arN
    rw [k1]
/-! a whole number beyond 2^53 -/
def IsJ (b : Nat) (N : Int) : Prop := ∃ (s : Bool) (K l : Nat), fd.read b = .number s K (l : Int) ∧ l ≤ 12 ∧ K * 2 ^ l = N.natAbs ∧ (0 < N → s = false) ∧ (N < 0 → s = true)
theorem signed_J {s : Bool} {K l : Nat} {N : Int} (h : K * 2 ^ l = N.natAbs) (h1 : 0 < N → s = false) (h2 : N < 0 → s = true) : signed s K l = N := by
  unfold signed
  rw [Nat.shiftLeft_eq, h]
  cases s
  · simp only [Bool.false_eq_true, if_false]
    have : ¬ N < 0 := fun h => by have := h2 h; cases this
    omega
  · simp only [if_true]
    have : ¬ 0 < N := fun h => by have := h1 h; cases this
    omega
theorem isJ_order {a : Nat} {N : Int} (h : IsJ a N) (t : Bool) : (fd.read a).order (.number t 4503599627370496 11) = some (compare N (if t then -9223372036854775808 else 9223372036854775808)) := by
  obtain ⟨s, K, l, e, hl, hK, h1, h2⟩ := h
  rw [e]
  simp only [Datum.order]
  congr 1
  rw [← compare_mul (k := (min (l : Int) 11).toNat), ← signed_add, ← signed_add, show ((l : Int) - min (l : Int) 11).toNat + (min (l : Int) 11).toNat = l by omega, show (11 - min (l : Int) 11).toNat + (min (l : Int) 11).toNat = 11 by omega, signed_J hK h1 h2]
  congr 1
theorem isJ_toInt {a : Nat} {N : Int} (h : IsJ a N) : (fd.read a).toInt .zero = some N := by
  obtain ⟨s, K, l, e, hl, hK, h1, h2⟩ := h
  rw [e]
  show (match (Datum.number s K (l : Int)).integral .zero with | .number s m _ => some (signed s m 0) | _ => none) = _
  simp only [Datum.integral]
  rw [show ((l : Int)).toNat = l by omega, show (-(l : Int)).toNat = 0 by omega]
  have : Toward.zero.cut s (K <<< l) 0 = N.natAbs := by
    simp only [Toward.cut, Bool.toNat_false, Nat.add_zero, Nat.zero_min, Nat.shiftLeft_zero, Nat.div_one]
    rw [Nat.shiftLeft_eq]; exact hK
  rw [this]
  congr 1
  exact signed_J (by simp) h1 h2
theorem isJ_ti {a : Nat} {N : Int} (h : IsJ a N) (hlo : -9223372036854775808 ≤ N) : tiN a = if N < 9223372036854775808 then (N, true) else (0, false) := by
  have r1 : fd.read 4890909195324358656 = .number false 4503599627370496 11 := by decide
  have r2 : fd.read 14114281232179134464 = .number true 4503599627370496 11 := by decide
  have o1 : FloatKind.f64.format.order a 4890909195324358656 = some (compare N 9223372036854775808) := by
    unfold Format.order
    show (fd.read a).order (fd.read 4890909195324358656) = _
    rw [r1]; exact isJ_order h false
  have o2 : FloatKind.f64.format.order a 14114281232179134464 = some (compare N (-9223372036854775808)) := by
    unfold Format.order
    show (fd.read a).order (fd.read 14114281232179134464) = _
    rw [r2]; exact isJ_order h true
  unfold tiN
  rw [isJ_toInt h, o1, o2]
  by_cases hl : N < 9223372036854775808
  · rw [if_pos hl, Int.compare_eq_lt.2 hl, if_pos]
    · rfl
    · refine ⟨rfl, ?_⟩
      rcases Int.lt_or_eq_of_le hlo with h' | h'
      · left; rw [Int.compare_eq_gt.2 h']
      · right; rw [← h']; simp
  · rw [if_neg hl, if_neg]
    rintro ⟨h1, _⟩
    injection h1 with h1
    rw [Int.compare_eq_lt] at h1
    exact hl h1
theorem rnd_bounds {n D lo hi : Nat} (hD : 0 < D) (h1 : lo * D ≤ n) (h2 : n < hi * D) : lo ≤ rnd n D ∧ rnd n D ≤ hi := by
  have a1 : lo ≤ n / D := (Nat.le_div_iff_mul_le hD).2 h1
  have a2 : n / D < hi := (Nat.div_lt_iff_lt_mul hD).2 h2
  unfold rnd
  generalize (decide (D < 2 * (n % D)) || (D == 2 * (n % D) && n / D % 2 == 1)) = b
  cases b
  · simp only [Bool.toNat_false]; omega
  · simp only [Bool.toNat_true]; omega
/-- what a great whole number comes to -/
theorem isJ_int {n : Int} {L : Nat} (hL1 : 1 ≤ L) (hL : L ≤ 11) (h1 : 2 ^ (52 + L) ≤ n.natAbs) (h2 : n.natAbs < 2 ^ (53 + L)) :
    IsJ (floatOfInt .f64 n) (if n < 0 then -((rnd n.natAbs (2 ^ L) * 2 ^ L : Nat) : Int) else ((rnd n.natAbs (2 ^ L) * 2 ^ L : Nat) : Int)) := by
  have hp := Nat.two_pow_pos L
  have hlog : n.natAbs.log2 = 52 + L := (Nat.log2_eq_iff (by have := Nat.two_pow_pos (52 + L); omega)).2 ⟨h1, by rw [show 52 + L + 1 = 53 + L by omega]; exact h2⟩
  have hb := rnd_bounds (n := n.natAbs) (lo := 4503599627370496) (hi := 9007199254740992) hp (by rw [show 4503599627370496 = 2 ^ 52 by rfl, ← Nat.pow_add]; exact h1) (by rw [show 9007199254740992 = 2 ^ 53 by rfl, ← Nat.pow_add]; exact h2)
  have e : floatOfInt .f64 n = fd.word (decide (n < 0)) (min ((L + 1074) * fd.binade + rnd n.natAbs (2 ^ L)) fd.infRung) := by
    show fd.nearest (decide (n < 0)) n.natAbs 0 = _
    unfold Format.nearest
    rw [if_neg (by have := Nat.two_pow_pos (52 + L); omega), fd_lp, fd_fb, hlog]
    have hlast : max (0 + ((52 + L : Nat) : Int) - (52 : Nat)) (-1074) = (L : Int) := by omega
    simp only
    rw [hlast, cut_even, show ((0 : Int) - (L : Int)).toNat = 0 by omega, show ((L : Int) - 0).toNat = L by omega, Nat.shiftLeft_zero, show ((L : Int) - -1074).toNat = L + 1074 by omega]
  rw [e]
  generalize rnd n.natAbs (2 ^ L) = R at *
  have hsg : ∀ z : Nat, (0 < (if n < 0 then -(z : Int) else (z : Int)) → decide (n < 0) = false) ∧ ((if n < 0 then -(z : Int) else (z : Int)) < 0 → decide (n < 0) = true) := by
    intro z
    by_cases hn : n < 0
    · rw [if_pos hn]
      exact ⟨fun h => by omega, fun _ => decide_eq_true hn⟩
    · rw [if_neg hn]
      exact ⟨fun _ => decide_eq_false hn, fun h => by omega⟩
  have habs : ∀ z : Nat, (if n < 0 then -(z : Int) else (z : Int)).natAbs = z := by
    intro z; split <;> omega
  by_cases hR : R < 9007199254740992
  · refine ⟨decide (n < 0), R, L, ?_, by omega, (habs _).symm, (hsg _).1, (hsg _).2⟩
    rw [read_word _ (by omega) hR (.inr hb.1), show ((L + 1074 : Nat) : Int) - 1074 = (L : Int) by omega]
  · obtain rfl : R = 9007199254740992 := by omega
    refine ⟨decide (n < 0), 4503599627370496, L + 1, ?_, by omega, ?_, (hsg _).1, (hsg _).2⟩
    · have := read_word (decide (n < 0)) (q := L + 1075) (K := 4503599627370496) (by omega) (by omega) (.inr (by omega))
      rw [fd_bin] at this ⊢
      rw [show (L + 1074) * 4503599627370496 + 9007199254740992 = (L + 1075) * 4503599627370496 + 4503599627370496 by omega, this, show ((L + 1075 : Nat) : Int) - 1074 = ((L + 1 : Nat) : Int) by omega]
    · rw [habs, Nat.pow_succ]
      omega
/-- half to even, as the law asks it -/
theorem rnd_near (n : Nat) {D : Nat} (hD : 0 < D) : (2 * (rnd n D * D - n) < D ∧ 2 * (n - rnd n D * D) < D) ∨ ((2 * (rnd n D * D - n) = D ∨ 2 * (n - rnd n D * D) = D) ∧ rnd n D % 2 = 0) := by
  have h := Nat.div_add_mod n D
  have hm := Nat.mod_lt n hD
  unfold rnd
  generalize n / D = q at *
  generalize n % D = r at *
  rw [Nat.mul_comm] at h
  by_cases h1 : D < 2 * r
  · have : (decide (D < 2 * r) || (D == 2 * r && q % 2 == 1)) = true := by rw [decide_eq_true h1]; rfl
    rw [this]
    left
    simp only [Bool.toNat_true, Nat.add_mul, Nat.one_mul]
    generalize q * D = z at *
    omega
  · by_cases h2 : D = 2 * r ∧ q % 2 = 1
    · have : (decide (D < 2 * r) || (D == 2 * r && q % 2 == 1)) = true := by rw [beq_iff_eq.2 h2.1, beq_iff_eq.2 h2.2]; simp
      rw [this]
      right
      simp only [Bool.toNat_true, Nat.add_mul, Nat.one_mul]
      generalize q * D = z at *
      omega
    · have : (decide (D < 2 * r) || (D == 2 * r && q % 2 == 1)) = false := by
        rw [decide_eq_false h1, Bool.false_or, Bool.and_eq_false_iff]
        by_cases h3 : D = 2 * r
        · right; exact beq_false_of_ne (fun e => h2 ⟨h3, e⟩)
        · left; exact beq_false_of_ne h3
      rw [this]
      simp only [Bool.toNat_false, Nat.add_zero]
      generalize q * D = z at *
      by_cases h3 : D = 2 * r
      · right; omega
      · left; omega
/-- the plain law -/
theorem near_law {n : Int} (hlo : -9223372036854775808 ≤ n) (hhi : n ≤ 9223372036854775807) (hbig : n ≤ -9007199254740992 ∨ 9007199254740992 ≤ n) :
    ∃ X : Int, tiN (toN (floatOfInt .f64 n)) = (if X < 9223372036854775808 then (X, true) else (0, false)) ∧ (¬ X < 9223372036854775808 → 9223372036854775295 < n) ∧ -9223372036854775808 ≤ X ∧
      ∀ k : Nat, k ≤ 10 → (k = 0 ∨ 9007199254740992 * 2 ^ (k - 1) ≤ n ∨ n < -(9007199254740992 * 2 ^ (k - 1))) → (k = 10 ∨ (n < 9007199254740992 * 2 ^ k ∧ -(9007199254740992 * 2 ^ k) ≤ n)) →
        ∃ Y : Int, X = Y * 2 ^ k ∧ ((2 * (n - X) < 2 ^ k ∧ 2 * (X - n) < 2 ^ k) ∨ ((2 * (n - X) = 2 ^ k ∨ 2 * (X - n) = 2 ^ k) ∧ Y % 2 = 0)) := by
  obtain ⟨L, hL1, hL, h1, h2⟩ : ∃ L, 1 ≤ L ∧ L ≤ 11 ∧ 2 ^ (52 + L) ≤ n.natAbs ∧ n.natAbs < 2 ^ (53 + L) := by
    have h0 : n.natAbs ≠ 0 := by omega
    have e1 := Nat.log2_self_le h0
    have e2 : n.natAbs < 2 ^ (n.natAbs.log2 + 1) := Nat.lt_log2_self
    have e3 : 53 ≤ n.natAbs.log2 := (Nat.le_log2 h0).2 (by rw [show 2 ^ 53 = 9007199254740992 by rfl]; omega)
    have e4 : n.natAbs.log2 < 64 := (Nat.log2_lt h0).2 (by rw [show 2 ^ 64 = 18446744073709551616 by rfl]; omega)
    exact ⟨n.natAbs.log2 - 52, by omega, by omega, by rw [show 52 + (n.natAbs.log2 - 52) = n.natAbs.log2 by omega]; exact e1, by rw [show 53 + (n.natAbs.log2 - 52) = n.natAbs.log2 + 1 by omega]; exact e2⟩
  have hJ := isJ_int hL1 hL h1 h2
  have hnear := rnd_near n.natAbs (Nat.two_pow_pos L)
  have hn : nanW (floatOfInt .f64 n) = false := by
    obtain ⟨s, K, l, e, _⟩ := hJ
    unfold nanW
    rw [show fd.read (floatOfInt .f64 n) = _ from e]; rfl
  rw [toN_of hn]
  have hp := Nat.two_pow_pos L
  have hb := rnd_bounds (n := n.natAbs) (lo := 4503599627370496) (hi := 9007199254740992) hp (by rw [show 4503599627370496 = 2 ^ 52 by rfl, ← Nat.pow_add]; exact h1) (by rw [show 9007199254740992 = 2 ^ 53 by rfl, ← Nat.pow_add]; exact h2)
  generalize hR : rnd n.natAbs (2 ^ L) = R at *
  -- the size of what comes
  have hXlo : -9223372036854775808 ≤ (if n < 0 then -((R * 2 ^ L : Nat) : Int) else ((R * 2 ^ L : Nat) : Int)) := by
    split
    · have : R * 2 ^ L ≤ 9223372036854775808 := by
        by_cases hm : n.natAbs = 9223372036854775808
        · rw [hm] at hnear h1 h2
          have : L = 11 := by
            have e1 : (2 : Nat) ^ (52 + L) ≤ 2 ^ 63 := h1
            have e2 : (2 : Nat) ^ 63 < 2 ^ (53 + L) := h2
            have := (Nat.pow_le_pow_iff_right (a := 2) (by omega)).1 e1
            have := (Nat.pow_lt_pow_iff_right (a := 2) (by omega)).1 e2
            omega
          subst this
          omega
        · have : L ≤ 10 := by
            have e1 : (2 : Nat) ^ (52 + L) < 2 ^ 63 := Nat.lt_of_le_of_lt h1 (by rw [show (2 : Nat) ^ 63 = 9223372036854775808 by rfl]; omega)
            have := (Nat.pow_lt_pow_iff_right (a := 2) (by omega)).1 e1
            omega
          have e3 : R * 2 ^ L ≤ 9007199254740992 * 2 ^ 10 := Nat.mul_le_mul hb.2 (Nat.pow_le_pow_right (by omega) this)
          omega
      omega
    · omega
  refine ⟨_, isJ_ti hJ hXlo, ?_, hXlo, ?_⟩
  · intro hX
    split at hX
    · omega
    · rename_i hneg
      have hL10 : L = 10 := by
        have e1 : (2 : Nat) ^ (52 + L) < 2 ^ 63 := Nat.lt_of_le_of_lt h1 (by rw [show (2 : Nat) ^ 63 = 9223372036854775808 by rfl]; omega)
        have h3 := (Nat.pow_lt_pow_iff_right (a := 2) (by omega)).1 e1
        by_cases h4 : L ≤ 9
        · have e3 : R * 2 ^ L ≤ 9007199254740992 * 2 ^ 9 := Nat.mul_le_mul hb.2 (Nat.pow_le_pow_right (by omega) h4)
          omega
        · omega
      subst hL10
      omega
  · intro k hk hk1 hk2
    by_cases hkl : k = L
    · subst hkl
      refine ⟨if n < 0 then -(R : Int) else R, ?_, ?_⟩
      · split
        · rw [Int.natCast_mul, Int.natCast_pow, Int.neg_mul]; rfl
        · rw [Int.natCast_mul, Int.natCast_pow]; rfl
      · have hc : ((2 ^ k : Nat) : Int) = 2 ^ k := by rw [Int.natCast_pow]; rfl
        rw [← hc]
        generalize R * 2 ^ k = z at *
        generalize 2 ^ k = D at *
        split
        · rcases hnear with h | h
          · left; omega
          · right; omega
        · rcases hnear with h | h
          · left; omega
          · right; omega
    · -- a negative power of two
      have hkL : k + 1 = L ∧ n = -(2 ^ (53 + k) : Nat) := by
        have c1 : ∀ j : Nat, (9007199254740992 * 2 ^ j : Int) = ((2 ^ (53 + j) : Nat) : Int) := by
          intro j; rw [Nat.pow_add, Int.natCast_mul, Int.natCast_pow]; rfl
        rw [c1] at hk1 hk2
        have key : 2 ^ (52 + L) ≤ 2 ^ (53 + k) ∧ (k = 0 ∨ 2 ^ (53 + (k - 1)) < 2 ^ (53 + L)) := by
          constructor
          · rcases hk2 with e | e
            · subst e
              refine Nat.le_trans h1 ?_
              rw [show (2 : Nat) ^ (53 + 10) = 9223372036854775808 by rfl]
              omega
            · omega
          · rcases hk1 with e | e | e
            · exact .inl e
            · right; omega
            · right; omega
        have g1 := (Nat.pow_le_pow_iff_right (a := 2) (by omega)).1 key.1
        have g2 : k = 0 ∨ 53 + (k - 1) < 53 + L := key.2.imp id (fun h => (Nat.pow_lt_pow_iff_right (a := 2) (by omega)).1 h)
        have hkk : k + 1 = L := by
          by_cases h3 : k < L
          · omega
          · exfalso
            have : L = k ∨ L + 1 ≤ k := by omega
            rcases this with e | e
            · exact hkl e.symm
            · have e5 : k = L + 1 ∨ L + 2 ≤ k := by omega
              have : L ≤ k - 1 := by omega
              have e6 : (2 : Nat) ^ (53 + L) ≤ 2 ^ (53 + (k - 1)) := Nat.pow_le_pow_right (by omega) (by omega)
              rcases hk1 with e | e | e
              · omega
              · omega
              · omega
        refine ⟨hkk, ?_⟩
        subst hkk
        have e7 : (2 : Nat) ^ (52 + (k + 1)) = 2 ^ (53 + k) := by congr 1; omega
        rw [e7] at h1
        rcases hk2 with e | e
        · subst e
          rw [show (2 : Nat) ^ (53 + 10) = 9223372036854775808 by rfl] at *
          omega
        · omega
      obtain ⟨rfl, hnn⟩ := hkL
      have hpk : 0 < 2 ^ (53 + k) := Nat.two_pow_pos _
      have hna : n.natAbs = 4503599627370496 * 2 ^ (k + 1) := by
        have : n.natAbs = 2 ^ (53 + k) := by omega
        rw [this, show 53 + k = 52 + (k + 1) by omega, Nat.pow_add]
      have hRR : R = 4503599627370496 := by rw [← hR, hna, rnd_exact hp]
      have hX : (if n < 0 then -((R * 2 ^ (k + 1) : Nat) : Int) else ((R * 2 ^ (k + 1) : Nat) : Int)) = n := by
        rw [if_pos (by omega), hRR, ← hna]; omega
      rw [hX]
      refine ⟨-9007199254740992, ?_, .inl ?_⟩
      · rw [hnn, Nat.pow_add, Int.natCast_mul, Int.natCast_pow, Int.natCast_pow, Int.neg_mul]; rfl
      · have : (0 : Int) < 2 ^ k := Int.pow_pos (by omega)
        omega
/-! a quotient of two whole numbers, rounded -/
theorem round_step {q st ρ M D a r R : Nat} (hD : D = 4 ∨ D = 8) (hρ : ρ < M) (hst : (ρ = 0 ∧ st = 0) ∨ (0 < ρ ∧ st = 1)) (hN : 2 * q + st = D * a + r) (hr : r < D)
    (hR : (R = a ∧ 2 * r ≤ D) ∨ (R = a + 1 ∧ D ≤ 2 * r)) :
    2 * (R * D * M) ≤ 2 * (2 * (q * M + ρ)) + D * M ∧ 2 * (2 * (q * M + ρ)) ≤ 2 * (R * D * M) + D * M := by
  have e1 : 2 * (q * M) + st * M = D * (a * M) + r * M := by
    rw [← Nat.mul_assoc, ← Nat.mul_assoc, ← Nat.add_mul, ← Nat.add_mul, hN]
  have e2 : a * D * M = D * (a * M) := by rw [Nat.mul_comm a D, Nat.mul_assoc]
  have e3 : (a + 1) * D * M = D * (a * M) + D * M := by rw [Nat.mul_comm (a + 1) D, Nat.mul_assoc, Nat.add_mul, Nat.one_mul, Nat.mul_add]
  have hr8 : r = 0 ∨ r = 1 ∨ r = 2 ∨ r = 3 ∨ r = 4 ∨ r = 5 ∨ r = 6 ∨ r = 7 := by omega
  generalize hqM : q * M = X at *
  generalize haM : a * M = Y at *
  rcases hR with ⟨rfl, h2⟩ | ⟨rfl, h2⟩
  · rw [e2]
    rcases hD with rfl | rfl <;> rcases hst with ⟨rfl, rfl⟩ | ⟨h0, rfl⟩ <;> rcases hr8 with rfl | rfl | rfl | rfl | rfl | rfl | rfl | rfl <;> omega
  · rw [e3]
    rcases hD with rfl | rfl <;> rcases hst with ⟨rfl, rfl⟩ | ⟨h0, rfl⟩ <;> rcases hr8 with rfl | rfl | rfl | rfl | rfl | rfl | rfl | rfl <;> omega
theorem rnd_cases (n : Nat) {D : Nat} (hD : 0 < D) : (rnd n D = n / D ∧ 2 * (n % D) ≤ D) ∨ (rnd n D = n / D + 1 ∧ D ≤ 2 * (n % D)) := by
  unfold rnd
  by_cases h1 : D < 2 * (n % D)
  · right
    rw [decide_eq_true h1]
    exact ⟨rfl, by omega⟩
  · rw [decide_eq_false h1, Bool.false_or]
    by_cases h2 : (D == 2 * (n % D) && n / D % 2 == 1) = true
    · right
      rw [h2]
      have := (Bool.and_eq_true _ _ ▸ h2).1
      have := beq_iff_eq.1 this
      exact ⟨rfl, by omega⟩
    · left
      have h2 : (D == 2 * (n % D) && n / D % 2 == 1) = false := by simpa using h2
      rw [h2]
      exact ⟨rfl, by omega⟩
theorem quo_round {K M : Nat} (hK1 : 4503599627370496 ≤ K) (hK2 : K < 9007199254740992) (hM1 : 4503599627370496 ≤ M) (hM2 : M < 9007199254740992) :
    ∃ d R, (d = 2 ∨ d = 3) ∧ (2 * (K * 2 ^ 54 / M) + (K * 2 ^ 54 % M != 0).toNat).log2 = 52 + d ∧ rnd (2 * (K * 2 ^ 54 / M) + (K * 2 ^ 54 % M != 0).toNat) (2 ^ d) = R ∧
      4503599627370496 ≤ R ∧ R ≤ 9007199254740992 ∧ 2 * (R * 2 ^ d * M) ≤ 2 * (2 * (K * 2 ^ 54)) + 2 ^ d * M ∧ 2 * (2 * (K * 2 ^ 54)) ≤ 2 * (R * 2 ^ d * M) + 2 ^ d * M := by
  have hM0 : 0 < M := by omega
  obtain ⟨V, hV⟩ : ∃ V, V = K * 2 ^ 54 := ⟨_, rfl⟩
  rw [← hV]
  have hV1 : 2 ^ 106 ≤ V := by rw [hV, show (2 : Nat) ^ 106 = 4503599627370496 * 2 ^ 54 by rfl]; exact Nat.mul_le_mul_right _ hK1
  have hV2 : V < 2 ^ 107 := by rw [hV, show (2 : Nat) ^ 107 = 9007199254740992 * 2 ^ 54 by rfl]; exact Nat.mul_lt_mul_of_pos_right hK2 (Nat.two_pow_pos _)
  have hdm := Nat.div_add_mod V M
  have hρ := Nat.mod_lt V hM0
  have hq1 : 2 ^ 53 ≤ V / M := (Nat.le_div_iff_mul_le hM0).2 (Nat.le_trans (Nat.mul_le_mul_left _ (Nat.le_of_lt hM2)) (by rw [show (2 : Nat) ^ 53 * 9007199254740992 = 2 ^ 106 by rfl]; exact hV1))
  have hq2 : V / M < 2 ^ 55 := (Nat.div_lt_iff_lt_mul hM0).2 (Nat.lt_of_lt_of_le hV2 (by rw [show (2 : Nat) ^ 107 = 2 ^ 55 * 4503599627370496 by rfl]; exact Nat.mul_le_mul_left _ hM1))
  generalize V / M = q at *
  have hst : (V % M = 0 ∧ (V % M != 0).toNat = 0) ∨ (0 < V % M ∧ (V % M != 0).toNat = 1) := by
    rcases Nat.eq_zero_or_pos (V % M) with h | h
    · left; rw [h]; exact ⟨rfl, rfl⟩
    · right
      have : (V % M != 0) = true := by simp; omega
      rw [this]; exact ⟨h, rfl⟩
  generalize (V % M != 0).toNat = st at *
  generalize V % M = ρ at *
  have hst1 : st ≤ 1 := by omega
  rw [show (2 : Nat) ^ 53 = 9007199254740992 by rfl] at hq1
  rw [show (2 : Nat) ^ 55 = 36028797018963968 by rfl] at hq2
  have hN0 : 2 * q + st ≠ 0 := by omega
  have hVq : q * M + ρ = V := by rw [Nat.mul_comm]; exact hdm
  by_cases hc : 2 * q + st < 36028797018963968
  · have hl : (2 * q + st).log2 = 54 := (Nat.log2_eq_iff hN0).2 ⟨by rw [show (2 : Nat) ^ 54 = 18014398509481984 by rfl]; omega, by rw [show (2 : Nat) ^ (54 + 1) = 36028797018963968 by rfl]; omega⟩
    refine ⟨2, _, .inl rfl, hl, rfl, ?_⟩
    have hb := rnd_bounds (n := 2 * q + st) (D := 2 ^ 2) (lo := 4503599627370496) (hi := 9007199254740992) (by decide) (by omega) (by omega)
    have := round_step (q := q) (st := st) (ρ := ρ) (M := M) (D := 4) (.inl rfl) hρ hst (Nat.div_add_mod (2 * q + st) 4).symm (Nat.mod_lt _ (by decide)) (R := rnd (2 * q + st) 4) (rnd_cases (2 * q + st) (D := 4) (by decide))
    rw [hVq] at this
    exact ⟨hb.1, hb.2, this.1, this.2⟩
  · have hl : (2 * q + st).log2 = 55 := (Nat.log2_eq_iff hN0).2 ⟨by rw [show (2 : Nat) ^ 55 = 36028797018963968 by rfl]; omega, by rw [show (2 : Nat) ^ (55 + 1) = 72057594037927936 by rfl]; omega⟩
    refine ⟨3, _, .inr rfl, hl, rfl, ?_⟩
    have hb := rnd_bounds (n := 2 * q + st) (D := 2 ^ 3) (lo := 4503599627370496) (hi := 9007199254740992) (by decide) (by omega) (by omega)
    have := round_step (q := q) (st := st) (ρ := ρ) (M := M) (D := 8) (.inr rfl) hρ hst (Nat.div_add_mod (2 * q + st) 8).symm (Nat.mod_lt _ (by decide)) (R := rnd (2 * q + st) 8) (rnd_cases (2 * q + st) (D := 8) (by decide))
    rw [hVq] at this
    exact ⟨hb.1, hb.2, this.1, this.2⟩
/-- ten to the power of k, as a real -/
def powT (k : Nat) : Nat := [4607182418800017408, 4621819117588971520, 4636737291354636288, 4652007308841189376, 4666723172467343360, 4681608360884174848, 4696837146684686336].getD k 0
theorem powT_read {k : Nat} (h1 : 1 ≤ k) (h6 : k ≤ 6) : ∃ J : Nat, fd.read (powT k) = .number false (10 ^ k * 2 ^ J) (-(J : Int)) ∧ 33 ≤ J ∧ J ≤ 49 ∧ 4503599627370496 ≤ 10 ^ k * 2 ^ J ∧ 10 ^ k * 2 ^ J < 9007199254740992 := by
  have hk : k = 1 ∨ k = 2 ∨ k = 3 ∨ k = 4 ∨ k = 5 ∨ k = 6 := by omega
  rcases hk with rfl | rfl | rfl | rfl | rfl | rfl
  · exact ⟨49, by decide, by decide, by decide, by decide, by decide⟩
  · exact ⟨46, by decide, by decide, by decide, by decide, by decide⟩
  · exact ⟨43, by decide, by decide, by decide, by decide, by decide⟩
  · exact ⟨39, by decide, by decide, by decide, by decide, by decide⟩
  · exact ⟨36, by decide, by decide, by decide, by decide, by decide⟩
  · exact ⟨33, by decide, by decide, by decide, by decide, by decide⟩
theorem int_read {n : Nat} (h0 : 0 < n) (hn : n < 9007199254740992) : ∃ I : Nat, fd.read (floatOfInt .f64 n) = .number false (n * 2 ^ I) (-(I : Int)) ∧ I ≤ 52 ∧ 4503599627370496 ≤ n * 2 ^ I ∧ n * 2 ^ I < 9007199254740992 := by
  obtain ⟨K, last, e1, e2, e3, e4, e5, e6⟩ := nearest_exact false (mag := n) (place := 0) (M := n) (E := 0) (Z := 0) h0 hn (by omega) (by omega) (by omega) (by omega) rfl
  have hl : n.log2 ≤ 52 := by
    have := (Nat.log2_lt (n := n) (k := 53) (by omega)).2 hn
    omega
  have h1 := Nat.log2_self_le (n := n) (by omega)
  have h2 : n < 2 ^ (n.log2 + 1) := Nat.lt_log2_self
  have hlast : last = -((52 - n.log2 : Nat) : Int) := by omega
  refine ⟨52 - n.log2, ?_, by omega, ?_, ?_⟩
  · have : floatOfInt .f64 (n : Int) = fd.nearest false n 0 := by
      show fd.nearest (decide ((n : Int) < 0)) ((n : Int).natAbs) 0 = _
      rw [decide_eq_false (by omega), Int.natAbs_natCast]
    rw [this, e1, e4, hlast, show (0 - -((52 - n.log2 : Nat) : Int)).toNat = 52 - n.log2 by omega]
  · have := Nat.mul_le_mul_right (2 ^ (52 - n.log2)) h1
    rw [← Nat.pow_add, show n.log2 + (52 - n.log2) = 52 by omega] at this
    exact this
  · have := Nat.mul_lt_mul_of_pos_right h2 (Nat.two_pow_pos (52 - n.log2))
    rw [← Nat.pow_add, show n.log2 + 1 + (52 - n.log2) = 53 by omega] at this
    exact this
theorem log2_52 {K : Nat} (h1 : 4503599627370496 ≤ K) (h2 : K < 9007199254740992) : K.log2 = 52 := (Nat.log2_eq_iff (by omega)).2 ⟨h1, h2⟩
/-- a real that is near a literal's value: half a unit at most -/
def Near (b n P : Nat) : Prop := ∃ c E : Nat, fd.read b = .number false c (-(E : Int)) ∧ 4503599627370496 ≤ c ∧ c < 9007199254740992 ∧ 5 ≤ E ∧ E ≤ 72 ∧ 2 * (c * P) ≤ 2 * (n * 2 ^ E) + P ∧ 2 * (n * 2 ^ E) ≤ 2 * (c * P) + P
theorem Near.nan {b n P : Nat} (h : Near b n P) : nanW b = false := by
  obtain ⟨c, E, h, _⟩ := h
  unfold nanW
  rw [h]; rfl
theorem pow10_ge {k : Nat} (h1 : 1 ≤ k) : 10 ≤ 10 ^ k := by
  have := Nat.pow_le_pow_right (n := 10) (by omega) h1
  omega
/-- a normal number, written -/
theorem nearest_normal {N d R : Nat} {place last : Int} (hN : 0 < N) (hlog : N.log2 = 52 + d) (hR : rnd N (2 ^ d) = R) (hlast : last = place + d) (hlo : -1074 < last) (hhi : last ≤ 900) (h1 : 4503599627370496 ≤ R) (h2 : R ≤ 9007199254740992) :
    fd.read (fd.nearest false N place) = if R < 9007199254740992 then .number false R last else .number false 4503599627370496 (last + 1) := by
  unfold Format.nearest
  rw [if_neg (by omega), fd_lp, fd_fb, hlog]
  simp only
  rw [show max (place + ((52 + d : Nat) : Int) - (52 : Nat)) (-1074) = last by omega, cut_even, show (place - last).toNat = 0 by omega, show (last - place).toNat = d by omega, Nat.shiftLeft_zero, hR]
  obtain ⟨q, hq⟩ : ∃ q : Nat, q = (last - -1074).toNat := ⟨_, rfl⟩
  rw [← hq]
  have hql : last = (q : Int) - 1074 := by omega
  by_cases hc : R < 9007199254740992
  · rw [if_pos hc, read_word false (by omega) hc (.inr h1), hql]
  · obtain rfl : R = 9007199254740992 := by omega
    have := read_word false (q := q + 1) (K := 4503599627370496) (by omega) (by omega) (.inr (by omega))
    rw [if_neg hc]
    rw [fd_bin] at this ⊢
    rw [show q * 4503599627370496 + 9007199254740992 = (q + 1) * 4503599627370496 + 4503599627370496 by omega, this, hql, show ((q + 1 : Nat) : Int) - 1074 = (q : Int) - 1074 + 1 by omega]
theorem quo_near {n k : Nat} (h0 : 0 < n) (hn : n < 1000000000000000) (h1 : 1 ≤ k) (h6 : k ≤ 6) : Near (arN .quo (floatOfInt .f64 n) (powT k)) n (10 ^ k) := by
  obtain ⟨I, r1, hI, k1, k2⟩ := int_read h0 (by omega)
  obtain ⟨J, r2, hJ1, hJ2, m1, m2⟩ := powT_read h1 h6
  obtain ⟨d, R, hd, hlog, hR, b1, b2, b3, b4⟩ := quo_round k1 k2 m1 m2
  have hP := pow10_ge h1
  generalize 10 ^ k = P at *
  have hdiv : floatBits .quo .f64 (floatOfInt .f64 n) (powT k) = some (fd.nearest false (2 * (n * 2 ^ I * 2 ^ 54 / (P * 2 ^ J)) + (n * 2 ^ I * 2 ^ 54 % (P * 2 ^ J) != 0).toNat) ((J : Int) - I - 55)) := by
    show ((fd.read _).quotient (52 + 2) (fd.read _)).map fd.write = _
    rw [r1, r2]
    simp only [Datum.quotient]
    rw [if_neg (by omega), log2_52 k1 k2, log2_52 m1 m2, Nat.shiftLeft_eq]
    simp only [Option.map_some, Format.write]
    congr 2
    omega
  have hE0 : 0 ≤ (I : Int) + 55 - J - d := by omega
  obtain ⟨E, hE⟩ : ∃ E : Nat, (E : Int) = (I : Int) + 55 - J - d := ⟨((I : Int) + 55 - J - d).toNat, by omega⟩
  have hread := nearest_normal (N := 2 * (n * 2 ^ I * 2 ^ 54 / (P * 2 ^ J)) + (n * 2 ^ I * 2 ^ 54 % (P * 2 ^ J) != 0).toNat) (d := d) (R := R) (place := (J : Int) - I - 55) (last := -(E : Int))
    (by
      rcases Nat.eq_zero_or_pos (2 * (n * 2 ^ I * 2 ^ 54 / (P * 2 ^ J)) + (n * 2 ^ I * 2 ^ 54 % (P * 2 ^ J) != 0).toNat) with h | h
      · rw [h, Nat.log2_zero] at hlog
        omega
      · exact h) hlog hR (by omega) (by omega) (by omega) b1 b2
  -- the bound, without the common power
  have hZ := Nat.two_pow_pos (d + J)
  have c1 : R * 2 ^ d * (P * 2 ^ J) = R * P * 2 ^ (d + J) := by rw [Nat.pow_add]; simp only [Nat.mul_left_comm, Nat.mul_assoc]
  have c2 : 2 * (n * 2 ^ I * 2 ^ 54) = n * 2 ^ E * 2 ^ (d + J) := by
    rw [Nat.mul_assoc n, Nat.mul_assoc n, ← Nat.pow_add, ← Nat.pow_add, show E + (d + J) = I + 54 + 1 by omega, Nat.pow_succ 2 (I + 54), ← Nat.mul_assoc n, Nat.mul_comm 2]
  have c3 : 2 ^ d * (P * 2 ^ J) = P * 2 ^ (d + J) := by rw [Nat.pow_add]; simp only [Nat.mul_left_comm]
  rw [c1, c2, c3] at b3 b4
  have d3 : 2 * (R * P) ≤ 2 * (n * 2 ^ E) + P := by
    apply Nat.le_of_mul_le_mul_right _ hZ
    rw [Nat.add_mul, Nat.mul_assoc, Nat.mul_assoc 2]
    exact b3
  have d4 : 2 * (n * 2 ^ E) ≤ 2 * (R * P) + P := by
    apply Nat.le_of_mul_le_mul_right _ hZ
    rw [Nat.add_mul, Nat.mul_assoc, Nat.mul_assoc 2]
    exact b4
  have hE5 : 5 ≤ E := by
    rcases Nat.lt_or_ge E 5 with h | h
    · exfalso
      have e1 : n * 2 ^ E ≤ n * 2 ^ 4 := Nat.mul_le_mul_left _ (Nat.pow_le_pow_right (by omega) (by omega))
      have e2 : 4503599627370496 * P ≤ R * P := Nat.mul_le_mul_right _ b1
      omega
    · exact h
  have harn : ∀ x, floatBits .quo .f64 (floatOfInt .f64 n) (powT k) = some x → nanW x = false → arN .quo (floatOfInt .f64 n) (powT k) = x := by
    intro x hx hnx
    unfold arN
    rw [hx]
    exact toN_of hnx
  rw [harn _ hdiv (by
    unfold nanW
    rw [hread]
    split <;> rfl)]
  by_cases hc : R < 9007199254740992
  · rw [if_pos hc] at hread
    exact ⟨R, E, hread, b1, hc, hE5, by omega, d3, d4⟩
  · obtain rfl : R = 9007199254740992 := by omega
    rw [if_neg hc] at hread
    obtain ⟨E', rfl⟩ : ∃ E', E = E' + 1 := ⟨E - 1, by omega⟩
    have c4 : n * 2 ^ (E' + 1) = 2 * (n * 2 ^ E') := by rw [Nat.pow_succ, ← Nat.mul_assoc, Nat.mul_comm 2]
    rw [c4] at d3 d4
    have hE6 : 5 ≤ E' := by
      rcases Nat.lt_or_ge E' 5 with h | h
      · exfalso
        have e1 : n * 2 ^ E' ≤ n * 2 ^ 4 := Nat.mul_le_mul_left _ (Nat.pow_le_pow_right (by omega) (by omega))
        omega
      · exact h
    refine ⟨4503599627370496, E', ?_, by omega, by omega, hE6, by omega, by omega, by omega⟩
    rw [hread]
    congr 1
    omega
end Go.As
