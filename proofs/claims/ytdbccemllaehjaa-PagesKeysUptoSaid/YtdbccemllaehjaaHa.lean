/- Plain words on floats: a double that holds m * 2^e exactly; the order of words. No program is in sight here. -/
import Derived.WalkKit
namespace Go.Proofs.YtdbccemllaehjaaHa
open Ieee
set_option linter.unusedVariables false
set_option linter.unusedSimpArgs false
theorem log2_of {n k : Nat} (h1 : 2 ^ k ≤ n) (h2 : n < 2 ^ (k + 1)) : n.log2 = k :=
  (Nat.log2_eq_iff (by have := Nat.pow_pos (n := k) (show 0 < 2 by omega); omega)).2 ⟨h1, h2⟩
theorem cut_exact {n m d : Nat} (h : n = m * 2 ^ d) (hd : d ≤ n.log2 + 2) : Toward.even.cut false n d = m := by
  have hp : 0 < 2 ^ d := Nat.pow_pos (by omega)
  unfold Toward.cut
  rw [Nat.min_eq_left hd, Nat.one_shiftLeft]
  subst h
  simp only [Nat.mul_div_cancel _ hp, Nat.mul_mod_left]
  have h1 : decide (2 ^ d < 2 * 0) = false := decide_eq_false (by omega)
  have h2 : ((2 ^ d == 2 * 0) : Bool) = false := beq_eq_false_iff_ne.2 (by omega)
  rw [h1, h2]
  simp
theorem near {f : Format} {mag m : Nat} {place last : Int} (h0 : mag ≠ 0) (hl : max (place + mag.log2 - f.fractionBits) f.leastPlace = last) (hm : mag * 2 ^ (place - last).toNat = m * 2 ^ (last - place).toNat)
    (hd : (last - place).toNat ≤ (mag * 2 ^ (place - last).toNat).log2 + 2) : f.nearest false mag place = min ((last - f.leastPlace).toNat * f.binade + m) f.infRung := by
  unfold Format.nearest
  rw [if_neg h0]
  simp only [hl]
  rw [Nat.shiftLeft_eq, cut_exact hm hd]
  rfl
theorem d_sign : double.signWeight = 9223372036854775808 := by decide
theorem d_bin : double.binade = 4503599627370496 := by decide
theorem d_inf : double.infRung = 9218868437227405312 := by decide
theorem d_lp : double.leastPlace = -1074 := by decide
theorem d_fb : double.fractionBits = 52 := rfl
theorem s_sign : single.signWeight = 2147483648 := by decide
theorem s_bin : single.binade = 8388608 := by decide
theorem s_inf : single.infRung = 2139095040 := by decide
theorem s_lp : single.leastPlace = -149 := by decide
theorem s_fb : single.fractionBits = 23 := rfl
/-- The word of the double M * 2^q. -/
def D (M : Nat) (q : Int) : Nat := (q + 1075).toNat * 4503599627370496 + (M - 4503599627370496)
structure OkD (M : Nat) (q : Int) : Prop where
  lo : 4503599627370496 ≤ M
  hi : M < 9007199254740992
  qlo : -1000 ≤ q
  qhi : q ≤ 900
theorem read_D {M : Nat} {q : Int} (h : OkD M q) : double.read (D M q) = .number false M q := by
  obtain ⟨h1, h2, h3, h4⟩ := h
  obtain ⟨r, hr⟩ := Int.eq_ofNat_of_zero_le (show 0 ≤ q + 1075 by omega)
  have hq : q = (r : Int) - 1075 := by omega
  have hD : D M q = r * 4503599627370496 + (M - 4503599627370496) := by unfold D; rw [hr]; rfl
  rw [hD]
  unfold Format.read
  simp only [d_sign, d_bin, d_inf, d_lp]
  have e1 : (r * 4503599627370496 + (M - 4503599627370496)) / 9223372036854775808 = 0 := Nat.div_eq_of_lt (by omega)
  have e2 : (r * 4503599627370496 + (M - 4503599627370496)) % 9223372036854775808 = r * 4503599627370496 + (M - 4503599627370496) := Nat.mod_eq_of_lt (by omega)
  have e3 : (r * 4503599627370496 + (M - 4503599627370496)) % 4503599627370496 = M - 4503599627370496 := by omega
  have e4 : (r * 4503599627370496 + (M - 4503599627370496)) / 4503599627370496 = r := by omega
  rw [e1, e2, if_neg (by omega), if_pos (by omega), e3, e4]
  have e5 : 4503599627370496 + (M - 4503599627370496) = M := by omega
  have e6 : (-1074 : Int) + ((r - 1 : Nat) : Int) = q := by omega
  rw [e5, e6]
  rfl
/-- What is nearest to such a number is itself. -/
theorem near_D {M a : Nat} {p q : Int} (h : OkD M q) (ha : a ≤ 100) (hq : p + a = q) : double.nearest false (M * 2 ^ a) p = D M q := by
  obtain ⟨h1, h2, h3, h4⟩ := h
  have hp : 0 < 2 ^ a := Nat.pow_pos (by omega)
  have hl : (M * 2 ^ a).log2 = 52 + a := by
    refine log2_of ?_ ?_
    · rw [Nat.pow_add]; exact Nat.mul_le_mul_right _ (by omega)
    · rw [show 52 + a + 1 = 53 + a by omega, Nat.pow_add]; exact Nat.mul_lt_mul_of_pos_right (by omega) hp
  rw [near (m := M) (last := q) (by have : 0 < M * 2 ^ a := Nat.mul_pos (by omega) hp
                                    omega) (by rw [hl, d_fb, d_lp]; omega) (by rw [show (p - q).toNat = 0 by omega, show (q - p).toNat = a by omega]; simp) (by rw [show (p - q).toNat = 0 by omega, Nat.pow_zero, Nat.mul_one, hl]; omega)]
  rw [d_lp, d_bin, d_inf]
  unfold D
  obtain ⟨r, hr⟩ := Int.eq_ofNat_of_zero_le (show 0 ≤ q + 1075 by omega)
  have e1 : (q - -1074).toNat = r - 1 := by omega
  rw [e1, hr]
  have e2 : ((r : Int)).toNat = r := rfl
  rw [e2, Nat.min_eq_left (by omega)]
  omega
/-- 2.0. -/
theorem two_D : D 4503599627370496 (-51) = 4611686018427387904 := by decide
theorem two_ok : OkD 4503599627370496 (-51) := ⟨by omega, by omega, by omega, by omega⟩
theorem mul_two {M : Nat} {q : Int} (h : OkD M q) (h' : OkD M (q + 1)) : double.mul (D M q) 4611686018427387904 = some (D M (q + 1)) := by
  unfold Format.mul
  rw [read_D h, ← two_D, read_D two_ok]
  simp only [Datum.product, Option.map_some, Format.write]
  have := near_D (a := 52) (p := q + -51) h' (by omega) (by omega)
  exact congrArg some this
theorem div_two {M : Nat} {q : Int} (h : OkD M q) (h' : OkD M (q - 1)) : double.div (D M q) 4611686018427387904 = some (D M (q - 1)) := by
  unfold Format.div
  rw [read_D h, ← two_D, read_D two_ok]
  have hl : M.log2 = 52 := log2_of (by have := h.lo; omega) (by have := h.hi; omega)
  have hl2 : (4503599627370496 : Nat).log2 = 52 := by decide
  have hsh : M <<< 54 = (M * 4) * 4503599627370496 := by rw [Nat.shiftLeft_eq]; omega
  simp only [Datum.quotient, d_fb, hl, hl2]
  rw [if_neg (by omega)]
  simp only [Option.map_some, Format.write]
  have e0 : 52 + 2 + 52 - 52 = 54 := by decide
  rw [e0, hsh, Nat.mul_div_cancel _ (by omega), Nat.mul_mod_left]
  have := near_D (a := 3) (p := q - -51 - 54 - 1) h' (by omega) (by omega)
  refine congrArg some ?_
  have e1 : 2 * (M * 4) + ((0 : Nat) != 0).toNat = M * 2 ^ 3 := by
    show 2 * (M * 4) + 0 = M * 2 ^ 3
    omega
  rw [e1]
  exact this
theorem mul_zero_two : double.mul 0 4611686018427387904 = some 0 := by decide
theorem div_zero_two : double.div 0 4611686018427387904 = some 0 := by decide +kernel
/-- A whole number below 2^24, as a double. -/
theorem near_nat {m k : Nat} (h1 : 2 ^ k ≤ m) (h2 : m < 2 ^ (k + 1)) (hk : k ≤ 23) : double.nearest false m 0 = D (m * 2 ^ (52 - k)) ((k : Int) - 52) ∧ OkD (m * 2 ^ (52 - k)) ((k : Int) - 52) := by
  have hp : 0 < 2 ^ (52 - k) := Nat.pow_pos (by omega)
  have hm0 : 0 < m := Nat.lt_of_lt_of_le (Nat.pow_pos (by omega)) h1
  have hlo : 4503599627370496 ≤ m * 2 ^ (52 - k) := by
    have := Nat.mul_le_mul_right (2 ^ (52 - k)) h1
    rw [← Nat.pow_add, show k + (52 - k) = 52 by omega] at this
    exact this
  have hhi : m * 2 ^ (52 - k) < 9007199254740992 := by
    have := Nat.mul_lt_mul_of_pos_right h2 hp
    rw [← Nat.pow_add, show k + 1 + (52 - k) = 53 by omega] at this
    exact this
  refine ⟨?_, ⟨hlo, hhi, by omega, by omega⟩⟩
  have hl := log2_of h1 h2
  rw [near (m := m * 2 ^ (52 - k)) (last := (k : Int) - 52) (by omega) (by rw [hl, d_fb, d_lp]; omega) (by rw [show (0 - ((k : Int) - 52)).toNat = 52 - k by omega, show ((k : Int) - 52 - 0).toNat = 0 by omega]; simp) (by rw [show ((k : Int) - 52 - 0).toNat = 0 by omega]; omega)]
  rw [d_lp, d_bin, d_inf]
  unfold D
  have e1 : ((k : Int) - 52 - -1074).toNat = k + 1022 := by omega
  have e2 : ((k : Int) - 52 + 1075).toNat = k + 1023 := by omega
  rw [e1, e2, Nat.min_eq_left (by omega)]
  omega
/-- The parts of a rung of the singles: its digits, its place above -149. -/
def dm (n : Nat) : Nat := if n < 8388608 then n else 8388608 + n % 8388608
def ds (n : Nat) : Nat := n / 8388608 - 1
theorem dm_lt (n : Nat) : dm n < 16777216 := by unfold dm; split <;> omega
theorem dm_pos {n : Nat} (h : 0 < n) : 0 < dm n := by unfold dm; split <;> omega
/-- The single of a double that holds dm n * 2 ^ (ds n - 149). -/
theorem single_of {n k : Nat} (hn : n < 2139095040) (h1 : 2 ^ k ≤ dm n) (h2 : dm n < 2 ^ (k + 1)) (hk : k ≤ 23) : single.write (.number false (dm n * 2 ^ (52 - k)) ((k : Int) - 52 + ((ds n : Int) - 149))) = n := by
  have hp : 0 < 2 ^ (52 - k) := Nat.pow_pos (by omega)
  have hm0 : 0 < dm n := Nat.lt_of_lt_of_le (Nat.pow_pos (by omega)) h1
  have hl : (dm n * 2 ^ (52 - k)).log2 = 52 := by
    refine log2_of ?_ ?_
    · have := Nat.mul_le_mul_right (2 ^ (52 - k)) h1
      rw [← Nat.pow_add, show k + (52 - k) = 52 by omega] at this
      exact this
    · have := Nat.mul_lt_mul_of_pos_right h2 hp
      rw [← Nat.pow_add, show k + 1 + (52 - k) = 53 by omega] at this
      exact this
  have hne : dm n * 2 ^ (52 - k) ≠ 0 := by
    have := Nat.mul_pos hm0 hp
    omega
  show single.nearest false _ _ = n
  have hks : ds n = 0 ∨ (0 < ds n ∧ k = 23) := by
    by_cases h : ds n = 0
    · exact .inl h
    · refine .inr ⟨by omega, ?_⟩
      have h3 : 8388608 ≤ dm n := by
        unfold dm; unfold ds at h
        split
        · have : n / 8388608 = 0 := Nat.div_eq_of_lt (by assumption)
          omega
        · omega
      have h4 : (2 : Nat) ^ 23 < 2 ^ (k + 1) := Nat.lt_of_le_of_lt h3 h2
      have := (Nat.pow_lt_pow_iff_right (show 1 < 2 by omega)).1 h4
      omega
  have hlast : max ((k : Int) - 52 + ((ds n : Int) - 149) + 52 - 23) (-149) = (ds n : Int) - 149 := by
    rcases hks with h | ⟨h, rfl⟩ <;> omega
  rw [near (m := dm n) (last := (ds n : Int) - 149) hne (by rw [hl, s_fb, s_lp]; exact hlast)
    (by rw [show ((k : Int) - 52 + ((ds n : Int) - 149) - ((ds n : Int) - 149)).toNat = 0 by omega, show ((ds n : Int) - 149 - ((k : Int) - 52 + ((ds n : Int) - 149))).toNat = 52 - k by omega]; simp)
    (by rw [show ((k : Int) - 52 + ((ds n : Int) - 149) - ((ds n : Int) - 149)).toNat = 0 by omega, show ((ds n : Int) - 149 - ((k : Int) - 52 + ((ds n : Int) - 149))).toNat = 52 - k by omega, Nat.pow_zero, Nat.mul_one, hl]; omega)]
  rw [s_lp, s_bin, s_inf]
  have e1 : ((ds n : Int) - 149 - -149).toNat = ds n := by omega
  rw [e1]
  unfold dm ds
  split
  · have : n / 8388608 = 0 := Nat.div_eq_of_lt (by assumption)
    rw [this]
    omega
  · omega
/-- Reading a single that is no NaN and not below nought. -/
theorem read_s {n : Nat} (hn : n < 2139095040) : single.read n = .number false (dm n) ((ds n : Int) - 149) := by
  unfold Format.read
  simp only [s_sign, s_bin, s_inf, s_lp]
  have e1 : n / 2147483648 = 0 := Nat.div_eq_of_lt (by omega)
  have e2 : n % 2147483648 = n := Nat.mod_eq_of_lt (by omega)
  rw [e1, e2]
  unfold dm ds
  split
  · have : n / 8388608 = 0 := Nat.div_eq_of_lt (by assumption)
    rw [this]
    rfl
  · first | rw [if_pos hn] | skip
    have : (-149 : Int) + ((n / 8388608 - 1 : Nat) : Int) = ((n / 8388608 - 1 : Nat) : Int) - 149 := by omega
    rw [this]
    rfl
theorem read_inf : single.read 2139095040 = .infinity false := by decide
theorem val_lt {a b : Nat} (h : a < b) : ds a ≤ ds b ∧ dm a < dm b * 2 ^ (ds b - ds a) := by
  unfold ds dm
  by_cases hb : b < 8388608
  · rw [if_pos hb, if_pos (by omega)]
    have e1 : a / 8388608 = 0 := Nat.div_eq_of_lt (by omega)
    have e2 : b / 8388608 = 0 := Nat.div_eq_of_lt hb
    rw [e1, e2]
    simp
    exact h
  · rw [if_neg hb]
    have hle : a / 8388608 ≤ b / 8388608 := Nat.div_le_div_right (by omega)
    refine ⟨by omega, ?_⟩
    by_cases he : b / 8388608 - 1 = a / 8388608 - 1
    · rw [he, Nat.sub_self, Nat.pow_zero, Nat.mul_one]
      split <;> omega
    · obtain ⟨t, ht⟩ : ∃ t, b / 8388608 - 1 - (a / 8388608 - 1) = t + 1 := ⟨b / 8388608 - 1 - (a / 8388608 - 1) - 1, by omega⟩
      rw [ht, Nat.pow_succ]
      have h1 : 1 ≤ 2 ^ t := Nat.pow_pos (by omega)
      have h2 : (8388608 + b % 8388608) * (1 * 2) ≤ (8388608 + b % 8388608) * (2 ^ t * 2) := Nat.mul_le_mul_left _ (Nat.mul_le_mul_right _ h1)
      split <;> omega
/-- The order of singles that are not below nought is that of their words. -/
theorem order_s {a b : Nat} (ha : a ≤ 2139095040) (hb : b ≤ 2139095040) : single.order a b = some (compare a b) := by
  unfold Format.order
  by_cases ha' : a = 2139095040
  · rw [ha', read_inf]
    by_cases hb' : b = 2139095040
    · rw [hb', read_inf]; rfl
    · rw [read_s (by omega)]
      simp only [Datum.order]
      rw [Nat.compare_eq_gt.2 (by omega)]
      rfl
  · by_cases hb' : b = 2139095040
    · rw [hb', read_inf, read_s (by omega)]
      simp only [Datum.order]
      rw [Nat.compare_eq_lt.2 (by omega)]
      rfl
    · rw [read_s (by omega), read_s (by omega)]
      simp only [Datum.order, signed]
      have hcmp : ∀ x y : Nat, compare (if (false : Bool) = true then -((x : Nat) : Int) else (x : Int)) (if (false : Bool) = true then -((y : Nat) : Int) else (y : Int)) = compare x y := by
        intro x y
        simp only [Bool.false_eq_true, if_false]
        rcases Nat.lt_trichotomy x y with h | h | h
        · rw [Nat.compare_eq_lt.2 h, Int.compare_eq_lt.2 (by omega)]
        · rw [Nat.compare_eq_eq.2 h, Int.compare_eq_eq.2 (by omega)]
        · rw [Nat.compare_eq_gt.2 h, Int.compare_eq_gt.2 (by omega)]
      refine congrArg some ((hcmp _ _).trans ?_)
      rcases Nat.lt_trichotomy a b with h | h | h
      · obtain ⟨h1, h2⟩ := val_lt h
        rw [Nat.compare_eq_lt.2 h, Nat.compare_eq_lt, Nat.shiftLeft_eq, Nat.shiftLeft_eq]
        have e1 : ((ds a : Int) - 149 - min ((ds a : Int) - 149) ((ds b : Int) - 149)).toNat = 0 := by omega
        have e2 : ((ds b : Int) - 149 - min ((ds a : Int) - 149) ((ds b : Int) - 149)).toNat = ds b - ds a := by omega
        rw [e1, e2, Nat.pow_zero, Nat.mul_one]
        exact h2
      · subst h
        exact (Nat.compare_eq_eq.2 rfl).trans (Nat.compare_eq_eq.2 rfl).symm
      · obtain ⟨h1, h2⟩ := val_lt h
        rw [Nat.compare_eq_gt.2 h, Nat.compare_eq_gt, Nat.shiftLeft_eq, Nat.shiftLeft_eq]
        have e1 : ((ds b : Int) - 149 - min ((ds a : Int) - 149) ((ds b : Int) - 149)).toNat = 0 := by omega
        have e2 : ((ds a : Int) - 149 - min ((ds a : Int) - 149) ((ds b : Int) - 149)).toNat = ds a - ds b := by omega
        rw [e1, e2, Nat.pow_zero, Nat.mul_one]
        exact h2
end Go.Proofs.YtdbccemllaehjaaHa
