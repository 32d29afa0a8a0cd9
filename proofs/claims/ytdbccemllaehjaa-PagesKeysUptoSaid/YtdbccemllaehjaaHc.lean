/- Singles: order with nought, the key of a single; octets.key and the reference's Key, walked. -/
import Derived.Test.YtdbccemllaehjaaHb
namespace Go.Proofs.YtdbccemllaehjaaHa
open Ieee
/-- No number. -/
def isNan (x : Nat) : Prop := 2139095040 < x % 2147483648
instance (x : Nat) : Decidable (isNan x) := inferInstanceAs (Decidable (2139095040 < x % 2147483648))
def absw (x : Nat) : Nat := x % 2147483648
theorem read_neg {a : Nat} (ha : a < 2139095040) : single.read (2147483648 + a) = .number true (dm a) ((ds a : Int) - 149) := by
  unfold Format.read
  simp only [s_sign, s_bin, s_inf, s_lp]
  have e1 : (2147483648 + a) / 2147483648 = 1 := by omega
  have e2 : (2147483648 + a) % 2147483648 = a := by omega
  rw [e1, e2]
  unfold dm ds
  split
  · have : a / 8388608 = 0 := Nat.div_eq_of_lt (by assumption)
    rw [this]
    rfl
  · first | rw [if_pos ha] | skip
    have : (-149 : Int) + ((a / 8388608 - 1 : Nat) : Int) = ((a / 8388608 - 1 : Nat) : Int) - 149 := by omega
    rw [this]
    rfl
theorem read_ninf : single.read 4286578688 = .infinity true := by decide
theorem read_nan {x : Nat} (h : isNan x) : ∃ s t, single.read x = .nan s t := by
  unfold isNan at h
  unfold Format.read
  simp only [s_sign, s_bin, s_inf, s_lp]
  rw [if_neg (by omega), if_neg (by omega), if_neg (by omega)]
  exact ⟨_, _, rfl⟩
theorem read_num {x : Nat} (hx : x < 4294967296) (h : ¬ isNan x) : (∃ s m e, single.read x = .number s m e) ∨ ∃ s, single.read x = .infinity s := by
  unfold isNan at h
  by_cases h1 : x < 2147483648
  · by_cases h2 : x < 2139095040
    · exact .inl ⟨_, _, _, read_s h2⟩
    · have : x = 2139095040 := by omega
      rw [this]
      exact .inr ⟨_, read_inf⟩
  · obtain ⟨a, rfl⟩ : ∃ a, x = 2147483648 + a := ⟨x - 2147483648, by omega⟩
    by_cases h2 : a < 2139095040
    · exact .inl ⟨_, _, _, read_neg h2⟩
    · have : a = 2139095040 := by omega
      rw [this]
      exact .inr ⟨_, read_ninf⟩
theorem order_self {x : Nat} (hx : x < 4294967296) : (single.order x x = some .eq) ↔ ¬ isNan x := by
  unfold Format.order
  by_cases h : isNan x
  · obtain ⟨s, t, e⟩ := read_nan h
    rw [e]
    simp [Datum.order, h]
  · rcases read_num hx h with ⟨s, m, e, he⟩ | ⟨s, he⟩
    · rw [he]
      simp only [Datum.order, h, not_false_eq_true, iff_true]
      exact congrArg some (Int.compare_eq_eq.2 rfl)
    · rw [he]
      simp only [Datum.order, h, not_false_eq_true, iff_true]
      exact congrArg some (Nat.compare_eq_eq.2 rfl)
/-- Of a number below nought, and of -0. -/
theorem order_neg {a : Nat} (ha : a ≤ 2139095040) : single.order (2147483648 + a) 0 = some (if a = 0 then .eq else .lt) := by
  by_cases h0 : a = 0
  · subst h0; decide
  · rw [if_neg h0]
    unfold Format.order
    have hz : single.read 0 = .number false 0 (-149) := by decide
    rw [hz]
    by_cases h1 : a < 2139095040
    · rw [read_neg h1]
      simp only [Datum.order, signed]
      have hp := dm_pos (n := a) (by omega)
      refine congrArg some ?_
      have e1 : ((ds a : Int) - 149 - min ((ds a : Int) - 149) (-149)).toNat = ds a := by omega
      rw [e1]
      have hv : 0 < dm a <<< ds a := by rw [Nat.shiftLeft_eq]; exact Nat.mul_pos hp (Nat.pow_pos (by omega))
      refine Int.compare_eq_lt.2 ?_
      simp only [if_true, Bool.false_eq_true, if_false]
      have : (0 <<< ((-149 : Int) - min ((ds a : Int) - 149) (-149)).toNat) = 0 := Nat.zero_shiftLeft _
      rw [this]
      omega
    · have : a = 2139095040 := by omega
      rw [this, show 2147483648 + 2139095040 = 4286578688 by omega, read_ninf]
      rfl
theorem order_m0 {a : Nat} (ha : a ≤ 2139095040) : single.order a 2147483648 = some (compare a 0) := by
  have hz : single.read 2147483648 = .number true 0 (-149) := by decide
  have h0 := order_s ha (show 0 ≤ 2139095040 by omega)
  unfold Format.order at h0 ⊢
  have hz0 : single.read 0 = .number false 0 (-149) := by decide
  rw [hz0] at h0
  rw [hz, ← h0]
  by_cases h1 : a = 2139095040
  · rw [h1, read_inf]; rfl
  · rw [read_s (by omega)]
    simp only [Datum.order, signed]
    simp [Nat.zero_shiftLeft]
/-- The key of a single. -/
def keyR (x : Nat) : Nat := if isNan x then 4290772992 else if x < 2147483648 then 2147483648 + x else 4294967295 - x
end Go.Proofs.YtdbccemllaehjaaHa
