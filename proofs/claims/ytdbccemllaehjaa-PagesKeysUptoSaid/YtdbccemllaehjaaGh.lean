/- Plain words on bits: the reference's Armor and Unarmor, bit by bit. No program is in sight here. -/
import Derived.Test.YtdbccemllaehjaaGb
namespace Go.Proofs.YtdbccemllaehjaaGa
open Go.RowKit
set_option linter.unusedVariables false
set_option linter.unusedSimpArgs false
theorem Dig.take {b : Nat} {l : List Nat} (h : Dig b l) (k : Nat) : Dig b (l.take k) := fun d hd => h d (List.mem_of_mem_take hd)
theorem Dig.drop {b : Nat} {l : List Nat} (h : Dig b l) (k : Nat) : Dig b (l.drop k) := fun d hd => h d (List.mem_of_mem_drop hd)
theorem pow256 (r : Nat) : 256 ^ r = 2 ^ (8 * r) := by rw [Nat.pow_mul]
theorem val_split (b : Nat) (l : List Nat) (k : Nat) : val b l = val b (l.take k) * b ^ (l.length - k) + val b (l.drop k) := by
  conv => lhs; rw [← List.take_append_drop k l]
  rw [val_append, List.length_drop]
/-- The value of the first k digits. -/
theorem val_take {b : Nat} {l : List Nat} (hd : Dig b l) (hb : 0 < b) (k : Nat) : val b l / b ^ (l.length - k) = val b (l.take k) := by
  have h1 := val_lt _ (l.drop k) rfl (hd.drop k)
  rw [List.length_drop] at h1
  rw [val_split b l k, Nat.mul_comm, Nat.mul_add_div (Nat.pow_pos hb), Nat.div_eq_of_lt h1, Nat.add_zero]
theorem low_bit (a c s : Nat) (hs : s ≤ 7) : (a * 256 + c) / 2 ^ s % 2 = c / 2 ^ s % 2 := by
  have e : a * 256 + c = 2 ^ s * (a * 2 ^ (7 - s) * 2) + c := by
    have : 2 ^ s * 2 ^ (7 - s) = 128 := by rw [← Nat.pow_add, show s + (7 - s) = 7 by omega]
    have : 2 ^ s * (a * 2 ^ (7 - s) * 2) = a * 256 := by
      rw [show 2 ^ s * (a * 2 ^ (7 - s) * 2) = a * ((2 ^ s * 2 ^ (7 - s)) * 2) by ac_rfl, this]
    omega
  rw [e, Nat.mul_add_div (Nat.pow_pos (by omega))]
  omega
theorem bit_at {l : List Nat} (hd : Dig 256 l) {k : Nat} (hk : k < 8 * l.length) : val 256 l / 2 ^ (8 * l.length - 1 - k) % 2 = (l[k / 8]'(by omega)) / 2 ^ (7 - k % 8) % 2 := by
  have hq : k / 8 < l.length := by omega
  have e1 : 8 * l.length - 1 - k = 8 * (l.length - (k / 8 + 1)) + (7 - k % 8) := by omega
  have h1 := val_take hd (by omega) (k / 8 + 1)
  rw [e1, Nat.pow_add, ← Nat.div_div_eq_div_mul, ← pow256, h1, List.take_succ_eq_append_getElem hq, val_snoc]
  exact low_bit _ _ _ (by omega)
/-- The bit of a place, of V * 32. -/
theorem bit32 {l : List Nat} (hd : Dig 256 l) {k : Nat} (hk : k < 8 * l.length) : val 256 l * 32 / 2 ^ (8 * l.length + 4 - k) % 2 = (l[k / 8]'(by omega)) / 2 ^ (7 - k % 8) % 2 := by
  rw [← bit_at hd hk, show 8 * l.length + 4 - k = 5 + (8 * l.length - 1 - k) by omega, Nat.pow_add, ← Nat.div_div_eq_div_mul]
  rw [show val 256 l * 32 / 2 ^ 5 = val 256 l from Nat.mul_div_cancel _ (by omega)]
theorem bit32_past (V m k : Nat) (hk : 8 * m ≤ k) (hk2 : k < 8 * m + 5) : V * 32 / 2 ^ (8 * m + 4 - k) % 2 = 0 := by
  obtain ⟨s, hs⟩ : ∃ s, 8 * m + 4 - k = s := ⟨_, rfl⟩
  have h4 : s ≤ 4 := by omega
  rw [hs]
  have : V * 32 = 2 ^ s * (V * 2 ^ (4 - s) * 2) := by
    have h2 : 2 ^ s * 2 ^ (4 - s) = 16 := by rw [← Nat.pow_add, show s + (4 - s) = 4 by omega]
    rw [show 2 ^ s * (V * 2 ^ (4 - s) * 2) = V * ((2 ^ s * 2 ^ (4 - s)) * 2) by ac_rfl, h2]
  rw [this, Nat.mul_div_cancel_left _ (Nat.pow_pos (by omega))]
  omega
/-- The reference's Armor: j letters are written (outer), i bits of the next are in n (inner). -/
structure RA (V m : Nat) (out : List Nat) (j i n : Nat) : Prop where
  dig : Dig 32 out
  len : out.length = j
  lo : 5 * j + i ≤ 8 * m + 5
  lt : n < 2 ^ i
  val : YtdbccemllaehjaaGa.val 32 out * 2 ^ i + n = V * 32 / 2 ^ (8 * m + 5 - (5 * j + i))
theorem RA.start {l : List Nat} (hd : Dig 256 l) : RA (YtdbccemllaehjaaGa.val 256 l) l.length [] 0 0 0 := by
  refine ⟨by intro d hd; simp at hd, rfl, by omega, by omega, ?_⟩
  have h := val_lt _ l rfl hd
  rw [pow256] at h
  simp only [val_nil]
  symm
  rw [Nat.zero_mul, Nat.zero_add]
  refine Nat.div_eq_of_lt ?_
  rw [show 8 * l.length + 5 - (5 * 0 + 0) = 8 * l.length + 5 by omega, Nat.pow_add]
  omega
theorem half_step (X t : Nat) : X / 2 ^ t = 2 * (X / 2 ^ (t + 1)) + X / 2 ^ t % 2 := by
  rw [Nat.pow_succ, ← Nat.div_div_eq_div_mul]
  omega
theorem RA.bit {V m : Nat} {out : List Nat} {j i n b : Nat} (h : RA V m out j i n) (hlo : 5 * j + i < 8 * m + 5) (hb : V * 32 / 2 ^ (8 * m + 4 - (5 * j + i)) % 2 = b) : RA V m out j (i + 1) (2 * n + b) := by
  have hb2 : b < 2 := by rw [← hb]; exact Nat.mod_lt _ (by omega)
  have hlt := h.lt
  refine ⟨h.dig, h.len, by omega, by rw [Nat.pow_succ]; omega, ?_⟩
  have hs := half_step (V * 32) (8 * m + 4 - (5 * j + i))
  rw [hb, show 8 * m + 4 - (5 * j + i) + 1 = 8 * m + 5 - (5 * j + i) by omega, ← h.val] at hs
  rw [show 8 * m + 5 - (5 * j + (i + 1)) = 8 * m + 4 - (5 * j + i) by omega, hs, Nat.pow_succ, ← Nat.mul_assoc]
  omega
theorem RA.letter {V m : Nat} {out : List Nat} {j n : Nat} (h : RA V m out j 5 n) : RA V m (out ++ [n]) (j + 1) 0 0 ∧ n < 32 := by
  have hlt := h.lt
  have hn : n < 32 := hlt
  refine ⟨⟨h.dig.snoc hn, by simp [h.len], by have := h.lo; omega, by omega, ?_⟩, hn⟩
  have hv := h.val
  rw [val_snoc, show 5 * (j + 1) + 0 = 5 * j + 5 by omega, ← hv]
  simp
theorem RA.done {l : List Nat} {out : List Nat} {j : Nat} (h : RA (YtdbccemllaehjaaGa.val 256 l) l.length out j 0 0) (hj : 8 * l.length ≤ 5 * j) (h4 : 5 * j ≤ 8 * l.length + 4) : ArmD l out := by
  have hlen := h.len
  refine ⟨h.dig, by omega, ?_⟩
  have hv := h.val
  rw [hlen]
  simp only [Nat.pow_zero, Nat.mul_one, Nat.add_zero] at hv
  rw [hv]
  have e : 2 ^ (8 * l.length + 5 - 5 * j) * 2 ^ (5 * j - 8 * l.length) = 32 := by
    rw [← Nat.pow_add, show 8 * l.length + 5 - 5 * j + (5 * j - 8 * l.length) = 5 by omega]
  rw [← e, ← Nat.mul_assoc, Nat.mul_comm (YtdbccemllaehjaaGa.val 256 l), Nat.mul_assoc, Nat.mul_div_cancel_left _ (Nat.pow_pos (by omega))]
/-- The reference's Unarmor: the bits of letters. -/
theorem bits_join5 {D : List Nat} {bs : List Nat} {k b n : Nat} (hn : n < 32) : True := trivial
end Go.Proofs.YtdbccemllaehjaaGa
