/- The key of a single: octets.key, Writer.Real and the reference's Key, walked. -/
import Derived.Test.YtdbccemllaehjaaHd
import Derived.Laws.Externs
namespace Go.Proofs.Ytdbccemllaehjaa.PK
open Go.RowKit Go.Proofs.YtdbccemllaehjaaKw Go.Proofs.YtdbccemllaehjaaHa
set_option linter.unusedVariables false
set_option linter.unusedSimpArgs false
theorem run_bits (x : Nat) (w : World) : (callFunc 133 #[.float .f32 x]).run Try.prog w = .ok (.value (.int .u32 (x : Int))) w := by
  rw [run_callFunc_extern (fn := Try.f133) (e := Extern.MathFloatBits.float32bits) Try.func133 (by kernel_rfl) (by kernel_rfl) (by kernel_rfl) (by kernel_rfl)]
  rfl
theorem wraps_u32 (n : Int) (h0 : 0 ≤ n) (h1 : n < 2 ^ 32) : IntKind.u32.wrap n = n := by rw [IntKind.wrap_u32]; omega
theorem bxor32 (a b : Nat) (ha : a < 4294967296) (hb : b < 4294967296) : bits .xor .u32 a b = ((a ^^^ b : Nat) : Int) := by
  have ha' : a % 2 ^ 32 = a := Nat.mod_eq_of_lt ha
  have hb' : b % 2 ^ 32 = b := Nat.mod_eq_of_lt hb
  have hn : (BitVec.ofNat 32 a ^^^ BitVec.ofNat 32 b).toNat = a ^^^ b := by rw [BitVec.toNat_xor, BitVec.toNat_ofNat, BitVec.toNat_ofNat, ha', hb']
  show IntKind.u32.wrap (((BitVec.ofInt 32 (a : Int) ^^^ BitVec.ofInt 32 (b : Int)).toNat : Nat) : Int) = _
  rw [BitVec.ofInt_natCast, BitVec.ofInt_natCast, hn]
  exact wraps_u32 _ (Int.natCast_nonneg _) (by have := Nat.xor_lt_two_pow (n := 32) ha hb; exact_mod_cast this)
theorem xor_top {x : Nat} (h : x < 2147483648) : bits .xor .u32 (x : Int) 2147483648 = ((2147483648 + x : Nat) : Int) := by
  have h1 := bxor32 x 2147483648 (by omega) (by omega)
  have h2 : x ^^^ 2147483648 = 2147483648 + x := by
    have e1 : (2147483648 : Nat) + x = 2 ^ 31 * 1 + x := by omega
    rw [e1, Nat.two_pow_add_eq_or_of_lt h]
    refine Nat.eq_of_testBit_eq fun i => ?_
    show (x ^^^ 2 ^ 31).testBit i = (2 ^ 31 * 1 ||| x).testBit i
    rw [Nat.mul_one, Nat.testBit_xor, Nat.testBit_or]
    by_cases hi : i = 31
    · subst hi
      have h3 : x.testBit 31 = false := Nat.testBit_lt_two_pow h
      rw [h3, Nat.testBit_two_pow_self]
      rfl
    · rw [Nat.testBit_two_pow_of_ne (by omega)]
      simp
  rw [h2] at h1
  exact h1
theorem xor_all {x : Nat} (h : x < 4294967296) : bits .xor .u32 4294967295 (x : Int) = ((4294967295 - x : Nat) : Int) := by
  have h1 := bxor32 4294967295 x (by omega) h
  have h2 : 4294967295 ^^^ x = 4294967295 - x := by
    have e1 : (BitVec.allOnes 32 ^^^ BitVec.ofNat 32 x).toNat = 4294967295 - x := by
      rw [BitVec.allOnes_xor, BitVec.toNat_not, BitVec.toNat_ofNat, Nat.mod_eq_of_lt h]
    rw [BitVec.toNat_xor, BitVec.toNat_allOnes, BitVec.toNat_ofNat, Nat.mod_eq_of_lt h] at e1
    exact e1
  rw [h2] at h1
  exact h1
set_option maxRecDepth 100000 in
theorem rkey_calls (w : World) (x : Nat) (hx : x < 4294967296) : Calls Try.prog 107 #[.float .f32 x] w fun e w' => e = .returned (.int .u32 (keyR x : Int)) ∧ w' = w := by
  have h1 := isnan_calls w x hx
  by_cases hn : isNan x
  · have hk : ((keyR x : Nat) : Int) = 4290772992 := by unfold keyR; rw [if_pos hn]; rfl
    rw [decide_eq_true hn] at h1
    rw [hk]
    clear hk hn hx
    go_enter Try.func107, Try.ntmps107
    go_wp2_with fail
    refine h1.mono ?_
    rintro e w1 ⟨rfl, rfl⟩
    go_wp2_with fail
    go_ret
    exact ⟨rfl, rfl⟩
  · have h2 := number_calls w x hx hn
    have h3 := below_calls w x hx hn
    rw [decide_eq_false hn] at h1
    have hN : absw x ≤ 2139095040 := by unfold isNan at hn; unfold absw; omega
    by_cases hb : 2147483648 ≤ x
    · have hk : ((keyR x : Nat) : Int) = 2147483647 - (absw x : Int) := by unfold keyR absw; rw [if_neg hn, if_neg (by omega)]; omega
      rw [decide_eq_true hb] at h3
      rw [hk]
      have hI : (absw x : Int) ≤ 2139095040 := by omega
      have hI0 : 0 ≤ (absw x : Int) := by omega
      clear hk hn hx hb hN
      generalize (absw x : Int) = X at *
      go_enter Try.func107, Try.ntmps107
      go_wp2_with fail
      refine h1.mono ?_
      rintro e w1 ⟨rfl, rfl⟩
      go_wp2_with fail
      refine h2.mono ?_
      rintro e w2 ⟨rfl, rfl⟩
      go_wp2_with fail
      refine h3.mono ?_
      rintro e w3 ⟨rfl, rfl⟩
      go_wp2_with fail
      go_ret
      first | exact ⟨rfl, rfl⟩ | exact ⟨ret_int (by omega), rfl⟩
    · have hk : ((keyR x : Nat) : Int) = 2147483648 + (absw x : Int) := by unfold keyR absw; rw [if_neg hn, if_pos (by omega)]; omega
      rw [decide_eq_false hb] at h3
      rw [hk]
      have hI : (absw x : Int) ≤ 2139095040 := by omega
      have hI0 : 0 ≤ (absw x : Int) := by omega
      clear hk hn hx hb hN
      generalize (absw x : Int) = X at *
      go_enter Try.func107, Try.ntmps107
      go_wp2_with fail
      refine h1.mono ?_
      rintro e w1 ⟨rfl, rfl⟩
      go_wp2_with fail
      refine h2.mono ?_
      rintro e w2 ⟨rfl, rfl⟩
      go_wp2_with fail
      refine h3.mono ?_
      rintro e w3 ⟨rfl, rfl⟩
      go_wp2_with fail
      go_ret
      exact ⟨rfl, rfl⟩
set_option maxRecDepth 100000 in
theorem okey_calls (w : World) (x : Nat) (hx : x < 4294967296) : Calls Try.prog 130 #[.float .f32 x] w fun e w' => e = .returned (.int .u32 (keyR x : Int)) ∧ w' = w := by
  have hb := fun w => run_bits x w
  have ho := order_self hx
  by_cases hn : isNan x
  · have h1 : (FloatKind.f32.format.order x x != some Ordering.eq) = true := by
      have : ¬ FloatKind.f32.format.order x x = some .eq := fun e => (ho.1 e) hn
      simpa using this
    have hI : (x : Int) ≤ 4294967295 := by omega
    have hk : ((keyR x : Nat) : Int) = 4290772992 := by unfold keyR; rw [if_pos hn]; rfl
    have hc : bits .xor .u32 2143289344 2147483648 = 4290772992 := by decide +kernel
    rw [hk]
    clear ho hx hn hk
    go_enter Try.func130, Try.ntmps130
    go_wp2_with fail
    go_ret
    exact ⟨rfl, rfl⟩
  · have h1 : (FloatKind.f32.format.order x x != some Ordering.eq) = false := by
      have : FloatKind.f32.format.order x x = some .eq := ho.2 hn
      simpa using this
    by_cases hl : x < 2147483648
    · have hk : keyR x = 2147483648 + x := by unfold keyR; rw [if_neg hn, if_pos hl]
      have hc := xor_top hl
      rw [hk]
      have hI : (x : Int) ≤ 4294967295 := by omega
      have hI2 : (x : Int) / 2147483648 = 0 := by omega
      clear ho hx hn hk hl
      go_enter Try.func130, Try.ntmps130
      go_wp2_with fail
      go_ret
      exact ⟨rfl, rfl⟩
    · have hk : keyR x = 4294967295 - x := by unfold keyR; rw [if_neg hn, if_neg hl]
      have hc := xor_all hx
      rw [hk]
      obtain ⟨a, ha⟩ : ∃ a, x = 2147483648 + a := ⟨x - 2147483648, by omega⟩
      have hI : (x : Int) ≤ 4294967295 := by omega
      have hI2 : (x : Int) / 2147483648 = 1 := by omega
      have HX := Lib.hid hx
      clear ho hx hn hk hl ha
      go_enter Try.func130, Try.ntmps130
      go_wp2_with fail
      rw [show IntKind.u32.max = 4294967295 from rfl, hc]
      go_ret
      exact ⟨rfl, rfl⟩
end Go.Proofs.Ytdbccemllaehjaa.PK
