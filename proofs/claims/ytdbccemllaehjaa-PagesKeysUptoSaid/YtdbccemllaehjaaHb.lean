/- The reference's floats, walked: At, Float. -/
import Derived.Test.YtdbccemllaehjaaProg
import Derived.Test.YtdbccemllaehjaaKw
import Derived.Test.YtdbccemllaehjaaHa
import Derived.Laws.FloatArith
namespace Go.Proofs.Ytdbccemllaehjaa.PK
open Go.RowKit Go.Proofs.YtdbccemllaehjaaKw Go.Proofs.YtdbccemllaehjaaHa
set_option linter.unusedVariables false
set_option linter.unusedSimpArgs false
/-- m * 2^q, as a double. -/
def FW (m : Nat) (q : Int) : Nat := if m = 0 then 0 else D (m * 2 ^ (52 - m.log2)) ((m.log2 : Int) - 52 + q)
theorem log2_24 {m : Nat} (h0 : ¬ m = 0) (h : m < 16777216) : 2 ^ m.log2 ≤ m ∧ m < 2 ^ (m.log2 + 1) ∧ m.log2 ≤ 23 := by
  have h1 := Nat.log2_self_le h0
  have h2 : m < 2 ^ (m.log2 + 1) := Nat.lt_log2_self
  refine ⟨h1, h2, ?_⟩
  have h3 : (2 : Nat) ^ m.log2 < 2 ^ 24 := Nat.lt_of_le_of_lt h1 h
  have := (Nat.pow_lt_pow_iff_right (show 1 < 2 by omega)).1 h3
  omega
theorem fw_ok {m : Nat} (h0 : ¬ m = 0) (h : m < 16777216) {q : Int} (h1 : -400 ≤ q) (h2 : q ≤ 400) : OkD (m * 2 ^ (52 - m.log2)) ((m.log2 : Int) - 52 + q) := by
  obtain ⟨a1, a2, a3⟩ := log2_24 h0 h
  have ho := (near_nat a1 a2 a3).2
  exact ⟨ho.lo, ho.hi, by omega, by omega⟩
theorem fw_start {m : Nat} (h : m < 16777216) : floatOfInt .f64 (m : Int) = FW m 0 := by
  have e : floatOfInt .f64 (m : Int) = Ieee.double.nearest false m 0 := by
    have hneg : decide ((m : Int) < 0) = false := decide_eq_false (by omega)
    show Ieee.double.nearest (decide ((m : Int) < 0)) (m : Int).natAbs 0 = _
    rw [hneg, Int.natAbs_natCast]
  rw [e]
  unfold FW
  by_cases h0 : m = 0
  · subst h0; decide
  · rw [if_neg h0]
    obtain ⟨a1, a2, a3⟩ := log2_24 h0 h
    rw [Int.add_zero]
    exact (near_nat a1 a2 a3).1
theorem fw_mul {m : Nat} (h : m < 16777216) {q : Int} (h1 : -300 ≤ q) (h2 : q ≤ 300) : Ieee.double.mul (FW m q) 4611686018427387904 = some (FW m (q + 1)) := by
  unfold FW
  by_cases h0 : m = 0
  · rw [if_pos h0, if_pos h0]; exact mul_zero_two
  · rw [if_neg h0, if_neg h0]
    have := mul_two (fw_ok h0 h (q := q) (by omega) (by omega)) (by have := fw_ok h0 h (q := q + 1) (by omega) (by omega); rw [← Int.add_assoc] at this; exact this)
    rw [this, Int.add_assoc]
theorem fw_div {m : Nat} (h : m < 16777216) {q : Int} (h1 : -300 ≤ q) (h2 : q ≤ 300) : Ieee.double.div (FW m q) 4611686018427387904 = some (FW m (q - 1)) := by
  unfold FW
  by_cases h0 : m = 0
  · rw [if_pos h0, if_pos h0]; exact div_zero_two
  · rw [if_neg h0, if_neg h0]
    have e : (m.log2 : Int) - 52 + (q - 1) = (m.log2 : Int) - 52 + q - 1 := by omega
    have := div_two (fw_ok h0 h (q := q) (by omega) (by omega)) (by have := fw_ok h0 h (q := q - 1) (by omega) (by omega); rw [e] at this; exact this)
    rw [this, e]
theorem run_mul (m : Nat) (h : m < 16777216) (q : Int) (h1 : -300 ≤ q) (h2 : q ≤ 300) (w : World) : (binOp .mul 208 (.float .f64 (FW m q)) (.float .f64 4611686018427387904)).run Try.prog w = .ok (.float .f64 (FW m (q + 1))) w :=
  run_float_arith w .mul 208 .f64 _ _ _ (fw_mul h h1 h2)
theorem run_div (m : Nat) (h : m < 16777216) (q : Int) (h1 : -300 ≤ q) (h2 : q ≤ 300) (w : World) : (binOp .quo 208 (.float .f64 (FW m q)) (.float .f64 4611686018427387904)).run Try.prog w = .ok (.float .f64 (FW m (q - 1))) w :=
  run_float_arith w .quo 208 .f64 _ _ _ (fw_div h h1 h2)
theorem fw_single {n : Nat} (hn : n < 2139095040) : floatToFloatBits .f64 (FW (dm n) ((ds n : Int) - 149)) .f32 = some n := by
  have hds : ds n ≤ 254 := by unfold ds; omega
  by_cases h0 : dm n = 0
  · have hn0 : n = 0 := by
      rcases Nat.eq_zero_or_pos n with h | h
      · exact h
      · have := dm_pos h; omega
    subst hn0
    decide +kernel
  · obtain ⟨a1, a2, a3⟩ := log2_24 h0 (dm_lt n)
    have hr := read_D (fw_ok h0 (dm_lt n) (q := (ds n : Int) - 149) (by omega) (by omega))
    have hs := single_of hn a1 a2 a3
    have hF : FW (dm n) ((ds n : Int) - 149) = D (dm n * 2 ^ (52 - (dm n).log2)) (((dm n).log2 : Int) - 52 + ((ds n : Int) - 149)) := by unfold FW; rw [if_neg h0]
    rw [hF]
    unfold floatToFloatBits
    rw [if_neg (by decide)]
    have hr' : FloatKind.f64.decode (D (dm n * 2 ^ (52 - (dm n).log2)) (((dm n).log2 : Int) - 52 + ((ds n : Int) - 149))) = .number false (dm n * 2 ^ (52 - (dm n).log2)) (((dm n).log2 : Int) - 52 + ((ds n : Int) - 149)) := hr
    have hs' : FloatKind.f32.encode (.number false (dm n * 2 ^ (52 - (dm n).log2)) (((dm n).log2 : Int) - 52 + ((ds n : Int) - 149))) = n := hs
    have hi : FloatKind.f32.decode n = .number false (dm n) ((ds n : Int) - 149) := read_s hn
    rw [hr']
    simp only [hs', hi]
    rfl
theorem run_single (n : Nat) (hn : n < 2139095040) (w : World) : (convert 208 145 (.float .f64 (FW (dm n) ((ds n : Int) - 149)))).run Try.prog w = .ok (.float .f32 n) w :=
  run_convert_float_float w 208 145 .f64 .f32 _ _ (by kernel_rfl) Try.underlying145 (fw_single hn)
set_option maxRecDepth 100000 in
theorem at_calls (w : World) (n : Nat) (hn : n < 2139095040) : Calls Try.prog 136 #[.int .u32 (n : Int)] w fun e w' => e = .returned (.tuple #[.int .u64 (dm n : Int), .int .i64 ((ds n : Int) - 149)]) ∧ w' = w := by
  by_cases h : n < 8388608
  · have e1 : dm n = n := by unfold dm; rw [if_pos h]
    have e2 : ds n = 0 := by unfold ds; omega
    rw [e1, e2]
    have hI1 : (n : Int) < 8388608 := by omega
    clear h hn e1 e2
    go_enter Try.func136, Try.ntmps136
    go_wp2_with fail
    go_ret2
    exact ⟨rfl, rfl⟩
  · have e1 : ((dm n : Nat) : Int) = 8388608 + (n : Int) % 8388608 := by unfold dm; rw [if_neg h]; omega
    have e2 : ((ds n : Nat) : Int) - 149 = (n : Int) / 8388608 - 150 := by unfold ds; omega
    rw [e1, e2]
    have hI1 : 8388608 ≤ (n : Int) := by omega
    have hI2 : (n : Int) ≤ 4294967295 := by omega
    clear h hn e1 e2
    generalize (n : Int) = X at *
    go_enter Try.func136, Try.ntmps136
    go_wp2_with fail
    go_ret2
    exact ⟨rfl, rfl⟩
set_option maxHeartbeats 1000000 in
set_option maxRecDepth 100000 in
theorem float_calls (w : World) (n : Nat) (hn : n ≤ 2139095040) : Calls Try.prog 131 #[.bool false, .int .u32 (n : Int)] w fun e w' => e = .returned (.float .f32 n) ∧ w' = w := by
  by_cases h : n < 2139095040
  · have hm := dm_lt n
    have hd : ds n ≤ 254 := by unfold ds; omega
    have hS := run_single n h
    have hst := fw_start hm
    have hat := at_calls w n h
    have HS := Lib.hid (And.intro hS (And.intro hst hm))
    have hX1 : 0 ≤ (n : Int) := by omega
    have hX2 : (n : Int) < 2139095040 := by omega
    clear hS hst hm h hn
    generalize dm n = m at *
    generalize ds n = s at *
    generalize (n : Int) = X at *
    go_enter Try.func131, Try.ntmps131
    go_wp2_with fail
    refine hat.mono ?_
    rintro e w1 ⟨rfl, rfl⟩
    clear hat hX1 hX2
    have hst := HS.out.2.1
    go_wp2_with fail
    clear hst
    by_cases hs : 149 ≤ s
    · go_loopw [9, 10] (fun s9 s10 wr => ∃ j : Nat, j + 149 ≤ s ∧ s9 = .float .f64 (FW m (j : Int)) ∧ s10 = .int .i64 (j : Int) ∧ wr = w1) (fun _ i _ => (300 - intOf i).toNat)
      case atStart => exact ⟨0, by omega, rfl, rfl, rfl⟩
      case round =>
        obtain ⟨j, hj, rfl, rfl, rfl⟩ := hrel
        by_cases hjs : j + 149 < s
        · have hm := run_mul m HS.out.2.2 (j : Int) (by omega) (by omega)
          go_wp2_with fail
          go_roundw
          case rel => exact ⟨j + 1, by omega, by simp, by go_num, trivial⟩
          case measure => simp [intOf]; omega
        · have hjj : ((j : Nat) : Int) = (s : Int) - 149 := by omega
          rw [hjj]
          have hS := HS.out.1
          clear hjj hj hjs
          go_wp2_with fail
          go_loopw [9, 11] (fun s9 s11 wq => s9 = .float .f64 (FW m ((s : Int) - 149)) ∧ s11 = .int .i64 ((s : Int) - 149) ∧ wq = wr) (fun _ i _ => 0)
          case atStart => exact ⟨rfl, rfl, rfl⟩
          case round =>
            obtain ⟨rfl, rfl, rfl⟩ := hrel
            have hk := hS wr
            go_wp2_with fail
            go_ret
            exact ⟨rfl, rfl⟩
    · go_loopw [9, 10] (fun s9 s10 wr => s9 = .float .f64 (FW m 0) ∧ s10 = .int .i64 0 ∧ wr = w1) (fun _ i _ => 0)
      case atStart => exact ⟨rfl, rfl, rfl⟩
      case round =>
        obtain ⟨rfl, rfl, rfl⟩ := hrel
        have hS := HS.out.1
        go_wp2_with fail
        go_loopw [9, 11] (fun s9 s11 wq => ∃ j : Nat, j + s ≤ 149 ∧ s9 = .float .f64 (FW m ((s : Int) + j - 149)) ∧ s11 = .int .i64 (-(j : Int)) ∧ wq = wr) (fun _ i _ => (0 - intOf i).toNat)
        case atStart => exact ⟨149 - s, by omega, by rw [show (s : Int) + ((149 - s : Nat) : Int) - 149 = 0 by omega], by congr 1; omega, rfl⟩
        case round =>
          obtain ⟨j, hj, rfl, rfl, rfl⟩ := hrel
          by_cases hj0 : 0 < j
          · have hm := run_div m HS.out.2.2 ((s : Int) + j - 149) (by omega) (by omega)
            go_wp2_with fail
            go_roundw
            case rel => exact ⟨j - 1, by omega, by congr 2; omega, by congr 1; omega, trivial⟩
            case measure => simp [intOf]; omega
          · have hj00 : j = 0 := by omega
            subst hj00
            have hk := hS wr
            have he : (s : Int) + ((0 : Nat) : Int) - 149 = (s : Int) - 149 := by omega
            rw [he]
            clear he
            go_wp2_with fail
            go_ret
            exact ⟨rfl, rfl⟩
  · obtain rfl : n = 2139095040 := by omega
    have hq : ∀ w, (binOp .quo 145 (.float .f32 1065353216) (.float .f32 0)).run Try.prog w = .ok (.float .f32 2139095040) w := fun w => run_float_arith w .quo 145 .f32 _ _ _ (by decide +kernel)
    go_enter Try.func131, Try.ntmps131
    go_wp2_with fail
    go_ret
    exact ⟨rfl, rfl⟩
end Go.Proofs.Ytdbccemllaehjaa.PK
