/- The key of a single: octets.key and the reference's Key, walked. -/
import Derived.Test.YtdbccemllaehjaaHc
import Derived.Test.YtdbccemllaehjaaGc
namespace Go.Proofs.Ytdbccemllaehjaa.PK
open Go.RowKit Go.Proofs.YtdbccemllaehjaaKw Go.Proofs.YtdbccemllaehjaaHa
set_option linter.unusedVariables false
set_option linter.unusedSimpArgs false
theorem isnan_calls (w : World) (x : Nat) (hx : x < 4294967296) : Calls Try.prog 124 #[.float .f32 x] w fun e w' => e = .returned (.bool (decide (isNan x))) ∧ w' = w := by
  have ho := order_self hx
  by_cases h : isNan x
  · have h1 : (FloatKind.f32.format.order x x != some Ordering.eq) = true := by
      have : ¬ FloatKind.f32.format.order x x = some .eq := fun e => (ho.1 e) h
      simpa using this
    rw [decide_eq_true h]
    clear ho hx h
    go_enter Try.func124, Try.ntmps124
    go_wp2_with fail
    go_ret
    exact ⟨rfl, rfl⟩
  · have h1 : (FloatKind.f32.format.order x x != some Ordering.eq) = false := by
      have : FloatKind.f32.format.order x x = some .eq := ho.2 h
      simpa using this
    rw [decide_eq_false h]
    clear ho hx h
    go_enter Try.func124, Try.ntmps124
    go_wp2_with fail
    go_ret
    exact ⟨rfl, rfl⟩
/-- How x stands to nought. -/
def ord0 (x : Nat) : Option Ordering := if x = 0 then some .eq else if x = 2147483648 then some .eq else if x < 2147483648 then some .gt else some .lt
theorem ord0_is {x : Nat} (hx : x < 4294967296) (h : ¬ isNan x) : FloatKind.f32.format.order x 0 = ord0 x := by
  show Ieee.single.order x 0 = ord0 x
  unfold isNan at h
  unfold ord0
  by_cases h1 : x < 2147483648
  · rw [order_s (by omega) (by omega)]
    by_cases h0 : x = 0
    · rw [if_pos h0, h0]
      exact congrArg some (Nat.compare_eq_eq.2 rfl)
    · rw [if_neg h0, if_neg (by omega), if_pos h1]
      exact congrArg some (Nat.compare_eq_gt.2 (by omega))
  · obtain ⟨a, rfl⟩ : ∃ a, x = 2147483648 + a := ⟨x - 2147483648, by omega⟩
    rw [order_neg (a := a) (by omega)]
    by_cases ha : a = 0
    · rw [if_pos ha, if_neg (show ¬ 2147483648 + a = 0 by omega), if_pos (show 2147483648 + a = 2147483648 by omega)]
    · rw [if_neg ha, if_neg (show ¬ 2147483648 + a = 0 by omega), if_neg (show ¬ 2147483648 + a = 2147483648 by omega), if_neg h1]
set_option maxRecDepth 100000 in
theorem below_calls (w : World) (x : Nat) (hx : x < 4294967296) (hn : ¬ isNan x) : Calls Try.prog 126 #[.float .f32 x] w fun e w' => e = .returned (.bool (decide (2147483648 ≤ x))) ∧ w' = w := by
  have ho := ord0_is hx hn
  unfold ord0 at ho
  by_cases h0 : x = 0
  · subst h0
    have hq : (binOp .quo 145 (.float .f32 1065353216) (.float .f32 0)).run Try.prog w = .ok (.float .f32 2139095040) w := run_float_arith w .quo 145 .f32 _ _ _ (by decide +kernel)
    have hi : FloatKind.f32.format.order 2139095040 0 = some .gt := by decide
    rw [if_pos rfl] at ho
    rw [show decide (2147483648 ≤ 0) = false by decide]
    go_enter Try.func126, Try.ntmps126
    go_wp2_with fail
    go_ret
    exact ⟨rfl, rfl⟩
  · by_cases h1 : x = 2147483648
    · subst h1
      have hq : (binOp .quo 145 (.float .f32 1065353216) (.float .f32 2147483648)).run Try.prog w = .ok (.float .f32 4286578688) w := run_float_arith w .quo 145 .f32 _ _ _ (by decide +kernel)
      have hi : FloatKind.f32.format.order 4286578688 0 = some .lt := by decide
      rw [if_neg (by decide), if_pos rfl] at ho
      rw [show decide (2147483648 ≤ 2147483648) = true by decide]
      go_enter Try.func126, Try.ntmps126
      go_wp2_with fail
      go_ret
      exact ⟨rfl, rfl⟩
    · rw [if_neg h0, if_neg h1] at ho
      by_cases h2 : x < 2147483648
      · rw [if_pos h2] at ho
        rw [decide_eq_false (by omega)]
        clear hx hn h0 h1 h2
        go_enter Try.func126, Try.ntmps126
        go_wp2_with fail
        go_ret
        exact ⟨rfl, rfl⟩
      · rw [if_neg h2] at ho
        rw [decide_eq_true (by omega)]
        clear hx hn h0 h1 h2
        go_enter Try.func126, Try.ntmps126
        go_wp2_with fail
        go_ret
        exact ⟨rfl, rfl⟩
theorem run_neg {x : Nat} (h1 : 2147483648 ≤ x) (h2 : x < 4294967296) (w : World) : (Op.unary .neg (.float .f32 x)).run Try.prog w = .ok (.float .f32 (x - 2147483648)) w := by
  have hx : Op.negFloat .f32 x = x - 2147483648 := by
    obtain ⟨a, rfl⟩ : ∃ a, x = 2147483648 + a := ⟨x - 2147483648, by omega⟩
    have e1 : (2147483648 : Nat) + a = 2 ^ 31 * 1 + a := by omega
    have e2 : 2147483648 + a = 2 ^ 31 ||| a := by rw [e1, Nat.two_pow_add_eq_or_of_lt (by omega)]
    show (2147483648 + a) ^^^ 2 ^ 31 = _
    rw [Nat.add_sub_cancel_left]
    refine Nat.eq_of_testBit_eq fun i => ?_
    rw [e2, Nat.testBit_xor, Nat.testBit_or]
    by_cases hi : i = 31
    · subst hi
      have h3 : a.testBit 31 = false := Nat.testBit_lt_two_pow (by omega)
      rw [h3, Nat.testBit_two_pow_self]
      rfl
    · rw [Nat.testBit_two_pow_of_ne (by omega)]
      simp
  show Result.ok (Value.float .f32 (Op.negFloat .f32 x)) w = _
  rw [hx]
set_option maxHeartbeats 1000000 in
set_option maxRecDepth 100000 in
theorem number_calls (w : World) (x : Nat) (hx : x < 4294967296) (hn : ¬ isNan x) : Calls Try.prog 125 #[.float .f32 x] w fun e w' => e = .returned (.int .u32 (absw x : Int)) ∧ w' = w := by
  have ho := ord0_is hx hn
  unfold ord0 at ho
  have hord : ∀ y, y = absw x ∨ (y = 2147483648 ∧ absw x = 0) → ∀ mid, mid ≤ 2139095040 → FloatKind.f32.format.order mid y = some (compare mid (absw x)) := by
    intro y hy mid hm
    unfold isNan at hn
    rcases hy with rfl | ⟨rfl, h0⟩
    · exact order_s hm (by unfold absw; omega)
    · rw [h0]; exact order_m0 hm
  have hN : absw x ≤ 2139095040 := by unfold isNan at hn; unfold absw; omega
  have key : ∀ (y : Nat), (∀ mid, mid ≤ 2139095040 → FloatKind.f32.format.order mid y = some (compare mid (absw x))) → True := fun _ _ => trivial
  by_cases hlt : 2147483648 < x
  · have hneg := run_neg (x := x) (by omega) hx w
    have hy := hord (x - 2147483648) (.inl (by unfold absw; omega))
    have HY := Lib.hid (And.intro hy hN)
    have h1 : FloatKind.f32.format.order x 0 = some .lt := by rw [ho, if_neg (by omega), if_neg (by omega), if_neg (by omega)]
    generalize absw x = N at *
    generalize x - 2147483648 = y at *
    clear ho hord hN hy key hlt hx hn
    go_enter Try.func125, Try.ntmps125
    go_wp2_with fail
    go_loopw [3, 4] (fun s3 s4 wr => ∃ lo hi : Nat, lo ≤ N ∧ N < hi ∧ hi ≤ 2139095041 ∧ s3 = .int .u32 (lo : Int) ∧ s4 = .int .u32 (hi : Int) ∧ wr = w) (fun s3 s4 _ => (intOf s4 - intOf s3).toNat)
    case atStart => exact ⟨0, 2139095041, by omega, by have := HY.out.2; omega, by omega, rfl, rfl, rfl⟩
    case round =>
      obtain ⟨lo, hi, hlo, hhi, hb, rfl, rfl, rfl⟩ := hrel
      have HB := Lib.hid (And.intro hlo (And.intro hhi hb))
      have hlh : lo < hi := by omega
      have hI : (hi : Int) ≤ 4294967295 := by omega
      clear hlo hhi hb
      by_cases hd : lo + 1 < hi
      · have hmid : ((lo : Int) + ((hi : Int) - lo) / 2) = ((lo + (hi - lo) / 2 : Nat) : Int) := by omega
        have hm1 : lo < lo + (hi - lo) / 2 := by omega
        have hm2 : lo + (hi - lo) / 2 < hi := by omega
        have hm3 : lo + (hi - lo) / 2 ≤ 2139095040 := by have := HB.out.2.2; omega
        generalize lo + (hi - lo) / 2 = mid at *
        have HM := Lib.hid (And.intro hm1 (And.intro hm2 hm3))
        clear hm1 hm2 hm3
        go_wp2_with fail
        refine (float_calls wr mid HM.out.2.2).mono ?_
        rintro e w1 ⟨rfl, rfl⟩
        have hc := HY.out.1 mid HM.out.2.2
        by_cases hle : mid ≤ N
        · have ht : FloatKind.f32.format.order mid y = some .lt ∨ FloatKind.f32.format.order mid y = some .eq := by
            by_cases he : mid = N
            · right; rw [hc]; exact congrArg some (Nat.compare_eq_eq.2 he)
            · left; rw [hc]; exact congrArg some (Nat.compare_eq_lt.2 (by omega))
          have HL := Lib.hid hle
          clear hc hle
          rcases ht with ht | ht
          all_goals
            go_wp2_with fail
            go_roundw
            case rel => exact ⟨mid, hi, HL.out, HB.out.2.1, HB.out.2.2, rfl, rfl, trivial⟩
            case measure => have := HM.out; simp [intOf]; omega
        · have ht : FloatKind.f32.format.order mid y = some .gt := by
            rw [hc]; exact congrArg some (Nat.compare_eq_gt.2 (by omega))
          have HL := Lib.hid hle
          clear hc hle
          go_wp2_with fail
          go_roundw
          case rel => exact ⟨lo, mid, HB.out.1, by have := HL.out; omega, by have := HM.out; omega, rfl, rfl, trivial⟩
          case measure => have := HM.out; simp [intOf]; omega
      · have hN' : lo = N := by have := HB.out; omega
        go_wp2_with fail
        go_ret
        exact ⟨by rw [hN']; rfl, rfl⟩
  · have hy := hord x (by unfold absw; omega)
    have HY := Lib.hid (And.intro hy hN)
    have h1 : (FloatKind.f32.format.order x 0 == some .lt) = false := by
      rw [ho]
      by_cases h0 : x = 0
      · rw [if_pos h0]; rfl
      · rw [if_neg h0]
        by_cases h2 : x = 2147483648
        · rw [if_pos h2]; rfl
        · rw [if_neg h2, if_pos (by omega)]; rfl
    generalize absw x = N at *
    clear ho hord hN hy key hlt hx hn
    go_enter Try.func125, Try.ntmps125
    go_wp2_with fail
    go_loopw [3, 4] (fun s3 s4 wr => ∃ lo hi : Nat, lo ≤ N ∧ N < hi ∧ hi ≤ 2139095041 ∧ s3 = .int .u32 (lo : Int) ∧ s4 = .int .u32 (hi : Int) ∧ wr = w) (fun s3 s4 _ => (intOf s4 - intOf s3).toNat)
    case atStart => exact ⟨0, 2139095041, by omega, by have := HY.out.2; omega, by omega, rfl, rfl, rfl⟩
    case round =>
      obtain ⟨lo, hi, hlo, hhi, hb, rfl, rfl, rfl⟩ := hrel
      have HB := Lib.hid (And.intro hlo (And.intro hhi hb))
      have hlh : lo < hi := by omega
      have hI : (hi : Int) ≤ 4294967295 := by omega
      clear hlo hhi hb
      by_cases hd : lo + 1 < hi
      · have hmid : ((lo : Int) + ((hi : Int) - lo) / 2) = ((lo + (hi - lo) / 2 : Nat) : Int) := by omega
        have hm1 : lo < lo + (hi - lo) / 2 := by omega
        have hm2 : lo + (hi - lo) / 2 < hi := by omega
        have hm3 : lo + (hi - lo) / 2 ≤ 2139095040 := by have := HB.out.2.2; omega
        generalize lo + (hi - lo) / 2 = mid at *
        have HM := Lib.hid (And.intro hm1 (And.intro hm2 hm3))
        clear hm1 hm2 hm3
        go_wp2_with fail
        refine (float_calls wr mid HM.out.2.2).mono ?_
        rintro e w1 ⟨rfl, rfl⟩
        have hc := HY.out.1 mid HM.out.2.2
        by_cases hle : mid ≤ N
        · have ht : FloatKind.f32.format.order mid x = some .lt ∨ FloatKind.f32.format.order mid x = some .eq := by
            by_cases he : mid = N
            · right; rw [hc]; exact congrArg some (Nat.compare_eq_eq.2 he)
            · left; rw [hc]; exact congrArg some (Nat.compare_eq_lt.2 (by omega))
          have HL := Lib.hid hle
          clear hc hle
          rcases ht with ht | ht
          all_goals
            go_wp2_with fail
            go_roundw
            case rel => exact ⟨mid, hi, HL.out, HB.out.2.1, HB.out.2.2, rfl, rfl, trivial⟩
            case measure => have := HM.out; simp [intOf]; omega
        · have ht : FloatKind.f32.format.order mid x = some .gt := by
            rw [hc]; exact congrArg some (Nat.compare_eq_gt.2 (by omega))
          have HL := Lib.hid hle
          clear hc hle
          go_wp2_with fail
          go_roundw
          case rel => exact ⟨lo, mid, HB.out.1, by have := HL.out; omega, by have := HM.out; omega, rfl, rfl, trivial⟩
          case measure => have := HM.out; simp [intOf]; omega
      · have hN' : lo = N := by have := HB.out; omega
        go_wp2_with fail
        go_ret
        exact ⟨by rw [hN']; rfl, rfl⟩
end Go.Proofs.Ytdbccemllaehjaa.PK
