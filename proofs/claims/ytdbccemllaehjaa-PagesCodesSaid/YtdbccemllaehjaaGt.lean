/- The reference's number and Back, walked. -/
import Derived.Test.YtdbccemllaehjaaGm
namespace Go.Proofs.Ytdbccemllaehjaa.PG
open Go.RowKit Go.Proofs.YtdbccemllaehjaaKw Go.Proofs.YtdbccemllaehjaaGa
set_option linter.unusedVariables false
set_option linter.unusedSimpArgs false
/-- What number answers. -/
def NumAns (l : List Nat) (p : Nat) (e : Ending) : Prop :=
  (∃ x n : Nat, e = .returned (.tuple #[.int .u64 (x : Int), .int .i64 (n : Int), .bool true]) ∧ x < 18446744073709551616 ∧ n ≤ l.length ∧ ∀ y rest, y < 18446744073709551616 → l.drop p = uintB y ++ rest → x = y ∧ n = p + (uintB y).length) ∨
  (e = .returned (.tuple #[.int .u64 0, .int .i64 0, .bool false]) ∧ ∀ y rest, y < 18446744073709551616 → l.drop p = uintB y ++ rest → False)
theorem add_word (x d i : Nat) (hx : x < 18446744073709551616) (hi : i < 10) : ∃ x' : Nat, x' < 18446744073709551616 ∧ IntKind.u64.wrap ((x : Int) + IntKind.u64.wrap ((d : Int) % 128 * 2 ^ (7 * i))) = (x' : Int) ∧ XS x d i x' := by
  have e1 : ((d : Int) % 128 * 2 ^ (7 * i)) = ((d % 128 * 2 ^ (7 * i) : Nat) : Int) := by simp
  have ew : ∀ y : Nat, IntKind.u64.wrap (y : Int) = ((y % 18446744073709551616 : Nat) : Int) := fun y => by simp [IntKind.wrap, IntKind.bits, IntKind.signed]
  refine ⟨(x + d % 128 * 2 ^ (7 * i) % 18446744073709551616) % 18446744073709551616, Nat.mod_lt _ (by omega), ?_, fun h1 h2 => ?_⟩
  · rw [e1, ew, ← Int.natCast_add, ew]
  · rw [Nat.mod_eq_of_lt h2]
    refine Nat.mod_eq_of_lt ?_
    have h3 : (2 : Nat) ^ (7 * i) ≤ 2 ^ 63 := Nat.pow_le_pow_right (by omega) (by omega)
    have h4 : d % 128 * 2 ^ (7 * i) + 2 ^ (7 * i) ≤ 18446744073709551616 := by
      by_cases h9 : 7 * i ≤ 57
      · have h5 : (2 : Nat) ^ (7 * i) ≤ 2 ^ 57 := Nat.pow_le_pow_right (by omega) h9
        have h6 : d % 128 * 2 ^ (7 * i) ≤ 127 * 2 ^ 57 := Nat.mul_le_mul (by omega) h5
        have h7 : (2 : Nat) ^ 57 = 144115188075855872 := by decide
        omega
      · have h9 : i = 9 := by omega
        subst h9
        have h7 : (2 : Nat) ^ (7 * 9) = 9223372036854775808 := by decide
        rw [h7] at h2 ⊢
        omega
    omega
set_option maxHeartbeats 4000000 in
set_option maxRecDepth 100000 in
theorem number_calls (w : World) (l : List Nat) (A : Option Addr) (c p : Nat) (hr : Rd w A (bvs l)) (hd : Dig 256 l) (hl : l.length ≤ 1000) (hp : p ≤ l.length) :
    Calls Try.prog 118 #[.slice A l.length c, .int .i64 (p : Int)] w fun e w' => NumAns l p e ∧ w' = w := by
  go_enter Try.func118, Try.ntmps118
  go_wp2_with fail
  go_loopw [7, 8] (fun s7 s8 wr => ∃ (i x : Nat), i ≤ 10 ∧ p + i ≤ l.length ∧ s7 = .int .u64 (x : Int) ∧ s8 = .int .i64 (i : Int) ∧ x < 18446744073709551616 ∧ HY (l.drop p) i x ∧ wr = w) (fun _ s _ => 10 - (intOf s).toNat)
  case atStart => exact ⟨0, 0, by omega, by omega, rfl, rfl, by omega, HY.start _, rfl⟩
  case round =>
    obtain ⟨i, x, hi, hpi, rfl, rfl, hx, hH, rfl⟩ := hrel
    by_cases h10 : i < 10
    · by_cases hlt : p + i < l.length
      · obtain ⟨b, off, rfl, hc⟩ := rd_byte hr hlt
        have hc256 : l[p + i] < 256 := hd _ (List.getElem_mem hlt)
        have hlt' : i < (l.drop p).length := by rw [List.length_drop]; omega
        have hge : (l.drop p)[i] = l[p + i] := List.getElem_drop ..
        have hla := fun x' => hH.last (x' := x') hlt'
        have hne := fun x' => hH.next (x' := x') hlt'
        rw [hge] at hla hne
        have H := Lib.hid (And.intro hla hne)
        clear hH hla hne hge hlt'
        generalize l[p + i] = d at *
        obtain ⟨x', hx', hw, hXS⟩ := add_word x d i hx h10
        have HX := Lib.hid (And.intro hXS hw)
        clear hXS hw
        by_cases hs : d < 128
        · have HL := Lib.hid (H.out.1 x' hs HX.out.1)
          clear H
          go_wp2_with fail
          rw [HX.out.2]
          go_ret3
          exact ⟨.inl ⟨x', p + i + 1, by go_num, hx', by omega, fun y rest hy e => by
            obtain ⟨m1, m2⟩ := HL.out y rest hy e
            exact ⟨m1, by omega⟩⟩, rfl⟩
        · have HL := Lib.hid (H.out.2 x' (by omega) HX.out.1)
          clear H
          go_wp2_with fail
          rw [HX.out.2]
          go_roundw
          case rel => exact ⟨i + 1, x', by omega, by omega, rfl, by go_num, hx', HL.out, trivial⟩
          case measure => simp [intOf]; omega
      · have hpe : p + i = l.length := by omega
        have hno : ∀ y rest, y < 18446744073709551616 → l.drop p = uintB y ++ rest → False := by
          have h := hH
          have e : i = (l.drop p).length := by rw [List.length_drop]; omega
          rw [e] at h
          exact h.out
        have HN := Lib.hid hno
        clear hno hH hpe
        go_wp2_with fail
        go_ret3
        exact ⟨.inr ⟨rfl, HN.out⟩, rfl⟩
    · obtain rfl : i = 10 := by omega
      have HT := Lib.hid hH.ten
      clear hH
      go_wp2_with fail
      go_ret3
      exact ⟨.inr ⟨rfl, HT.out⟩, rfl⟩
theorem back_calls (w : World) (u : Nat) (hu : u < 18446744073709551616) : Calls Try.prog 119 #[.int .u64 (u : Int)] w fun e w' => ∃ r : Int, e = .returned (.int .i64 r) ∧ (-9223372036854775808 ≤ r ∧ r ≤ 9223372036854775807) ∧ (∀ y : Nat, y ≤ 4611686018427387904 → u = 2 * y → r = y) ∧ w' = w := by
  go_enter Try.func119, Try.ntmps119
  by_cases h : u % 2 = 0
  · go_wp2_with fail
    go_ret
    exact ⟨(u : Int) / 2, rfl, by omega, fun y hy e => by omega, rfl⟩
  · go_wp2_with fail
    go_ret
    exact ⟨-((u : Int) / 2) - 1, rfl, by omega, fun y hy e => by omega, rfl⟩
end Go.Proofs.Ytdbccemllaehjaa.PG
