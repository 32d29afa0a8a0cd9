/- The reference's Armor, walked. -/
import Derived.Test.YtdbccemllaehjaaGi
namespace Go.Proofs.Ytdbccemllaehjaa.PG
open Go.RowKit Go.Proofs.YtdbccemllaehjaaKw Go.Proofs.YtdbccemllaehjaaGa
set_option linter.unusedVariables false
set_option linter.unusedSimpArgs false
theorem tmod_bit (x s : Nat) : (((x : Int) / 2 ^ s).tmod 2 == 1) = decide (x / 2 ^ s % 2 = 1) := by
  have e : ((x : Int) / 2 ^ s) = ((x / 2 ^ s : Nat) : Int) := by simp
  rw [e, Int.tmod_eq_emod_of_nonneg (Int.natCast_nonneg _)]
  generalize x / 2 ^ s = y
  by_cases h : y % 2 = 1
  · rw [decide_eq_true h, beq_iff_eq]; omega
  · rw [decide_eq_false h, beq_eq_false_iff_ne]; omega
set_option maxHeartbeats 4000000 in
set_option maxRecDepth 100000 in
theorem rarmor_calls (w : World) (B : List Nat) (A : Option Addr) (c : Nat) (hr : Rd w A (bvs B)) (hd : Dig 256 B) (hl : B.length ≤ 1000) :
    Calls Try.prog 94 #[.slice A B.length c] w fun e w' => ∃ s, IsArm B s ∧ e = .returned (.string s) ∧ Below w.heap.size w w' := by
  go_enter Try.func94, Try.ntmps94
  go_wp2_with fail
  go_loopw [3, 4] (fun v s4 wr => ∃ (j : Nat) (D : List Nat), wr.ownsRow w.heap.size 5 1 v D.length (lvs D) ∧ s4 = .int .i64 (5 * (j : Int)) ∧ RA (val 256 B) B.length D j 0 0 ∧ 5 * j ≤ 8 * B.length + 4 ∧ Below w.heap.size w wr) (fun _ i _ => (8 * B.length + 5 - (intOf i)).toNat)
  case atStart => exact ⟨0, [], World.ownsRow_nil _ _ _ _, rfl, RA.start hd, by omega, Below.refl _ _⟩
  case round =>
    obtain ⟨j, D, ho, rfl, hA, hj, hb⟩ := hrel
    have hlen := hA.len
    by_cases hlt : 5 * j < 8 * B.length
    · have H := Lib.hid (And.intro hA (And.intro ho hb))
      clear hA ho hb
      have hd1 : decide (5 * (j : Int) < 8 * (B.length : Int)) = true := decide_eq_true (by omega)
      go_wp2_with fail
      clear hd1
      go_loopw [5, 6] (fun s5 s6 wq => ∃ k n : Nat, 5 * j ≤ k ∧ k ≤ 5 * j + 5 ∧ s5 = .int .i64 (n : Int) ∧ s6 = .int .i64 (k : Int) ∧ RA (val 256 B) B.length D j (k - 5 * j) n ∧ wq = wr) (fun _ s _ => (5 * (j : Int) + 5 - intOf s).toNat)
      case atStart => exact ⟨5 * j, 0, by omega, by omega, rfl, by simp, by simpa using H.out.1, rfl⟩
      case round =>
        obtain ⟨k, n, hk0, hk1, rfl, rfl, hA, rfl⟩ := hrel
        obtain ⟨i, hik⟩ : ∃ i, i = k - 5 * j := ⟨_, rfl⟩
        rw [← hik] at hA
        have hi : i ≤ 5 := by omega
        have hn32 : n < 32 := by
          have h1 := hA.lt
          have h2 : 2 ^ i ≤ 2 ^ 5 := Nat.pow_le_pow_right (by omega) hi
          omega
        by_cases h5 : i < 5
        · have HA := Lib.hid hA
          have hk : k = 5 * j + i := by omega
          have Hk := Lib.hid hk
          have hk5 : k < 5 * j + 5 := by omega
          have hkb : k < 8005 := by omega
          have hbv := hA.bit (b := val 256 B * 32 / 2 ^ (8 * B.length + 4 - (5 * j + i)) % 2) (by omega) rfl
          rw [← hk] at hbv
          clear hk hik
          by_cases hin : k < 8 * B.length
          · obtain ⟨b, off, rfl, hc⟩ := rd_byte (hr.keep H.out.2.2) (show k / 8 < B.length by omega)
            have hx : B[k / 8]'(by omega) < 256 := hd _ (List.getElem_mem _)
            have hbit := bit32 hd hin
            generalize B[k / 8]'(by omega) = x at *
            rw [hbit] at hbv
            have ht := tmod_bit x (7 - k % 8)
            by_cases hy : x / 2 ^ (7 - k % 8) % 2 = 1
            · rw [hy] at hbv
              rw [decide_eq_true hy] at ht
              have HB := Lib.hid hbv
              clear hA hbv hbit hy
              go_wp2_with fail
              go_roundw
              case rel => exact ⟨k + 1, 2 * n + 1, by omega, by omega, by go_num, by go_num, by have := Hk.out; rw [show k + 1 - 5 * j = i + 1 by omega]; exact HB.out, trivial⟩
              case measure => simp [intOf]; omega
            · have hy0 : x / 2 ^ (7 - k % 8) % 2 = 0 := by omega
              rw [hy0] at hbv
              rw [decide_eq_false hy] at ht
              have HB := Lib.hid hbv
              clear hA hbv hbit hy hy0
              go_wp2_with fail
              go_roundw
              case rel => exact ⟨k + 1, 2 * n, by omega, by omega, by go_num, by go_num, by have := Hk.out; rw [show k + 1 - 5 * j = i + 1 by omega]; exact HB.out, trivial⟩
              case measure => simp [intOf]; omega
          · have hp := bit32_past (val 256 B) B.length k (by omega) (by omega)
            rw [hp] at hbv
            have HB := Lib.hid hbv
            clear hA hbv hp
            go_wp2_with fail
            go_roundw
            case rel => exact ⟨k + 1, 2 * n, by omega, by omega, by go_num, by go_num, by have := Hk.out; rw [show k + 1 - 5 * j = i + 1 by omega]; exact HB.out, trivial⟩
            case measure => simp [intOf]; omega
        · obtain rfl : i = 5 := by omega
          have hk : k = 5 * j + 5 := by omega
          clear hik
          have hlet := hA.letter
          obtain ⟨ho, hb⟩ := H.out.2
          have HL := Lib.hid hlet
          clear hA hlet H hr
          go_wp2_with (at_builtin; go_loud (refine app_own ho hb (.tmp 44) (.tmp 47) [_] 141 _ _ Try.underlying141 info5 (by omega) (by decide) hb.size rfl rfl rfl (by decide) rfl rfl rfl (by simp [Value.oneCell']) ?_); intro v1 w2 ho1 hb1 hg1 hat1; rw [letters_at _ rfl] at ho1; have ho2 : w2.ownsRow w.heap.size 5 1 v1 (D.length + 1) (lvs (D ++ [n])) := (by rw [lvs_snoc]; exact ho1); clear ho1 hg1 hat1)
          go_roundw
          case rel => exact ⟨j + 1, D ++ [n], by rw [List.length_append]; exact ho2, by go_num, HL.out.1, by omega, hb1⟩
          case measure => simp [intOf]; omega
    · obtain ⟨A0, c0, rfl, hsl⟩ := own_sl ho
      have kc := conv_text hsl
      have HA := Lib.hid (And.intro (hA.done (by omega) hj) hb)
      clear hsl hA ho hb hlen
      go_wp2_with fail
      go_ret
      exact ⟨_, ⟨D, HA.out.1, rfl⟩, rfl, HA.out.2⟩
end Go.Proofs.Ytdbccemllaehjaa.PG
