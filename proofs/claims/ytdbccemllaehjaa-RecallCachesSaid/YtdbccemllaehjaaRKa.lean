/- The law RecallKeeps: lists of integers. -/
import Derived.Test.YtdbccemllaehjaaRCc
import Derived.Test.YtdbccemllaehjaaRLb
import Derived.Lib.Hide
import Derived.IntWalk
namespace Go.Proofs.Ytdbccemllaehjaa.RK
open Go.RowKit Go.Proofs.YtdbccemllaehjaaKw
set_option linter.unusedVariables false
set_option linter.unusedSimpArgs false

def ivs (l : List Int) : List Value := l.map (.int .i64)
theorem ivs_len (l : List Int) : (ivs l).length = l.length := by simp [ivs]
theorem rd_int {w : World} {A : Option Addr} {l : List Int} (h : Rd w A (ivs l)) {j : Nat} (hj : j < l.length) :
    ∃ b off, A = some ⟨b, off, none⟩ ∧ w.cell? ⟨b, off + j, none⟩ = some (.int .i64 l[j]) := by
  obtain ⟨b, off, e, hc⟩ := h.at (j := j) (by rw [ivs_len]; exact hj)
  exact ⟨b, off, e, by rw [hc]; simp [ivs]⟩
theorem rd_intc {w : World} {b off : Nat} {l : List Int} (h : Rd w (some ⟨b, off, none⟩) (ivs l)) {k : Nat} (hk : k < l.length) : w.cell? ⟨b, off + k, none⟩ = some (.int .i64 l[k]) := by
  obtain ⟨b', off', e, hc⟩ := rd_int h hk
  cases e
  exact hc
theorem ivs_take (l : List Int) (n : Nat) : (ivs l).take n = ivs (l.take n) := by simp [ivs, List.map_take]
theorem ivs_snoc (l : List Int) (x : Int) : ivs (l ++ [x]) = ivs l ++ [.int .i64 x] := by simp [ivs]
theorem info3 : (Try.prog.info? 3).map (fun i => (i.zero, i.size, i.bytes)) = some (some (.int .i64 0), 1, 8) := by kernel_rfl

set_option maxHeartbeats 1000000 in
set_option maxRecDepth 100000 in
theorem same_calls (A B : Option Addr) (c d : Nat) (l : List Int) (w : World) (hr : Rd w A (ivs l)) (hr2 : Rd w B (ivs l)) (hl : l.length ≤ 140737488351232) :
    Calls Try.prog 25 #[.slice A l.length c, .slice B l.length d] w fun e w' => e = .returned (.bool true) ∧ Below w.heap.size w w' := by
  go_enter Try.func25, Try.ntmps25
  go_wp2
  go_loopw [5] (fun i wr => ∃ k : Nat, k ≤ l.length ∧ i = .int .i64 k ∧ Below w.heap.size w wr) (fun i _ => l.length - (intOf i).toNat)
  case atStart => exact ⟨0, Nat.zero_le _, rfl, Below.refl _ _⟩
  case round =>
    obtain ⟨k, hk, rfl, hb⟩ := hrel
    by_cases hlt : k < l.length
    · obtain ⟨b, off, rfl, hcell⟩ := rd_int (hr.keep hb) hlt
      obtain ⟨b2, off2, rfl, hcell2⟩ := rd_int (hr2.keep hb) hlt
      have hlt' : (k : Int) < (l.length : Int) := by omega
      go_wp2_with fail
      go_quiet (fail)
      go_wp2
      go_roundw
      case rel => exact ⟨k + 1, by omega, by go_num, below_drewN hb _⟩
      case measure => simp [intOf]; omega
    · go_wp2
      go_ret
      exact ⟨rfl, hb⟩

set_option maxHeartbeats 1000000 in
set_option maxRecDepth 100000 in
theorem copy_calls (A : Option Addr) (c : Nat) (l : List Int) (w : World) (hr : Rd w A (ivs l)) (hl : l.length * 8 ≤ 140737488351232) :
    Calls Try.prog 38 #[.slice A l.length c] w fun e w' => ∃ B d, e = .returned (.slice B l.length d) ∧ w'.ownsRow w.heap.size 3 1 (.slice B l.length d) l.length (ivs l) ∧ Below w.heap.size w w' := by
  go_enter Try.func38, Try.ntmps38
  go_wp2
  go_loopw [3, 4] (fun v i wr => ∃ k : Nat, k ≤ l.length ∧ i = .int .i64 k ∧ wr.ownsRow w.heap.size 3 1 v k (ivs (l.take k)) ∧ Below w.heap.size w wr) (fun _ i _ => l.length - (intOf i).toNat)
  case atStart => exact ⟨0, Nat.zero_le _, rfl, World.ownsRow_nil _ _ _ _, Below.refl _ _⟩
  case round =>
    obtain ⟨k, hk, rfl, hown, hb⟩ := hrel
    by_cases hlt : k < l.length
    · obtain ⟨b, off, rfl, hcell⟩ := rd_int (hr.keep hb) hlt
      go_wp2_with (at_builtin; go_loud (refine app_own hown hb (.tmp 11) (.tmp 16) [.int .i64 l[k]] 44 _ _ Try.underlying44 info3 (by omega) (by decide) hb.size rfl rfl rfl (by decide) rfl rfl rfl (by simp [Value.oneCell']) ?_); intro v1 w1 ho1 hb1 _ _)
      go_roundw
      case rel => exact ⟨k + 1, by omega, by go_num, by rw [List.take_succ_eq_append_getElem hlt, ivs_snoc]; exact ho1, hb1⟩
      case measure => simp [intOf]; omega
    · obtain rfl : k = l.length := by omega
      rw [List.take_length] at hown
      obtain ⟨B, d, rfl, _, _⟩ := own_form hown
      go_wp2
      go_ret
      exact ⟨_, _, rfl, hown, hb⟩
end Go.Proofs.Ytdbccemllaehjaa.RK
