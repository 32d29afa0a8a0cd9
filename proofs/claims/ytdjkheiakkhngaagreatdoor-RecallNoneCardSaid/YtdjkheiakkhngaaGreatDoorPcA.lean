/- Lists of texts; SameTexts, walked. -/
import Derived.Test.YtdjkheiakkhngaaGreatDoorProg
import Derived.Test.YtdjkheiakkhngaaGreatDoorKw
namespace Go.Proofs.YtdjkheiakkhngaaGreatDoor.PC
open Go.RowKit Go.Proofs.YtdjkheiakkhngaaGreatDoorKw
set_option linter.unusedVariables false
set_option linter.unusedSimpArgs false
def strs (ss : List ByteArray) : List Value := ss.map .string
theorem strs_len (ss : List ByteArray) : (strs ss).length = ss.length := by simp [strs]
theorem strs_at (ss : List ByteArray) (j : Nat) (h : j < ss.length) : (strs ss)[j]'(by rw [strs_len]; exact h) = .string ss[j] := by simp [strs]
theorem rd_str {w : World} {A : Option Addr} {ss : List ByteArray} (h : Rd w A (strs ss)) {j : Nat} (hj : j < ss.length) :
    ∃ b off, A = some ⟨b, off, none⟩ ∧ w.cell? ⟨b, off + j, none⟩ = some (.string ss[j]) := by
  obtain ⟨b, off, e, hc⟩ := h.at (j := j) (by rw [strs_len]; exact hj)
  rw [strs_at ss j hj] at hc
  exact ⟨b, off, e, hc⟩
theorem strs_take (ss : List ByteArray) (k : Nat) (h : k < ss.length) : strs (ss.take (k + 1)) = strs (ss.take k) ++ [.string ss[k]] := by
  rw [List.take_succ_eq_append_getElem h, strs, List.map_append]; rfl
set_option maxHeartbeats 1000000 in
set_option maxRecDepth 100000 in
theorem same_calls (A B : Option Addr) (c d : Nat) (ss : List ByteArray) (w : World) (hr : Rd w A (strs ss)) (hr2 : Rd w B (strs ss)) (hl : ss.length ≤ 140737488351232) :
    Calls Tryz.prog 29 #[.slice A ss.length c, .slice B ss.length d] w fun e w' => e = .returned (.bool true) ∧ Below w.heap.size w w' := by
  go_enter Tryz.func29, Tryz.ntmps29
  go_wp2
  go_loopw [5] (fun i wr => ∃ k : Nat, k ≤ ss.length ∧ i = .int .i64 k ∧ Below w.heap.size w wr) (fun i _ => ss.length - (intOf i).toNat)
  case atStart => exact ⟨0, Nat.zero_le _, rfl, Below.refl _ _⟩
  case round =>
    obtain ⟨k, hk, rfl, hb⟩ := hrel
    by_cases hlt : k < ss.length
    · obtain ⟨b, off, rfl, hcell⟩ := rd_str (hr.keep hb) hlt
      obtain ⟨b2, off2, rfl, hcell2⟩ := rd_str (hr2.keep hb) hlt
      have hlt' : (k : Int) < (ss.length : Int) := by omega
      go_wp2_with fail
      go_quiet (fail)
      go_wp2
      go_roundw
      case rel => exact ⟨k + 1, by omega, by go_num, below_drewN hb _⟩
      case measure => simp [intOf]; omega
    · go_wp2
      go_ret
      exact ⟨rfl, hb⟩

end Go.Proofs.YtdjkheiakkhngaaGreatDoor.PC
