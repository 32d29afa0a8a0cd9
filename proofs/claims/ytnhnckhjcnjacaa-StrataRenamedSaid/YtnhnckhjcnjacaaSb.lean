/- Strata: the walks of KeptArcs, KeptInts, between, Fault. -/
import Derived.Test.YtnhnckhjcnjacaaSa
namespace Go.Proofs.Ytnhnckhjcnjacaa.ST
open Go.RowKit Go.Proofs.YtnhnckhjcnjacaaKw Go.Proofs.YtnhnckhjcnjacaaSg
set_option linter.unusedVariables false
set_option linter.unusedSimpArgs false

set_option maxHeartbeats 2000000 in
set_option maxRecDepth 100000 in
theorem keptArcs_calls (A B : Option Addr) (c d : Nat) (l : List AI) (w : World) (hr : Rd w A (avs (l ++ marksA 24))) (hr2 : Rd w B (avs l)) (hc : l.length + 24 ≤ c) (hcm : c ≤ 9223372036854775807) (hl : l.length ≤ 140737488355328) :
    Calls Try.prog 17 #[.slice A l.length c, .slice B l.length d] w fun e w' => e = .returned (.bool true) ∧ Below w.heap.size w w' := by
  have hlen : (l ++ marksA 24).length = l.length + 24 := by rw [List.length_append, marksA_len]
  obtain ⟨b, off, rfl, hx0, hx1, hx2⟩ := rd_arc hr (i := 0) (by omega)
  clear hx0 hx1 hx2
  have HL := Lib.hid hlen
  clear hlen
  go_enter Try.func17, Try.ntmps17
  go_wp2
  go_loopw [6] (fun i wr => ∃ k : Nat, k ≤ l.length + 24 ∧ i = .int .i64 k ∧ Below w.heap.size w wr) (fun i _ => l.length + 24 - (intOf i).toNat)
  case atStart => exact ⟨0, Nat.zero_le _, rfl, Below.refl _ _⟩
  case round =>
    obtain ⟨k, hk, rfl, hb⟩ := hrel
    by_cases hlt : k < l.length + 24
    · obtain ⟨b', off', e1, hcell0, hcell1, hcell2⟩ := rd_arc (hr.keep hb) (i := k) (by rw [HL.out]; exact hlt)
      simp only [Option.some.injEq, Addr.mk.injEq, and_true] at e1
      obtain ⟨rfl, rfl⟩ := e1
      by_cases h1 : k < l.length
      · obtain ⟨b2, off2, rfl, hd0, hd1, hd2⟩ := rd_arc (hr2.keep hb) h1
        rw [allA_lo l k h1] at hcell0 hcell1 hcell2
        have hdd1 : decide (k < l.length) = true := by simp; omega
        have hdd2 : decide (l.length ≤ k) = false := by simp; omega
        go_wp2_with fail
        go_quiet (fail)
        go_wp2
        go_roundw
        case rel => exact ⟨k + 1, by omega, by go_num, below_drewN hb _⟩
        case measure => simp [intOf]; omega
      · have hdd1 : decide (k < l.length) = false := by simp; omega
        have hdd2 : l.length ≤ k := by omega
        rw [allA_hi l k (by omega)] at hcell0 hcell1 hcell2
        have hw : IntKind.i64.wrap ((k : Int) - l.length) = (k : Int) - l.length := IntWalk.i64_in _ (by omega)
        go_wp2_with fail
        go_quiet ((go_at_call 33; exact Calls.quiet_of_same ((mark_calls ((k : Int) - l.length) (by omega) (by omega) _).mono (fun e w' h => ⟨h.1, h.2.symm⟩))))
        go_wp2
        go_roundw
        case rel => exact ⟨k + 1, by omega, by go_num, below_drewN hb _⟩
        case measure => simp [intOf]; omega
    · obtain rfl : k = l.length + 24 := by omega
      go_wp2
      go_ret
      exact ⟨rfl, hb⟩
set_option maxHeartbeats 2000000 in
set_option maxRecDepth 100000 in
theorem keptInts_calls (A B : Option Addr) (c d : Nat) (l : List Int) (w : World) (hr : Rd w A (ivs (l ++ marksI 24))) (hr2 : Rd w B (ivs l)) (hc : l.length + 24 ≤ c) (hcm : c ≤ 9223372036854775807) (hl : l.length ≤ 140737488355328) :
    Calls Try.prog 25 #[.slice A l.length c, .slice B l.length d] w fun e w' => e = .returned (.bool true) ∧ Below w.heap.size w w' := by
  have hlen : (l ++ marksI 24).length = l.length + 24 := by rw [List.length_append, marksI_len]
  obtain ⟨b, off, rfl, hx0⟩ := rd_int hr (j := 0) (by omega)
  clear hx0
  have HL := Lib.hid hlen
  clear hlen
  go_enter Try.func25, Try.ntmps25
  go_wp2
  go_loopw [6] (fun i wr => ∃ k : Nat, k ≤ l.length + 24 ∧ i = .int .i64 k ∧ Below w.heap.size w wr) (fun i _ => l.length + 24 - (intOf i).toNat)
  case atStart => exact ⟨0, Nat.zero_le _, rfl, Below.refl _ _⟩
  case round =>
    obtain ⟨k, hk, rfl, hb⟩ := hrel
    by_cases hlt : k < l.length + 24
    · obtain ⟨b', off', e1, hcell0⟩ := rd_int (hr.keep hb) (j := k) (by rw [HL.out]; exact hlt)
      simp only [Option.some.injEq, Addr.mk.injEq, and_true] at e1
      obtain ⟨rfl, rfl⟩ := e1
      by_cases h1 : k < l.length
      · obtain ⟨b2, off2, rfl, hd0⟩ := rd_int (hr2.keep hb) h1
        rw [allI_lo l k h1] at hcell0
        have hdd1 : decide (k < l.length) = true := by simp; omega
        have hdd2 : decide (l.length ≤ k) = false := by simp; omega
        go_wp2_with fail
        go_quiet (fail)
        go_wp2
        go_roundw
        case rel => exact ⟨k + 1, by omega, by go_num, below_drewN hb _⟩
        case measure => simp [intOf]; omega
      · have hdd1 : decide (k < l.length) = false := by simp; omega
        have hdd2 : l.length ≤ k := by omega
        rw [allI_hi l k (by omega)] at hcell0
        have hw : IntKind.i64.wrap ((k : Int) - l.length) = (k : Int) - l.length := IntWalk.i64_in _ (by omega)
        go_wp2_with fail
        go_quiet ((go_at_call 33; exact Calls.quiet_of_same ((mark_calls ((k : Int) - l.length) (by omega) (by omega) _).mono (fun e w' h => ⟨h.1, h.2.symm⟩))))
        go_wp2
        go_roundw
        case rel => exact ⟨k + 1, by omega, by go_num, below_drewN hb _⟩
        case measure => simp [intOf]; omega
    · obtain rfl : k = l.length + 24 := by omega
      go_wp2
      go_ret
      exact ⟨rfl, hb⟩
def betweenB (n : Int) (m : Nat) : Bool := decide ((200 < n ∧ n ≤ 4096) ∨ (1000 < m ∧ m ≤ 262144))
theorem between_calls (A : Option Addr) (n : Int) (m c : Nat) (w : World) (hm : m ≤ 140737488355328) :
    Calls Try.prog 11 #[.int .i64 n, .slice A m c] w fun e w' => e = .returned (.bool (betweenB n m)) ∧ w = w' := by
  by_cases h1 : 200 < n
  · by_cases h2 : n ≤ 4096
    · have hB : betweenB n m = true := decide_eq_true (.inl ⟨h1, h2⟩)
      rw [hB]
      clear hB
      go_enter Try.func11, Try.ntmps11
      go_wp2
      go_ret
      exact ⟨ret_bool (by first | rfl | (simp; omega)), rfl⟩
    · by_cases h3 : 1000 < m
      · by_cases h4 : m ≤ 262144
        · have hB : betweenB n m = true := decide_eq_true (.inr ⟨h3, h4⟩)
          rw [hB]
          clear hB
          go_enter Try.func11, Try.ntmps11
          go_wp2
          go_ret
          exact ⟨ret_bool (by first | rfl | (simp; omega)), rfl⟩
        · have hB : betweenB n m = false := decide_eq_false (by omega)
          rw [hB]
          clear hB
          go_enter Try.func11, Try.ntmps11
          go_wp2
          go_ret
          exact ⟨ret_bool (by first | rfl | (simp; omega)), rfl⟩
      · have hB : betweenB n m = false := decide_eq_false (by omega)
        rw [hB]
        clear hB
        go_enter Try.func11, Try.ntmps11
        go_wp2
        go_ret
        exact ⟨ret_bool (by first | rfl | (simp; omega)), rfl⟩
  · by_cases h3 : 1000 < m
    · by_cases h4 : m ≤ 262144
      · have hB : betweenB n m = true := decide_eq_true (.inr ⟨h3, h4⟩)
        rw [hB]
        clear hB
        go_enter Try.func11, Try.ntmps11
        go_wp2
        go_ret
        exact ⟨ret_bool (by first | rfl | (simp; omega)), rfl⟩
      · have hB : betweenB n m = false := decide_eq_false (by omega)
        rw [hB]
        clear hB
        go_enter Try.func11, Try.ntmps11
        go_wp2
        go_ret
        exact ⟨ret_bool (by first | rfl | (simp; omega)), rfl⟩
    · have hB : betweenB n m = false := decide_eq_false (by omega)
      rw [hB]
      clear hB
      go_enter Try.func11, Try.ntmps11
      go_wp2
      go_ret
      exact ⟨ret_bool (by first | rfl | (simp; omega)), rfl⟩
set_option maxHeartbeats 2000000 in
set_option maxRecDepth 100000 in
theorem faultr_calls (A : Option Addr) (c : Nat) (n : Int) (l : List AI) (w : World) (hr : Rd w A (avs l)) (hl : l.length ≤ 140737488355328) :
    Calls Try.prog 36 #[.int .i64 n, .slice A l.length c] w fun e w' => e = .returned (.int .i64 (fault n l)) ∧ w = w' := by
  by_cases hn : n < 0 ∨ 4096 < n
  · have HF := Lib.hid (show fault n l = 2 from if_pos hn)
    by_cases hn1 : n < 0
    · go_enter Try.func36, Try.ntmps36
      go_wp2
      go_ret
      exact ⟨ret_int HF.out.symm, rfl⟩
    · have hn2 : 4096 < n := by omega
      go_enter Try.func36, Try.ntmps36
      go_wp2
      go_ret
      exact ⟨ret_int HF.out.symm, rfl⟩
  · have hn1 : ¬ n < 0 := by omega
    have hn2 : ¬ 4096 < n := by omega
    by_cases hlen : 262144 < l.length
    · have HF := Lib.hid (show fault n l = 3 by unfold fault; rw [if_neg hn, if_pos hlen])
      go_enter Try.func36, Try.ntmps36
      go_wp2
      go_ret
      exact ⟨ret_int HF.out.symm, rfl⟩
    · have HF := Lib.hid (show fault n l = if l.any (bad n) then 80 else 0 by unfold fault; rw [if_neg hn, if_neg hlen])
      clear hn
      go_enter Try.func36, Try.ntmps36
      go_wp2
      go_loop [5] (fun i => ∃ k : Nat, k ≤ l.length ∧ i = .int .i64 k ∧ Hid (l.any (bad n) = (l.drop k).any (bad n))) (fun i => l.length - (intOf i).toNat)
      case atStart => exact ⟨0, Nat.zero_le _, rfl, rfl⟩
      case round =>
        obtain ⟨k, hk, rfl, H⟩ := hrel
        by_cases hlt : k < l.length
        · obtain ⟨b, off, rfl, hc0, hc1, hc2⟩ := rd_arc hr hlt
          rw [List.drop_eq_getElem_cons hlt, List.any_cons] at H
          by_cases h1 : l[k].f < 0
          · have HX := Lib.hid (show l.any (bad n) = true by rw [H.out]; simp [bad, h1])
            clear H
            go_wp2_with fail
            go_ret
            exact ⟨ret_int (by rw [HF.out, HX.out]; rfl), rfl⟩
          by_cases h2 : n ≤ l[k].f
          · have HX := Lib.hid (show l.any (bad n) = true by rw [H.out]; simp [bad, h2])
            clear H
            go_wp2_with fail
            go_ret
            exact ⟨ret_int (by rw [HF.out, HX.out]; rfl), rfl⟩
          by_cases h3 : l[k].t < 0
          · have HX := Lib.hid (show l.any (bad n) = true by rw [H.out]; simp [bad, h3])
            clear H
            go_wp2_with fail
            go_ret
            exact ⟨ret_int (by rw [HF.out, HX.out]; rfl), rfl⟩
          by_cases h4 : n ≤ l[k].t
          · have HX := Lib.hid (show l.any (bad n) = true by rw [H.out]; simp [bad, h4])
            clear H
            go_wp2_with fail
            go_ret
            exact ⟨ret_int (by rw [HF.out, HX.out]; rfl), rfl⟩
          · have HX := Lib.hid (show l.any (bad n) = (l.drop (k + 1)).any (bad n) by rw [H.out]; simp [bad, h1, h2, h3, h4])
            clear H
            go_wp2_with fail
            go_round
            case rel => exact ⟨k + 1, by omega, by go_num, HX⟩
            case measure => simp [intOf]; omega
        · obtain rfl : k = l.length := by omega
          rw [List.drop_length] at H
          go_wp2_with fail
          go_ret
          exact ⟨ret_int (by rw [HF.out, H.out]; rfl), rfl⟩
end Go.Proofs.Ytnhnckhjcnjacaa.ST
