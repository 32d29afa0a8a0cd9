/- Strata: the walks of the kit's small functions. -/
import Derived.Test.YtnhnckhjcnjacaaProg
import Derived.Test.YtnhnckhjcnjacaaSg
import Derived.Test.YtnhnckhjcnjacaaKwRd
import Derived.IntWalk
namespace Go.Proofs.Ytnhnckhjcnjacaa.ST
open Go.RowKit Go.Proofs.YtnhnckhjcnjacaaKw Go.Proofs.YtnhnckhjcnjacaaSg
set_option linter.unusedVariables false
set_option linter.unusedSimpArgs false

theorem info3 : (Try.prog.info? 3).map (fun i => (i.zero, i.size, i.bytes)) = some (some (.int .i64 0), 1, 8) := by kernel_rfl
theorem info36 : (Try.prog.info? 36).map (fun i => (i.zero, i.size, i.bytes)) = some (some (.agg #[.int .i64 0, .int .i64 0, .bool false]), 3, 24) := by kernel_rfl
theorem pick_calls (x n : Int) (hx : -9223372036854775808 ≤ x) (hx2 : x ≤ 9223372036854775807) (hn : 1 ≤ n) (hn2 : n ≤ 4611686018427387904) (w : World) :
    Calls Try.prog 31 #[.int .i64 x, .int .i64 n] w fun e w' => e = .returned (.int .i64 (x % n)) ∧ w = w' := by
  have h0 := Int.emod_nonneg x (show n ≠ 0 by omega)
  have h1 := Int.emod_lt_of_pos x (show 0 < n by omega)
  have hz : (n == 0) = false := by simp; omega
  have hnn : ¬ n < 1 := by omega
  have hm : x.tmod n = if x % n = 0 ∨ 0 ≤ x then x % n else x % n - n := by
    by_cases hx0 : 0 ≤ x
    · rw [if_pos (.inr hx0), Int.tmod_eq_emod_of_nonneg hx0]
    · by_cases he : x % n = 0
      · rw [if_pos (.inl he), he]
        have := Int.dvd_of_emod_eq_zero he
        exact Int.tmod_eq_zero_of_dvd this
      · rw [if_neg (by omega), Int.tmod_eq_emod (a := x), if_neg]
        · omega
        · rintro (h | h)
          · exact hx0 h
          · exact he (Int.emod_eq_zero_of_dvd h)
  by_cases hc : x % n = 0 ∨ 0 ≤ x
  · rw [if_pos hc] at hm
    have hneg : ¬ x.tmod n < 0 := by omega
    have HM := Lib.hid hm
    clear hm hc h0 h1
    go_enter Try.func31, Try.ntmps31
    go_wp2
    go_ret
    exact ⟨ret_int HM.out, rfl⟩
  · rw [if_neg hc] at hm
    have hneg : x.tmod n < 0 := by omega
    have hlo : -n < x.tmod n := by omega
    have he : x.tmod n + n = x % n := by omega
    have HM := Lib.hid he
    clear hm hc h0 h1 he
    go_enter Try.func31, Try.ntmps31
    go_wp2
    go_ret
    exact ⟨ret_int HM.out, rfl⟩
theorem pick_bad (x n : Int) (hn : n < 1) (w : World) :
    Calls Try.prog 31 #[.int .i64 x, .int .i64 n] w fun e w' => e = .returned (.int .i64 0) ∧ w = w' := by
  go_enter Try.func31, Try.ntmps31
  go_wp2
  go_ret
  exact ⟨rfl, rfl⟩
theorem mark_calls (i : Int) (h0 : 0 ≤ i) (h1 : i < 24) (w : World) :
    Calls Try.prog 33 #[.int .i64 1, .int .i64 i] w fun e w' => e = .returned (.int .i64 (mk1 i)) ∧ w = w' := by
  go_enter Try.func33, Try.ntmps33
  go_wp2
  go_ret
  exact ⟨ret_int (by unfold mk1; omega), rfl⟩
set_option maxHeartbeats 1000000 in
set_option maxRecDepth 100000 in
theorem same_calls (A B : Option Addr) (c d : Nat) (l : List Int) (w : World) (hr : Rd w A (ivs l)) (hr2 : Rd w B (ivs l)) (hl : l.length ≤ 140737488351232) :
    Calls Try.prog 16 #[.slice A l.length c, .slice B l.length d] w fun e w' => e = .returned (.bool true) ∧ Below w.heap.size w w' := by
  go_enter Try.func16, Try.ntmps16
  go_wp2
  go_loopw [5] (fun i wr => ∃ k : Nat, k ≤ l.length ∧ i = .int .i64 k ∧ Below w.heap.size w wr) (fun i _ => l.length - (intOf i).toNat)
  case atStart => exact ⟨0, Nat.zero_le _, rfl, Below.refl _ _⟩
  case round =>
    obtain ⟨k, hk, rfl, hb⟩ := hrel
    by_cases hlt : k < l.length
    · obtain ⟨b, off, rfl, hcell⟩ := rd_int (hr.keep hb) hlt
      obtain ⟨b2, off2, rfl, hcell2⟩ := rd_int (hr2.keep hb) hlt
      have hlt' : (k : Int) < (l.length : Int) := by omega
      go_wp2_with fail
      go_quiet (fail)
      go_wp2
      go_roundw
      case rel => exact ⟨k + 1, by omega, by go_num, below_drewN hb _⟩
      case measure => simp [intOf]; omega
    · go_wp2
      go_ret
      exact ⟨rfl, hb⟩
set_option maxHeartbeats 1000000 in
set_option maxRecDepth 100000 in
theorem copyArcs_calls (A : Option Addr) (c : Nat) (l : List AI) (w : World) (hr : Rd w A (avs l)) (hl : l.length * 24 ≤ 140737488351232) :
    Calls Try.prog 27 #[.slice A l.length c] w fun e w' => ∃ B d, e = .returned (.slice B l.length d) ∧ w'.ownsRow w.heap.size 36 3 (.slice B l.length d) l.length (avs l) ∧ Below w.heap.size w w' := by
  go_enter Try.func27, Try.ntmps27
  go_wp2
  go_loopw [3, 4] (fun v i wr => ∃ k : Nat, k ≤ l.length ∧ i = .int .i64 k ∧ wr.ownsRow w.heap.size 36 3 v k (avs (l.take k)) ∧ Below w.heap.size w wr) (fun _ i _ => l.length - (intOf i).toNat)
  case atStart => exact ⟨0, Nat.zero_le _, rfl, World.ownsRow_nil _ _ _ _, Below.refl _ _⟩
  case round =>
    obtain ⟨k, hk, rfl, hown, hb⟩ := hrel
    by_cases hlt : k < l.length
    · obtain ⟨b, off, rfl, hc0, hc1, hc2⟩ := rd_arc (hr.keep hb) hlt
      go_wp2_with (at_builtin; go_loud (refine app_own hown hb (.tmp 11) (.tmp 16) [.int .i64 l[k].f, .int .i64 l[k].t, .bool l[k].neg] 22 _ _ Try.underlying22 info36 (by omega) (by decide) hb.size rfl rfl rfl (by decide) rfl rfl rfl (by simp [Value.oneCell']) ?_); intro v1 w1 ho1 hb1 _ _)
      go_roundw
      case rel => exact ⟨k + 1, by omega, by go_num, by rw [List.take_succ_eq_append_getElem hlt, avs_snoc]; exact ho1, hb1⟩
      case measure => simp [intOf]; omega
    · obtain rfl : k = l.length := by omega
      rw [List.take_length] at hown
      obtain ⟨B, d, rfl, _, _⟩ := own_form hown
      go_wp2
      go_ret
      exact ⟨_, _, rfl, hown, hb⟩
set_option maxHeartbeats 1000000 in
set_option maxRecDepth 100000 in
theorem lentArcs_calls (A : Option Addr) (c : Nat) (l : List AI) (w : World) (hr : Rd w A (avs l)) (hl : l.length * 24 ≤ 140737488351232) (hc : l.length ≤ c) :
    Calls Try.prog 13 #[.slice A l.length c] w fun e w' => ∃ A' c', e = .returned (.slice A' l.length c') ∧ w'.ownsRow w.heap.size 36 3 (.slice A' (l.length + 24) c') (l.length + 24) (avs (l ++ marksA 24)) ∧ Below w.heap.size w w' := by
  go_enter Try.func13, Try.ntmps13
  go_wp2
  go_loopw [3, 4] (fun v i wr => ∃ k : Nat, k ≤ l.length ∧ i = .int .i64 k ∧ wr.ownsRow w.heap.size 36 3 v k (avs (l.take k)) ∧ Below w.heap.size w wr) (fun _ i _ => l.length - (intOf i).toNat)
  case atStart => exact ⟨0, Nat.zero_le _, rfl, World.ownsRow_nil _ _ _ _, Below.refl _ _⟩
  case round =>
    obtain ⟨k, hk, rfl, hown, hb⟩ := hrel
    by_cases hlt : k < l.length
    · obtain ⟨b, off, rfl, hc0, hc1, hc2⟩ := rd_arc (hr.keep hb) hlt
      go_wp2_with (at_builtin; go_loud (refine app_own hown hb (.tmp 12) (.tmp 17) [.int .i64 l[k].f, .int .i64 l[k].t, .bool l[k].neg] 22 _ _ Try.underlying22 info36 (by omega) (by decide) hb.size rfl rfl rfl (by decide) rfl rfl rfl (by simp [Value.oneCell']) ?_); intro v1 w1 ho1 hb1 _ _)
      go_roundw
      case rel => exact ⟨k + 1, by omega, by go_num, by rw [List.take_succ_eq_append_getElem hlt, avs_snoc]; exact ho1, hb1⟩
      case measure => simp [intOf]; omega
    · obtain rfl : l.length = k := by omega
      rw [List.take_length] at hown
      go_wp2
      go_loopw [3, 5] (fun v i wr => ∃ k : Nat, k ≤ 24 ∧ i = .int .i64 k ∧ wr.ownsRow w.heap.size 36 3 v (l.length + k) (avs (l ++ marksA k)) ∧ Below w.heap.size w wr) (fun _ i _ => 24 - (intOf i).toNat)
      case atStart => exact ⟨0, Nat.zero_le _, rfl, by simpa [marksA] using hown, hb⟩
      case round =>
        clear hb hown
        obtain ⟨k, hk, rfl, hown, hb⟩ := hrel
        by_cases hlt : k < 24
        · go_wp2_with fail
          refine (mark_calls _ (by omega) (by omega) _).mono ?_
          rintro e w1 ⟨rfl, rfl⟩
          go_wp2_with (at_builtin; go_loud (refine app_own hown hb (.tmp 23) (.tmp 27) [.int .i64 (mk1 k), .int .i64 (-7), .bool false] 22 _ _ Try.underlying22 info36 (by omega) (by decide) hb.size rfl rfl rfl (by decide) rfl rfl rfl (by simp [Value.oneCell']) ?_); intro v2 w2 ho2 hb3 _ _)
          go_roundw
          case rel => exact ⟨k + 1, by omega, by go_num, by rw [marksA_succ, ← List.append_assoc, avs_snoc]; exact ho2, hb3⟩
          case measure => simp [intOf]; omega
        · obtain rfl : k = 24 := by omega
          obtain ⟨A', c', rfl, hc1, hc2⟩ := own_form hown
          go_wp2
          go_ret
          exact ⟨_, _, rfl, hown, hb⟩
set_option maxHeartbeats 1000000 in
set_option maxRecDepth 100000 in
theorem lentInts_calls (A : Option Addr) (c : Nat) (l : List Int) (w : World) (hr : Rd w A (ivs l)) (hl : l.length * 8 ≤ 140737488351232) (hc : l.length ≤ c) :
    Calls Try.prog 22 #[.slice A l.length c] w fun e w' => ∃ A' c', e = .returned (.slice A' l.length c') ∧ w'.ownsRow w.heap.size 3 1 (.slice A' (l.length + 24) c') (l.length + 24) (ivs (l ++ marksI 24)) ∧ Below w.heap.size w w' := by
  go_enter Try.func22, Try.ntmps22
  go_wp2
  go_loopw [3, 4] (fun v i wr => ∃ k : Nat, k ≤ l.length ∧ i = .int .i64 k ∧ wr.ownsRow w.heap.size 3 1 v k (ivs (l.take k)) ∧ Below w.heap.size w wr) (fun _ i _ => l.length - (intOf i).toNat)
  case atStart => exact ⟨0, Nat.zero_le _, rfl, World.ownsRow_nil _ _ _ _, Below.refl _ _⟩
  case round =>
    obtain ⟨k, hk, rfl, hown, hb⟩ := hrel
    by_cases hlt : k < l.length
    · obtain ⟨b, off, rfl, hcell⟩ := rd_int (hr.keep hb) hlt
      go_wp2_with (at_builtin; go_loud (refine app_own hown hb (.tmp 12) (.tmp 17) [.int .i64 l[k]] 26 _ _ Try.underlying26 info3 (by omega) (by decide) hb.size rfl rfl rfl (by decide) rfl rfl rfl (by simp [Value.oneCell']) ?_); intro v1 w1 ho1 hb1 _ _)
      go_roundw
      case rel => exact ⟨k + 1, by omega, by go_num, by rw [List.take_succ_eq_append_getElem hlt, ivs_snoc]; exact ho1, hb1⟩
      case measure => simp [intOf]; omega
    · obtain rfl : l.length = k := by omega
      rw [List.take_length] at hown
      go_wp2
      go_loopw [3, 5] (fun v i wr => ∃ k : Nat, k ≤ 24 ∧ i = .int .i64 k ∧ wr.ownsRow w.heap.size 3 1 v (l.length + k) (ivs (l ++ marksI k)) ∧ Below w.heap.size w wr) (fun _ i _ => 24 - (intOf i).toNat)
      case atStart => exact ⟨0, Nat.zero_le _, rfl, by simpa [marksI] using hown, hb⟩
      case round =>
        clear hb hown
        obtain ⟨k, hk, rfl, hown, hb⟩ := hrel
        by_cases hlt : k < 24
        · go_wp2_with fail
          refine (mark_calls _ (by omega) (by omega) _).mono ?_
          rintro e w1 ⟨rfl, rfl⟩
          go_wp2_with (at_builtin; go_loud (refine app_own hown hb (.tmp 23) (.tmp 26) [.int .i64 (mk1 k)] 26 _ _ Try.underlying26 info3 (by omega) (by decide) hb.size rfl rfl rfl (by decide) rfl rfl rfl (by simp [Value.oneCell']) ?_); intro v2 w2 ho2 hb3 _ _)
          go_roundw
          case rel => exact ⟨k + 1, by omega, by go_num, by rw [marksI_succ, ← List.append_assoc, ivs_snoc]; exact ho2, hb3⟩
          case measure => simp [intOf]; omega
        · obtain rfl : k = 24 := by omega
          obtain ⟨A', c', rfl, hc1, hc2⟩ := own_form hown
          go_wp2
          go_ret
          exact ⟨_, _, rfl, hown, hb⟩
end Go.Proofs.Ytnhnckhjcnjacaa.ST
