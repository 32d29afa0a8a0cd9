/- ident.Id, walked: it tells whether a text is an id. -/
import Derived.Test.YtdbccemllaehjaaGc
namespace Go.Proofs.Ytdbccemllaehjaa.PG
open Go.RowKit Go.Proofs.YtdbccemllaehjaaKw Go.Proofs.YtdbccemllaehjaaGa
set_option linter.unusedVariables false
set_option linter.unusedSimpArgs false
theorem lower_calls (w : World) (c : Nat) : Calls Try.prog 111 #[.int .u8 (c : Int)] w fun e w' => e = .returned (.bool (decide (97 ≤ c ∧ c ≤ 122))) ∧ w' = w := by
  go_enter Try.func111, Try.ntmps111
  by_cases h1 : 97 ≤ c
  · go_wp2_with fail
    go_ret
    refine ⟨ret_bool ?_, rfl⟩
    simp only [decide_eq_decide]
    omega
  · go_wp2_with fail
    go_ret
    refine ⟨ret_bool ?_, rfl⟩
    first | rfl | (symm; exact decide_eq_false (by omega))
theorem digit_calls (w : World) (c : Nat) : Calls Try.prog 112 #[.int .u8 (c : Int)] w fun e w' => e = .returned (.bool (decide (48 ≤ c ∧ c ≤ 57))) ∧ w' = w := by
  go_enter Try.func112, Try.ntmps112
  by_cases h1 : 48 ≤ c
  · go_wp2_with fail
    go_ret
    refine ⟨ret_bool ?_, rfl⟩
    simp only [decide_eq_decide]
    omega
  · go_wp2_with fail
    go_ret
    refine ⟨ret_bool ?_, rfl⟩
    first | rfl | (symm; exact decide_eq_false (by omega))
def idB (s : ByteArray) : Bool := decide (1 ≤ s.size) && decide (s.size ≤ 64) && (nums s).all idc
theorem idB_iff (s : ByteArray) : idB s = true ↔ IsId s := by
  unfold idB IsId
  simp only [Bool.and_eq_true, decide_eq_true_eq, List.all_eq_true, and_assoc]
theorem all_take (s : ByteArray) {k : Nat} (hk : k < s.size) (h : ((nums s).take k).all idc = true) (hc : idc s[k].toNat = true) : ((nums s).take (k + 1)).all idc = true := by
  rw [List.take_succ_eq_append_getElem (by rw [nums_len]; exact hk), List.all_append, h, nums_at s hk]
  simp [hc]
theorem all_not (s : ByteArray) {k : Nat} (hk : k < s.size) (hc : idc s[k].toNat = false) : idB s = false := by
  unfold idB
  have : (nums s).all idc = false := by
    rw [List.all_eq_false]
    exact ⟨_, List.getElem_mem (show k < (nums s).length by rw [nums_len]; exact hk), by rw [nums_at s hk, hc]; simp⟩
  rw [this, Bool.and_false]
theorem mt_false {s : ByteArray} (h : ¬ s.size = 0) : s.toList.isEmpty = false := by
  rw [ByteArray.toList_eq]
  have : s.data.toList.length = s.size := by simp
  cases hd : s.data.toList with
  | nil => rw [hd] at this; simp at this; omega
  | cons a l => rfl
theorem empty_iff (s : ByteArray) : (s.size = 0) ↔ s = ⟨#[]⟩ := by
  constructor
  · intro h
    cases s with
    | mk d => 
      have : d = #[] := Array.eq_empty_of_size_eq_zero h
      rw [this]
  · rintro rfl; rfl
set_option maxHeartbeats 1000000 in
set_option maxRecDepth 100000 in
theorem id_calls (w : World) (s : ByteArray) (hs : s.size ≤ maxLen) : Calls Try.prog 84 #[.string s] w fun e w' => e = .returned (.bool (idB s)) ∧ w' = w := by
  unfold maxLen at hs
  go_enter Try.func84, Try.ntmps84
  by_cases h0 : s.size = 0
  · have h0' := (empty_iff s).1 h0
    subst h0'
    go_wp2_with fail
    go_ret
    exact ⟨rfl, rfl⟩
  · have h0' := mt_false h0
    by_cases h1 : s.size ≤ 64
    · go_wp2_with fail
      go_loopw [14] (fun i wr => ∃ k : Nat, k ≤ s.size ∧ i = .int .i64 (k : Int) ∧ ((nums s).take k).all idc = true ∧ wr = w) (fun i _ => s.size - (intOf i).toNat)
      case atStart => exact ⟨0, Nat.zero_le _, rfl, by simp, rfl⟩
      case round =>
        obtain ⟨k, hk, rfl, hall, rfl⟩ := hrel
        by_cases hlt : k < s.size
        · have hyes := all_take s hlt hall
          have hno := all_not s hlt
          obtain ⟨c, hc⟩ : ∃ c, c = s[k].toNat := ⟨_, rfl⟩
          rw [← hc] at hyes hno
          have H := Lib.hid (And.intro hyes hno)
          clear hyes hno hall
          go_wp2_with fail
          rw [← hc]
          clear hc
          refine (lower_calls wr c).mono ?_
          rintro e w1 ⟨rfl, rfl⟩
          by_cases hl : 97 ≤ c ∧ c ≤ 122
          · rw [decide_eq_true hl]
            have hi : idc c = true := by unfold idc; simp; omega
            have HI := Lib.hid (H.out.1 hi)
            clear hi
            go_wp2_with fail
            go_roundw
            case rel => exact ⟨k + 1, by omega, by go_num, HI.out, trivial⟩
            case measure => simp [intOf]; omega
          · rw [decide_eq_false hl]
            go_wp2_with fail
            refine (digit_calls w1 c).mono ?_
            rintro e w2 ⟨rfl, rfl⟩
            by_cases hd : 48 ≤ c ∧ c ≤ 57
            · rw [decide_eq_true hd]
              have hi : idc c = true := by unfold idc; simp; omega
              have HI := Lib.hid (H.out.1 hi)
              clear hi
              go_wp2_with fail
              go_roundw
              case rel => exact ⟨k + 1, by omega, by go_num, HI.out, trivial⟩
              case measure => simp [intOf]; omega
            · rw [decide_eq_false hd]
              go_wp2_with fail
              all_goals
                try simp only [beq_iff_eq, beq_eq_false_iff_ne, ne_eq] at *
                by_cases hi : idc c = true
                · have HI := Lib.hid (H.out.1 hi)
                  first
                    | (go_roundw
                       case rel => exact ⟨k + 1, by omega, by go_num, HI.out, trivial⟩
                       case measure => simp [intOf]; omega)
                    | (exfalso
                       unfold idc at hi
                       simp only [Bool.or_eq_true, Bool.and_eq_true, decide_eq_true_eq, beq_iff_eq] at hi
                       omega)
                · first
                    | (go_ret
                       exact ⟨ret_bool (H.out.2 (Bool.eq_false_iff.2 hi)).symm, rfl⟩)
                    | (exfalso
                       unfold idc at hi
                       simp only [Bool.or_eq_true, Bool.and_eq_true, decide_eq_true_eq, beq_iff_eq] at hi
                       omega)
        · have hB : idB s = true := by
            unfold idB
            rw [List.take_of_length_le (by rw [nums_len]; omega)] at hall
            rw [hall]
            simp
            omega
          have H := Lib.hid hB
          clear hB hall
          go_wp2_with fail
          go_ret
          exact ⟨ret_bool H.out.symm, rfl⟩
    · have hB : idB s = false := by
        unfold idB
        rw [decide_eq_false h1]
        simp
      have H := Lib.hid hB
      clear hB
      go_wp2_with fail
      go_ret
      exact ⟨ret_bool H.out.symm, rfl⟩
end Go.Proofs.Ytdbccemllaehjaa.PG
