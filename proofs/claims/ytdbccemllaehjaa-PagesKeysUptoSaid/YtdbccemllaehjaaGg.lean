/- The reference's Id, May, Turned, walked. -/
import Derived.Test.YtdbccemllaehjaaGf
namespace Go.Proofs.Ytdbccemllaehjaa.PG
open Go.RowKit Go.Proofs.YtdbccemllaehjaaKw Go.Proofs.YtdbccemllaehjaaGa
set_option linter.unusedVariables false
set_option linter.unusedSimpArgs false
theorem small_calls (w : World) (c : Nat) : Calls Try.prog 134 #[.int .u8 (c : Int)] w fun e w' => e = .returned (.bool (decide (97 ≤ c ∧ c ≤ 122))) ∧ w' = w := by
  go_enter Try.func134, Try.ntmps134
  by_cases h1 : 97 ≤ c
  · go_wp2_with fail
    go_ret
    refine ⟨ret_bool ?_, rfl⟩
    simp only [decide_eq_decide]
    omega
  · go_wp2_with fail
    go_ret
    refine ⟨ret_bool ?_, rfl⟩
    first | rfl | (symm; exact decide_eq_false (by omega))
theorem rdigit_calls (w : World) (c : Nat) : Calls Try.prog 135 #[.int .u8 (c : Int)] w fun e w' => e = .returned (.bool (decide (48 ≤ c ∧ c ≤ 57))) ∧ w' = w := by
  go_enter Try.func135, Try.ntmps135
  by_cases h1 : 48 ≤ c
  · go_wp2_with fail
    go_ret
    refine ⟨ret_bool ?_, rfl⟩
    simp only [decide_eq_decide]
    omega
  · go_wp2_with fail
    go_ret
    refine ⟨ret_bool ?_, rfl⟩
    first | rfl | (symm; exact decide_eq_false (by omega))
def tb (k : Nat) : Nat := [45, 95, 46, 61, 43, 47, 124, 126].getD k 0
theorem tb_all : ∀ k (hk : k < 8), ((({ data := #[45, 95, 46, 61, 43, 47, 124, 126] } : ByteArray)[k]'hk).toNat = tb k) := by decide +kernel
theorem tb_in : ∀ k, k < 8 → idc (tb k) = true := by decide +kernel
theorem tb_out {c : Nat} (h : ∀ j, j < 8 → ¬ tb j = c) (h1 : ¬ (97 ≤ c ∧ c ≤ 122)) (h2 : ¬ (48 ≤ c ∧ c ≤ 57)) (h3 : ¬ (65 ≤ c ∧ c ≤ 90)) : idc c = false := by
  have e0 : ¬ 45 = c := h 0 (by omega)
  have e1 : ¬ 95 = c := h 1 (by omega)
  have e2 : ¬ 46 = c := h 2 (by omega)
  have e3 : ¬ 61 = c := h 3 (by omega)
  have e4 : ¬ 43 = c := h 4 (by omega)
  have e5 : ¬ 47 = c := h 5 (by omega)
  have e6 : ¬ 124 = c := h 6 (by omega)
  have e7 : ¬ 126 = c := h 7 (by omega)
  refine Bool.eq_false_iff.2 fun hi => ?_
  unfold idc at hi
  simp only [Bool.or_eq_true, Bool.and_eq_true, decide_eq_true_eq, beq_iff_eq] at hi
  omega
set_option maxHeartbeats 1000000 in
set_option maxRecDepth 100000 in
theorem one_calls (w : World) (c : Nat) (hc : c < 256) : Calls Try.prog 129 #[.int .u8 (c : Int)] w fun e w' => e = .returned (.bool (idc c)) ∧ w' = w := by
  go_enter Try.func129, Try.ntmps129
  go_wp2_with fail
  refine (small_calls w c).mono ?_
  rintro e w1 ⟨rfl, rfl⟩
  by_cases hl : 97 ≤ c ∧ c ≤ 122
  · rw [decide_eq_true hl]
    have hi : idc c = true := by unfold idc; simp; omega
    go_wp2_with fail
    go_ret
    exact ⟨by rw [hi]; rfl, rfl⟩
  · rw [decide_eq_false hl]
    go_wp2_with fail
    refine (rdigit_calls w1 c).mono ?_
    rintro e w2 ⟨rfl, rfl⟩
    by_cases hd : 48 ≤ c ∧ c ≤ 57
    · rw [decide_eq_true hd]
      have hi : idc c = true := by unfold idc; simp; omega
      go_wp2_with fail
      go_ret
      exact ⟨by rw [hi]; rfl, rfl⟩
    · rw [decide_eq_false hd]
      by_cases hu : 65 ≤ c ∧ c ≤ 90
      · have hi : idc c = true := by unfold idc; simp; omega
        obtain ⟨hu1, hu2⟩ := hu
        go_wp2_with fail
        go_ret
        exact ⟨by rw [hi]; rfl, rfl⟩
      · have key : ∀ {K : Prop}, (65 ≤ c → 90 < c → K) → (c < 65 → K) → K := fun h1 h2 => by
          by_cases h : 65 ≤ c
          · exact h1 h (by omega)
          · exact h2 (by omega)
        have HU := Lib.hid (And.intro hl (And.intro hd hu))
        clear hl hd hu
        refine key ?_ ?_ <;> intros
        all_goals
          go_wp2_with fail
          go_loopw [3] (fun s wr => ∃ k : Nat, k ≤ 8 ∧ s = .int .i64 (k : Int) ∧ (∀ j, j < k → ¬ tb j = c) ∧ wr = w2) (fun s _ => 8 - (intOf s).toNat)
          case atStart => exact ⟨0, by omega, rfl, fun j hj => by omega, rfl⟩
          case round =>
            obtain ⟨k, hk, rfl, hall, rfl⟩ := hrel
            by_cases hlt : k < 8
            · have hx := tb_all k hlt
              have hin := tb_in k hlt
              obtain ⟨x, hxd⟩ : ∃ x, x = tb k := ⟨_, rfl⟩
              rw [← hxd] at hx hin
              by_cases he : x = c
              · rw [he] at hx hin
                have H := Lib.hid hin
                clear hin hxd he hall
                go_wp2_with fail
                go_ret
                exact ⟨by rw [H.out]; rfl, rfl⟩
              · have hn : ∀ j, j < k + 1 → ¬ tb j = c := fun j hj => by
                  by_cases hjk : j = k
                  · rw [hjk, ← hxd]; exact he
                  · exact hall j (by omega)
                have H := Lib.hid hn
                have hne : ((x : Int) == (c : Int)) = false := beq_eq_false_iff_ne.2 (by omega)
                clear hn hin hxd hall
                go_wp2_with fail
                go_roundw
                case rel => exact ⟨k + 1, by omega, by go_num, H.out, trivial⟩
                case measure => simp [intOf]; omega
            · obtain rfl : k = 8 := by omega
              have hi := Lib.hid (tb_out hall HU.out.1 HU.out.2.1 HU.out.2.2)
              clear hall
              go_wp2_with fail
              go_ret
              exact ⟨by rw [hi.out]; rfl, rfl⟩
set_option maxHeartbeats 1000000 in
set_option maxRecDepth 100000 in
theorem rid_calls (w : World) (s : ByteArray) (hs : s.size ≤ maxLen) : Calls Try.prog 114 #[.string s] w fun e w' => e = .returned (.bool (idB s)) ∧ w' = w := by
  unfold maxLen at hs
  go_enter Try.func114, Try.ntmps114
  by_cases h0 : s.size < 1
  · have h0' := (empty_iff s).1 (by omega)
    subst h0'
    go_wp2_with fail
    go_ret
    exact ⟨rfl, rfl⟩
  · by_cases h1 : s.size ≤ 64
    · go_wp2_with fail
      go_loopw [3] (fun i wr => ∃ k : Nat, k ≤ s.size ∧ i = .int .i64 (k : Int) ∧ ((nums s).take k).all idc = true ∧ wr = w) (fun i _ => s.size - (intOf i).toNat)
      case atStart => exact ⟨0, Nat.zero_le _, rfl, by simp, rfl⟩
      case round =>
        obtain ⟨k, hk, rfl, hall, rfl⟩ := hrel
        by_cases hlt : k < s.size
        · have hyes := all_take s hlt hall
          have hno := all_not s hlt
          obtain ⟨c, hc⟩ : ∃ c, c = s[k].toNat := ⟨_, rfl⟩
          have hc256 : c < 256 := by rw [hc]; exact s[k].toNat_lt
          rw [← hc] at hyes hno
          have H := Lib.hid (And.intro hyes hno)
          clear hyes hno hall
          go_wp2_with fail
          rw [← hc]
          clear hc
          refine (one_calls wr c hc256).mono ?_
          rintro e w1 ⟨rfl, rfl⟩
          by_cases hi : idc c = true
          · have HI := Lib.hid (H.out.1 hi)
            rw [hi]
            clear hi
            go_wp2_with fail
            go_roundw
            case rel => exact ⟨k + 1, by omega, by go_num, HI.out, trivial⟩
            case measure => simp [intOf]; omega
          · have hi' : idc c = false := Bool.eq_false_iff.2 hi
            have HI := Lib.hid (H.out.2 hi')
            rw [hi']
            clear hi hi'
            go_wp2_with fail
            go_ret
            exact ⟨by rw [HI.out]; rfl, rfl⟩
        · have hB : idB s = true := by
            unfold idB
            rw [List.take_of_length_le (by rw [nums_len]; omega)] at hall
            rw [hall]
            simp
            omega
          have H := Lib.hid hB
          clear hB hall
          go_wp2_with fail
          go_ret
          exact ⟨by rw [H.out]; rfl, rfl⟩
    · have hB : idB s = false := by
        unfold idB
        rw [decide_eq_false h1]
        simp
      have H := Lib.hid hB
      clear hB
      go_wp2_with fail
      go_ret
      exact ⟨by rw [H.out]; rfl, rfl⟩
set_option maxHeartbeats 1000000 in
set_option maxRecDepth 100000 in
theorem may_calls (w : World) (key : Nat) (r : Int) (last : ByteArray) (hr : -9223372036854775808 ≤ r ∧ r ≤ 9223372036854775807) (hls : last.size ≤ maxLen) :
    Calls Try.prog 92 #[.agg #[.int .u64 (key : Int), .int .i64 r, .string last]] w fun e w' => ((¬ MayP r last ∧ e = .returned (.bool false)) ∨ (MayP r last ∧ e = .returned (.bool true))) ∧ Below w.heap.size w w' := by
  go_enter Try.func92, Try.ntmps92
  have hA := below_alloc (Below.refl w.heap.size w) (.cells #[.int .u64 (key : Int), .int .i64 r, .string last] 87)
  by_cases h1 : r < 0
  · go_wp2_with fail
    go_ret
    exact ⟨.inl ⟨fun h => by have := h.1; omega, rfl⟩, hA⟩
  by_cases h2 : 4611686018427387904 < r
  · go_wp2_with fail
    go_ret
    exact ⟨.inl ⟨fun h => by have := h.2.1; omega, rfl⟩, hA⟩
  go_wp2_with fail
  refine (rid_calls _ last hls).mono ?_
  rintro e w1 ⟨rfl, rfl⟩
  have hI := Lib.hid (idB_iff last)
  by_cases hb : idB last = true
  · rw [hb]
    have HI := Lib.hid (hI.out.1 hb)
    clear hb hI
    go_wp2_with fail
    go_ret
    exact ⟨.inr ⟨⟨by omega, by omega, HI.out⟩, rfl⟩, hA⟩
  · rw [Bool.eq_false_iff.2 hb]
    have HI := Lib.hid (fun h => hb (hI.out.2 h))
    clear hb hI
    go_wp2_with fail
    go_ret
    exact ⟨.inl ⟨fun h => HI.out h.2.2, rfl⟩, hA⟩
theorem turned_calls (w : World) (r : Nat) (hr : r ≤ 4611686018427387904) : Calls Try.prog 93 #[.int .i64 (r : Int)] w fun e w' => e = .returned (.int .u64 ((2 * r : Nat) : Int)) ∧ w' = w := by
  go_enter Try.func93, Try.ntmps93
  go_wp2_with fail
  go_ret
  exact ⟨by simp, rfl⟩
end Go.Proofs.Ytdbccemllaehjaa.PG
