/- octets.short, walked: it reads a number's short form. -/
import Derived.Test.YtdbccemllaehjaaGe
namespace Go.Proofs.YtdbccemllaehjaaGa
/-- The number of a short form, while it is read. -/
def HY (l : List Nat) (i x : Nat) : Prop := ∀ y rest, y < 18446744073709551616 → l = uintB y ++ rest → ∃ y', l.drop i = uintB y' ++ rest ∧ y = x + 2 ^ (7 * i) * y' ∧ x < 2 ^ (7 * i) ∧ (uintB y).length = i + (uintB y').length ∧ (i = 0 ∨ 1 ≤ y')
def XS (x c i x' : Nat) : Prop := x < 2 ^ (7 * i) → c % 128 * 2 ^ (7 * i) < 18446744073709551616 → x' = x + c % 128 * 2 ^ (7 * i)
theorem HY.start (l : List Nat) : HY l 0 0 := fun y rest hy h => ⟨y, by simpa using h, by simp, by simp, by simp, .inl rfl⟩
theorem HY.at {l : List Nat} {i x : Nat} (h : HY l i x) (hi : i < l.length) {y : Nat} {rest : List Nat} (hy : y < 18446744073709551616) (e : l = uintB y ++ rest) :
    ∃ y', y = x + 2 ^ (7 * i) * y' ∧ x < 2 ^ (7 * i) ∧ (uintB y).length = i + (uintB y').length ∧ (i = 0 ∨ 1 ≤ y') ∧ ((y' < 128 ∧ l[i] = y' ∧ l.drop (i + 1) = rest) ∨ (128 ≤ y' ∧ l[i] = y' % 128 + 128 ∧ l.drop (i + 1) = uintB (y' / 128) ++ rest)) := by
  obtain ⟨y', h1, h2, h3, h4, h5⟩ := h y rest hy e
  rw [List.drop_eq_getElem_cons hi] at h1
  refine ⟨y', h2, h3, h4, h5, ?_⟩
  by_cases hb : y' < 128
  · rw [uintB_lo hb] at h1
    simp only [List.cons_append, List.nil_append, List.cons.injEq] at h1
    exact .inl ⟨hb, h1.1, h1.2⟩
  · rw [uintB_hi hb] at h1
    simp only [List.cons_append, List.cons.injEq] at h1
    exact .inr ⟨by omega, h1.1, h1.2⟩
theorem HY.small {x i y' : Nat} (h : x + 2 ^ (7 * i) * y' < 18446744073709551616) : 2 ^ (7 * i) * y' < 18446744073709551616 := by omega
theorem HY.no {l : List Nat} {i x : Nat} (h : HY l i x) (hi : i < l.length) (hc : (i = 9 ∧ 1 < l[i]) ∨ (0 < i ∧ l[i] = 0)) : ∀ y rest, y < 18446744073709551616 → l = uintB y ++ rest → False := by
  intro y rest hy e
  obtain ⟨y', h1, h2, h3, h4, h5⟩ := h.at hi hy e
  rcases hc with ⟨rfl, hc⟩ | ⟨hp, hc⟩
  · have : y' ≤ 1 := by
      rw [h1] at hy
      have h6 : 2 ^ (7 * 9) * y' < 18446744073709551616 := HY.small hy
      have h7 : (2 : Nat) ^ (7 * 9) = 9223372036854775808 := by decide
      rw [h7] at h6
      omega
    rcases h5 with ⟨_, h5, _⟩ | ⟨_, h5, _⟩ <;> omega
  · rcases h5 with ⟨_, h5, _⟩ | ⟨_, h5, _⟩ <;> omega
theorem XS.is {x c i x' y' : Nat} (hx : XS x c i x') (h2 : x < 2 ^ (7 * i)) (hy : x + 2 ^ (7 * i) * y' < 18446744073709551616) (hc : c % 128 = y' % 128) : x' = x + 2 ^ (7 * i) * (y' % 128) := by
  have h1 : 2 ^ (7 * i) * (y' % 128) ≤ 2 ^ (7 * i) * y' := Nat.mul_le_mul_left _ (Nat.mod_le _ _)
  have := hx h2 (by rw [hc, Nat.mul_comm]; omega)
  rw [this, hc, Nat.mul_comm]
theorem HY.last {l : List Nat} {i x x' : Nat} (h : HY l i x) (hi : i < l.length) (hc : l[i] < 128) (hx : XS x l[i] i x') : ∀ y rest, y < 18446744073709551616 → l = uintB y ++ rest → x' = y ∧ i + 1 = (uintB y).length := by
  intro y rest hy e
  obtain ⟨y', h1, h2, h3, h4, h5⟩ := h.at hi hy e
  rcases h5 with ⟨hb, h5, h6⟩ | ⟨_, h5, _⟩
  · have := hx.is h2 (by rw [← h1]; exact hy) (by rw [h5])
    rw [Nat.mod_eq_of_lt hb] at this
    rw [uintB_lo hb] at h3
    exact ⟨by rw [this, h1], by rw [h3]; rfl⟩
  · omega
theorem HY.next {l : List Nat} {i x x' : Nat} (h : HY l i x) (hi : i < l.length) (hc : 128 ≤ l[i]) (hx : XS x l[i] i x') : HY l (i + 1) x' := by
  intro y rest hy e
  obtain ⟨y', h1, h2, h3, h4, h5⟩ := h.at hi hy e
  rcases h5 with ⟨hb, h5, h6⟩ | ⟨hb, h5, h6⟩
  · omega
  · have hv := hx.is (y' := y') h2 (by rw [← h1]; exact hy) (by rw [h5]; omega)
    have ep : (2 : Nat) ^ (7 * (i + 1)) = 2 ^ (7 * i) * 128 := by rw [Nat.mul_add, Nat.pow_add]
    refine ⟨y' / 128, h6, ?_, ?_, ?_, .inr (by omega)⟩
    · rw [hv, h1, ep, Nat.mul_assoc, Nat.add_assoc, ← Nat.mul_add]
      congr 2
      omega
    · rw [hv, ep]
      have : 2 ^ (7 * i) * (y' % 128) ≤ 2 ^ (7 * i) * 127 := Nat.mul_le_mul_left _ (by omega)
      omega
    · rw [h3, uintB_hi (by omega)]
      simp
      omega
theorem HY.out {l : List Nat} {x : Nat} (h : HY l l.length x) : ∀ y rest, y < 18446744073709551616 → l = uintB y ++ rest → False := by
  intro y rest hy e
  obtain ⟨y', h1, _⟩ := h y rest hy e
  rw [List.drop_length] at h1
  have := (List.append_eq_nil_iff.1 h1.symm).1
  exact uintB_ne _ this
/-- Ten bytes are enough. -/
theorem HY.ten {l : List Nat} {x : Nat} (h : HY l 10 x) : ∀ y rest, y < 18446744073709551616 → l = uintB y ++ rest → False := by
  intro y rest hy e
  obtain ⟨y', _, h2, _, _, h5⟩ := h y rest hy e
  have h7 : (2 : Nat) ^ (7 * 10) = 1180591620717411303424 := by decide
  rw [h7] at h2
  omega
end Go.Proofs.YtdbccemllaehjaaGa
namespace Go.Proofs.Ytdbccemllaehjaa.PG
open Go.RowKit Go.Proofs.YtdbccemllaehjaaKw Go.Proofs.YtdbccemllaehjaaGa
set_option linter.unusedVariables false
set_option linter.unusedSimpArgs false
theorem shl_run (v i : Nat) (hv : v < 128) : ∃ s : Nat, s < 18446744073709551616 ∧ (v * 2 ^ (7 * i) < 18446744073709551616 → s = v * 2 ^ (7 * i)) ∧ (7 * i < 64 → IntKind.u64.wrap ((v : Int) * 2 ^ (7 * i)) = (s : Int)) ∧ ∀ w : World, (Op.shift .shl .u64 (v : Int) .i64 (7 * (i : Int))).run Try.prog w = .ok (.int .u64 (s : Int)) w := by
  refine ⟨v * 2 ^ (min (7 * i) 64) % 18446744073709551616, Nat.mod_lt _ (by omega), fun h => ?_, fun h => ?_, fun w => ?_⟩
  · by_cases h0 : v = 0
    · subst h0; simp
    · have h1 : 7 * i < 64 := by
        refine Nat.lt_of_not_le fun hle => ?_
        have h2 : (2 : Nat) ^ 64 ≤ 2 ^ (7 * i) := Nat.pow_le_pow_right (by omega) hle
        have h3 : 1 * 2 ^ (7 * i) ≤ v * 2 ^ (7 * i) := Nat.mul_le_mul_right _ (by omega)
        have h4 : (2 : Nat) ^ 64 = 18446744073709551616 := by decide
        omega
      rw [Nat.min_eq_left (by omega), Nat.mod_eq_of_lt h]
  · rw [Nat.min_eq_left (by omega)]
    have e2 : ((v : Int) * 2 ^ (7 * i)) = ((v * 2 ^ (7 * i) : Nat) : Int) := by simp
    rw [e2]
    generalize v * 2 ^ (7 * i) = y
    simp [IntKind.wrap, IntKind.bits, IntKind.signed]
  · rw [shift_shl_any _ _ _ _ (by omega)]
    have e1 : (7 * (i : Int)).toNat = 7 * i := by omega
    have e2 : ((v : Int) * 2 ^ (min (7 * i) 64)) = ((v * 2 ^ (min (7 * i) 64) : Nat) : Int) := by simp
    show Result.ok (Value.int .u64 (IntKind.u64.wrap ((v : Int) * 2 ^ min (7 * (i : Int)).toNat 64))) w = _
    rw [e1, e2]
    generalize v * 2 ^ min (7 * i) 64 = y
    have : IntKind.u64.wrap (y : Int) = ((y % 18446744073709551616 : Nat) : Int) := by simp [IntKind.wrap, IntKind.bits, IntKind.signed]
    rw [this]
theorem or_word (x d i s : Nat) (hx : x < 18446744073709551616) (hs : s < 18446744073709551616) (h : d % 128 * 2 ^ (7 * i) < 18446744073709551616 → s = d % 128 * 2 ^ (7 * i)) :
    ∃ x' : Nat, x' < 18446744073709551616 ∧ bits .or .u64 (x : Int) (s : Int) = (x' : Int) ∧ XS x d i x' := by
  refine ⟨x ||| s, Nat.or_lt_two_pow (n := 64) hx hs, (bits_nat .u64 64 (by decide) wraps_u64 x s hx hs).2, fun h1 h2 => ?_⟩
  rw [h h2, Nat.or_comm, Nat.mul_comm, ← Nat.two_pow_add_eq_or_of_lt h1, Nat.add_comm]
theorem and127 (d : Nat) (hd : d < 256) : bits .and .u8 (d : Int) 127 = ((d % 128 : Nat) : Int) := by
  have := bits_mask .u8 8 (by decide) wraps_u8 7 (by decide) (d : Int) (by omega) (by omega)
  simpa using this
set_option maxHeartbeats 4000000 in
set_option maxRecDepth 100000 in
theorem short_calls (w : World) (l : List Nat) (A : Option Addr) (c : Nat) (hr : Rd w A (bvs l)) (hd : Dig 256 l) (hl : l.length ≤ 140737488355328) :
    Calls Try.prog 116 #[.slice A l.length c] w fun e w' => ∃ (x n : Nat) (er : Int), e = .returned (.tuple #[.int .u64 (x : Int), .int .i64 (n : Int), .int .i64 er]) ∧ x < 18446744073709551616 ∧ n ≤ l.length ∧ (0 ≤ er ∧ er < 100) ∧ (∀ y rest, y < 18446744073709551616 → l = uintB y ++ rest → x = y ∧ n = (uintB y).length ∧ er = 0) ∧ w' = w := by
  go_enter Try.func116, Try.ntmps116
  go_wp2_with fail
  go_loopw [5, 10] (fun s5 s10 wr => ∃ (i x : Nat), i ≤ l.length ∧ s5 = .int .u64 (x : Int) ∧ s10 = .int .i64 (i : Int) ∧ x < 18446744073709551616 ∧ HY l i x ∧ wr = w) (fun _ s _ => l.length - (intOf s).toNat)
  case atStart => exact ⟨0, 0, Nat.zero_le _, rfl, rfl, by omega, HY.start l, rfl⟩
  case round =>
    obtain ⟨i, x, hi, rfl, rfl, hx, hH, rfl⟩ := hrel
    by_cases hlt : i < l.length
    · obtain ⟨b, off, rfl, hc⟩ := rd_byte hr hlt
      have hc256 : l[i] < 256 := hd _ (List.getElem_mem hlt)
      have hno := hH.no hlt
      have hla := fun x' => hH.last (x' := x') hlt
      have hne := fun x' => hH.next (x' := x') hlt
      have H := Lib.hid (And.intro hno (And.intro hla hne))
      clear hH hno hla hne
      generalize l[i] = d at *
      have hm := and127 d hc256
      obtain ⟨sh, hsh, hsv, hsw, hsr⟩ := shl_run (d % 128) i (Nat.mod_lt _ (by omega))
      obtain ⟨x', hx', hor, hXS⟩ := or_word x d i sh hx hsh hsv
      have hv : d % 128 < 128 := Nat.mod_lt _ (by omega)
      generalize d % 128 = v at *
      have hv' : IntKind.u64.wrap (v : Int) = (v : Int) := wrap64n v (by omega)
      have HX := Lib.hid hXS
      clear hXS hsv
      by_cases h9 : i = 9 ∧ 1 < d
      · obtain ⟨hi9, h1⟩ := h9
        have hno := H.out.1 (.inl ⟨hi9, h1⟩)
        have HN := Lib.hid hno
        have t9 : ((i : Int) == 9) = true := by rw [beq_iff_eq]; omega
        clear hno hi9 H
        go_wp2_with fail
        go_ret3
        exact ⟨0, 0, 21, rfl, by omega, by omega, by omega, fun y rest hy e => (HN.out y rest hy e).elim, rfl⟩
      by_cases h0 : 0 < i ∧ d = 0
      · have hno := H.out.1 (.inr h0)
        have HN := Lib.hid hno
        obtain ⟨hp, hd0⟩ := h0
        have t0 : ((d : Int) == 0) = true := by rw [beq_iff_eq]; omega
        clear hno H
        by_cases hi9 : i = 9
        · have t9 : ((i : Int) == 9) = true := by rw [beq_iff_eq]; omega
          have h1 : ¬ 1 < d := by omega
          clear hi9 hd0 h9
          go_wp2_with fail
          go_ret3
          exact ⟨0, 0, 21, rfl, by omega, by omega, by omega, fun y rest hy e => (HN.out y rest hy e).elim, rfl⟩
        · have t9 : ((i : Int) == 9) = false := beq_eq_false_iff_ne.2 (by omega)
          clear hd0 h9 hi9
          go_wp2_with fail
          go_ret3
          exact ⟨0, 0, 21, rfl, by omega, by omega, by omega, fun y rest hy e => (HN.out y rest hy e).elim, rfl⟩
      have key : ∀ {K : Prop}, (((i : Int) == 9) = true → ¬ 1 < d → 0 < i → ((d : Int) == 0) = false → IntKind.u64.wrap ((v : Int) * 2 ^ (7 * i)) = (sh : Int) → K) → (((i : Int) == 9) = false → 0 < i → ((d : Int) == 0) = false → K) → (((i : Int) == 9) = false → ¬ 0 < i → IntKind.u64.wrap ((v : Int) * 2 ^ (7 * i)) = (sh : Int) → K) → K := by
        intro K k1 k2 k3
        by_cases a1 : i = 9
        · exact k1 (by rw [beq_iff_eq]; omega) (by omega) (by omega) (beq_eq_false_iff_ne.2 (by omega)) (hsw (by omega))
        · by_cases a2 : 0 < i
          · exact k2 (beq_eq_false_iff_ne.2 (by omega)) a2 (beq_eq_false_iff_ne.2 (by omega))
          · exact k3 (beq_eq_false_iff_ne.2 (by omega)) a2 (hsw (by omega))
      clear h9 h0
      by_cases hs : d < 128
      · have HL := Lib.hid (H.out.2.1 x' hs HX.out)
        clear H HX
        refine key ?_ ?_ ?_ <;> (clear key hsw; intros)
        all_goals
          go_wp2_with fail
          go_ret3
          exact ⟨x', i + 1, 0, by go_num, hx', by omega, by omega, fun y rest hy e => ⟨(HL.out y rest hy e).1, (HL.out y rest hy e).2, rfl⟩, rfl⟩
      · have HL := Lib.hid (H.out.2.2 x' (by omega) HX.out)
        clear H HX
        refine key ?_ ?_ ?_ <;> (clear key hsw; intros)
        all_goals try (exfalso; omega)
        all_goals
          go_wp2_with fail
          go_roundw
          case rel => exact ⟨i + 1, x', by omega, rfl, by go_num, hx', HL.out, trivial⟩
          case measure => simp [intOf]; omega
    · obtain rfl : l.length = i := by omega
      have H := Lib.hid hH.out
      clear hH
      go_wp2_with fail
      go_ret3
      exact ⟨0, 0, 20, rfl, by omega, by omega, by omega, fun y rest hy e => (H.out y rest hy e).elim, rfl⟩
end Go.Proofs.Ytdbccemllaehjaa.PG
