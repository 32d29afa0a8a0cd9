/- octets.Unarmor, walked. -/
import Derived.Test.YtdbccemllaehjaaGe
namespace Go.Proofs.Ytdbccemllaehjaa.PG
open Go.RowKit Go.Proofs.YtdbccemllaehjaaKw Go.Proofs.YtdbccemllaehjaaGa
set_option linter.unusedVariables false
set_option linter.unusedSimpArgs false
/-- What an Unarmor answers. -/
structure UnAns (w : World) (s : ByteArray) (e : Ending) (w' : World) : Prop where
  mk :: (out : ∃ v, ∃ (l : List Nat) (er : Int), e = .returned (.tuple #[v, .int .i64 er]) ∧ w'.ownsRow w.heap.size 5 1 v l.length (bvs l) ∧ Dig 256 l ∧ l.length ≤ s.size ∧ -9223372036854775808 ≤ er ∧ er ≤ 9223372036854775807 ∧ (∀ B, Dig 256 B → IsArm B s → l = B ∧ er = 0) ∧ Below w.heap.size w w')
/-- A letter's number. -/
def ul (c : Nat) : Nat := if 97 ≤ c ∧ c ≤ 122 then c - 97 else c - 24
def isL (c : Nat) : Prop := (97 ≤ c ∧ c ≤ 122) ∨ (50 ≤ c ∧ c ≤ 55)
theorem ul_lt {c : Nat} (h : isL c) : ul c < 32 := by unfold ul; unfold isL at h; split <;> omega
theorem lt_ul {c : Nat} (h : isL c) : lt (ul c) = c := by unfold ul lt; unfold isL at h; split <;> split <;> omega
theorem isL_lt {d : Nat} (h : d < 32) : isL (lt d) := by unfold isL lt; split <;> omega
theorem arm_chars {B : List Nat} {s : ByteArray} (h : IsArm B s) : ∃ D, ArmD B D ∧ nums s = D.map lt := by
  obtain ⟨D, hD, rfl⟩ := h
  exact ⟨D, hD, nums_strOf (lt_dig hD.dig)⟩
/-- A text with another byte is no armor. -/
theorem arm_not {B : List Nat} {s : ByteArray} {k : Nat} (hk : k < s.size) (hc : ¬ isL s[k].toNat) : ¬ IsArm B s := by
  intro h
  obtain ⟨D, hD, hn⟩ := arm_chars h
  apply hc
  have hl : k < (nums s).length := by rw [nums_len]; exact hk
  rw [← nums_at s hk]
  have hm : (nums s)[k] ∈ D.map lt := by rw [← hn]; exact List.getElem_mem hl
  obtain ⟨d, hd, he⟩ := List.mem_map.1 hm
  rw [← he]
  exact isL_lt (hD.dig d hd)
/-- The letters' numbers that were read. -/
structure UR (s : ByteArray) (k : Nat) (D out : List Nat) (held n : Nat) : Prop where
  dig : Dig 32 D
  eq : D.map lt = (nums s).take k
  len : D.length = k
  us : US (val 32 D) (5 * k) out held n
  n8 : n < 8
theorem UR.start (s : ByteArray) : UR s 0 [] [] 0 0 := ⟨by intro d hd; simp at hd, by simp, rfl, US.start, by omega⟩
theorem UR.next {s : ByteArray} {k : Nat} {D out : List Nat} {held n : Nat} (h : UR s k D out held n) (hk : k < s.size) (hc : isL s[k].toNat) :
    Dig 32 (D ++ [ul s[k].toNat]) ∧ (D ++ [ul s[k].toNat]).map lt = (nums s).take (k + 1) ∧ (D ++ [ul s[k].toNat]).length = k + 1 ∧ US (val 32 (D ++ [ul s[k].toNat])) (5 * (k + 1)) out (held * 32 + ul s[k].toNat) (n + 5) := by
  refine ⟨h.dig.snoc (ul_lt hc), ?_, by simp [h.len], ?_⟩
  · rw [List.map_append, h.eq, List.take_succ_eq_append_getElem (by rw [nums_len]; exact hk), nums_at s hk]
    simp [lt_ul hc]
  · rw [val_snoc]
    exact h.us.letter (ul_lt hc)
theorem UR.done {s : ByteArray} {D out : List Nat} {held n : Nat} (h : UR s s.size D out held n) : ∀ B, Dig 256 B → IsArm B s → out = B ∧ n < 5 ∧ held = 0 := by
  intro B hB hA
  obtain ⟨E, hE, hn⟩ := arm_chars hA
  have he := h.eq
  rw [List.take_of_length_le (by rw [nums_len]; omega), hn] at he
  have : D = E := map_lt_inj h.dig hE.dig he
  subst this
  refine US.done hE hB ?_ h.n8
  rw [h.len]
  exact h.us
theorem or32 (h x : Nat) (hh : h < 72057594037927936) (hx : x < 32) : bits .or .u64 ((h : Int) * 32) (x : Int) = ((h * 32 + x : Nat) : Int) := by
  have := bits_join .u64 64 (by decide) wraps_u64 5 ((h : Int) * 32) (x : Int) (by omega) (by simp) (by omega) (by omega) (by omega) (by omega)
  rw [this]; simp
set_option maxHeartbeats 4000000 in
set_option maxRecDepth 100000 in
theorem unarmor_calls (w : World) (s : ByteArray) (hs : s.size ≤ 140737488351232) : Calls Try.prog 95 #[.string s] w (UnAns w s) := by
  go_enter Try.func95, Try.ntmps95
  go_wp2_with fail
  go_loopw [4, 5, 6, 7] (fun v s5 s6 s7 wr => ∃ (k : Nat) (D out : List Nat) (h n : Nat), k ≤ s.size ∧ wr.ownsRow w.heap.size 5 1 v out.length (bvs out) ∧ s5 = .int .u64 (h : Int) ∧ s6 = .int .i64 (n : Int) ∧ s7 = .int .i64 (k : Int) ∧ UR s k D out h n ∧ Below w.heap.size w wr) (fun _ _ _ i _ => s.size - (intOf i).toNat)
  case atStart => exact ⟨0, [], [], 0, 0, Nat.zero_le _, World.ownsRow_nil _ _ _ _, rfl, rfl, rfl, UR.start s, Below.refl _ _⟩
  case round =>
    obtain ⟨k, D, out, h, n, hk, ho, rfl, rfl, rfl, hU, hb⟩ := hrel
    have hn8 := hU.n8
    have hh : h < 128 := by
      have h1 := hU.us.lt
      have h2 : 2 ^ n ≤ 2 ^ 7 := Nat.pow_le_pow_right (by omega) (by omega)
      omega
    by_cases hlt : k < s.size
    · have hno := fun B (hc : ¬ isL s[k].toNat) => arm_not (B := B) hlt hc
      have hyes := fun hc => hU.next hlt hc
      have hlen := hU.us.len
      obtain ⟨c, hc⟩ : ∃ c, c = s[k].toNat := ⟨_, rfl⟩
      have hc256 : c < 256 := by rw [hc]; exact s[k].toNat_lt
      rw [← hc] at hyes hno
      have H := Lib.hid (And.intro hyes (And.intro hno hlen))
      clear hyes hno hU hlen
      by_cases hL : isL c
      · obtain ⟨x, hx⟩ : ∃ x, x = ul c := ⟨_, rfl⟩
        have hst := H.out.1 hL
        have hx32 := ul_lt hL
        have hxx : (97 ≤ c ∧ c ≤ 122 ∧ x + 97 = c) ∨ (50 ≤ c ∧ c ≤ 55 ∧ x + 24 = c) := by
          rw [hx]
          unfold ul
          rcases hL with h | h
          · rw [if_pos h]; omega
          · rw [if_neg (by omega)]; omega
        rw [← hx] at hst hx32
        have eo := or32 h x (by omega) hx32
        have HS := Lib.hid (And.intro hst H.out.2.2)
        have Hc := Lib.hid hc
        clear hst H hx hL
        have hg : h * 32 + x < 8192 := by omega
        rcases hxx with ⟨h1, h2, h3⟩ | ⟨h1, h2, h3⟩
        · go_upto_region 13 with fail
          rw [show ((s[k].toNat : Int) - 97) = (x : Int) by have := Hc.out; omega]
          clear h1 h2 h3
          generalize h * 32 + x = g at *
          by_cases h8 : 3 ≤ n
          · obtain ⟨m, rfl⟩ : ∃ m, n = m + 3 := ⟨n - 3, by omega⟩
            have hby := US.byte (m := m) HS.out.1.2.2.2
            have em := mask_word g m hg (by omega)
            have hln := HS.out.2
            have HB := Lib.hid (And.intro hby HS.out.1)
            clear hby HS
            generalize hg2 : g % 2 ^ m = g2 at *
            go_wp2_with (at_builtin; go_loud (refine app_own ho hb (.tmp 50) (.tmp 55) [_] 141 _ _ Try.underlying141 info5 (by omega) (by decide) hb.size rfl rfl rfl (by decide) rfl rfl rfl (by simp [Value.oneCell']) ?_); intro v1 w2 ho1 hb1 hg1 hat1; have H1 := Lib.hid ho1; clear ho1 hg1 hat1)
            go_roundw
            case rel =>
              refine ⟨k + 1, D ++ [x], out ++ [g / 2 ^ m], g2, m, by omega, ?_, rfl, by go_num, by go_num, ⟨HB.out.2.1, HB.out.2.2.1, HB.out.2.2.2.1, HB.out.1.1, by omega⟩, hb1⟩
              have ex : ((g : Int) / 2 ^ m % 256) = ((g / 2 ^ m : Nat) : Int) := by
                have h1 := HB.out.1.2
                have h2 : ((g : Int) / 2 ^ m) = ((g / 2 ^ m : Nat) : Int) := by simp
                rw [h2]
                generalize g / 2 ^ m = y at h1 ⊢
                omega
              rw [List.length_append, bvs_app]
              have h3 := H1.out
              rw [ex] at h3
              exact h3
            case measure => simp [intOf]; omega
          · go_wp2_with fail
            go_roundw
            case rel => exact ⟨k + 1, D ++ [x], out, g, n + 5, by omega, ho, rfl, by go_num, by go_num, ⟨HS.out.1.1, HS.out.1.2.1, HS.out.1.2.2.1, HS.out.1.2.2.2, by omega⟩, hb⟩
            case measure => simp [intOf]; omega
        · go_upto_region 13 with fail
          rw [show ((s[k].toNat : Int) - 50 + 26) = (x : Int) by have := Hc.out; omega]
          clear h1 h2 h3
          generalize h * 32 + x = g at *
          by_cases h8 : 3 ≤ n
          · obtain ⟨m, rfl⟩ : ∃ m, n = m + 3 := ⟨n - 3, by omega⟩
            have hby := US.byte (m := m) HS.out.1.2.2.2
            have em := mask_word g m hg (by omega)
            have hln := HS.out.2
            have HB := Lib.hid (And.intro hby HS.out.1)
            clear hby HS
            generalize hg2 : g % 2 ^ m = g2 at *
            go_wp2_with (at_builtin; go_loud (refine app_own ho hb (.tmp 50) (.tmp 55) [_] 141 _ _ Try.underlying141 info5 (by omega) (by decide) hb.size rfl rfl rfl (by decide) rfl rfl rfl (by simp [Value.oneCell']) ?_); intro v1 w2 ho1 hb1 hg1 hat1; have H1 := Lib.hid ho1; clear ho1 hg1 hat1)
            go_roundw
            case rel =>
              refine ⟨k + 1, D ++ [x], out ++ [g / 2 ^ m], g2, m, by omega, ?_, rfl, by go_num, by go_num, ⟨HB.out.2.1, HB.out.2.2.1, HB.out.2.2.2.1, HB.out.1.1, by omega⟩, hb1⟩
              have ex : ((g : Int) / 2 ^ m % 256) = ((g / 2 ^ m : Nat) : Int) := by
                have h1 := HB.out.1.2
                have h2 : ((g : Int) / 2 ^ m) = ((g / 2 ^ m : Nat) : Int) := by simp
                rw [h2]
                generalize g / 2 ^ m = y at h1 ⊢
                omega
              rw [List.length_append, bvs_app]
              have h3 := H1.out
              rw [ex] at h3
              exact h3
            case measure => simp [intOf]; omega
          · go_wp2_with fail
            go_roundw
            case rel => exact ⟨k + 1, D ++ [x], out, g, n + 5, by omega, ho, rfl, by go_num, by go_num, ⟨HS.out.1.1, HS.out.1.2.1, HS.out.1.2.2.1, HS.out.1.2.2.2, by omega⟩, hb⟩
            case measure => simp [intOf]; omega
      · have HN := Lib.hid (fun B => H.out.2.1 B hL)
        have hN : c < 50 ∨ (55 < c ∧ c < 97) ∨ 122 < c := by unfold isL at hL; omega
        clear H hL
        rcases hN with h1 | ⟨h1, h2⟩ | h1
        all_goals
          go_wp2_with fail
          go_ret2
          exact ⟨_, [], 22, rfl, World.ownsRow_nil _ _ _ _, by intro d hd; simp at hd, by simp, by omega, by omega, fun B _ h => (HN.out B h).elim, hb⟩
    · obtain rfl : k = s.size := by omega
      have hdone := hU.done
      have hod := hU.us.dig
      have hlen := hU.us.len
      have H := Lib.hid (And.intro hdone (And.intro hod (And.intro ho (And.intro hb hlen))))
      clear hdone hod hlen ho hb hU
      by_cases h5 : 5 ≤ n
      · go_wp2_with fail
        go_ret2
        exact ⟨_, [], 22, rfl, World.ownsRow_nil _ _ _ _, by intro d hd; simp at hd, by simp, by omega, by omega, fun B hB hA => by have := (H.out.1 B hB hA).2.1; omega, H.out.2.2.2.1⟩
      · by_cases h0 : h = 0
        · have h0' : ((h : Int) != 0) = false := by simp [h0]
          clear h0
          go_wp2_with fail
          go_ret2
          exact ⟨_, out, 0, rfl, H.out.2.2.1, H.out.2.1, by have := H.out.2.2.2.2; omega, by omega, by omega, fun B hB hA => ⟨(H.out.1 B hB hA).1, rfl⟩, H.out.2.2.2.1⟩
        · have h0' : ((h : Int) != 0) = true := by simp; omega
          go_wp2_with fail
          go_ret2
          exact ⟨_, [], 22, rfl, World.ownsRow_nil _ _ _ _, by intro d hd; simp at hd, by simp, by omega, by omega, fun B hB hA => (h0 (H.out.1 B hB hA).2.2).elim, H.out.2.2.2.1⟩
end Go.Proofs.Ytdbccemllaehjaa.PG
