/- octets.Armor, walked: bytes as letters. -/
import Derived.Test.YtdbccemllaehjaaGc
namespace Go.Proofs.Ytdbccemllaehjaa.PG
open Go.RowKit Go.Proofs.YtdbccemllaehjaaKw Go.Proofs.YtdbccemllaehjaaGa
set_option linter.unusedVariables false
set_option linter.unusedSimpArgs false
def lvs (D : List Nat) : List Value := bvs (D.map lt)
theorem lvs_snoc (D : List Nat) (d : Nat) : lvs (D ++ [d]) = lvs D ++ [.int .u8 ((lt d : Nat) : Int)] := by simp [lvs, bvs]
theorem rd_byte {w : World} {A : Option Addr} {l : List Nat} (h : Rd w A (bvs l)) {k : Nat} (hk : k < l.length) : ∃ b off, A = some ⟨b, off, none⟩ ∧ w.cell? ⟨b, off + k, none⟩ = some (.int .u8 (l[k] : Nat)) := by
  obtain ⟨b, off, e, hc⟩ := h.at (j := k) (by rw [bvs_len]; exact hk)
  simp only [bvs, List.getElem_map] at hc
  exact ⟨b, off, e, hc⟩
/-- Bytes, taken for a text. -/
theorem conv_text {w : World} {A : Option Addr} {m c : Nat} {l : List Nat} (h : Sl w A m c (bvs l)) : (convert 141 9 (.slice A m c)).run Try.prog w = .ok (.string (strOf l)) w := by
  obtain ⟨hm, ⟨rfl, rfl, rfl⟩ | ⟨b, off, rfl, _, hc⟩⟩ := h
  · have : l = [] := List.eq_nil_of_length_eq_zero (by rw [bvs_len] at hm; exact hm.symm)
    subst this
    rw [run_convert_bytes_string w 141 9 5 none 0 0 Try.underlying141 Try.underlying5 Try.underlying9]
    rfl
  · rw [bvs_len] at hm
    refine run_convert_bytes_arg w 141 5 Try.underlying141 Try.underlying5 b off m c (l.map fun n : Nat => (n : Int)) (by rw [List.length_map, hm]) (fun i hi => ?_) 9 Try.underlying9
    have hi' : i < l.length := by omega
    rw [hc i _ (bvs_at l hi')]
    simp [List.getD, hi']
theorem letters_all : ∀ i (hi : i < 32), ((({ data := #[97, 98, 99, 100, 101, 102, 103, 104, 105, 106, 107, 108, 109, 110, 111, 112, 113, 114, 115, 116, 117, 118, 119, 120, 121, 122, 50, 51, 52, 53, 54, 55] } : ByteArray)[i]'hi).toNat = lt i) := by decide +kernel
theorem letters_at {i d : Nat} (hi : i < 32) (e : i = d) : ((({ data := #[97, 98, 99, 100, 101, 102, 103, 104, 105, 106, 107, 108, 109, 110, 111, 112, 113, 114, 115, 116, 117, 118, 119, 120, 121, 122, 50, 51, 52, 53, 54, 55] } : ByteArray)[i]'hi).toNat : Int) = ((lt d : Nat) : Int) := by
  subst e
  exact congrArg _ (letters_all i hi)
theorem wrap64n (a : Nat) (h : a < 18446744073709551616) : IntKind.u64.wrap (a : Int) = (a : Int) := wraps_u64 _ (by omega) (by omega)
theorem and31 (a : Nat) (h : a < 18446744073709551616) : bits .and .u64 (a : Int) 31 = ((a % 32 : Nat) : Int) := by
  have := bits_mask .u64 64 (by decide) wraps_u64 5 (by decide) (a : Int) (by omega) (by omega)
  simpa using this
theorem or256 (h c : Nat) (hh : h < 72057594037927936) (hc : c < 256) : bits .or .u64 ((h : Int) * 256) (c : Int) = ((h * 256 + c : Nat) : Int) := by
  have := bits_join .u64 64 (by decide) wraps_u64 8 ((h : Int) * 256) (c : Int) (by omega) (by simp) (by omega) (by omega) (by omega) (by omega)
  rw [this]; simp
theorem shift_word (g m : Nat) (hg : g < 8192) : bits .and .u64 ((g : Int) / 2 ^ m) 31 = ((g / 2 ^ m % 32 : Nat) : Int) := by
  have e : ((g : Int) / 2 ^ m) = ((g / 2 ^ m : Nat) : Int) := by simp
  have := Nat.div_le_self g (2 ^ m)
  rw [e, and31 _ (by omega)]
theorem mask_word (g n : Nat) (hg : g < 8192) (hn : n < 16) : bits .and .u64 (g : Int) (IntKind.u64.wrap (IntKind.u64.wrap (2 ^ n) - 1)) = ((g % 2 ^ n : Nat) : Int) := by
  have h1 : 2 ^ n ≤ 2 ^ 15 := Nat.pow_le_pow_right (by omega) (by omega)
  have h0 : 0 < 2 ^ n := Nat.pow_pos (by omega)
  have e : ((2 : Int) ^ n) = ((2 ^ n : Nat) : Int) := by simp
  have e1 : IntKind.u64.wrap ((2 : Int) ^ n) = 2 ^ n := by rw [e, wrap64n _ (by omega)]
  have e2 : IntKind.u64.wrap ((2 : Int) ^ n - 1) = 2 ^ n - 1 := by
    have : ((2 : Int) ^ n - 1) = ((2 ^ n - 1 : Nat) : Int) := by rw [e]; omega
    rw [this, wrap64n _ (by omega)]
  have := bits_mask .u64 64 (by decide) wraps_u64 n (by omega) (g : Int) (by omega) (by omega)
  rw [e1, e2, this]
  simp
/-- Of the last letter. -/
theorem last_word (h n : Nat) (hh : h < 2 ^ n) (hn : n < 5) : bits .and .u64 (IntKind.u64.wrap ((h : Int) * 2 ^ (5 - n))) 31 = ((h * 2 ^ (5 - n) % 32 : Nat) : Int) := by
  have h1 : 2 ^ n ≤ 2 ^ 4 := Nat.pow_le_pow_right (by omega) (by omega)
  have h2 : 2 ^ (5 - n) ≤ 2 ^ 5 := Nat.pow_le_pow_right (by omega) (by omega)
  have h3 : h * 2 ^ (5 - n) ≤ 2 ^ 4 * 2 ^ 5 := Nat.mul_le_mul (by omega) h2
  have e : ((h : Int) * 2 ^ (5 - n)) = ((h * 2 ^ (5 - n) : Nat) : Int) := by simp
  rw [e, wrap64n _ (by omega), and31 _ (by omega)]
set_option maxHeartbeats 4000000 in
set_option maxRecDepth 100000 in
theorem armor_calls (w : World) (B : List Nat) (A : Option Addr) (c : Nat) (hr : Rd w A (bvs B)) (hd : Dig 256 B) (hl : B.length ≤ 1000) :
    Calls Try.prog 91 #[.slice A B.length c] w fun e w' => ∃ s, IsArm B s ∧ e = .returned (.string s) ∧ Below w.heap.size w w' := by
  obtain ⟨i5, hi5, hz5⟩ := Option.map_eq_some_iff.1 info5
  simp only [Prod.mk.injEq] at hz5
  go_enter Try.func91, Try.ntmps91
  go_wp2_with (at_make; go_loud (refine wpList_make_own _ rfl (.const (.int .i64 0)) (.tmp 12) 141 rfl w.heap.size 5 i5 (.int .u8 0) 1 Try.underlying141 hi5 hz5.1 hz5.2.1 .i64 .i64 _ ((8 * B.length + 4) / 5) rfl rfl (by omega) (by rw [hz5.2.2]; omega) (by unfold maxLen; omega) (by omega) ?_); intro w1 ho1 hg1)
  have H1 := Lib.hid (And.intro ho1 (And.intro hr (show Below w.heap.size w w1 from ⟨hg1.os, hg1.tape, hg1.output, hg1.size, fun k hk => hg1.block k hk (by simp)⟩)))
  clear ho1 hg1 hr hz5 hi5 i5
  go_wp2_with fail
  go_loopw [3, 4, 5, 16] (fun v s4 s5 s16 wr => ∃ (k : Nat) (D : List Nat) (h n : Nat), k ≤ B.length ∧ wr.ownsRow w.heap.size 5 1 v D.length (lvs D) ∧ s4 = .int .u64 (h : Int) ∧ s5 = .int .i64 (n : Int) ∧ s16 = .int .i64 (k : Int) ∧ AS (val 256 (B.take k)) (8 * k) D h n ∧ h < 2 ^ n ∧ n < 5 ∧ Below w.heap.size w wr) (fun _ _ _ i _ => B.length - (intOf i).toNat)
  case atStart => exact ⟨0, [], 0, 0, Nat.zero_le _, H1.out.1, rfl, rfl, rfl, AS.start, by omega, by omega, H1.out.2.2⟩
  case round =>
    obtain ⟨k, D, h, n, hk, ho, rfl, rfl, rfl, hA, hh, hn, hb⟩ := hrel
    by_cases hlt : k < B.length
    · obtain ⟨b, off, rfl, hc⟩ := rd_byte (H1.out.2.1.keep hb) hlt
      have hdk : B[k] < 256 := hd _ (List.getElem_mem hlt)
      have H := Lib.hid (And.intro hA (And.intro hh (And.intro ho hb)))
      have h16 : h < 16 := by have : 2 ^ n ≤ 2 ^ 4 := Nat.pow_le_pow_right (by omega) (by omega)
                              omega
      have e1 : IntKind.u64.wrap ((h : Int) * 256) = (h : Int) * 256 := by
        have := wrap64n (h * 256) (by omega)
        simpa using this
      have e2 := or256 h B[k] (by omega) hdk
      have hst := hA.byte hh hdk
      have ek : val 256 (B.take (k + 1)) = val 256 (B.take k) * 256 + B[k] := by rw [List.take_succ_eq_append_getElem hlt, val_snoc]
      rw [← ek] at hst
      have H := Lib.hid (And.intro hst (And.intro ho hb))
      clear hst hA hh ho hb ek
      have hg : h * 256 + B[k] < 8192 := by omega
      generalize h * 256 + B[k] = g at *
      go_wp2_with fail
      clear e1 e2 h16 hc hdk
      go_loopw [3, 5] (fun v s5 wr => ∃ (D : List Nat) (n : Nat), wr.ownsRow w.heap.size 5 1 v D.length (lvs D) ∧ s5 = .int .i64 (n : Int) ∧ AS (val 256 (B.take (k + 1))) (8 * k + 8) D g n ∧ n < 13 ∧ Below w.heap.size w wr) (fun _ i _ => (intOf i).toNat)
      case atStart => exact ⟨D, n + 8, H.out.2.1, by go_num, H.out.1.1, by omega, H.out.2.2⟩
      case round =>
        clear H
        obtain ⟨D, n, ho, rfl, hA, hn, hb⟩ := hrel
        by_cases h5 : 5 ≤ n
        · obtain ⟨m, rfl⟩ : ∃ m, n = m + 5 := ⟨n - 5, by omega⟩
          have ea := shift_word g m hg
          have hd32 : g / 2 ^ m % 32 < 32 := Nat.mod_lt _ (by omega)
          have hst := hA.letter
          have hln := hA.len
          have HA := Lib.hid hst
          clear hA hst
          generalize g / 2 ^ m % 32 = d at *
          go_wp2_with (at_builtin; go_loud (refine app_own ho hb (.tmp 31) (.tmp 38) [_] 141 _ _ Try.underlying141 info5 (by omega) (by decide) hb.size rfl rfl rfl (by decide) rfl rfl rfl (by simp [Value.oneCell']) ?_); intro v1 w2 ho1 hb1 hg1 hat1; rw [letters_at _ rfl] at ho1; have ho2 : w2.ownsRow w.heap.size 5 1 v1 (D.length + 1) (lvs (D ++ [d])) := (by rw [lvs_snoc]; exact ho1); clear ho1 hg1 hat1)
          go_roundw
          case rel => exact ⟨D ++ [d], m, by rw [List.length_append]; exact ho2, by go_num, HA.out, by omega, hb1⟩
          case measure => simp [intOf]; omega
        · have hA5 := hA.mask
          have hm : g % 2 ^ n < 2 ^ n := Nat.mod_lt _ (Nat.pow_pos (by omega))
          have HA := Lib.hid (And.intro hA5 (And.intro hm ho))
          clear hA hA5 hm ho
          have em := mask_word g n hg (by omega)
          generalize g % 2 ^ n = g2 at *
          go_wp2_with fail
          go_roundw
          case rel => exact ⟨k + 1, D, g2, n, by omega, HA.out.2.2, rfl, rfl, by go_num, HA.out.1, HA.out.2.1, by omega, hb⟩
          case measure => simp [intOf]; omega
    · obtain rfl : B.length = k := by omega
      rw [List.take_length] at hA
      by_cases h0 : n = 0
      · subst h0
        obtain ⟨A0, c0, rfl, hsl⟩ := own_sl ho
        have kc := conv_text hsl
        have HA := Lib.hid (And.intro hA (And.intro ho hb))
        clear hsl hA ho hb
        go_wp2_with fail
        go_ret
        exact ⟨_, ⟨D, HA.out.1.done, rfl⟩, rfl, HA.out.2.2⟩
      · have ew := last_word h n hh hn
        have hd32 : h * 2 ^ (5 - n) % 32 < 32 := Nat.mod_lt _ (by omega)
        have hlast := hA.last hh (by omega) hn
        have hln := hA.len
        have HA := Lib.hid hlast
        clear hA hh hlast
        generalize h * 2 ^ (5 - n) % 32 = d at *
        go_wp2_with (at_builtin; go_loud (refine app_own ho hb (.tmp 48) (.tmp 55) [_] 141 _ _ Try.underlying141 info5 (by omega) (by decide) hb.size rfl rfl rfl (by decide) rfl rfl rfl (by simp [Value.oneCell']) ?_); intro v1 w2 ho1 hb1 hg1 hat1; rw [letters_at _ rfl] at ho1; have ho2 : w2.ownsRow w.heap.size 5 1 v1 (D.length + 1) (lvs (D ++ [d])) := (by rw [lvs_snoc]; exact ho1); obtain ⟨A1, c1, rfl, hsl⟩ := own_sl ho2; have kc := conv_text hsl; clear hsl ho1 hg1 hat1 ho2)
        go_ret
        exact ⟨strOf ((D ++ [d]).map lt), ⟨_, HA.out, rfl⟩, by simp, hb1⟩
end Go.Proofs.Ytdbccemllaehjaa.PG
