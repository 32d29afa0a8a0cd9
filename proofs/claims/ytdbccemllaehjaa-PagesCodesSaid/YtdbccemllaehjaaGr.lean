/- The reference's Unarmor, walked. -/
import Derived.Test.YtdbccemllaehjaaGl
import Derived.Test.YtdbccemllaehjaaGj
namespace Go.Proofs.Ytdbccemllaehjaa.PG
open Go.RowKit Go.Proofs.YtdbccemllaehjaaKw Go.Proofs.YtdbccemllaehjaaGa
set_option linter.unusedVariables false
set_option linter.unusedSimpArgs false
theorem info3i : (Try.prog.info? 3).map (fun i => (i.zero, i.size, i.bytes)) = some (some (.int .i64 0), 1, 8) := by kernel_rfl
theorem ul_lt_is : ∀ k, k < 32 → isL (lt k) ∧ ul (lt k) = k := by
  intro k hk
  refine ⟨isL_lt hk, ?_⟩
  unfold ul lt
  split <;> split <;> omega
set_option maxHeartbeats 1000000 in
set_option maxRecDepth 100000 in
theorem letter_calls (w : World) (c : Nat) (hc : c < 256) : Calls Try.prog 117 #[.int .u8 (c : Int)] w fun e w' => ((isL c ∧ e = .returned (.int .i64 (ul c : Int))) ∨ (¬ isL c ∧ e = .returned (.int .i64 (-1)))) ∧ w' = w := by
  go_enter Try.func117, Try.ntmps117
  go_wp2_with fail
  go_loopw [3] (fun s wr => ∃ k : Nat, k ≤ 32 ∧ s = .int .i64 (k : Int) ∧ (∀ j, j < k → ¬ lt j = c) ∧ wr = w) (fun s _ => 32 - (intOf s).toNat)
  case atStart => exact ⟨0, by omega, rfl, fun j hj => by omega, rfl⟩
  case round =>
    obtain ⟨k, hk, rfl, hall, rfl⟩ := hrel
    by_cases hlt : k < 32
    · have hx := letters_all k hlt
      have hul := ul_lt_is k hlt
      obtain ⟨x, hxd⟩ : ∃ x, x = lt k := ⟨_, rfl⟩
      rw [← hxd] at hx hul
      by_cases he : x = c
      · rw [he] at hx hul
        have H := Lib.hid hul
        clear hul hxd he hall
        go_wp2_with fail
        go_ret
        exact ⟨.inl ⟨H.out.1, by rw [H.out.2]; rfl⟩, rfl⟩
      · have hn : ∀ j, j < k + 1 → ¬ lt j = c := fun j hj => by
          by_cases hjk : j = k
          · rw [hjk, ← hxd]; exact he
          · exact hall j (by omega)
        have H := Lib.hid hn
        have hne : ((x : Int) == (c : Int)) = false := beq_eq_false_iff_ne.2 (by omega)
        clear hn hul hxd hall
        go_wp2_with fail
        go_roundw
        case rel => exact ⟨k + 1, by omega, by go_num, H.out, trivial⟩
        case measure => simp [intOf]; omega
    · obtain rfl : k = 32 := by omega
      have hi := Lib.hid (show ¬ isL c from fun h => hall (ul c) (ul_lt h) (lt_ul h))
      clear hall
      go_wp2_with fail
      go_ret
      exact ⟨.inr ⟨hi.out, rfl⟩, rfl⟩
/-- Numbers, as cells. -/
def nvs (l : List Nat) : List Value := l.map fun n : Nat => .int .i64 (n : Int)
theorem nvs_len (l : List Nat) : (nvs l).length = l.length := by simp [nvs]
theorem nvs_snoc (l : List Nat) (x : Nat) : nvs (l ++ [x]) = nvs l ++ [.int .i64 (x : Int)] := by simp [nvs]
theorem rd_num {w : World} {A : Option Addr} {l : List Nat} (h : Rd w A (nvs l)) {k : Nat} (hk : k < l.length) : ∃ b off, A = some ⟨b, off, none⟩ ∧ w.cell? ⟨b, off + k, none⟩ = some (.int .i64 (l[k] : Nat)) := by
  obtain ⟨b, off, e, hc⟩ := h.at (j := k) (by rw [nvs_len]; exact hk)
  simp only [nvs, List.getElem_map] at hc
  exact ⟨b, off, e, hc⟩
/-- The bits of the letters that were read. -/
structure BR (s : ByteArray) (k : Nat) (D bs : List Nat) : Prop where
  dig : Dig 32 D
  eq : D.map lt = (nums s).take k
  len : D.length = k
  bd : Dig 2 bs
  bl : bs.length = 5 * k
  val : YtdbccemllaehjaaGa.val 2 bs = YtdbccemllaehjaaGa.val 32 D
theorem BR.start (s : ByteArray) : BR s 0 [] [] := ⟨by intro d hd; simp at hd, by simp, rfl, by intro d hd; simp at hd, rfl, rfl⟩
theorem BR.next {s : ByteArray} {k : Nat} {D bs cs : List Nat} (h : BR s k D bs) (hk : k < s.size) (hc : isL s[k].toNat) (hd : Dig 2 cs) (hl : cs.length = 5) (hv : YtdbccemllaehjaaGa.val 2 cs = ul s[k].toNat) : BR s (k + 1) (D ++ [ul s[k].toNat]) (bs ++ cs) := by
  refine ⟨h.dig.snoc (ul_lt hc), ?_, by simp [h.len], h.bd.append hd, by rw [List.length_append, h.bl, hl]; omega, ?_⟩
  · rw [List.map_append, h.eq, List.take_succ_eq_append_getElem (by rw [nums_len]; exact hk), nums_at s hk]
    simp [lt_ul hc]
  · have hv2 := h.val
    rw [val_snoc, val_append, hl, hv2, hv]
/-- Five bits of a letter. -/
structure B5 (x j : Nat) (cs : List Nat) : Prop where
  dig : Dig 2 cs
  len : cs.length = j
  val : YtdbccemllaehjaaGa.val 2 cs = x / 2 ^ (5 - j)
theorem B5.start {x : Nat} (hx : x < 32) : B5 x 0 [] := ⟨by intro d hd; simp at hd, rfl, by rw [val_nil]; exact (Nat.div_eq_of_lt hx).symm⟩
theorem B5.next {x j : Nat} {cs : List Nat} (h : B5 x j cs) (hj : j < 5) : B5 x (j + 1) (cs ++ [x / 2 ^ (4 - j) % 2]) := by
  refine ⟨h.dig.snoc (Nat.mod_lt _ (by omega)), by simp [h.len], ?_⟩
  have hv := h.val
  have hs := half_step x (4 - j)
  rw [val_snoc, hv, show 5 - (j + 1) = 4 - j by omega]
  rw [show 4 - j + 1 = 5 - j by omega] at hs
  omega
theorem B5.done {x : Nat} {cs : List Nat} (h : B5 x 5 cs) : YtdbccemllaehjaaGa.val 2 cs = x := by
  have hv := h.val
  simpa using hv
/-- The bytes of the bits. -/
structure BB (bs : List Nat) (j : Nat) (out : List Nat) (i x : Nat) : Prop where
  dig : Dig 256 out
  len : out.length = j
  le : 8 * j + i ≤ bs.length
  lt : x < 2 ^ i
  val : YtdbccemllaehjaaGa.val 256 out * 2 ^ i + x = YtdbccemllaehjaaGa.val 2 (bs.take (8 * j + i))
theorem BB.start (bs : List Nat) : BB bs 0 [] 0 0 := ⟨by intro d hd; simp at hd, rfl, by omega, by omega, by simp [val_nil]⟩
theorem BB.bit {bs : List Nat} {j : Nat} {out : List Nat} {i x : Nat} (h : BB bs j out i x) (hd : Dig 2 bs) (hi : 8 * j + i < bs.length) : BB bs j out (i + 1) (2 * x + bs[8 * j + i]) := by
  have hb : bs[8 * j + i] < 2 := hd _ (List.getElem_mem hi)
  have hlt := h.lt
  have hv := h.val
  refine ⟨h.dig, h.len, by omega, by rw [Nat.pow_succ]; omega, ?_⟩
  rw [show 8 * j + (i + 1) = 8 * j + i + 1 by omega, List.take_succ_eq_append_getElem hi, val_snoc, ← hv, Nat.pow_succ, ← Nat.mul_assoc]
  omega
theorem BB.byte {bs : List Nat} {j : Nat} {out : List Nat} {x : Nat} (h : BB bs j out 8 x) : BB bs (j + 1) (out ++ [x]) 0 0 ∧ x < 256 := by
  have hlt := h.lt
  have hv := h.val
  have hx : x < 256 := hlt
  refine ⟨⟨h.dig.snoc hx, by simp [h.len], by have := h.le; omega, by omega, ?_⟩, hx⟩
  rw [val_snoc, show 8 * (j + 1) + 0 = 8 * j + 8 by omega, ← hv]
  simp
theorem BB.done {s : ByteArray} {D bs : List Nat} {j : Nat} {out : List Nat} (h : BB bs j out 0 0) (hR : BR s s.size D bs) (hj : bs.length < 8 * j + 8) : ∀ B, Dig 256 B → IsArm B s → out = B := by
  intro B hB hA
  obtain ⟨E, hE, hn⟩ := arm_chars hA
  have he := hR.eq
  rw [List.take_of_length_le (by rw [nums_len]; omega), hn] at he
  have : D = E := map_lt_inj hR.dig hE.dig he
  subst this
  have hl := hE.len
  have hb := hR.bl
  have hdl := hR.len
  have hle := h.le
  have hol := h.len
  have hjm : j = B.length := by omega
  have hv := h.val
  have hv2 := hR.val
  have hv3 := hE.val
  have ht := val_take hR.bd (by omega) (8 * j)
  simp only [Nat.pow_zero, Nat.mul_one, Nat.add_zero] at hv
  rw [← hv, hv2, hv3, show bs.length - 8 * j = 5 * D.length - 8 * B.length by omega, Nat.mul_div_cancel _ (Nat.pow_pos (by omega))] at ht
  exact val_inj _ out B rfl (by omega) h.dig hB ht.symm
end Go.Proofs.Ytdbccemllaehjaa.PG
