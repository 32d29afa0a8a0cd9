/- The reference's Cache: Get and Put. -/
import Derived.Test.YtdbccemllaehjaaRDb
namespace Go.Proofs.Ytdbccemllaehjaa.RD2
open Go.RowKit Go.Proofs.YtdbccemllaehjaaKw
open RK (ivs ivs_len rd_int rd_intc ivs_snoc info3)
set_option linter.unusedVariables false
set_option linter.unusedSimpArgs false

def wo (l : List (Int × ByteArray)) (key : Int) : List (Int × ByteArray) := l.filter fun p => !decide (p.1 = key)
set_option maxHeartbeats 2000000 in
set_option maxRecDepth 100000 in
theorem get_none (qc : Nat) (most : Int) (A : Option Addr) (c : Nat) (l : List (Int × ByteArray)) (key : Int) (w : World) (h : RefR w qc most A c l) (hl : l.length ≤ 5000) (hn : ∀ p ∈ l, p.1 ≠ key) :
    Calls Try.prog 28 #[.pointer (some ⟨qc, 0, none⟩), .int .i64 key] w fun e w' => e = .returned (.tuple #[.string ⟨#[]⟩, .bool false]) ∧ w = w' := by
  have hlst := h.lst
  have hrd := h.rd
  clear h
  go_enter Try.func28, Try.ntmps28
  go_wp2
  go_loop [6] (fun i => ∃ k : Nat, k ≤ l.length ∧ i = .int .i64 k) (fun i => l.length - (intOf i).toNat)
  case atStart => exact ⟨0, Nat.zero_le _, rfl⟩
  case round =>
    obtain ⟨k, hk, rfl⟩ := hrel
    by_cases hlt : k < l.length
    · obtain ⟨b, off, rfl, hcell, hcell2⟩ := rd_item hrd hlt
      have hne : l[k].1 ≠ key := hn _ (List.getElem_mem hlt)
      go_wp2_with fail
      go_roundw
      case rel => exact ⟨k + 1, by omega, by go_num⟩
      case measure => simp [intOf]; omega
    · have hk' : decide (k < l.length) = false := by simpa using hlt
      go_wp2_with fail
      go_ret2
      exact ⟨rfl, rfl⟩
set_option maxHeartbeats 2000000 in
set_option maxRecDepth 100000 in
theorem get_found (qc : Nat) (most : Int) (A : Option Addr) (c : Nat) (l : List (Int × ByteArray)) (key : Int) (w : World) (h : RefR w qc most A c l) (hl : l.length ≤ 5000) (i : Nat) (hi : i < l.length) (hik : l[i].1 = key) (hn : ∀ j, (hj : j < i) → l[j].1 ≠ key) :
    Calls Try.prog 28 #[.pointer (some ⟨qc, 0, none⟩), .int .i64 key] w fun e w' => e = .returned (.tuple #[.string l[i].2, .bool true]) ∧ RefPost w qc most ((key, l[i].2) :: wo l key) w' := by
  have hlst := h.lst
  have hrd := h.rd
  have H := Lib.hid h
  clear h
  go_enter Try.func28, Try.ntmps28
  go_wp2
  go_loop [6] (fun i' => ∃ k : Nat, k ≤ i ∧ i' = .int .i64 k) (fun i' => l.length - (intOf i').toNat)
  case atStart => exact ⟨0, Nat.zero_le _, rfl⟩
  case round =>
    obtain ⟨k, hk, rfl⟩ := hrel
    have hlt : k < l.length := by omega
    obtain ⟨b, off, rfl, hcell, hcell2⟩ := rd_item hrd hlt
    by_cases hki : k < i
    · have hne : l[k].1 ≠ key := hn _ hki
      go_wp2_with fail
      go_roundw
      case rel => exact ⟨k + 1, by omega, by go_num⟩
      case measure => simp [intOf]; omega
    · obtain rfl : k = i := by omega
      clear hn
      go_wp2_with fail
      have hbW := below_alloc (Below.refl w.heap.size w) (.cells #[.int .i64 key, .string l[k].2] 110)
      have hRW := H.out.other hbW
      have hqc := World.block_lt_of_cell? w _ H.out.most0
      have hnew := heap_alloc_new w (.cells #[.int .i64 key, .string l[k].2] 110)
      have hA0 : (w.alloc (.cells #[.int .i64 key, .string l[k].2] 110)).cell? ⟨w.heap.size, 0, none⟩ = some (.int .i64 key) := by simp only [World.cell?, hnew]; rfl
      have hA1 : (w.alloc (.cells #[.int .i64 key, .string l[k].2] 110)).cell? ⟨w.heap.size, 1, none⟩ = some (.string l[k].2) := by simp only [World.cell?, hnew]; rfl
      have hlW : w.heap.size < (w.alloc (.cells #[.int .i64 key, .string l[k].2] 110)).heap.size := by simp
      clear hnew hcell hcell2 hlst hrd
      generalize w.alloc (.cells #[.int .i64 key, .string l[k].2] 110) = W at *
      have hlst := hRW.lst
      have hqW : qc < W.heap.size := by simp at hqc; omega
      have HW := Lib.hid (And.intro hbW hRW)
      clear hbW hRW
      go_region_with (first
        | (go_at_call 67; refine (without_calls (some ⟨b, off, none⟩) c l key W.drew (show Rd W.drew (some ⟨b, off, none⟩) (itv l) from HW.out.2.rd) hl).mono ?_; rintro e w4 ⟨B, d, rfl, hwo, hwb⟩; have hA04 := (hwb.cell (p := ⟨w.heap.size, 0, none⟩) hlW).trans hA0; have hA14 := (hwb.cell (p := ⟨w.heap.size, 1, none⟩) hlW).trans hA1; have hl4 := (hwb.cell (p := ⟨qc, 1, none⟩) hqW).trans hlst)
        | (go_at_call 66; refine (first_calls B d _ key l[k].2 w4 (own_rd hwo) (Nat.le_trans (List.length_filter_le _ _) hl)).mono ?_; rintro e w5 ⟨B2, d2, rfl, hfo, hfb⟩; have hA05 := (hfb.cell (p := ⟨w.heap.size, 0, none⟩) (World.block_lt_of_cell? w4 _ hA04)).trans hA04; have hA15 := (hfb.cell (p := ⟨w.heap.size, 1, none⟩) (World.block_lt_of_cell? w4 _ hA14)).trans hA14; have hl5 := (hfb.cell (p := ⟨qc, 1, none⟩) (World.block_lt_of_cell? w4 _ hl4)).trans hl4; have hR5 := (HW.out.2.other (show Below W.heap.size W w4 from ⟨hwb.os, hwb.tape, hwb.output, hwb.size, hwb.block⟩)).other hfb; have hfz5 := hR5.fz))
      all_goals
        have hb5 : Below w.heap.size w w5 := below_then (below_then HW.out.1 HW.out.1.size (show Below W.heap.size W w4 from ⟨hwb.os, hwb.tape, hwb.output, hwb.size, hwb.block⟩)) (Nat.le_trans HW.out.1.size hwb.size) hfb
        have hpost := hR5.set hb5 (by simpa using hqc) (own_mono hfo (Nat.le_trans HW.out.1.size hwb.size))
        have hA1f : (w5.setCell ⟨qc, 1, none⟩ (.slice B2 ((List.filter (fun p => !decide (p.1 = key)) l).length + 1) d2)).cell? ⟨w.heap.size, 1, none⟩ = some (.string l[k].2) := (World.cell?_setCell_other w5 _ _ _ (fun e => by have := congrArg Addr.block e; simp at this hqc; omega)).trans hA15
        have HP := Lib.hid hpost
        clear hpost hR5 hfo hwo hfb hwb
        go_wp2_with fail
        go_ret2
        exact ⟨rfl, HP.out⟩
end Go.Proofs.Ytdbccemllaehjaa.RD2
