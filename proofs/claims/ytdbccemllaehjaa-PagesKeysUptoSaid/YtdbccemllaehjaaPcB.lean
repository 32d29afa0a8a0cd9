/- The last walks for PagesCuts: KeptTexts, the reference's Cut, the law. -/
import Derived.Test.YtdbccemllaehjaaPcA
import Derived.IntWalk
import Derived.Test.YtdbccemllaehjaaKwRd
namespace Go.Proofs.Ytdbccemllaehjaa.PC
open Go.RowKit Go.Proofs.YtdbccemllaehjaaKw
set_option linter.unusedVariables false
set_option linter.unusedSimpArgs false

theorem all_lo (ss : List ByteArray) (k : Nat) (h : k < ss.length) (h' : k < (ss ++ marks 24).length) : (ss ++ marks 24)[k] = ss[k] := by rw [List.getElem_append_left h]
theorem all_hi (ss : List ByteArray) (k : Nat) (h : ss.length ≤ k) (h' : k < (ss ++ marks 24).length) : (ss ++ marks 24)[k] = mkT ((k : Int) - ss.length) := by
  rw [List.getElem_append_right h]
  simp only [marks, List.getElem_map, List.getElem_range]
  congr 1
  omega
set_option maxHeartbeats 1000000 in
set_option maxRecDepth 100000 in
theorem kept_calls (A B : Option Addr) (c d : Nat) (ss : List ByteArray) (w : World) (hr : Rd w A (strs (ss ++ marks 24))) (hr2 : Rd w B (strs ss)) (hc : ss.length + 24 ≤ c) (hcm : c ≤ 9223372036854775807) (hl : ss.length ≤ 140737488355328) :
    Calls Try.prog 14 #[.slice A ss.length c, .slice B ss.length d] w fun e w' => e = .returned (.bool true) ∧ Below w.heap.size w w' := by
  have hlen : (ss ++ marks 24).length = ss.length + 24 := by rw [List.length_append, marks_len]
  obtain ⟨b, off, rfl, hx0⟩ := rd_str hr (j := 0) (by omega)
  clear hx0
  have HL := Lib.hid hlen
  clear hlen
  go_enter Try.func14, Try.ntmps14
  go_wp2
  go_loopw [6] (fun i wr => ∃ k : Nat, k ≤ ss.length + 24 ∧ i = .int .i64 k ∧ Below w.heap.size w wr) (fun i _ => ss.length + 24 - (intOf i).toNat)
  case atStart => exact ⟨0, Nat.zero_le _, rfl, Below.refl _ _⟩
  case round =>
    obtain ⟨k, hk, rfl, hb⟩ := hrel
    by_cases hlt : k < ss.length + 24
    · obtain ⟨b', off', e1, hcell⟩ := rd_str (hr.keep hb) (j := k) (by rw [HL.out]; exact hlt)
      simp only [Option.some.injEq, Addr.mk.injEq, and_true] at e1
      obtain ⟨rfl, rfl⟩ := e1
      by_cases h1 : k < ss.length
      · obtain ⟨b2, off2, rfl, hcell2⟩ := rd_str (hr2.keep hb) h1
        rw [all_lo ss k h1] at hcell
        have hd1 : decide (k < ss.length) = true := by simp; omega
        have hd2 : decide (ss.length ≤ k) = false := by simp; omega
        go_wp2_with fail
        go_quiet (fail)
        go_wp2
        go_roundw
        case rel => exact ⟨k + 1, by omega, by go_num, below_drewN hb _⟩
        case measure => simp [intOf]; omega
      · have hd1 : decide (k < ss.length) = false := by simp; omega
        have hd2 : ss.length ≤ k := by omega
        rw [all_hi ss k (by omega)] at hcell
        have hw : IntKind.i64.wrap ((k : Int) - ss.length) = (k : Int) - ss.length := IntWalk.i64_in _ (by omega)
        go_wp2_with fail
        have hcb : b < wr.heap.size := World.block_lt_of_cell? wr _ hcell
        have hcS : ∀ w', Below wr.heap.size wr w' → w'.cell? ⟨b, off + k, none⟩ = some (.string (mkT ((k : Int) - ss.length))) := fun w' h => (h.cell (p := ⟨b, off + k, none⟩) hcb).trans hcell
        go_wp2_with fail
        refine RD.region (S := fun w' => Below wr.heap.size wr w') (by kernel_rfl) (by kernel_rfl) (Below.refl _ _).drew ?_
        repeat (first
          | (refine RD.walk_skip rfl ?_; simp only [Act.put, List.setIfInBounds_toArray, List.set_cons_succ, List.set_cons_zero])
          | (refine RD.walk_op (v := ?_) rfl ?_ ?_; rotate_left; (intro w hS; go_simp; done); simp only [Act.put, List.setIfInBounds_toArray, List.set_cons_succ, List.set_cons_zero])
          | (refine RD.walk_op (v := ?_) rfl ?_ ?_; rotate_left; (intro w hS; go_simp; rfl); simp only [Act.put, List.setIfInBounds_toArray, List.set_cons_succ, List.set_cons_zero])
          | (refine RD.rd_at_call (v := .string (mkT ((k : Int) - ss.length))) (f := 51) (args := #[.int .i64 1, .int .i64 ((k : Int) - ss.length)]) rfl (fun w hS => by go_simp) (fun w hS => (mark_calls _ (by omega) (by omega) _).mono (by rintro e w1 ⟨rfl, hb1⟩; exact ⟨rfl, below_then hS hS.size hb1⟩)) ?_; simp only [Act.put, List.setIfInBounds_toArray, List.set_cons_succ, List.set_cons_zero]))
        refine RD.walk_nil ?_
        intro w2 hb2
        have hb3 := below_then hb hb.size hb2
        clear hcS
        go_wp2
        go_roundw
        case rel => exact ⟨k + 1, by omega, by go_num, hb3⟩
        case measure => simp [intOf]; omega
    · obtain rfl : k = ss.length + 24 := by omega
      go_wp2
      go_ret
      exact ⟨rfl, hb⟩

set_option maxHeartbeats 1000000 in
set_option maxRecDepth 100000 in
theorem cut_callsr (A : Option Addr) (c : Nat) (ss : List ByteArray) (after : ByteArray) (size : Int) (w : World) (hr : Rd w A (strs ss)) (hl : ss.length * 16 ≤ 140737488351232) (hs : ∀ s ∈ ss, s.size ≤ maxLen) (ha : after.size ≤ maxLen) :
    Calls Try.prog 12 #[.slice A ss.length c, .string after, .int .i64 size] w (CutPost w (cutS size [] ss after)) := by
  go_enter Try.func12, Try.ntmps12
  go_wp2
  go_loopw [8, 9] (fun v i wr => ∃ (k : Nat) (out : List ByteArray), k ≤ ss.length ∧ out.length ≤ k ∧ i = .int .i64 k ∧ wr.ownsRow w.heap.size 9 1 v out.length (strs out) ∧ Below w.heap.size w wr ∧ Hid (cutS size [] ss after = cutS size out (ss.drop k) after)) (fun _ i _ => ss.length - (intOf i).toNat)
  case atStart => exact ⟨0, [], Nat.zero_le _, Nat.le_refl _, rfl, World.ownsRow_nil _ _ _ _, Below.refl _ _, rfl⟩
  case round =>
    obtain ⟨k, out, hk, hk2, rfl, hown, hb, H⟩ := hrel
    by_cases hlt : k < ss.length
    · obtain ⟨b, off, rfl, hcell⟩ := rd_str (hr.keep hb) hlt
      have hsk : ss[k].size ≤ maxLen := hs _ (List.getElem_mem hlt)
      rw [drop_cons _ _ hlt, cutS] at H
      have hle0 := texts_leB ss[k] after
      go_wp2_with fail
      refine (texts_calls _ _ hsk ha _).mono ?_
      rintro e w1 ⟨rfl, hb1⟩
      have hown1 := own_keep hown hb1
      have hb2 := below_then hb hb.size hb1
      have hcell1 : w1.cell? ⟨b, off + k, none⟩ = some (.string ss[k]) := (hb1.cell (p := ⟨b, off + k, none⟩) (World.block_lt_of_cell? wr _ hcell)).trans hcell
      clear hcell hb1 hown hb hsk hs ha
      generalize textsS ss[k].data.toList after.data.toList = tv at *
      by_cases hle : leB ss[k] after = true
      · rw [if_pos hle] at H
        have htv : tv ≤ 0 := by rw [hle] at hle0; simpa using hle0
        clear hle0 hle
        go_wp2
        go_roundw
        case rel => exact ⟨k + 1, out, by omega, by omega, by go_num, hown1, hb2, H⟩
        case measure => simp [intOf]; omega
      · rw [if_neg hle] at H
        have htv : ¬ tv ≤ 0 := by
          intro h
          rw [decide_eq_true h] at hle0
          exact hle hle0.symm
        clear hle0 hle
        obtain ⟨A', c', rfl, hc1, hc2⟩ := own_form hown1
        by_cases hsz : (out.length : Int) ≥ size
        · rw [if_pos hsz] at H
          go_wp2
          go_ret2
          exact cut_post H hown1 hb2
        · rw [if_neg hsz] at H
          go_wp2_with (at_builtin; go_loud (refine app_own hown1 hb2 (.tmp 28) (.tmp 33) [.string ss[k]] 22 _ _ Try.underlying22 info9 (by omega) (by decide) hb2.size rfl rfl rfl (by decide) rfl rfl rfl (by simp [Value.oneCell']) ?_); intro v1 w2 ho1 hb3 _ _)
          go_roundw
          case rel => exact ⟨k + 1, out ++ [ss[k]], by omega, by simp; omega, by go_num, by simpa [strs] using ho1, hb3, H⟩
          case measure => simp [intOf]; omega
    · obtain rfl : ss.length = k := by omega
      rw [List.drop_length, cutS] at H
      go_wp2
      go_ret2
      exact cut_post H hown hb

theorem strs_pre (ss ts : List ByteArray) : (strs (ss ++ ts)).take ss.length = strs ss := by
  unfold strs
  rw [List.map_append]
  exact List.take_left' (by simp)
set_option maxHeartbeats 1000000 in
set_option maxRecDepth 100000 in
theorem law_calls (A : Option Addr) (c : Nat) (ss : List ByteArray) (after : ByteArray) (size : Int) (w : World) (hr : Rd w A (strs ss)) (hl : ss.length * 16 ≤ 140737488351232) (hc : ss.length ≤ c) (hs : ∀ s ∈ ss, s.size ≤ maxLen) (ha : after.size ≤ maxLen) :
    Calls Try.prog 3 #[.slice A ss.length c, .string after, .int .i64 size] w fun e w' => e = .returned (.bool true) ∧ Below w.heap.size w w' := by
  go_enter Try.func3, Try.ntmps3
  go_wp2_with fail
  refine (lent_calls A c ss _ hr hl hc).mono ?_
  rintro e w1 ⟨A1, c1, rfl, ho1, hb1⟩
  obtain ⟨A1', c1', e1, hc1, hc2⟩ := own_form ho1
  simp only [Value.slice.injEq, true_and] at e1
  obtain ⟨rfl, rfl⟩ := e1
  have hrd1 := own_rd ho1
  have hrd2 := hrd1.take ss.length
  rw [strs_pre] at hrd2
  go_wp2_with fail
  refine (cut_calls A1 c1 ss after size _ hrd2 hl).mono ?_
  rintro e w2 ⟨v2, rfl, ho2, hb2⟩
  have hr2 := (hr.keep hb1).keep hb2
  have hb12 := below_then hb1 hb1.size hb2
  go_wp2_with fail
  refine (cut_callsr A c ss after size _ hr2 hl hs ha).mono ?_
  rintro e w3 ⟨v3, rfl, ho3, hb3⟩
  have ho2' := own_keep ho2 hb3
  have hb13 := below_then hb12 hb12.size hb3
  have hlen := cutS_len size after ss []
  generalize cutS size [] ss after = r at *
  obtain ⟨A2, c2, rfl, hA2, hA2'⟩ := own_form ho2'
  obtain ⟨A3, c3, rfl, hA3, hA3'⟩ := own_form ho3
  have hr3 := own_rd ho2'
  have hr4 := own_rd ho3
  have hrk := ((hrd1.keep hb2).keep hb3)
  have hrl := hr2.keep hb3
  clear ho2 ho2' ho3 ho1
  have hlen' : r.1.length ≤ 140737488351232 := by simp at hlen; omega
  go_wp2_with fail
  refine (same_calls A2 A3 c2 c3 r.1 _ hr3 hr4 hlen').mono ?_
  rintro e w4 ⟨rfl, hb4⟩
  go_wp2_with fail
  refine (kept_calls A1 A c1 c ss _ (hrk.keep hb4) (hrl.keep hb4) hc1 hc2 (by omega)).mono ?_
  rintro e w5 ⟨rfl, hb5⟩
  go_wp2
  go_ret
  exact ⟨rfl, below_then (below_then hb13 hb13.size hb4) (Nat.le_trans hb13.size hb4.size) hb5⟩
end Go.Proofs.Ytdbccemllaehjaa.PC
