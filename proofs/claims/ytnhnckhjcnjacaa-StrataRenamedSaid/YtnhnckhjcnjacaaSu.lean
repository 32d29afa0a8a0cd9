/- Strata: the walks of what is done to the stack. -/
import Derived.Test.YtnhnckhjcnjacaaSt
import Derived.RegionTactic
import Derived.BigRegion
namespace Go.Proofs.Ytnhnckhjcnjacaa.ST
open Go.RowKit Go.Proofs.YtnhnckhjcnjacaaKw Go.Proofs.YtnhnckhjcnjacaaSg Go.Proofs.YtnhnckhjcnjacaaSw
set_option linter.unusedVariables false
set_option linter.unusedSimpArgs false

set_option maxHeartbeats 4000000 in
set_option maxRecDepth 100000 in
theorem push_calls (w0 : World) (F : Fr) (s : TS) (v : Nat) (w : World) (h : RepT w0 w F s) (hv : v < F.n) (hat0 : 0 ≤ s.at_) (hat : s.at_ ≤ 5000) (hn : F.n ≤ 5000) (hst : s.stack.length ≤ 5000) :
    Calls Try.prog 46 #[.int .i64 v, ptr F.xat, ptr F.xseen, ptr F.xlow, ptr F.xstack] w fun e w' => e = .returned (.tuple #[]) ∧ RepT w0 w' F (pushS v s) ∧ Fram w w' F := by
  have h1 := h.setAt (s.at_ + 1)
  have h2 := h1.setSeen hv (s.at_ + 1)
  have h3 := h2.setLow hv (s.at_ + 1)
  have hfr : Fram w (((w.setCell ⟨F.xat, 0, none⟩ (.int .i64 (s.at_ + 1))).setCell ⟨F.sb, v, none⟩ (.int .i64 (s.at_ + 1))).setCell ⟨F.lb, v, none⟩ (.int .i64 (s.at_ + 1))).drew F := by
    have m := mem_all F
    have d := h.ne
    exact (((Fram.set (a := ⟨F.xat, 0, none⟩) m.2.2.2.2.2.1 d.2.2.2.1.2.2.2.2.1).trans (Fram.set (a := ⟨F.sb, v, none⟩) m.2.2.2.2.2.2.2.2.2.2.1 d.2.1.2.2.2.2.1)).trans (Fram.set (a := ⟨F.lb, v, none⟩) m.2.2.2.2.2.2.2.2.2.1 d.1.2.2.2.2.1)).trans (Fram.other (drew_below _) (by have := h.lts; simp; omega))
  have HFR := Lib.hid hfr
  clear hfr
  have hxat := h.xat
  have hfat := h.fat
  have k1 := h1.xseen
  have k2 := h1.xlow
  have k3 := h1.xat
  have k4 := h2.xlow
  have k5 := h2.xat
  have f1 := h1.seen.cell hv
  have f2 := h.seen.fz v
  have f3 := h2.low.cell hv
  have f4 := h.low.fz v
  have H := Lib.hid (And.intro h1 (And.intro h2 h3))
  clear h1 h2 h3 h
  go_enter Try.func46, Try.ntmps46
  go_wp2_with fail
  go_region
  have h4 := H.out.2.2.drewN 1
  have H4 : Hid (RepT w0 (((w.setCell ⟨F.xat, 0, none⟩ (.int .i64 (s.at_ + 1))).setCell ⟨F.sb, v, none⟩ (.int .i64 (s.at_ + 1))).setCell ⟨F.lb, v, none⟩ (.int .i64 (s.at_ + 1))).drew F { low := upd s.low v (s.at_ + 1), seen := upd s.seen v (s.at_ + 1), head := s.head, stack := s.stack, at_ := s.at_ + 1 }) := Lib.hid h4
  clear h4 H hxat hfat k1 k2 k3 k4 k5 f1 f2 f3 f4
  generalize (((w.setCell ⟨F.xat, 0, none⟩ (.int .i64 (s.at_ + 1))).setCell ⟨F.sb, v, none⟩ (.int .i64 (s.at_ + 1))).setCell ⟨F.lb, v, none⟩ (.int .i64 (s.at_ + 1))).drew = W at *
  obtain ⟨sA, c, hs, ho, hn'⟩ := H4.out.row
  have hB := H4.out.below
  have hfs := H4.out.fstack
  have hms := (mem_all F).2.2.2.2.1
  have hxl := World.block_lt_of_cell? W _ hs
  have hxn : ¬ some F.xstack = (Value.slice sA s.stack.length c).ownBlock := fun e => hn' _ e.symm hms
  go_wp2_with (at_builtin; go_loud (refine app_own ho (Below.refl _ _) (.tmp 16) (.tmp 18) [.int .i64 v] 26 _ _ Try.underlying26 info3 (by dsimp only; omega) (by decide) hB.size rfl rfl rfl (by decide) rfl rfl rfl (by simp [Value.oneCell']) ?_); intro v1 w1 ho1 hb1 hg1 hat1; obtain ⟨vA1, vc1, rfl, hvc1, hvc2⟩ := own_form ho1; have HAT := Lib.hid hat1; clear hat1; have hT1 := tch_grown hg1; have hs1 := (hT1.cell (p := ⟨F.xstack, 0, none⟩) hxl hxn).trans hs; have hf1 := (hT1.frozen (p := ⟨F.xstack, 0, none⟩) hxl hxn).trans hfs)
  have hfin := H4.out.pushStack hs ho1 hg1 HAT.out
  have HF := Lib.hid (And.intro hfin (HFR.out.trans (Fram.box hs hg1 hs1 HAT.out)))
  clear hfin ho1 hb1 hg1 HAT hT1 ho hs hfs
  go_wp2_with fail
  go_end0
  exact ⟨rfl, HF.out⟩
/-- The least of a list. -/
theorem minL_snoc (m : Nat) (l : List Nat) (x : Nat) : minL m (l ++ [x]) = min (minL m l) x := by
  induction l generalizing m with
  | nil => rfl
  | cons y l ih => exact ih (min m y)
theorem minL_le (m : Nat) (l : List Nat) : minL m l ≤ m := by
  induction l generalizing m with
  | nil => exact Nat.le_refl _
  | cons y l ih => exact Nat.le_trans (ih _) (Nat.min_le_left _ _)
set_option maxHeartbeats 1000000 in
set_option maxRecDepth 100000 in
theorem min_calls (b off c v : Nat) (rest : List Nat) (w : World) (hr : ∀ j, j < (v :: rest).length → w.cell? ⟨b, off + j, none⟩ = some (.int .i64 ((v :: rest).getD j 0 : Nat))) (hl : rest.length ≤ 5000) :
    Calls Try.prog 48 #[.slice (some ⟨b, off, none⟩) (rest.length + 1) c] w fun e w' => e = .returned (.int .i64 (minL v rest : Nat)) ∧ w = w' := by
  have h0 : w.cell? ⟨b, off, none⟩ = some (.int .i64 (v : Nat)) := hr 0 (by simp)
  have HR := Lib.hid hr
  clear hr
  go_enter Try.func48, Try.ntmps48
  go_wp2
  go_loop [3, 4] (fun m i => ∃ k : Nat, k ≤ rest.length ∧ i = .int .i64 ((k : Int) + 1) ∧ m = .int .i64 (minL v (rest.take k) : Nat)) (fun _ i => rest.length + 1 - (intOf i).toNat)
  case atStart => exact ⟨0, Nat.zero_le _, rfl, rfl⟩
  case round =>
    obtain ⟨k, hk, rfl, rfl⟩ := hrel
    by_cases hlt : k < rest.length
    · have hc := HR.out (k + 1) (by simp; omega)
      have hg : (v :: rest).getD (k + 1) 0 = rest[k] := by simp [List.getD, List.getElem?_eq_getElem hlt]
      rw [hg] at hc
      have hsn : minL v (rest.take (k + 1)) = min (minL v (rest.take k)) rest[k] := by rw [List.take_succ_eq_append_getElem hlt, minL_snoc]
      have HS := Lib.hid hsn
      clear hsn hg
      generalize rest[k] = x at *
      generalize minL v (rest.take k) = m at *
      go_wp2
      all_goals
        go_round
        case rel => exact ⟨k + 1, by omega, by go_num, by rw [HS.out]; first | (rw [Nat.min_eq_left (by omega)]; done) | (rw [Nat.min_eq_right (by omega)]; done) | (congr 1; omega)⟩
        case measure => simp [intOf]; omega
    · obtain rfl : k = rest.length := by omega
      rw [List.take_length]
      go_wp2
      go_ret
      exact ⟨rfl, rfl⟩
end Go.Proofs.Ytnhnckhjcnjacaa.ST
