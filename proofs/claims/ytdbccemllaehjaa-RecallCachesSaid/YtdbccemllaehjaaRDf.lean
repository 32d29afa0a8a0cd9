/- The law RecallCaches: one step. -/
import Derived.Test.YtdbccemllaehjaaRDe
namespace Go.Proofs.Ytdbccemllaehjaa.RD2
open Go.RowKit Go.Proofs.YtdbccemllaehjaaKw
open RK (ivs ivs_len rd_int rd_intc ivs_snoc info3)
set_option linter.unusedVariables false
set_option linter.unusedSimpArgs false

/-- Picks of a number. -/
theorem pick6 (x : Int) (hx : -9223372036854775808 ≤ x) (hx2 : x ≤ 9223372036854775807) (n : Int) (hn : 1 ≤ n) (hn2 : n ≤ 100) (w : World) :
    ∃ m : Int, 0 ≤ m ∧ m < n ∧ ∀ w, Calls Try.prog 21 #[.int .i64 x, .int .i64 n] w fun e w' => e = .returned (.int .i64 m) ∧ w = w' :=
  ⟨x % n, Int.emod_nonneg x (by omega), Int.emod_lt_of_pos x (by omega), fun w => RL.pick_calls x n hx hx2 hn (by omega) w⟩

/-- The function that is asked: what it has been asked stands in a list. -/
structure Ask (N : Nat) (pa py pr : Nat) (by' rest : Int) (ks : List Int) (W : World) : Prop where
  row : ∃ v, W.cell? ⟨pa, 0, none⟩ = some v ∧ W.ownsRow N 3 1 v ks.length (ivs ks)
  fz : W.frozen? ⟨pa, 0, none⟩ = false
  byC : W.cell? ⟨py, 0, none⟩ = some (.int .i64 by')
  restC : W.cell? ⟨pr, 0, none⟩ = some (.int .i64 rest)
  size : N ≤ W.heap.size
theorem Ask.tch {N pa py pr : Nat} {by' rest : Int} {ks : List Int} {W W' : World} (h : Ask N pa py pr by' rest ks W) {S : Nat → Prop} (ht : Tch S W W') (h1 : ¬ S pa) (h2 : ¬ S py) (h3 : ¬ S pr) (h4 : ∀ q, N ≤ q → ¬ S q) : Ask N pa py pr by' rest ks W' := by
  obtain ⟨v, hv, ho⟩ := h.row
  have l1 := World.block_lt_of_cell? W _ hv
  have l2 := World.block_lt_of_cell? W _ h.byC
  have l3 := World.block_lt_of_cell? W _ h.restC
  exact ⟨⟨v, (ht.cell (p := ⟨pa, 0, none⟩) l1 h1).trans hv, RL.own_tch ho ht (fun g hg => h4 g (own_base ho g hg))⟩, (ht.frozen (p := ⟨pa, 0, none⟩) l1 h1).trans h.fz, (ht.cell (p := ⟨py, 0, none⟩) l2 h2).trans h.byC, (ht.cell (p := ⟨pr, 0, none⟩) l3 h3).trans h.restC, Nat.le_trans h.size ht.size⟩
set_option maxHeartbeats 2000000 in
set_option maxRecDepth 100000 in
theorem ask_calls (N pa py pr : Nat) (by' rest : Int) (hby : 0 ≤ by' ∧ by' < 4) (hpa : pa < N) (hpy : py < N) (hpr : pr < N) (hpay : pa ≠ py) (hpar : pa ≠ pr) (ks : List Int) (k : Int) (W : World) (hk : ks.length < 4096) (h : Ask N pa py pr by' rest ks W) :
    Calls Try.prog 61 #[.int .i64 k, .pointer (some ⟨pa, 0, none⟩), .pointer (some ⟨py, 0, none⟩), .pointer (some ⟨pr, 0, none⟩)] W fun e W' => e = .returned (.bool (decide (k.tmod (1 + by') = rest))) ∧ Ask N pa py pr by' rest (ks ++ [k]) W' ∧ Tch (fun q => q = pa ∨ N ≤ q) W W' := by
  obtain ⟨v, hv, ho⟩ := h.row
  obtain ⟨vA, vc, rfl, hvc, hvc2⟩ := own_form ho
  have hfz := h.fz
  have hNW := h.size
  have H := Lib.hid h
  clear h
  go_enter Try.func61, Try.ntmps61
  go_wp2_with (at_builtin; go_loud (refine app_own ho (Below.refl _ _) (.tmp 6) (.tmp 8) [.int .i64 k] 44 _ _ Try.underlying44 info3 (by omega) (by decide) hNW rfl rfl rfl (by decide) rfl rfl rfl (by simp [Value.oneCell']) ?_); intro v1 w1 ho1 hb1 hg1 hat1; obtain ⟨vA1, vc1, rfl, hvc1, hvc3⟩ := own_form ho1; have hv1 := (hb1.cell (p := ⟨pa, 0, none⟩) hpa).trans hv; have hf1 := (hb1.frozen (p := ⟨pa, 0, none⟩) hpa).trans hfz; have hy1 := (hb1.cell (p := ⟨py, 0, none⟩) hpy).trans H.out.byC; have hr1 := (hb1.cell (p := ⟨pr, 0, none⟩) hpr).trans H.out.restC)
  have hset : Ask N pa py pr by' rest (ks ++ [k]) (w1.setCell ⟨pa, 0, none⟩ (.slice vA1 (ks.length + 1) vc1)) := by
    have htch := Ap.setCell_tch w1 ⟨pa, 0, none⟩ (.slice vA1 (ks.length + 1) vc1) (fun q => q = pa) rfl
    have hrow := RL.own_tch ho1 htch (fun g hg e => by have := own_base ho1 g hg; omega)
    refine ⟨⟨.slice vA1 (ks.length + 1) vc1, World.cell?_setCell_same w1 _ _ hv1, by rw [List.length_append, ivs_snoc]; exact hrow⟩, (World.frozen?_setCell ..).trans hf1, ?_, ?_, Nat.le_trans hNW (Nat.le_trans hb1.size htch.size)⟩
    · rw [World.cell?_setCell_other w1 _ _ _ (fun e => hpay (congrArg Addr.block e))]
      exact hy1
    · rw [World.cell?_setCell_other w1 _ _ _ (fun e => hpar (congrArg Addr.block e))]
      exact hr1
  have htch : Tch (fun q => q = pa ∨ N ≤ q) W (w1.setCell ⟨pa, 0, none⟩ (.slice vA1 (ks.length + 1) vc1)) := (Tch.of_below hb1 (fun q h1 h2 => .inr h2)).setCell (a := ⟨pa, 0, none⟩) (.inl rfl) _
  have HF := Lib.hid (And.intro hset htch)
  clear hset htch
  refine (gone_calls k by' rest hby _).mono ?_
  rintro e w2 ⟨rfl, rfl⟩
  go_wp2_with fail
  go_ret
  exact ⟨rfl, HF.out⟩
end Go.Proofs.Ytdbccemllaehjaa.RD2
