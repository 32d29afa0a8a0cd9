/- The Writer's calls once more, with what they leave alone. -/
import Derived.Test.YtdbccemllaehjaaHl
namespace Go.Proofs.Ytdbccemllaehjaa.PK
open Go.RowKit Go.Proofs.YtdbccemllaehjaaKw Go.Proofs.YtdbccemllaehjaaHa Go.Proofs.YtdbccemllaehjaaGa Go.Proofs.Ytdbccemllaehjaa.PG
set_option linter.unusedVariables false
set_option linter.unusedSimpArgs false
/-- A block is the row of the Writer at a place. -/
def RowB (w : World) (wb q : Nat) : Prop := ∃ v, w.cell? ⟨wb, 0, none⟩ = some v ∧ v.ownBlock = some q
/-- Only the Writer, its row and what is new. -/
structure WF (w : World) (wb : Nat) (w' : World) : Prop where
  tch : Tch (fun q => q = wb ∨ RowB w wb q) w w'
  row : ∀ q, RowB w' wb q → RowB w wb q ∨ w.heap.size ≤ q
theorem WF.refl (w : World) (wb : Nat) : WF w wb w := ⟨⟨rfl, rfl, rfl, Nat.le_refl _, fun _ _ _ => rfl⟩, fun q h => .inl h⟩
theorem WF.trans {w w1 w2 : World} {wb : Nat} (h : WF w wb w1) (k : WF w1 wb w2) : WF w wb w2 := by
  refine ⟨⟨k.tch.os.trans h.tch.os, k.tch.tape.trans h.tch.tape, k.tch.output.trans h.tch.output, Nat.le_trans h.tch.size k.tch.size, fun q hq hn => ?_⟩, fun q hq => ?_⟩
  · refine (k.tch.block q (Nat.lt_of_lt_of_le hq h.tch.size) fun e => ?_).trans (h.tch.block q hq hn)
    rcases e with e | e
    · exact hn (.inl e)
    · rcases h.row q e with e | e
      · exact hn (.inr e)
      · omega
  · rcases k.row q hq with e | e
    · exact h.row q e
    · exact .inr (Nat.le_trans h.tch.size e)
theorem WF.of_below {w w' : World} {wb : Nat} (hb : Below w.heap.size w w') (hlt : wb < w.heap.size) : WF w wb w' :=
  ⟨⟨hb.os, hb.tape, hb.output, hb.size, fun q hq _ => hb.block q hq⟩, fun q ⟨v, h1, h2⟩ => .inl ⟨v, (hb.cell (p := ⟨wb, 0, none⟩) hlt).symm.trans h1, h2⟩⟩
/-- A block that is neither the Writer nor its row stays. -/
theorem WF.block {w w' : World} {wb q : Nat} (h : WF w wb w') (hq : q < w.heap.size) (h1 : q ≠ wb) (h2 : ¬ RowB w wb q) : w'.heap[q]? = w.heap[q]? := h.tch.block q hq fun e => e.elim h1 h2
theorem WF.cell {w w' : World} {wb : Nat} {p : Addr} {v : Value} (h : WF w wb w') (hc : w.cell? p = some v) (h1 : p.block ≠ wb) (h2 : ¬ RowB w wb p.block) : w'.cell? p = some v :=
  (World.cell?_of_block (h.block (World.block_lt_of_cell? w _ hc) h1 h2)).trans hc
/-- What is new is no row of the Writer. -/
theorem WS.row_lt {w : World} {wb : Nat} {l : List Nat} (h : WS w wb l) {q : Nat} (hq : RowB w wb q) : wb < q ∧ q < w.heap.size := by
  obtain ⟨v, h1, h2⟩ := h.row
  obtain ⟨v', h3, h4⟩ := hq
  rw [h1] at h3
  cases h3
  exact h2.lt q h4
set_option maxHeartbeats 1000000 in
set_option maxRecDepth 100000 in
theorem putF_calls (w : World) (wb : Nat) (l ys : List Nat) (A : Option Addr) (m c : Nat) (h : WS w wb l) (hs : Sl w A m c (bvs ys)) (hl : l.length + ys.length ≤ 140737488355328) :
    Calls Try.prog 113 #[.pointer (some ⟨wb, 0, none⟩), .slice A m c] w fun e w' => e = .returned (.tuple #[]) ∧ WS w' wb (l ++ ys) ∧ WF w wb w' := by
  obtain ⟨v, h1, hown⟩ := h.row
  have hfz := h.fz
  have hlt := h.lt
  have hm : m = ys.length := by rw [hs.1, bvs_len]
  obtain ⟨A0, c0, rfl, hc1, hc2⟩ := own_form hown
  go_enter Try.func113, Try.ntmps113
  have hne : some wb ≠ (Value.slice A0 l.length c0).ownBlock := fun e => by
    have := own_base hown wb e.symm
    omega
  go_wp2_with (at_builtin; go_loud (refine app_sl hown hs (.tmp 8) (.tmp 9) 141 _ _ Try.underlying141 info5 (by rw [hm]; omega) (by decide) (by omega) rfl rfl rfl rfl rfl (bvs_one ys) ?_); intro v1 w1 ho1 hg hat; have q1 := (hg.block wb hlt hne); have q2 : w1.cell? ⟨wb, 0, none⟩ = some (.slice A0 l.length c0) := (World.cell?_of_block (a := ⟨wb, 0, none⟩) q1).trans h1; have q3 := (World.frozen?_of_block (a := ⟨wb, 0, none⟩) q1).trans hfz; obtain ⟨A1, c1, rfl, _, _⟩ := own_form ho1; have hk := Lib.hid (And.intro ho1 (And.intro hg hat)); clear ho1 hg hat)
  go_end0
  obtain ⟨ho1, hg, hat⟩ := hk.out
  subst hm
  have hset := Ap.setCell_tch w1 ⟨wb, 0, none⟩ (.slice A1 (l.length + ys.length) c1) (fun q => q = wb) rfl
  refine ⟨rfl, ⟨⟨_, World.cell?_setCell_same w1 _ _ q2, ?_⟩, (World.frozen?_setCell _ _ _ _).trans q3⟩, ⟨⟨hset.os.trans hg.os, hset.tape.trans hg.tape, hset.output.trans hg.output, Nat.le_trans hg.size hset.size, fun k hk hn => ?_⟩, fun q hq => ?_⟩⟩
  · rw [bvs_app, List.length_append]
    exact Ap.own_tchS ho1 hset (fun g hg e => by have := own_base ho1 g hg; omega)
  · refine (hset.block k (by have := hg.size; omega) (fun e => hn (.inl e))).trans (hg.block k hk (fun e => hn (.inr ⟨_, h1, e.symm⟩)))
  · obtain ⟨v', e1, e2⟩ := hq
    rw [World.cell?_setCell_same w1 _ _ q2] at e1
    cases e1
    rcases hat with e | e
    · exact .inl ⟨_, h1, e ▸ e2⟩
    · rw [e] at e2
      cases e2
      exact .inr (Nat.le_refl _)
set_option maxHeartbeats 1000000 in
set_option maxRecDepth 100000 in
theorem uintF_calls (w : World) (wb : Nat) (l : List Nat) (x : Nat) (hx : x < 18446744073709551616) (h : WS w wb l) (hl : l.length + 10 ≤ 140737488355328) :
    Calls Try.prog 85 #[.pointer (some ⟨wb, 0, none⟩), .int .u64 (x : Int)] w fun e w' => e = .returned (.tuple #[]) ∧ WS w' wb (l ++ uintB x) ∧ WF w wb w' := by
  go_enter Try.func85, Try.ntmps85
  go_wp2_with fail
  go_loopw [1] (fun s wr => ∃ (y : Nat) (pre : List Nat), s = .int .u64 (y : Int) ∧ y < 18446744073709551616 ∧ WS wr wb (l ++ pre) ∧ uintB x = pre ++ uintB y ∧ WF w wb wr) (fun s _ => (intOf s).toNat)
  case atStart => exact ⟨x, [], rfl, hx, by simpa using h, by simp, WF.refl _ _⟩
  case round =>
    obtain ⟨y, pre, rfl, hy, hw, hu, hb⟩ := hrel
    have hp := uint_fst hx hu
    have H := Lib.hid (And.intro hw (And.intro hu hb))
    have hlt := hw.lt
    clear hw hu hb
    by_cases hbig : y < 128
    · go_wp2_with fail
      have hb0 := below_alloc (Below.refl wr.heap.size wr) (.cells #[.int .u8 (y : Int)] 5)
      refine (putF_calls _ wb (l ++ pre) [y] _ 1 1 (H.out.1.keep hb0) (sl_one wr y) (by simp; omega)).mono ?_
      rintro e w1 ⟨rfl, h1, hb1⟩
      have H2 := Lib.hid (And.intro h1 ((WF.of_below hb0 hlt).trans hb1))
      clear h1 hb1 hb0
      go_wp2_with fail
      go_end0
      refine ⟨rfl, ?_, H.out.2.2.trans H2.out.2⟩
      have := H2.out.1
      rw [List.append_assoc, ← uintB_lo hbig, ← H.out.2.1] at this
      exact this
    · go_wp2_with fail
      rw [bor8]
      have hb0 := below_alloc (Below.refl wr.heap.size wr) (.cells #[.int .u8 ((y % 128 + 128 : Nat) : Int)] 5)
      refine (putF_calls _ wb (l ++ pre) [y % 128 + 128] _ 1 1 (H.out.1.keep hb0) (sl_one wr _) (by simp; omega)).mono ?_
      rintro e w1 ⟨rfl, h1, hb1⟩
      have H2 := Lib.hid (And.intro h1 ((WF.of_below hb0 hlt).trans hb1))
      clear h1 hb1 hb0
      go_wp2_with fail
      go_roundw
      case rel => exact ⟨y / 128, pre ++ [y % 128 + 128], by go_num, by omega, by rw [← List.append_assoc]; exact H2.out.1, by rw [H.out.2.1, uintB_hi hbig]; simp, H.out.2.2.trans H2.out.2⟩
      case measure => simp [intOf]; omega
set_option maxHeartbeats 1000000 in
set_option maxRecDepth 100000 in
theorem textF_calls (w : World) (wb : Nat) (l : List Nat) (s : ByteArray) (hs : s.size ≤ maxLen) (h : WS w wb l) (hl : l.length + 10 + s.size ≤ 140737488355328) :
    Calls Try.prog 87 #[.pointer (some ⟨wb, 0, none⟩), .string s] w fun e w' => e = .returned (.tuple #[]) ∧ WS w' wb (l ++ textB (nums s)) ∧ WF w wb w' := by
  go_enter Try.func87, Try.ntmps87
  go_wp2_with fail
  refine (uintF_calls _ wb l s.size (by unfold maxLen at hs; omega) h (by omega)).mono ?_
  rintro e w1 ⟨rfl, h1, hb1⟩
  obtain ⟨cc, w2, kc, hsl, hb2, hlt2⟩ := conv_bytes w1 s
  have hlt := h1.lt
  have hul : (uintB s.size).length ≤ 10 := (uintB_64 (by unfold maxLen at hs; omega)).2
  have H := Lib.hid (And.intro h1 (And.intro hb1 (And.intro hsl (And.intro hb2 hul))))
  clear h1 hb1 hsl hb2 hlt2 h hul
  go_wp2_with fail
  refine (putF_calls w2 wb (l ++ uintB s.size) (nums s) _ _ cc (H.out.1.keep H.out.2.2.2.1) H.out.2.2.1 (by have := H.out.2.2.2.2; simp [nums_len]; omega)).mono ?_
  rintro e w3 ⟨rfl, h3, hb3⟩
  have H3 := Lib.hid (And.intro h3 hb3)
  clear h3 hb3
  go_wp2_with fail
  go_end0
  refine ⟨rfl, ?_, (H.out.2.1.trans (WF.of_below H.out.2.2.2.1 hlt)).trans H3.out.2⟩
  have := H3.out.1
  unfold textB
  rw [nums_len, ← List.append_assoc]
  exact this
end Go.Proofs.Ytdbccemllaehjaa.PK
