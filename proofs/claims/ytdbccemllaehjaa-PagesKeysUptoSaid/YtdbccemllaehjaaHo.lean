/- pages.Key, walked; the reference's joined, with what it leaves alone. -/
import Derived.Test.YtdbccemllaehjaaHn
namespace Go.Proofs.Ytdbccemllaehjaa.PK
open Go.RowKit Go.Proofs.YtdbccemllaehjaaKw Go.Proofs.YtdbccemllaehjaaHa Go.Proofs.YtdbccemllaehjaaGa Go.Proofs.Ytdbccemllaehjaa.PG
set_option linter.unusedVariables false
set_option linter.unusedSimpArgs false
/-- The key of a question for a list. -/
noncomputable def keyOf (a : AA) (ob : Bool) : Nat := sumB (keyB (if ob then headO a else headS a) a.xs)
set_option maxHeartbeats 1000000 in
set_option maxRecDepth 100000 in
theorem pkey_calls (w : World) (a : AA) (ha : AOk w a) (ob : Bool) :
    Calls Try.prog 44 #[a.agg, .bool ob] w fun e w' => e = .returned (.int .u64 (keyOf a ob : Int)) ∧ Below w.heap.size w w' := by
  have hal := below_alloc (Below.refl w.heap.size w) (.cells a.cells 80)
  have hok := ha.below hal ha.low
  have HH := Lib.hid (And.intro hal hok)
  have hKO : keyOf a true = sumB (keyB (headO a) a.xs) := by simp [keyOf]
  have hKS : keyOf a false = sumB (keyB (headS a) a.xs) := by simp [keyOf]
  have HK := Lib.hid (And.intro hKO hKS)
  clear hal hok ha hKO hKS
  simp only [AA.agg, AA.cells] at *
  cases ob
  · go_enter Try.func44, Try.ntmps44
    go_wp2_with fail
    refine (keys_calls _ a HH.out.2).mono ?_
    rintro e w1 ⟨rfl, hb⟩
    have hB := Lib.hid (below_then HH.out.1 HH.out.1.size hb)
    clear hb
    go_wp2_with fail
    go_ret
    exact ⟨by rw [HK.out.2]; rfl, hB.out⟩
  · go_enter Try.func44, Try.ntmps44
    go_wp2_with fail
    refine (keyo_calls _ a HH.out.2).mono ?_
    rintro e w1 ⟨rfl, hb⟩
    have hB := Lib.hid (below_then HH.out.1 HH.out.1.size hb)
    clear hb
    go_wp2_with fail
    go_ret
    exact ⟨by rw [HK.out.1]; rfl, hB.out⟩
/-- Only a row, and what is new. -/
structure RF (w : World) (v : Value) (w' : World) (v' : Value) : Prop where
  tch : Tch (fun q => v.ownBlock = some q) w w'
  own : v'.ownBlock = v.ownBlock ∨ ∃ b, v'.ownBlock = some b ∧ w.heap.size ≤ b
theorem RF.refl (w : World) (v : Value) : RF w v w v := ⟨⟨rfl, rfl, rfl, Nat.le_refl _, fun _ _ _ => rfl⟩, .inl rfl⟩
theorem RF.trans {w w1 w2 : World} {v v1 v2 : Value} (h : RF w v w1 v1) (k : RF w1 v1 w2 v2) : RF w v w2 v2 := by
  refine ⟨⟨k.tch.os.trans h.tch.os, k.tch.tape.trans h.tch.tape, k.tch.output.trans h.tch.output, Nat.le_trans h.tch.size k.tch.size, fun q hq hn => ?_⟩, ?_⟩
  · refine (k.tch.block q (Nat.lt_of_lt_of_le hq h.tch.size) fun e => ?_).trans (h.tch.block q hq hn)
    rcases h.own with e1 | ⟨b, e1, hb⟩
    · exact hn (e1 ▸ e)
    · rw [e1] at e
      cases e
      omega
  · rcases k.own with e | ⟨b, e, hb⟩
    · rcases h.own with e1 | ⟨b, e1, hb⟩
      · exact .inl (e.trans e1)
      · exact .inr ⟨b, e.trans e1, hb⟩
    · exact .inr ⟨b, e, Nat.le_trans h.tch.size hb⟩
theorem RF.of_below {w w' : World} (v : Value) (hb : Below w.heap.size w w') : RF w v w' v := ⟨⟨hb.os, hb.tape, hb.output, hb.size, fun q hq _ => hb.block q hq⟩, .inl rfl⟩
theorem RF.of_grown {w w' : World} {v v' : Value} (hg : w.grownBy w' v.ownBlock) (hat : v'.ownBlock = v.ownBlock ∨ ∃ b, v'.ownBlock = some b ∧ w.heap.size ≤ b) : RF w v w' v' :=
  ⟨⟨hg.os, hg.tape, hg.output, hg.size, fun q hq hn => hg.block q hq fun e => hn e.symm⟩, hat⟩
theorem RF.block {w w' : World} {v v' : Value} {q : Nat} (h : RF w v w' v') (hq : q < w.heap.size) (hn : v.ownBlock ≠ some q) : w'.heap[q]? = w.heap[q]? := h.tch.block q hq hn
theorem RF.below {w w' : World} {v v' : Value} {B : Nat} (h : RF w v w' v') (hB : B ≤ w.heap.size) (hn : ∀ q, v.ownBlock = some q → B ≤ q) : Below B w w' :=
  ⟨h.tch.os, h.tch.tape, h.tch.output, h.tch.size, fun k hk => h.block (by omega) (fun e => by have := hn k e; omega)⟩
set_option maxHeartbeats 1000000 in
set_option maxRecDepth 100000 in
theorem joinedF_calls (w : World) (v : Value) (l m : List Nat) (A : Option Addr) (c : Nat) (ho : w.ownsRow 0 5 1 v l.length (bvs l)) (hs : Sl w A m.length c (bvs m)) (hne : ∀ b off, A = some ⟨b, off, none⟩ → v.ownBlock ≠ some b) (hl : l.length + m.length ≤ 140737488355328) :
    Calls Try.prog 77 #[v, .slice A m.length c] w fun e w' => ∃ v', e = .returned v' ∧ w'.ownsRow 0 5 1 v' (l ++ m).length (bvs (l ++ m)) ∧ RF w v w' v' := by
  have hH := Lib.hid (And.intro ho (And.intro hs hne))
  have hll : (l ++ m).length = l.length + m.length := by simp
  clear ho hs hne
  rw [hll]
  clear hll
  go_enter Try.func77, Try.ntmps77
  go_wp2_with fail
  go_loopw [0, 5] (fun u s wr => ∃ k : Nat, k ≤ m.length ∧ s = .int .i64 (k : Int) ∧ wr.ownsRow 0 5 1 u (l.length + k) (bvs (l ++ m.take k)) ∧ RF w v wr u ∧ Sl wr A m.length c (bvs m) ∧ (∀ b off, A = some ⟨b, off, none⟩ → u.ownBlock ≠ some b)) (fun _ s _ => m.length - (intOf s).toNat)
  case atStart => exact ⟨0, Nat.zero_le _, rfl, by simpa using hH.out.1, RF.refl _ _, hH.out.2.1, hH.out.2.2⟩
  case round =>
    clear hH
    obtain ⟨k, hk, rfl, ho, hf, hs, hne⟩ := hrel
    by_cases hlt : k < m.length
    · obtain ⟨b, off, rfl, hc⟩ := rd_byte hs.rd hlt
      have hcb : b < wr.heap.size := World.block_lt_of_cell? wr _ hc
      have HK := Lib.hid (And.intro hs (And.intro hne hf))
      have hb0 : Below 0 wr wr := Below.refl _ _
      clear hs hne hf
      go_wp2_with (at_builtin; go_loud (refine app_own ho hb0 (.tmp 12) (.tmp 17) [.int .u8 ((m[k] : Nat) : Int)] 141 _ _ Try.underlying141 info5 (by omega) (by decide) (Nat.zero_le _) rfl rfl rfl (by decide) rfl rfl rfl (by simp [Value.oneCell']) ?_); intro v1 w2 ho1 hb1 hg1 hat1; have H1 := Lib.hid (And.intro ho1 (And.intro hg1 hat1)); clear ho1 hb1 hg1 hat1)
      go_roundw
      case rel =>
        obtain ⟨ho1, hg1, hat1⟩ := H1.out
        obtain ⟨hs, hne, hf⟩ := HK.out
        refine ⟨k + 1, by omega, by go_num, ?_, hf.trans (RF.of_grown hg1 hat1), ?_, ?_⟩
        · rw [List.take_succ_eq_append_getElem hlt, ← List.append_assoc, bvs_snoc]
          exact ho1
        · obtain ⟨hm, ⟨h0, _⟩ | ⟨b', off', e, hlt', hc'⟩⟩ := hs
          · cases h0
          · cases e
            exact ⟨hm, .inr ⟨b, off, rfl, Nat.lt_of_lt_of_le hlt' hg1.size, fun j u hu => (World.cell?_of_block (a := ⟨b, off + j, none⟩) (hg1.block b hlt' (fun e => hne b off rfl e.symm))).trans (hc' j u hu)⟩⟩
        · intro b' off' e
          cases e
          rcases hat1 with h | ⟨g, h, hge⟩
          · rw [h]; exact hne b off rfl
          · rw [h]; intro e; cases e; omega
      case measure => simp [intOf]; omega
    · obtain rfl : m.length = k := by omega
      rw [List.take_length] at ho
      have H := Lib.hid (And.intro ho hf)
      clear ho hf hs hne
      go_wp2_with fail
      go_ret
      exact ⟨_, rfl, H.out.1, H.out.2⟩
end Go.Proofs.Ytdbccemllaehjaa.PK
