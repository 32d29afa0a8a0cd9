/- Strata: the walks of the heap. -/
import Derived.Test.YtnhnckhjcnjacaaSt
import Derived.Test.YtnhnckhjcnjacaaSh
import Derived.RegionTactic
import Derived.BigRegion
import Derived.Deep.RegionLaw
namespace Go.Proofs.Ytnhnckhjcnjacaa.ST
open Go.RowKit Go.Proofs.YtnhnckhjcnjacaaKw Go.Proofs.YtnhnckhjcnjacaaSg Go.Proofs.YtnhnckhjcnjacaaSw
set_option linter.unusedVariables false
set_option linter.unusedSimpArgs false

theorem minfo (name : String) (f : Nat) (hm : (Try.prog.info? 66).bind (fun i => (i.methods.find? (·.name == name)).map fun m => (m.path.toList.length, m.func)) = some (0, some (f, false))) {hx : Nat} {w : World} {A : Option Addr} {n c : Nat} (h : w.cell? ⟨hx, 0, none⟩ = some (.slice A n c)) :
    (method 197 66 (ptr hx) name).run Try.prog w = .ok (f, .slice A n c) w := by
  obtain ⟨i, hi, h2⟩ := Option.bind_eq_some_iff.1 hm
  obtain ⟨m, hf, hmm⟩ := Option.map_eq_some_iff.1 h2
  have hp : m.path.toList.length = 0 := congrArg (·.1) hmm
  have hfn : m.func = some (f, false) := congrArg (·.2) hmm
  have hp' : m.path = #[] := by
    have := List.eq_nil_of_length_eq_zero hp
    exact Array.toList_eq_nil_iff.1 this
  unfold method
  simp [typeInfo, hi, hf, hp', hfn, follow, receiverAt, run_underlying Try.underlying66, Place.get]
  have hw : ∀ (s : String), (Builtin.ssaWrapNilChk_ #[66] 66 #[ptr hx, strVal "", strVal s]).run Try.prog w = .ok (ptr hx) w := fun s => rfl
  rw [hw]
  go_simp
theorem meth_push (hx : Nat) (w : World) : (method 197 66 (ptr hx) "Push").run Try.prog w = .ok (70, ptr hx) w := by kernel_rfl
theorem meth_pop (hx : Nat) (w : World) : (method 197 66 (ptr hx) "Pop").run Try.prog w = .ok (69, ptr hx) w := by kernel_rfl
theorem meth_len {hx : Nat} {w : World} {A : Option Addr} {n c : Nat} (h : w.cell? ⟨hx, 0, none⟩ = some (.slice A n c)) : (method 197 66 (ptr hx) "Len").run Try.prog w = .ok (43, .slice A n c) w := minfo "Len" 43 (by kernel_rfl) h
theorem meth_less {hx : Nat} {w : World} {A : Option Addr} {n c : Nat} (h : w.cell? ⟨hx, 0, none⟩ = some (.slice A n c)) : (method 197 66 (ptr hx) "Less").run Try.prog w = .ok (68, .slice A n c) w := minfo "Less" 68 (by kernel_rfl) h
theorem meth_swap {hx : Nat} {w : World} {A : Option Addr} {n c : Nat} (h : w.cell? ⟨hx, 0, none⟩ = some (.slice A n c)) : (method 197 66 (ptr hx) "Swap").run Try.prog w = .ok (71, .slice A n c) w := minfo "Swap" 71 (by kernel_rfl) h

theorem nvs_set (L : List Nat) (i x : Nat) : (nvs L).set i (.int .i64 (x : Int)) = nvs (L.set i x) := by
  simp [nvs, List.map_set]
theorem nvs_cell {w : World} {base g c : Nat} {L : List Nat} (h : w.ownsRow base 3 1 (.slice (some ⟨g, 0, none⟩) L.length c) L.length (nvs L)) {j : Nat} (hj : j < L.length) : w.cell? ⟨g, j, none⟩ = some (.int .i64 (gN L j)) := by
  rw [h.cellAt j (by omega)]
  simp [nvs, gN, List.getD, List.getElem?_eq_getElem hj]
theorem len_calls (A : Option Addr) (n c : Nat) (w : World) : Calls Try.prog 43 #[.slice A n c] w fun e w' => e = .returned (.int .i64 n) ∧ w = w' := by
  go_enter Try.func43, Try.ntmps43
  go_wp2
  go_ret
  exact ⟨rfl, rfl⟩
set_option maxHeartbeats 1000000 in
set_option maxRecDepth 100000 in
theorem less_calls (g c i k : Nat) (L : List Nat) (w : World) (hi : i < L.length) (hk : k < L.length) (hl : L.length ≤ 5000) (hr : ∀ j, j < L.length → w.cell? ⟨g, j, none⟩ = some (.int .i64 (gN L j))) :
    Calls Try.prog 68 #[.slice (some ⟨g, 0, none⟩) L.length c, .int .i64 i, .int .i64 k] w fun e w' => e = .returned (.bool (decide (gN L i < gN L k))) ∧ ∃ m, w' = w.drewN m := by
  have h1 := hr i hi
  have h2 := hr k hk
  clear hr
  by_cases hlt : gN L i < gN L k
  · rw [decide_eq_true hlt]
    generalize gN L i = x at *
    generalize gN L k = y at *
    have hd : decide ((x : Int) < (y : Int)) = true := by simp; omega
    go_enter Try.func68, Try.ntmps68
    go_wp2_with fail
    go_quiet (fail)
    go_wp2_with fail
    go_ret
    exact ⟨rfl, _, rfl⟩
  · rw [decide_eq_false hlt]
    generalize gN L i = x at *
    generalize gN L k = y at *
    have hd : decide ((x : Int) < (y : Int)) = false := by simp; omega
    go_enter Try.func68, Try.ntmps68
    go_wp2_with fail
    go_quiet (fail)
    go_wp2_with fail
    go_ret
    exact ⟨rfl, _, rfl⟩
set_option maxHeartbeats 2000000 in
set_option maxRecDepth 100000 in
theorem swap_calls (base g c i k : Nat) (L : List Nat) (w : World) (hi : i < L.length) (hk : k < L.length) (hl : L.length ≤ 5000) (ho : w.ownsRow base 3 1 (.slice (some ⟨g, 0, none⟩) L.length c) L.length (nvs L)) :
    Calls Try.prog 71 #[.slice (some ⟨g, 0, none⟩) L.length c, .int .i64 i, .int .i64 k] w fun e w' => e = .returned (.tuple #[]) ∧ w'.ownsRow base 3 1 (.slice (some ⟨g, 0, none⟩) L.length c) L.length (nvs (swL L i k)) ∧ Tch (fun q => q = g) w w' := by
  have hcell : ∀ j, j < L.length → w.cell? ⟨g, j, none⟩ = some (.int .i64 (gN L j)) := fun j hj => nvs_cell ho hj
  have hs1 : w.ownsRow base 3 1 (.slice (some ⟨g, 0, none⟩) L.length c) L.length (nvs L) := ho
  have ho1 : (w.setCell ⟨g, i, none⟩ (.int .i64 (gN L k))).ownsRow base 3 1 (.slice (some ⟨g, 0, none⟩) L.length c) L.length (nvs (L.set i (gN L k))) := by
    have := Ap.own_set ho hi (.int .i64 (gN L k))
    rw [nvs_set] at this
    exact this
  have ho2 : ((w.setCell ⟨g, i, none⟩ (.int .i64 (gN L k))).setCell ⟨g, k, none⟩ (.int .i64 (gN L i))).ownsRow base 3 1 (.slice (some ⟨g, 0, none⟩) L.length c) L.length (nvs (swL L i k)) := by
    have := Ap.own_set ho1 hk (.int .i64 (gN L i))
    rw [nvs_set] at this
    exact this
  have h1 := hcell i hi
  have h2 := hcell k hk
  have h3 : (w.setCell ⟨g, i, none⟩ (.int .i64 (gN L k))).cell? ⟨g, k, none⟩ = some (.int .i64 (gN (L.set i (gN L k)) k)) := by
    have := nvs_cell (L := L.set i (gN L k)) (by rw [List.length_set]; exact ho1) (j := k) (by rw [List.length_set]; exact hk)
    exact this
  have f1 : w.frozen? ⟨g, i, none⟩ = false := ho.frozenAt i
  have f2 : w.frozen? ⟨g, k, none⟩ = false := ho.frozenAt k
  have htc : Tch (fun q => q = g) w ((w.setCell ⟨g, i, none⟩ (.int .i64 (gN L k))).setCell ⟨g, k, none⟩ (.int .i64 (gN L i))).drew := ((Ap.setCell_tch w ⟨g, i, none⟩ (.int .i64 (gN L k)) (fun q => q = g) rfl).setCell (a := ⟨g, k, none⟩) rfl _).drewN 1
  have H := Lib.hid (And.intro (own_keep ho2 (drew_below _)) htc)
  clear hcell hs1 ho ho1 ho2 htc
  go_enter Try.func71, Try.ntmps71
  go_wp2_with fail
  go_region
  go_wp2_with fail
  go_end0
  exact ⟨rfl, H.out⟩
/-- A heap's list in memory. -/
structure HeapR (w : World) (base hx : Nat) (L : List Nat) : Prop where
  row : ∃ A c, w.cell? ⟨hx, 0, none⟩ = some (.slice A L.length c) ∧ w.ownsRow base 3 1 (.slice A L.length c) L.length (nvs L)
  fz : w.frozen? ⟨hx, 0, none⟩ = false
  ne : ∀ A c, w.cell? ⟨hx, 0, none⟩ = some (.slice A L.length c) → ∀ g, (Value.slice A L.length c).ownBlock = some g → hx ≠ g
def HRow (w : World) (hx q : Nat) : Prop := ∃ A n c, w.cell? ⟨hx, 0, none⟩ = some (.slice A n c) ∧ (Value.slice A n c).ownBlock = some q
structure HFram (w w' : World) (hx : Nat) : Prop where
  tch : Tch (fun q => q = hx ∨ HRow w hx q) w w'
  row : ∀ q, HRow w' hx q → HRow w hx q ∨ w.heap.size ≤ q
theorem HFram.refl (w : World) (hx : Nat) : HFram w w hx := ⟨Tch.refl _ _, fun q h => .inl h⟩
theorem HFram.trans {w w1 w2 : World} {hx : Nat} (h : HFram w w1 hx) (k : HFram w1 w2 hx) : HFram w w2 hx := by
  refine ⟨⟨k.tch.os.trans h.tch.os, k.tch.tape.trans h.tch.tape, k.tch.output.trans h.tch.output, Nat.le_trans h.tch.size k.tch.size, fun b hb hn => ?_⟩, fun q hq => ?_⟩
  · refine (k.tch.block b (Nat.lt_of_lt_of_le hb h.tch.size) fun hs => ?_).trans (h.tch.block b hb hn)
    rcases hs with hs | hs
    · exact hn (.inl hs)
    · rcases h.row b hs with hs | hs
      · exact hn (.inr hs)
      · omega
  · rcases k.row q hq with hq | hq
    · exact h.row q hq
    · exact .inr (Nat.le_trans h.tch.size hq)
theorem HFram.other {w w' : World} {hx : Nat} (hb : Below w.heap.size w w') (hl : hx < w.heap.size) : HFram w w' hx := by
  refine ⟨Tch.of_below (S := fun q => q = hx ∨ HRow w hx q) hb (fun k h1 h2 => by omega), fun q hq => ?_⟩
  obtain ⟨sA, n, c, hs, hg⟩ := hq
  rw [hb.cell (p := ⟨hx, 0, none⟩) hl] at hs
  exact .inl ⟨sA, n, c, hs, hg⟩
theorem HFram.in {w w' : World} {hx g n c : Nat} (hs : w.cell? ⟨hx, 0, none⟩ = some (.slice (some ⟨g, 0, none⟩) n c)) (ht : Tch (fun q => q = g) w w') (hne : hx ≠ g) : HFram w w' hx := by
  refine ⟨ht.mono (fun q _ hq => .inr ⟨some ⟨g, 0, none⟩, n, c, hs, by rw [hq]; rfl⟩), fun q hq => ?_⟩
  obtain ⟨sA, m, d, hs', hg⟩ := hq
  rw [ht.cell (p := ⟨hx, 0, none⟩) (World.block_lt_of_cell? w _ hs) hne] at hs'
  exact .inl ⟨sA, m, d, hs', hg⟩
theorem HFram.box {w w1 : World} {hx : Nat} {sA sB : Option Addr} {n c m d : Nat} {v0 : Value} (hs : w.cell? ⟨hx, 0, none⟩ = some (.slice sA n c)) (hg : w.grownBy w1 (Value.slice sA n c).ownBlock) (h1 : w1.cell? ⟨hx, 0, none⟩ = some v0)
    (hat : (Value.slice sB m d).ownBlock = (Value.slice sA n c).ownBlock ∨ ∃ b, (Value.slice sB m d).ownBlock = some b ∧ w.heap.size ≤ b) : HFram w (w1.setCell ⟨hx, 0, none⟩ (.slice sB m d)) hx := by
  refine ⟨((tch_grown hg).mono (fun q _ hq => .inr ⟨sA, n, c, hs, hq.symm⟩)).setCell (a := ⟨hx, 0, none⟩) (.inl rfl) _, fun q hq => ?_⟩
  obtain ⟨sA', n', c', hs', hg'⟩ := hq
  rw [World.cell?_setCell_same w1 _ _ h1] at hs'
  cases hs'
  rcases hat with e | ⟨b, e, hb⟩
  · exact .inl ⟨sA, n, c, hs, by rw [← e]; exact hg'⟩
  · rw [e] at hg'
    cases hg'
    exact .inr hb
section
variable {w w' : World} {base hx : Nat} {L : List Nat}
theorem HeapR.lt (h : HeapR w base hx L) : hx < w.heap.size := by
  obtain ⟨A, c, hs, _⟩ := h.row
  exact World.block_lt_of_cell? w _ hs
theorem HeapR.other (h : HeapR w base hx L) (hb : Below w.heap.size w w') : HeapR w' base hx L := by
  obtain ⟨A, c, hs, ho⟩ := h.row
  exact ⟨⟨A, c, (hb.cell (p := ⟨hx, 0, none⟩) h.lt).trans hs, own_keep ho hb⟩, (hb.frozen (p := ⟨hx, 0, none⟩) h.lt).trans h.fz, fun A' c' hs' => h.ne A' c' ((hb.cell (p := ⟨hx, 0, none⟩) h.lt).symm.trans hs')⟩
theorem HeapR.form (h : HeapR w base hx L) (hn : 0 < L.length) : ∃ g c, w.cell? ⟨hx, 0, none⟩ = some (.slice (some ⟨g, 0, none⟩) L.length c) ∧ w.ownsRow base 3 1 (.slice (some ⟨g, 0, none⟩) L.length c) L.length (nvs L) ∧ hx ≠ g ∧ L.length ≤ c ∧ c ≤ 9223372036854775807 := by
  obtain ⟨A, c, hs, ho⟩ := h.row
  have hne := h.ne A c hs
  obtain ⟨A', c', e, h1, h2⟩ := own_form ho
  cases e
  rcases ho.2 with ⟨_, e⟩ | ⟨g, cap, cur, e, hb, _⟩
  · omega
  · obtain ⟨rfl, _⟩ := Value.slice.inj e
    exact ⟨g, c, hs, ho, hne g rfl, h1, h2⟩
end
set_option maxHeartbeats 2000000 in
set_option maxRecDepth 100000 in
theorem linePush_calls (base hx x : Nat) (L : List Nat) (w : World) (h : HeapR w base hx L) (hb : base ≤ w.heap.size) (hl : L.length < 5000) :
    Calls Try.prog 70 #[ptr hx, .iface 3 (.int .i64 x)] w fun e w' => e = .returned (.tuple #[]) ∧ HeapR w' base hx (L ++ [x]) ∧ HFram w w' hx := by
  obtain ⟨A, c, hs, hown⟩ := h.row
  have hlt := h.lt
  have hne0 := h.ne A c hs
  have hfz := h.fz
  obtain ⟨i0, hi0, hz0, hz1, hz2⟩ := info_parts info3
  have hob : (Value.slice A L.length c).ownBlock ≠ some hx := fun e => hne0 hx e rfl
  have hfr : ∀ (w1 : World), Below w.heap.size w w1 → w1.frozen? ⟨hx, 0, none⟩ = false := fun w1 hb1 => (hb1.frozen (p := ⟨hx, 0, none⟩) hlt).trans hfz
  have HFZ := Lib.hid hfr
  have HNE := Lib.hid hne0
  clear h hfr hne0
  have hta : ∀ W : World, (Instr.typeAssert (.iface 3 (.int .i64 x)) 20 3 false).run Try.prog W = .ok (.int .i64 x) W := fun W => by kernel_rfl
  go_enter Try.func70, Try.ntmps70
  go_wp2_with fail
  go_region_law (
    (refine step_append_lies _ (by rfl) _ _ _ (by rfl) base 3 i0 _ 1 8 Try.underlying67 hi0 hz0 hz1 hz2 rfl (by omega) _ _ _ (by rfl) ((hown.alloc _).drew)
        ⟨w.heap.size, 0, none⟩ 1 1 [.int .i64 x] (by rfl) (by rfl) (World.news_of_block (cs := #[.int .i64 x]) (t := 3) (fr := (0, 0)) (heap_alloc_new w _)) (by simp [Value.oneCell'])
        (by omega) (by unfold maxLen; omega) (by omega) (by simp; omega) (w.heap.size + 1) (by simp) ?_; intro gg cap w1 hown1 hgrow hat hlt1; have hcs1 : w1.cell? ⟨hx, 0, none⟩ = some (.slice A L.length c) := (hgrow.cell_far ⟨hx, 0, none⟩ (by simp; omega) (Ne.symm hob)).trans (((below_alloc (Below.refl w.heap.size w) _).cell (p := ⟨hx, 0, none⟩) hlt).trans hs); have hfz1 : w1.frozen? ⟨hx, 0, none⟩ = false := (hgrow.frozen_far ⟨hx, 0, none⟩ (by simp; omega) (Ne.symm hob)).trans (HFZ.out _ (below_drewN (below_alloc (Below.refl w.heap.size w) _) 1))))
  all_goals
    have hbW : Below w.heap.size w (w.alloc (.cells #[.int .i64 x] 3)).drew := below_drewN (below_alloc (Below.refl w.heap.size w) _) 1
    have hsW := (hbW.cell (p := ⟨hx, 0, none⟩) hlt).trans hs
    have hat2 : (Value.slice (some ⟨gg, 0, none⟩) (L.length + 1) cap).ownBlock = (Value.slice A L.length c).ownBlock ∨ ∃ b, (Value.slice (some ⟨gg, 0, none⟩) (L.length + 1) cap).ownBlock = some b ∧ (w.alloc (.cells #[.int .i64 x] 3)).drew.heap.size ≤ b := by
      rcases hat with e | e
      · exact .inl e.symm
      · exact .inr ⟨gg, rfl, by rw [e]; simp⟩
    have hF := (HFram.other hbW hlt).trans (HFram.box hsW hgrow hcs1 hat2)
    have hset := Ap.setCell_tch w1 ⟨hx, 0, none⟩ (.slice (some ⟨gg, 0, none⟩) (L.length + 1) cap) (fun q => q = hx) rfl
    have hgb : hx ≠ gg := by
      rcases hat with e | e
      · exact HNE.out gg e
      · omega
    have hfin : HeapR (w1.setCell ⟨hx, 0, none⟩ (.slice (some ⟨gg, 0, none⟩) (L.length + 1) cap)) base hx (L ++ [x]) := by
      refine ⟨⟨some ⟨gg, 0, none⟩, cap, ?_, ?_⟩, (World.frozen?_setCell ..).trans hfz1, fun A' c' hs' g hg => ?_⟩
      · rw [List.length_append]
        exact World.cell?_setCell_same w1 _ _ hcs1
      · rw [List.length_append, nvs_snoc]
        exact own_tch hown1 hset (fun g hg e => by have : gg = g := by simpa [Value.ownBlock] using hg
                                                   omega)
      · rw [World.cell?_setCell_same w1 _ _ hcs1] at hs'
        rw [List.length_append] at hs'
        cases hs'
        have : gg = g := by simpa [Value.ownBlock] using hg
        omega
    have H := Lib.hid (And.intro hfin hF)
    clear hbW hsW hat2 hF hset hfin hgrow hown1 hat hcs1 hfz1
    go_wp2_with fail
    go_end0
    exact ⟨rfl, H.out⟩
end Go.Proofs.Ytnhnckhjcnjacaa.ST
