/- Strata: the walks of heap.Push and heap.Pop. -/
import Derived.Test.YtnhnckhjcnjacaaSi
namespace Go.Proofs.Ytnhnckhjcnjacaa.ST
open Go.RowKit Go.Proofs.YtnhnckhjcnjacaaKw Go.Proofs.YtnhnckhjcnjacaaSg Go.Proofs.YtnhnckhjcnjacaaSw
set_option linter.unusedVariables false
set_option linter.unusedSimpArgs false

theorem gN_fun {w : World} {base g c : Nat} {L : List Nat} (h : w.ownsRow base 3 1 (.slice (some ⟨g, 0, none⟩) L.length c) L.length (nvs L)) : ∀ j, j < L.length → w.cell? ⟨g, j, none⟩ = some (.int .i64 (gN L j)) := fun j hj => nvs_cell h hj
set_option maxHeartbeats 2000000 in
set_option maxRecDepth 100000 in
theorem linePop_calls (base hx : Nat) (L : List Nat) (w : World) (h : HeapR w base hx L) (h0 : 0 < L.length) (hl : L.length ≤ 5000) :
    Calls Try.prog 69 #[ptr hx] w fun e w' => e = .returned (.iface 3 (.int .i64 (gN L (L.length - 1)))) ∧ HeapR w' base hx (L.take (L.length - 1)) ∧ HFram w w' hx := by
  obtain ⟨g, c, hs, ho, hne, hc1, hc2⟩ := h.form h0
  have hcell := gN_fun ho (L.length - 1) (by omega)
  have hfz := h.fz
  have hset := Ap.setCell_tch w ⟨hx, 0, none⟩ (.slice (some ⟨g, 0, none⟩) (L.length - 1) c) (fun q => q = hx) rfl
  have hfin : HeapR (w.setCell ⟨hx, 0, none⟩ (.slice (some ⟨g, 0, none⟩) (L.length - 1) c)) base hx (L.take (L.length - 1)) := by
    have hlen : (L.take (L.length - 1)).length = L.length - 1 := by rw [List.length_take]; omega
    refine ⟨⟨some ⟨g, 0, none⟩, c, ?_, ?_⟩, (World.frozen?_setCell ..).trans hfz, fun A' c' hs' q hq => ?_⟩
    · rw [hlen]
      exact World.cell?_setCell_same w _ _ hs
    · have := Ap.own_prefix (m := L.length - 1) ho (by omega)
      rw [nvs_take] at this
      rw [hlen]
      exact own_tch this hset (fun q hq e => by have : g = q := by simpa [Value.ownBlock] using hq
                                                omega)
    · rw [World.cell?_setCell_same w _ _ hs, hlen] at hs'
      rw [hlen] at hq
      cases hs'
      have : g = q := by simpa [Value.ownBlock] using hq
      omega
  have hF : HFram w (w.setCell ⟨hx, 0, none⟩ (.slice (some ⟨g, 0, none⟩) (L.length - 1) c)) hx := HFram.box hs ⟨rfl, rfl, rfl, Nat.le_refl _, fun _ _ _ => rfl⟩ hs (.inl rfl)
  have H := Lib.hid (And.intro hfin hF)
  have e1 : (L.length : Int) - 1 = ((L.length - 1 : Nat) : Int) := by omega
  have hm : L.length - 1 < L.length := by omega
  clear hfin hF hset ho h
  generalize gN L (L.length - 1) = x at *
  generalize L.length - 1 = m at *
  go_enter Try.func69, Try.ntmps69
  go_wp2_with fail
  go_ret
  exact ⟨rfl, H.out⟩
theorem HeapR.swapped {wr w3 : World} {base hx g c i k m : Nat} {L : List Nat} (h : HeapR wr base hx L) (hs : wr.cell? ⟨hx, 0, none⟩ = some (.slice (some ⟨g, 0, none⟩) L.length c)) (ho : w3.ownsRow base 3 1 (.slice (some ⟨g, 0, none⟩) L.length c) L.length (nvs (swL L i k)))
    (ht : Tch (fun q => q = g) (wr.drewN m) w3) (hne : hx ≠ g) : HeapR w3 base hx (swL L i k) := by
  refine ⟨⟨some ⟨g, 0, none⟩, c, ?_, by rw [swL_len]; exact ho⟩, (ht.frozen (p := ⟨hx, 0, none⟩) h.lt hne).trans h.fz, fun A' c' hs' q hq => ?_⟩
  · rw [swL_len]
    exact (ht.cell (p := ⟨hx, 0, none⟩) h.lt hne).trans hs
  · rw [swL_len] at hs' hq
    exact h.ne A' c' ((ht.cell (p := ⟨hx, 0, none⟩) h.lt hne).symm.trans hs') q hq
theorem HFram.drin {w w' : World} {hx g n c m : Nat} (hs : w.cell? ⟨hx, 0, none⟩ = some (.slice (some ⟨g, 0, none⟩) n c)) (ht : Tch (fun q => q = g) (w.drewN m) w') (hne : hx ≠ g) : HFram w w' hx :=
  HFram.trans (w := w) (w1 := w.drewN m) (w2 := w') (HFram.other ⟨rfl, rfl, rfl, Nat.le_refl _, fun _ _ => rfl⟩ (World.block_lt_of_cell? w _ hs)) (HFram.in (w := w.drewN m) hs ht hne)
set_option maxHeartbeats 4000000 in
set_option maxRecDepth 100000 in
theorem up_calls (base hx : Nat) (L0 : List Nat) (j0 : Nat) (w : World) (h : HeapR w base hx L0) (hj : j0 < L0.length) (hl : L0.length ≤ 5000) (hu : UpI L0 L0.length j0) :
    Calls Try.prog 50 #[.iface 66 (ptr hx), .int .i64 j0] w fun e w' => e = .returned (.tuple #[]) ∧ ∃ L, HeapR w' base hx L ∧ L.Perm L0 ∧ IsHp L L.length ∧ HFram w w' hx := by
  have H := Lib.hid (And.intro h hu)
  clear h hu
  go_enter Try.func50, Try.ntmps50
  go_wp2_with fail
  go_loopw [1] (fun j wr => ∃ (k : Nat) (L : List Nat), k < L0.length ∧ j = .int .i64 k ∧ HeapR wr base hx L ∧ L.length = L0.length ∧ L.Perm L0 ∧ UpI L L.length k ∧ HFram w wr hx) (fun j _ => (intOf j).toNat)
  case atStart => exact ⟨j0, L0, hj, rfl, H.out.1, rfl, List.Perm.refl _, H.out.2, HFram.refl _ _⟩
  case round =>
    clear H
    obtain ⟨k, L, hk, rfl, hH, hlen, hp, hu, hF⟩ := hrel
    obtain ⟨g, c, hs, ho, hne, hc1, hc2⟩ := hH.form (by omega)
    by_cases hk0 : k = 0
    · have HX := Lib.hid (show ∃ L, HeapR wr base hx L ∧ L.Perm L0 ∧ IsHp L L.length ∧ HFram w wr hx from ⟨L, hH, hp, hu.stop (.inl hk0), hF⟩)
      clear hH hp hu hF ho hs hlen
      subst hk0
      go_wp2_with fail
      go_end0
      exact ⟨rfl, HX.out⟩
    · have hpk : par k < k := by unfold par; omega
      have hq : ((k : Int) - 1) / 2 = ((par k : Nat) : Int) := by unfold par; omega
      have hnek : ¬ ((par k : Nat) : Int) = (k : Int) := by omega
      have hml := meth_less hs
      have hless := less_calls g c k (par k) L wr (by omega) (by omega) (by omega) (gN_fun ho)
      by_cases hlt : gN L k < gN L (par k)
      · rw [decide_eq_true hlt] at hless
        have hstep := hu.step (Nat.le_refl _) (by omega) (by omega) hlt
        have HQ := Lib.hid (And.intro hH (And.intro hp (And.intro hstep (And.intro hF ho))))
        have HL := Lib.hid hlen
        have hk' : k < L.length := by omega
        have hl' : L.length ≤ 5000 := by omega
        have HLess := Lib.hid hless
        clear hH hp hu hF ho hlt hless hstep hlen
        generalize par k = p at *
        go_wp2_with fail
        refine HLess.out.mono ?_
        rintro e w2 ⟨rfl, m, rfl⟩
        have hms := meth_swap (w := wr.drewN m) hs
        have hsw := swap_calls base g c p k L (wr.drewN m) (by omega) hk' hl' (own_keep HQ.out.2.2.2.2 ⟨rfl, rfl, rfl, Nat.le_refl _, fun _ _ => rfl⟩)
        have HSw := Lib.hid hsw
        clear hsw hml
        go_wp2_with fail
        refine HSw.out.mono ?_
        rintro e w3 ⟨rfl, ho3, ht3⟩
        have hH3 := HQ.out.1.swapped hs ho3 ht3 hne
        have hF3 := HQ.out.2.2.2.1.trans (HFram.drin hs ht3 hne)
        have HZ := Lib.hid (And.intro hH3 (And.intro ((swL_perm (L := L) (i := p) (k := k) (by omega) hk').trans HQ.out.2.1) (And.intro HQ.out.2.2.1 hF3)))
        clear hH3 hF3 ho3 ht3 hms hs
        go_wp2_with fail
        go_roundw
        case rel => exact ⟨p, swL L p k, by omega, rfl, HZ.out.1, by rw [swL_len]; exact HL.out, HZ.out.2.1, by rw [swL_len]; exact HZ.out.2.2.1, HZ.out.2.2.2⟩
        case measure => simp [intOf]; omega
      · rw [decide_eq_false hlt] at hless
        have HX := Lib.hid (show ∀ m, ∃ L, HeapR (wr.drewN m) base hx L ∧ L.Perm L0 ∧ IsHp L L.length ∧ HFram w (wr.drewN m) hx from fun m => ⟨L, hH.other ⟨rfl, rfl, rfl, Nat.le_refl _, fun _ _ => rfl⟩, hp, hu.stop (.inr (by omega)), hF.trans (HFram.other ⟨rfl, rfl, rfl, Nat.le_refl _, fun _ _ => rfl⟩ hH.lt)⟩)
        have HLess := Lib.hid hless
        clear hH hp hu hF ho hlt hless hlen
        generalize par k = p at *
        go_wp2_with fail
        refine HLess.out.mono ?_
        rintro e w2 ⟨rfl, m, rfl⟩
        have HX2 := Lib.hid (HX.out m)
        go_wp2_with fail
        go_end0
        exact ⟨rfl, HX2.out⟩
end Go.Proofs.Ytnhnckhjcnjacaa.ST
