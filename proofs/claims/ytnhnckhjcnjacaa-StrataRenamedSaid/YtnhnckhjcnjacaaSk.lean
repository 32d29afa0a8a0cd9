/- Strata: the walks of heap.down, heap.Push, heap.Pop. -/
import Derived.Test.YtnhnckhjcnjacaaSj
namespace Go.Proofs.Ytnhnckhjcnjacaa.ST
open Go.RowKit Go.Proofs.YtnhnckhjcnjacaaKw Go.Proofs.YtnhnckhjcnjacaaSg Go.Proofs.YtnhnckhjcnjacaaSw
set_option linter.unusedVariables false
set_option linter.unusedSimpArgs false

def SomeBool (e : Ending) : Prop := ∃ b, e = .returned (.bool b)
set_option maxHeartbeats 4000000 in
set_option maxRecDepth 100000 in
theorem down_calls (base hx n : Nat) (L0 : List Nat) (w : World) (h : HeapR w base hx L0) (hn : n < L0.length) (hl : L0.length ≤ 5000) (hd : DnI L0 n 0) :
    Calls Try.prog 51 #[.iface 66 (ptr hx), .int .i64 0, .int .i64 n] w fun e w' => SomeBool e ∧ ∃ L, HeapR w' base hx L ∧ L.Perm L0 ∧ L.length = L0.length ∧ IsHp L n ∧ HFram w w' hx ∧ gN L n = gN L0 n := by
  have H := Lib.hid (And.intro h hd)
  clear h hd
  go_enter Try.func51, Try.ntmps51
  go_wp2_with fail
  go_loopw [7] (fun i wr => ∃ (k : Nat) (L : List Nat), k ≤ 5000 ∧ i = .int .i64 k ∧ HeapR wr base hx L ∧ L.length = L0.length ∧ L.Perm L0 ∧ DnI L n k ∧ HFram w wr hx ∧ gN L n = gN L0 n) (fun i _ => 5001 - (intOf i).toNat)
  case atStart => exact ⟨0, L0, by omega, rfl, H.out.1, rfl, List.Perm.refl _, H.out.2, HFram.refl _ _, rfl⟩
  case round =>
    clear H
    obtain ⟨k, L, hk, rfl, hH, hlen, hp, hu, hF, hlast⟩ := hrel
    obtain ⟨g, c, hs, ho, hne, hc1, hc2⟩ := hH.form (by omega)
    obtain ⟨j1, hj1⟩ : ∃ j1 : Nat, j1 = 2 * k + 1 := ⟨_, rfl⟩
    have hq1 : 2 * (k : Int) + 1 = (j1 : Int) := by omega
    obtain ⟨j2, hj2⟩ : ∃ j2 : Nat, j2 = j1 + 1 := ⟨_, rfl⟩
    have hq2 : (j1 : Int) + 1 = (j2 : Int) := by omega
    have hch : ∀ m, 0 < m → par m = k → m = j1 ∨ m = j2 := fun m h0 hm => by unfold par at hm; omega
    have hpj1 : par j1 = k := by unfold par; omega
    have hpj2 : par j2 = k := by unfold par; omega
    by_cases hn1 : n ≤ j1
    · have HX0 := Lib.hid (show ∃ L, HeapR wr base hx L ∧ L.Perm L0 ∧ L.length = L0.length ∧ IsHp L n ∧ HFram w wr hx ∧ gN L n = gN L0 n from ⟨L, hH, hp, hlen, hu.stop (fun m h0 hm hp => by have := hch m h0 hp; omega), hF, hlast⟩)
      clear hH hp hu hF ho hs hch hlen hlast hj1 hj2
      go_wp2_with fail
      go_ret
      exact ⟨⟨_, rfl⟩, HX0.out⟩
    · have hj1n : j1 < n := by omega
      have hk2 : k < j1 := by omega
      have HK := Lib.hid (And.intro hch (And.intro hp (And.intro hu (And.intro hlen (And.intro hlast (And.intro hpj1 (And.intro hpj2 (And.intro hj1 hj2))))))))
      have hlL : L.length ≤ 5000 := by omega
      have hnL : n < L.length := by omega
      have hjl : j1 < j2 := by omega
      clear hch hp hu hlen hlast hpj1 hpj2 hj1 hj2 hn1
      by_cases hn2 : j2 < n
      · have hml := meth_less hs
        have hless := less_calls g c j2 j1 L wr (by omega) (by omega) hlL (gN_fun ho)
        by_cases hlt2 : gN L j2 < gN L j1
        · rw [decide_eq_true hlt2] at hless
          have HLess := Lib.hid hless
          have HR := Lib.hid (And.intro hH (And.intro hF ho))
          have HL2 := Lib.hid hlt2
          clear hless hH hF ho hlt2
          go_wp2_with fail
          refine HLess.out.mono ?_
          rintro e w2 ⟨rfl, m, hw2⟩
          have hb2 : Below wr.heap.size wr w2 := by rw [hw2]; exact ⟨rfl, rfl, rfl, Nat.le_refl _, fun _ _ => rfl⟩
          have hH2 := HR.out.1.other hb2
          have hF2 := HR.out.2.1.trans (HFram.other hb2 HR.out.1.lt)
          have ho2 := own_keep HR.out.2.2 hb2
          have hs2 := (hb2.cell (p := ⟨hx, 0, none⟩) HR.out.1.lt).trans hs
          have HJ := Lib.hid (show par j2 = k ∧ ∀ m, 0 < m → m < n → par m = k → gN L j2 ≤ gN L m from ⟨HK.out.2.2.2.2.2.2.1, fun m h0 hm hp => by have := HL2.out; rcases HK.out.1 m h0 hp with rfl | rfl <;> omega⟩)
          have hjn : j2 < n := hn2
          clear hw2 hb2 hs hml HR HLess hq1 hq2
          have hml2 := meth_less hs2
          have hless2 := less_calls g c j2 k L w2 (by omega) (by omega) hlL (gN_fun ho2)
          by_cases hlt : gN L j2 < gN L k
          · rw [decide_eq_true hlt] at hless2
            have HLess2 := Lib.hid hless2
            have HR2 := Lib.hid (And.intro hH2 (And.intro hF2 ho2))
            have HLT := Lib.hid hlt
            clear hless2 hH2 hF2 ho2 hlt
            go_wp2_with fail
            refine HLess2.out.mono ?_
            rintro e w3 ⟨rfl, m3, rfl⟩
            have hms := meth_swap (w := w2.drewN m3) hs2
            have hsw := swap_calls base g c k j2 L (w2.drewN m3) (by omega) (by omega) hlL (own_keep HR2.out.2.2 ⟨rfl, rfl, rfl, Nat.le_refl _, fun _ _ => rfl⟩)
            have HSw := Lib.hid hsw
            clear hsw hml2
            go_wp2_with fail
            refine HSw.out.mono ?_
            rintro e w4 ⟨rfl, ho4, ht4⟩
            have hH4 := HR2.out.1.swapped hs2 ho4 ht4 hne
            have hF4 := HR2.out.2.1.trans (HFram.drin hs2 ht4 hne)
            have hstep := HK.out.2.2.1.step (by omega) (by omega) hjn HJ.out.1 HJ.out.2 HLT.out
            have hl4 : gN (swL L k j2) n = gN L0 n := by rw [swL_get (by omega) (by omega), if_neg (by omega), if_neg (by omega)]; exact HK.out.2.2.2.2.1
            have HZ := Lib.hid (And.intro hH4 (And.intro hF4 (And.intro hstep (And.intro hl4 ((swL_perm (L := L) (i := k) (k := j2) (by omega) (by omega)).trans HK.out.2.1)))))
            clear hH4 hF4 hstep hl4 ho4 ht4 hms hs2
            go_wp2_with fail
            go_roundw
            case rel => exact ⟨j2, swL L k j2, by omega, rfl, HZ.out.1, by rw [swL_len]; exact HK.out.2.2.2.1, HZ.out.2.2.2.2, HZ.out.2.2.1, HZ.out.2.1, HZ.out.2.2.2.1⟩
            case measure => simp [intOf]; omega
          · rw [decide_eq_false hlt] at hless2
            have HLess2 := Lib.hid hless2
            have HX := Lib.hid (show ∀ m, ∃ L, HeapR (w2.drewN m) base hx L ∧ L.Perm L0 ∧ L.length = L0.length ∧ IsHp L n ∧ HFram w (w2.drewN m) hx ∧ gN L n = gN L0 n from fun m => ⟨L, hH2.other ⟨rfl, rfl, rfl, Nat.le_refl _, fun _ _ => rfl⟩, HK.out.2.1, HK.out.2.2.2.1, HK.out.2.2.1.stop (fun m h0 hm hp => Nat.le_trans (Nat.le_of_not_lt hlt) (HJ.out.2 m h0 hm hp)), hF2.trans (HFram.other ⟨rfl, rfl, rfl, Nat.le_refl _, fun _ _ => rfl⟩ hH2.lt), HK.out.2.2.2.2.1⟩)
            clear hless2 hH2 hF2 ho2 hlt
            go_wp2_with fail
            refine HLess2.out.mono ?_
            rintro e w3 ⟨rfl, m3, rfl⟩
            have HX3 := Lib.hid (HX.out m3)
            go_wp2_with fail
            go_ret
            exact ⟨⟨_, rfl⟩, HX3.out⟩
        · rw [decide_eq_false hlt2] at hless
          have HLess := Lib.hid hless
          have HR := Lib.hid (And.intro hH (And.intro hF ho))
          have HL2 := Lib.hid hlt2
          clear hless hH hF ho hlt2
          go_wp2_with fail
          refine HLess.out.mono ?_
          rintro e w2 ⟨rfl, m, hw2⟩
          have hb2 : Below wr.heap.size wr w2 := by rw [hw2]; exact ⟨rfl, rfl, rfl, Nat.le_refl _, fun _ _ => rfl⟩
          have hH2 := HR.out.1.other hb2
          have hF2 := HR.out.2.1.trans (HFram.other hb2 HR.out.1.lt)
          have ho2 := own_keep HR.out.2.2 hb2
          have hs2 := (hb2.cell (p := ⟨hx, 0, none⟩) HR.out.1.lt).trans hs
          have HJ := Lib.hid (show par j1 = k ∧ ∀ m, 0 < m → m < n → par m = k → gN L j1 ≤ gN L m from ⟨HK.out.2.2.2.2.2.1, fun m h0 hm hp => by have := HL2.out; rcases HK.out.1 m h0 hp with rfl | rfl <;> omega⟩)
          have hjn : j1 < n := hj1n
          clear hw2 hb2 hs hml HR HLess hq1 hq2
          have hml2 := meth_less hs2
          have hless2 := less_calls g c j1 k L w2 (by omega) (by omega) hlL (gN_fun ho2)
          by_cases hlt : gN L j1 < gN L k
          · rw [decide_eq_true hlt] at hless2
            have HLess2 := Lib.hid hless2
            have HR2 := Lib.hid (And.intro hH2 (And.intro hF2 ho2))
            have HLT := Lib.hid hlt
            clear hless2 hH2 hF2 ho2 hlt
            go_wp2_with fail
            refine HLess2.out.mono ?_
            rintro e w3 ⟨rfl, m3, rfl⟩
            have hms := meth_swap (w := w2.drewN m3) hs2
            have hsw := swap_calls base g c k j1 L (w2.drewN m3) (by omega) (by omega) hlL (own_keep HR2.out.2.2 ⟨rfl, rfl, rfl, Nat.le_refl _, fun _ _ => rfl⟩)
            have HSw := Lib.hid hsw
            clear hsw hml2
            go_wp2_with fail
            refine HSw.out.mono ?_
            rintro e w4 ⟨rfl, ho4, ht4⟩
            have hH4 := HR2.out.1.swapped hs2 ho4 ht4 hne
            have hF4 := HR2.out.2.1.trans (HFram.drin hs2 ht4 hne)
            have hstep := HK.out.2.2.1.step (by omega) (by omega) hjn HJ.out.1 HJ.out.2 HLT.out
            have hl4 : gN (swL L k j1) n = gN L0 n := by rw [swL_get (by omega) (by omega), if_neg (by omega), if_neg (by omega)]; exact HK.out.2.2.2.2.1
            have HZ := Lib.hid (And.intro hH4 (And.intro hF4 (And.intro hstep (And.intro hl4 ((swL_perm (L := L) (i := k) (k := j1) (by omega) (by omega)).trans HK.out.2.1)))))
            clear hH4 hF4 hstep hl4 ho4 ht4 hms hs2
            go_wp2_with fail
            go_roundw
            case rel => exact ⟨j1, swL L k j1, by omega, rfl, HZ.out.1, by rw [swL_len]; exact HK.out.2.2.2.1, HZ.out.2.2.2.2, HZ.out.2.2.1, HZ.out.2.1, HZ.out.2.2.2.1⟩
            case measure => simp [intOf]; omega
          · rw [decide_eq_false hlt] at hless2
            have HLess2 := Lib.hid hless2
            have HX := Lib.hid (show ∀ m, ∃ L, HeapR (w2.drewN m) base hx L ∧ L.Perm L0 ∧ L.length = L0.length ∧ IsHp L n ∧ HFram w (w2.drewN m) hx ∧ gN L n = gN L0 n from fun m => ⟨L, hH2.other ⟨rfl, rfl, rfl, Nat.le_refl _, fun _ _ => rfl⟩, HK.out.2.1, HK.out.2.2.2.1, HK.out.2.2.1.stop (fun m h0 hm hp => Nat.le_trans (Nat.le_of_not_lt hlt) (HJ.out.2 m h0 hm hp)), hF2.trans (HFram.other ⟨rfl, rfl, rfl, Nat.le_refl _, fun _ _ => rfl⟩ hH2.lt), HK.out.2.2.2.2.1⟩)
            clear hless2 hH2 hF2 ho2 hlt
            go_wp2_with fail
            refine HLess2.out.mono ?_
            rintro e w3 ⟨rfl, m3, rfl⟩
            have HX3 := Lib.hid (HX.out m3)
            go_wp2_with fail
            go_ret
            exact ⟨⟨_, rfl⟩, HX3.out⟩
      · have HJ := Lib.hid (show par j1 = k ∧ ∀ m, 0 < m → m < n → par m = k → gN L j1 ≤ gN L m from ⟨HK.out.2.2.2.2.2.1, fun m h0 hm hp => by rcases HK.out.1 m h0 hp with rfl | rfl <;> omega⟩)
        have hjn : j1 < n := hj1n
        have hH2 := hH
        have hF2 := hF
        have ho2 := ho
        have hs2 := hs
        clear hH hF ho hs
        generalize hww : wr = w2 at *
        clear hww
        have hml2 := meth_less hs2
        have hless2 := less_calls g c j1 k L w2 (by omega) (by omega) hlL (gN_fun ho2)
        by_cases hlt : gN L j1 < gN L k
        · rw [decide_eq_true hlt] at hless2
          have HLess2 := Lib.hid hless2
          have HR2 := Lib.hid (And.intro hH2 (And.intro hF2 ho2))
          have HLT := Lib.hid hlt
          clear hless2 hH2 hF2 ho2 hlt
          go_wp2_with fail
          refine HLess2.out.mono ?_
          rintro e w3 ⟨rfl, m3, rfl⟩
          have hms := meth_swap (w := w2.drewN m3) hs2
          have hsw := swap_calls base g c k j1 L (w2.drewN m3) (by omega) (by omega) hlL (own_keep HR2.out.2.2 ⟨rfl, rfl, rfl, Nat.le_refl _, fun _ _ => rfl⟩)
          have HSw := Lib.hid hsw
          clear hsw hml2
          go_wp2_with fail
          refine HSw.out.mono ?_
          rintro e w4 ⟨rfl, ho4, ht4⟩
          have hH4 := HR2.out.1.swapped hs2 ho4 ht4 hne
          have hF4 := HR2.out.2.1.trans (HFram.drin hs2 ht4 hne)
          have hstep := HK.out.2.2.1.step (by omega) (by omega) hjn HJ.out.1 HJ.out.2 HLT.out
          have hl4 : gN (swL L k j1) n = gN L0 n := by rw [swL_get (by omega) (by omega), if_neg (by omega), if_neg (by omega)]; exact HK.out.2.2.2.2.1
          have HZ := Lib.hid (And.intro hH4 (And.intro hF4 (And.intro hstep (And.intro hl4 ((swL_perm (L := L) (i := k) (k := j1) (by omega) (by omega)).trans HK.out.2.1)))))
          clear hH4 hF4 hstep hl4 ho4 ht4 hms hs2
          go_wp2_with fail
          go_roundw
          case rel => exact ⟨j1, swL L k j1, by omega, rfl, HZ.out.1, by rw [swL_len]; exact HK.out.2.2.2.1, HZ.out.2.2.2.2, HZ.out.2.2.1, HZ.out.2.1, HZ.out.2.2.2.1⟩
          case measure => simp [intOf]; omega
        · rw [decide_eq_false hlt] at hless2
          have HLess2 := Lib.hid hless2
          have HX := Lib.hid (show ∀ m, ∃ L, HeapR (w2.drewN m) base hx L ∧ L.Perm L0 ∧ L.length = L0.length ∧ IsHp L n ∧ HFram w (w2.drewN m) hx ∧ gN L n = gN L0 n from fun m => ⟨L, hH2.other ⟨rfl, rfl, rfl, Nat.le_refl _, fun _ _ => rfl⟩, HK.out.2.1, HK.out.2.2.2.1, HK.out.2.2.1.stop (fun m h0 hm hp => Nat.le_trans (Nat.le_of_not_lt hlt) (HJ.out.2 m h0 hm hp)), hF2.trans (HFram.other ⟨rfl, rfl, rfl, Nat.le_refl _, fun _ _ => rfl⟩ hH2.lt), HK.out.2.2.2.2.1⟩)
          clear hless2 hH2 hF2 ho2 hlt
          go_wp2_with fail
          refine HLess2.out.mono ?_
          rintro e w3 ⟨rfl, m3, rfl⟩
          have HX3 := Lib.hid (HX.out m3)
          go_wp2_with fail
          go_ret
          exact ⟨⟨_, rfl⟩, HX3.out⟩
end Go.Proofs.Ytnhnckhjcnjacaa.ST
