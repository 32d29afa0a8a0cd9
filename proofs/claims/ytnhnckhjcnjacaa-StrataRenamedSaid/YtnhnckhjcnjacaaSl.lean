/- Strata: the walks of heap.Push and heap.Pop. -/
import Derived.Test.YtnhnckhjcnjacaaSk
namespace Go.Proofs.Ytnhnckhjcnjacaa.ST
open Go.RowKit Go.Proofs.YtnhnckhjcnjacaaKw Go.Proofs.YtnhnckhjcnjacaaSg Go.Proofs.YtnhnckhjcnjacaaSw
set_option linter.unusedVariables false
set_option linter.unusedSimpArgs false

theorem HeapR.cellA {w : World} {base hx : Nat} {L : List Nat} (h : HeapR w base hx L) : ∃ A c, w.cell? ⟨hx, 0, none⟩ = some (.slice A L.length c) := by
  obtain ⟨A, c, hs, _⟩ := h.row
  exact ⟨A, c, hs⟩
set_option maxHeartbeats 2000000 in
set_option maxRecDepth 100000 in
theorem hpush_calls (base hx x : Nat) (L : List Nat) (w : World) (h : HeapR w base hx L) (hb : base ≤ w.heap.size) (hl : L.length < 5000) (hh : IsHp L L.length) :
    Calls Try.prog 42 #[.iface 66 (ptr hx), .iface 3 (.int .i64 x)] w fun e w' => e = .returned (.tuple #[]) ∧ ∃ L', HeapR w' base hx L' ∧ L'.Perm (x :: L) ∧ IsHp L' L'.length ∧ HFram w w' hx := by
  have hmp := meth_push hx w
  have hlp := linePush_calls base hx x L w h hb hl
  have HP := Lib.hid hlp
  have hup := hh.push x
  have HU := Lib.hid (show UpI (L ++ [x]) (L ++ [x]).length L.length by rw [List.length_append]; exact hup)
  have hlen : (L ++ [x]).length = L.length + 1 := by simp
  have HLen := Lib.hid hlen
  clear hlp hup h hh hlen
  go_enter Try.func42, Try.ntmps42
  go_wp2_with fail
  refine HP.out.mono ?_
  rintro e w1 ⟨rfl, hH1, hF1⟩
  obtain ⟨A, c, hs⟩ := hH1.cellA
  have hml := meth_len hs
  have H1 := Lib.hid (And.intro hH1 hF1)
  clear hH1 hF1 hmp
  rw [HLen.out] at hml
  go_wp2_with fail
  refine (len_calls _ _ _ _).mono ?_
  rintro e wl ⟨rfl, rfl⟩
  have hu := up_calls base hx (L ++ [x]) L.length w1 H1.out.1 (by rw [HLen.out]; omega) (by rw [HLen.out]; omega) HU.out
  have HUp := Lib.hid hu
  clear hu hml hs
  go_wp2_with fail
  refine HUp.out.mono ?_
  rintro e w2 ⟨rfl, L', hH2, hp2, hh2, hF2⟩
  have HZ := Lib.hid (show ∃ L', HeapR w2 base hx L' ∧ L'.Perm (x :: L) ∧ IsHp L' L'.length ∧ HFram w w2 hx from ⟨L', hH2, hp2.trans (List.perm_append_comm (l₁ := L) (l₂ := [x])), hh2, H1.out.2.trans hF2⟩)
  clear hH2 hp2 hh2 hF2
  go_wp2_with fail
  go_end0
  exact ⟨rfl, HZ.out⟩
set_option maxHeartbeats 4000000 in
set_option maxRecDepth 100000 in
theorem hpop_calls (base hx : Nat) (L : List Nat) (w : World) (h : HeapR w base hx L) (h0 : 0 < L.length) (hl : L.length ≤ 5000) (hh : IsHp L L.length) :
    Calls Try.prog 44 #[.iface 66 (ptr hx)] w fun e w' => e = .returned (.iface 3 (.int .i64 (gN L 0))) ∧ ∃ L', HeapR w' base hx L' ∧ L.Perm (gN L 0 :: L') ∧ IsHp L' L'.length ∧ HFram w w' hx := by
  obtain ⟨g, c, hs, ho, hne, hc1, hc2⟩ := h.form h0
  obtain ⟨n, hn⟩ : ∃ n, n = L.length - 1 := ⟨_, rfl⟩
  have hq : (L.length : Int) - 1 = (n : Int) := by omega
  have hml := meth_len hs
  have hms := meth_swap hs
  have hsw : Calls Try.prog 71 #[.slice (some ⟨g, 0, none⟩) L.length c, .int .i64 0, .int .i64 n] w fun e w' => e = .returned (.tuple #[]) ∧ w'.ownsRow base 3 1 (.slice (some ⟨g, 0, none⟩) L.length c) L.length (nvs (swL L 0 n)) ∧ Tch (fun q => q = g) w w' := swap_calls base g c 0 n L w (by omega) (by omega) hl ho
  have hd := hh
  rw [show L.length = n + 1 by omega] at hd
  have hpop := IsHp.pop (by omega) hd
  have hg0 : gN (swL L 0 n) n = gN L 0 := by rw [swL_get (by omega) (by omega), if_pos rfl]
  have hnl : n < L.length := by omega
  have HQ := Lib.hid (And.intro h (And.intro hpop (And.intro hg0 (show L.length = n + 1 by omega))))
  have HSw := Lib.hid hsw
  clear hh hd hpop hg0 ho hn h hsw
  go_enter Try.func44, Try.ntmps44
  go_wp2_with fail
  refine (len_calls _ _ _ _).mono ?_
  rintro e wl ⟨rfl, rfl⟩
  go_wp2_with fail
  refine HSw.out.mono ?_
  rintro e w1 ⟨rfl, ho1, ht1⟩
  have hH1 := HQ.out.1.swapped (m := 0) hs ho1 ht1 hne
  have hF1 := HFram.drin (m := 0) hs ht1 hne
  have hdn := down_calls base hx n (swL L 0 n) w1 hH1 (by rw [swL_len]; exact hnl) (by rw [swL_len]; exact hl) HQ.out.2.1
  have HD := Lib.hid (And.intro hdn hF1)
  clear ho1 ht1 hH1 hF1 hdn hml hms hs
  go_wp2_with fail
  refine HD.out.1.mono ?_
  rintro e w2 ⟨⟨b, rfl⟩, L2, hH2, hp2, hl2, hh2, hF2, hlast⟩
  have hmpp := meth_pop hx w2
  have hpc := linePop_calls base hx L2 w2 hH2 (by rw [hl2, swL_len]; omega) (by rw [hl2, swL_len]; exact hl)
  have hl3 : L2.length - 1 = n := by rw [hl2, swL_len]; have := HQ.out.2.2.2; omega
  rw [hl3, hlast, HQ.out.2.2.1] at hpc
  have HPc := Lib.hid hpc
  have HE := Lib.hid (And.intro hp2 (And.intro hl2 (And.intro hh2 (And.intro hF2 hlast))))
  clear hpc hp2 hl2 hh2 hF2 hlast hl3 hH2
  go_wp2_with fail
  refine HPc.out.mono ?_
  rintro e w3 ⟨rfl, hH3, hF3⟩
  have hlen2 : L2.length = n + 1 := by rw [HE.out.2.1, swL_len]; exact HQ.out.2.2.2
  have hsplit : L2 = L2.take n ++ [gN L2 n] := by
    rw [gN_at (show n < L2.length by omega), ← List.take_succ_eq_append_getElem (by omega), List.take_of_length_le (by omega)]
  have HZ := Lib.hid (show ∃ L', HeapR w3 base hx L' ∧ L.Perm (gN L 0 :: L') ∧ IsHp L' L'.length ∧ HFram w w3 hx from ⟨L2.take n, hH3, by
    have hp := (swL_perm (L := L) (i := 0) (k := n) (by omega) hnl).symm.trans HE.out.1.symm
    rw [hsplit, HE.out.2.2.2.2, HQ.out.2.2.1] at hp
    exact hp.trans (List.perm_append_comm (l₁ := L2.take n) (l₂ := [gN L 0])), IsHp.take (by omega) HE.out.2.2.1, (HD.out.2.trans HE.out.2.2.2.1).trans hF3⟩)
  clear hH3 hF3 hlen2 hsplit
  go_wp2_with fail
  go_ret
  exact ⟨rfl, HZ.out⟩
end Go.Proofs.Ytnhnckhjcnjacaa.ST
