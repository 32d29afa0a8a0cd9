/- Strata: the walk of the law StrataLimits. -/
import Derived.Test.YtnhnckhjcnjacaaUq
import Derived.Test.YtnhnckhjcnjacaaTg
namespace Go.Proofs.Ytnhnckhjcnjacaa.ST
open Go.RowKit Go.Proofs.YtnhnckhjcnjacaaKw Go.Proofs.YtnhnckhjcnjacaaSg Go.Proofs.YtnhnckhjcnjacaaSw
set_option linter.unusedVariables false
set_option linter.unusedSimpArgs false

/-- While the arcs of the chain are laid. -/
structure AW (w0 w : World) (b n k : Nat) : Prop where
  ex : ∀ j, j < n * 3 → ∃ u, w.cell? ⟨b, j, none⟩ = some u
  val : ∀ i, i < k → w.cell? ⟨b, i * 3, none⟩ = some (.int .i64 (chA i).f) ∧ w.cell? ⟨b, i * 3 + 1, none⟩ = some (.int .i64 (chA i).t) ∧ w.cell? ⟨b, i * 3 + 2, none⟩ = some (.bool (chA i).neg)
  fz : ∀ j, w.frozen? ⟨b, j, none⟩ = false
  lo : w0.heap.size ≤ b
  lt : b < w.heap.size
  below : Below w0.heap.size w0 w
theorem AW.rd {w0 w : World} {b n k : Nat} (h : AW w0 w b n k) (s m : Nat) (hs : s + m ≤ k) : Rd w (some ⟨b, s * 3, none⟩) (avs ((List.range' s m).map chA)) := by
  rw [List.range'_eq_map_range, List.map_map]
  refine rd_rows 3 m (chA ∘ (s + ·)) AI.cells (fun _ => rfl) (fun i hi j u hu => ?_) (by omega)
  obtain ⟨h1, h2, h3⟩ := h.val (s + i) (by omega)
  rw [add_plain]
  rcases j with _ | _ | _ | j
  · simp [AI.cells] at hu
    subst hu
    rw [show s * 3 + (i * 3 + 0) = (s + i) * 3 by omega]
    exact h1
  · simp [AI.cells] at hu
    subst hu
    rw [show s * 3 + (i * 3 + (0 + 1)) = (s + i) * 3 + 1 by omega]
    exact h2
  · simp [AI.cells] at hu
    subst hu
    rw [show s * 3 + (i * 3 + (0 + 1 + 1)) = (s + i) * 3 + 2 by omega]
    exact h3
  · simp [AI.cells] at hu
theorem AW.chain {w0 w : World} {b n k : Nat} (h : AW w0 w b n k) (s m : Nat) (hs : s ≤ 1) (h1 : 4095 ≤ m) (h2 : m ≤ 262144) (hk : s + m ≤ k) : ∃ L, Chain L ∧ L.length = m ∧ Rd w (some ⟨b, s * 3, none⟩) (avs L) :=
  ⟨_, chain_range s m hs h1 h2, by simp, h.rd s m hk⟩
theorem AW.set {w0 w : World} {b n k : Nat} (h : AW w0 w b n k) (hk : k < n) :
    AW w0 (((w.setCell ⟨b, k * 3, none⟩ (.int .i64 ((k : Int) % 4095))).setCell ⟨b, k * 3 + 1, none⟩ (.int .i64 ((k : Int) % 4095 + 1))).setCell ⟨b, k * 3 + 2, none⟩ (.bool (decide (0 < (k : Int) % 3)))) b n (k + 1) := by
  have hne : ∀ (i j : Nat), i ≠ j → (⟨b, i, none⟩ : Addr) ≠ ⟨b, j, none⟩ := fun i j hij e => hij (by cases e; rfl)
  obtain ⟨u0, e0⟩ := h.ex (k * 3) (by omega)
  obtain ⟨u1, e1⟩ := h.ex (k * 3 + 1) (by omega)
  obtain ⟨u2, e2⟩ := h.ex (k * 3 + 2) (by omega)
  have c1 : ∀ j, j ≠ k * 3 → (w.setCell ⟨b, k * 3, none⟩ (.int .i64 ((k : Int) % 4095))).cell? ⟨b, j, none⟩ = w.cell? ⟨b, j, none⟩ := fun j hj => World.cell?_setCell_other w _ _ _ (hne _ _ hj.symm)
  have c0 : (w.setCell ⟨b, k * 3, none⟩ (.int .i64 ((k : Int) % 4095))).cell? ⟨b, k * 3, none⟩ = some (.int .i64 ((k : Int) % 4095)) := World.cell?_setCell_same w _ _ e0
  have t1 := Ap.setCell_tch w ⟨b, k * 3, none⟩ (.int .i64 ((k : Int) % 4095)) (fun q => q = b) rfl
  have z1 : ∀ j, (w.setCell ⟨b, k * 3, none⟩ (.int .i64 ((k : Int) % 4095))).frozen? ⟨b, j, none⟩ = false := fun j => by rw [World.frozen?_setCell]; exact h.fz j
  generalize w.setCell ⟨b, k * 3, none⟩ (.int .i64 ((k : Int) % 4095)) = w1 at *
  have d1 : ∀ j, j ≠ k * 3 + 1 → (w1.setCell ⟨b, k * 3 + 1, none⟩ (.int .i64 ((k : Int) % 4095 + 1))).cell? ⟨b, j, none⟩ = w1.cell? ⟨b, j, none⟩ := fun j hj => World.cell?_setCell_other w1 _ _ _ (hne _ _ hj.symm)
  have d0 : (w1.setCell ⟨b, k * 3 + 1, none⟩ (.int .i64 ((k : Int) % 4095 + 1))).cell? ⟨b, k * 3 + 1, none⟩ = some (.int .i64 ((k : Int) % 4095 + 1)) := World.cell?_setCell_same w1 _ _ ((c1 _ (by omega)).trans e1)
  have t2 := Ap.setCell_tch w1 ⟨b, k * 3 + 1, none⟩ (.int .i64 ((k : Int) % 4095 + 1)) (fun q => q = b) rfl
  have z2 : ∀ j, (w1.setCell ⟨b, k * 3 + 1, none⟩ (.int .i64 ((k : Int) % 4095 + 1))).frozen? ⟨b, j, none⟩ = false := fun j => by rw [World.frozen?_setCell]; exact z1 j
  generalize w1.setCell ⟨b, k * 3 + 1, none⟩ (.int .i64 ((k : Int) % 4095 + 1)) = w2 at *
  have f1 : ∀ j, j ≠ k * 3 + 2 → (w2.setCell ⟨b, k * 3 + 2, none⟩ (.bool (decide (0 < (k : Int) % 3)))).cell? ⟨b, j, none⟩ = w2.cell? ⟨b, j, none⟩ := fun j hj => World.cell?_setCell_other w2 _ _ _ (hne _ _ hj.symm)
  have f0 : (w2.setCell ⟨b, k * 3 + 2, none⟩ (.bool (decide (0 < (k : Int) % 3)))).cell? ⟨b, k * 3 + 2, none⟩ = some (.bool (decide (0 < (k : Int) % 3))) := World.cell?_setCell_same w2 _ _ ((d1 _ (by omega)).trans ((c1 _ (by omega)).trans e2))
  have t3 := Ap.setCell_tch w2 ⟨b, k * 3 + 2, none⟩ (.bool (decide (0 < (k : Int) % 3))) (fun q => q = b) rfl
  have z3 : ∀ j, (w2.setCell ⟨b, k * 3 + 2, none⟩ (.bool (decide (0 < (k : Int) % 3)))).frozen? ⟨b, j, none⟩ = false := fun j => by rw [World.frozen?_setCell]; exact z2 j
  generalize w2.setCell ⟨b, k * 3 + 2, none⟩ (.bool (decide (0 < (k : Int) % 3))) = w3 at *
  have hold : ∀ j, j ≠ k * 3 → j ≠ k * 3 + 1 → j ≠ k * 3 + 2 → w3.cell? ⟨b, j, none⟩ = w.cell? ⟨b, j, none⟩ := fun j h1 h2 h3 => (f1 j h3).trans ((d1 j h2).trans (c1 j h1))
  have v0 : w3.cell? ⟨b, k * 3, none⟩ = some (.int .i64 ((k : Int) % 4095)) := (f1 _ (by omega)).trans ((d1 _ (by omega)).trans c0)
  have v1 : w3.cell? ⟨b, k * 3 + 1, none⟩ = some (.int .i64 ((k : Int) % 4095 + 1)) := (f1 _ (by omega)).trans d0
  have hlo := h.lo
  refine ⟨fun j hj => ?_, fun i hi => ?_, z3, h.lo, Nat.lt_of_lt_of_le h.lt (Nat.le_trans t1.size (Nat.le_trans t2.size t3.size)), ?_⟩
  · by_cases h1 : j = k * 3
    · exact ⟨_, by rw [h1]; exact v0⟩
    · by_cases h2 : j = k * 3 + 1
      · exact ⟨_, by rw [h2]; exact v1⟩
      · by_cases h3 : j = k * 3 + 2
        · exact ⟨_, by rw [h3]; exact f0⟩
        · rw [hold j h1 h2 h3]
          exact h.ex j hj
  · by_cases e : i = k
    · subst e
      rw [v0, v1, f0]
      refine ⟨rfl, rfl, ?_⟩
      show some (Value.bool (decide (0 < (i : Int) % 3))) = some (.bool (decide (0 < i % 3)))
      rw [decide_eq_decide.2 (show 0 < (i : Int) % 3 ↔ 0 < i % 3 by omega)]
    · rw [hold _ (by omega) (by omega) (by omega), hold _ (by omega) (by omega) (by omega), hold _ (by omega) (by omega) (by omega)]
      exact h.val i (by omega)
  · have hb1 := below_tch h.below h.below.size t1 (fun q _ e => by omega)
    have hb2 := below_tch hb1 hb1.size t2 (fun q _ e => by omega)
    exact below_tch hb2 hb2.size t3 (fun q _ e => by omega)
theorem lim_strata (A : Option Addr) (c m : Nat) (L : List AI) (w : World) (hC : Chain L) (hr : Rd w A (avs L)) (hm : L.length = m) :
    Calls Try.prog 18 #[.int .i64 4096, .slice A m c] w fun e w' => (∃ b o c', e = .returned (.tuple #[.slice (some ⟨b, o, none⟩) 4096 c', .int .i64 0]) ∧ w'.cell? ⟨b, o, none⟩ = some (.int .i64 2730) ∧ w'.cell? ⟨b, o + 4095, none⟩ = some (.int .i64 0)) ∧ Below w.heap.size w w' := by
  subst hm
  refine (strata_ans A c (4096 : Nat) L w hr (by have := hC.len; omega)).mono ?_
  rw [hC.strata.1, hC.strata.2]
  rintro e w1 ⟨⟨A1, c1, rfl, ho⟩, hB⟩
  have hl : ((List.range 4096).map (SS 4096 L)).length = 4096 := by simp
  obtain ⟨b, o, rfl, h0⟩ := rd_int (own_rd ho) (j := 0) (by omega)
  have h1 := rd_intc (own_rd ho) (k := 4095) (by omega)
  have e0 : ((List.range 4096).map (SS 4096 L))[0]'(by omega) = 2730 := by
    simp only [List.getElem_map, List.getElem_range]
    rw [hC.SS 4095 0 rfl]
    rfl
  have e1 : ((List.range 4096).map (SS 4096 L))[4095]'(by omega) = 0 := by
    simp only [List.getElem_map, List.getElem_range]
    rw [hC.SS 0 4095 rfl]
    rfl
  rw [e0, Nat.add_zero] at h0
  rw [e1] at h1
  exact ⟨⟨b, o, c1, by rw [hl], h0, h1⟩, hB⟩
theorem lim_parts (A : Option Addr) (c m : Nat) (L : List AI) (w : World) (hC : Chain L) (hr : Rd w A (avs L)) (hm : L.length = m) :
    Calls Try.prog 14 #[.int .i64 4096, .slice A m c] w fun e w' => (∃ b o c', e = .returned (.tuple #[.slice (some ⟨b, o, none⟩) 4096 c', .int .i64 0]) ∧ w'.cell? ⟨b, o, none⟩ = some (.int .i64 4095) ∧ w'.cell? ⟨b, o + 4095, none⟩ = some (.int .i64 0)) ∧ Below w.heap.size w w' := by
  subst hm
  refine (parts_ans A c (4096 : Nat) L w hr (by have := hC.len; omega)).mono ?_
  rw [hC.parts, hC.good.fault]
  rintro e w1 ⟨⟨A1, c1, rfl, ho⟩, hB⟩
  have hl : ((List.range 4096).map fun v => ((4095 - v : Nat) : Int)).length = 4096 := by simp
  obtain ⟨b, o, rfl, h0⟩ := rd_int (own_rd ho) (j := 0) (by omega)
  have h1 := rd_intc (own_rd ho) (k := 4095) (by omega)
  have e0 : ((List.range 4096).map fun v => ((4095 - v : Nat) : Int))[0]'(by omega) = 4095 := by
    simp only [List.getElem_map, List.getElem_range]
    rfl
  have e1 : ((List.range 4096).map fun v => ((4095 - v : Nat) : Int))[4095]'(by omega) = 0 := by
    simp only [List.getElem_map, List.getElem_range]
    rfl
  rw [e0, Nat.add_zero] at h0
  rw [e1] at h1
  exact ⟨⟨b, o, c1, by rw [hl], h0, h1⟩, hB⟩
theorem lim_over (A : Option Addr) (c m : Nat) (L : List AI) (w : World) (hr : Rd w A (avs L)) (hm : L.length = m) (h1 : 262144 < m) (h2 : m ≤ 1000000) :
    Calls Try.prog 14 #[.int .i64 4096, .slice A m c] w fun e w' => (∃ A' c', e = .returned (.tuple #[.slice A' 0 c', .int .i64 3])) ∧ Below w.heap.size w w' := by
  subst hm
  have hf : fault (4096 : Nat) L = 3 := by
    unfold fault
    rw [if_neg (by omega), if_pos h1]
  refine (parts_ans A c (4096 : Nat) L w hr (by omega)).mono ?_
  have hv : partsV (4096 : Nat) L = [] := by unfold partsV; rw [if_pos (by rw [hf]; decide)]
  rw [hv, hf]
  rintro e w1 ⟨⟨A1, c1, rfl, ho⟩, hB⟩
  exact ⟨⟨A1, c1, rfl⟩, hB⟩
theorem lim_many (w : World) : Calls Try.prog 18 #[.int .i64 4097, .slice none 0 0] w fun e w' => (∃ A' c', e = .returned (.tuple #[.slice A' 0 c', .int .i64 2])) ∧ Below w.heap.size w w' := by
  have hf : fault (4097 : Int) [] = 2 := rfl
  refine (strata_ans none 0 (4097 : Int) [] w (.inl rfl) (by simp)).mono ?_
  have hv : strataV (4097 : Int) [] = [] := by unfold strataV; rw [if_pos (by rw [hf]; decide)]
  have he : strataE (4097 : Int) [] = 2 := by unfold strataE; rw [if_pos (by rw [hf]; decide), hf]
  rw [hv, he]
  rintro e w1 ⟨⟨A1, c1, rfl, ho⟩, hB⟩
  exact ⟨⟨A1, c1, rfl⟩, hB⟩
theorem lim_reach (A B : Option Addr) (c d m : Nat) (L : List AI) (w : World) (hC : Chain L) (hr : Rd w A (avs L)) (hm : L.length = m) (hf : Rd w B (ivs [4094])) :
    Calls Try.prog 23 #[.int .i64 4096, .slice A m c, .slice B 1 d] w fun e w' => (∃ A' c', e = .returned (.tuple #[.slice A' 2 c', .int .i64 0])) ∧ Below w.heap.size w w' := by
  subst hm
  have hg := hC.good
  have hfs : ∀ x ∈ [((4094 : Nat) : Int)], 0 ≤ x ∧ x < (4096 : Nat) := by intro x hx; simp at hx; omega
  have hb : ¬ [((4094 : Nat) : Int)].any (badF (4096 : Nat)) = true := by decide
  have hne : ¬ fault (4096 : Nat) L ≠ 0 := fun e => e hg.fault
  have hE : reachE (4096 : Nat) L [((4094 : Nat) : Int)] = 0 := by unfold reachE; rw [if_neg hne, if_neg hb]
  have hV : (reachV (4096 : Nat) L [((4094 : Nat) : Int)]).length = 2 := by
    unfold reachV
    rw [if_neg hne, if_neg hb, Int.toNat_natCast, List.length_map]
    unfold rchL
    have e : onL (fun u => @decide (Rch (EA L) (SF [((4094 : Nat) : Int)]) u) (Classical.propDecidable _)) 4096 = onL (fun u => decide (4094 ≤ u)) 4096 := onL_congr fun u hu => by
      simp only [decide_eq_true_eq]
      exact hC.rch u hu
    rw [e]
    unfold onL
    rw [show 4096 = 4094 + 2 from rfl, List.range_add, List.filter_append, List.filter_eq_nil_iff.2]
    · rfl
    · intro x hx
      have := List.mem_range.1 hx
      simp
      omega
  refine (reach_ans A B c d (4096 : Nat) L [((4094 : Nat) : Int)] w hr (by have := hC.len; omega) hf (by simp)).mono ?_
  rw [hE]
  rintro e w1 ⟨⟨A1, c1, rfl, ho⟩, hB⟩
  exact ⟨⟨A1, c1, by rw [hV]⟩, hB⟩
theorem lim_ring (A : Option Addr) (c m : Nat) (L : List AI) (w : World) (hC : Chain L) (hr : Rd w A (avs L)) (hm : L.length = m) :
    Calls Try.prog 19 #[.int .i64 4096, .slice A m c] w fun e w' => (∃ A' c', e = .returned (.tuple #[.slice A' 0 c', .int .i64 0])) ∧ Below w.heap.size w w' := by
  subst hm
  refine (ring_ans A c (4096 : Nat) L w hr (by have := hC.len; omega)).mono ?_
  rw [hC.ring, hC.good.fault]
  rintro e w1 ⟨⟨A1, c1, rfl, ho⟩, hB⟩
  exact ⟨⟨A1, c1, rfl⟩, hB⟩
theorem info36' : (Try.prog.info? 36).map (fun i => (i.zero, i.size, i.bytes)) = some (some (.agg #[.int .i64 0, .int .i64 0, .bool false]), 3, 24) := by kernel_rfl
section
variable {ops : Array Oper} {rest : List Oper} {o : Oper} {a : Act} {Q : Exit → Act → World → Prop}
theorem make_arcs (w0 W : World) (l c : Operand) (n : Nat) (hb0 : Below w0.heap.size w0 W)
    (hg : o.guard = none) (hop : o.op = Op.makeSlice 22 l c) (hl : a.eval l = .int .i64 n) (hc : a.eval c = .int .i64 n) (hn : n ≤ 1000000)
    (h : ∀ w1, AW w0 w1 W.heap.size n 0 → wpList Try.prog ops Q rest (a.put o.dst (.slice (some ⟨W.heap.size, 0, none⟩) n n)) w1) :
    wpList Try.prog ops Q (o :: rest) a W := by
  obtain ⟨i0, hi, hzz⟩ := Option.map_eq_some_iff.1 info36'
  have hz0 : i0.zero = some (.agg #[.int .i64 0, .int .i64 0, .bool false]) := congrArg (·.1) hzz
  have hz1 : i0.size = 3 := congrArg (·.2.1) hzz
  have hz2 : i0.bytes = 24 := congrArg (·.2.2) hzz
  refine wpList_make_full W hg l c 22 hop W.heap.size 36 i0 _ 3 Try.underlying22 hi hz0 hz1 .i64 .i64 n n n hl hc rfl rfl (by rw [hz2]; omega) (by unfold maxLen; omega) (Nat.le_refl _) ?_
  intro w1 hown hgr
  refine h w1 ⟨fun j hj => ?_, fun i hi => by omega, fun j => hown.frozenAt j, hb0.size, (hown.lt W.heap.size rfl).2, hb0.grown hgr hb0.size (fun k e => by cases e)⟩
  have hlen := hown.1
  have hj' : j < (madeCells (Value.agg #[.int .i64 0, .int .i64 0, .bool false]).cells (n * 3)).toList.length := by rw [hlen]; exact hj
  have := hown.cells (g := W.heap.size) rfl j _ (List.getElem?_eq_getElem hj')
  rw [add_plain, Nat.zero_add] at this
  exact ⟨_, this⟩
end
set_option maxHeartbeats 16000000 in
set_option maxRecDepth 100000 in
theorem limits_law (w : World) : Calls Try.prog 6 #[] w fun e w' => e = .returned (.bool true) ∧ Below w.heap.size w w' := by
  obtain ⟨n, hn⟩ : ∃ n : Nat, n = 262145 := ⟨_, rfl⟩
  have HN := Lib.hid hn
  clear hn
  go_enter Try.func6, Try.ntmps6
  go_wp2_with (at_make; refine make_arcs w _ _ _ n (Below.refl _ _) rfl rfl (by rw [HN.out]; rfl) (by rw [HN.out]; rfl) (by have := HN.out; omega) ?_; intro w1 hA1)
  obtain ⟨b, hb⟩ : ∃ b, b = w.heap.size := ⟨_, rfl⟩
  rw [← hb] at hA1 ⊢
  have HA := Lib.hid hA1
  clear hb hA1
  go_loopw [2] (fun s wr => ∃ k : Nat, k ≤ n ∧ s = .int .i64 k ∧ AW w wr b n k) (fun s _ => n - (intOf s).toNat)
  case atStart => exact ⟨0, Nat.zero_le _, rfl, HA.out⟩
  case round =>
    clear HA
    obtain ⟨k, hk, rfl, hA⟩ := hrel
    by_cases hlt : k < n
    · obtain ⟨u0, h0⟩ := hA.ex (k * 3) (by omega)
      obtain ⟨u1, h1⟩ := hA.ex (k * 3 + 1) (by omega)
      obtain ⟨u2, h2⟩ := hA.ex (k * 3 + 2) (by omega)
      have f0 := hA.fz (k * 3)
      have f1 := hA.fz (k * 3 + 1)
      have f2 := hA.fz (k * 3 + 2)
      have hkb : k ≤ 1000000 := by have := HN.out; omega
      have HA := Lib.hid hA
      clear hA
      go_upto_region 4 with fail
      have HS := Lib.hid (HA.out.set hlt)
      go_wp2_with fail
      go_roundw
      case rel => exact ⟨k + 1, by omega, by go_num, HS.out⟩
      case measure => simp [intOf]; omega
    · obtain rfl : n = k := by omega
      have HA := Lib.hid hA
      clear hA hlt hk
      have hn1 : 4095 ≤ n := by have := HN.out; omega
      have hn2 : 262144 ≤ n := by have := HN.out; omega
      obtain ⟨L1, hC1, hl1, hr1⟩ := HA.out.chain 0 4095 (by omega) (by omega) (by omega) (by omega)
      obtain ⟨L2, hC2, hl2, hr2⟩ := HA.out.chain 1 (n - 1) (by omega) (by have := HN.out; omega) (by have := HN.out; omega) (by have := HN.out; omega)
      obtain ⟨L3, hC3, hl3, hr3⟩ := HA.out.chain 0 262144 (by omega) (by omega) (by omega) (by omega)
      obtain ⟨L4, hl4, hr4⟩ : ∃ L : List AI, L.length = n ∧ Rd wr (some ⟨b, 0, none⟩) (avs L) := ⟨_, by simp, HA.out.rd 0 n (by omega)⟩
      have HL := Lib.hid (And.intro hl1 (And.intro hl2 (And.intro hl3 hl4)))
      have H0 := Lib.hid (And.intro hr1 (And.intro hr2 (And.intro hr3 (And.intro hr4 HA.out.below))))
      clear hl1 hl2 hl3 hl4 hr1 hr2 hr3 hr4 HA
      go_wp2_with fail
      refine (lim_strata _ n 4095 L1 wr hC1 H0.out.1 HL.out.1).mono ?_
      rintro e w1 ⟨⟨b1, o1, c1, rfl, hx0, hx1⟩, hB⟩
      have hlt1 := World.block_lt_of_cell? w1 _ hx0
      have H1 := Lib.hid (And.intro (H0.out.2.1.keep hB) (And.intro (H0.out.2.2.1.keep hB) (And.intro (H0.out.2.2.2.1.keep hB) (And.intro hx0 (And.intro hx1 (below_then H0.out.2.2.2.2 H0.out.2.2.2.2.size hB))))))
      clear hx0 hx1 hB H0 hlt1
      go_wp2_with fail
      refine (lim_many w1).mono ?_
      rintro e w2 ⟨⟨A2, c2, rfl⟩, hB⟩
      have hlt1 := World.block_lt_of_cell? w1 _ H1.out.2.2.2.1
      have H2 := Lib.hid (And.intro (H1.out.1.keep hB) (And.intro (H1.out.2.1.keep hB) (And.intro (H1.out.2.2.1.keep hB) (And.intro ((hB.cell hlt1).trans H1.out.2.2.2.1) (And.intro ((hB.cell (p := ⟨b1, o1 + 4095, none⟩) hlt1).trans H1.out.2.2.2.2.1) (below_then H1.out.2.2.2.2.2 H1.out.2.2.2.2.2.size hB))))))
      clear hB H1 hlt1
      go_wp2_with fail
      refine (lim_over _ n n L4 w2 H2.out.2.2.1 HL.out.2.2.2 (by have := HN.out; omega) (by have := HN.out; omega)).mono ?_
      rintro e w3 ⟨⟨A3, c3, rfl⟩, hB⟩
      have hlt1 := World.block_lt_of_cell? w2 _ H2.out.2.2.2.1
      have H3 := Lib.hid (And.intro (H2.out.1.keep hB) (And.intro (H2.out.2.1.keep hB) (And.intro ((hB.cell hlt1).trans H2.out.2.2.2.1) (And.intro ((hB.cell (p := ⟨b1, o1 + 4095, none⟩) hlt1).trans H2.out.2.2.2.2.1) (below_then H2.out.2.2.2.2.2 H2.out.2.2.2.2.2.size hB)))))
      clear hB H2 hlt1
      go_wp2_with fail
      refine (lim_parts _ (n - 1) (n - 1) L2 w3 hC2 H3.out.1 HL.out.2.1).mono ?_
      rintro e w4 ⟨⟨b4, o4, c4, rfl, hy0, hy1⟩, hB⟩
      have hlt1 := World.block_lt_of_cell? w3 _ H3.out.2.2.1
      have hx0 := (hB.cell hlt1).trans H3.out.2.2.1
      have hx1 := (hB.cell (p := ⟨b1, o1 + 4095, none⟩) hlt1).trans H3.out.2.2.2.1
      have H4 := Lib.hid (And.intro (H3.out.2.1.keep hB) (below_then H3.out.2.2.2.2 H3.out.2.2.2.2.size hB))
      clear hB H3 hlt1
      go_upto_region 12 with fail
      clear hx0 hx1 hy0 hy1
      go_wp2_with fail
      refine (lim_reach _ _ n 1 262144 L3 _ hC3 (H4.out.1.keep (below_alloc (Below.refl _ _) _)) HL.out.2.2.1 (rd_new w4 (ivs [4094]) 3)).mono ?_
      rintro e w5 ⟨⟨A5, c5, rfl⟩, hB⟩
      have hB' := below_then (below_alloc (Below.refl w4.heap.size w4) (.cells #[.int .i64 4094] 3)) (by simp) hB
      have H5 := Lib.hid (And.intro (H4.out.1.keep hB') (below_then H4.out.2 H4.out.2.size hB'))
      clear hB hB' H4
      go_wp2_with fail
      refine (lim_ring _ n 262144 L3 w5 hC3 H5.out.1 HL.out.2.2.1).mono ?_
      rintro e w6 ⟨⟨A6, c6, rfl⟩, hB⟩
      have H6 := Lib.hid (below_then H5.out.2 H5.out.2.size hB)
      clear hB H5
      go_wp2_with fail
      refine (awake_calls w6).mono ?_
      rintro e w7 ⟨rfl, hB⟩
      have H7 := Lib.hid (below_then H6.out H6.out.size hB)
      clear hB H6
      go_wp2_with fail
      go_ret
      exact ⟨rfl, H7.out⟩
end Go.Proofs.Ytnhnckhjcnjacaa.ST
