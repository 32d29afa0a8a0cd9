/- The law RecallCaches: two pairs side by side. -/
import Derived.Test.YtdbccemllaehjaaRDg
import Derived.Test.YtdbccemllaehjaaRAw
namespace Go.Proofs.Ytdbccemllaehjaa.RD2
open Go.RowKit Go.Proofs.YtdbccemllaehjaaKw
open RK (ivs ivs_len rd_int rd_intc ivs_snoc info3)
set_option linter.unusedVariables false
set_option linter.unusedSimpArgs false

/-- A pair's places. -/
structure PD where
  bc : Nat
  bm : Nat
  most : Nat
  qc : Nat
  c : Nat
  A : Option Addr
  l : List (Int × ByteArray)
  L : List (Nat × Int × Value)
def PD.ok (d : PD) (w : World) : Prop := Pair w d.bc d.bm d.most d.qc d.A d.c d.l d.L
def PD.fp (d : PD) (q : Nat) : Prop := Fp d.bc d.bm d.qc d.A d.L q
structure Many (w0 w : World) (pb qb : Nat) (ds : List PD) : Prop where
  pc : ∀ (i : Nat) (d : PD), ds[i]? = some d → w.cell? ⟨pb, i, none⟩ = some (.pointer (some ⟨d.bc, 0, none⟩)) ∧ w.cell? ⟨qb, i, none⟩ = some (.pointer (some ⟨d.qc, 0, none⟩)) ∧ d.ok w
  sep : ∀ (i j : Nat) (d d' : PD), ds[i]? = some d → ds[j]? = some d' → i ≠ j → ∀ q, d.fp q → ¬ d'.fp q
  own : ∀ (i : Nat) (d : PD), ds[i]? = some d → ∀ q, d.fp q → w0.heap.size ≤ q ∧ q ≠ pb ∧ q ≠ qb
  cp : ∀ i : Nat, i < 2 → (∃ v, w.cell? ⟨pb, i, none⟩ = some v) ∧ w.frozen? ⟨pb, i, none⟩ = false
  cq : ∀ i : Nat, i < 2 → (∃ v, w.cell? ⟨qb, i, none⟩ = some v) ∧ w.frozen? ⟨qb, i, none⟩ = false
  ne : pb ≠ qb
  lo : w0.heap.size ≤ pb ∧ w0.heap.size ≤ qb
  below : Below w0.heap.size w0 w
section
variable {w0 w w' w2 : World} {pb qb : Nat} {ds : List PD}
theorem Many.plt (h : Many w0 w pb qb ds) : pb < w.heap.size := by
  obtain ⟨⟨v, hv⟩, _⟩ := h.cp 0 (by omega)
  exact World.block_lt_of_cell? w _ hv
theorem Many.qlt (h : Many w0 w pb qb ds) : qb < w.heap.size := by
  obtain ⟨⟨v, hv⟩, _⟩ := h.cq 0 (by omega)
  exact World.block_lt_of_cell? w _ hv
theorem Many.tch (h : Many w0 w pb qb ds) {S : Nat → Prop} (ht : Tch S w w') (h1 : ¬ S pb) (h2 : ¬ S qb) (h3 : ∀ (i : Nat) (d : PD), ds[i]? = some d → ∀ q, d.fp q → ¬ S q) (h4 : ∀ k, k < w.heap.size → S k → w0.heap.size ≤ k) : Many w0 w' pb qb ds := by
  have l1 := h.plt
  have l2 := h.qlt
  refine ⟨fun i d hd => ?_, h.sep, h.own, fun i hi => ?_, fun i hi => ?_, h.ne, h.lo, ⟨ht.os.trans h.below.os, ht.tape.trans h.below.tape, ht.output.trans h.below.output, Nat.le_trans h.below.size ht.size, fun k hk => ?_⟩⟩
  · obtain ⟨a, b, c⟩ := h.pc i d hd
    exact ⟨(ht.cell (p := ⟨pb, i, none⟩) l1 h1).trans a, (ht.cell (p := ⟨qb, i, none⟩) l2 h2).trans b, Pair.tch c ht (h3 i d hd)⟩
  · obtain ⟨⟨v, hv⟩, hf⟩ := h.cp i hi
    exact ⟨⟨v, (ht.cell (p := ⟨pb, i, none⟩) l1 h1).trans hv⟩, (ht.frozen (p := ⟨pb, i, none⟩) l1 h1).trans hf⟩
  · obtain ⟨⟨v, hv⟩, hf⟩ := h.cq i hi
    exact ⟨⟨v, (ht.cell (p := ⟨qb, i, none⟩) l2 h2).trans hv⟩, (ht.frozen (p := ⟨qb, i, none⟩) l2 h2).trans hf⟩
  · have hkw : k < w.heap.size := Nat.lt_of_lt_of_le hk h.below.size
    exact (ht.block k hkw (fun hs => by have := h4 k hkw hs; omega)).trans (h.below.block k hk)
theorem Many.other (h : Many w0 w pb qb ds) (hb : Below w.heap.size w w') : Many w0 w' pb qb ds := by
  have l1 := h.plt
  have l2 := h.qlt
  exact h.tch (RL.tch_new hb) (by omega) (by omega) (fun i d hd q hq hs => by have := Pair.lt (h.pc i d hd).2.2 q hq; omega) (fun k hk hs => by omega)
/-- One pair was asked or written. -/
theorem Many.step (h : Many w0 w pb qb ds) {i : Nat} {d d' : PD} (hd : ds[i]? = some d) (hok : d'.ok w') (ht : Tch d.fp w w') (hn : ∀ q, d'.fp q → d.fp q ∨ w.heap.size ≤ q) (hbc : d'.bc = d.bc) (hqc : d'.qc = d.qc) : Many w0 w' pb qb (ds.set i d') := by
  have l1 := h.plt
  have l2 := h.qlt
  have o1 : ¬ d.fp pb := fun hp => (h.own i d hd pb hp).2.1 rfl
  have o2 : ¬ d.fp qb := fun hp => (h.own i d hd qb hp).2.2 rfl
  have hi : i < ds.length := (List.getElem?_eq_some_iff.1 hd).1
  have hcase : ∀ j e, (ds.set i d')[j]? = some e → (j = i ∧ e = d') ∨ (j ≠ i ∧ ds[j]? = some e) := by
    intro j e hj
    by_cases hji : j = i
    · subst hji
      rw [List.getElem?_set_self hi] at hj
      exact .inl ⟨rfl, (Option.some.inj hj).symm⟩
    · rw [List.getElem?_set_ne (fun e => hji e.symm)] at hj
      exact .inr ⟨hji, hj⟩
  have hsz := ht.size
  refine ⟨fun j e hj => ?_, fun j1 j2 e1 e2 h1 h2 hne q hq hq2 => ?_, fun j e hj q hq => ?_, fun j hj => ?_, fun j hj => ?_, h.ne, h.lo, ⟨ht.os.trans h.below.os, ht.tape.trans h.below.tape, ht.output.trans h.below.output, Nat.le_trans h.below.size ht.size, fun k hk => ?_⟩⟩
  · rcases hcase j e hj with ⟨rfl, rfl⟩ | ⟨hji, hj⟩
    · obtain ⟨a, b, c⟩ := h.pc j d hd
      rw [hbc, hqc]
      exact ⟨(ht.cell (p := ⟨pb, j, none⟩) l1 o1).trans a, (ht.cell (p := ⟨qb, j, none⟩) l2 o2).trans b, hok⟩
    · obtain ⟨a, b, c⟩ := h.pc j e hj
      exact ⟨(ht.cell (p := ⟨pb, j, none⟩) l1 o1).trans a, (ht.cell (p := ⟨qb, j, none⟩) l2 o2).trans b, Pair.tch c ht (fun q hq hs => h.sep i j d e hd hj (fun e => hji e.symm) q hs hq)⟩
  · rcases hcase j1 e1 h1 with ⟨rfl, rfl⟩ | ⟨hj1, n1⟩ <;> rcases hcase j2 e2 h2 with ⟨rfl, rfl⟩ | ⟨hj2, n2⟩
    · exact hne rfl
    · rcases hn q hq with hq | hq
      · exact h.sep _ _ d e2 hd n2 (fun e => hj2 e.symm) q hq hq2
      · have := Pair.lt (h.pc j2 e2 n2).2.2 q hq2; omega
    · rcases hn q hq2 with hq2 | hq2
      · exact h.sep _ _ e1 d n1 hd hj1 q hq hq2
      · have := Pair.lt (h.pc j1 e1 n1).2.2 q hq; omega
    · exact h.sep _ _ e1 e2 n1 n2 hne q hq hq2
  · rcases hcase j e hj with ⟨rfl, rfl⟩ | ⟨hji, hj⟩
    · rcases hn q hq with hq | hq
      · exact h.own j d hd q hq
      · exact ⟨Nat.le_trans h.below.size hq, by omega, by omega⟩
    · exact h.own j e hj q hq
  · obtain ⟨⟨v, hv⟩, hf⟩ := h.cp j hj
    exact ⟨⟨v, (ht.cell (p := ⟨pb, j, none⟩) l1 o1).trans hv⟩, (ht.frozen (p := ⟨pb, j, none⟩) l1 o1).trans hf⟩
  · obtain ⟨⟨v, hv⟩, hf⟩ := h.cq j hj
    exact ⟨⟨v, (ht.cell (p := ⟨qb, j, none⟩) l2 o2).trans hv⟩, (ht.frozen (p := ⟨qb, j, none⟩) l2 o2).trans hf⟩
  · have hkw : k < w.heap.size := Nat.lt_of_lt_of_le hk h.below.size
    exact (ht.block k hkw (fun hs => by have := (h.own i d hd k hs).1; omega)).trans (h.below.block k hk)
/-- A pair that was just made is laid in. -/
theorem Many.add (h : Many w0 w pb qb ds) (hb : Below w.heap.size w w2) {d : PD} (hok : d.ok w2) (hn : ∀ q, d.fp q → w.heap.size ≤ q) {k : Nat} (hk : k = ds.length) (hk2 : k < 2) :
    Many w0 ((w2.setCell ⟨pb, k, none⟩ (.pointer (some ⟨d.bc, 0, none⟩))).setCell ⟨qb, k, none⟩ (.pointer (some ⟨d.qc, 0, none⟩))) pb qb (ds ++ [d]) := by
  have l1 := h.plt
  have l2 := h.qlt
  have h2 := h.other hb
  obtain ⟨⟨v, hv⟩, hf⟩ := h2.cp k hk2
  obtain ⟨⟨u, hu⟩, hg⟩ := h2.cq k hk2
  have t1 := Ap.setCell_tch w2 ⟨pb, k, none⟩ (.pointer (some ⟨d.bc, 0, none⟩)) (fun q => q = pb ∨ q = qb) (.inl rfl)
  have t2 := t1.setCell (a := ⟨qb, k, none⟩) (.inr rfl) (.pointer (some ⟨d.qc, 0, none⟩))
  have hcase : ∀ j e, (ds ++ [d])[j]? = some e → (j = k ∧ e = d) ∨ (j < k ∧ ds[j]? = some e) := by
    intro j e hj
    by_cases hlt : j < k
    · rw [List.getElem?_append_left (by omega)] at hj
      exact .inr ⟨hlt, hj⟩
    · rw [List.getElem?_append_right (by omega)] at hj
      have h0 : j - ds.length = 0 := by
        have := (List.getElem?_eq_some_iff.1 hj).1
        simp at this
        omega
      rw [h0] at hj
      exact .inl ⟨by omega, by simpa using hj.symm⟩
  have hne := h.ne
  have cpk : ∀ i, i ≠ k → ((w2.setCell ⟨pb, k, none⟩ (.pointer (some ⟨d.bc, 0, none⟩))).setCell ⟨qb, k, none⟩ (.pointer (some ⟨d.qc, 0, none⟩))).cell? ⟨pb, i, none⟩ = w2.cell? ⟨pb, i, none⟩ := by
    intro i hi
    rw [World.cell?_setCell_other _ _ _ _ (fun e => by have := congrArg Addr.block e; simp at this; omega), World.cell?_setCell_other _ _ _ _ (fun e => by have := congrArg Addr.off e; simp at this; omega)]
  have cqk : ∀ i, i ≠ k → ((w2.setCell ⟨pb, k, none⟩ (.pointer (some ⟨d.bc, 0, none⟩))).setCell ⟨qb, k, none⟩ (.pointer (some ⟨d.qc, 0, none⟩))).cell? ⟨qb, i, none⟩ = w2.cell? ⟨qb, i, none⟩ := by
    intro i hi
    rw [World.cell?_setCell_other _ _ _ _ (fun e => by have := congrArg Addr.off e; simp at this; omega), World.cell?_setCell_other _ _ _ _ (fun e => by have := congrArg Addr.block e; simp at this; omega)]
  have cpe : ((w2.setCell ⟨pb, k, none⟩ (.pointer (some ⟨d.bc, 0, none⟩))).setCell ⟨qb, k, none⟩ (.pointer (some ⟨d.qc, 0, none⟩))).cell? ⟨pb, k, none⟩ = some (.pointer (some ⟨d.bc, 0, none⟩)) := by
    rw [World.cell?_setCell_other _ _ _ _ (fun e => by have := congrArg Addr.block e; simp at this; omega)]
    exact World.cell?_setCell_same w2 _ _ hv
  have cqe : ((w2.setCell ⟨pb, k, none⟩ (.pointer (some ⟨d.bc, 0, none⟩))).setCell ⟨qb, k, none⟩ (.pointer (some ⟨d.qc, 0, none⟩))).cell? ⟨qb, k, none⟩ = some (.pointer (some ⟨d.qc, 0, none⟩)) := by
    have hu' : (w2.setCell ⟨pb, k, none⟩ (.pointer (some ⟨d.bc, 0, none⟩))).cell? ⟨qb, k, none⟩ = some u := by
      rw [World.cell?_setCell_other _ _ _ _ (fun e => by have := congrArg Addr.block e; simp at this; omega)]
      exact hu
    exact World.cell?_setCell_same _ _ _ hu'
  have hfp : ∀ q, d.fp q → ¬ (q = pb ∨ q = qb) := fun q hq hs => by have := hn q hq; omega
  have hdok : d.ok ((w2.setCell ⟨pb, k, none⟩ (.pointer (some ⟨d.bc, 0, none⟩))).setCell ⟨qb, k, none⟩ (.pointer (some ⟨d.qc, 0, none⟩))) := Pair.tch hok t2 hfp
  refine ⟨fun j e hj => ?_, fun j1 j2 e1 e2 h1 h3 hne q hq hq2 => ?_, fun j e hj q hq => ?_, fun j hj => ?_, fun j hj => ?_, h.ne, h.lo, ⟨t2.os.trans h2.below.os, t2.tape.trans h2.below.tape, t2.output.trans h2.below.output, Nat.le_trans h2.below.size t2.size, fun k hk => ?_⟩⟩
  · rcases hcase j e hj with ⟨rfl, rfl⟩ | ⟨hjk, hj⟩
    · exact ⟨cpe, cqe, hdok⟩
    · obtain ⟨a, b, c⟩ := h2.pc j e hj
      exact ⟨(cpk j (by omega)).trans a, (cqk j (by omega)).trans b, Pair.tch c t2 (fun q hq hs => by have := (h.own j e hj q hq).2; omega)⟩
  · rcases hcase j1 e1 h1 with ⟨rfl, rfl⟩ | ⟨hj1, n1⟩ <;> rcases hcase j2 e2 h3 with ⟨rfl, rfl⟩ | ⟨hj2, n3⟩
    · exact hne rfl
    · have := Pair.lt (h.pc j2 e2 n3).2.2 q hq2; have := hn q hq; omega
    · have := Pair.lt (h.pc j1 e1 n1).2.2 q hq; have := hn q hq2; omega
    · exact h.sep _ _ e1 e2 n1 n3 hne q hq hq2
  · rcases hcase j e hj with ⟨rfl, rfl⟩ | ⟨hjk, hj⟩
    · have := hn q hq
      exact ⟨Nat.le_trans h.below.size this, by omega, by omega⟩
    · exact h.own j e hj q hq
  · refine ⟨?_, by rw [World.frozen?_setCell, World.frozen?_setCell]; exact (h2.cp j hj).2⟩
    by_cases e : j = k
    · subst e; exact ⟨_, cpe⟩
    · obtain ⟨v, hv⟩ := (h2.cp j hj).1
      exact ⟨v, (cpk j e).trans hv⟩
  · refine ⟨?_, by rw [World.frozen?_setCell, World.frozen?_setCell]; exact (h2.cq j hj).2⟩
    by_cases e : j = k
    · subst e; exact ⟨_, cqe⟩
    · obtain ⟨v, hv⟩ := (h2.cq j hj).1
      exact ⟨v, (cqk j e).trans hv⟩
  · have hkw : k < w2.heap.size := Nat.lt_of_lt_of_le hk h2.below.size
    exact (t2.block k hkw (fun hs => by have := h.lo; omega)).trans (h2.below.block k hk)
end
end Go.Proofs.Ytdbccemllaehjaa.RD2
