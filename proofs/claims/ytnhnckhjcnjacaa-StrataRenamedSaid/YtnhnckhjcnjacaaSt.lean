/- Strata: what the walk through a graph keeps, plainly; and how it lies in memory. -/
import Derived.Test.YtnhnckhjcnjacaaSc
import Derived.Test.YtnhnckhjcnjacaaSp
namespace Go.Proofs.Ytnhnckhjcnjacaa.ST
open Go.RowKit Go.Proofs.YtnhnckhjcnjacaaKw Go.Proofs.YtnhnckhjcnjacaaSg Go.Proofs.YtnhnckhjcnjacaaSw
set_option linter.unusedVariables false
set_option linter.unusedSimpArgs false

/-- Nodes as cells. -/
def nvs (l : List Nat) : List Value := l.map fun x : Nat => .int .i64 (x : Int)
theorem nvs_len (l : List Nat) : (nvs l).length = l.length := by simp [nvs]
theorem nvs_snoc (l : List Nat) (x : Nat) : nvs (l ++ [x]) = nvs l ++ [.int .i64 (x : Int)] := by simp [nvs]
theorem nvs_take (l : List Nat) (n : Nat) : (nvs l).take n = nvs (l.take n) := by simp [nvs, List.map_take]
theorem rd_nat {w : World} {A : Option Addr} {l : List Nat} (h : Rd w A (nvs l)) {j : Nat} (hj : j < l.length) :
    ∃ b off, A = some ⟨b, off, none⟩ ∧ w.cell? ⟨b, off + j, none⟩ = some (.int .i64 (l[j] : Nat)) := by
  obtain ⟨b, off, e, hc⟩ := h.at (j := j) (by rw [nvs_len]; exact hj)
  exact ⟨b, off, e, by rw [hc]; simp [nvs]⟩
/-- The places in memory of the walk through a graph. -/
structure Fr where
  n : Nat
  gb : Nat
  xg : Nat
  xlow : Nat
  xseen : Nat
  xhead : Nat
  xstack : Nat
  xat : Nat
  xpush : Nat
  xpop : Nat
  xvisit : Nat
  lb : Nat
  sb : Nat
  hb : Nat
def Fr.all (F : Fr) : List Nat := [F.xg, F.xlow, F.xseen, F.xhead, F.xstack, F.xat, F.xpush, F.xpop, F.xvisit, F.lb, F.sb, F.hb]
abbrev ptr (b : Nat) : Value := .pointer (some ⟨b, 0, none⟩)
structure RepT (w0 w : World) (F : Fr) (s : TS) : Prop where
  low : Arr (Value.int .i64) 3 w F.lb F.n s.low
  seen : Arr (Value.int .i64) 3 w F.sb F.n s.seen
  head : Arr (Value.int .i64) 3 w F.hb F.n s.head
  xg : w.cell? ⟨F.xg, 0, none⟩ = some (ptr F.gb)
  xlow : w.cell? ⟨F.xlow, 0, none⟩ = some (.slice (some ⟨F.lb, 0, none⟩) F.n F.n)
  xseen : w.cell? ⟨F.xseen, 0, none⟩ = some (.slice (some ⟨F.sb, 0, none⟩) F.n F.n)
  xhead : w.cell? ⟨F.xhead, 0, none⟩ = some (.slice (some ⟨F.hb, 0, none⟩) F.n F.n)
  xpush : w.cell? ⟨F.xpush, 0, none⟩ = some (.func (.func 46) #[] #[ptr F.xat, ptr F.xseen, ptr F.xlow, ptr F.xstack])
  xpop : w.cell? ⟨F.xpop, 0, none⟩ = some (.func (.func 47) #[] #[ptr F.xstack, ptr F.xhead, ptr F.xg, ptr F.xlow])
  xvisit : w.cell? ⟨F.xvisit, 0, none⟩ = some (.func (.func 49) #[] #[ptr F.xpush, ptr F.xg, ptr F.xseen, ptr F.xvisit, ptr F.xlow, ptr F.xpop])
  xat : w.cell? ⟨F.xat, 0, none⟩ = some (.int .i64 s.at_)
  fat : w.frozen? ⟨F.xat, 0, none⟩ = false
  row : ∃ sA c, w.cell? ⟨F.xstack, 0, none⟩ = some (.slice sA s.stack.length c) ∧ w.ownsRow w0.heap.size 3 1 (.slice sA s.stack.length c) s.stack.length (nvs s.stack) ∧ ∀ g, (Value.slice sA s.stack.length c).ownBlock = some g → g ∉ F.all
  fstack : w.frozen? ⟨F.xstack, 0, none⟩ = false
  nd : F.all.Nodup
  lo : ∀ b ∈ F.all, w0.heap.size ≤ b
  below : Below w0.heap.size w0 w
section
variable {w0 w w' : World} {F : Fr} {s : TS}
theorem RepT.lts (h : RepT w0 w F s) : F.xg < w.heap.size ∧ F.xlow < w.heap.size ∧ F.xseen < w.heap.size ∧ F.xhead < w.heap.size ∧ F.xstack < w.heap.size ∧ F.xat < w.heap.size ∧ F.xpush < w.heap.size ∧ F.xpop < w.heap.size ∧ F.xvisit < w.heap.size ∧ F.lb < w.heap.size ∧ F.sb < w.heap.size ∧ F.hb < w.heap.size := by
  obtain ⟨sA, c, hs, _⟩ := h.row
  exact ⟨World.block_lt_of_cell? w _ h.xg, World.block_lt_of_cell? w _ h.xlow, World.block_lt_of_cell? w _ h.xseen, World.block_lt_of_cell? w _ h.xhead, World.block_lt_of_cell? w _ hs, World.block_lt_of_cell? w _ h.xat, World.block_lt_of_cell? w _ h.xpush, World.block_lt_of_cell? w _ h.xpop, World.block_lt_of_cell? w _ h.xvisit, h.low.lt, h.seen.lt, h.head.lt⟩
/-- Other blocks were written. -/
theorem RepT.tch (h : RepT w0 w F s) {S : Nat → Prop} (ht : Tch S w w') (h1 : ∀ b ∈ F.all, ¬ S b) (h2 : ∀ sA c, w.cell? ⟨F.xstack, 0, none⟩ = some (.slice sA s.stack.length c) → ∀ g, (Value.slice sA s.stack.length c).ownBlock = some g → ¬ S g) (h3 : ∀ k, k < w.heap.size → S k → w0.heap.size ≤ k) : RepT w0 w' F s := by
  obtain ⟨l1, l2, l3, l4, l5, l6, l7, l8, l9, _, _, _⟩ := h.lts
  simp only [Fr.all, List.mem_cons, List.not_mem_nil, or_false, forall_eq_or_imp, forall_eq] at h1
  obtain ⟨n1, n2, n3, n4, n5, n6, n7, n8, n9, n10, n11, n12⟩ := h1
  obtain ⟨sA, c, hs, ho, hn⟩ := h.row
  exact ⟨h.low.tch ht n10, h.seen.tch ht n11, h.head.tch ht n12, (ht.cell (p := ⟨F.xg, 0, none⟩) l1 n1).trans h.xg, (ht.cell (p := ⟨F.xlow, 0, none⟩) l2 n2).trans h.xlow, (ht.cell (p := ⟨F.xseen, 0, none⟩) l3 n3).trans h.xseen, (ht.cell (p := ⟨F.xhead, 0, none⟩) l4 n4).trans h.xhead,
    (ht.cell (p := ⟨F.xpush, 0, none⟩) l7 n7).trans h.xpush, (ht.cell (p := ⟨F.xpop, 0, none⟩) l8 n8).trans h.xpop, (ht.cell (p := ⟨F.xvisit, 0, none⟩) l9 n9).trans h.xvisit, (ht.cell (p := ⟨F.xat, 0, none⟩) l6 n6).trans h.xat, (ht.frozen (p := ⟨F.xat, 0, none⟩) l6 n6).trans h.fat,
    ⟨sA, c, (ht.cell (p := ⟨F.xstack, 0, none⟩) l5 n5).trans hs, own_tch ho ht (h2 sA c hs), hn⟩, (ht.frozen (p := ⟨F.xstack, 0, none⟩) l5 n5).trans h.fstack, h.nd, h.lo, below_tch h.below h.below.size ht h3⟩
theorem RepT.other (h : RepT w0 w F s) (hb : Below w.heap.size w w') : RepT w0 w' F s := by
  obtain ⟨l1, l2, l3, l4, l5, l6, l7, l8, l9, l10, l11, l12⟩ := h.lts
  refine h.tch (tch_new hb) (fun b hb hs => ?_) (fun sA c hs g hg hle => ?_) (fun k hk hs => by omega)
  · simp only [Fr.all, List.mem_cons, List.not_mem_nil, or_false] at hb
    omega
  · obtain ⟨sA', c', hs', ho, _⟩ := h.row
    rw [hs] at hs'
    cases hs'
    have := (ho.lt g hg).2
    omega
theorem RepT.drewN (h : RepT w0 w F s) (m : Nat) : RepT w0 (w.drewN m) F s := h.other ⟨rfl, rfl, rfl, Nat.le_refl _, fun _ _ => rfl⟩
/-- One of its own blocks was written: all the others are as they were. -/
theorem RepT.rest (h : RepT w0 w F s) {b : Nat} (hb : b ∈ F.all) (ht : Tch (fun q => q = b) w w') :
    (F.lb ≠ b → Arr (Value.int .i64) 3 w' F.lb F.n s.low) ∧ (F.sb ≠ b → Arr (Value.int .i64) 3 w' F.sb F.n s.seen) ∧ (F.hb ≠ b → Arr (Value.int .i64) 3 w' F.hb F.n s.head) ∧
    (∀ q ∈ F.all, q ≠ b → ∀ o, w'.cell? ⟨q, o, none⟩ = w.cell? ⟨q, o, none⟩ ∧ w'.frozen? ⟨q, o, none⟩ = w.frozen? ⟨q, o, none⟩) ∧
    (∀ sA c, w.cell? ⟨F.xstack, 0, none⟩ = some (.slice sA s.stack.length c) → w'.ownsRow w0.heap.size 3 1 (.slice sA s.stack.length c) s.stack.length (nvs s.stack)) ∧ Below w0.heap.size w0 w' := by
  obtain ⟨l1, l2, l3, l4, l5, l6, l7, l8, l9, l10, l11, l12⟩ := h.lts
  obtain ⟨sA, c, hs, ho, hn⟩ := h.row
  refine ⟨fun hne => h.low.tch ht hne, fun hne => h.seen.tch ht hne, fun hne => h.head.tch ht hne, fun q hq hne o => ?_, fun sA' c' hs' => ?_, below_tch h.below h.below.size ht (fun k _ hk => by subst hk; exact h.lo k hb)⟩
  · have hql : q < w.heap.size := by
      simp only [Fr.all, List.mem_cons, List.not_mem_nil, or_false] at hq
      omega
    exact ⟨ht.cell (p := ⟨q, o, none⟩) hql hne, ht.frozen (p := ⟨q, o, none⟩) hql hne⟩
  · rw [hs] at hs'
    cases hs'
    exact own_tch ho ht (fun g hg e => hn g hg (by rw [e]; exact hb))
theorem RepT.ne (h : RepT w0 w F s) : (F.xg ≠ F.lb ∧ F.xlow ≠ F.lb ∧ F.xseen ≠ F.lb ∧ F.xhead ≠ F.lb ∧ F.xstack ≠ F.lb ∧ F.xat ≠ F.lb ∧ F.xpush ≠ F.lb ∧ F.xpop ≠ F.lb ∧ F.xvisit ≠ F.lb ∧ F.sb ≠ F.lb ∧ F.hb ≠ F.lb) ∧
    (F.xg ≠ F.sb ∧ F.xlow ≠ F.sb ∧ F.xseen ≠ F.sb ∧ F.xhead ≠ F.sb ∧ F.xstack ≠ F.sb ∧ F.xat ≠ F.sb ∧ F.xpush ≠ F.sb ∧ F.xpop ≠ F.sb ∧ F.xvisit ≠ F.sb ∧ F.hb ≠ F.sb) ∧
    (F.xg ≠ F.hb ∧ F.xlow ≠ F.hb ∧ F.xseen ≠ F.hb ∧ F.xhead ≠ F.hb ∧ F.xstack ≠ F.hb ∧ F.xat ≠ F.hb ∧ F.xpush ≠ F.hb ∧ F.xpop ≠ F.hb ∧ F.xvisit ≠ F.hb) ∧
    (F.xg ≠ F.xat ∧ F.xlow ≠ F.xat ∧ F.xseen ≠ F.xat ∧ F.xhead ≠ F.xat ∧ F.xstack ≠ F.xat ∧ F.xpush ≠ F.xat ∧ F.xpop ≠ F.xat ∧ F.xvisit ≠ F.xat) ∧
    (F.xg ≠ F.xstack ∧ F.xlow ≠ F.xstack ∧ F.xseen ≠ F.xstack ∧ F.xhead ≠ F.xstack ∧ F.xpush ≠ F.xstack ∧ F.xpop ≠ F.xstack ∧ F.xvisit ≠ F.xstack) := by
  have D := h.nd
  simp only [Fr.all, List.nodup_cons, List.mem_cons, List.not_mem_nil, or_false, not_or, not_false_iff, List.nodup_nil, and_true] at D
  obtain ⟨⟨_, _, _, _, _, _, _, _, _, _, _⟩, ⟨_, _, _, _, _, _, _, _, _, _⟩, ⟨_, _, _, _, _, _, _, _, _⟩, ⟨_, _, _, _, _, _, _, _⟩, ⟨_, _, _, _, _, _, _⟩, ⟨_, _, _, _, _, _⟩, ⟨_, _, _, _, _⟩, ⟨_, _, _, _⟩, ⟨_, _, _⟩, ⟨_, _⟩, _⟩ := D
  refine ⟨⟨?_, ?_, ?_, ?_, ?_, ?_, ?_, ?_, ?_, ?_, ?_⟩, ⟨?_, ?_, ?_, ?_, ?_, ?_, ?_, ?_, ?_, ?_⟩, ⟨?_, ?_, ?_, ?_, ?_, ?_, ?_, ?_, ?_⟩, ⟨?_, ?_, ?_, ?_, ?_, ?_, ?_, ?_⟩, ⟨?_, ?_, ?_, ?_, ?_, ?_, ?_⟩⟩ <;> first | assumption | (exact Ne.symm (by assumption))
theorem mem_all (F : Fr) : F.xg ∈ F.all ∧ F.xlow ∈ F.all ∧ F.xseen ∈ F.all ∧ F.xhead ∈ F.all ∧ F.xstack ∈ F.all ∧ F.xat ∈ F.all ∧ F.xpush ∈ F.all ∧ F.xpop ∈ F.all ∧ F.xvisit ∈ F.all ∧ F.lb ∈ F.all ∧ F.sb ∈ F.all ∧ F.hb ∈ F.all := by
  simp [Fr.all]
theorem RepT.setLow (h : RepT w0 w F s) {v : Nat} (hv : v < F.n) (x : Int) : RepT w0 (w.setCell ⟨F.lb, v, none⟩ (.int .i64 x)) F { s with low := upd s.low v x } := by
  obtain ⟨m1, m2, m3, m4, m5, m6, m7, m8, m9, m10, m11, m12⟩ := mem_all F
  obtain ⟨⟨d1, d2, d3, d4, d5, d6, d7, d8, d9, d10, d11⟩, _⟩ := h.ne
  obtain ⟨a1, a2, a3, hc, hrow, hb⟩ := h.rest m10 (Ap.setCell_tch w ⟨F.lb, v, none⟩ (.int .i64 x) (fun q => q = F.lb) rfl)
  obtain ⟨sA, c, hs, ho, hn⟩ := h.row
  exact ⟨h.low.set hv x, a2 d10, a3 d11, (hc _ m1 d1 0).1.trans h.xg, (hc _ m2 d2 0).1.trans h.xlow, (hc _ m3 d3 0).1.trans h.xseen, (hc _ m4 d4 0).1.trans h.xhead, (hc _ m7 d7 0).1.trans h.xpush, (hc _ m8 d8 0).1.trans h.xpop, (hc _ m9 d9 0).1.trans h.xvisit, (hc _ m6 d6 0).1.trans h.xat, (hc _ m6 d6 0).2.trans h.fat, ⟨sA, c, (hc _ m5 d5 0).1.trans hs, hrow sA c hs, hn⟩, (hc _ m5 d5 0).2.trans h.fstack, h.nd, h.lo, hb⟩
theorem RepT.setSeen (h : RepT w0 w F s) {v : Nat} (hv : v < F.n) (x : Int) : RepT w0 (w.setCell ⟨F.sb, v, none⟩ (.int .i64 x)) F { s with seen := upd s.seen v x } := by
  obtain ⟨m1, m2, m3, m4, m5, m6, m7, m8, m9, m10, m11, m12⟩ := mem_all F
  obtain ⟨⟨_, _, _, _, _, _, _, _, _, e10, _⟩, ⟨d1, d2, d3, d4, d5, d6, d7, d8, d9, d11⟩, _⟩ := h.ne
  obtain ⟨a1, a2, a3, hc, hrow, hb⟩ := h.rest m11 (Ap.setCell_tch w ⟨F.sb, v, none⟩ (.int .i64 x) (fun q => q = F.sb) rfl)
  obtain ⟨sA, c, hs, ho, hn⟩ := h.row
  exact ⟨a1 (Ne.symm e10), h.seen.set hv x, a3 d11, (hc _ m1 d1 0).1.trans h.xg, (hc _ m2 d2 0).1.trans h.xlow, (hc _ m3 d3 0).1.trans h.xseen, (hc _ m4 d4 0).1.trans h.xhead, (hc _ m7 d7 0).1.trans h.xpush, (hc _ m8 d8 0).1.trans h.xpop, (hc _ m9 d9 0).1.trans h.xvisit, (hc _ m6 d6 0).1.trans h.xat, (hc _ m6 d6 0).2.trans h.fat, ⟨sA, c, (hc _ m5 d5 0).1.trans hs, hrow sA c hs, hn⟩, (hc _ m5 d5 0).2.trans h.fstack, h.nd, h.lo, hb⟩
theorem RepT.setHead (h : RepT w0 w F s) {v : Nat} (hv : v < F.n) (x : Int) : RepT w0 (w.setCell ⟨F.hb, v, none⟩ (.int .i64 x)) F { s with head := upd s.head v x } := by
  obtain ⟨m1, m2, m3, m4, m5, m6, m7, m8, m9, m10, m11, m12⟩ := mem_all F
  obtain ⟨⟨_, _, _, _, _, _, _, _, _, _, e11⟩, ⟨_, _, _, _, _, _, _, _, _, f11⟩, ⟨d1, d2, d3, d4, d5, d6, d7, d8, d9⟩, _⟩ := h.ne
  obtain ⟨a1, a2, a3, hc, hrow, hb⟩ := h.rest m12 (Ap.setCell_tch w ⟨F.hb, v, none⟩ (.int .i64 x) (fun q => q = F.hb) rfl)
  obtain ⟨sA, c, hs, ho, hn⟩ := h.row
  exact ⟨a1 (Ne.symm e11), a2 (Ne.symm f11), h.head.set hv x, (hc _ m1 d1 0).1.trans h.xg, (hc _ m2 d2 0).1.trans h.xlow, (hc _ m3 d3 0).1.trans h.xseen, (hc _ m4 d4 0).1.trans h.xhead, (hc _ m7 d7 0).1.trans h.xpush, (hc _ m8 d8 0).1.trans h.xpop, (hc _ m9 d9 0).1.trans h.xvisit, (hc _ m6 d6 0).1.trans h.xat, (hc _ m6 d6 0).2.trans h.fat, ⟨sA, c, (hc _ m5 d5 0).1.trans hs, hrow sA c hs, hn⟩, (hc _ m5 d5 0).2.trans h.fstack, h.nd, h.lo, hb⟩
theorem RepT.setAt (h : RepT w0 w F s) (x : Int) : RepT w0 (w.setCell ⟨F.xat, 0, none⟩ (.int .i64 x)) F { s with at_ := x } := by
  obtain ⟨m1, m2, m3, m4, m5, m6, m7, m8, m9, m10, m11, m12⟩ := mem_all F
  obtain ⟨⟨_, _, _, _, _, e6, _, _, _, _, _⟩, ⟨_, _, _, _, _, f6, _, _, _, _⟩, ⟨_, _, _, _, _, g6, _, _, _⟩, ⟨d1, d2, d3, d4, d5, d7, d8, d9⟩, _⟩ := h.ne
  obtain ⟨a1, a2, a3, hc, hrow, hb⟩ := h.rest m6 (Ap.setCell_tch w ⟨F.xat, 0, none⟩ (.int .i64 x) (fun q => q = F.xat) rfl)
  obtain ⟨sA, c, hs, ho, hn⟩ := h.row
  exact ⟨a1 (Ne.symm e6), a2 (Ne.symm f6), a3 (Ne.symm g6), (hc _ m1 d1 0).1.trans h.xg, (hc _ m2 d2 0).1.trans h.xlow, (hc _ m3 d3 0).1.trans h.xseen, (hc _ m4 d4 0).1.trans h.xhead, (hc _ m7 d7 0).1.trans h.xpush, (hc _ m8 d8 0).1.trans h.xpop, (hc _ m9 d9 0).1.trans h.xvisit, World.cell?_setCell_same w _ _ h.xat, (World.frozen?_setCell ..).trans h.fat, ⟨sA, c, (hc _ m5 d5 0).1.trans hs, hrow sA c hs, hn⟩, (hc _ m5 d5 0).2.trans h.fstack, h.nd, h.lo, hb⟩
/-- Another stack. -/
theorem RepT.setStack (h : RepT w0 w F s) {sA : Option Addr} {c : Nat} {st : List Nat} (ho : w.ownsRow w0.heap.size 3 1 (.slice sA st.length c) st.length (nvs st)) (hn : ∀ g, (Value.slice sA st.length c).ownBlock = some g → g ∉ F.all) :
    RepT w0 (w.setCell ⟨F.xstack, 0, none⟩ (.slice sA st.length c)) F { s with stack := st } := by
  obtain ⟨m1, m2, m3, m4, m5, m6, m7, m8, m9, m10, m11, m12⟩ := mem_all F
  obtain ⟨⟨_, _, _, _, e5, _, _, _, _, _, _⟩, ⟨_, _, _, _, f5, _, _, _, _, _⟩, ⟨_, _, _, _, g5, _, _, _, _⟩, ⟨_, _, _, _, i5, _, _, _⟩, ⟨d1, d2, d3, d4, d7, d8, d9⟩⟩ := h.ne
  have ht := Ap.setCell_tch w ⟨F.xstack, 0, none⟩ (.slice sA st.length c) (fun q => q = F.xstack) rfl
  obtain ⟨a1, a2, a3, hc, hrow, hb⟩ := h.rest m5 ht
  obtain ⟨sA0, c0, hs, _, _⟩ := h.row
  exact ⟨a1 (Ne.symm e5), a2 (Ne.symm f5), a3 (Ne.symm g5), (hc _ m1 d1 0).1.trans h.xg, (hc _ m2 d2 0).1.trans h.xlow, (hc _ m3 d3 0).1.trans h.xseen, (hc _ m4 d4 0).1.trans h.xhead, (hc _ m7 d7 0).1.trans h.xpush, (hc _ m8 d8 0).1.trans h.xpop, (hc _ m9 d9 0).1.trans h.xvisit, (hc _ m6 (Ne.symm i5) 0).1.trans h.xat, (hc _ m6 (Ne.symm i5) 0).2.trans h.fat, ⟨sA, c, World.cell?_setCell_same w _ _ hs, own_tch ho ht (fun g hg e => hn g hg (by rw [e]; exact m5)), hn⟩, (World.frozen?_setCell ..).trans h.fstack, h.nd, h.lo, hb⟩
/-- An append to the stack, laid back. -/
theorem RepT.pushStack {W w1 : World} (h : RepT w0 W F s) {sA : Option Addr} {c : Nat} (hs : W.cell? ⟨F.xstack, 0, none⟩ = some (.slice sA s.stack.length c)) {v : Nat} {v1 : Value} (ho : w1.ownsRow w0.heap.size 3 1 v1 (s.stack.length + 1) (nvs s.stack ++ [.int .i64 (v : Int)]))
    (hg : W.grownBy w1 (Value.slice sA s.stack.length c).ownBlock) (hat : v1.ownBlock = (Value.slice sA s.stack.length c).ownBlock ∨ ∃ b, v1.ownBlock = some b ∧ W.heap.size ≤ b) :
    RepT w0 (w1.setCell ⟨F.xstack, 0, none⟩ v1) F { s with stack := s.stack ++ [v] } := by
  obtain ⟨m1, m2, m3, m4, m5, m6, m7, m8, m9, m10, m11, m12⟩ := mem_all F
  obtain ⟨⟨_, _, _, _, e5, _, _, _, _, _, _⟩, ⟨_, _, _, _, f5, _, _, _, _, _⟩, ⟨_, _, _, _, g5, _, _, _, _⟩, ⟨_, _, _, _, i5, _, _, _⟩, ⟨d1, d2, d3, d4, d7, d8, d9⟩⟩ := h.ne
  obtain ⟨l1, l2, l3, l4, l5, l6, l7, l8, l9, l10, l11, l12⟩ := h.lts
  obtain ⟨sA0, c0, hs0, ho0, hn⟩ := h.row
  rw [hs] at hs0
  cases hs0
  have hT1 := tch_grown hg
  have hx : ∀ q ∈ F.all, ¬ some q = (Value.slice sA s.stack.length c).ownBlock := fun q hq e => hn q e.symm hq
  have hs1 := (hT1.cell (p := ⟨F.xstack, 0, none⟩) l5 (hx _ m5)).trans hs
  have hf1 := (hT1.frozen (p := ⟨F.xstack, 0, none⟩) l5 (hx _ m5)).trans h.fstack
  have hT : Tch (fun q => q = F.xstack ∨ some q = (Value.slice sA s.stack.length c).ownBlock) W (w1.setCell ⟨F.xstack, 0, none⟩ v1) := (hT1.mono fun q _ hq => .inr hq).setCell (a := ⟨F.xstack, 0, none⟩) (.inl rfl) v1
  have hS : ∀ q ∈ F.all, q ≠ F.xstack → ¬ (q = F.xstack ∨ some q = (Value.slice sA s.stack.length c).ownBlock) := fun q hq hne e => by
    rcases e with e | e
    · exact hne e
    · exact hx q hq e
  have hlt1 := ho.lt
  have hset := Ap.setCell_tch w1 ⟨F.xstack, 0, none⟩ v1 (fun q => q = F.xstack) rfl
  have hnew : ∀ g, v1.ownBlock = some g → g ∉ F.all := fun g hg' hm => by
    rcases hat with e | ⟨b, e, hb⟩
    · exact hn g (by rw [← e]; exact hg') hm
    · rw [e] at hg'
      cases hg'
      simp only [Fr.all, List.mem_cons, List.not_mem_nil, or_false] at hm
      omega
  obtain ⟨A1, c1, rfl, _, _⟩ := own_form ho
  refine ⟨h.low.tch hT (hS _ m10 (Ne.symm e5)), h.seen.tch hT (hS _ m11 (Ne.symm f5)), h.head.tch hT (hS _ m12 (Ne.symm g5)), (hT.cell (p := ⟨F.xg, 0, none⟩) l1 (hS _ m1 d1)).trans h.xg, (hT.cell (p := ⟨F.xlow, 0, none⟩) l2 (hS _ m2 d2)).trans h.xlow, (hT.cell (p := ⟨F.xseen, 0, none⟩) l3 (hS _ m3 d3)).trans h.xseen, (hT.cell (p := ⟨F.xhead, 0, none⟩) l4 (hS _ m4 d4)).trans h.xhead,
    (hT.cell (p := ⟨F.xpush, 0, none⟩) l7 (hS _ m7 d7)).trans h.xpush, (hT.cell (p := ⟨F.xpop, 0, none⟩) l8 (hS _ m8 d8)).trans h.xpop, (hT.cell (p := ⟨F.xvisit, 0, none⟩) l9 (hS _ m9 d9)).trans h.xvisit, (hT.cell (p := ⟨F.xat, 0, none⟩) l6 (hS _ m6 (Ne.symm i5))).trans h.xat, (hT.frozen (p := ⟨F.xat, 0, none⟩) l6 (hS _ m6 (Ne.symm i5))).trans h.fat,
    ⟨A1, c1, ?_, ?_, ?_⟩, (World.frozen?_setCell ..).trans hf1, h.nd, h.lo, below_tch h.below h.below.size hT (fun k hk hk2 => ?_)⟩
  · rw [List.length_append]
    exact World.cell?_setCell_same w1 _ _ hs1
  · rw [List.length_append, nvs_snoc]
    exact own_tch ho hset (fun g hg' e => hnew g hg' (by rw [e]; exact m5))
  · intro g hg'
    exact hnew g (by rw [← hg']; simp [Value.ownBlock])
  · rcases hk2 with rfl | e
    · exact h.lo _ m5
    · exact own_base ho0 k e.symm
end
/-- The block of the stack's row. -/
def RowB (w : World) (F : Fr) (q : Nat) : Prop := ∃ sA n c, w.cell? ⟨F.xstack, 0, none⟩ = some (.slice sA n c) ∧ (Value.slice sA n c).ownBlock = some q
/-- What a call may write: its own places, the stack's row, new blocks. -/
structure Fram (w w' : World) (F : Fr) : Prop where
  tch : Tch (fun q => q ∈ F.all ∨ RowB w F q) w w'
  row : ∀ q, RowB w' F q → RowB w F q ∨ w.heap.size ≤ q
theorem Fram.refl (w : World) (F : Fr) : Fram w w F := ⟨Tch.refl _ _, fun q h => .inl h⟩
theorem Fram.trans {w w1 w2 : World} {F : Fr} (h : Fram w w1 F) (k : Fram w1 w2 F) : Fram w w2 F := by
  refine ⟨⟨k.tch.os.trans h.tch.os, k.tch.tape.trans h.tch.tape, k.tch.output.trans h.tch.output, Nat.le_trans h.tch.size k.tch.size, fun b hb hn => ?_⟩, fun q hq => ?_⟩
  · refine (k.tch.block b (Nat.lt_of_lt_of_le hb h.tch.size) fun hs => ?_).trans (h.tch.block b hb hn)
    rcases hs with hs | hs
    · exact hn (.inl hs)
    · rcases h.row b hs with hs | hs
      · exact hn (.inr hs)
      · omega
  · rcases k.row q hq with hq | hq
    · exact h.row q hq
    · exact .inr (Nat.le_trans h.tch.size hq)
theorem Fram.other {w w' : World} {F : Fr} (hb : Below w.heap.size w w') (hx : F.xstack < w.heap.size) : Fram w w' F := by
  refine ⟨Tch.of_below (S := fun q => q ∈ F.all ∨ RowB w F q) hb (fun k h1 h2 => by omega), fun q hq => ?_⟩
  obtain ⟨sA, n, c, hs, hg⟩ := hq
  rw [hb.cell (p := ⟨F.xstack, 0, none⟩) hx] at hs
  exact .inl ⟨sA, n, c, hs, hg⟩
theorem Fram.set {w : World} {F : Fr} {a : Addr} {u : Value} (h1 : a.block ∈ F.all) (h2 : F.xstack ≠ a.block) : Fram w (w.setCell a u) F := by
  refine ⟨(Ap.setCell_tch w a u (fun q => q = a.block) rfl).mono (fun q _ hq => .inl (by rw [hq]; exact h1)), fun q hq => ?_⟩
  obtain ⟨sA, n, c, hs, hg⟩ := hq
  rw [World.cell?_setCell_other w _ _ _ (fun e => h2 (congrArg Addr.block e).symm)] at hs
  exact .inl ⟨sA, n, c, hs, hg⟩
/-- The stack's box was written. -/
theorem Fram.box {w w1 : World} {F : Fr} {sA sB : Option Addr} {n c m d : Nat} {v0 : Value} (hs : w.cell? ⟨F.xstack, 0, none⟩ = some (.slice sA n c)) (hg : w.grownBy w1 (Value.slice sA n c).ownBlock) (h1 : w1.cell? ⟨F.xstack, 0, none⟩ = some v0)
    (hat : (Value.slice sB m d).ownBlock = (Value.slice sA n c).ownBlock ∨ ∃ b, (Value.slice sB m d).ownBlock = some b ∧ w.heap.size ≤ b) : Fram w (w1.setCell ⟨F.xstack, 0, none⟩ (.slice sB m d)) F := by
  refine ⟨((tch_grown hg).mono (fun q _ hq => .inr ⟨sA, n, c, hs, hq.symm⟩)).setCell (a := ⟨F.xstack, 0, none⟩) (.inl (mem_all F).2.2.2.2.1) _, fun q hq => ?_⟩
  obtain ⟨sA', n', c', hs', hg'⟩ := hq
  rw [World.cell?_setCell_same w1 _ _ h1] at hs'
  cases hs'
  rcases hat with e | ⟨b, e, hb⟩
  · exact .inl ⟨sA, n, c, hs, by rw [← e]; exact hg'⟩
  · rw [e] at hg'
    cases hg'
    exact .inr hb
end Go.Proofs.Ytnhnckhjcnjacaa.ST
