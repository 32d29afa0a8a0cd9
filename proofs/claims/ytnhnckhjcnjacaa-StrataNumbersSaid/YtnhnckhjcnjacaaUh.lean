/- Strata: the reference's parts, plainly, and their memory. -/
import Derived.Test.YtnhnckhjcnjacaaUf
import Derived.Test.YtnhnckhjcnjacaaUg
import Derived.Test.YtnhnckhjcnjacaaTe
namespace Go.Proofs.Ytnhnckhjcnjacaa.ST
open Go.RowKit Go.Proofs.YtnhnckhjcnjacaaKw Go.Proofs.YtnhnckhjcnjacaaSg Go.Proofs.YtnhnckhjcnjacaaSw
set_option linter.unusedVariables false
set_option linter.unusedSimpArgs false

theorem rch_pth {n : Nat} {l : List AI} (h : GoodG n l) (i u : Nat) : Rch (EA l) (SF [(i : Int)]) u ↔ Pth (tos (outs l)) i u := by
  constructor
  · refine Rch.sub (fun v hv => ?_) (fun a b ha hb => .step ha ((tos_EA h.hb a b).2 hb)) u
    have h1 : (v : Int) = i := by simpa [SF] using hv
    have h2 : v = i := by omega
    rw [h2]
    exact .refl i
  · intro hp
    induction hp with
    | refl => exact .base (by simp [SF])
    | step _ ht ih => exact .step ih ((tos_EA h.hb _ _).1 ht)
/-- What has a number when k of them are given. -/
noncomputable def outK (n : Nat) (l : List AI) (k v : Nat) : Int := if PP n l v < k then (PP n l v : Int) else -1
/-- What is reached from each node. -/
def WOk (n : Nat) (l : List AI) (W : Nat → Nat → Bool) : Prop := ∀ i, i < n → ∀ u, u < n → (W i u = true ↔ Rch (EA l) (SF [(i : Int)]) u)
section
variable {n : Nat} {l : List AI} {W : Nat → Nat → Bool} {k : Nat}
theorem WOk.sim (h : WOk n l W) (hg : GoodG n l) {i u : Nat} (hi : i < n) (hu : u < n) : (W i u && W u i) = decide (PP n l i = PP n l u) := by
  have h1 := (h i hi u hu).trans (rch_pth hg i u)
  have h2 := (h u hu i hi).trans (rch_pth hg u i)
  have h3 := (PP_spec hg).sim i hi u hu
  by_cases e : PP n l i = PP n l u
  · have hs := h3.1 e
    rw [h1.2 hs.1, h2.2 hs.2]
    simp [e]
  · rw [decide_eq_false e]
    refine Bool.eq_false_iff.2 fun hc => e (h3.2 ?_)
    rw [Bool.and_eq_true] at hc
    exact ⟨h1.1 hc.1, h2.1 hc.2⟩
theorem WOk.notR (h : WOk n l W) (hg : GoodG n l) {i : Nat} (hi : i < n) {a : AI} (ha : a ∈ l) : ST.notR (outK n l k) W i a = (decide (PP n l i = PP n l a.f.toNat) && !decide (PP n l i = PP n l a.t.toNat) && decide (k ≤ PP n l a.t.toNat)) := by
  unfold ST.notR
  rw [h.sim hg hi (hg.arc ha).1, h.sim hg hi (hg.arc ha).2.1]
  congr 1
  unfold outK
  split
  · rename_i h1
    rw [decide_eq_false (by omega), decide_eq_false (by omega)]
  · rename_i h1
    rw [decide_eq_true (by omega), decide_eq_true (by omega)]
theorem ready_k (h : WOk n l W) (hg : GoodG n l) {i : Nat} (hi : i < n) (hk : PP n l i = k) : l.any (notR (outK n l k) W i) = false := by
  refine List.any_eq_false.2 fun a ha => ?_
  rw [h.notR hg hi ha]
  simp only [Bool.and_eq_true, decide_eq_true_eq, Bool.not_eq_true', decide_eq_false_iff_not, not_and]
  intro h1 h2
  have h1 := h1.1
  have := (PP_spec hg).down _ (hg.arc ha).1 _ (hg.arc ha).2.2
  omega
/-- The least that is ready is next. -/
theorem ready_next (h : WOk n l W) (hg : GoodG n l) (hk : k < MM n l) {i : Nat} (hi : i < n) (hu : k ≤ PP n l i) (hr : l.any (notR (outK n l k) W i) = false) (hl : ∀ j, j < i → k ≤ PP n l j → l.any (notR (outK n l k) W j) = true) : PP n l i = k := by
  refine Classical.byContradiction fun hne => ?_
  obtain ⟨u, hu1, hu2⟩ := (PP_spec hg).surj k hk
  obtain ⟨y, hy, t, ht, h1, h2, h3⟩ := (PP_spec hg).greedy u hu1 i hi (by omega) (fun x hx hxu => by
    refine Classical.byContradiction fun hle => ?_
    have hxk : PP n l x = k := by omega
    have hxi : x ≠ i := fun e => by rw [e] at hxk; omega
    have := hl x (by omega) (by omega)
    rw [ready_k h hg hx hxk] at this
    cases this)
  obtain ⟨a, ha, e1, e2⟩ := (tos_EA hg.hb y t).1 ht
  have := List.any_eq_false.1 hr a ha
  rw [h.notR hg hi ha, e1, e2] at this
  simp only [Int.toNat_natCast] at this
  simp [h1, fun e : PP n l i = PP n l t => h2 e.symm] at this
  omega
theorem ready_none (h : WOk n l W) (hg : GoodG n l) (hk : k ≤ MM n l) (hl : ∀ j, j < n → k ≤ PP n l j → l.any (notR (outK n l k) W j) = true) : k = MM n l ∧ ∀ v, v < n → outK n l k v = (PP n l v : Int) := by
  have hkm : k = MM n l := by
    refine Classical.byContradiction fun hne => ?_
    obtain ⟨u, hu1, hu2⟩ := (PP_spec hg).surj k (by omega)
    have := hl u hu1 (by omega)
    rw [ready_k h hg hu1 hu2] at this
    cases this
  refine ⟨hkm, fun v hv => ?_⟩
  unfold outK
  rw [if_pos (by rw [hkm]; exact (PP_spec hg).lt v hv)]
theorem outK_zero : outK n l 0 = fun _ => -1 := by
  funext v
  unfold outK
  rw [if_neg (by omega)]
theorem outK_next (h : WOk n l W) (hg : GoodG n l) {j q : Nat} (hj : j < n) (hq : q < n) (hjk : PP n l j = k) : outK n l (k + 1) q = if (W j q && W q j) = true then (k : Int) else outK n l k q := by
  rw [h.sim hg hj hq, hjk]
  unfold outK
  by_cases e : k = PP n l q
  · rw [if_pos (show PP n l q < k + 1 by omega), if_pos (by simpa using e)]
    omega
  · by_cases e2 : PP n l q < k
    · rw [if_pos (show PP n l q < k + 1 by omega), if_neg (by simpa using e), if_pos e2]
    · rw [if_neg (show ¬ PP n l q < k + 1 by omega), if_neg (by simpa using e), if_neg e2]
end
theorem info62 : (Try.prog.info? 62).map (fun i => (i.zero, i.size, i.bytes)) = some (some (.slice none 0 0), 1, 24) := by kernel_rfl
/-- While the ways are laid. -/
structure PB (w0 w : World) (v : Value) (n k ob : Nat) (l : List AI) (nb : Nat → Nat) (W : Nat → Nat → Bool) : Prop where
  own : w.ownsRow w0.heap.size 62 1 v k ((List.range k).map fun i => wv n (nb i))
  row : ∀ i, i < k → Arr Value.bool 4 w (nb i) n (W i)
  sep : ∀ i, i < k → v.ownBlock ≠ some (nb i)
  sob : v.ownBlock ≠ some ob
  nob : ∀ i, i < k → nb i ≠ ob
  out : IArr w ob n (fun x => if x < k then -1 else 0)
  lo : w0.heap.size ≤ ob
  below : Below w0.heap.size w0 w
  rch : ∀ i, i < k → ∀ u, u < n → (W i u = true ↔ Rch (EA l) (SF [(i : Int)]) u)
theorem PB.next {w0 w w' w1 : World} {v v1 : Value} {n k ob b : Nat} {l : List AI} {nb : Nat → Nat} {W : Nat → Nat → Bool} {on : Nat → Bool} (h : PB w0 w v n k ob l nb W) (hk : k < n) (hb : Below w.heap.size w w') (hlo : w.heap.size ≤ b)
    (hA : Arr Value.bool 4 w' b n on) (hon : ∀ u, u < n → (on u = true ↔ Rch (EA l) (SF [(k : Int)]) u)) (ho : w1.ownsRow w0.heap.size 62 1 v1 (k + 1) (((List.range k).map fun i => wv n (nb i)) ++ [wv n b])) (hB1 : Below w0.heap.size w0 w1)
    (hg : w'.grownBy w1 v.ownBlock) (hat : v1.ownBlock = v.ownBlock ∨ ∃ g, v1.ownBlock = some g ∧ w'.heap.size ≤ g) :
    PB w0 (w1.setCell ⟨ob, k, none⟩ (.int .i64 (-1))) v1 n (k + 1) ob l (upd nb k b) (upd W k on) := by
  have T1 : Tch (fun q => some q = v.ownBlock) w' w1 := tch_grown hg
  have Ts := Ap.setCell_tch w1 ⟨ob, k, none⟩ (.int .i64 (-1)) (fun q => q = ob) rfl
  have hobl := h.out.lt
  have hbl := hA.lt
  have hbs := hb.size
  have hvl : ∀ g, v.ownBlock = some g → g < w.heap.size := fun g hg => (h.own.lt g hg).2
  have hnl : ∀ i, i < k → nb i < w.heap.size := fun i hi => (h.row i hi).lt
  have hv1 : ∀ g, v1.ownBlock = some g → v.ownBlock = some g ∨ w'.heap.size ≤ g := by
    intro g hg1
    rcases hat with e | ⟨g', e, hge⟩
    · exact .inl (by rw [← e]; exact hg1)
    · rw [e] at hg1
      cases hg1
      exact .inr hge
  have hv1ob : ∀ g, v1.ownBlock = some g → ¬ g = ob := by
    intro g hg1 e
    rcases hv1 g hg1 with e2 | e2
    · exact h.sob (by rw [e2, e])
    · omega
  have hbv : ¬ some b = v.ownBlock := fun e => by have := hvl b e.symm; omega
  refine ⟨?_, fun i hi => ?_, fun i hi e => ?_, fun e => hv1ob ob e rfl, fun i hi => ?_, ?_, h.lo, below_tch hB1 hB1.size Ts (fun q _ e => by have := h.lo; omega), fun i hi u hu => ?_⟩
  · have e : ((List.range (k + 1)).map fun i => wv n (upd nb k b i)) = ((List.range k).map fun i => wv n (nb i)) ++ [wv n b] := by
      rw [List.range_succ, List.map_append]
      congr 1
      · refine List.map_congr_left fun x hx => ?_
        rw [upd_other _ _ (by have := List.mem_range.1 hx; omega)]
      · simp [upd_same]
    rw [e]
    exact own_tch ho Ts hv1ob
  · by_cases e : i = k
    · subst e
      rw [upd_same, upd_same]
      exact (hA.tch T1 hbv).tch Ts (by omega)
    · have hik : i < k := by omega
      rw [upd_other _ _ e, upd_other _ _ e]
      exact (((h.row i hik).keep hb).tch T1 (fun e' => h.sep i hik e'.symm)).tch Ts (h.nob i hik)
  · by_cases ei : i = k
    · subst ei
      rw [upd_same] at e
      rcases hv1 b e with e2 | e2
      · exact hbv e2.symm
      · omega
    · have hik : i < k := by omega
      rw [upd_other _ _ ei] at e
      rcases hv1 _ e with e2 | e2
      · exact h.sep i hik e2
      · have := hnl i hik
        omega
  · by_cases ei : i = k
    · subst ei
      rw [upd_same]
      omega
    · rw [upd_other _ _ ei]
      exact h.nob i (by omega)
  · refine Arr.congr ((((h.out.keep hb).tch T1 (fun e => h.sob e.symm)).set hk (-1))) fun i hi => ?_
    unfold upd
    by_cases e : i = k
    · subst e; simp
    · by_cases e2 : i < k
      · simp only [e, e2, if_false, if_true]
        rw [if_pos (by omega)]
      · simp only [e, e2, if_false]
        rw [if_neg (by omega)]
  · by_cases ei : i = k
    · subst ei
      rw [upd_same]
      exact hon u hu
    · rw [upd_other _ _ ei]
      exact h.rch i (by omega) u hu
/-- While the parts are numbered. -/
structure PN (w0 w : World) (A : Option Addr) (n ob : Nat) (nb : Nat → Nat) (W : Nat → Nat → Bool) (out : Nat → Int) : Prop where
  ways : Ways w A n n nb W
  sa : ∀ b off, A = some ⟨b, off, none⟩ → b ≠ ob
  nob : ∀ i, i < n → nb i ≠ ob
  out : IArr w ob n out
  lo : w0.heap.size ≤ ob
  below : Below w0.heap.size w0 w
theorem PN.keep {w0 w w' : World} {A : Option Addr} {n ob : Nat} {nb : Nat → Nat} {W : Nat → Nat → Bool} {out : Nat → Int} (h : PN w0 w A n ob nb W out) (hb : Below w.heap.size w w') : PN w0 w' A n ob nb W out :=
  ⟨h.ways.keep hb, h.sa, h.nob, h.out.keep hb, h.lo, below_then h.below h.below.size hb⟩
theorem rd_tch {w w' : World} {A : Option Addr} {xs : List Value} {S : Nat → Prop} (h : Rd w A xs) (ht : Tch S w w') (hS : ∀ b off, A = some ⟨b, off, none⟩ → ¬ S b) : Rd w' A xs := by
  rcases h with h | ⟨b, off, rfl, h⟩
  · exact .inl h
  · exact .inr ⟨b, off, rfl, fun j u hu => (ht.cell (p := ⟨b, off + j, none⟩) (World.block_lt_of_cell? w _ (h j u hu)) (hS b off rfl)).trans (h j u hu)⟩
theorem PN.set {w0 w : World} {A : Option Addr} {n ob q : Nat} {nb : Nat → Nat} {W : Nat → Nat → Bool} {out : Nat → Int} (h : PN w0 w A n ob nb W out) (hq : q < n) (x : Int) : PN w0 (w.setCell ⟨ob, q, none⟩ (.int .i64 x)) A n ob nb W (upd out q x) := by
  have Ts := Ap.setCell_tch w ⟨ob, q, none⟩ (.int .i64 x) (fun q => q = ob) rfl
  exact ⟨⟨rd_tch h.ways.rd Ts h.sa, fun i hi => (h.ways.row i hi).tch Ts (h.nob i hi)⟩, h.sa, h.nob, h.out.set hq x, h.lo, below_tch h.below h.below.size Ts (fun q _ e => by have := h.lo; omega)⟩
theorem PN.congr {w0 w : World} {A : Option Addr} {n ob : Nat} {nb : Nat → Nat} {W : Nat → Nat → Bool} {out out' : Nat → Int} (h : PN w0 w A n ob nb W out) (he : ∀ v, v < n → out' v = out v) : PN w0 w A n ob nb W out' :=
  ⟨h.ways, h.sa, h.nob, h.out.congr he, h.lo, h.below⟩
theorem PB.done {w0 w : World} {A : Option Addr} {n c ob : Nat} {l : List AI} {nb : Nat → Nat} {W : Nat → Nat → Bool} (h : PB w0 w (.slice A n c) n n ob l nb W) : PN w0 w A n ob nb W (outK n l 0) := by
  refine ⟨⟨own_rd h.own, h.row⟩, fun b off e => ?_, h.nob, ?_, h.lo, h.below⟩
  · subst e
    exact fun e => h.sob (by rw [e]; rfl)
  · rw [outK_zero]
    exact h.out.congr fun i hi => by simp [hi]
end Go.Proofs.Ytnhnckhjcnjacaa.ST
