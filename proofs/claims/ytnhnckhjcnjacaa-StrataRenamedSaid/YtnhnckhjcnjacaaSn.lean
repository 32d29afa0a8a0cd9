/- Strata: the numbering of the parts, plainly: what its loops keep. -/
import Derived.Test.YtnhnckhjcnjacaaSq
import Derived.Test.YtnhnckhjcnjacaaSh
namespace Go.Proofs.YtnhnckhjcnjacaaSg
open Go.Proofs.YtnhnckhjcnjacaaSw
set_option linter.unusedVariables false
set_option linter.unusedSimpArgs false

/-- The heads among the first k nodes that wait for nothing. -/
def headsK (H : Nat → Nat) (waits : Nat → Int) (k : Nat) : List Nat := (List.range k).filter fun v => decide (H v = v) && decide (waits v = 0)
theorem headsK_succ (H : Nat → Nat) (waits : Nat → Int) (k : Nat) : headsK H waits (k + 1) = headsK H waits k ++ (if H k = k ∧ waits k = 0 then [k] else []) := by
  unfold headsK
  rw [List.range_succ, List.filter_append]
  congr 1
  by_cases h1 : H k = k <;> by_cases h2 : waits k = 0 <;> simp [h1, h2]
theorem headsK_len (H : Nat → Nat) (waits : Nat → Int) (k : Nat) : (headsK H waits k).length ≤ k := by
  unfold headsK
  have := List.length_filter_le (fun v => decide (H v = v) && decide (waits v = 0)) (List.range k)
  simpa using this
/-- Where the numbering starts. -/
def startK (H : Nat → Nat) (waits : Nat → Int) (n : Nat) : KS := ⟨waits, fun _ => 0, [], headsK H waits n⟩
/-- Within a step of the numbering. -/
def inK (back : Nat → List Nat) (s : KS) (j : Nat) : KS := ((back (minR s.ready)).take j).foldl lowK (takeK s)
theorem inK_zero (back : Nat → List Nat) (s : KS) : inK back s 0 = takeK s := by simp [inK]
theorem inK_succ (back : Nat → List Nat) (s : KS) (j : Nat) (h : j < (back (minR s.ready)).length) : inK back s (j + 1) = lowK (inK back s j) (back (minR s.ready))[j] := by
  unfold inK
  rw [List.take_succ_eq_append_getElem h, List.foldl_append]
  rfl
theorem inK_all (back : Nat → List Nat) (s : KS) (j : Nat) (h : (back (minR s.ready)).length ≤ j) : inK back s j = stepK back s := by
  unfold inK stepK
  rw [List.take_of_length_le h]
structure KB (n : Nat) (s : KS) : Prop where
  r : s.ready.length < 5000
  o : s.order.length < 5000
  w : ∀ p, -1099511627776 ≤ s.waits p ∧ s.waits p ≤ 1099511627776
  lt : ∀ x ∈ s.ready, x < n
structure KOk (n : Nat) (back : Nat → List Nat) (s : KS) (T : Nat) : Prop where
  ne : ∀ i, i < T → (iterK back s i).ready ≠ []
  fin : (iterK back s T).ready = []
  bnd : ∀ i, i ≤ T → KB n (iterK back s i)
  mid : ∀ i, i < T → ∀ j, j ≤ (back (minR (iterK back s i).ready)).length → KB n (inK back (iterK back s i) j)
theorem fold_lowK_order (l : List Nat) (s : KS) : (l.foldl lowK s).order = s.order := by
  induction l generalizing s with
  | nil => rfl
  | cons x l ih => rw [List.foldl_cons, ih]; rfl
theorem fold_lowK_number (l : List Nat) (s : KS) : (l.foldl lowK s).number = s.number := by
  induction l generalizing s with
  | nil => rfl
  | cons x l ih => rw [List.foldl_cons, ih]; rfl
theorem inK_order (back : Nat → List Nat) (s : KS) (j : Nat) : (inK back s j).order = s.order ++ [minR s.ready] := fold_lowK_order _ _
theorem inK_number (back : Nat → List Nat) (s : KS) (j : Nat) : (inK back s j).number = upd s.number (minR s.ready) s.order.length := fold_lowK_number _ _
theorem stepK_order (back : Nat → List Nat) (s : KS) : (stepK back s).order = s.order ++ [minR s.ready] := fold_lowK_order _ _
theorem iterK_order_len (back : Nat → List Nat) (s : KS) (i : Nat) (h : s.order = []) : (iterK back s i).order.length = i := by
  induction i with
  | zero => simp [iterK, h]
  | succ i ih =>
    show (stepK back (iterK back s i)).order.length = i + 1
    rw [stepK_order, List.length_append, ih]
    rfl
theorem heap_min {L R : List Nat} (hh : IsHp L L.length) (hp : L.Perm R) (h0 : 0 < L.length) : minR R = gN L 0 := by
  refine minR_eq (hp.mem_iff.1 ?_) (fun x hx => ?_)
  · rw [gN_at h0]; exact List.getElem_mem _
  · obtain ⟨j, hj, rfl⟩ := List.mem_iff_getElem.1 (hp.mem_iff.2 hx)
    have := hh.least j hj
    rw [gN_at hj] at this
    exact this
theorem perm_erase {L L' R : List Nat} {m : Nat} (hp : L.Perm R) (h : L.Perm (m :: L')) : L'.Perm (R.erase m) := by
  have h2 : (m :: L').Perm R := h.symm.trans hp
  have := h2.erase m
  rw [List.erase_cons_head] at this
  exact this
end Go.Proofs.YtnhnckhjcnjacaaSg
