/- Strata: the numbering of the parts, in plain lists and functions. -/
import Derived.Test.YtnhnckhjcnjacaaSp
namespace Go.Proofs.YtnhnckhjcnjacaaSg
open Go.Proofs.YtnhnckhjcnjacaaSw
set_option linter.unusedVariables false
set_option linter.unusedSimpArgs false

/-- How many arcs lead from a part to others; from which parts arcs lead to it. -/
structure CS where
  waits : Nat → Int
  back : Nat → List Nat
def stepC (H : Nat → Nat) (v : Nat) (s : CS) (t : Nat) : CS :=
  if H v = H t then s else ⟨upd s.waits (H v) (s.waits (H v) + 1), upd s.back (H t) (s.back (H t) ++ [H v])⟩
def crossV (H : Nat → Nat) (ts : List Nat) (v : Nat) (s : CS) : CS := ts.foldl (stepC H v) s
def zeroC : CS := ⟨fun _ => 0, fun _ => []⟩
def cross (H : Nat → Nat) (out : Nat → List Nat) (k : Nat) : CS := (List.range k).foldl (fun s v => crossV H (out v) v s) zeroC
theorem cross_succ (H : Nat → Nat) (out : Nat → List Nat) (k : Nat) : cross H out (k + 1) = crossV H (out k) k (cross H out k) := by
  unfold cross
  rw [List.range_succ, List.foldl_append]
  rfl
theorem crossV_succ (H : Nat → Nat) (ts : List Nat) (v : Nat) (s : CS) (j : Nat) (h : j < ts.length) : crossV H (ts.take (j + 1)) v s = stepC H v (crossV H (ts.take j) v s) ts[j] := by
  unfold crossV
  rw [List.take_succ_eq_append_getElem h, List.foldl_append]
  rfl
/-- The bounds while m arcs have been counted. -/
structure CB (n m : Nat) (s : CS) : Prop where
  w : ∀ p, 0 ≤ s.waits p ∧ s.waits p ≤ m
  l : ∀ q, (s.back q).length ≤ m
  lt : ∀ q, ∀ x ∈ s.back q, x < n
theorem CB.zero (n : Nat) : CB n 0 zeroC := ⟨fun p => by simp [zeroC], fun q => by simp [zeroC], fun q x hx => by simp [zeroC] at hx⟩
theorem CB.mono {n m m' : Nat} {s : CS} (h : CB n m s) (hm : m ≤ m') : CB n m' s := ⟨fun p => by have := h.w p; omega, fun q => Nat.le_trans (h.l q) hm, h.lt⟩
theorem CB.step {n m : Nat} {s : CS} {H : Nat → Nat} {v t : Nat} (h : CB n m s) (hv : H v < n) : CB n (m + 1) (stepC H v s t) := by
  unfold stepC
  split
  · exact h.mono (by omega)
  · refine ⟨fun p => ?_, fun q => ?_, fun q x hx => ?_⟩
    · dsimp only
      unfold upd
      split
      · have := h.w (H v); omega
      · have := h.w p; omega
    · dsimp only
      unfold upd
      split
      · have := h.l (H t); simp; omega
      · have := h.l q; omega
    · dsimp only at hx
      unfold upd at hx
      split at hx
      · rcases List.mem_append.1 hx with hx | hx
        · exact h.lt _ x hx
        · rw [List.mem_singleton] at hx; rw [hx]; exact hv
      · exact h.lt q x hx
theorem CB.fold {n : Nat} {H : Nat → Nat} {v : Nat} (hv : H v < n) : ∀ (ts : List Nat) (m : Nat) (s : CS), CB n m s → CB n (m + ts.length) (crossV H ts v s)
  | [], m, s, h => h
  | t :: ts, m, s, h => by
    have := CB.fold hv ts (m + 1) (stepC H v s t) (h.step hv)
    simp only [List.length_cons]
    rw [show m + (ts.length + 1) = m + 1 + ts.length by omega]
    exact this
theorem CB.cross {n N : Nat} {H : Nat → Nat} {out : Nat → List Nat} (hH : ∀ v < n, H v < n) (ho : ∀ v < n, (out v).length ≤ N) (k : Nat) (hk : k ≤ n) : CB n (k * N) (cross H out k) := by
  induction k with
  | zero => rw [Nat.zero_mul]; exact CB.zero n
  | succ k ih =>
    rw [cross_succ]
    refine (CB.fold (hH k (by omega)) (out k) _ _ (ih (by omega))).mono ?_
    have := ho k (by omega)
    rw [Nat.add_mul]
    omega
/-- The state while the parts are numbered. -/
structure KS where
  waits : Nat → Int
  number : Nat → Int
  order : List Nat
  ready : List Nat
def minR : List Nat → Nat
  | [] => 0
  | x :: l => minL x l
/-- One arc less to wait for. -/
def lowK (s : KS) (p : Nat) : KS := { s with waits := upd s.waits p (s.waits p - 1), ready := if s.waits p - 1 = 0 then p :: s.ready else s.ready }
def takeK (s : KS) : KS := { s with number := upd s.number (minR s.ready) s.order.length, order := s.order ++ [minR s.ready], ready := s.ready.erase (minR s.ready) }
def stepK (back : Nat → List Nat) (s : KS) : KS := (back (minR s.ready)).foldl lowK (takeK s)
def iterK (back : Nat → List Nat) (s : KS) : Nat → KS
  | 0 => s
  | i + 1 => stepK back (iterK back s i)
theorem minL_mem (m : Nat) (l : List Nat) : minL m l = m ∨ minL m l ∈ l := by
  induction l generalizing m with
  | nil => exact .inl rfl
  | cons x l ih =>
    rcases ih (min m x) with h | h
    · show minL (min m x) l = m ∨ _
      rcases Nat.le_total m x with hx | hx
      · rw [Nat.min_eq_left hx] at h ⊢
        exact .inl h
      · rw [Nat.min_eq_right hx] at h ⊢
        exact .inr (by show minL m (x :: l) ∈ _; unfold minL; rw [Nat.min_eq_right hx, h]; simp)
    · exact .inr (List.mem_cons_of_mem _ h)
theorem minL_le_all (m : Nat) (l : List Nat) : minL m l ≤ m ∧ ∀ x ∈ l, minL m l ≤ x := by
  induction l generalizing m with
  | nil => exact ⟨Nat.le_refl _, fun x hx => by simp at hx⟩
  | cons y l ih =>
    obtain ⟨h1, h2⟩ := ih (min m y)
    refine ⟨Nat.le_trans h1 (Nat.min_le_left _ _), fun x hx => ?_⟩
    rcases List.mem_cons.1 hx with rfl | hx
    · exact Nat.le_trans h1 (Nat.min_le_right _ _)
    · exact h2 x hx
theorem minR_mem {l : List Nat} (h : l ≠ []) : minR l ∈ l := by
  match l, h with
  | x :: l, _ =>
    rcases minL_mem x l with h | h
    · show minL x l ∈ _; rw [h]; simp
    · exact List.mem_cons_of_mem _ h
theorem minR_le {l : List Nat} {x : Nat} (h : x ∈ l) : minR l ≤ x := by
  match l, h with
  | y :: l, h =>
    obtain ⟨h1, h2⟩ := minL_le_all y l
    rcases List.mem_cons.1 h with rfl | h
    · exact h1
    · exact h2 x h
/-- The least of a list is the least of any that is a rearrangement of it. -/
theorem minR_eq {l : List Nat} {m : Nat} (h1 : m ∈ l) (h2 : ∀ x ∈ l, m ≤ x) : minR l = m := by
  have hne : l ≠ [] := fun e => by rw [e] at h1; simp at h1
  exact Nat.le_antisymm (minR_le h1) (h2 _ (minR_mem hne))
end Go.Proofs.YtnhnckhjcnjacaaSg
