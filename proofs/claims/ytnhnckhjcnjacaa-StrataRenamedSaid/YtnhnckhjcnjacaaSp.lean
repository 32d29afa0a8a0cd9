/- Strata: the walk through a graph, in plain lists and functions. -/
import Derived.Test.YtnhnckhjcnjacaaSg
import Derived.Test.YtnhnckhjcnjacaaSw
namespace Go.Proofs.YtnhnckhjcnjacaaSg
open Go.Proofs.YtnhnckhjcnjacaaSw
set_option linter.unusedVariables false
set_option linter.unusedSimpArgs false

/-- A node is laid on the stack. -/
def pushS (v : Nat) (s : TS) : TS := { low := upd s.low v (s.at_ + 1), seen := upd s.seen v (s.at_ + 1), head := s.head, stack := s.stack ++ [v], at_ := s.at_ + 1 }
/-- A part is taken off it. -/
def minL : Nat → List Nat → Nat
  | m, [] => m
  | m, x :: l => minL (min m x) l
def popS (n : Nat) (pre : List Nat) (v : Nat) (rest : List Nat) (s : TS) : TS :=
  { low := fun x => if x ∈ v :: rest then (n : Int) + 1 else s.low x, seen := s.seen, head := fun x => if x ∈ v :: rest then (minL v rest : Int) else s.head x, stack := pre, at_ := s.at_ }
/-- A node's number is lowered to another's. -/
def lowerS (v t : Nat) (s : TS) : TS := { s with low := upd s.low v (min (s.low v) (s.low t)) }
/-- The part of a node is taken off the stack. -/
def popF (n v : Nat) (s : TS) : TS :=
  popS n (s.stack.take (s.stack.length - ((s.stack.reverse.takeWhile fun x => decide (x ≠ v)).length + 1))) v (s.stack.reverse.takeWhile fun x => decide (x ≠ v)).reverse s
theorem popF_eq (n v : Nat) (s : TS) (pre rest : List Nat) (h : s.stack = pre ++ v :: rest) (hv : v ∉ rest) : popF n v s = popS n pre v rest s := by
  have hr : s.stack.reverse.takeWhile (fun x => decide (x ≠ v)) = rest.reverse := by
    rw [h, List.reverse_append, List.reverse_cons, List.append_assoc, List.takeWhile_append_of_pos]
    · simp
    · intro a ha
      simp only [ne_eq, decide_not, Bool.not_eq_eq_eq_not, Bool.not_true, decide_eq_false_iff_not]
      intro e
      exact hv (by rw [← e]; simpa using ha)
  unfold popF
  rw [hr]
  congr 1
  · rw [h]
    simp
  · simp
def stepS (vis : Nat → TS → TS) (v : Nat) (s : TS) (t : Nat) : TS := lowerS v t (if s.seen t = 0 then vis t s else s)
/-- The visit of a node. -/
def visit (out : Nat → List Nat) (n : Nat) : Nat → Nat → TS → TS
  | 0, _, s => s
  | f + 1, v, s =>
    let s1 := (out v).foldl (stepS (visit out n f) v) (pushS v s)
    if s1.low v = s1.seen v then popF n v s1 else s1
def unseen (n : Nat) (s : TS) : Nat := ((List.range n).filter fun x => decide (s.seen x = 0)).length
structure Lt (n : Nat) (s : TS) : Prop where
  at0 : 0 ≤ s.at_
  cnt : s.at_ + unseen n s = n
  stk : ∀ x ∈ s.stack, x < n ∧ s.seen x ≠ 0
  nd : s.stack.Nodup
/-- What a visit keeps. -/
structure Vp (n v : Nat) (s s' : TS) : Prop where
  lt : Lt n s'
  ext : ∃ T, s'.stack = s.stack ++ T ∧ ∀ x ∈ T, s.seen x = 0
  keep : ∀ x, s.seen x ≠ 0 → s'.seen x = s.seen x
  seen : s'.seen v ≠ 0
/-- While a node's arcs are gone through. -/
structure Mid (n v : Nat) (s0 s : TS) : Prop where
  lt : Lt n s
  ext : ∃ T, s.stack = s0.stack ++ v :: T ∧ ∀ x ∈ T, (pushS v s0).seen x = 0
  keep : ∀ x, (pushS v s0).seen x ≠ 0 → s.seen x = (pushS v s0).seen x
theorem filter_le {α : Type} (p q : α → Bool) (l : List α) (h : ∀ x ∈ l, p x = true → q x = true) : (l.filter p).length ≤ (l.filter q).length := by
  induction l with
  | nil => exact Nat.le_refl _
  | cons a l ih =>
    have := ih fun x hx => h x (List.mem_cons_of_mem _ hx)
    have ha := h a (by simp)
    cases hp : p a <;> cases hq : q a <;> simp [List.filter_cons, hp, hq] <;> first | omega | (rw [hp, hq] at ha; simp at ha)
theorem unseen_le {n : Nat} {s s' : TS} (h : ∀ x, s.seen x ≠ 0 → s'.seen x ≠ 0) : unseen n s' ≤ unseen n s := by
  refine filter_le _ _ _ fun x _ hx => ?_
  simp only [decide_eq_true_eq] at hx ⊢
  exact Classical.byContradiction fun e => h x e hx
theorem filter_one {n v : Nat} (p q : Nat → Bool) (hv : v < n) (hp : p v = true) (hq : q v = false) (h : ∀ x, x ≠ v → q x = p x) : ((List.range n).filter q).length + 1 = ((List.range n).filter p).length := by
  induction n with
  | zero => omega
  | succ n ih =>
    rw [List.range_succ, List.filter_append, List.filter_append, List.length_append, List.length_append]
    by_cases hvn : v = n
    · subst hvn
      have e : (List.range v).filter q = (List.range v).filter p := List.filter_congr fun x hx => h x (by have := List.mem_range.1 hx; omega)
      rw [e]
      simp [hp, hq]
    · have := ih (by omega)
      have e : [n].filter q = [n].filter p := by simp [List.filter_cons, h n (fun e => hvn e.symm)]
      rw [e]
      omega
theorem unseen_push {n v : Nat} {s : TS} (hv : v < n) (hs : s.seen v = 0) (h0 : 0 ≤ s.at_) : unseen n (pushS v s) + 1 = unseen n s := by
  refine filter_one _ _ hv (by simp [hs]) (by simp [pushS, upd]; omega) fun x hx => ?_
  simp [pushS, upd, hx]
theorem filter_two {α : Type} (g : α → Bool) (l : List α) : (l.filter g).length + (l.filter fun x => !g x).length = l.length := by
  induction l with
  | nil => rfl
  | cons x l ih => cases h : g x <;> simp [List.filter_cons, h] <;> omega
theorem nodup_same {l : List Nat} {n : Nat} (h : l.Nodup) (hl : ∀ x ∈ l, x = n) : l.length ≤ 1 := by
  match l, h, hl with
  | [], _, _ => simp
  | [_], _, _ => simp
  | x :: y :: l, h, hl =>
    have e1 := hl x (by simp)
    have e2 := hl y (by simp)
    rw [List.nodup_cons] at h
    exact absurd (by rw [e1, e2]; simp) h.1
theorem nodup_le : ∀ {n : Nat} {l : List Nat}, l.Nodup → (∀ x ∈ l, x < n) → l.length ≤ n
  | 0, l, _, hl => by
    cases l with
    | nil => simp
    | cons x l => have := hl x (by simp); omega
  | n + 1, l, h, hl => by
    have h1 := filter_two (fun x => decide (x = n)) l
    have h2 := nodup_same (n := n) (h.filter (fun x => decide (x = n))) (fun x hx => by simpa using (List.mem_filter.1 hx).2)
    have h3 := nodup_le (n := n) (h.filter (fun x => !decide (x = n))) (fun x hx => by
      obtain ⟨h4, h5⟩ := List.mem_filter.1 hx
      have := hl x h4
      simp at h5
      omega)
    omega
theorem Lt.len {n : Nat} {s : TS} (h : Lt n s) : s.stack.length ≤ n := nodup_le h.nd fun x hx => (h.stk x hx).1
theorem Lt.atn {n : Nat} {s : TS} (h : Lt n s) : s.at_ ≤ n := by have := h.cnt; omega
theorem push_lt {n v : Nat} {s : TS} (h : Lt n s) (hv : v < n) (hs : s.seen v = 0) : Lt n (pushS v s) ∧ Mid n v s (pushS v s) := by
  have h0 := h.at0
  have hu := unseen_push hv hs h0
  have hc := h.cnt
  have hl : Lt n (pushS v s) := by
    refine ⟨by simp [pushS]; omega, by show s.at_ + 1 + _ = _; omega, fun x hx => ?_, ?_⟩
    · rcases List.mem_append.1 hx with hx | hx
      · refine ⟨(h.stk x hx).1, ?_⟩
        simp only [pushS, upd]
        split
        · omega
        · exact (h.stk x hx).2
      · rw [List.mem_singleton] at hx
        subst hx
        refine ⟨hv, ?_⟩
        simp only [pushS, upd, if_true]
        omega
    · show (s.stack ++ [v]).Nodup
      rw [List.nodup_append]
      refine ⟨h.nd, by simp, fun a ha b hb => ?_⟩
      rw [List.mem_singleton] at hb
      subst hb
      intro e
      exact (h.stk a ha).2 (by rw [e]; exact hs)
  exact ⟨hl, hl, ⟨[], rfl, by simp⟩, fun x _ => rfl⟩
theorem lower_lt {n v t : Nat} {s : TS} (h : Lt n s) : Lt n (lowerS v t s) := ⟨h.at0, h.cnt, h.stk, h.nd⟩
theorem Mid.lower {n v t : Nat} {s0 s : TS} (h : Mid n v s0 s) : Mid n v s0 (lowerS v t s) := ⟨lower_lt h.lt, h.ext, h.keep⟩
theorem Mid.unseen {n v : Nat} {s0 s : TS} (h : Mid n v s0 s) : YtnhnckhjcnjacaaSg.unseen n s ≤ YtnhnckhjcnjacaaSg.unseen n (pushS v s0) := unseen_le fun x hx => by rw [h.keep x hx]; exact hx
theorem Mid.vis {n v t : Nat} {s0 s s' : TS} (h : Mid n v s0 s) (hp : Vp n t s s') : Mid n v s0 s' := by
  obtain ⟨T, hT, hT2⟩ := h.ext
  obtain ⟨U, hU, hU2⟩ := hp.ext
  refine ⟨hp.lt, ⟨T ++ U, by rw [hU, hT]; simp, fun x hx => ?_⟩, fun x hx => ?_⟩
  · rcases List.mem_append.1 hx with hx | hx
    · exact hT2 x hx
    · exact Classical.byContradiction fun e => e (by rw [← h.keep x e]; exact hU2 x hx)
  · have h1 := h.keep x hx
    rw [hp.keep x (by rw [h1]; exact hx), h1]
theorem mid_step {n v t f : Nat} {s0 s : TS} {vis : Nat → TS → TS} (hv : ∀ t s, Lt n s → t < n → s.seen t = 0 → unseen n s ≤ f → Vp n t s (vis t s)) (h : Mid n v s0 s) (ht : t < n) (hu : unseen n (pushS v s0) ≤ f) : Mid n v s0 (stepS vis v s t) := by
  unfold stepS
  by_cases hs : s.seen t = 0
  · rw [if_pos hs]
    exact (h.vis (hv t s h.lt ht hs (Nat.le_trans h.unseen hu))).lower
  · rw [if_neg hs]
    exact h.lower
theorem mid_fold {n v f : Nat} {s0 : TS} {vis : Nat → TS → TS} (hv : ∀ t s, Lt n s → t < n → s.seen t = 0 → unseen n s ≤ f → Vp n t s (vis t s)) (hu : unseen n (pushS v s0) ≤ f) :
    ∀ (ts : List Nat) (s : TS), Mid n v s0 s → (∀ t ∈ ts, t < n) → Mid n v s0 (ts.foldl (stepS vis v) s)
  | [], s, h, _ => h
  | t :: ts, s, h, ht => mid_fold hv hu ts _ (mid_step hv h (ht t (by simp)) hu) fun x hx => ht x (List.mem_cons_of_mem _ hx)
theorem mid_notin {v : Nat} {s0 : TS} {T : List Nat} (h0 : 0 ≤ s0.at_) (hT : ∀ x ∈ T, (pushS v s0).seen x = 0) : v ∉ T := fun hx => by
  have := hT v hx
  simp [pushS, upd] at this
  omega
theorem Mid.done {n v : Nat} {s0 s : TS} (h : Mid n v s0 s) (h0 : 0 ≤ s0.at_) (hs0 : s0.seen v = 0) : Vp n v s0 (if s.low v = s.seen v then popF n v s else s) := by
  obtain ⟨T, hT, hT2⟩ := h.ext
  have hvT := mid_notin (v := v) (s0 := s0) h0 hT2
  have hpv : (pushS v s0).seen v ≠ 0 := by simp [pushS, upd]; omega
  have hk : ∀ x, s0.seen x ≠ 0 → s.seen x = s0.seen x := by
    intro x hx
    have hxv : x ≠ v := fun e => hx (by rw [e]; exact hs0)
    have e : (pushS v s0).seen x = s0.seen x := by simp [pushS, upd, hxv]
    rw [h.keep x (by rw [e]; exact hx), e]
  have hz : ∀ x, (pushS v s0).seen x = 0 → s0.seen x = 0 := by
    intro x hx
    refine Classical.byContradiction fun e => ?_
    have hxv : x ≠ v := fun e' => e (by rw [e']; exact hs0)
    simp [pushS, upd, hxv] at hx
    exact e hx
  split
  · rw [popF_eq n v s s0.stack T hT hvT]
    have hnd := h.lt.nd
    rw [hT, List.nodup_append] at hnd
    exact ⟨⟨h.lt.at0, h.lt.cnt, fun x hx => h.lt.stk x (by rw [hT]; exact List.mem_append_left _ hx), hnd.1⟩, ⟨[], by simp [popS], by simp⟩, hk, by show s.seen v ≠ 0; rw [h.keep v hpv]; exact hpv⟩
  · refine ⟨h.lt, ⟨v :: T, hT, fun x hx => ?_⟩, hk, by rw [h.keep v hpv]; exact hpv⟩
    rcases List.mem_cons.1 hx with rfl | hx
    · exact hs0
    · exact hz x (hT2 x hx)
theorem visit_lt (out : Nat → List Nat) (n : Nat) (ho : ∀ v < n, ∀ t ∈ out v, t < n) : ∀ (f v : Nat) (s : TS), Lt n s → v < n → s.seen v = 0 → unseen n s ≤ f → Vp n v s (visit out n f v s) := by
  intro f
  induction f with
  | zero =>
    intro v s h hv hs hu
    have := unseen_push hv hs h.at0
    omega
  | succ f ih =>
    intro v s h hv hs hu
    have h1 := unseen_push hv hs h.at0
    exact (mid_fold (fun t s hl ht hs hu => ih t s hl ht hs hu) (by omega) (out v) _ (push_lt h hv hs).2 (ho v hv)).done h.at0 hs
end Go.Proofs.YtnhnckhjcnjacaaSg
