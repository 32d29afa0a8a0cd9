/- Strata: the numbering of the parts, plainly: what it keeps. -/
import Derived.Test.YtnhnckhjcnjacaaUb
namespace Go.Proofs.YtnhnckhjcnjacaaSg
open Go.Proofs.YtnhnckhjcnjacaaSw Go.Proofs.Ytnhnckhjcnjacaa.ST
set_option linter.unusedVariables false
set_option linter.unusedSimpArgs false

/-- The arcs between parts. -/
def XL (H : Nat → Nat) (out : Nat → List Nat) (k : Nat) : List (Nat × Nat) := (List.range k).flatMap fun v => (out v).flatMap fun t => if H v = H t then [] else [(H v, H t)]
def csOf (x : List (Nat × Nat)) : CS := ⟨fun p => ((x.countP fun a => decide (a.1 = p) : Nat) : Int), fun q => (x.filter fun a => decide (a.2 = q)).map (·.1)⟩
theorem stepC_csOf (H : Nat → Nat) (v t : Nat) (x : List (Nat × Nat)) : stepC H v (csOf x) t = csOf (x ++ if H v = H t then [] else [(H v, H t)]) := by
  unfold stepC
  by_cases h : H v = H t
  · rw [if_pos h, if_pos h, List.append_nil]
  · rw [if_neg h, if_neg h]
    unfold csOf
    congr 1
    · funext p
      dsimp only
      unfold upd
      by_cases e : p = H v
      · subst e
        simp [List.countP_append]
      · have e' : ¬ H v = p := fun h => e h.symm
        rw [if_neg e]
        simp [List.countP_append, List.countP_cons, e']
    · funext q
      dsimp only
      unfold upd
      by_cases e : q = H t
      · subst e
        simp
      · have e' : ¬ H t = q := fun h => e h.symm
        rw [if_neg e]
        simp [e']
theorem crossV_csOf (H : Nat → Nat) (v : Nat) : ∀ (ts : List Nat) (x : List (Nat × Nat)), crossV H ts v (csOf x) = csOf (x ++ ts.flatMap fun t => if H v = H t then [] else [(H v, H t)])
  | [], x => by simp [crossV]
  | t :: ts, x => by
    have := crossV_csOf H v ts (x ++ if H v = H t then [] else [(H v, H t)])
    unfold crossV at this ⊢
    rw [List.foldl_cons, stepC_csOf, this, List.flatMap_cons, List.append_assoc]
theorem cross_csOf (H : Nat → Nat) (out : Nat → List Nat) (k : Nat) : cross H out k = csOf (XL H out k) := by
  induction k with
  | zero => rfl
  | succ k ih =>
    rw [cross_succ, ih, crossV_csOf]
    unfold XL
    rw [List.range_succ, List.flatMap_append]
    simp
theorem XL_mem {H : Nat → Nat} {out : Nat → List Nat} {k : Nat} {a : Nat × Nat} : a ∈ XL H out k ↔ ∃ v t, v < k ∧ t ∈ out v ∧ H v ≠ H t ∧ a = (H v, H t) := by
  unfold XL
  simp only [List.mem_flatMap, List.mem_range]
  constructor
  · rintro ⟨v, hv, t, ht, ha⟩
    split at ha
    · simp at ha
    · rename_i h
      exact ⟨v, t, hv, ht, h, by simpa using ha⟩
  · rintro ⟨v, t, hv, ht, h, rfl⟩
    exact ⟨v, hv, t, ht, by rw [if_neg h]; simp⟩
theorem XL_len {H : Nat → Nat} {out : Nat → List Nat} {N : Nat} : ∀ k, (∀ v < k, (out v).length ≤ N) → (XL H out k).length ≤ k * N := by
  intro k
  induction k with
  | zero => intro _; simp [XL]
  | succ k ih =>
    intro ho
    unfold XL at ih ⊢
    rw [List.range_succ, List.flatMap_append, List.length_append]
    have h1 := ih fun v hv => ho v (by omega)
    have h2 : ((out k).flatMap fun t => if H k = H t then [] else [(H k, H t)]).length ≤ (out k).length := by
      generalize out k = l
      induction l with
      | nil => simp
      | cons t l ih =>
        rw [List.flatMap_cons, List.length_append, List.length_cons]
        have : (if H k = H t then [] else [(H k, H t)]).length ≤ 1 := by split <;> simp
        omega
    have h3 := ho k (by omega)
    rw [Nat.add_mul]
    simp only [List.flatMap_cons, List.flatMap_nil, List.append_nil]
    omega
/-- Arcs that wait. -/
def wt (X : List (Nat × Nat)) (o : List Nat) (p : Nat) : Nat := X.countP fun a => decide (a.1 = p) && decide (a.2 ∉ o)
theorem wt_zero {X : List (Nat × Nat)} {o : List Nat} {p : Nat} : wt X o p = 0 ↔ ∀ a ∈ X, a.1 = p → a.2 ∈ o := by
  unfold wt
  rw [List.countP_eq_zero]
  constructor
  · intro h a ha hp
    have := h a ha
    simpa [hp] using this
  · intro h a ha
    simp only [Bool.and_eq_true, decide_eq_true_eq, not_and, Decidable.not_not]
    exact h a ha
theorem count_back (X : List (Nat × Nat)) (m p : Nat) : ((csOf X).back m).count p = X.countP fun a => decide (a.1 = p) && decide (a.2 = m) := by
  unfold csOf
  induction X with
  | nil => rfl
  | cons a X ih =>
    dsimp only at ih ⊢
    rw [List.countP_cons, List.filter_cons]
    by_cases h2 : a.2 = m <;> by_cases h1 : a.1 = p <;> simp [h1, h2, List.count_cons] at ih ⊢ <;> omega
theorem wt_take (X : List (Nat × Nat)) (o : List Nat) (m p : Nat) (hm : m ∉ o) : wt X o p = wt X (o ++ [m]) p + ((csOf X).back m).count p := by
  rw [count_back]
  unfold wt
  induction X with
  | nil => rfl
  | cons a X ih =>
    rw [List.countP_cons, List.countP_cons, List.countP_cons, ih]
    by_cases h1 : a.1 = p
    · by_cases h2 : a.2 = m
      · have h3 : a.2 ∉ o := by rw [h2]; exact hm
        simp [h1, h2, hm]
        omega
      · by_cases h3 : a.2 ∈ o <;> simp [h1, h2, h3] <;> omega
    · simp [h1]
/-- What a row of lowerings leaves. -/
theorem fold_low : ∀ (l : List Nat) (s : KS), s.ready.Nodup → (∀ p ∈ s.ready, s.waits p = 0) → (∀ p, (l.count p : Int) ≤ s.waits p) →
    (l.foldl lowK s).ready.Nodup ∧ (∀ p, (l.foldl lowK s).waits p = s.waits p - l.count p) ∧ ∀ p, p ∈ (l.foldl lowK s).ready ↔ p ∈ s.ready ∨ (p ∈ l ∧ (l.foldl lowK s).waits p = 0)
  | [], s, h1, h2, h3 => ⟨h1, fun p => by simp, fun p => by simp⟩
  | x :: l, s, h1, h2, h3 => by
    have hx1 : 1 ≤ s.waits x := by
      have := h3 x
      rw [List.count_cons_self] at this
      omega
    have hxr : x ∉ s.ready := fun e => by have := h2 x e; omega
    have hw : ∀ p, (lowK s x).waits p = if p = x then s.waits x - 1 else s.waits p := fun p => by simp [lowK, upd]
    have hr : (lowK s x).ready = if s.waits x - 1 = 0 then x :: s.ready else s.ready := rfl
    have hrm : ∀ p, p ∈ (lowK s x).ready ↔ p ∈ s.ready ∨ (p = x ∧ s.waits x - 1 = 0) := by
      intro p
      rw [hr]
      split
      · rename_i e
        rw [List.mem_cons]
        constructor
        · rintro (h | h)
          · exact .inr ⟨h, e⟩
          · exact .inl h
        · rintro (h | h)
          · exact .inr h
          · exact .inl h.1
      · rename_i e
        exact ⟨.inl, fun h => h.elim id fun h => absurd h.2 e⟩
    have hcnt : ∀ p, (x :: l).count p = l.count p + if p = x then 1 else 0 := by
      intro p
      rw [List.count_cons]
      by_cases e : p = x <;> simp [e]
      intro e'
      exact absurd e'.symm e
    have hc1 : ∀ p, (l.count p : Int) ≤ (lowK s x).waits p := by
      intro p
      have h4 := h3 p
      rw [hcnt] at h4
      rw [hw]
      split
      · rename_i e
        rw [if_pos e] at h4
        subst e
        push_cast at h4
        omega
      · rename_i e
        rw [if_neg e] at h4
        simpa using h4
    obtain ⟨i1, i2, i3⟩ := fold_low l (lowK s x) (by
      rw [hr]
      split
      · exact List.nodup_cons.2 ⟨hxr, h1⟩
      · exact h1) (fun p hp => by
      rw [hw]
      rcases (hrm p).1 hp with hp | ⟨rfl, e⟩
      · rw [if_neg (fun e => hxr (by rw [← e]; exact hp))]
        exact h2 p hp
      · rw [if_pos rfl]; exact e) hc1
    rw [List.foldl_cons]
    have i2' : ∀ p, (l.foldl lowK (lowK s x)).waits p = s.waits p - ((x :: l).count p : Nat) := by
      intro p
      rw [i2, hw, hcnt]
      split
      · rename_i e
        subst e
        push_cast
        omega
      · simp
    refine ⟨i1, i2', fun p => ?_⟩
    rw [i3, hrm, List.mem_cons]
    constructor
    · rintro ((h | ⟨rfl, h⟩) | ⟨h, h'⟩)
      · exact .inl h
      · refine .inr ⟨.inl rfl, ?_⟩
        have h5 := i2 p
        have h6 := hc1 p
        rw [hw, if_pos rfl] at h5 h6
        have : (l.count p : Int) = 0 := by omega
        rw [h5, this, h]
        rfl
      · exact .inr ⟨.inr h, h'⟩
    · rintro (h | ⟨rfl | h, h'⟩)
      · exact .inl (.inl h)
      · by_cases hxl : p ∈ l
        · exact .inr ⟨hxl, h'⟩
        · refine .inl (.inr ⟨rfl, ?_⟩)
          have h5 := i2 p
          rw [hw, if_pos rfl, h', List.count_eq_zero.2 hxl] at h5
          simp at h5
          omega
      · exact .inr ⟨h, h'⟩
/-- What the numbering keeps. -/
structure KI (X : List (Nat × Nat)) (n : Nat) (H : Nat → Nat) (s : KS) : Prop where
  nd : s.order.Nodup
  hd : ∀ p ∈ s.order, p < n ∧ H p = p
  w : ∀ p, s.waits p = wt X s.order p
  rnd : s.ready.Nodup
  rdy : ∀ p, p ∈ s.ready ↔ p < n ∧ H p = p ∧ p ∉ s.order ∧ s.waits p = 0
  done : ∀ p ∈ s.order, s.waits p = 0
  num : ∀ i (h : i < s.order.length), s.number s.order[i] = i
  dn : ∀ i (h : i < s.order.length), ∀ a ∈ X, a.1 = s.order[i] → a.2 ∈ s.order.take i
  gr : ∀ i (h : i < s.order.length), ∀ p, p < n → H p = p → p ∉ s.order.take i → p < s.order[i] → ∃ a ∈ X, a.1 = p ∧ a.2 ∉ s.order.take i
/-- The arcs lie between different heads. -/
structure XOk (X : List (Nat × Nat)) (n : Nat) (H : Nat → Nat) : Prop where
  hd : ∀ a ∈ X, (a.1 < n ∧ H a.1 = a.1) ∧ a.2 < n ∧ H a.2 = a.2
  ne : ∀ a ∈ X, a.1 ≠ a.2
section
variable {X : List (Nat × Nat)} {n : Nat} {H : Nat → Nat} {s : KS}
theorem KI.start (X : List (Nat × Nat)) (n : Nat) (H : Nat → Nat) : KI X n H (startK H (csOf X).waits n) := by
  refine ⟨by simp [startK], by simp [startK], fun p => ?_, ?_, fun p => ?_, by simp [startK], fun i h => by simp [startK] at h, fun i h => by simp [startK] at h, fun i h => by simp [startK] at h⟩
  · simp [startK, csOf, wt]
  · exact List.Pairwise.filter _ List.nodup_range
  · simp [startK, headsK]
theorem take_app {α : Type} (l : List α) (x : α) (i : Nat) (h : i ≤ l.length) : (l ++ [x]).take i = l.take i := by rw [List.take_append_of_le_length h]
theorem KI.low (h : KI X n H s) (hne : s.ready ≠ []) (j : Nat) :
    (((csOf X).back (minR s.ready)).take j |>.foldl lowK (takeK s)).ready.Nodup ∧ (∀ p, (((csOf X).back (minR s.ready)).take j |>.foldl lowK (takeK s)).waits p = s.waits p - (((csOf X).back (minR s.ready)).take j).count p) ∧
    (∀ p, p ∈ (((csOf X).back (minR s.ready)).take j |>.foldl lowK (takeK s)).ready ↔ p ∈ s.ready.erase (minR s.ready) ∨ (p ∈ ((csOf X).back (minR s.ready)).take j ∧ (((csOf X).back (minR s.ready)).take j |>.foldl lowK (takeK s)).waits p = 0)) ∧
    ∀ p, ((((csOf X).back (minR s.ready)).take j).count p : Int) ≤ s.waits p := by
  have hm := (h.rdy _).1 (minR_mem hne)
  have hc : ∀ p, ((((csOf X).back (minR s.ready)).take j).count p : Int) ≤ s.waits p := by
    intro p
    have h1 : (((csOf X).back (minR s.ready)).take j).count p ≤ ((csOf X).back (minR s.ready)).count p := (List.take_sublist j _).count_le p
    have h2 := wt_take X s.order (minR s.ready) p hm.2.2.1
    rw [h.w]
    omega
  obtain ⟨h1, h2, h3⟩ := fold_low (((csOf X).back (minR s.ready)).take j) (takeK s) (h.rnd.erase _) (fun p hp => ((h.rdy p).1 (List.mem_of_mem_erase hp)).2.2.2) hc
  exact ⟨h1, h2, h3, hc⟩
theorem KI.step (hX : XOk X n H) (h : KI X n H s) (hne : s.ready ≠ []) : KI X n H (stepK (csOf X).back s) := by
  have hmr := minR_mem hne
  have hm := (h.rdy _).1 hmr
  obtain ⟨h1, h2, h3, h4⟩ := h.low hne ((csOf X).back (minR s.ready)).length
  rw [List.take_length] at h1 h2 h3 h4
  have ho := stepK_order (csOf X).back s
  have hn : (stepK (csOf X).back s).number = upd s.number (minR s.ready) s.order.length := fold_lowK_number _ _
  have hw : ∀ p, (stepK (csOf X).back s).waits p = wt X (s.order ++ [minR s.ready]) p := by
    intro p
    have h5 := h2 p
    have h6 := wt_take X s.order (minR s.ready) p hm.2.2.1
    show (((csOf X).back (minR s.ready)).foldl lowK (takeK s)).waits p = _
    rw [h5, h.w, h6]
    push_cast
    omega
  have h3' : ∀ p, p ∈ (stepK (csOf X).back s).ready ↔ p ∈ s.ready.erase (minR s.ready) ∨ (p ∈ (csOf X).back (minR s.ready) ∧ (stepK (csOf X).back s).waits p = 0) := h3
  have hback : ∀ p, p ∈ (csOf X).back (minR s.ready) → ∃ a ∈ X, a.1 = p ∧ a.2 = minR s.ready := by
    intro p hp
    unfold csOf at hp
    simp only [List.mem_map, List.mem_filter, decide_eq_true_eq] at hp
    obtain ⟨a, ⟨ha, ha2⟩, rfl⟩ := hp
    exact ⟨a, ha, rfl, ha2⟩
  have hwle : ∀ p, s.waits p = 0 → (stepK (csOf X).back s).waits p = 0 := by
    intro p hp
    have h5 : (stepK (csOf X).back s).waits p = s.waits p - ((csOf X).back (minR s.ready)).count p := h2 p
    have h6 := h4 p
    omega
  refine ⟨?_, fun p hp => ?_, fun p => ?_, h1, fun p => ?_, fun p hp => ?_, fun i hi => ?_, fun i hi a ha hai => ?_, fun i hi p hp hHp hpo hlt => ?_⟩
  · rw [ho, List.nodup_append]
    refine ⟨h.nd, by simp, fun a ha b hb => ?_⟩
    rw [List.mem_singleton] at hb
    rw [hb]
    intro e
    exact hm.2.2.1 (by rw [← e]; exact ha)
  · rw [ho, List.mem_append, List.mem_singleton] at hp
    rcases hp with hp | rfl
    · exact h.hd p hp
    · exact ⟨hm.1, hm.2.1⟩
  · rw [hw, ho]
  · rw [h3', ho, List.mem_append, List.mem_singleton]
    constructor
    · rintro (hp | ⟨hp, hp0⟩)
      · have hpr := (h.rdy p).1 (List.mem_of_mem_erase hp)
        have hpm : p ≠ minR s.ready := fun e => by
          rw [e] at hp
          exact (List.Nodup.not_mem_erase h.rnd) hp
        exact ⟨hpr.1, hpr.2.1, fun e => e.elim hpr.2.2.1 hpm, hwle p hpr.2.2.2⟩
      · obtain ⟨a, ha, rfl, ha2⟩ := hback p hp
        refine ⟨(hX.hd a ha).1.1, (hX.hd a ha).1.2, fun e => ?_, hp0⟩
        rcases e with e | e
        · have h5 := h.done _ e
          rw [h.w] at h5
          have := (wt_zero (o := s.order) (p := a.1)).1 (by omega) a ha rfl
          rw [ha2] at this
          exact hm.2.2.1 this
        · exact hX.ne a ha (e.trans ha2.symm)
    · rintro ⟨hp, hHp, hpo, hp0⟩
      by_cases hb : p ∈ (csOf X).back (minR s.ready)
      · exact .inr ⟨hb, hp0⟩
      · refine .inl ((List.Nodup.mem_erase_iff h.rnd).2 ⟨fun e => hpo (.inr e), (h.rdy p).2 ⟨hp, hHp, fun e => hpo (.inl e), ?_⟩⟩)
        have h5 : (stepK (csOf X).back s).waits p = s.waits p - ((csOf X).back (minR s.ready)).count p := h2 p
        rw [List.count_eq_zero.2 hb] at h5
        simp at h5
        omega
  · rw [ho, List.mem_append, List.mem_singleton] at hp
    rcases hp with hp | rfl
    · exact hwle p (h.done p hp)
    · exact hwle _ hm.2.2.2
  · have hi' : i < s.order.length + 1 := by rw [ho] at hi; simpa using hi
    simp only [ho, hn]
    by_cases e : i < s.order.length
    · rw [List.getElem_append_left e, upd_other _ _ (fun e' => hm.2.2.1 (by rw [← e']; exact List.getElem_mem e))]
      exact h.num i e
    · obtain rfl : i = s.order.length := by omega
      simp [upd]
  · have hi' : i < s.order.length + 1 := by rw [ho] at hi; simpa using hi
    simp only [ho] at hai ⊢
    rw [take_app _ _ _ (by omega)]
    by_cases e : i < s.order.length
    · rw [List.getElem_append_left e] at hai
      exact h.dn i e a ha hai
    · obtain rfl : i = s.order.length := by omega
      simp at hai
      rw [List.take_length]
      have h5 := hm.2.2.2
      rw [h.w] at h5
      exact (wt_zero (o := s.order) (p := minR s.ready)).1 (by omega) a ha hai
  · have hi' : i < s.order.length + 1 := by rw [ho] at hi; simpa using hi
    simp only [ho] at hpo hlt ⊢
    rw [take_app _ _ _ (by omega)] at hpo ⊢
    by_cases e : i < s.order.length
    · rw [List.getElem_append_left e] at hlt
      exact h.gr i e p hp hHp hpo hlt
    · obtain rfl : i = s.order.length := by omega
      simp at hlt
      rw [List.take_length] at hpo ⊢
      have hpw : s.waits p ≠ 0 := fun e => by
        have := minR_le ((h.rdy p).2 ⟨hp, hHp, hpo, e⟩)
        omega
      rw [h.w] at hpw
      refine Classical.byContradiction fun hno => hpw ?_
      have : wt X s.order p = 0 := wt_zero.2 fun a ha hap => Classical.byContradiction fun hne => hno ⟨a, ha, hap, hne⟩
      omega
/-- A head that is not numbered: then one is ready. -/
theorem KI.some (hX : XOk X n H) {r : Nat → Nat} (hr : ∀ a ∈ X, r a.2 < r a.1) (h : KI X n H s) : ∀ (k p : Nat), r p ≤ k → p < n → H p = p → p ∉ s.order → s.ready ≠ [] := by
  intro k
  induction k with
  | zero =>
    intro p hk hp hHp hpo e
    have hw : s.waits p = 0 := by
      rw [h.w]
      have : wt X s.order p = 0 := wt_zero.2 fun a ha hap => by have := hr a ha; rw [hap] at this; omega
      omega
    have := (h.rdy p).2 ⟨hp, hHp, hpo, hw⟩
    rw [e] at this
    simp at this
  | succ k ih =>
    intro p hk hp hHp hpo e
    by_cases hw : s.waits p = 0
    · have := (h.rdy p).2 ⟨hp, hHp, hpo, hw⟩
      rw [e] at this
      simp at this
    · rw [h.w] at hw
      refine hw ?_
      have : wt X s.order p = 0 := wt_zero.2 fun a ha hap => Classical.byContradiction fun hne => by
        have h1 := hr a ha
        rw [hap] at h1
        exact ih a.2 (by omega) (hX.hd a ha).2.1 (hX.hd a ha).2.2 hne e
      omega
theorem KI.iter (hX : XOk X n H) : ∀ i, (∀ j, j < i → (iterK (csOf X).back (startK H (csOf X).waits n) j).ready ≠ []) → KI X n H (iterK (csOf X).back (startK H (csOf X).waits n) i)
  | 0, _ => KI.start X n H
  | i + 1, hne => (KI.iter hX i fun j hj => hne j (by omega)).step hX (hne i (by omega))
theorem KI.len (h : KI X n H s) : s.order.length ≤ n ∧ s.ready.length ≤ n := ⟨nodup_le h.nd fun p hp => (h.hd p hp).1, nodup_le h.rnd fun p hp => ((h.rdy p).1 hp).1⟩
/-- The numbering comes to its end. -/
theorem KI.ends (hX : XOk X n H) : ∃ T, T ≤ n ∧ (∀ i, i < T → (iterK (csOf X).back (startK H (csOf X).waits n) i).ready ≠ []) ∧ (iterK (csOf X).back (startK H (csOf X).waits n) T).ready = [] := by
  refine Classical.byContradiction fun hno => ?_
  have key : ∀ k, k ≤ n + 1 → ∀ i, i < k → (iterK (csOf X).back (startK H (csOf X).waits n) i).ready ≠ [] := by
    intro k
    induction k with
    | zero => intro _ i hi; omega
    | succ k ih =>
      intro hk i hi
      by_cases e : i < k
      · exact ih (by omega) i e
      · obtain rfl : i = k := by omega
        exact fun he => hno ⟨i, by omega, fun j hj => ih (by omega) j hj, he⟩
  have h1 := (KI.iter hX (n + 1) (key (n + 1) (Nat.le_refl _))).len.1
  rw [iterK_order_len _ _ _ rfl] at h1
  omega
theorem KI.bound (hn : n ≤ 4096) (hl : X.length ≤ 1073741824) (h : KI X n H s) : KB n s := by
  have hl2 := h.len
  refine ⟨by omega, by omega, fun p => ?_, fun x hx => ((h.rdy x).1 hx).1⟩
  rw [h.w]
  have : wt X s.order p ≤ X.length := List.countP_le_length
  omega
theorem KI.mid (hX : XOk X n H) (hn : n ≤ 4096) (hl : X.length ≤ 1073741824) (h : KI X n H s) (hne : s.ready ≠ []) (j : Nat) : KB n (inK (csOf X).back s j) := by
  obtain ⟨h1, h2, h3, h4⟩ := h.low hne j
  have hlt : ∀ x ∈ (inK (csOf X).back s j).ready, x < n := by
    intro x hx
    rcases (h3 x).1 hx with hx | ⟨hx, _⟩
    · exact ((h.rdy x).1 (List.mem_of_mem_erase hx)).1
    · have hx := List.mem_of_mem_take hx
      unfold csOf at hx
      simp only [List.mem_map, List.mem_filter, decide_eq_true_eq] at hx
      obtain ⟨a, ⟨ha, _⟩, rfl⟩ := hx
      exact (hX.hd a ha).1.1
  refine ⟨?_, ?_, fun p => ?_, hlt⟩
  · have := nodup_le h1 hlt
    show (inK (csOf X).back s j).ready.length < 5000
    unfold inK
    omega
  · rw [inK_order]
    have := h.len.1
    simp
    omega
  · have h5 : (inK (csOf X).back s j).waits p = s.waits p - (((csOf X).back (minR s.ready)).take j).count p := h2 p
    have h6 := h4 p
    have h7 := h.w p
    have : wt X s.order p ≤ X.length := List.countP_le_length
    omega
theorem KI.kok (hX : XOk X n H) (hn : n ≤ 4096) (hl : X.length ≤ 1073741824) : ∃ T, T ≤ n ∧ KOk n (csOf X).back (startK H (csOf X).waits n) T ∧ KI X n H (iterK (csOf X).back (startK H (csOf X).waits n) T) := by
  obtain ⟨T, hT, hne, hfin⟩ := KI.ends hX
  have hk : ∀ i, i ≤ T → KI X n H (iterK (csOf X).back (startK H (csOf X).waits n) i) := fun i hi => KI.iter hX i fun j hj => hne j (by omega)
  exact ⟨T, hT, ⟨hne, hfin, fun i hi => (hk i hi).bound hn hl, fun i hi j _ => (hk i (by omega)).mid hX hn hl (hne i hi) j⟩, hk T (Nat.le_refl _)⟩
end
end Go.Proofs.YtnhnckhjcnjacaaSg
