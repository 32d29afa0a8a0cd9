/- A law on regions that draw their order: if each operation, in the order of the text, yields one value at every world of S and stays in S, then so it does in every order. -/
import Derived.Orders
import Derived.Below
namespace Go.Proofs.YtdbccemllaehjaaKw
open Go Go.RowKit
set_option linter.unusedVariables false
namespace RD

/-- Operation o, its operands read by ρ, yields v at every world of S, and stays in S. -/
def OpS (P : Program) (S : World → Prop) (ρ : Operand → Value) (o : Oper) (v : Value) : Prop :=
  ∀ w, S w → match (execOp ρ o).run P w with
    | .ok (.value u) w' => u = v ∧ S w'
    | .ok .skip w' => undef = v ∧ S w'
    | .ok (.enter f args) w' => Calls P f args w' (fun e w'' => e = .returned v ∧ S w'')
    | .ok (.row row args) w' => Rows P row args w' (fun u w'' => u = v ∧ S w'')
    | _ => False
def Det (P : Program) (ops : Array Oper) (S : World → Prop) (o : Oper) (v : Value) (a : Act) : Prop :=
  (Region.wanted o (yielded ops a.tmps) = true ∧ OpS P S a.eval o v) ∨ (Region.wanted o (yielded ops a.tmps) = false ∧ v = undef)

section
variable {P : Program} {ops : Array Oper} {S : World → Prop} {Q : Exit → Act → World → Prop}

theorem OpS.wp {a : Act} {o : Oper} {v : Value} (h : OpS P S a.eval o v) {w : World} (hS : S w) {K : Act → World → Prop} (hK : ∀ w', S w' → K (a.put o.dst v) w') : o.wp P a w K Q := by
  have h1 := h w hS
  clear h
  unfold Oper.wp
  generalize (execOp a.eval o).run P w = r at *
  cases r with
  | ok n w' =>
    cases n <;> simp only [Oper.upon] at h1 ⊢
    case value u => obtain ⟨rfl, h2⟩ := h1; exact hK _ h2
    case skip => obtain ⟨rfl, h2⟩ := h1; exact hK _ h2
    case enter f args => exact Calls.mono h1 fun e w'' ⟨he, hs⟩ => by subst he; exact hK _ hs
    case row row args => exact Rows.mono h1 fun u w'' ⟨he, hs⟩ => by subst he; exact hK _ hs
  | halt x w' => exact h1.elim

theorem Det.wpOp {a : Act} {o : Oper} {v : Value} {i : Nat} (hi : ops[i]? = some o) (h : Det P ops S o v a) {w : World} (hS : S w) {K : Act → World → Prop} (hK : ∀ w', S w' → K (a.put o.dst v) w') : wpOp P ops Q i K a w := by
  unfold Go.wpOp
  simp only [hi]
  rcases h with ⟨hw, h⟩ | ⟨hw, rfl⟩
  · simp only [hw, if_true]; exact .inl (h.wp hS hK)
  · simp only [hw, Bool.false_eq_true, if_false]; exact hK _ hS

theorem Det.same {a a' : Act} {o : Oper} {v : Value} (hs : ∀ cs b, o.op ≠ .select cs b) (h : Det P ops S o v a) (ht : ∀ t ∈ o.looksAt ops, a'.tmps[t]? = a.tmps[t]?) : Det P ops S o v a' := by
  have he : execOp a'.eval o = execOp a.eval o := execOp_congr o hs fun x hx => by
    cases x with
    | tmp t =>
      have := ht t (List.mem_append_left _ (List.mem_filterMap.2 ⟨.tmp t, by simpa using hx, rfl⟩))
      simp [Act.eval, this]
    | _ => rfl
  have hw : Region.wanted o (yielded ops a'.tmps) = Region.wanted o (yielded ops a.tmps) := by
    unfold Region.wanted
    cases hg : o.guard with
    | none => rfl
    | some gw =>
      obtain ⟨g, want⟩ := gw
      have hy : yielded ops a'.tmps g = yielded ops a.tmps g := by
        unfold yielded
        cases hd : (ops[g]?).bind (·.dst) with
        | none => rfl
        | some t =>
          have := ht t (by simp [Oper.looksAt, hg, hd])
          simp [this]
      simp only [hy]
  unfold Det at *
  unfold OpS at *
  rw [hw, he]
  exact h

/-- The operations in the order of the text. -/
def Walk (P : Program) (ops : Array Oper) (S : World → Prop) (K : Act → Prop) : List Oper → Act → Prop
  | [], a => K a
  | o :: rest, a => ∃ v, Det P ops S o v a ∧ Walk P ops S K rest (a.put o.dst v)

def frL : List Oper → List Value → Nat → Act → Act
  | o :: l, v :: vs, i + 1, a => frL l vs i (a.put o.dst v)
  | _, _, _, a => a
theorem walk_vals {K : Act → Prop} : ∀ (l : List Oper) (a : Act), Walk P ops S K l a → ∃ vs : List Value, vs.length = l.length ∧
    (∀ i o v, l[i]? = some o → vs[i]? = some v → Det P ops S o v (frL l vs i a)) ∧ K (frL l vs l.length a)
  | [], a, h => ⟨[], rfl, fun i o v hi => by simp at hi, h⟩
  | o :: l, a, ⟨v, hd, h⟩ => by
    obtain ⟨vs, h1, h2, h3⟩ := walk_vals l _ h
    refine ⟨v :: vs, by simp [h1], fun i o' v' hi hv => ?_, by simpa [frL] using h3⟩
    cases i with
    | zero => simp at hi hv; subst hi; subst hv; simpa [frL] using hd
    | succ i => simp at hi hv; simpa [frL] using h2 i o' v' hi hv

/-- The check of a region: B tells for each operation those ahead of it. -/
def okR (ops : Array Oper) (B : Array Nat) : Bool :=
  (List.range ops.size).all fun i =>
    match ops[i]? with
    | none => true
    | some o =>
      (match o.op with | .select .. => false | _ => true) &&
      (o.after.all fun e => !Region.binds .any e || decide (e.on < i)) &&
      ((List.range ops.size).all fun j => !(B.getD i 0).testBit j || (o.after.any fun e => Region.binds .any e && (e.on == j || (B.getD e.on 0).testBit j))) &&
      ((List.range ops.size).all fun j => match ops[j]? with
        | none => true
        | some oj => match oj.dst with
          | none => true
          | some t => (j == i || !(o.dst == some t)) && (!(o.looksAt ops).contains t || j == i || (B.getD i 0).testBit j || (B.getD j 0).testBit i))

structure OkR (ops : Array Oper) (B : Array Nat) : Prop where
  sel : ∀ (i : Nat) (o : Oper) (cs : Array SelectCase) (b : Bool), ops[i]? = some o → o.op ≠ .select cs b
  edge : ∀ (i : Nat) (o : Oper), ops[i]? = some o → ∀ e ∈ o.after, Region.binds .any e = true → e.on < i
  anc : ∀ (i : Nat) (o : Oper) (j : Nat), ops[i]? = some o → j < ops.size → (B.getD i 0).testBit j = true → ∃ e ∈ o.after, Region.binds .any e = true ∧ (e.on = j ∨ (B.getD e.on 0).testBit j = true)
  dist : ∀ (i : Nat) (o : Oper) (j : Nat) (oj : Oper) (t : Tmp), ops[i]? = some o → ops[j]? = some oj → oj.dst = some t → o.dst = some t → j = i
  look : ∀ (i : Nat) (o : Oper) (j : Nat) (oj : Oper) (t : Tmp), ops[i]? = some o → ops[j]? = some oj → oj.dst = some t → t ∈ o.looksAt ops → j = i ∨ (B.getD i 0).testBit j = true ∨ (B.getD j 0).testBit i = true
theorem okR_spec {ops : Array Oper} {B : Array Nat} (h : okR ops B = true) : OkR ops B := by
  have lt : ∀ {i : Nat} {o : Oper}, ops[i]? = some o → i < ops.size := fun h => (Array.getElem?_eq_some_iff.1 h).1
  have at_ := fun (i : Nat) (o : Oper) (ho : ops[i]? = some o) => show _ from by
    have := List.all_eq_true.1 h i (List.mem_range.2 (lt ho))
    rw [ho] at this
    simp only [Bool.and_eq_true] at this
    exact this
  constructor
  · intro i o cs b ho e
    have := (at_ i o ho).1.1.1
    rw [e] at this
    cases this
  · intro i o ho e he hb
    have := (Array.all_eq_true_iff_forall_mem.1 (at_ i o ho).1.1.2) e he
    simpa [hb] using this
  · intro i o j ho hj hB
    have := List.all_eq_true.1 (at_ i o ho).1.2 j (List.mem_range.2 hj)
    rw [hB] at this
    simp only [Bool.not_true, Bool.false_or] at this
    obtain ⟨k, hk, h2⟩ := Array.any_eq_true.1 this
    simp only [Bool.and_eq_true, Bool.or_eq_true, beq_iff_eq] at h2
    exact ⟨o.after[k], Array.getElem_mem hk, h2.1, h2.2⟩
  · intro i o j oj t ho hoj ht hd
    have := List.all_eq_true.1 (at_ i o ho).2 j (List.mem_range.2 (lt hoj))
    rw [hoj] at this
    simp only [ht, hd, Bool.and_eq_true] at this
    have := this.1
    simpa using this
  · intro i o j oj t ho hoj ht hl
    have := List.all_eq_true.1 (at_ i o ho).2 j (List.mem_range.2 (lt hoj))
    rw [hoj] at this
    simp only [ht, Bool.and_eq_true] at this
    have := this.2
    simpa [hl, or_assoc] using this

/-- a is a0 with the destinations of those in L written. -/
structure Fr (ops : Array Oper) (a0 : Act) (vs : Nat → Value) (L : Nat → Prop) (a : Act) : Prop where
  defers : a.defers = a0.defers
  size : a.tmps.size = a0.tmps.size
  old : ∀ t, (∀ j oj, ops[j]? = some oj → oj.dst = some t → ¬ L j) → a.tmps[t]? = a0.tmps[t]?
  new : ∀ j oj t, ops[j]? = some oj → oj.dst = some t → L j → t < a0.tmps.size → a.tmps[t]? = some (vs j)

theorem Fr.start (ops : Array Oper) (a0 : Act) (vs : Nat → Value) {L : Nat → Prop} (hL : ∀ j, ¬ L j) : Fr ops a0 vs L a0 :=
  ⟨rfl, rfl, fun _ _ => rfl, fun j _ _ _ _ h => (hL j h).elim⟩
theorem Fr.put {a0 a : Act} {vs : Nat → Value} {L L' : Nat → Prop} {B : Array Nat} (ok : OkR ops B) (h : Fr ops a0 vs L a) {i : Nat} {o : Oper} (hi : ops[i]? = some o) (hL : ∀ j, L' j ↔ (L j ∨ j = i)) : Fr ops a0 vs L' (a.put o.dst (vs i)) := by
  cases hd : o.dst with
  | none =>
    refine ⟨h.defers, h.size, fun t ht => h.old t fun j oj hj hjd hl => ht j oj hj hjd ((hL j).2 (.inl hl)), fun j oj t hj hjd hl ht => ?_⟩
    rcases (hL j).1 hl with hl | rfl
    · exact h.new j oj t hj hjd hl ht
    · rw [hi] at hj; cases hj; rw [hd] at hjd; cases hjd
  | some d =>
    refine ⟨h.defers, by simpa [Act.put] using h.size, fun t ht => ?_, fun j oj t hj hjd hl ht => ?_⟩
    · have hne : d ≠ t := fun e => ht i o hi (by rw [hd, e]) ((hL i).2 (.inr rfl))
      rw [← h.old t fun j oj hj hjd hl => ht j oj hj hjd ((hL j).2 (.inl hl))]
      simp [Act.put, Array.getElem?_setIfInBounds_ne hne]
    · by_cases hji : j = i
      · subst hji
        rw [hi] at hj
        cases hj
        rw [hd] at hjd
        cases hjd
        have : d < a.tmps.size := by rw [h.size]; exact ht
        simp [Act.put, this]
      · have hne : d ≠ t := fun e => hji (ok.dist i o j oj t hi hj hjd (by rw [hd, e]))
        have hl' : L j := ((hL j).1 hl).resolve_right hji
        rw [← h.new j oj t hj hjd hl' ht]
        simp [Act.put, Array.getElem?_setIfInBounds_ne hne]
theorem Fr.agree {a0 a a' : Act} {vs : Nat → Value} {L L' : Nat → Prop} (h : Fr ops a0 vs L a) (h' : Fr ops a0 vs L' a') (t : Tmp)
    (ht : ∀ j oj, ops[j]? = some oj → oj.dst = some t → (L j ↔ L' j)) : a.tmps[t]? = a'.tmps[t]? := by
  by_cases he : ∃ j oj, ops[j]? = some oj ∧ oj.dst = some t ∧ L j
  · obtain ⟨j, oj, hj, hd, hl⟩ := he
    by_cases hs : t < a0.tmps.size
    · rw [h.new j oj t hj hd hl hs, h'.new j oj t hj hd ((ht j oj hj hd).1 hl) hs]
    · have h1 := h.size
      have h2 := h'.size
      have h3 : a0.tmps.size ≤ t := Nat.le_of_not_lt hs
      rw [Array.getElem?_eq_none (h1 ▸ h3), Array.getElem?_eq_none (h2 ▸ h3)]
  · rw [h.old t fun j oj hj hd hl => he ⟨j, oj, hj, hd, hl⟩, h'.old t fun j oj hj hd hl => he ⟨j, oj, hj, hd, (ht j oj hj hd).2 hl⟩]

theorem Fr.text {B : Array Nat} (ok : OkR ops B) (a0 : Act) (vl : List Value) : ∀ (k : Nat), k ≤ ops.size → k ≤ vl.length → ∀ (l : List Oper) (ws : List Value) (a : Act) (p : Nat),
    Fr ops a0 (fun j => vl.getD j undef) (fun j => j < p) a → (∀ j, l[j]? = ops[p + j]?) → (∀ j, ws[j]? = vl[p + j]?) → p + k ≤ ops.size → p + k ≤ vl.length →
    Fr ops a0 (fun j => vl.getD j undef) (fun j => j < p + k) (frL l ws k a) := by
  intro k
  induction k with
  | zero =>
    intro _ _ l ws a p h _ _ _ _
    cases l <;> cases ws <;> simpa [frL] using h
  | succ k ih =>
    intro hk hk2 l ws a p h hl hw hp hp2
    have h0 := hl 0
    have w0 := hw 0
    simp only [Nat.add_zero] at h0 w0
    cases l with
    | nil => simp only [List.getElem?_nil] at h0; exact absurd h0.symm (by simp; omega)
    | cons o l =>
      cases ws with
      | nil => simp only [List.getElem?_nil] at w0; exact absurd w0.symm (by simp; omega)
      | cons v ws =>
        simp only [List.getElem?_cons_zero] at h0 w0
        simp only [frL]
        have hv : vl.getD p undef = v := by simp [List.getD, ← w0]
        have := h.put ok h0.symm (L' := fun j => j < p + 1) (fun j => by omega)
        simp only [hv] at this
        have := ih (by omega) (by omega) l ws (a.put o.dst v) (p + 1) this (fun j => by have := hl (j + 1); simpa [Nat.add_assoc, Nat.add_comm 1 j] using this)
          (fun j => by have := hw (j + 1); simpa [Nat.add_assoc, Nat.add_comm 1 j] using this) (by omega) (by omega)
        simpa [Nat.add_assoc, Nat.add_comm 1 k] using this

/-- Closed: what a listed operation waits for is listed. -/
def Closed (ops : Array Oper) (L : Nat → Prop) : Prop := ∀ i o, ops[i]? = some o → L i → ∀ e ∈ o.after, Region.binds .any e = true → L e.on
theorem anc_listed {B : Array Nat} (ok : OkR ops B) {L : Nat → Prop} (hc : Closed ops L) (i : Nat) : ∀ o, ops[i]? = some o → (∀ e ∈ o.after, Region.binds .any e = true → L e.on) → ∀ j, j < ops.size → (B.getD i 0).testBit j = true → L j ∧ j < i := by
  induction i using Nat.strongRecOn with
  | ind i ih =>
    intro o ho hdeps j hj hB
    obtain ⟨e, he, hb, h⟩ := ok.anc i o j ho hj hB
    have hlt := ok.edge i o ho e he hb
    have hl := hdeps e he hb
    rcases h with rfl | h
    · exact ⟨hl, hlt⟩
    · have hi := (Array.getElem?_eq_some_iff.1 ho).1
      have hoe : ops[e.on]? = some ops[e.on] := Array.getElem?_eq_getElem (by omega)
      have := ih e.on hlt _ hoe (fun e' he' hb' => hc e.on _ hoe hl e' he' hb') j hj h
      exact ⟨this.1, by omega⟩

def cnt (n : Nat) (L : Array Bool) : Nat := ((List.range n).filter fun j => !L.getD j true).length
theorem cnt_set {n : Nat} {L : Array Bool} {i : Nat} (hi : i < n) (hn : L.size = n) (h : L.getD i true = false) : cnt n (L.setIfInBounds i true) < cnt n L := by
  have himp : ∀ j, (!(L.setIfInBounds i true).getD j true) = true → (!L.getD j true) = true := by
    intro j hj
    by_cases e : i = j
    · subst e
      rw [Array.getD_eq_getD_getElem?, Array.getElem?_setIfInBounds_self_of_lt (by omega)] at hj
      simp at hj
    · rwa [getD_set_ne true e] at hj
  have gen : ∀ l : List Nat, (l.filter fun j => !(L.setIfInBounds i true).getD j true).length ≤ (l.filter fun j => !L.getD j true).length ∧
      (i ∈ l → (l.filter fun j => !(L.setIfInBounds i true).getD j true).length < (l.filter fun j => !L.getD j true).length) := by
    intro l
    induction l with
    | nil => simp
    | cons x l ih =>
      have hx := himp x
      by_cases hxi : i = x
      · subst hxi
        have e1 : (!(L.setIfInBounds i true).getD i true) = false := by
          rw [Array.getD_eq_getD_getElem?, Array.getElem?_setIfInBounds_self_of_lt (by omega)]; rfl
        have e2 : (!L.getD i true) = true := by rw [h]; rfl
        rw [List.filter_cons, List.filter_cons, e1, e2]
        simp only [Bool.false_eq_true, if_false, if_true, List.length_cons]
        exact ⟨by omega, fun _ => by omega⟩
      · have e1 : (L.setIfInBounds i true).getD x true = L.getD x true := getD_set_ne true hxi
        rw [List.filter_cons, List.filter_cons, e1]
        cases hb : (!L.getD x true) with
        | false =>
          simp only [Bool.false_eq_true, if_false]
          exact ⟨ih.1, fun hm => ih.2 ((List.mem_cons.1 hm).resolve_left hxi)⟩
        | true =>
          simp only [if_true, List.length_cons]
          exact ⟨by omega, fun hm => by have := ih.2 ((List.mem_cons.1 hm).resolve_left hxi); omega⟩
  exact (gen (List.range n)).2 (List.mem_range.2 hi)

theorem any_of_walk {B : Array Nat} (ok : OkR ops B) (a0 : Act) (vl : List Value) (hlen : vl.length = ops.size)
    (hdet : ∀ i o v, ops.toList[i]? = some o → vl[i]? = some v → Det P ops S o v (frL ops.toList vl i a0))
    (hfin : ∀ w, S w → Q .normal (frL ops.toList vl ops.size a0) w) :
    ∀ (fuel : Nat) (listed : Array Bool) (a : Act) (w : World), listed.size = ops.size → Fr ops a0 (fun j => vl.getD j undef) (fun j => listed.getD j false = true) a →
      Closed ops (fun j => listed.getD j false = true) → S w → cnt ops.size listed ≤ fuel → wpAny P .any ops Q fuel listed a w := by
  have tl : ∀ j : Nat, ops.toList[j]? = ops[0 + j]? := fun j => by simp
  have text : ∀ k, k ≤ ops.size → Fr ops a0 (fun j => vl.getD j undef) (fun j => j < k) (frL ops.toList vl k a0) := fun k hk => by
    have := Fr.text ok a0 vl k hk (by omega) ops.toList vl a0 0 (Fr.start ops a0 _ (fun j => by omega)) tl (fun j => by simp) (by omega) (by omega)
    simpa using this
  -- all are listed where none comes up
  have done : ∀ (listed : Array Bool) (a : Act) (w : World), listed.size = ops.size → Fr ops a0 (fun j => vl.getD j undef) (fun j => listed.getD j false = true) a → S w →
      Region.ready .any ops listed = [] → Q .normal a w := by
    intro listed a w hs hf hS hr
    have all : ∀ i, i < ops.size → listed.getD i false = true := by
      intro i
      induction i using Nat.strongRecOn with
      | ind i ih =>
        intro hi
        cases hli : listed.getD i false with
        | true => rfl
        | false =>
          have hmem : i ∈ Region.ready .any ops listed := mem_ready.2 ⟨by
              rw [Array.getD_eq_getD_getElem?] at hli ⊢
              rw [Array.getElem?_eq_getElem (by omega)] at hli ⊢
              simpa using hli, ops[i], Array.getElem?_eq_getElem hi, fun e he hb => ih e.on (ok.edge i _ (Array.getElem?_eq_getElem hi) e he hb) (by have := ok.edge i _ (Array.getElem?_eq_getElem hi) e he hb; omega)⟩
          rw [hr] at hmem
          cases hmem
    have ht := text ops.size (Nat.le_refl _)
    have : a = frL ops.toList vl ops.size a0 := by
      have e1 : a.tmps = (frL ops.toList vl ops.size a0).tmps := Array.ext_getElem? fun t => hf.agree ht t fun j oj hj _ => by
        have := (Array.getElem?_eq_some_iff.1 hj).1
        exact ⟨fun _ => this, fun _ => all j this⟩
      have e2 := hf.defers.trans ht.defers.symm
      cases a
      simp only at e1 e2
      subst e1; subst e2; rfl
    rw [this]
    exact hfin w hS
  intro fuel
  induction fuel with
  | zero =>
    intro listed a w hs hf hc hS hcnt
    have hr : Region.ready .any ops listed = [] := by
      cases hr : Region.ready .any ops listed with
      | nil => rfl
      | cons i rs =>
        have hi : i ∈ Region.ready .any ops listed := by rw [hr]; simp
        obtain ⟨h0, o, ho, _⟩ := mem_ready.1 hi
        have := cnt_set (Array.getElem?_eq_some_iff.1 ho).1 hs h0
        omega
    exact ⟨hr, done listed a w hs hf hS hr⟩
  | succ fuel ih =>
    intro listed a w hs hf hc hS hcnt
    refine ⟨done listed a w hs hf hS, fun i hi => ?_⟩
    obtain ⟨h0, o, ho, hdeps⟩ := mem_ready.1 hi
    have hi' := (Array.getElem?_eq_some_iff.1 ho).1
    have h0' : listed.getD i false = false := by
      rw [Array.getD_eq_getD_getElem?] at h0 ⊢
      rw [Array.getElem?_eq_getElem (by omega)] at h0 ⊢
      simpa using h0
    have hv : vl[i]? = some (vl.getD i undef) := by
      rw [List.getElem?_eq_getElem (by omega)]; simp [List.getD, List.getElem?_eq_getElem (show i < vl.length by omega)]
    have hd := hdet i o _ (by simpa using ho) hv
    have hd' : Det P ops S o (vl.getD i undef) a := hd.same (ok.sel i o · · ho) fun t htl => hf.agree (text i (by omega)) t fun j oj hj hjd => by
      have hj' := (Array.getElem?_eq_some_iff.1 hj).1
      rcases ok.look i o j oj t ho hj hjd htl with rfl | hB | hB
      · simp [h0']
      · have := anc_listed ok hc i o ho hdeps j hj' hB
        simp [this]
      · constructor
        · intro hl
          have := anc_listed ok hc j oj hj (hc j oj hj hl) i hi' hB
          simp only [h0'] at this
          cases this.1
        · intro hlt
          have hall : Closed ops (fun _ => True) := fun _ _ _ _ _ _ _ => trivial
          have := (anc_listed ok hall j oj hj (fun _ _ _ => trivial) i hi' hB).2
          omega
    refine hd'.wpOp ho hS fun w' hS' => ih _ _ _ (by simpa using hs) ?_ ?_ hS' (by have := cnt_set hi' hs h0; omega)
    · refine hf.put ok ho fun j => ?_
      by_cases e : i = j
      · subst e
        rw [Array.getD_eq_getD_getElem?, Array.getElem?_setIfInBounds_self_of_lt (by omega)]
        simp
      · rw [getD_set_ne false e]
        constructor
        · exact .inl
        · rintro (h | rfl)
          · exact h
          · exact (e rfl).elim
    · intro j oj hj hl e he hb
      by_cases eji : i = j
      · subst eji
        rw [ho] at hj
        cases hj
        exact getD_set_true (hdeps e he hb)
      · rw [getD_set_ne false eji] at hl
        exact getD_set_true (hc j oj hj hl e he hb)
theorem frL_end (l : List Oper) : ∀ (vs : List Value) (a : Act) (n : Nat), l.length ≤ n → frL l vs n a = frL l vs l.length a := by
  induction l with
  | nil => intro vs a n _; cases n <;> cases vs <;> simp [frL]
  | cons o l ih =>
    intro vs a n h
    cases n with
    | zero => simp at h
    | succ n =>
      cases vs with
      | nil => simp [frL]
      | cons v vs => simp only [frL, List.length_cons]; exact ih vs _ n (by simpa using h)

theorem rep_false (n j : Nat) : (Array.replicate n false).getD j false = false := by
  rw [Array.getD_eq_getD_getElem?, Array.getElem?_replicate]
  split <;> rfl

/-- THE LAW: a region that draws its order, walked in the order of the text. -/
theorem region {id : Nat} {l : List Oper} {a : Act} {w : World} (hm : P.follows .mixedOrders = true) (hok : okR l.toArray (Region.before l.toArray) = true) (hS : S { w with drawn := w.drawn + 1 })
    (h : Walk P l.toArray S (fun a' => ∀ w', S w' → Q .normal a' w') l a) : (Code.region id l.toArray true).wp P Q a w := by
  refine wp_region_any hm ?_
  obtain ⟨vl, h1, h2, h3⟩ := walk_vals l a h
  refine any_of_walk (okR_spec hok) a vl (by simpa using h1) (by simpa using h2) (fun w' hw' => by simpa using h3 w' hw') _ _ _ _ (by simp) ?_ ?_ hS ?_
  · exact Fr.start _ _ _ fun j => by rw [rep_false]; simp
  · intro i o ho hl
    rw [rep_false] at hl
    cases hl
  · unfold cnt
    exact Nat.le_trans (List.length_filter_le _ _) (by simp)

theorem walk_nil {K : Act → Prop} {a : Act} (h : K a) : Walk P ops S K [] a := h
theorem walk_skip {K : Act → Prop} {o : Oper} {rest : List Oper} {a : Act} (hw : Region.wanted o (yielded ops a.tmps) = false) (h : Walk P ops S K rest (a.put o.dst undef)) : Walk P ops S K (o :: rest) a := ⟨undef, .inr ⟨hw, rfl⟩, h⟩
theorem walk_op {K : Act → Prop} {o : Oper} {rest : List Oper} {a : Act} {v : Value} (hw : Region.wanted o (yielded ops a.tmps) = true) (hv : ∀ w, S w → (execOp a.eval o).run P w = .ok (.value v) w) (h : Walk P ops S K rest (a.put o.dst v)) : Walk P ops S K (o :: rest) a :=
  ⟨v, .inl ⟨hw, fun w hS => by rw [hv w hS]; exact ⟨rfl, hS⟩⟩, h⟩
theorem rd_at_call {K : Act → Prop} {o : Oper} {rest : List Oper} {a : Act} {v : Value} {f : FuncId} {args : Array Value} (hw : Region.wanted o (yielded ops a.tmps) = true) (hv : ∀ w, S w → (execOp a.eval o).run P w = .ok (.enter f args) w)
    (hc : ∀ w, S w → Calls P f args w (fun e w' => e = .returned v ∧ S w')) (h : Walk P ops S K rest (a.put o.dst v)) : Walk P ops S K (o :: rest) a :=
  ⟨v, .inl ⟨hw, fun w hS => by rw [hv w hS]; exact hc w hS⟩, h⟩
end
end RD
end Go.Proofs.YtdbccemllaehjaaKw
