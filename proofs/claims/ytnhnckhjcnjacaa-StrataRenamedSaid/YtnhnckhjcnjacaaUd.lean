/- Strata: what the numbers of the parts are, and that there is one such numbering. -/
import Derived.Test.YtnhnckhjcnjacaaUc
import Derived.Test.YtnhnckhjcnjacaaSd
namespace Go.Proofs.YtnhnckhjcnjacaaSg
open Go.Proofs.YtnhnckhjcnjacaaSw Go.Proofs.Ytnhnckhjcnjacaa.ST
set_option linter.unusedVariables false
set_option linter.unusedSimpArgs false

/-- The numbers of the parts. -/
structure PSpec (out : Nat → List Nat) (n m : Nat) (P : Nat → Nat) : Prop where
  sim : ∀ u, u < n → ∀ v, v < n → (P u = P v ↔ Sim out u v)
  down : ∀ u, u < n → ∀ t ∈ out u, P t ≤ P u
  lt : ∀ v, v < n → P v < m
  surj : ∀ k, k < m → ∃ v, v < n ∧ P v = k
  greedy : ∀ u, u < n → ∀ v, v < n → P u < P v → (∀ x, x < n → P x = P u → v < x) → ∃ y, y < n ∧ ∃ t ∈ out y, P y = P v ∧ P t ≠ P v ∧ P u ≤ P t
section
variable {out : Nat → List Nat} {n m m' : Nat} {P P' : Nat → Nat}
theorem least_ex (p : Nat → Prop) : ∀ (v : Nat), p v → ∃ x, p x ∧ ∀ y, p y → x ≤ y := by
  intro v
  induction v using Nat.strongRecOn with
  | _ v ih =>
    intro hv
    by_cases h : ∃ y, y < v ∧ p y
    · obtain ⟨y, hy, hp⟩ := h
      exact ih y hy hp
    · exact ⟨v, hv, fun y hy => Nat.le_of_not_lt fun hlt => h ⟨y, hlt, hy⟩⟩
theorem PSpec.half (ho : ∀ v < n, ∀ t ∈ out v, t < n) (h : PSpec out n m P) (h' : PSpec out n m' P') (k : Nat) (ih : ∀ j, j < k → ∀ v, v < n → (P v = j ↔ P' v = j)) (v : Nat) (hv : v < n) (hk : P v = k) : P' v = k := by
  have h1 : k ≤ P' v := Nat.le_of_not_lt fun hlt => by
    have := (ih _ hlt v hv).2 rfl
    omega
  refine Classical.byContradiction fun hne => ?_
  have hkm : k < m' := by have := h'.lt v hv; omega
  obtain ⟨u, hu, hPu⟩ := h'.surj k hkm
  have h2 : k ≤ P u := Nat.le_of_not_lt fun hlt => by
    have := (ih _ hlt u hu).1 rfl
    omega
  have h3 : P u ≠ k := fun e => by
    have hs := (h.sim u hu v hv).1 (by omega)
    have := (h'.sim u hu v hv).2 hs
    omega
  obtain ⟨x, ⟨hxn, hx⟩, hxl⟩ := least_ex (fun x => x < n ∧ P x = P v) v ⟨hv, rfl⟩
  obtain ⟨y, ⟨hyn, hy⟩, hyl⟩ := least_ex (fun y => y < n ∧ P y = P u) u ⟨hu, rfl⟩
  have hxs := (h.sim x hxn v hv).1 hx
  have hys := (h.sim y hyn u hu).1 hy
  have hxP := (h'.sim x hxn v hv).2 hxs
  have hyP := (h'.sim y hyn u hu).2 hys
  rcases Nat.lt_trichotomy x y with hxy | hxy | hxy
  · -- x is least: the other numbering takes u's part first
    obtain ⟨a, han, t, ht, ha1, ha2, ha3⟩ := h'.greedy u hu x hxn (by omega) (fun z hz hzP => by
      have hzs := (h'.sim z hz u hu).1 hzP
      have := hyl z ⟨hz, (h.sim z hz u hu).2 hzs⟩
      omega)
    have htn := ho a han t ht
    have h4 := (h.sim a han x hxn).2 ((h'.sim a han x hxn).1 ha1)
    have h5 := h.down a han t ht
    have h6 : P t ≠ P x := fun e => ha2 ((h'.sim t htn x hxn).2 ((h.sim t htn x hxn).1 e))
    have h7 := (ih (P t) (by omega) t htn).1 rfl
    omega
  · subst hxy
    omega
  · obtain ⟨a, han, t, ht, ha1, ha2, ha3⟩ := h.greedy v hv y hyn (by omega) (fun z hz hzP => by
      have := hxl z ⟨hz, hzP⟩
      omega)
    have htn := ho a han t ht
    have h4 := (h'.sim a han y hyn).2 ((h.sim a han y hyn).1 ha1)
    have h5 := h'.down a han t ht
    have h6 : P' t ≠ P' y := fun e => ha2 ((h.sim t htn y hyn).2 ((h'.sim t htn y hyn).1 e))
    have h7 := (ih (P' t) (by omega) t htn).2 rfl
    omega
/-- There is one such numbering. -/
theorem PSpec.unique (ho : ∀ v < n, ∀ t ∈ out v, t < n) (h : PSpec out n m P) (h' : PSpec out n m' P') : ∀ v, v < n → P v = P' v := by
  have key : ∀ k, ∀ v, v < n → (P v = k ↔ P' v = k) := by
    intro k
    induction k using Nat.strongRecOn with
    | _ k ih =>
      intro v hv
      exact ⟨fun e => h.half ho h' k ih v hv e, fun e => h'.half ho h k (fun j hj w hw => (ih j hj w hw).symm) v hv e⟩
  intro v hv
  exact ((key (P v) v hv).1 rfl).symm
theorem PSpec.count (h : PSpec out n m P) (h' : PSpec out n m' P) : m = m' := by
  refine Nat.le_antisymm (Nat.le_of_not_lt fun hlt => ?_) (Nat.le_of_not_lt fun hlt => ?_)
  · obtain ⟨v, hv, e⟩ := h.surj _ hlt
    have := h'.lt v hv
    omega
  · obtain ⟨v, hv, e⟩ := h'.surj _ hlt
    have := h.lt v hv
    omega
theorem filter_lt {α : Type} (p q : α → Bool) (l : List α) (h : ∀ x ∈ l, p x = true → q x = true) (x : α) (hx : x ∈ l) (hq : q x = true) (hp : p x = false) : (l.filter p).length < (l.filter q).length := by
  induction l with
  | nil => simp at hx
  | cons a l ih =>
    have hle := filter_le p q l fun x hx => h x (List.mem_cons_of_mem _ hx)
    have ha := h a (by simp)
    rcases List.mem_cons.1 hx with rfl | hx
    · simp [List.filter_cons, hp, hq]
      omega
    · have := ih (fun x hx => h x (List.mem_cons_of_mem _ hx)) hx
      cases hpa : p a <;> cases hqa : q a <;> simp [List.filter_cons, hpa, hqa] <;> first | omega | (rw [hpa, hqa] at ha; simp at ha)
open Classical in
noncomputable def rank (out : Nat → List Nat) (n p : Nat) : Nat := ((List.range n).filter fun y => decide (Pth out p y)).length
theorem pth_lt (ho : ∀ v < n, ∀ t ∈ out v, t < n) {u v : Nat} (hu : u < n) (h : Pth out u v) : v < n := by
  induction h with
  | refl => exact hu
  | step _ ht ih => exact ho _ ih _ ht
theorem head_head (ho : ∀ v < n, ∀ t ∈ out v, t < n) {v : Nat} (hv : v < n) : headH out n v < n ∧ headH out n (headH out n v) = headH out n v := by
  have h1 := headH_least out n ho v hv
  have h2 := pth_lt ho hv h1.fwd
  exact ⟨h2, ((headH_least out n ho _ h2).eq_iff h1).2 h1.sim.symm⟩
theorem xl_ok (ho : ∀ v < n, ∀ t ∈ out v, t < n) : XOk (XL (headH out n) out n) n (headH out n) := by
  refine ⟨fun a ha => ?_, fun a ha => ?_⟩
  · obtain ⟨v, t, hv, ht, hne, rfl⟩ := XL_mem.1 ha
    exact ⟨head_head ho hv, head_head ho (ho v hv t ht)⟩
  · obtain ⟨v, t, hv, ht, hne, rfl⟩ := XL_mem.1 ha
    exact hne
theorem xl_rank (ho : ∀ v < n, ∀ t ∈ out v, t < n) : ∀ a ∈ XL (headH out n) out n, rank out n a.2 < rank out n a.1 := by
  intro a ha
  obtain ⟨v, t, hv, ht, hne, rfl⟩ := XL_mem.1 ha
  have h1 := headH_least out n ho v hv
  have h2 := headH_least out n ho t (ho v hv t ht)
  have hvt : Pth out (headH out n v) (headH out n t) := h1.back.trans ((Pth.arc ht).trans h2.fwd)
  refine filter_lt _ _ _ (fun x _ hx => ?_) (headH out n v) (by simpa using pth_lt ho hv h1.fwd) (by simpa using Pth.refl _) ?_
  · simp only [decide_eq_true_eq] at hx ⊢
    exact hvt.trans hx
  · simp only [decide_eq_false_iff_not]
    refine fun hp => hne ?_
    exact (h1.eq_iff h2).2 ⟨(Pth.arc ht), h2.fwd.trans (hp.trans h1.back)⟩
/-- The numbering that the program makes. -/
theorem plan_spec (ho : ∀ v < n, ∀ t ∈ out v, t < n) (s : KS) (hk : KI (XL (headH out n) out n) n (headH out n) s) (hfin : s.ready = []) :
    (∀ v, v < n → s.number (headH out n v) = ((s.number (headH out n v)).toNat : Int)) ∧ PSpec out n s.order.length (fun v => (s.number (headH out n v)).toNat) := by
  have hX := xl_ok ho
  have hall : ∀ v, v < n → headH out n v ∈ s.order := fun v hv => Classical.byContradiction fun hno =>
    hk.some hX (xl_rank ho) (rank out n (headH out n v)) _ (Nat.le_refl _) (head_head ho hv).1 (head_head ho hv).2 hno hfin
  have hidx : ∀ v, v < n → ∃ i, ∃ h : i < s.order.length, s.order[i] = headH out n v ∧ s.number (headH out n v) = i := by
    intro v hv
    obtain ⟨i, hi, e⟩ := List.mem_iff_getElem.1 (hall v hv)
    exact ⟨i, hi, e, by rw [← e]; exact hk.num i hi⟩
  have hsim : ∀ u, u < n → ∀ v, v < n → ((s.number (headH out n u)).toNat = (s.number (headH out n v)).toNat ↔ Sim out u v) := by
    intro u hu v hv
    obtain ⟨i, hi, e1, e2⟩ := hidx u hu
    obtain ⟨j, hj, e3, e4⟩ := hidx v hv
    rw [← (headH_least out n ho u hu).eq_iff (headH_least out n ho v hv), e2, e4]
    constructor
    · intro e
      simp at e
      subst e
      exact e1.symm.trans e3
    · intro e
      rw [e] at e2
      rw [e2] at e4
      rw [e4]
  refine ⟨fun v hv => ?_, hsim, fun u hu t ht => ?_, fun v hv => ?_, fun k hk' => ?_, fun u hu v hv hlt hx => ?_⟩
  · obtain ⟨i, hi, e1, e2⟩ := hidx v hv
    rw [e2]
    rfl
  · have htn := ho u hu t ht
    obtain ⟨i, hi, e1, e2⟩ := hidx u hu
    by_cases e : headH out n u = headH out n t
    · rw [← e]
      exact Nat.le_refl _
    · have ha := hk.dn i hi (headH out n u, headH out n t) (XL_mem.2 ⟨u, t, hu, ht, e, rfl⟩) e1.symm
      obtain ⟨j, hj, e3⟩ := List.mem_iff_getElem.1 ha
      rw [List.getElem_take] at e3
      have hj' : j < i := by rw [List.length_take] at hj; omega
      have := hk.num j (by omega)
      rw [e3] at this
      dsimp only at this
      rw [this, e2]
      simp
      omega
  · obtain ⟨i, hi, e1, e2⟩ := hidx v hv
    rw [e2]
    simpa using hi
  · have hm := List.getElem_mem hk'
    obtain ⟨h1, h2⟩ := hk.hd _ hm
    refine ⟨_, h1, ?_⟩
    rw [h2, hk.num k hk']
    rfl
  · obtain ⟨i, hi, e1, e2⟩ := hidx u hu
    obtain ⟨j, hj, e3, e4⟩ := hidx v hv
    have hu2 := head_head ho hu
    have hv2 := head_head ho hv
    have hij : i < j := by rw [e2, e4] at hlt; simpa using hlt
    have hvu : v < headH out n u := hx _ hu2.1 (by rw [hu2.2])
    have hvv : headH out n v ≤ v := (headH_least out n ho v hv).le v (.refl v) (.refl v)
    obtain ⟨a, ha, ha1, ha2⟩ := hk.gr i hi (headH out n v) hv2.1 hv2.2 (fun hm => by
      obtain ⟨k, hk2, e5⟩ := List.mem_iff_getElem.1 hm
      rw [List.getElem_take] at e5
      have hki : k < i := by rw [List.length_take] at hk2; omega
      have e6 := hk.num k (by omega)
      rw [e5, e4] at e6
      omega) (by rw [e1]; omega)
    obtain ⟨y, t, hy, ht, hne, rfl⟩ := XL_mem.1 ha
    have htn := ho y hy t ht
    dsimp only at ha1 ha2
    refine ⟨y, hy, t, ht, by rw [ha1], fun e => ?_, ?_⟩
    · have := (hsim t htn v hv).1 e
      have := ((headH_least out n ho t htn).eq_iff (headH_least out n ho v hv)).2 this
      rw [← ha1] at this
      exact hne this.symm
    · obtain ⟨k, hk2, e5, e6⟩ := hidx t htn
      rw [e2, e6]
      simp only [Int.toNat_natCast]
      refine Nat.le_of_not_lt fun hlt => ha2 ?_
      rw [← e5]
      exact List.mem_iff_getElem.2 ⟨k, by rw [List.length_take]; omega, by rw [List.getElem_take]⟩
end
/-- Every graph's parts are numbered. -/
theorem plan_ex {n : Nat} {l : List AI} (hl : l.length ≤ 262144) (hn : n ≤ 4096) (ho : ∀ v < n, ∀ t ∈ tos (outs l) v, t < n) :
    ∃ T H s P, PlanI n T (outs l) H s ∧ PSpec (tos (outs l)) n s.order.length P ∧ s.order.length ≤ n ∧ ∀ v, v < n → s.number (H v) = (P v : Int) := by
  have hX := xl_ok ho
  have hlen : (XL (headH (tos (outs l)) n) (tos (outs l)) n).length ≤ 1073741824 := by
    refine Nat.le_trans (XL_len (N := 262144) n fun v hv => ?_) ?_
    · unfold tos
      rw [List.length_map]
      exact Nat.le_trans (outs_len l v) hl
    · exact Nat.le_trans (Nat.mul_le_mul hn (Nat.le_refl _)) (by decide)
  obtain ⟨T, hT, hk, hi⟩ := KI.kok hX hn hlen
  obtain ⟨h1, h2⟩ := plan_spec ho _ hi hk.fin
  rw [← cross_csOf] at hk hi h1 h2
  exact ⟨T, headH (tos (outs l)) n, _, _, ⟨headH_headI _ _ ho, hk, rfl⟩, h2, hi.len.1, h1⟩
end Go.Proofs.YtnhnckhjcnjacaaSg
