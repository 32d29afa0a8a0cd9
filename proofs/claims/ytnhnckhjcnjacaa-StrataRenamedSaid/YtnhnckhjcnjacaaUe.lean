/- Strata: the answers about parts, rings and strata, plainly. -/
import Derived.Test.YtnhnckhjcnjacaaUd
import Derived.Test.YtnhnckhjcnjacaaSf
import Derived.Test.YtnhnckhjcnjacaaTf
namespace Go.Proofs.YtnhnckhjcnjacaaSg
open Go.Proofs.YtnhnckhjcnjacaaSw Go.Proofs.Ytnhnckhjcnjacaa.ST
set_option linter.unusedVariables false
set_option linter.unusedSimpArgs false

/-- A graph that is looked at. -/
structure GoodG (n : Nat) (l : List AI) : Prop where
  hn : n ≤ 4096
  hl : l.length ≤ 262144
  hb : l.any (bad n) = false
theorem GoodG.lt {n : Nat} {l : List AI} (h : GoodG n l) : ∀ v < n, ∀ t ∈ tos (outs l) v, t < n := by
  intro v hv t ht
  obtain ⟨a, ha, _, he⟩ := (tos_EA h.hb v t).1 ht
  have := arcs_ok h.hb a ha
  omega
theorem GoodG.arc {n : Nat} {l : List AI} (h : GoodG n l) {a : AI} (ha : a ∈ l) : a.f.toNat < n ∧ a.t.toNat < n ∧ a.t.toNat ∈ tos (outs l) a.f.toNat := by
  have := arcs_ok h.hb a ha
  exact ⟨by omega, by omega, (tos_EA h.hb _ _).2 ⟨a, ha, by omega, by omega⟩⟩
theorem GoodG.of {n : Int} {l : List AI} (h : fault n l = 0) : ∃ k : Nat, n = k ∧ GoodG k l := by
  obtain ⟨h1, h2, h3, h4⟩ := fault_good h
  obtain ⟨m, rfl⟩ := Int.eq_ofNat_of_zero_le h1
  exact ⟨m, rfl, by omega, h3, h4⟩
theorem GoodG.fault {n : Nat} {l : List AI} (h : GoodG n l) : fault n l = 0 := by
  unfold YtnhnckhjcnjacaaSg.fault
  rw [if_neg (by have := h.hn; omega), if_neg (by have := h.hl; omega), if_neg (by rw [h.hb]; simp)]
open Classical in
noncomputable def MP (n : Nat) (l : List AI) : Nat × (Nat → Nat) := if h : ∃ x : Nat × (Nat → Nat), PSpec (tos (outs l)) n x.1 x.2 then Classical.choose h else (0, fun _ => 0)
/-- The number of a node's part; how many parts there are. -/
noncomputable def PP (n : Nat) (l : List AI) : Nat → Nat := (MP n l).2
noncomputable def MM (n : Nat) (l : List AI) : Nat := (MP n l).1
theorem PP_spec {n : Nat} {l : List AI} (h : GoodG n l) : PSpec (tos (outs l)) n (MM n l) (PP n l) := by
  obtain ⟨T, H, s, P, h1, h2, h3, h4⟩ := plan_ex h.hl h.hn h.lt
  have hx : ∃ x : Nat × (Nat → Nat), PSpec (tos (outs l)) n x.1 x.2 := ⟨(_, P), h2⟩
  unfold MM PP MP
  rw [dif_pos hx]
  exact Classical.choose_spec hx
theorem PP_plan {n : Nat} {l : List AI} (h : GoodG n l) : ∃ T H s, PlanI n T (outs l) H s ∧ s.order.length = MM n l ∧ MM n l ≤ n ∧ ∀ v, v < n → s.number (H v) = (PP n l v : Int) := by
  obtain ⟨T, H, s, P, h1, h2, h3, h4⟩ := plan_ex h.hl h.hn h.lt
  have hu := (PP_spec h).unique h.lt h2
  have h2' : PSpec (tos (outs l)) n s.order.length (PP n l) := by
    refine ⟨fun u hu' v hv => ?_, fun u hu' t ht => ?_, fun v hv => ?_, fun k hk => ?_, fun u hu' v hv => ?_⟩
    · exact (PP_spec h).sim u hu' v hv
    · exact (PP_spec h).down u hu' t ht
    · rw [hu v hv]; exact h2.lt v hv
    · obtain ⟨v, hv, e⟩ := h2.surj k hk
      exact ⟨v, hv, by rw [hu v hv]; exact e⟩
    · exact (PP_spec h).greedy u hu' v hv
  have hc := h2'.count (PP_spec h)
  exact ⟨T, H, s, h1, hc, by rw [← hc]; exact h3, fun v hv => by rw [h4 v hv, hu v hv]⟩
/-- The first ring. -/
def ringA (P : Nat → Int) (r : Int) (a : AI) : Int := if a.neg = true ∧ P a.f.toNat = P a.t.toNat ∧ (r < 0 ∨ P a.f.toNat < r) then P a.f.toNat else r
def RSpec (l : List AI) (P : Nat → Int) (r : Int) : Prop :=
  (r = -1 ∧ ∀ a ∈ l, a.neg = true → P a.f.toNat ≠ P a.t.toNat) ∨
  (0 ≤ r ∧ (∃ a ∈ l, a.neg = true ∧ P a.f.toNat = P a.t.toNat ∧ r = P a.f.toNat) ∧ ∀ a ∈ l, a.neg = true → P a.f.toNat = P a.t.toNat → r ≤ P a.f.toNat)
theorem RSpec.unique {l : List AI} {P : Nat → Int} {r r' : Int} (h : RSpec l P r) (h' : RSpec l P r') : r = r' := by
  rcases h with ⟨rfl, h1⟩ | ⟨h0, ⟨a, ha, h1, h2, h3⟩, h4⟩
  · rcases h' with ⟨rfl, _⟩ | ⟨_, ⟨a, ha, k1, k2, _⟩, _⟩
    · rfl
    · exact absurd k2 (h1 a ha k1)
  · rcases h' with ⟨rfl, k1⟩ | ⟨_, ⟨b, hb, k1, k2, k3⟩, k4⟩
    · exact absurd h2 (k1 a ha h1)
    · have := h4 b hb k1 k2
      have := k4 a ha h1 h2
      omega
theorem RSpec.congr {l l' : List AI} {P P' : Nat → Int} {r : Int} (h : RSpec l P r) (hm : ∀ a, a ∈ l ↔ a ∈ l') (hP : ∀ a ∈ l, P a.f.toNat = P' a.f.toNat ∧ P a.t.toNat = P' a.t.toNat) : RSpec l' P' r := by
  rcases h with ⟨h0, h1⟩ | ⟨h0, ⟨a, ha, h1, h2, h3⟩, h4⟩
  · exact .inl ⟨h0, fun a ha hn => by
      have ha := (hm a).2 ha
      rw [← (hP a ha).1, ← (hP a ha).2]
      exact h1 a ha hn⟩
  · exact .inr ⟨h0, ⟨a, (hm a).1 ha, h1, by rw [← (hP a ha).1, ← (hP a ha).2]; exact h2, by rw [← (hP a ha).1]; exact h3⟩, fun b hb k1 k2 => by
      have hb := (hm b).2 hb
      rw [← (hP b hb).1, ← (hP b hb).2] at k2
      rw [← (hP b hb).1]
      exact h4 b hb k1 k2⟩
theorem RSpec.snoc {l : List AI} {P : Nat → Int} {r : Int} (h : RSpec l P r) (a : AI) (ha : 0 ≤ P a.f.toNat) : RSpec (l ++ [a]) P (ringA P r a) := by
  unfold ringA
  split
  · rename_i hc
    obtain ⟨h1, h2, h3⟩ := hc
    refine .inr ⟨ha, ⟨a, by simp, h1, h2, rfl⟩, fun b hb k1 k2 => ?_⟩
    rcases List.mem_append.1 hb with hb | hb
    · rcases h with ⟨_, h5⟩ | ⟨h0, _, h5⟩
      · exact absurd k2 (h5 b hb k1)
      · have := h5 b hb k1 k2
        rcases h3 with h3 | h3 <;> omega
    · rw [List.mem_singleton] at hb
      rw [hb]
      exact Int.le_refl _
  · rename_i hc
    rcases h with ⟨h0, h5⟩ | ⟨h0, ⟨b, hb, k1, k2, k3⟩, h5⟩
    · refine .inl ⟨h0, fun b hb k1 => ?_⟩
      rcases List.mem_append.1 hb with hb | hb
      · exact h5 b hb k1
      · rw [List.mem_singleton] at hb
        rw [hb] at k1 ⊢
        exact fun e => hc ⟨k1, e, .inl (by omega)⟩
    · refine .inr ⟨h0, ⟨b, by simp [hb], k1, k2, k3⟩, fun c hcm j1 j2 => ?_⟩
      rcases List.mem_append.1 hcm with hcm | hcm
      · exact h5 c hcm j1 j2
      · rw [List.mem_singleton] at hcm
        rw [hcm] at j1 j2 ⊢
        exact Int.le_of_not_gt fun hlt => hc ⟨j1, j2, .inr hlt⟩
theorem ringA_spec (P : Nat → Int) : ∀ (l k : List AI) (r : Int), RSpec k P r → (∀ a ∈ l, 0 ≤ P a.f.toNat) → RSpec (k ++ l) P (l.foldl (ringA P) r)
  | [], k, r, h, _ => by simpa using h
  | a :: l, k, r, h, hl => by
    have := ringA_spec P l (k ++ [a]) _ (h.snoc a (hl a (by simp))) fun b hb => hl b (List.mem_cons_of_mem _ hb)
    simpa using this
theorem RSpec.nil (P : Nat → Int) : RSpec [] P (-1) := .inl ⟨rfl, by simp⟩
theorem ringG_flat (P : Nat → Int) (g : Nat → List AI) (hg : ∀ v, ∀ a ∈ g v, a.f.toNat = v) (k : Nat) : ringG P g k = ((List.range k).flatMap g).foldl (ringA P) (-1) := by
  induction k with
  | zero => rfl
  | succ k ih =>
    rw [ringG_succ, ih, List.range_succ, List.flatMap_append, List.foldl_append]
    generalize ((List.range k).flatMap g).foldl (ringA P) (-1) = r
    simp only [List.flatMap_cons, List.flatMap_nil, List.append_nil]
    unfold ringV
    have : ∀ (L : List AI) (r : Int), (∀ a ∈ L, a.f.toNat = k) → L.foldl (ringT P k) r = L.foldl (ringA P) r := by
      intro L
      induction L with
      | nil => intro r _; rfl
      | cons a L ih =>
        intro r hL
        rw [List.foldl_cons, List.foldl_cons, ← ih _ fun b hb => hL b (List.mem_cons_of_mem _ hb)]
        congr 1
        unfold ringT ringA
        rw [hL a (by simp)]
    exact this (g k) r (hg k)
theorem outs_all {n : Nat} {l : List AI} (h : GoodG n l) (a : AI) : a ∈ (List.range n).flatMap (outs l) ↔ a ∈ l := by
  rw [List.mem_flatMap]
  constructor
  · rintro ⟨v, _, ha⟩
    exact (outs_sub l v a ha).1
  · intro ha
    have hf := arcs_ok h.hb a ha
    exact ⟨a.f.toNat, by rw [List.mem_range]; omega, (outs_mem l (fun b hb => (arcs_ok h.hb b hb).1) _ a).2 ⟨ha, by omega⟩⟩
theorem ringG_spec {n : Nat} {l : List AI} (h : GoodG n l) {P : Nat → Int} (hP : ∀ v, v < n → 0 ≤ P v) : RSpec l P (ringG P (outs l) n) := by
  rw [ringG_flat P (outs l) (fun v a ha => (outs_sub l v a ha).2)]
  have := ringA_spec P ((List.range n).flatMap (outs l)) [] (-1) (RSpec.nil P) fun a ha => hP _ (h.arc ((outs_all h a).1 ha)).1
  exact this.congr (outs_all h) fun a _ => ⟨rfl, rfl⟩
/-- What the strata are. -/
def ng (a : AI) : Int := if a.neg = true then 1 else 0
structure LvSpec (n : Nat) (l : List AI) (P : Nat → Nat) (S : Nat → Int) : Prop where
  ge : ∀ a ∈ l, P a.f.toNat ≠ P a.t.toNat → S a.t.toNat + ng a ≤ S a.f.toNat
  part : ∀ u, u < n → ∀ v, v < n → P u = P v → S u = S v
  att : ∀ v, v < n → S v = 0 ∨ ∃ a ∈ l, P a.f.toNat = P v ∧ P a.t.toNat ≠ P v ∧ S v = S a.t.toNat + ng a
  nonneg : ∀ v, v < n → 0 ≤ S v
/-- While the parts below k are done. -/
structure LvI (n : Nat) (L : List AI) (Q : Nat → Nat) (k : Nat) (lv : Nat → Int) : Prop where
  ge : ∀ a ∈ L, Q a.f.toNat < k → Q a.f.toNat ≠ Q a.t.toNat → lv (Q a.t.toNat) + ng a ≤ lv (Q a.f.toNat)
  att : ∀ p, lv p = 0 ∨ p < k ∧ ∃ a ∈ L, Q a.f.toNat = p ∧ Q a.t.toNat ≠ p ∧ lv p = lv (Q a.t.toNat) + ng a
  nonneg : ∀ p, 0 ≤ lv p
/-- Within part p: the arcs D are gone. -/
structure LvM (Q : Nat → Nat) (p : Nat) (lv0 : Nat → Int) (D : List AI) (lv : Nat → Int) : Prop where
  other : ∀ q, q ≠ p → lv q = lv0 q
  up : lv0 p ≤ lv p
  ge : ∀ a ∈ D, Q a.t.toNat ≠ p → lv0 (Q a.t.toNat) + ng a ≤ lv p
  att : lv p = lv0 p ∨ ∃ a ∈ D, Q a.t.toNat ≠ p ∧ lv p = lv0 (Q a.t.toNat) + ng a
theorem LvM.snoc {Q : Nat → Nat} {p : Nat} {lv0 lv : Nat → Int} {D : List AI} (h : LvM Q p lv0 D lv) (a : AI) : LvM Q p lv0 (D ++ [a]) (lvA Q p lv a) := by
  unfold lvA
  split
  · rename_i hp
    refine ⟨h.other, h.up, fun b hb hne => ?_, ?_⟩
    · rcases List.mem_append.1 hb with hb | hb
      · exact h.ge b hb hne
      · rw [List.mem_singleton] at hb
        rw [hb] at hne
        exact absurd hp hne
    · rcases h.att with e | ⟨b, hb, k⟩
      · exact .inl e
      · exact .inr ⟨b, by simp [hb], k⟩
  · rename_i hp
    have hv : upd lv p (max (lv p) (lv (Q a.t.toNat) + if a.neg = true then 1 else 0)) p = max (lv p) (lv0 (Q a.t.toNat) + ng a) := by
      rw [upd_same, h.other _ hp]
      rfl
    have h1 := Int.le_max_left (lv p) (lv0 (Q a.t.toNat) + ng a)
    have h2 := Int.le_max_right (lv p) (lv0 (Q a.t.toNat) + ng a)
    refine ⟨fun q hq => by rw [upd_other _ _ hq]; exact h.other q hq, by rw [hv]; exact Int.le_trans h.up h1, fun b hb hne => ?_, ?_⟩
    · rw [hv]
      rcases List.mem_append.1 hb with hb | hb
      · exact Int.le_trans (h.ge b hb hne) h1
      · rw [List.mem_singleton] at hb
        rw [hb]
        exact h2
    · rw [hv]
      rcases Int.le_total (lv p) (lv0 (Q a.t.toNat) + ng a) with hle | hle
      · exact .inr ⟨a, by simp, hp, Int.max_eq_right hle⟩
      · rw [Int.max_eq_left hle]
        rcases h.att with e | ⟨b, hb, k⟩
        · exact .inl e
        · exact .inr ⟨b, by simp [hb], k⟩
theorem LvM.fold {Q : Nat → Nat} {p : Nat} {lv0 : Nat → Int} : ∀ (L D : List AI) (lv : Nat → Int), LvM Q p lv0 D lv → LvM Q p lv0 (D ++ L) (L.foldl (lvA Q p) lv)
  | [], D, lv, h => by simpa using h
  | a :: L, D, lv, h => by
    have := LvM.fold L (D ++ [a]) _ (h.snoc a)
    simpa using this
theorem lvP_flat (Q : Nat → Nat) (g : Nat → List AI) (n p : Nat) (lv : Nat → Int) : lvP Q g n lv p = ((nodesQ Q n p).flatMap g).foldl (lvA Q p) lv := by
  unfold lvP
  generalize nodesQ Q n p = L
  induction L generalizing lv with
  | nil => rfl
  | cons v L ih => rw [List.foldl_cons, ih, List.flatMap_cons, List.foldl_append]; rfl
theorem LvI.next {n : Nat} {l : List AI} {Q : Nat → Nat} {k : Nat} {lv : Nat → Int} (hg : GoodG n l) (hd : ∀ a ∈ l, Q a.t.toNat ≤ Q a.f.toNat) (h : LvI n l Q k lv) : LvI n l Q (k + 1) (lvP Q (outs l) n lv k) := by
  rw [lvP_flat]
  have hm := LvM.fold ((nodesQ Q n k).flatMap (outs l)) [] lv (Q := Q) (p := k) (lv0 := lv) ⟨fun _ _ => rfl, Int.le_refl _, by simp, .inl rfl⟩
  have hmem : ∀ a, a ∈ [] ++ (nodesQ Q n k).flatMap (outs l) ↔ a ∈ l ∧ Q a.f.toNat = k := by
    intro a
    rw [List.nil_append, List.mem_flatMap]
    constructor
    · rintro ⟨v, hv, ha⟩
      obtain ⟨h1, h2⟩ := outs_sub l v a ha
      exact ⟨h1, by rw [h2]; exact ((nodesQ_mem Q n k v).1 hv).2⟩
    · rintro ⟨ha, he⟩
      have hf := hg.arc ha
      have hf2 := arcs_ok hg.hb a ha
      exact ⟨a.f.toNat, (nodesQ_mem Q n k _).2 ⟨hf.1, he⟩, (outs_mem l (fun b hb => (arcs_ok hg.hb b hb).1) _ a).2 ⟨ha, by omega⟩⟩
  generalize ((nodesQ Q n k).flatMap (outs l)).foldl (lvA Q k) lv = lv' at *
  have hk0 : lv k = 0 := by
    rcases h.att k with e | ⟨e, _⟩
    · exact e
    · omega
  refine ⟨fun a ha hlt hne => ?_, fun p => ?_, fun p => ?_⟩
  · by_cases e : Q a.f.toNat = k
    · have hne' : Q a.t.toNat ≠ k := by rw [← e]; exact hne.symm
      rw [e, hm.other _ hne']
      exact hm.ge a ((hmem a).2 ⟨ha, e⟩) hne'
    · have h1 := hd a ha
      rw [hm.other _ e, hm.other _ (by omega)]
      exact h.ge a ha (by omega) hne
  · by_cases e : p = k
    · subst e
      rcases hm.att with e | ⟨a, ha, h1, h2⟩
      · exact .inl (by rw [e]; exact hk0)
      · obtain ⟨ha1, ha2⟩ := (hmem a).1 ha
        exact .inr ⟨by omega, a, ha1, ha2, h1, by rw [hm.other _ h1]; exact h2⟩
    · rw [hm.other _ e]
      rcases h.att p with e' | ⟨e', a, ha, h1, h2, h3⟩
      · exact .inl e'
      · refine .inr ⟨by omega, a, ha, h1, h2, ?_⟩
        have := hd a ha
        rw [hm.other _ (by omega)]
        exact h3
  · by_cases e : p = k
    · subst e
      exact Int.le_trans (h.nonneg p) hm.up
    · rw [hm.other _ e]
      exact h.nonneg p
theorem LvI.all {n : Nat} {l : List AI} {Q : Nat → Nat} (hg : GoodG n l) (hd : ∀ a ∈ l, Q a.t.toNat ≤ Q a.f.toNat) (k : Nat) : LvI n l Q k (lvG Q (outs l) n k) := by
  induction k with
  | zero => exact ⟨fun a _ h => by omega, fun p => .inl rfl, fun p => Int.le_refl _⟩
  | succ k ih =>
    rw [lvG_succ]
    exact ih.next hg hd
/-- The strata of a graph. -/
noncomputable def SS (n : Nat) (l : List AI) (v : Nat) : Int := lvG (PP n l) (outs l) n (MM n l) (PP n l v)
theorem SS_spec {n : Nat} {l : List AI} (h : GoodG n l) : LvSpec n l (PP n l) (SS n l) := by
  have hs := PP_spec h
  have hi := LvI.all h (Q := PP n l) (fun a ha => hs.down _ (h.arc ha).1 _ (h.arc ha).2.2) (MM n l)
  refine ⟨fun a ha hne => hi.ge a ha (hs.lt _ (h.arc ha).1) hne, fun u hu v hv e => by unfold SS; rw [e], fun v hv => ?_, fun v hv => hi.nonneg _⟩
  rcases hi.att (PP n l v) with e | ⟨_, a, ha, h1, h2, h3⟩
  · exact .inl e
  · exact .inr ⟨a, ha, h1, h2, h3⟩
/-- A function that all arcs hold. -/
def Sol (n : Nat) (l : List AI) (S : Nat → Int) : Prop := (∀ v, v < n → 0 ≤ S v) ∧ ∀ a ∈ l, S a.t.toNat + ng a ≤ S a.f.toNat
theorem LvSpec.sol {n : Nat} {l : List AI} {P : Nat → Nat} {S : Nat → Int} (hg : GoodG n l) (h : LvSpec n l P S) (hr : ∀ a ∈ l, a.neg = true → P a.f.toNat ≠ P a.t.toNat) : Sol n l S := by
  refine ⟨h.nonneg, fun a ha => ?_⟩
  by_cases e : P a.f.toNat = P a.t.toNat
  · have hn : ¬ a.neg = true := fun hn => hr a ha hn e
    have := h.part _ (hg.arc ha).1 _ (hg.arc ha).2.1 e
    unfold ng
    rw [if_neg hn]
    omega
  · exact h.ge a ha e
theorem Sol.pth {n : Nat} {l : List AI} {S : Nat → Int} (hg : GoodG n l) (h : Sol n l S) {u v : Nat} (hp : Pth (tos (outs l)) u v) : S v ≤ S u := by
  induction hp with
  | refl => exact Int.le_refl _
  | step _ ht ih =>
    obtain ⟨a, ha, h1, h2⟩ := (tos_EA hg.hb _ _).1 ht
    have h3 := h.2 a ha
    have h4 : 0 ≤ ng a := by unfold ng; split <;> omega
    rw [h1, h2] at h3
    simp only [Int.toNat_natCast] at h3
    omega
theorem LvSpec.least {n m : Nat} {l : List AI} {P : Nat → Nat} {S S' : Nat → Int} (hg : GoodG n l) (hP : PSpec (tos (outs l)) n m P) (h : LvSpec n l P S) (h' : Sol n l S') : ∀ (k v : Nat), P v ≤ k → v < n → S v ≤ S' v := by
  intro k
  induction k with
  | zero =>
    intro v hk hv
    rcases h.att v hv with e | ⟨a, ha, h1, h2, h3⟩
    · rw [e]; exact h'.1 v hv
    · have := hP.down _ (hg.arc ha).1 _ (hg.arc ha).2.2
      omega
  | succ k ih =>
    intro v hk hv
    rcases h.att v hv with e | ⟨a, ha, h1, h2, h3⟩
    · rw [e]; exact h'.1 v hv
    · have h4 := hP.down _ (hg.arc ha).1 _ (hg.arc ha).2.2
      have h5 := ih a.t.toNat (by omega) (hg.arc ha).2.1
      have h6 := h'.2 a ha
      have h7 := ((hP.sim _ (hg.arc ha).1 v hv).1 h1).2
      have h8 := h'.pth hg h7
      omega
theorem LvSpec.le {n m : Nat} {l : List AI} {P : Nat → Nat} {S : Nat → Int} (hg : GoodG n l) (hP : PSpec (tos (outs l)) n m P) (h : LvSpec n l P S) : ∀ (k v : Nat), P v ≤ k → v < n → S v ≤ P v := by
  intro k
  induction k with
  | zero =>
    intro v hk hv
    rcases h.att v hv with e | ⟨a, ha, h1, h2, h3⟩
    · omega
    · have := hP.down _ (hg.arc ha).1 _ (hg.arc ha).2.2
      omega
  | succ k ih =>
    intro v hk hv
    rcases h.att v hv with e | ⟨a, ha, h1, h2, h3⟩
    · omega
    · have h4 := hP.down _ (hg.arc ha).1 _ (hg.arc ha).2.2
      have h5 := ih a.t.toNat (by omega) (hg.arc ha).2.1
      have h6 : ng a ≤ 1 := by unfold ng; split <;> omega
      omega
end Go.Proofs.YtnhnckhjcnjacaaSg
