/- Rows that lie apart: grown by many at once. -/
import Derived.Test.YtnhnckhjcnjacaaKwAp2
namespace Go.Proofs.YtnhnckhjcnjacaaKw.Ap
open Go.RowKit Go.Proofs.YtnhnckhjcnjacaaKw
set_option linter.unusedVariables false
set_option linter.unusedSimpArgs false
section
variable {w wr w1 : World} {e e2 : TypeId} {vs gl : List Value} {L F : Nat → Nat} {v5 g v1 : Value} {k n : Nat}
theorem own_frozen {b c : Nat} {xs : List Value} (h : w.ownsRow 0 e 1 (.slice (some ⟨b, 0, none⟩) n c) n xs) (i : Nat) : w.frozen? ⟨b, i, none⟩ = false := by
  rcases h.2 with ⟨hn, _⟩ | ⟨g', cap', cur, hn, _, hg, _⟩
  · cases hn
  · cases hn
    simp [World.frozen?, hg]
/-- Writes beside the rows. -/
theorem GS.aside (h : GS w wr e e2 vs L F v5 gl) {S : Nat → Prop} (ht : Tch S wr w1) (hS : ∀ q, S q → w.heap.size ≤ q ∧ ¬ Bl vs q ∧ ¬ Bl gl q ∧ v5.ownBlock ≠ some q) : GS w w1 e e2 vs L F v5 gl := by
  refine ⟨⟨ht.os.trans h.tch.os, ht.tape.trans h.tch.tape, ht.output.trans h.tch.output, Nat.le_trans h.tch.size ht.size, fun q hq hn => ?_⟩, h.rows.tch ht (fun q hq hs => (hS q hs).2.1 hq), h.grows.tch ht (fun q hq hs => (hS q hs).2.2.1 hq), h.sgg, h.svg, own_tchS h.own ht (fun q hq hs => (hS q hs).2.2.2 hq), h.new⟩
  rw [ht.block q (Nat.lt_of_lt_of_le hq h.tch.size) (fun hs => absurd hq (Nat.not_lt.2 (hS q hs).1))]
  exact h.tch.block q hq hn
/-- A list that is made beside them. -/
structure Many (w wr : World) (e : TypeId) (vs gl : List Value) (v : Value) (n : Nat) : Prop where
  row : ∃ xs, wr.ownsRow 0 e 1 v n xs ∧ ∀ u ∈ xs, u.oneCell' = true
  sep : ∀ q, v.ownBlock = some q → w.heap.size ≤ q ∧ ¬ Bl vs q ∧ ¬ Bl gl q
theorem Many.nil : Many w wr e vs gl (.slice none 0 0) 0 := ⟨⟨[], World.ownsRow_nil _ _ _ _, by simp⟩, fun q hq => by simp [Value.ownBlock] at hq⟩
theorem Many.step (h : GS w wr e e2 vs L F v5 gl) (hM : Many w wr e vs gl g n) (hne : e ≠ e2) {xs : List Value} {y : Value} (hx : ∀ u ∈ xs, u.oneCell' = true) (hy : y.oneCell' = true)
    (hro : wr.ownsRow 0 e 1 g n xs) (ho : w1.ownsRow 0 e 1 v1 (n + 1) (xs ++ [y])) (hg : Grew wr g n 1 v1 w1) : GS w w1 e e2 vs L F v5 gl ∧ Many w w1 e vs gl v1 (n + 1) := by
  have hrl := h.rows.lt
  have hgl := h.grows.lt
  have hone : ∀ u ∈ xs ++ [y], u.oneCell' = true := by
    intro u hu
    rcases List.mem_append.1 hu with hu | hu
    · exact hx u hu
    · rw [List.mem_singleton.1 hu]; exact hy
  rcases hg with ⟨b, cap, rfl, rfl, hgr⟩ | ⟨b, hb, h1, hgr⟩
  · refine ⟨h.aside (grown_tch hgr) (fun q hq => ?_), ⟨_, ho, hone⟩, hM.sep⟩
    have hqb : q = b := Option.some.inj hq
    subst hqb
    obtain ⟨a1, a2, a3⟩ := hM.sep q rfl
    exact ⟨a1, a2, a3, own_type hro h.own hne rfl⟩
  · refine ⟨h.aside (grown_tch hgr) (fun q hq => by cases hq), ⟨_, ho, hone⟩, fun q hq => ?_⟩
    rw [h1] at hq
    cases hq
    have := h.tch.size
    exact ⟨by omega, fun hq => by have := (hrl b hq).2; omega, fun hq => by have := (hgl b hq).2; omega⟩

/-- A row grown by many, and laid in its place. -/
theorem GS.grown (h : GS w wr e e2 vs L L v5 gl) (hs : Sep vs vs) (hne : e ≠ e2) {vk : Value} (hv : vs[k]? = some vk) {m : Nat} {ys : List Value}
    (ho : w1.ownsRow 0 e 1 v1 (L k + m) (mks k (L k) ++ ys)) (hg : Grew wr vk (L k) m v1 w1) :
    w1.ownsRow 0 e2 1 v5 gl.length gl ∧ Tch (Bl vs) w w1 ∧ Rws w1 0 e vs L L ∧ (∀ (j : Nat) (u : Value), gl[j]? = some u → j ≠ k → ∃ xs, w1.ownsRow 0 e 1 u (L j + 64) xs ∧ ∀ i, i < L j → i < L j + 64 → xs[i]? = some (mkV j i)) := by
  have hvo := h.rows.full hv
  rcases hg with ⟨b, cap, rfl, rfl, hgr⟩ | ⟨b, hb, h1, hgr⟩
  · have ht := grown_tch hgr
    refine ⟨own_tchS h.own ht (fun q hq e => ?_), ⟨ht.os.trans h.tch.os, ht.tape.trans h.tch.tape, ht.output.trans h.tch.output, Nat.le_trans h.tch.size ht.size, fun q hq hn => ?_⟩, fun j v hj => ?_, fun j u hj hjk => ?_⟩
    · have := Option.some.inj e
      subst this
      exact own_type hvo h.own hne (g := q) rfl hq
    · rw [ht.block q (Nat.lt_of_lt_of_le hq h.tch.size) (fun e => hn ⟨k, _, hv, by rw [e]; rfl⟩)]
      exact h.tch.block q hq hn
    · by_cases hjk : j = k
      · subst hjk
        rw [hv] at hj
        cases hj
        refine ⟨_, ?_, fun i hi hi2 => mks_at j _ i hi2⟩
        have := own_prefix ho (m := L j) (by omega)
        rwa [List.take_append_of_le_length (by rw [mks_len]; exact Nat.le_refl _), List.take_of_length_le (by rw [mks_len]; exact Nat.le_refl _)] at this
      · obtain ⟨xs, hxo, hxm⟩ := h.rows j v hj
        exact ⟨xs, own_tchS hxo ht (fun q hq e => hs k j _ v hv hj (fun e => hjk e.symm) q (by rw [e]; rfl) hq), hxm⟩
    · obtain ⟨xs, hxo, hxm⟩ := h.grows j u hj
      exact ⟨xs, own_tchS hxo ht (fun q hq e => h.svg k j _ u hv hj (fun e => hjk e.symm) q (by rw [e]; rfl) hq), hxm⟩
  · have ht := grown_tch hgr
    have hno : ∀ q : Nat, ¬ some q = (none : Option Nat) := fun q e => by cases e
    refine ⟨own_tchS h.own ht (fun q _ => hno q), ⟨ht.os.trans h.tch.os, ht.tape.trans h.tch.tape, ht.output.trans h.tch.output, Nat.le_trans h.tch.size ht.size, fun q hq hn => ?_⟩, h.rows.tch ht (fun q _ => hno q), fun j u hj hjk => ?_⟩
    · rw [ht.block q (Nat.lt_of_lt_of_le hq h.tch.size) (hno q)]
      exact h.tch.block q hq hn
    · obtain ⟨xs, hxo, hxm⟩ := h.grows j u hj
      exact ⟨xs, own_tchS hxo ht (fun q _ => hno q), hxm⟩
theorem GS.turn {b5 c5 : Nat} (h : GS w wr e e2 vs L L (.slice (some ⟨b5, 0, none⟩) gl.length c5) gl) (hs : Sep vs vs) (hne : e ≠ e2) {vk : Value} (hv : vs[k]? = some vk) (hk : k < gl.length) {ys : List Value}
    (ho : w1.ownsRow 0 e 1 v1 (L k + 64) (mks k (L k) ++ ys)) (hg : Grew wr vk (L k) 64 v1 w1) :
    GS w (w1.setCell ⟨b5, k, none⟩ v1) e e2 vs L L (.slice (some ⟨b5, 0, none⟩) gl.length c5) (gl.set k v1) := by
  obtain ⟨hown, ht, hr, hgr⟩ := h.grown hs hne hv ho hg
  have hset := setCell_tch w1 ⟨b5, k, none⟩ v1 (fun q => q = b5) rfl
  have hnew : w.heap.size ≤ b5 := h.new b5 rfl
  have hrl := h.rows.lt
  have hgl := h.grows.lt
  -- where the grown row lies
  have hwhere : ∀ q, v1.ownBlock = some q → vk.ownBlock = some q ∨ wr.heap.size ≤ q := by
    intro q hq
    rcases hg with ⟨b, cap, rfl, rfl, _⟩ | ⟨b, hb, h1, _⟩
    · exact .inl hq
    · rw [h1] at hq
      cases hq
      exact .inr hb
  have hat : ∀ (j : Nat) (u : Value), (gl.set k v1)[j]? = some u → (gl[j]? = some u ∧ j ≠ k) ∨ (j = k ∧ u = v1) := by
    intro j u hj
    by_cases hjk : j = k
    · subst hjk
      rw [List.getElem?_set_self hk] at hj
      exact .inr ⟨rfl, (Option.some.inj hj).symm⟩
    · rw [List.getElem?_set_ne (fun e => hjk e.symm)] at hj
      exact .inl ⟨hj, hjk⟩
  have hkeep : ∀ {v : Value} {n : Nat} {xs : List Value}, w1.ownsRow 0 e 1 v n xs → (w1.setCell ⟨b5, k, none⟩ v1).ownsRow 0 e 1 v n xs := fun ho' => own_tchS ho' hset (fun q hq hb => own_type ho' hown hne hq (by rw [hb]; rfl))
  refine ⟨⟨hset.os.trans ht.os, hset.tape.trans ht.tape, hset.output.trans ht.output, Nat.le_trans ht.size hset.size, fun q hq hn => ?_⟩, fun j v hj => ?_, fun j u hj => ?_, fun i j u v hi hj hij q hq hq' => ?_, fun i j u v hi hj hij q hq hq' => ?_, ?_, h.new⟩
  · rw [hset.block q (Nat.lt_of_lt_of_le hq ht.size) (fun e => by subst e; omega)]
    exact ht.block q hq hn
  · obtain ⟨xs, hxo, hxm⟩ := hr j v hj
    exact ⟨xs, hkeep hxo, hxm⟩
  · rcases hat j u hj with ⟨hj', hjk⟩ | ⟨rfl, rfl⟩
    · obtain ⟨xs, hxo, hxm⟩ := hgr j u hj' hjk
      exact ⟨xs, hkeep hxo, hxm⟩
    · exact ⟨_, hkeep ho, fun i hi _ => by rw [List.getElem?_append_left (by rw [mks_len]; exact hi)]; exact mks_at j _ i hi⟩
  · rcases hat i u hi with ⟨hi', hik⟩ | ⟨rfl, rfl⟩
    · rcases hat j v hj with ⟨hj', hjk⟩ | ⟨rfl, rfl⟩
      · exact h.sgg i j u v hi' hj' hij q hq hq'
      · rcases hwhere q hq' with hw | hw
        · exact h.svg j i vk u hv hi' (fun e => hij e.symm) q hw hq
        · have := (hgl q ⟨i, u, hi', hq⟩).2
          omega
    · rcases hat j v hj with ⟨hj', hjk⟩ | ⟨rfl, rfl⟩
      · rcases hwhere q hq with hw | hw
        · exact h.svg i j vk v hv hj' hij q hw hq'
        · have := (hgl q ⟨j, v, hj', hq'⟩).2
          omega
      · exact hij rfl
  · rcases hat j v hj with ⟨hj', hjk⟩ | ⟨rfl, rfl⟩
    · exact h.svg i j u v hi hj' hij q hq hq'
    · rcases hwhere q hq' with hw | hw
      · exact hs i j u vk hi hv hij q hq hw
      · have := (hrl q ⟨i, u, hi, hq⟩).2
        omega
  · have := own_set hown hk v1
    rw [List.length_set]
    exact this
theorem GS.less (h : GS w wr e e2 vs L (fun j => L j + 64) v5 gl) : GS w wr e e2 vs L L v5 gl := ⟨h.tch, h.rows, h.grows.mono (fun k => Nat.le_add_right _ _), h.sgg, h.svg, h.own, h.new⟩
end
end Go.Proofs.YtnhnckhjcnjacaaKw.Ap
