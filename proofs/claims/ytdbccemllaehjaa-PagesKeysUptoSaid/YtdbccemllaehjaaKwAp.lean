/- Rows that lie apart: the plain laws of marking them and of growing them. -/
import Derived.Test.YtdbccemllaehjaaKwRing
namespace Go.Proofs.YtdbccemllaehjaaKw.Ap
open Go.RowKit Go.Proofs.YtdbccemllaehjaaKw
set_option linter.unusedVariables false
set_option linter.unusedSimpArgs false

def mk (k i : Nat) : Int := 1000003 * ((k : Int) + 7) + i
def mkV (k i : Nat) : Value := .int .i64 (mk k i)
/-- The first n marks of row k. -/
def mks (k n : Nat) : List Value := (List.range n).map (mkV k)
theorem mks_len (k n : Nat) : (mks k n).length = n := by simp [mks]
theorem mks_at (k n i : Nat) (h : i < n) : (mks k n)[i]? = some (mkV k i) := by simp [mks, h]
theorem mks_succ (k n : Nat) : mks k (n + 1) = mks k n ++ [mkV k n] := by simp [mks, List.range_succ]

section
variable {w w' : World} {base : Nat} {e : TypeId} {n : Nat} {v : Value} {xs : List Value}
/-- A cell of an owned row written. -/
theorem own_set {g c : Nat} (h : w.ownsRow base e 1 (.slice (some ⟨g, 0, none⟩) n c) n xs) {i : Nat} (hi : i < n) (u : Value) :
    (w.setCell ⟨g, i, none⟩ u).ownsRow base e 1 (.slice (some ⟨g, 0, none⟩) n c) n (xs.set i u) := by
  refine ⟨by rw [List.length_set]; exact h.1, ?_⟩
  rcases h.2 with ⟨hv, _⟩ | ⟨g', cap, cur, hv, hb, hg, h1, h2, h3, h4⟩
  · cases hv
  · simp only [Value.slice.injEq, Option.some.injEq, Addr.mk.injEq, and_true, true_and] at hv
    obtain ⟨rfl, rfl⟩ := hv
    refine .inr ⟨g, c, cur.setIfInBounds i u, rfl, hb, ?_, h1, h2, by simpa using h3, ?_⟩
    · have hlt := (Array.getElem?_eq_some_iff.1 hg).1
      simp only [World.setCell, Array.getElem?_modify, hg]
      simp
    · rw [← h4, Nat.mul_one, Array.toList_setIfInBounds, List.take_set]
theorem setCell_tch (w : World) (a : Addr) (u : Value) (S : Nat → Prop) (h : S a.block) : Tch S w (w.setCell a u) :=
  ⟨rfl, rfl, rfl, by simp [World.setCell], fun k hk hn => by
    simp only [World.setCell]
    rw [Array.getElem?_modify, if_neg (fun e : a.block = k => hn (by rw [← e]; exact h))]⟩
/-- A shorter row of the same block. -/
theorem own_prefix {g c m : Nat} (h : w.ownsRow base e 1 (.slice (some ⟨g, 0, none⟩) n c) n xs) (hm : m ≤ n) :
    w.ownsRow base e 1 (.slice (some ⟨g, 0, none⟩) m c) m (xs.take m) := by
  have hl := h.1
  rcases h.2 with ⟨hv, _⟩ | ⟨g', cap, cur, hv, hb, hg, h1, h2, h3, h4⟩
  · cases hv
  · simp only [Value.slice.injEq, Option.some.injEq, Addr.mk.injEq, and_true, true_and] at hv
    obtain ⟨rfl, rfl⟩ := hv
    refine ⟨by rw [List.length_take]; omega, .inr ⟨g, c, cur, rfl, hb, hg, by omega, h2, h3, ?_⟩⟩
    rw [← h4, List.take_take, Nat.mul_one, Nat.mul_one, Nat.min_eq_left hm]
theorem own_tchS {S : Nat → Prop} (h : w.ownsRow base e 1 v n xs) (ht : Tch S w w') (hS : ∀ g, v.ownBlock = some g → ¬ S g) : w'.ownsRow base e 1 v n xs := by
  have hlt := h.lt
  refine ⟨h.1, ?_⟩
  rcases h.2 with hn | ⟨g, cap, cur, rfl, hbg, hgg, rest⟩
  · exact .inl hn
  · exact .inr ⟨g, cap, cur, rfl, hbg, by rw [ht.block g (hlt g rfl).2 (hS g rfl)]; exact hgg, rest⟩
theorem own_len {A : Option Addr} {m c : Nat} (h : w.ownsRow base e 1 (.slice A m c) n xs) : m = n := by
  rcases h.2 with ⟨hv, rfl⟩ | ⟨g, cap, cur, hv, _⟩
  · cases hv; rfl
  · cases hv; rfl
theorem own_type {e' : TypeId} {n' : Nat} {v' : Value} {xs' : List Value} (h : w.ownsRow base e 1 v n xs) {base' : Nat} (h' : w.ownsRow base' e' 1 v' n' xs') (hne : e ≠ e') {g : Nat} (hg : v.ownBlock = some g) : v'.ownBlock ≠ some g := by
  intro hg'
  rcases h.2 with ⟨rfl, _⟩ | ⟨g1, c1, cur1, rfl, _, hh, _⟩
  · simp [Value.ownBlock] at hg
  rcases h'.2 with ⟨rfl, _⟩ | ⟨g2, c2, cur2, rfl, _, hh', _⟩
  · simp [Value.ownBlock] at hg'
  simp [Value.ownBlock] at hg hg'
  subst hg; subst hg'
  rw [hh] at hh'
  simp only [Option.some.injEq, Obj.cells.injEq] at hh'
  exact hne hh'.2.1
end

/-- The rows: each of its length, the first c k cells of row k marked. -/
def Rws (w : World) (base : Nat) (e : TypeId) (vs : List Value) (L c : Nat → Nat) : Prop :=
  ∀ k v, vs[k]? = some v → ∃ xs, w.ownsRow base e 1 v (L k) xs ∧ ∀ i, i < c k → i < L k → xs[i]? = some (mkV k i)
/-- They lie apart. -/
def Sep (vs us : List Value) : Prop := ∀ (i j : Nat) (u v : Value), vs[i]? = some u → us[j]? = some v → i ≠ j → ∀ g, u.ownBlock = some g → v.ownBlock ≠ some g
/-- The blocks of the rows. -/
def Bl (vs : List Value) (q : Nat) : Prop := ∃ (k : Nat) (v : Value), vs[k]? = some v ∧ v.ownBlock = some q

theorem Rws.mono {w : World} {base : Nat} {e : TypeId} {vs : List Value} {L c c' : Nat → Nat} (h : Rws w base e vs L c) (hc : ∀ k, c' k ≤ c k) : Rws w base e vs L c' := by
  intro k v hv
  obtain ⟨xs, ho, hm⟩ := h k v hv
  exact ⟨xs, ho, fun i hi => hm i (Nat.lt_of_lt_of_le hi (hc k))⟩
theorem Rws.mono' {w : World} {base : Nat} {e : TypeId} {vs : List Value} {L c c' : Nat → Nat} (h : Rws w base e vs L c) (hc : ∀ k, k < vs.length → c' k ≤ c k) : Rws w base e vs L c' := by
  intro k v hv
  obtain ⟨xs, ho, hm⟩ := h k v hv
  exact ⟨xs, ho, fun i hi => hm i (Nat.lt_of_lt_of_le hi (hc k (List.getElem?_eq_some_iff.1 hv).1))⟩
theorem Rws.tch {w w' : World} {base : Nat} {e : TypeId} {vs : List Value} {L c : Nat → Nat} (h : Rws w base e vs L c) {S : Nat → Prop} (ht : Tch S w w') (hS : ∀ q, Bl vs q → ¬ S q) : Rws w' base e vs L c := by
  intro k v hv
  obtain ⟨xs, ho, hm⟩ := h k v hv
  exact ⟨xs, own_tchS ho ht (fun g hg => hS g ⟨k, v, hv, hg⟩), hm⟩
theorem Rws.lt {w : World} {base : Nat} {e : TypeId} {vs : List Value} {L c : Nat → Nat} (h : Rws w base e vs L c) : ∀ q, Bl vs q → base ≤ q ∧ q < w.heap.size := by
  rintro q ⟨k, v, hv, hq⟩
  obtain ⟨xs, ho, hm⟩ := h k v hv
  exact ho.lt q hq
/-- The form of a row that is not empty. -/
theorem Rws.form {w : World} {base : Nat} {e : TypeId} {vs : List Value} {L c : Nat → Nat} (h : Rws w base e vs L c) {k : Nat} {v : Value} (hv : vs[k]? = some v) : ∃ A cap, v = .slice A (L k) cap ∧ L k ≤ cap ∧ cap ≤ 9223372036854775807 ∧ (0 < L k → ∃ g, A = some ⟨g, 0, none⟩) := by
  obtain ⟨xs, ho, _⟩ := h k v hv
  rcases ho.2 with ⟨rfl, h0⟩ | ⟨g, cap, cur, rfl, _, _, h1, h2, _⟩
  · exact ⟨none, 0, by rw [h0], by omega, by omega, by omega⟩
  · exact ⟨_, _, rfl, h1, by simpa [maxLen] using h2, fun _ => ⟨g, rfl⟩⟩
theorem Rws.cell {w : World} {base : Nat} {e : TypeId} {vs : List Value} {L c : Nat → Nat} (h : Rws w base e vs L c) {k g n cap : Nat} (hv : vs[k]? = some (.slice (some ⟨g, 0, none⟩) n cap)) {i : Nat} (hi : i < L k) :
    (∃ u, w.cell? ⟨g, i, none⟩ = some u ∧ (i < c k → u = mkV k i)) ∧ w.frozen? ⟨g, i, none⟩ = false := by
  obtain ⟨xs, ho, hm⟩ := h k _ hv
  have hl := ho.1
  rcases ho.2 with ⟨hn, _⟩ | ⟨g', cap', cur, hn, _, hg, h1, h2, h3, h4⟩
  · cases hn
  · cases hn
    obtain ⟨u, hx⟩ : ∃ u, xs[i]? = some u := ⟨_, List.getElem?_eq_getElem (by omega)⟩
    have hcur : cur[i]? = some u := by
      have hx' := hx
      rw [← h4, Nat.mul_one, List.getElem?_take_of_lt hi] at hx'
      simpa using hx'
    refine ⟨⟨u, ?_, fun hc => ?_⟩, ?_⟩
    · simp [World.cell?, hg, hcur]
    · have := hm i hc hi
      rw [hx] at this
      exact Option.some.inj this
    · simp [World.frozen?, hg]
/-- A mark set. -/
theorem Rws.set {w : World} {base : Nat} {e : TypeId} {vs : List Value} {L c : Nat → Nat} (h : Rws w base e vs L c) (hs : Sep vs vs) {k g n cap : Nat} (hv : vs[k]? = some (.slice (some ⟨g, 0, none⟩) n cap)) {i : Nat} (hi : i < L k) (hc : c k = i) :
    Rws (w.setCell ⟨g, i, none⟩ (mkV k i)) base e vs L (fun j => if j = k then i + 1 else c j) := by
  intro j v hj
  by_cases hjk : j = k
  · subst hjk
    rw [hv] at hj
    cases hj
    obtain ⟨xs, ho, hm⟩ := h j _ hv
    obtain rfl := own_len ho
    have hl := ho.1
    refine ⟨_, own_set ho hi _, fun i' hi' hi2 => ?_⟩
    have hi' : i' < i + 1 := by simpa using hi'
    by_cases he : i' = i
    · subst he
      rw [List.getElem?_set_self (by omega)]
    · rw [List.getElem?_set_ne (fun e => he e.symm)]
      exact hm i' (by omega) hi2
  · obtain ⟨xs, ho, hm⟩ := h j v hj
    refine ⟨xs, own_tchS ho (setCell_tch w _ _ (fun q => q = g) rfl) (fun q hq e => ?_), fun i' hi' => hm i' (by simpa [if_neg hjk] using hi')⟩
    subst e
    exact hs k j _ _ hv hj (fun e => hjk e.symm) q rfl hq
end Go.Proofs.YtdbccemllaehjaaKw.Ap
