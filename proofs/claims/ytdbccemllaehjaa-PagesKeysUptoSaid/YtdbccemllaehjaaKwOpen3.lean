/- Arrays of two integers and lists of structs that came in. -/
import Derived.Test.YtdbccemllaehjaaKwOpen2
import Derived.Deep.Slices
import Derived.Deep.Fields
import Derived.ChangeSame
namespace Go.Proofs.YtdbccemllaehjaaKw
open Go.ChangeShapes Go.WideShapes Go.ChangeAt Go.RowKit Go.Deep
set_option linter.unusedVariables false
section
variable {H : Type} {enc : TypeId × Value → H} {P : Program} {w : World} {base : Nat} {spare : Nat → Bool} {held : Bool}
/-- An array of two integers, by value. -/
theorem open_arr2 {r : Reach} {b0 : Nat} {t e : TypeId} {k : IntKind} {v : Value} {d : DataW H} {p : List MemPlace} (ht : P.underlying t = some (.array 2 e)) (he : P.underlying e = some (.int k)) (hc : P.cellsOf e = 1) (hct : P.cellsOf t = 2)
    (hv : Value.okWide P w r b0 t v) (h : DataW.Trod enc P w base spare held t v d p) : ∃ a b, v = .agg #[.int k a, .int k b] := by
  simp only [Value.okWide, ht] at hv
  obtain ⟨cs, rfl, hsz, _⟩ := hv
  obtain ⟨l⟩ := cs
  match l, hsz.trans hct with
  | [c0, c1], _ =>
    obtain ⟨fuel, hf⟩ := h
    obtain ⟨xs, m, _, _, _, hl, hi⟩ := DataW.trod_array ht hf
    have h0 := hi 0 (by omega)
    have h1 := hi 1 (by omega)
    rw [hc] at h0 h1
    simp [Value.cells] at h0 h1
    rw [List.getElem?_eq_getElem (by omega)] at h0 h1
    obtain ⟨a, e0, _⟩ := DataW.trod_int he h0
    obtain ⟨b, e1, _⟩ := DataW.trod_int he h1
    simp at e0 e1
    exact ⟨a, b, by rw [e0, e1]⟩
/-- A list of structs, by its cells. -/
theorem open_slice_fields {t e : TypeId} {fs : Array Field} {fuel : Nat} {cs : List Value} {x : DataW H × List MemPlace} (ht : P.underlying t = some (.slice e)) (he : P.underlying e = some (.struct fs))
    (hone : oneCellFields P fs = true) (hC : P.cellsOf e = fs.size) (h : DataW.trod enc P w base spare held fuel t cs = some x) :
    (cs = [.slice none 0 0] ∧ x = (.nil, [])) ∨
    ∃ (a : Addr) (len cap m : Nat) (D : Nat → DataW H) (Pl : Nat → List MemPlace), cs = [.slice (some a) len cap] ∧ base ≤ a.block ∧ len ≤ cap ∧ cap ≤ maxLen ∧ m = (if spare a.block then cap else len) ∧
      x = (.slice ((List.range len).map D) ((List.range (m - len)).map fun j => D (len + j)), MemPlace.row a (m * fs.size) ++ (List.range m).flatMap Pl) ∧
      ∀ i, i < m → ∃ (ys : List (DataW H × List MemPlace)) (n : Nat), D i = .agg (ys.map (·.1)) ∧ Pl i = ys.flatMap (·.2) ∧ ys.length = fs.size ∧
        ∀ (j : Nat) (f : Field), fs[j]? = some f → ∃ (v : Value) (y : DataW H × List MemPlace), w.cell? (a.add (i * fs.size + j)) = some v ∧ ys[j]? = some y ∧ DataW.trod enc P w base spare held n f.type [v] = some y := by
  rcases open_slice ht h with h0 | ⟨a, len, cap, m, n, D, Pl, hcs, hb, hl, hm, hmm, hx, hi⟩
  · exact .inl h0
  · refine .inr ⟨a, len, cap, m, D, Pl, hcs, hb, hl, hm, hmm, by rw [hC] at hx; exact hx, fun i him => ?_⟩
    obtain ⟨cs', hc, ht'⟩ := hi i him
    rw [hC] at hc
    obtain ⟨ys, n', hn', hy, hlen, hyl, hf⟩ := DataW.trod_struct he ht'
    obtain ⟨_, hcl, hat⟩ := World.cells?_some hc
    simp only [Prod.mk.injEq] at hy
    refine ⟨ys, n', hy.1, hy.2, hyl, fun j f hj => ?_⟩
    obtain ⟨ho, hk⟩ := hone_of hone j f hj
    have hjl : j < fs.size := (Array.getElem?_eq_some_iff.1 hj).1
    have hcell := hat j hjl
    have hv : cs'[j]? = some (cs'[j]'(by omega)) := List.getElem?_eq_getElem (by omega)
    have h1 := hf j f hj
    rw [ho, hk] at h1
    have hone' : (cs'.drop j).take 1 = [cs'[j]'(by omega)] := by
      rw [List.drop_eq_getElem_cons (by omega)]
      rfl
    rw [hone'] at h1
    have hys : ys[j]? = some (ys[j]'(by omega)) := List.getElem?_eq_getElem (by omega)
    refine ⟨_, _, ?_, hys, h1.trans hys⟩
    rw [← Go.Deep.add_add, hcell, hv]
end
/-- A list of elements of n cells each, read by its elements. -/
theorem rd_rows {W : World} {a : Addr} {α : Type} (n len : Nat) (B : Nat → α) (mk : α → List Value) (hn : ∀ x, (mk x).length = n) (h : ∀ i, i < len → ∀ j u, (mk (B i))[j]? = some u → W.cell? (a.add (i * n + j)) = some u) (h0 : 0 < n) :
    Rd W (some a) (((List.range len).map B).flatMap mk) := by
  obtain ⟨b, off, spot⟩ := a
  by_cases hl : len = 0
  · left; simp [hl]
  · have hspot : spot = none := by
      obtain ⟨u, hu⟩ : ∃ u, (mk (B 0))[0]? = some u := ⟨_, List.getElem?_eq_getElem (by rw [hn]; exact h0)⟩
      simpa [Addr.add] using World.cell?_spot (h 0 (by omega) 0 u hu)
    subst hspot
    refine .inr ⟨b, off, rfl, fun j u hu => ?_⟩
    have key : ∀ (m s : Nat), (∀ i, s ≤ i → i < s + m → ∀ j u, (mk (B i))[j]? = some u → W.cell? ⟨b, off + (i * n + j), none⟩ = some u) → ∀ j u, ((((List.range' s m).map B).flatMap mk)[j]? = some u) → W.cell? ⟨b, off + (s * n + j), none⟩ = some u := by
      intro m
      induction m with
      | zero => intro s _ j u hu; simp at hu
      | succ m ih =>
        intro s hs j u hu
        rw [List.range'_succ, List.map_cons, List.flatMap_cons] at hu
        by_cases hj : j < n
        · rw [List.getElem?_append_left (by rw [hn]; exact hj)] at hu
          exact hs s (Nat.le_refl _) (by omega) j u hu
        · rw [List.getElem?_append_right (by rw [hn]; omega), hn] at hu
          have := ih (s + 1) (fun i h1 h2 => hs i (by omega) (by omega)) (j - n) u hu
          rw [Nat.add_mul, Nat.one_mul, show s * n + n + (j - n) = s * n + j by omega] at this
          exact this
    have := key len 0 (fun i _ hi j u hu => by have := h i (by omega) j u hu; rwa [add_plain] at this) j u (by rw [← List.range_eq_range']; exact hu)
    simpa using this
end Go.Proofs.YtdbccemllaehjaaKw
