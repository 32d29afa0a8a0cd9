/- Lists that came in: of texts, of bools, of integers. -/
import Derived.Test.YtdbccemllaehjaaKw
import Derived.WalkKit
import Derived.ProofKit
import Derived.OpenShut
import Derived.SliceStrings
import Derived.Deep.Grids
import Derived.Below
import Derived.Carry
import Derived.SizedLaws
namespace Go.Proofs.YtdbccemllaehjaaKw
open Go.ChangeShapes Go.WideShapes Go.ChangeAt Go.RowKit Go.Deep
set_option linter.unusedVariables false
/-- A list of texts that came in. -/
theorem open_strs {H : Type} {enc : TypeId × Value → H} {P : Program} {W : World} {A : Option Addr} {len cap t e : Nat} {x : DataW H} {p : List MemPlace} (ht : P.underlying t = some (.slice e)) (he : P.underlying e = some .string) (hc : P.cellsOf e = 1) (hby : P.bytesOf e = 16)
    (h : DataW.Trod enc P W 0 (fun _ => true) true t (.slice A len cap) x p) {ts : List TypeId} {ds : List (DataW H)} {j : Nat} (hsz : (DataW.weightsEach P ts ds).all (· ≤ reachBytes) = true) (hts : ts[j]? = some t) (hds : ds[j]? = some x) :
    ∃ ss : List ByteArray, len = ss.length ∧ Rd W A (ss.map Value.string) ∧ len ≤ cap ∧ ss.length * 16 ≤ 140737488351232 ∧ ∀ s ∈ ss, s.size ≤ maxLen := by
  obtain ⟨fuel, hf⟩ := h
  have hf' : DataW.trod enc P W 0 (fun _ => true) true fuel t [.slice A len cap] = some (x, p) := by simpa [Value.cells] using hf
  rcases open_strings ht he hc hf' with ⟨hcs, hx⟩ | ⟨a, len', cap', ss, hcs, _, hl, hm, hz, hx, hcell, hws⟩
  · simp at hcs
    obtain ⟨rfl, rfl, rfl⟩ := hcs
    exact ⟨[], rfl, .inl rfl, Nat.le_refl _, by simp, by simp⟩
  · simp at hcs
    obtain ⟨rfl, rfl, rfl⟩ := hcs
    simp only [if_true] at hz
    obtain ⟨b, off, spot⟩ := a
    have hb := sized_slice hsz hts (by rw [hds]; exact congrArg some (congrArg Prod.fst hx)) ht
    simp [strs] at hb
    have hr : reachBytes = 140737488351232 := by decide
    have hlen : (ss.take len).length = len := by simp; omega
    refine ⟨ss.take len, hlen.symm, ?_, hl, ?_, fun s hs => hws s (List.mem_of_mem_take hs)⟩
    · by_cases h0 : len = 0
      · left; simp [h0]
      · have hspot : spot = none := by simpa [Addr.add] using World.cell?_spot (hcell 0 (by omega))
        subst hspot
        refine .inr ⟨b, off, rfl, fun j u hu => ?_⟩
        have hj : j < len := by
          have := (List.getElem?_eq_some_iff.1 hu).1
          simp at this
          omega
        have := hcell j (by omega)
        rw [add_plain] at this
        rw [this]
        rw [List.getElem?_map, List.getElem?_take_of_lt hj] at hu
        rw [List.getElem?_eq_getElem (by omega)] at hu
        simp at hu
        rw [← hu]
        simp [List.getD, List.getElem?_eq_getElem (show j < ss.length by omega)]
    · rw [hlen]
      rw [hby] at hb
      have : min len ss.length + (ss.length - len) = ss.length := by omega
      rw [this] at hb
      have : len * 16 ≤ ss.length * 16 := Nat.mul_le_mul_right _ (by omega)
      omega
theorem rd_range {W : World} {a : Addr} {α : Type} (len : Nat) (B : Nat → α) (mk : α → Value) (h : ∀ i, i < len → W.cell? (a.add i) = some (mk (B i))) :
    Rd W (some a) (((List.range len).map B).map mk) := by
  obtain ⟨b, off, spot⟩ := a
  by_cases h0 : len = 0
  · left; simp [h0]
  · have hspot : spot = none := by simpa [Addr.add] using World.cell?_spot (h 0 (by omega))
    subst hspot
    refine .inr ⟨b, off, rfl, fun j u hu => ?_⟩
    have hj : j < len := by
      have := (List.getElem?_eq_some_iff.1 hu).1
      simpa using this
    have := h j hj
    rw [add_plain] at this
    rw [this]
    simp [List.getElem?_map, List.getElem?_range hj] at hu
    rw [hu]
/-- A list of bools that came in. -/
theorem open_bls {H : Type} {enc : TypeId × Value → H} {P : Program} {W : World} {A : Option Addr} {len cap t e : Nat} {x : DataW H} {p : List MemPlace} (ht : P.underlying t = some (.slice e)) (he : P.underlying e = some .bool) (hc : P.cellsOf e = 1) (hby : P.bytesOf e = 1)
    (h : DataW.Trod enc P W 0 (fun _ => true) true t (.slice A len cap) x p) {ts : List TypeId} {ds : List (DataW H)} {j : Nat} (hsz : (DataW.weightsEach P ts ds).all (· ≤ reachBytes) = true) (hts : ts[j]? = some t) (hds : ds[j]? = some x) :
    ∃ bs : List Bool, len = bs.length ∧ Rd W A (bs.map Value.bool) ∧ len ≤ cap ∧ bs.length ≤ 140737488351232 := by
  obtain ⟨fuel, hf⟩ := h
  have hf' : DataW.trod enc P W 0 (fun _ => true) true fuel t [.slice A len cap] = some (x, p) := by simpa [Value.cells] using hf
  rcases open_bools ht he hc hf' with ⟨hcs, hx⟩ | ⟨a, len', cap', B, hcs, _, hl, hm, hx, hcell⟩
  · simp at hcs
    obtain ⟨rfl, rfl, rfl⟩ := hcs
    exact ⟨[], rfl, .inl rfl, Nat.le_refl _, by simp⟩
  · simp at hcs
    obtain ⟨rfl, rfl, rfl⟩ := hcs
    have hb := sized_slice hsz hts (by rw [hds]; exact congrArg some (congrArg Prod.fst hx)) ht
    simp [hby] at hb
    have hr : reachBytes = 140737488351232 := by decide
    exact ⟨(List.range len).map B, by simp, rd_range len B .bool (fun i hi => hcell i (by omega)), hl, by simp; omega⟩
end Go.Proofs.YtdbccemllaehjaaKw
