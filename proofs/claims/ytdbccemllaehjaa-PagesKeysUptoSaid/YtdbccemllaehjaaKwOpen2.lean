/- Lists of integers that came in. -/
import Derived.Test.YtdbccemllaehjaaKwOpen
namespace Go.Proofs.YtdbccemllaehjaaKw
open Go.ChangeShapes Go.WideShapes Go.ChangeAt Go.RowKit Go.Deep
set_option linter.unusedVariables false
/-- A list of integers that came in. -/
theorem open_ivs {H : Type} {enc : TypeId × Value → H} {P : Program} {W : World} {A : Option Addr} {len cap t e B : Nat} {k : IntKind} {x : DataW H} {p : List MemPlace} (ht : P.underlying t = some (.slice e)) (he : P.underlying e = some (.int k)) (hc : P.cellsOf e = 1) (hby : P.bytesOf e = B)
    (h : DataW.Trod enc P W 0 (fun _ => true) true t (.slice A len cap) x p) {ts : List TypeId} {ds : List (DataW H)} {j : Nat} (hsz : (DataW.weightsEach P ts ds).all (· ≤ reachBytes) = true) (hts : ts[j]? = some t) (hds : ds[j]? = some x) :
    ∃ zs : List Int, len = zs.length ∧ Rd W A (zs.map (Value.int k)) ∧ len ≤ cap ∧ cap ≤ maxLen ∧ zs.length * B ≤ 140737488351232 ∧ ∀ z ∈ zs, (Lit.int k z).wf = true := by
  obtain ⟨fuel, hf⟩ := h
  have hf' : DataW.trod enc P W 0 (fun _ => true) true fuel t [.slice A len cap] = some (x, p) := by simpa [Value.cells] using hf
  rcases open_ints ht he hc hf' with ⟨hcs, hx⟩ | ⟨a, len', cap', zs, hcs, _, hl, hm, hz, hx, hcell, hwz⟩
  · simp at hcs
    obtain ⟨rfl, rfl, rfl⟩ := hcs
    exact ⟨[], rfl, .inl rfl, Nat.le_refl _, by simp [maxLen], by simp, by simp⟩
  · simp at hcs
    obtain ⟨rfl, rfl, rfl⟩ := hcs
    simp only [if_true] at hz
    have hb := sized_slice hsz hts (by rw [hds]; exact congrArg some (congrArg Prod.fst hx)) ht
    simp [lits] at hb
    rw [hby] at hb
    have hr : reachBytes = 140737488351232 := by decide
    have hlen : (zs.take len).length = len := by simp; omega
    have heq : zs.take len = (List.range len).map (fun i => zs.getD i 0) := by
      refine List.ext_getElem? fun i => ?_
      by_cases hi : i < len
      · rw [List.getElem?_take_of_lt hi, List.getElem?_map, List.getElem?_range hi]
        simp [List.getD, List.getElem?_eq_getElem (show i < zs.length by omega)]
      · rw [List.getElem?_eq_none (by omega), List.getElem?_eq_none (by simp; omega)]
    refine ⟨zs.take len, hlen.symm, ?_, hl, hm, ?_, fun z hz => hwz z (List.mem_of_mem_take hz)⟩
    · rw [heq]
      exact rd_range len _ (Value.int k) (fun i hi => hcell i (by omega))
    · rw [hlen]
      have : min len zs.length + (zs.length - len) = zs.length := by omega
      rw [this] at hb
      have : len * B ≤ zs.length * B := Nat.mul_le_mul_right _ (by omega)
      omega
end Go.Proofs.YtdbccemllaehjaaKw
