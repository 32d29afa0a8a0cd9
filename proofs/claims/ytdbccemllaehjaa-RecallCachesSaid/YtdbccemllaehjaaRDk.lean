/- The law RecallCaches: its arguments opened. -/
import Derived.Test.YtdbccemllaehjaaRDj
import Derived.Test.YtdbccemllaehjaaKwOpen3
namespace Go.Proofs.Ytdbccemllaehjaa.RD2
open Go.ChangeShapes Go.WideShapes Go.ChangeAt Go.RowKit Go.Deep Go.Proofs.YtdbccemllaehjaaKw
set_option linter.unusedVariables false
theorem cells42 : Try.prog.cellsOf 42 = 4 := by kernel_rfl
theorem bytes42 : Try.prog.bytesOf 42 = 40 := by kernel_rfl
theorem bnd {x : Int} (h : (Lit.int .i64 x).wf = true) : -9223372036854775808 ≤ x ∧ x ≤ 9223372036854775807 := by simp [Lit.wf, IntKind.min, IntKind.max, IntKind.bits, IntKind.signed] at h; omega
instance : Inhabited OpR := ⟨⟨0, 0, 0, ⟨#[]⟩⟩⟩
theorem open_ops {H : Type} {enc : TypeId × Value → H} {W : World} {A : Option Addr} {len cap : Nat} {x : DataW H} {p : List MemPlace}
    (h : DataW.Trod enc Try.prog W 0 (fun _ => true) true 31 (.slice A len cap) x p) {ts : List TypeId} {ds : List (DataW H)} {j : Nat} (hsz : (DataW.weightsEach Try.prog ts ds).all (· ≤ reachBytes) = true) (hts : ts[j]? = some 31) (hds : ds[j]? = some x) :
    ∃ ops : List OpR, len = ops.length ∧ Rd W A (opv ops) ∧ ops.length * 40 ≤ 140737488351232 ∧
      ∀ o ∈ ops, (-9223372036854775808 ≤ o.on ∧ o.on ≤ 9223372036854775807) ∧ (-9223372036854775808 ≤ o.kind ∧ o.kind ≤ 9223372036854775807) ∧ (-9223372036854775808 ≤ o.key ∧ o.key ≤ 9223372036854775807) := by
  obtain ⟨fuel, hf⟩ := h
  have hf' : DataW.trod enc Try.prog W 0 (fun _ => true) true fuel 31 [.slice A len cap] = some (x, p) := by simpa [Value.cells] using hf
  rcases open_slice_fields Try.underlying31 Try.underlying42 (by kernel_rfl) cells42 hf' with ⟨hcs, hx⟩ | ⟨a, len', cap', m, D, Pl, hcs, _, hl, hm, hmm, hx, hi⟩
  · simp at hcs
    obtain ⟨rfl, rfl, rfl⟩ := hcs
    exact ⟨[], rfl, .inl rfl, by simp, by simp⟩
  · simp at hcs
    obtain ⟨rfl, rfl, rfl⟩ := hcs
    simp only [if_true] at hmm
    subst hmm
    have hb := sized_slice hsz hts (by rw [hds]; exact congrArg some (congrArg Prod.fst hx)) Try.underlying31
    rw [bytes42] at hb
    simp at hb
    have hr : reachBytes = 140737488351232 := by decide
    have hop : ∀ i, i < len → ∃ o : OpR, (∀ j u, ([.int .i64 o.on, .int .i64 o.kind, .int .i64 o.key, .string o.v] : List Value)[j]? = some u → W.cell? (a.add (i * 4 + j)) = some u) ∧ (-9223372036854775808 ≤ o.on ∧ o.on ≤ 9223372036854775807) ∧ (-9223372036854775808 ≤ o.kind ∧ o.kind ≤ 9223372036854775807) ∧ (-9223372036854775808 ≤ o.key ∧ o.key ≤ 9223372036854775807) := by
      intro i hil
      obtain ⟨ys, n, _, _, _, hcell⟩ := hi i (by omega)
      obtain ⟨v0, y0, c0, _, t0⟩ := hcell 0 _ rfl
      obtain ⟨v1, y1, c1, _, t1⟩ := hcell 1 _ rfl
      obtain ⟨v2, y2, c2, _, t2⟩ := hcell 2 _ rfl
      obtain ⟨v3, y3, c3, _, t3⟩ := hcell 3 _ rfl
      obtain ⟨n0, e0, _, w0⟩ := DataW.trod_int Try.underlying3 t0
      obtain ⟨n1, e1, _, w1⟩ := DataW.trod_int Try.underlying3 t1
      obtain ⟨n2, e2, _, w2⟩ := DataW.trod_int Try.underlying3 t2
      obtain ⟨s3, e3, _, _⟩ := DataW.trod_string Try.underlying9 t3
      simp at e0 e1 e2 e3
      subst e0 e1 e2 e3
      refine ⟨⟨n0, n1, n2, s3⟩, fun j u hu => ?_, bnd w0, bnd w1, bnd w2⟩
      rcases j with _ | _ | _ | _ | j
      · simp at hu; subst hu; exact c0
      · simp at hu; subst hu; exact c1
      · simp at hu; subst hu; exact c2
      · simp at hu; subst hu; exact c3
      · simp at hu
    obtain ⟨B, hB⟩ := choose_lt hop
    refine ⟨(List.range len).map B, by simp, rd_rows 4 len B _ (fun _ => rfl) (fun i hil => (hB i hil).1) (by omega), by simp; omega, fun o ho => ?_⟩
    obtain ⟨i, hil, rfl⟩ := List.mem_map.1 ho
    exact (hB i (by simpa using hil)).2
end Go.Proofs.Ytdbccemllaehjaa.RD2
