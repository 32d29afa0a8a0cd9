/- Strata: a pair of numbers that came in. -/
import Derived.Test.YtnhnckhjcnjacaaTg
import Derived.Test.YtnhnckhjcnjacaaUm
namespace Go.Proofs.Ytnhnckhjcnjacaa.ST
open Go.ChangeShapes Go.WideShapes Go.ChangeAt Go.RowKit Go.Deep Go.Proofs.YtnhnckhjcnjacaaKw
set_option linter.unusedVariables false
theorem cells43 : Try.prog.cellsOf 43 = 2 := by kernel_rfl
theorem cells3 : Try.prog.cellsOf 3 = 1 := by kernel_rfl
theorem open_turn {H : Type} {enc : TypeId × Value → H} {W : World} {v : Value} {d : DataW H} {p : List MemPlace} {b0 : Nat} (hv : Value.okWide Try.prog W .any b0 43 v) (h : DataW.Trod enc Try.prog W 0 (fun _ => true) true 43 v d p) :
    ∃ a b, v = .agg #[.int .i64 a, .int .i64 b] ∧ b64 a ∧ b64 b := by
  simp only [Value.okWide, Try.underlying43] at hv
  obtain ⟨cs, rfl, hsz, _⟩ := hv
  obtain ⟨l⟩ := cs
  match l, hsz.trans cells43 with
  | [c0, c1], _ =>
    obtain ⟨fuel, hf⟩ := h
    obtain ⟨y0, y1, n, _, _, h0, h1⟩ := trod_struct2 Try.underlying43 hf
    simp [Value.cells, cells3] at h0 h1
    obtain ⟨a, e0, _, w0⟩ := DataW.trod_int Try.underlying3 h0
    obtain ⟨b, e1, _, w1⟩ := DataW.trod_int Try.underlying3 h1
    simp at e0 e1
    exact ⟨a, b, by rw [e0, e1], bnd w0, bnd w1⟩
end Go.Proofs.Ytnhnckhjcnjacaa.ST
