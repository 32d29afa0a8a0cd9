/- PagesCodes: a pin that came in. -/
import Derived.Test.YtdbccemllaehjaaGw
import Derived.Test.YtdbccemllaehjaaKwOpen3
import Derived.Deep.Strs
namespace Go.Proofs.Ytdbccemllaehjaa.PG
open Go.ChangeShapes Go.WideShapes Go.ChangeAt Go.RowKit Go.Deep Go.Proofs.YtdbccemllaehjaaKw
set_option linter.unusedVariables false
theorem cells87 : Try.prog.cellsOf 87 = 3 := by kernel_rfl
theorem cells82 : Try.prog.cellsOf 82 = 1 := by kernel_rfl
theorem cells2 : Try.prog.cellsOf 2 = 1 := by kernel_rfl
theorem cells9 : Try.prog.cellsOf 9 = 1 := by kernel_rfl
set_option maxRecDepth 100000 in
theorem open_pin {H : Type} {enc : TypeId × Value → H} {W : World} {v : Value} {d : DataW H} {p : List MemPlace} {b0 : Nat} (hv : Value.okWide Try.prog W .any b0 87 v) (h : DataW.Trod enc Try.prog W 0 (fun _ => true) true 87 v d p) :
    ∃ (key : Nat) (r : Int) (last : ByteArray), v = .agg #[.int .u64 (key : Int), .int .i64 r, .string last] ∧ key < 18446744073709551616 ∧ (-9223372036854775808 ≤ r ∧ r ≤ 9223372036854775807) ∧ last.size ≤ maxLen := by
  simp only [Value.okWide, Try.underlying87] at hv
  obtain ⟨cs, rfl, hsz, _⟩ := hv
  obtain ⟨l⟩ := cs
  match l, hsz.trans cells87 with
  | [c0, c1, c2], _ =>
    obtain ⟨fuel, hf⟩ := h
    obtain ⟨y0, y1, y2, n, _, _, h0, h1, h2⟩ := trod_struct3 Try.underlying87 hf
    simp [Value.cells, cells82, cells2, cells9] at h0 h1 h2
    obtain ⟨a, e0, _, w0⟩ := DataW.trod_int Try.underlying82 h0
    obtain ⟨b, e1, _, w1⟩ := DataW.trod_int Try.underlying2 h1
    obtain ⟨s, e2, _, w2⟩ := DataW.trod_string Try.underlying9 h2
    simp at e0 e1 e2
    simp [Lit.wf, IntKind.min, IntKind.max, IntKind.bits, IntKind.signed] at w0 w1
    obtain ⟨k, rfl⟩ := Int.eq_ofNat_of_zero_le (show 0 ≤ a by omega)
    exact ⟨k, b, s, by rw [e0, e1, e2], by omega, by omega, w2⟩
end Go.Proofs.Ytdbccemllaehjaa.PG
