/- The reference's zero and May, walked. -/
import Derived.Test.YtdbccemllaehjaaHg
namespace Go.Proofs.Ytdbccemllaehjaa.PK
open Go.RowKit Go.Proofs.YtdbccemllaehjaaKw Go.Proofs.YtdbccemllaehjaaHa Go.Proofs.YtdbccemllaehjaaGa Go.Proofs.Ytdbccemllaehjaa.PG
set_option linter.unusedVariables false
set_option linter.unusedSimpArgs false
def zok (v : VV) : Prop := (v.kind = 1 ∨ v.b = false) ∧ (v.kind = 2 ∨ v.n = 0) ∧ (v.kind = 3 ∨ zr v.x) ∧ (v.kind = 4 ∨ v.t.size = 0) ∧ (v.kind = 5 ∨ v.ss.length = 0)
theorem kinds {kd : Int} {Z : Prop} (h1 : kd = 1 → Z) (h2 : kd = 2 → Z) (h3 : kd = 3 → Z) (h4 : kd = 4 → Z) (h5 : kd = 5 → Z) (h6 : (kd == 1) = false → (kd == 2) = false → (kd == 3) = false → (kd == 4) = false → (kd == 5) = false → Z) : Z := by
  by_cases a1 : kd = 1
  · exact h1 a1
  by_cases a2 : kd = 2
  · exact h2 a2
  by_cases a3 : kd = 3
  · exact h3 a3
  by_cases a4 : kd = 4
  · exact h4 a4
  by_cases a5 : kd = 5
  · exact h5 a5
  exact h6 (beq_eq_false_iff_ne.2 a1) (beq_eq_false_iff_ne.2 a2) (beq_eq_false_iff_ne.2 a3) (beq_eq_false_iff_ne.2 a4) (beq_eq_false_iff_ne.2 a5)
theorem empty_size {t : ByteArray} : t.toList.isEmpty = true ↔ t.size = 0 := by
  rw [ByteArray.toList_eq, List.isEmpty_iff]
  constructor
  · intro h
    have := congrArg List.length h
    simpa using this
  · intro h
    exact List.eq_nil_of_length_eq_zero (by simpa using h)
set_option maxHeartbeats 8000000 in
set_option maxRecDepth 100000 in
theorem zero_calls (w : World) (v : VV) (hx : v.x < 4294967296) : Calls Try.prog 123 #[.agg #[.int .i64 v.kind, .bool v.b, .int .i64 v.n, .float .f32 v.x, .string v.t, .slice v.A v.ss.length v.c]] w fun e w' => ((zok v ∧ e = .returned (.bool true)) ∨ (¬ zok v ∧ e = .returned (.bool false))) ∧ Below w.heap.size w w' := by
  have hal := below_alloc (Below.refl w.heap.size w) (.cells #[.int .i64 v.kind, .bool v.b, .int .i64 v.n, .float .f32 v.x, .string v.t, .slice v.A v.ss.length v.c] 147)
  have hz := zr_is hx
  have hok : zok v ↔ ((v.kind = 1 ∨ v.b = false) ∧ (v.kind = 2 ∨ (v.n != 0) = false) ∧ (v.kind = 3 ∨ (!decide (zr v.x)) = false) ∧ (v.kind = 4 ∨ v.t.toList.isEmpty = true) ∧ (v.kind = 5 ∨ v.ss.length = 0)) := by
    have e2 : (v.n != 0) = false ↔ v.n = 0 := by simp
    have e3 : (!decide (zr v.x)) = false ↔ zr v.x := by simp
    rw [e2, e3, empty_size]
    exact Iff.rfl
  have HF := Lib.hid (And.intro hal hok)
  clear hal hok hx
  generalize (!decide (zr v.x)) = b3 at *
  generalize v.ss.length = len at *
  by_cases hl : len = 0
  · have hlb : ((len : Int) == 0) = true := by rw [beq_iff_eq]; omega
    go_enter Try.func123, Try.ntmps123
    refine kinds (kd := v.kind) ?_ ?_ ?_ ?_ ?_ ?_
    · intro hk
      go_wp2_with fail
      all_goals
        go_ret
        have h := HF.out.2
        refine ⟨?_, below_alloc (Below.refl _ _) _⟩
        first
          | (refine .inr ⟨?_, rfl⟩; intro hh; have := h.1 hh; simp_all; done)
          | (refine .inl ⟨h.2 ?_, rfl⟩; simp_all; done)
    · intro hk
      go_wp2_with fail
      all_goals
        go_ret
        have h := HF.out.2
        refine ⟨?_, below_alloc (Below.refl _ _) _⟩
        first
          | (refine .inr ⟨?_, rfl⟩; intro hh; have := h.1 hh; simp_all; done)
          | (refine .inl ⟨h.2 ?_, rfl⟩; simp_all; done)
    · intro hk
      go_wp2_with fail
      all_goals
        go_ret
        have h := HF.out.2
        refine ⟨?_, below_alloc (Below.refl _ _) _⟩
        first
          | (refine .inr ⟨?_, rfl⟩; intro hh; have := h.1 hh; simp_all; done)
          | (refine .inl ⟨h.2 ?_, rfl⟩; simp_all; done)
    · intro hk
      go_wp2_with fail
      all_goals
        go_ret
        have h := HF.out.2
        refine ⟨?_, below_alloc (Below.refl _ _) _⟩
        first
          | (refine .inr ⟨?_, rfl⟩; intro hh; have := h.1 hh; simp_all; done)
          | (refine .inl ⟨h.2 ?_, rfl⟩; simp_all; done)
    · intro hk
      go_wp2_with fail
      all_goals
        go_ret
        have h := HF.out.2
        refine ⟨?_, below_alloc (Below.refl _ _) _⟩
        first
          | (refine .inr ⟨?_, rfl⟩; intro hh; have := h.1 hh; simp_all; done)
          | (refine .inl ⟨h.2 ?_, rfl⟩; simp_all; done)
    · intro a1 a2 a3 a4 a5
      go_wp2_with fail
      all_goals
        go_ret
        have h := HF.out.2
        refine ⟨?_, below_alloc (Below.refl _ _) _⟩
        first
          | (refine .inr ⟨?_, rfl⟩; intro hh; have := h.1 hh; simp_all; done)
          | (refine .inl ⟨h.2 ?_, rfl⟩; simp_all; done)
  · have hlb : ((len : Int) == 0) = false := beq_eq_false_iff_ne.2 (by omega)
    go_enter Try.func123, Try.ntmps123
    refine kinds (kd := v.kind) ?_ ?_ ?_ ?_ ?_ ?_
    · intro hk
      go_wp2_with fail
      all_goals
        go_ret
        have h := HF.out.2
        refine ⟨?_, below_alloc (Below.refl _ _) _⟩
        first
          | (refine .inr ⟨?_, rfl⟩; intro hh; have := h.1 hh; simp_all; done)
          | (refine .inl ⟨h.2 ?_, rfl⟩; simp_all; done)
    · intro hk
      go_wp2_with fail
      all_goals
        go_ret
        have h := HF.out.2
        refine ⟨?_, below_alloc (Below.refl _ _) _⟩
        first
          | (refine .inr ⟨?_, rfl⟩; intro hh; have := h.1 hh; simp_all; done)
          | (refine .inl ⟨h.2 ?_, rfl⟩; simp_all; done)
    · intro hk
      go_wp2_with fail
      all_goals
        go_ret
        have h := HF.out.2
        refine ⟨?_, below_alloc (Below.refl _ _) _⟩
        first
          | (refine .inr ⟨?_, rfl⟩; intro hh; have := h.1 hh; simp_all; done)
          | (refine .inl ⟨h.2 ?_, rfl⟩; simp_all; done)
    · intro hk
      go_wp2_with fail
      all_goals
        go_ret
        have h := HF.out.2
        refine ⟨?_, below_alloc (Below.refl _ _) _⟩
        first
          | (refine .inr ⟨?_, rfl⟩; intro hh; have := h.1 hh; simp_all; done)
          | (refine .inl ⟨h.2 ?_, rfl⟩; simp_all; done)
    · intro hk
      go_wp2_with fail
      all_goals
        go_ret
        have h := HF.out.2
        refine ⟨?_, below_alloc (Below.refl _ _) _⟩
        first
          | (refine .inr ⟨?_, rfl⟩; intro hh; have := h.1 hh; simp_all; done)
          | (refine .inl ⟨h.2 ?_, rfl⟩; simp_all; done)
    · intro a1 a2 a3 a4 a5
      go_wp2_with fail
      all_goals
        go_ret
        have h := HF.out.2
        refine ⟨?_, below_alloc (Below.refl _ _) _⟩
        first
          | (refine .inr ⟨?_, rfl⟩; intro hh; have := h.1 hh; simp_all; done)
          | (refine .inl ⟨h.2 ?_, rfl⟩; simp_all; done)
end Go.Proofs.Ytdbccemllaehjaa.PK
