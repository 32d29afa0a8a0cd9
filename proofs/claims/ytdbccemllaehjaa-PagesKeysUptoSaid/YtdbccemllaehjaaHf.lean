/- Writer.Real, walked; values, as they lie in memory. -/
import Derived.Test.YtdbccemllaehjaaHe
import Derived.Test.YtdbccemllaehjaaGi
import Derived.Test.YtdbccemllaehjaaPcA
namespace Go.Proofs.Ytdbccemllaehjaa.PK
open Go.RowKit Go.Proofs.YtdbccemllaehjaaKw Go.Proofs.YtdbccemllaehjaaHa Go.Proofs.YtdbccemllaehjaaGa Go.Proofs.Ytdbccemllaehjaa.PG
set_option linter.unusedVariables false
set_option linter.unusedSimpArgs false
/-- The four bytes of a number of 32 bits. -/
def four (k : Nat) : List Nat := [k / 16777216 % 256, k / 65536 % 256, k / 256 % 256, k % 256]
theorem sl_cells (w : World) (l : List Nat) : Sl (w.alloc (.cells (bvs l).toArray 5)) (some ⟨w.heap.size, 0, none⟩) l.length l.length (bvs l) := by
  refine ⟨by rw [bvs_len], .inr ⟨_, _, rfl, by simp, fun j u hu => ?_⟩⟩
  rw [Nat.zero_add]
  simp only [World.cell?, heap_alloc_new]
  simpa using hu
theorem keyR_lt {x : Nat} (hx : x < 4294967296) : keyR x < 4294967296 := by
  unfold keyR
  by_cases h : isNan x
  · rw [if_pos h]; omega
  · rw [if_neg h]
    by_cases h2 : x < 2147483648
    · rw [if_pos h2]; omega
    · rw [if_neg h2]; omega
set_option maxHeartbeats 1000000 in
set_option maxRecDepth 100000 in
theorem real_calls (w : World) (wb : Nat) (l : List Nat) (x : Nat) (hx : x < 4294967296) (h : WS w wb l) (hl : l.length + 4 ≤ 140737488355328) :
    Calls Try.prog 122 #[.pointer (some ⟨wb, 0, none⟩), .float .f32 x] w fun e w' => e = .returned (.tuple #[]) ∧ WS w' wb (l ++ four (keyR x)) ∧ Below wb w w' := by
  have hkc := okey_calls w x hx
  have hk := keyR_lt hx
  generalize keyR x = k at *
  have hI : (k : Int) ≤ 4294967295 := by omega
  have HK := Lib.hid hk
  clear hk hx
  go_enter Try.func122, Try.ntmps122
  go_wp2_with fail
  refine hkc.mono ?_
  rintro e w1 ⟨rfl, rfl⟩
  have hlt := h.lt
  clear hkc
  go_wp2_with fail
  have hcell : (#[.int .u8 ((k : Int) / 16777216), .int .u8 ((k : Int) / 65536 % 256), .int .u8 ((k : Int) / 256 % 256), .int .u8 ((k : Int) % 256)] : Array Value) = (bvs (four k)).toArray := by
    have e1 : (k : Int) / 16777216 = ((k / 16777216 % 256 : Nat) : Int) := by omega
    have e2 : (k : Int) / 65536 % 256 = ((k / 65536 % 256 : Nat) : Int) := by omega
    have e3 : (k : Int) / 256 % 256 = ((k / 256 % 256 : Nat) : Int) := by omega
    have e4 : (k : Int) % 256 = ((k % 256 : Nat) : Int) := by omega
    rw [e1, e2, e3, e4]
    rfl
  rw [hcell]
  have hb0 := below_alloc (Below.refl w1.heap.size w1) (.cells (bvs (four k)).toArray 5)
  refine (put_calls _ wb l (four k) _ 4 4 (h.keep hb0) (sl_cells w1 (four k)) (by simpa [four] using hl)).mono ?_
  rintro e w2 ⟨rfl, h2, hb2⟩
  go_wp2_with fail
  go_end0
  exact ⟨rfl, h2, (hb0.mono (by omega)).trans hb2⟩
/-- A value: its kind, its fields. -/
structure VV where
  kind : Int
  b : Bool
  n : Int
  x : Nat
  t : ByteArray
  A : Option Addr
  c : Nat
  ss : List ByteArray
def VV.cells (v : VV) : List Value := [.int .i64 v.kind, .bool v.b, .int .i64 v.n, .float .f32 v.x, .string v.t, .slice v.A v.ss.length v.c]
def VV.agg (v : VV) : Value := .agg #[.int .i64 v.kind, .bool v.b, .int .i64 v.n, .float .f32 v.x, .string v.t, .slice v.A v.ss.length v.c]
/-- The value is of its types, and its texts can be read. -/
structure VOk (w : World) (v : VV) : Prop where
  kind : -9223372036854775808 ≤ v.kind ∧ v.kind ≤ 9223372036854775807
  n : -9223372036854775808 ≤ v.n ∧ v.n ≤ 9223372036854775807
  x : v.x < 4294967296
  t : v.t.size ≤ maxLen
  rd : Rd w v.A (PC.strs v.ss)
  c : v.ss.length ≤ v.c ∧ v.c ≤ 9223372036854775807
  len : v.ss.length * 16 ≤ 140737488351232
  each : ∀ s ∈ v.ss, s.size ≤ maxLen
theorem VOk.keep {w w' : World} {v : VV} (h : VOk w v) (hb : Below w.heap.size w w') : VOk w' v := ⟨h.kind, h.n, h.x, h.t, h.rd.keep hb, h.c, h.len, h.each⟩
def zr (x : Nat) : Prop := x = 0 ∨ x = 2147483648
instance (x : Nat) : Decidable (zr x) := inferInstanceAs (Decidable (x = 0 ∨ x = 2147483648))
theorem zr_is {x : Nat} (hx : x < 4294967296) : (FloatKind.f32.format.order x 0 != some Ordering.eq) = !decide (zr x) := by
  by_cases hn : isNan x
  · obtain ⟨s, t, e⟩ := read_nan hn
    have h1 : FloatKind.f32.format.order x 0 = none := by
      show Ieee.single.order x 0 = none
      unfold Ieee.Format.order
      rw [e]
      rfl
    have h2 : ¬ zr x := by unfold zr; unfold isNan at hn; omega
    rw [h1, decide_eq_false h2]
    rfl
  · rw [ord0_is hx hn]
    unfold ord0
    by_cases h0 : x = 0
    · subst h0; rfl
    · by_cases h1 : x = 2147483648
      · subst h1; rfl
      · rw [if_neg h0, if_neg h1, decide_eq_false (show ¬ zr x by unfold zr; omega)]
        by_cases h2 : x < 2147483648
        · rw [if_pos h2]; rfl
        · rw [if_neg h2]; rfl
/-- The value may be. -/
def okV (v : VV) : Prop := v.t.size ≤ 256 ∧ v.ss.length ≤ 32 ∧ (∀ s ∈ v.ss, s.size ≤ 256) ∧ 1 ≤ v.kind ∧ v.kind ≤ 5 ∧ (v.kind = 1 ∨ v.b = false) ∧ (v.kind = 2 ∨ v.n = 0) ∧ (v.kind = 3 ∨ zr v.x) ∧ (v.kind = 4 ∨ v.t.size = 0) ∧ (v.kind = 5 ∨ v.ss.length = 0)
end Go.Proofs.Ytdbccemllaehjaa.PK
