/- The Reader of octets, walked on: Int, Text, Read. -/
import Derived.Test.YtdbccemllaehjaaGn
namespace Go.Proofs.Ytdbccemllaehjaa.PG
open Go.RowKit Go.Proofs.YtdbccemllaehjaaKw Go.Proofs.YtdbccemllaehjaaGa
set_option linter.unusedVariables false
set_option linter.unusedSimpArgs false
def IOk (l : List Nat) (er : Int) (r : Int) (l' : List Nat) (er' : Int) : Prop := er = 0 → ∀ (y : Nat) rest, y ≤ 4611686018427387904 → l = uintB (2 * y) ++ rest → r = y ∧ l' = rest ∧ er' = 0
theorem xor_range (a b : Int) : -9223372036854775808 ≤ bits .xor .i64 a b ∧ bits .xor .i64 a b ≤ 9223372036854775807 := by
  have h : ∃ z : Int, bits .xor .i64 a b = IntKind.i64.wrap z := ⟨_, rfl⟩
  obtain ⟨z, h⟩ := h
  rw [h, IntKind.wrap_i64]
  omega
theorem xor_even (y : Nat) (hy : y ≤ 4611686018427387904) : bits .xor .i64 (((2 * y : Nat) : Int) / 2) (wrap64 (-wrap64 (bits .and .u64 ((2 * y : Nat) : Int) 1))) = (y : Int) := by
  have h1 := bits_mask .u64 64 (by decide) wraps_u64 1 (by decide) ((2 * y : Nat) : Int) (by omega) (by omega)
  have e1 : ((2 : Int) ^ 1 - 1) = 1 := by decide
  have e2 : ((2 * y : Nat) : Int) % 2 ^ 1 = 0 := by omega
  rw [e1, e2] at h1
  rw [h1]
  have e3 : wrap64 (-wrap64 0) = 0 := by simp [wrap64]
  have e4 : ((2 * y : Nat) : Int) / 2 = (y : Int) := by omega
  rw [e3, e4]
  have hn : (BitVec.ofNat 64 y ^^^ BitVec.ofNat 64 0).toNat = y := by
    rw [BitVec.toNat_xor, BitVec.toNat_ofNat, BitVec.toNat_ofNat, Nat.zero_mod, Nat.xor_zero]
    exact Nat.mod_eq_of_lt (by omega)
  show IntKind.i64.wrap (((BitVec.ofInt 64 (y : Int) ^^^ BitVec.ofInt 64 ((0 : Nat) : Int)).toNat : Nat) : Int) = _
  rw [BitVec.ofInt_natCast, BitVec.ofInt_natCast, hn, IntKind.wrap_i64]
  omega
set_option maxHeartbeats 4000000 in
set_option maxRecDepth 100000 in
theorem rdint_calls (w : World) (rb : Nat) (l : List Nat) (er : Int) (h : RS w rb l er) (hl : l.length ≤ 140737488355328) :
    Calls Try.prog 98 #[.pointer (some ⟨rb, 0, none⟩)] w fun e w' => ∃ r : Int, e = .returned (.int .i64 r) ∧ (-9223372036854775808 ≤ r ∧ r ≤ 9223372036854775807) ∧ RdAns rb w l w' (IOk l er r) := by
  go_enter Try.func98, Try.ntmps98
  go_wp2_with fail
  refine (rduint_calls w rb l er h hl).mono ?_
  rintro e w1 ⟨x, rfl, hx, hA⟩
  have H := Lib.hid hA
  clear hA
  go_wp2_with fail
  go_ret
  refine ⟨_, rfl, xor_range _ _, ?_⟩
  obtain ⟨l', er', h1, h2, h3, h4⟩ := H.out.out
  refine ⟨l', er', h1, h2, fun he y rest hy e => ?_, h4⟩
  obtain ⟨m1, m2, m3⟩ := h3 he (2 * y) rest (by omega) e
  subst m1
  exact ⟨xor_even y hy, m2, m3⟩
set_option maxHeartbeats 4000000 in
set_option maxRecDepth 100000 in
theorem read_calls (w : World) (l : List Nat) (A : Option Addr) (c : Nat) (hs : Sl w A l.length c (bvs l)) (hd : Dig 256 l) (hl : l.length ≤ 140737488355328) :
    Calls Try.prog 96 #[.slice A l.length c] w fun e w' => ∃ rb, e = .returned (.pointer (some ⟨rb, 0, none⟩)) ∧ w.heap.size ≤ rb ∧ RS w' rb l 0 ∧ Below w.heap.size w w' := by
  have hnil : w.ownsRow w.heap.size 5 1 (.slice none 0 0) 0 [] := World.ownsRow_nil _ _ _ _
  go_enter Try.func96, Try.ntmps96
  go_wp2_with (at_builtin; go_loud (refine app_sl hnil hs (.const (.slice none 0 0)) (.tmp 3) 141 _ _ Try.underlying141 info5 (by omega) (by decide) (by omega) rfl rfl rfl rfl rfl (bvs_one l) ?_); intro v1 w1 ho1 hg hat; obtain ⟨A1, c1, rfl, hcl, hcm⟩ := own_form ho1; have hk := Lib.hid (And.intro ho1 (And.intro hg (And.intro hcl hcm))); clear ho1 hg hat hcl hcm)
  have hnew := heap_alloc_new w1 (.cells #[.slice A1 l.length c1, .int .i64 0] 189)
  have hal := below_alloc (Below.refl w1.heap.size w1) (.cells #[.slice A1 l.length c1, .int .i64 0] 189)
  obtain ⟨ho1, hg, hcl, hcm⟩ := hk.out
  rw [Nat.zero_add, List.nil_append] at ho1
  have hB : Below w.heap.size w w1 := ⟨hg.os, hg.tape, hg.output, hg.size, fun k hk => hg.block k hk (by simp [Value.ownBlock])⟩
  have hform : (A1 = none ∧ l = [] ∧ c1 = 0) ∨ ∃ b off, A1 = some ⟨b, off, none⟩ ∧ b < w1.heap.size := by
    obtain ⟨A2, c2, e, hm, hx⟩ := own_sl ho1
    cases e
    rcases hx with ⟨h1, h2, h3⟩ | ⟨b, off, h1, h2, _⟩
    · exact .inl ⟨h1, List.eq_nil_of_length_eq_zero h2, h3⟩
    · exact .inr ⟨b, off, h1, h2⟩
  have hR : RS (w1.alloc (.cells #[.slice A1 l.length c1, .int .i64 0] 189)) w1.heap.size l 0 :=
    ⟨⟨A1, c1, by simp only [World.cell?, hnew]; rfl, by omega, hcm, (own_rd ho1).keep hal, hform⟩, by simp only [World.cell?, hnew]; rfl, by unfold World.frozen?; simp only [hnew]; rfl, by unfold World.frozen?; simp only [hnew]; rfl, hd, by omega⟩
  go_ret
  exact ⟨_, rfl, hg.size, hR, below_then hB hB.size hal⟩
end Go.Proofs.Ytdbccemllaehjaa.PG
