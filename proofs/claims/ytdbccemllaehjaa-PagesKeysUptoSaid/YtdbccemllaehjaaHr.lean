/- SameArgs, KeptArgs, walked. -/
import Derived.Test.YtdbccemllaehjaaHq
namespace Go.Proofs.Ytdbccemllaehjaa.PK
open Go.RowKit Go.Proofs.YtdbccemllaehjaaKw Go.Proofs.YtdbccemllaehjaaHa Go.Proofs.YtdbccemllaehjaaGa Go.Proofs.Ytdbccemllaehjaa.PG
set_option linter.unusedVariables false
set_option linter.unusedSimpArgs false
/-- y is x with a list of texts of its own. -/
def Cp (x y : ByteArray × VV) : Prop := ∃ A' c', y = (x.1, ⟨x.2.kind, x.2.b, x.2.n, x.2.x, x.2.t, A', c', x.2.ss⟩)
/-- What can be read of an argument. -/
def GRd (w : World) (x : ByteArray × VV) : Prop := x.2.x < 4294967296 ∧ Rd w x.2.A (PC.strs x.2.ss) ∧ x.2.ss.length ≤ 140737488351232
theorem GRd.keep {w w' : World} {x : ByteArray × VV} (h : GRd w x) (hb : Below w.heap.size w w') : GRd w' x := ⟨h.1, h.2.1.keep hb, h.2.2⟩
set_option maxHeartbeats 8000000 in
set_option maxRecDepth 100000 in
theorem sameargs_calls (w : World) (A1 A2 : Option Addr) (c1 c2 : Nat) (xs ys : List (ByteArray × VV)) (h1 : GsAt w A1 ys) (h2 : GsAt w A2 xs) (hl : ys.length = xs.length) (hcp : ∀ (k : Nat) x y, xs[k]? = some x → ys[k]? = some y → Cp x y) (hx : ∀ x ∈ xs, GRd w x) (hy : ∀ y ∈ ys, GRd w y) (hlen : xs.length ≤ 1048576) :
    Calls Try.prog 109 #[.slice A1 xs.length c1, .slice A2 xs.length c2] w fun e w' => e = .returned (.bool true) ∧ Below w.heap.size w w' := by
  by_cases h0 : xs.length = 0
  · rw [h0]
    go_enter Try.func109, Try.ntmps109
    go_wp2_with fail
    go_loopw [5] (fun i wr => i = .int .i64 0 ∧ wr = w) (fun _ _ => 0)
    case atStart => exact ⟨rfl, rfl⟩
    case round =>
      obtain ⟨rfl, rfl⟩ := hrel
      go_wp2_with fail
      go_ret
      exact ⟨rfl, Below.refl _ _⟩
  · rcases h1 with h1 | ⟨b1, off1, rfl, hlt1, hc1⟩
    · rw [h1] at hl; simp at hl; omega
    rcases h2 with h2 | ⟨b2, off2, rfl, hlt2, hc2⟩
    · rw [h2] at h0; simp at h0
    have HH := Lib.hid (And.intro hc1 (And.intro hc2 (And.intro hl (And.intro hcp (And.intro hx hy)))))
    clear hc1 hc2 hl hcp hx hy h0
    go_enter Try.func109, Try.ntmps109
    go_wp2_with fail
    go_loopw [5] (fun i wr => ∃ k : Nat, k ≤ xs.length ∧ i = .int .i64 k ∧ Below w.heap.size w wr) (fun i _ => xs.length - (intOf i).toNat)
    case atStart => exact ⟨0, Nat.zero_le _, rfl, Below.refl _ _⟩
    case round =>
      obtain ⟨k, hk, rfl, hb⟩ := hrel
      by_cases hlt : k < xs.length
      · obtain ⟨x, hxk⟩ : ∃ x, xs[k]? = some x := ⟨_, List.getElem?_eq_getElem hlt⟩
        obtain ⟨y, hyk⟩ : ∃ y, ys[k]? = some y := ⟨_, List.getElem?_eq_getElem (by rw [HH.out.2.2.1]; exact hlt)⟩
        have hgx := (HH.out.2.1 k x hxk).keep hb hlt2
        have hgy := (HH.out.1 k y hyk).keep hb hlt1
        have hrx := (HH.out.2.2.2.2.1 x (List.mem_of_getElem? hxk)).keep hb
        have hry := (HH.out.2.2.2.2.2 y (List.mem_of_getElem? hyk)).keep hb
        obtain ⟨A', c', rfl⟩ := HH.out.2.2.2.1 k x y hxk hyk
        have p0 := cellB hgy.nm
        have p1 := cellB (p := ⟨b1, off1 + k * 7 + 1, none⟩) hgy.v.c0
        have p2 := cellB (p := ⟨b1, off1 + k * 7 + 2, none⟩) hgy.v.c1
        have p3 := cellB (p := ⟨b1, off1 + k * 7 + 3, none⟩) hgy.v.c2
        have p4 := cellB (p := ⟨b1, off1 + k * 7 + 4, none⟩) hgy.v.c3
        have p5 := cellB (p := ⟨b1, off1 + k * 7 + 5, none⟩) hgy.v.c4
        have p6 := cellB (p := ⟨b1, off1 + k * 7 + 6, none⟩) hgy.v.c5
        have q0 := cellB hgx.nm
        have q1 := cellB (p := ⟨b2, off2 + k * 7 + 1, none⟩) hgx.v.c0
        have q2 := cellB (p := ⟨b2, off2 + k * 7 + 2, none⟩) hgx.v.c1
        have q3 := cellB (p := ⟨b2, off2 + k * 7 + 3, none⟩) hgx.v.c2
        have q4 := cellB (p := ⟨b2, off2 + k * 7 + 4, none⟩) hgx.v.c3
        have q5 := cellB (p := ⟨b2, off2 + k * 7 + 5, none⟩) hgx.v.c4
        have q6 := cellB (p := ⟨b2, off2 + k * 7 + 6, none⟩) hgx.v.c5
        have HR := Lib.hid (And.intro hrx hry)
        clear hgx hgy hrx hry hxk hyk
        go_upto_region 6 with fail
        refine RD.region (S := fun w' => Below wr.heap.size wr w') (by kernel_rfl) (by kernel_rfl) (Below.refl _ _).drew ?_
        repeat (first
          | (refine RD.walk_skip rfl ?_; simp only [Act.put, List.setIfInBounds_toArray, List.set_cons_succ, List.set_cons_zero])
          | (refine RD.walk_op (v := ?_) rfl ?_ ?_; rotate_left; (intro w hS; go_simp; done); simp only [Act.put, List.setIfInBounds_toArray, List.set_cons_succ, List.set_cons_zero])
          | (refine RD.walk_op (v := ?_) rfl ?_ ?_; rotate_left; (intro w hS; go_simp; rfl); simp only [Act.put, List.setIfInBounds_toArray, List.set_cons_succ, List.set_cons_zero])
          | (refine RD.rd_at_call (v := .bool true) (f := 127) (args := #[.agg #[.string x.1, .int .i64 x.2.kind, .bool x.2.b, .int .i64 x.2.n, .float .f32 x.2.x, .string x.2.t, .slice A' x.2.ss.length c'], .agg #[.string x.1, .int .i64 x.2.kind, .bool x.2.b, .int .i64 x.2.n, .float .f32 x.2.x, .string x.2.t, .slice x.2.A x.2.ss.length x.2.c]]) rfl (fun w hS => by go_simp) (fun w hS => (samearg_calls w x.1 x.2.kind x.2.b x.2.n x.2.x x.2.t A' x.2.A c' x.2.c x.2.ss HR.out.1.1 (HR.out.2.2.1.keep hS) (HR.out.1.2.1.keep hS) HR.out.1.2.2).mono (by rintro e w1 ⟨rfl, hb1⟩; exact ⟨rfl, below_then hS hS.size hb1⟩)) ?_; simp only [Act.put, List.setIfInBounds_toArray, List.set_cons_succ, List.set_cons_zero]))
        refine RD.walk_nil ?_
        intro w2 hb2
        have hb3 := below_then hb hb.size hb2
        clear p0 p1 p2 p3 p4 p5 p6 q0 q1 q2 q3 q4 q5 q6 hb2
        go_wp2_with fail
        go_roundw
        case rel => exact ⟨k + 1, by omega, by go_num, hb3⟩
        case measure => simp [intOf]; omega
      · obtain rfl : k = xs.length := by omega
        go_wp2_with fail
        go_ret
        exact ⟨rfl, hb⟩
end Go.Proofs.Ytdbccemllaehjaa.PK
