/- KeptArgs, walked. -/
import Derived.Test.YtdbccemllaehjaaHr
namespace Go.Proofs.Ytdbccemllaehjaa.PK
open Go.RowKit Go.Proofs.YtdbccemllaehjaaKw Go.Proofs.YtdbccemllaehjaaHa Go.Proofs.YtdbccemllaehjaaGa Go.Proofs.Ytdbccemllaehjaa.PG
set_option linter.unusedVariables false
set_option linter.unusedSimpArgs false
/-- The zero value of an argument. -/
def zeroV : VV := ⟨0, false, 0, 0, ⟨#[]⟩, none, 0, []⟩
/-- The arguments that mark a loan. -/
def gmarks (k : Nat) : List (ByteArray × VV) := (List.range k).map fun (i : Nat) => (PC.mkT (i : Int), zeroV)
theorem gmarks_len (k : Nat) : (gmarks k).length = k := by simp [gmarks]
theorem gmarks_succ (k : Nat) : gmarks (k + 1) = gmarks k ++ [(PC.mkT k, zeroV)] := by simp [gmarks, List.range_succ]
theorem gmarks_at (ys : List (ByteArray × VV)) (n k : Nat) (hl : ys.length = n) (h : n ≤ k) (h2 : k < n + 24) : (ys ++ gmarks 24)[k]? = some (PC.mkT ((k : Int) - n), zeroV) := by
  rw [List.getElem?_append_right (by omega), gmarks, List.getElem?_map, List.getElem?_range (by omega)]
  simp only [Option.map_some]
  congr 3
  omega
/-- What can be read of an argument that was lent. -/
def LRd (w : World) (y : ByteArray × VV) : Prop := Rd w y.2.A (PC.strs (y.2.ss ++ PC.marks 24)) ∧ y.2.ss.length + 24 ≤ y.2.c ∧ y.2.c ≤ 9223372036854775807
theorem LRd.keep {w w' : World} {x : ByteArray × VV} (h : LRd w x) (hb : Below w.heap.size w w') : LRd w' x := ⟨h.1.keep hb, h.2⟩
set_option maxHeartbeats 8000000 in
set_option maxRecDepth 100000 in
theorem keptargs_calls (w : World) (A1 A2 : Option Addr) (c1 c2 : Nat) (xs ys : List (ByteArray × VV)) (h1 : GsAt w A1 (ys ++ gmarks 24)) (h2 : GsAt w A2 xs) (hl : ys.length = xs.length) (hcp : ∀ (k : Nat) x y, xs[k]? = some x → ys[k]? = some y → Cp x y) (hx : ∀ x ∈ xs, GRd w x) (hy : ∀ y ∈ ys, LRd w y) (hlen : xs.length ≤ 1048576) (hc : xs.length + 24 ≤ c1) (hcm : c1 ≤ 9223372036854775807) :
    Calls Try.prog 83 #[.slice A1 xs.length c1, .slice A2 xs.length c2] w fun e w' => e = .returned (.bool true) ∧ Below w.heap.size w w' := by
  have hne : ys ++ gmarks 24 ≠ [] := by
    intro h
    have := congrArg List.length h
    simp [gmarks_len] at this
  rcases h1 with h1 | ⟨b1, off1, rfl, hlt1, hc1⟩
  · exact absurd h1 hne
  have HH := Lib.hid (And.intro hc1 (And.intro hl (And.intro hcp (And.intro hx (And.intro hy h2)))))
  clear hc1 hl hcp hx hy h2 hne
  go_enter Try.func83, Try.ntmps83
  go_wp2_with fail
  go_loopw [6] (fun i wr => ∃ k : Nat, k ≤ xs.length + 24 ∧ i = .int .i64 k ∧ Below w.heap.size w wr) (fun i _ => xs.length + 24 - (intOf i).toNat)
  case atStart => exact ⟨0, Nat.zero_le _, rfl, Below.refl _ _⟩
  case round =>
    obtain ⟨k, hk, rfl, hb⟩ := hrel
    by_cases hlt : k < xs.length + 24
    · by_cases hlx : k < xs.length
      · obtain ⟨x, hxk⟩ : ∃ x, xs[k]? = some x := ⟨_, List.getElem?_eq_getElem hlx⟩
        obtain ⟨y, hyk⟩ : ∃ y, ys[k]? = some y := ⟨_, List.getElem?_eq_getElem (by rw [HH.out.2.1]; exact hlx)⟩
        rcases HH.out.2.2.2.2.2 with h0 | ⟨b2, off2, hA2, hlt2, hc2⟩
        · rw [h0] at hlx; simp at hlx
        have hgx := (hc2 k x hxk).keep hb hlt2
        have hgy := (HH.out.1 k y (by rw [List.getElem?_append_left (by rw [HH.out.2.1]; exact hlx)]; exact hyk)).keep hb hlt1
        have hrx := (HH.out.2.2.2.1 x (List.mem_of_getElem? hxk)).keep hb
        have hry := (HH.out.2.2.2.2.1 y (List.mem_of_getElem? hyk)).keep hb
        obtain ⟨A', c', rfl⟩ := HH.out.2.2.1 k x y hxk hyk
        subst hA2
        have p0 := cellB hgy.nm
        have p1 := cellB (p := ⟨b1, off1 + k * 7 + 1, none⟩) hgy.v.c0
        have p2 := cellB (p := ⟨b1, off1 + k * 7 + 2, none⟩) hgy.v.c1
        have p3 := cellB (p := ⟨b1, off1 + k * 7 + 3, none⟩) hgy.v.c2
        have p4 := cellB (p := ⟨b1, off1 + k * 7 + 4, none⟩) hgy.v.c3
        have p5 := cellB (p := ⟨b1, off1 + k * 7 + 5, none⟩) hgy.v.c4
        have p6 := cellB (p := ⟨b1, off1 + k * 7 + 6, none⟩) hgy.v.c5
        have q0 := cellB hgx.nm
        have q1 := cellB (p := ⟨b2, off2 + k * 7 + 1, none⟩) hgx.v.c0
        have q2 := cellB (p := ⟨b2, off2 + k * 7 + 2, none⟩) hgx.v.c1
        have q3 := cellB (p := ⟨b2, off2 + k * 7 + 3, none⟩) hgx.v.c2
        have q4 := cellB (p := ⟨b2, off2 + k * 7 + 4, none⟩) hgx.v.c3
        have q5 := cellB (p := ⟨b2, off2 + k * 7 + 5, none⟩) hgx.v.c4
        have q6 := cellB (p := ⟨b2, off2 + k * 7 + 6, none⟩) hgx.v.c5
        have HR := Lib.hid (And.intro hrx hry)
        have hd1 : decide (k < xs.length) = true := by simp; omega
        have hd2 : decide (xs.length ≤ k) = false := by simp; omega
        clear hgx hgy hrx hry hxk hyk hc2
        go_upto_region 7 with fail
        refine RD.region (S := fun w' => Below wr.heap.size wr w') (by kernel_rfl) (by kernel_rfl) (Below.refl _ _).drew ?_
        repeat (first
          | (refine RD.walk_skip rfl ?_; simp only [Act.put, List.setIfInBounds_toArray, List.set_cons_succ, List.set_cons_zero])
          | (refine RD.walk_op (v := ?_) rfl ?_ ?_; rotate_left; (intro w hS; go_simp; done); simp only [Act.put, List.setIfInBounds_toArray, List.set_cons_succ, List.set_cons_zero])
          | (refine RD.walk_op (v := ?_) rfl ?_ ?_; rotate_left; (intro w hS; go_simp; rfl); simp only [Act.put, List.setIfInBounds_toArray, List.set_cons_succ, List.set_cons_zero])
          | (refine RD.rd_at_call (v := .bool true) (f := 110) (args := #[.agg #[.string x.1, .int .i64 x.2.kind, .bool x.2.b, .int .i64 x.2.n, .float .f32 x.2.x, .string x.2.t, .slice A' x.2.ss.length c'], .agg #[.string x.1, .int .i64 x.2.kind, .bool x.2.b, .int .i64 x.2.n, .float .f32 x.2.x, .string x.2.t, .slice x.2.A x.2.ss.length x.2.c]]) rfl (fun w hS => by go_simp) (fun w hS => (keptarg_calls w x.1 x.2.kind x.2.b x.2.n x.2.x x.2.t A' x.2.A c' x.2.c x.2.ss HR.out.1.1 (HR.out.2.1.keep hS) (HR.out.1.2.1.keep hS) HR.out.2.2.1 HR.out.2.2.2 (by have := HR.out.1.2.2; omega)).mono (by rintro e w1 ⟨rfl, hb1⟩; exact ⟨rfl, below_then hS hS.size hb1⟩)) ?_; simp only [Act.put, List.setIfInBounds_toArray, List.set_cons_succ, List.set_cons_zero]))
        refine RD.walk_nil ?_
        intro w2 hb2
        have hb3 := below_then hb hb.size hb2
        clear p0 p1 p2 p3 p4 p5 p6 q0 q1 q2 q3 q4 q5 q6 hb2
        go_wp2_with fail
        go_roundw
        case rel => exact ⟨k + 1, by omega, by go_num, hb3⟩
        case measure => simp [intOf]; omega
      · have hgy := (HH.out.1 k _ (gmarks_at ys xs.length k HH.out.2.1 (by omega) hlt)).keep hb hlt1
        have p0 := cellB hgy.nm
        have hd1 : decide (k < xs.length) = false := by simp; omega
        have hd2 : xs.length ≤ k := by omega
        have hw : IntKind.i64.wrap ((k : Int) - xs.length) = (k : Int) - xs.length := IntWalk.i64_in _ (by omega)
        clear hgy
        go_upto_region 7 with fail
        refine RD.region (S := fun w' => Below wr.heap.size wr w') (by kernel_rfl) (by kernel_rfl) (Below.refl _ _).drew ?_
        repeat (first
          | (refine RD.walk_skip rfl ?_; simp only [Act.put, List.setIfInBounds_toArray, List.set_cons_succ, List.set_cons_zero])
          | (refine RD.walk_op (v := ?_) rfl ?_ ?_; rotate_left; (intro w hS; go_simp; done); simp only [Act.put, List.setIfInBounds_toArray, List.set_cons_succ, List.set_cons_zero])
          | (refine RD.walk_op (v := ?_) rfl ?_ ?_; rotate_left; (intro w hS; go_simp; rfl); simp only [Act.put, List.setIfInBounds_toArray, List.set_cons_succ, List.set_cons_zero])
          | (refine RD.rd_at_call (v := .string (PC.mkT ((k : Int) - xs.length))) (f := 51) (args := #[.int .i64 1, .int .i64 ((k : Int) - xs.length)]) rfl (fun w hS => by go_simp) (fun w hS => (PC.mark_calls _ (by omega) (by omega) _).mono (by rintro e w1 ⟨rfl, hb1⟩; exact ⟨rfl, below_then hS hS.size hb1⟩)) ?_; simp only [Act.put, List.setIfInBounds_toArray, List.set_cons_succ, List.set_cons_zero]))
        refine RD.walk_nil ?_
        intro w2 hb2
        have hb3 := below_then hb hb.size hb2
        clear p0 hb2
        go_wp2_with fail
        go_roundw
        case rel => exact ⟨k + 1, by omega, by go_num, hb3⟩
        case measure => simp [intOf]; omega
    · obtain rfl : k = xs.length + 24 := by omega
      go_wp2_with fail
      go_ret
      exact ⟨rfl, hb⟩
end Go.Proofs.Ytdbccemllaehjaa.PK
