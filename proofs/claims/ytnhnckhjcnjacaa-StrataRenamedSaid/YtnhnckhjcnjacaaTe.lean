/- Strata: the walk of awake. -/
import Derived.Test.YtnhnckhjcnjacaaTd
import Derived.Test.YtnhnckhjcnjacaaTf
namespace Go.Proofs.Ytnhnckhjcnjacaa.ST
open Go.RowKit Go.Proofs.YtnhnckhjcnjacaaKw Go.Proofs.YtnhnckhjcnjacaaSg Go.Proofs.YtnhnckhjcnjacaaSw
set_option linter.unusedVariables false
set_option linter.unusedSimpArgs false
/-- A block that is new is read. -/
theorem rd_new (w : World) (xs : List Value) (t : TypeId) : Rd (w.alloc (.cells xs.toArray t)) (some ⟨w.heap.size, 0, none⟩) xs := by
  refine .inr ⟨w.heap.size, 0, rfl, fun j hj => ?_⟩
  have hnew := heap_alloc_new w (.cells xs.toArray t)
  simp only [World.cell?, hnew]
  simp
/-- An answer: a list of integers, and no error. -/
def Ans (w : World) (l : List Int) (e : Ending) (w' : World) : Prop :=
  (∃ A c, e = .returned (.tuple #[.slice A l.length c, .int .i64 0]) ∧ Rd w' A (ivs l)) ∧ Below w.heap.size w w'
theorem rd_iarr {w : World} {b n : Nat} {f : Nat → Int} (h : IArr w b n f) : Rd w (some ⟨b, 0, none⟩) (ivs ((List.range n).map f)) := by
  have := own_rd h
  rw [show ivs ((List.range n).map f) = (List.range n).map fun i => .int .i64 (f i) by simp [ivs]]
  exact this
theorem avs4 : avs l4 = [.int .i64 0, .int .i64 1, .bool false, .int .i64 1, .int .i64 2, .bool false, .int .i64 2, .int .i64 1, .bool false, .int .i64 3, .int .i64 1, .bool true] := rfl
theorem parts_ask (A : Option Addr) (c : Nat) (w : World) (hr : Rd w A (avs l4)) : Calls Try.prog 14 #[.int .i64 4, .slice A 4 c] w (Ans w [1, 0, 0, 2]) := by
  have h := partsF_calls A c 4 3 l4 H4 _ w hr (by decide) (by decide) (by decide +kernel) plan4
  refine h.mono ?_
  rintro e w1 ⟨⟨b1, rfl, hl1, hA1⟩, hB1⟩
  have hrd := rd_iarr hA1
  rw [parts4] at hrd
  exact ⟨⟨_, _, rfl, hrd⟩, hB1⟩
theorem strata_ask (A : Option Addr) (c : Nat) (w : World) (hr : Rd w A (avs l4)) : Calls Try.prog 18 #[.int .i64 4, .slice A 4 c] w (Ans w [0, 0, 0, 1]) := by
  have h := strataF_calls A c 4 3 3 l4 H4 _ _ Q4 _ w hr (by decide) (by decide) (by decide +kernel) plan4 rfl rfl (by rw [ring4]; decide) (by rw [order4]; rfl) (by decide) num4
  refine h.mono ?_
  rintro e w1 ⟨⟨b1, rfl, hl1, hA1⟩, hB1⟩
  have hrd := rd_iarr hA1
  rw [level4] at hrd
  exact ⟨⟨_, _, rfl, hrd⟩, hB1⟩
theorem reach_ask (A B : Option Addr) (c d : Nat) (w : World) (hr : Rd w A (avs l4)) (hf : Rd w B (ivs [0])) : Calls Try.prog 23 #[.int .i64 4, .slice A 4 c, .slice B 1 d] w (Ans w [0, 1, 2]) := by
  have h := reachF_calls A B c 4 d l4 [0] w hr (by decide) (by decide) (by decide +kernel) hf (by decide)
  refine h.mono ?_
  rintro e w1 ⟨hB1, hp⟩
  rw [if_neg (by decide +kernel)] at hp
  obtain ⟨v, on, rfl, ho, hon⟩ := hp
  rw [reach4 on hon, nvs_ivs] at ho
  obtain ⟨A2, c2, rfl, _, _⟩ := own_form ho
  exact ⟨⟨_, _, rfl, own_rd ho⟩, hB1⟩
theorem ring_ask (A : Option Addr) (c : Nat) (w : World) (hr : Rd w A (avs l2)) : Calls Try.prog 19 #[.int .i64 2, .slice A 1 c] w (Ans w [1]) := by
  have h := ringF_calls A c 2 2 l2 H2 _ _ _ w hr (by decide) (by decide) (by decide +kernel) plan2 rfl rfl
  refine h.mono ?_
  rintro e w1 ⟨⟨v, rfl, ho⟩, hB1⟩
  rw [ring2, nvs_ivs] at ho
  obtain ⟨A2, c2, rfl, _, _⟩ := own_form ho
  exact ⟨⟨_, _, rfl, own_rd ho⟩, hB1⟩
set_option maxHeartbeats 4000000 in
set_option maxRecDepth 100000 in
theorem awake_calls (w : World) : Calls Try.prog 12 #[] w fun e w' => e = .returned (.bool true) ∧ Below w.heap.size w w' := by
  go_enter Try.func12, Try.ntmps12
  go_upto_region 2 with fail
  have hrd : Rd (w.alloc (.cells #[.int .i64 0, .int .i64 1, .bool false, .int .i64 1, .int .i64 2, .bool false, .int .i64 2, .int .i64 1, .bool false, .int .i64 3, .int .i64 1, .bool true] 36)) (some ⟨w.heap.size, 0, none⟩) (avs l4) := rd_new w (avs l4) 36
  have hB0 := below_alloc (Below.refl w.heap.size w) (.cells #[.int .i64 0, .int .i64 1, .bool false, .int .i64 1, .int .i64 2, .bool false, .int .i64 2, .int .i64 1, .bool false, .int .i64 3, .int .i64 1, .bool true] 36)
  generalize w.alloc (.cells #[.int .i64 0, .int .i64 1, .bool false, .int .i64 1, .int .i64 2, .bool false, .int .i64 2, .int .i64 1, .bool false, .int .i64 3, .int .i64 1, .bool true] 36) = W at *
  have H1 := Lib.hid (And.intro hrd hB0)
  clear hrd hB0
  go_wp2_with fail
  refine (parts_ask _ 4 _ H1.out.1).mono ?_
  rintro e w1 ⟨⟨A1, c1, rfl, hA1⟩, hB1⟩
  have H2 := Lib.hid (And.intro (H1.out.1.keep hB1) (And.intro hA1 (below_then H1.out.2 H1.out.2.size hB1)))
  clear hA1 hB1 H1
  go_wp2_with fail
  refine (strata_ask _ 4 _ H2.out.1).mono ?_
  rintro e w2 ⟨⟨A2, c2, rfl, hA2⟩, hB2⟩
  have H3 := Lib.hid (And.intro (H2.out.1.keep hB2) (And.intro (H2.out.2.1.keep hB2) (And.intro hA2 (below_then H2.out.2.2 H2.out.2.2.size hB2))))
  clear hA2 hB2 H2
  go_wp2_with fail
  refine (reach_ask _ _ 4 1 _ (H3.out.1.keep (below_alloc (Below.refl _ _) _)) (rd_new w2 (ivs [0]) 3)).mono ?_
  rintro e w3 ⟨⟨A3, c3, rfl, hA3⟩, hB3⟩
  have hB := below_alloc (Below.refl w2.heap.size w2) (.cells #[.int .i64 0] 3)
  have hB3' := below_then hB hB.size hB3
  have H4 := Lib.hid (And.intro (H3.out.2.1.keep hB3') (And.intro (H3.out.2.2.1.keep hB3') (And.intro hA3 (below_then H3.out.2.2.2 H3.out.2.2.2.size hB3'))))
  clear hA3 hB3 hB3' H3 hB
  go_wp2_with fail
  refine (ring_ask _ 1 _ (rd_new w3 (avs l2) 36)).mono ?_
  rintro e w4 ⟨⟨A4, c4, rfl, hA4⟩, hB4⟩
  have hB := below_alloc (Below.refl w3.heap.size w3) (.cells #[.int .i64 1, .int .i64 1, .bool true] 36)
  have hB4' := below_then hB hB.size hB4
  have H5 := Lib.hid (And.intro (H4.out.1.keep hB4') (And.intro (H4.out.2.1.keep hB4') (And.intro (H4.out.2.2.1.keep hB4') (And.intro hA4 (below_then H4.out.2.2.2 H4.out.2.2.2.size hB4')))))
  clear hA4 hB4 hB4' H4 hB
  go_wp2_with fail
  refine (same_calls A1 _ c1 4 [1, 0, 0, 2] _ (H5.out.1.keep (below_alloc (Below.refl _ _) _)) (rd_new w4 (ivs [1, 0, 0, 2]) 3) (by decide)).mono ?_
  rintro e w5 ⟨rfl, hB5⟩
  have hB := below_alloc (Below.refl w4.heap.size w4) (.cells #[.int .i64 1, .int .i64 0, .int .i64 0, .int .i64 2] 3)
  have hB5' := below_then hB hB.size hB5
  have H6 := Lib.hid (And.intro (H5.out.2.1.keep hB5') (And.intro (H5.out.2.2.1.keep hB5') (And.intro (H5.out.2.2.2.1.keep hB5') (below_then H5.out.2.2.2.2 H5.out.2.2.2.2.size hB5'))))
  clear hB5 hB5' H5 hB
  go_wp2_with fail
  refine (same_calls A2 _ c2 4 [0, 0, 0, 1] _ (H6.out.1.keep (below_alloc (Below.refl _ _) _)) (rd_new w5 (ivs [0, 0, 0, 1]) 3) (by decide)).mono ?_
  rintro e w6 ⟨rfl, hB6⟩
  have hB := below_alloc (Below.refl w5.heap.size w5) (.cells #[.int .i64 0, .int .i64 0, .int .i64 0, .int .i64 1] 3)
  have hB6' := below_then hB hB.size hB6
  have H7 := Lib.hid (And.intro (H6.out.2.1.keep hB6') (And.intro (H6.out.2.2.1.keep hB6') (below_then H6.out.2.2.2 H6.out.2.2.2.size hB6')))
  clear hB6 hB6' H6 hB
  go_wp2_with fail
  refine (same_calls A3 _ c3 3 [0, 1, 2] _ (H7.out.1.keep (below_alloc (Below.refl _ _) _)) (rd_new w6 (ivs [0, 1, 2]) 3) (by decide)).mono ?_
  rintro e w7 ⟨rfl, hB7⟩
  have hB := below_alloc (Below.refl w6.heap.size w6) (.cells #[.int .i64 0, .int .i64 1, .int .i64 2] 3)
  have hB7' := below_then hB hB.size hB7
  have H8 := Lib.hid (And.intro (H7.out.2.1.keep hB7') (below_then H7.out.2.2 H7.out.2.2.size hB7'))
  clear hB7 hB7' H7 hB
  go_wp2_with fail
  refine (same_calls A4 _ c4 1 [1] _ (H8.out.1.keep (below_alloc (Below.refl _ _) _)) (rd_new w7 (ivs [1]) 3) (by decide)).mono ?_
  rintro e w8 ⟨rfl, hB8⟩
  have hB := below_alloc (Below.refl w7.heap.size w7) (.cells #[.int .i64 1] 3)
  have hB8' := below_then hB hB.size hB8
  have H9 := Lib.hid (below_then H8.out.2 H8.out.2.size hB8')
  clear hB8 hB8' H8 hB
  go_wp2_with fail
  go_ret
  exact ⟨rfl, H9.out⟩
end Go.Proofs.Ytnhnckhjcnjacaa.ST
