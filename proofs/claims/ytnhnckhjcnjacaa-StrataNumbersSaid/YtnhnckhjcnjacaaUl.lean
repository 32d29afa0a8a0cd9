/- Strata: the walks of the laws StrataParts and StrataNumbers. -/
import Derived.Test.YtnhnckhjcnjacaaUk
import Derived.Test.YtnhnckhjcnjacaaTg
namespace Go.Proofs.Ytnhnckhjcnjacaa.ST
open Go.RowKit Go.Proofs.YtnhnckhjcnjacaaKw Go.Proofs.YtnhnckhjcnjacaaSg Go.Proofs.YtnhnckhjcnjacaaSw
set_option linter.unusedVariables false
set_option linter.unusedSimpArgs false
set_option maxHeartbeats 4000000 in
set_option maxRecDepth 100000 in
theorem parts_law (A : Option Addr) (c : Nat) (n : Int) (l : List AI) (w : World) (hr : Rd w A (avs l)) (hl : l.length ≤ c ∧ c ≤ maxLen ∧ l.length * 24 ≤ 140737488351232) :
    Calls Try.prog 3 #[.int .i64 n, .slice A l.length c] w fun e w' => e = .returned (.bool true) ∧ Below w.heap.size w w' := by
  have hbt := between_calls A n l.length c w (by omega)
  have HC := Lib.hid (And.intro hr hl)
  clear hr hl
  generalize betweenB n l.length = bb at *
  go_enter Try.func3, Try.ntmps3
  go_wp2_with fail
  refine hbt.mono ?_
  rintro e w1 ⟨rfl, rfl⟩
  cases bb with
  | true =>
    go_wp2_with fail
    refine (awake_calls w).mono ?_
    rintro e w1 ⟨rfl, hB⟩
    have HB := Lib.hid hB
    clear hB
    go_wp2_with fail
    go_ret
    exact ⟨rfl, HB.out⟩
  | false =>
    go_wp2_with fail
    refine (lentArcs_calls A c l w HC.out.1 HC.out.2.2.2 HC.out.2.1).mono ?_
    rintro e w1 ⟨A1, c1, rfl, ho1, hB1⟩
    have H2 := Lib.hid (And.intro ho1 hB1)
    clear ho1 hB1
    go_wp2_with fail
    refine (parts_ans A1 c1 n l w1 (rd_avs (own_rd H2.out.1)) (by have := HC.out.2.2.2; omega)).mono ?_
    rintro e w3 ⟨⟨A3, c3, rfl, ho3⟩, hB3⟩
    have H3 := Lib.hid (And.intro (own_keep H2.out.1 hB3) (And.intro ho3 (below_then H2.out.2 H2.out.2.size hB3)))
    clear ho3 hB3 H2
    go_wp2_with fail
    refine (partsR_ans A c n l w3 (HC.out.1.keep H3.out.2.2) (by have := HC.out.2.2.2; omega)).mono ?_
    rintro e w4 ⟨⟨A4, c4, rfl, ho4⟩, hB4⟩
    have H4 := Lib.hid (And.intro (own_keep H3.out.1 hB4) (And.intro (own_keep H3.out.2.1 hB4) (And.intro ho4 (below_then H3.out.2.2 H3.out.2.2.size hB4))))
    clear ho4 hB4 H3
    have HL := Lib.hid (partsV_len n l)
    generalize partsV n l = R at *
    generalize fault n l = E at *
    go_wp2_with fail
    refine (same_calls A3 A4 c3 c4 R w4 (own_rd H4.out.2.1) (own_rd H4.out.2.2.1) (by have := HL.out; omega)).mono ?_
    rintro e w5 ⟨rfl, hB5⟩
    have H5 := Lib.hid (And.intro (own_keep H4.out.1 hB5) (below_then H4.out.2.2.2 H4.out.2.2.2.size hB5))
    clear hB5 H4
    go_wp2_with fail
    have hf1 := own_form H5.out.1
    refine (keptArcs_calls A1 A c1 c l w5 (own_rd H5.out.1) (HC.out.1.keep H5.out.2) (by obtain ⟨_, _, e, h, _⟩ := hf1; cases e; exact h) (by obtain ⟨_, _, e, _, h⟩ := hf1; cases e; exact h) (by have := HC.out.2.2.2; omega)).mono ?_
    rintro e w6 ⟨rfl, hB6⟩
    have H6 := Lib.hid (below_then H5.out.2 H5.out.2.size hB6)
    clear hB6 H5 hf1
    go_wp2_with fail
    refine (awake_calls w6).mono ?_
    rintro e w8 ⟨rfl, hB8⟩
    have H8 := Lib.hid (below_then H6.out H6.out.size hB8)
    clear hB8 H6
    go_wp2_with fail
    go_ret
    exact ⟨rfl, H8.out⟩
set_option maxHeartbeats 4000000 in
set_option maxRecDepth 100000 in
theorem numbers_law (A : Option Addr) (c : Nat) (n : Int) (l : List AI) (w : World) (hr : Rd w A (avs l)) (hl : l.length ≤ c ∧ c ≤ maxLen ∧ l.length * 24 ≤ 140737488351232) :
    Calls Try.prog 4 #[.int .i64 n, .slice A l.length c] w fun e w' => e = .returned (.bool true) ∧ Below w.heap.size w w' := by
  have hbt := between_calls A n l.length c w (by omega)
  have HC := Lib.hid (And.intro hr hl)
  clear hr hl
  generalize betweenB n l.length = bb at *
  go_enter Try.func4, Try.ntmps4
  go_wp2_with fail
  refine hbt.mono ?_
  rintro e w1 ⟨rfl, rfl⟩
  cases bb with
  | true =>
    go_wp2_with fail
    refine (awake_calls w).mono ?_
    rintro e w1 ⟨rfl, hB⟩
    have HB := Lib.hid hB
    clear hB
    go_wp2_with fail
    go_ret
    exact ⟨rfl, HB.out⟩
  | false =>
    go_wp2_with fail
    refine (lentArcs_calls A c l w HC.out.1 HC.out.2.2.2 HC.out.2.1).mono ?_
    rintro e w1 ⟨A1, c1, rfl, ho1, hB1⟩
    have H2 := Lib.hid (And.intro ho1 hB1)
    clear ho1 hB1
    go_wp2_with fail
    refine (strata_ans A1 c1 n l w1 (rd_avs (own_rd H2.out.1)) (by have := HC.out.2.2.2; omega)).mono ?_
    rintro e w2 ⟨⟨A2, c2, rfl, ho2⟩, hB⟩
    have H3 := Lib.hid (And.intro (own_keep H2.out.1 hB) (And.intro ho2 (below_then H2.out.2 H2.out.2.size hB)))
    clear ho2 hB H2
    go_wp2_with fail
    refine (ring_ans A1 c1 n l w2 (rd_avs (own_rd H3.out.1)) (by have := HC.out.2.2.2; omega)).mono ?_
    rintro e w3 ⟨⟨A3, c3, rfl, ho3⟩, hB⟩
    have H4 := Lib.hid (And.intro (own_keep H3.out.1 hB) (And.intro (own_keep H3.out.2.1 hB) (And.intro ho3 (below_then H3.out.2.2 H3.out.2.2.size hB))))
    clear ho3 hB H3
    go_wp2_with fail
    refine (strataR_ans A c n l w3 (HC.out.1.keep H4.out.2.2.2) (by have := HC.out.2.2.2; omega)).mono ?_
    rintro e w4 ⟨⟨A4, c4, rfl, ho4⟩, hB⟩
    have H5 := Lib.hid (And.intro (own_keep H4.out.1 hB) (And.intro (own_keep H4.out.2.1 hB) (And.intro (own_keep H4.out.2.2.1 hB) (And.intro ho4 (below_then H4.out.2.2.2 H4.out.2.2.2.size hB)))))
    clear ho4 hB H4
    go_wp2_with fail
    refine (ringR_ans A c n l w4 (HC.out.1.keep H5.out.2.2.2.2) (by have := HC.out.2.2.2; omega)).mono ?_
    rintro e w5 ⟨⟨A5, c5, rfl, ho5⟩, hB⟩
    have H6 := Lib.hid (And.intro (own_keep H5.out.1 hB) (And.intro (own_keep H5.out.2.1 hB) (And.intro (own_keep H5.out.2.2.1 hB) (And.intro (own_keep H5.out.2.2.2.1 hB) (And.intro ho5 (below_then H5.out.2.2.2.2 H5.out.2.2.2.2.size hB))))))
    clear ho5 hB H5
    have HL := Lib.hid (And.intro (strataV_len n l) (ringV_len n l))
    generalize strataV n l = R at *
    generalize strataE n l = E at *
    generalize ringV' n l = R2 at *
    generalize fault n l = E2 at *
    go_wp2_with fail
    refine (same_calls A2 A4 c2 c4 R w5 (own_rd H6.out.2.1) (own_rd H6.out.2.2.2.1) (by have := HL.out.1; omega)).mono ?_
    rintro e w6 ⟨rfl, hB⟩
    have H7 := Lib.hid (And.intro (own_keep H6.out.1 hB) (And.intro (own_keep H6.out.2.2.1 hB) (And.intro (own_keep H6.out.2.2.2.2.1 hB) (below_then H6.out.2.2.2.2.2 H6.out.2.2.2.2.2.size hB))))
    clear hB H6
    go_wp2_with fail
    refine (same_calls A3 A5 c3 c5 R2 w6 (own_rd H7.out.2.1) (own_rd H7.out.2.2.1) (by have := HL.out.2; omega)).mono ?_
    rintro e w7 ⟨rfl, hB⟩
    have H8 := Lib.hid (And.intro (own_keep H7.out.1 hB) (below_then H7.out.2.2.2 H7.out.2.2.2.size hB))
    clear hB H7
    go_wp2_with fail
    have hf1 := own_form H8.out.1
    refine (keptArcs_calls A1 A c1 c l w7 (own_rd H8.out.1) (HC.out.1.keep H8.out.2) (by obtain ⟨_, _, e, h, _⟩ := hf1; cases e; exact h) (by obtain ⟨_, _, e, _, h⟩ := hf1; cases e; exact h) (by have := HC.out.2.2.2; omega)).mono ?_
    rintro e w8 ⟨rfl, hB⟩
    have H9 := Lib.hid (below_then H8.out.2 H8.out.2.size hB)
    clear hB H8 hf1
    go_wp2_with fail
    refine (awake_calls w8).mono ?_
    rintro e w9 ⟨rfl, hB⟩
    have HX := Lib.hid (below_then H9.out H9.out.size hB)
    clear hB H9
    go_wp2_with fail
    go_ret
    exact ⟨rfl, HX.out⟩
end Go.Proofs.Ytnhnckhjcnjacaa.ST
