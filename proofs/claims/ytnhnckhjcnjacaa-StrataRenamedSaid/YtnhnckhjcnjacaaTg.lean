/- Strata: the walk of the law StrataReach; lists of arcs that came in. -/
import Derived.Test.YtnhnckhjcnjacaaTe
import Derived.Test.YtnhnckhjcnjacaaKwOpen3
namespace Go.Proofs.Ytnhnckhjcnjacaa.ST
open Go.ChangeShapes Go.WideShapes Go.ChangeAt Go.RowKit Go.Deep Go.Proofs.YtnhnckhjcnjacaaKw Go.Proofs.YtnhnckhjcnjacaaSg Go.Proofs.YtnhnckhjcnjacaaSw
set_option linter.unusedVariables false
set_option linter.unusedSimpArgs false
theorem cells36 : Try.prog.cellsOf 36 = 3 := by kernel_rfl
theorem bytes36 : Try.prog.bytesOf 36 = 24 := by kernel_rfl
theorem bnd {x : Int} (h : (Lit.int .i64 x).wf = true) : -9223372036854775808 ≤ x ∧ x ≤ 9223372036854775807 := by simp [Lit.wf, IntKind.min, IntKind.max, IntKind.bits, IntKind.signed] at h; omega
theorem open_arcs {H : Type} {enc : TypeId × Value → H} {W : World} {A : Option Addr} {len cap : Nat} {x : DataW H} {p : List MemPlace}
    (h : DataW.Trod enc Try.prog W 0 (fun _ => true) true 22 (.slice A len cap) x p) {ts : List TypeId} {ds : List (DataW H)} {j : Nat} (hsz : (DataW.weightsEach Try.prog ts ds).all (· ≤ reachBytes) = true) (hts : ts[j]? = some 22) (hds : ds[j]? = some x) :
    ∃ l : List AI, len = l.length ∧ Rd W A (avs l) ∧ (l.length ≤ cap ∧ cap ≤ maxLen ∧ l.length * 24 ≤ 140737488351232) ∧
      ∀ o ∈ l, (-9223372036854775808 ≤ o.f ∧ o.f ≤ 9223372036854775807) ∧ (-9223372036854775808 ≤ o.t ∧ o.t ≤ 9223372036854775807) := by
  obtain ⟨fuel, hf⟩ := h
  have hf' : DataW.trod enc Try.prog W 0 (fun _ => true) true fuel 22 [.slice A len cap] = some (x, p) := by simpa [Value.cells] using hf
  rcases open_slice_fields Try.underlying22 Try.underlying36 (by kernel_rfl) cells36 hf' with ⟨hcs, hx⟩ | ⟨a, len', cap', m, D, Pl, hcs, _, hl, hm, hmm, hx, hi⟩
  · simp at hcs
    obtain ⟨rfl, rfl, rfl⟩ := hcs
    exact ⟨[], rfl, .inl rfl, by simp [maxLen], by simp⟩
  · simp at hcs
    obtain ⟨rfl, rfl, rfl⟩ := hcs
    simp only [if_true] at hmm
    subst hmm
    have hb := sized_slice hsz hts (by rw [hds]; exact congrArg some (congrArg Prod.fst hx)) Try.underlying22
    rw [bytes36] at hb
    simp at hb
    have hr : reachBytes = 140737488351232 := by decide
    have hop : ∀ i, i < len → ∃ o : AI, (∀ j u, (AI.cells o)[j]? = some u → W.cell? (a.add (i * 3 + j)) = some u) ∧ (-9223372036854775808 ≤ o.f ∧ o.f ≤ 9223372036854775807) ∧ (-9223372036854775808 ≤ o.t ∧ o.t ≤ 9223372036854775807) := by
      intro i hil
      obtain ⟨ys, n, _, _, _, hcell⟩ := hi i (by omega)
      obtain ⟨v0, y0, c0, _, t0⟩ := hcell 0 _ rfl
      obtain ⟨v1, y1, c1, _, t1⟩ := hcell 1 _ rfl
      obtain ⟨v2, y2, c2, _, t2⟩ := hcell 2 _ rfl
      obtain ⟨n0, e0, _, w0⟩ := DataW.trod_int Try.underlying3 t0
      obtain ⟨n1, e1, _, w1⟩ := DataW.trod_int Try.underlying3 t1
      obtain ⟨b2, e2, _⟩ := DataW.trod_bool Try.underlying4 t2
      simp at e0 e1 e2
      subst e0 e1 e2
      refine ⟨⟨n0, n1, b2⟩, fun j u hu => ?_, bnd w0, bnd w1⟩
      rcases j with _ | _ | _ | j
      · simp [AI.cells] at hu; subst hu; exact c0
      · simp [AI.cells] at hu; subst hu; exact c1
      · simp [AI.cells] at hu; subst hu; exact c2
      · simp [AI.cells] at hu
    obtain ⟨B, hB⟩ := choose_lt hop
    refine ⟨(List.range len).map B, by simp, rd_rows 3 len B _ (fun _ => rfl) (fun i hil => (hB i hil).1) (by omega), ⟨by simpa using hl, hm, by simp; omega⟩, fun o ho => ?_⟩
    obtain ⟨i, hil, rfl⟩ := List.mem_map.1 ho
    exact (hB i (by simpa using hil)).2
theorem reachV_len (n : Int) (l : List AI) (fs : List Int) : (reachV n l fs).length ≤ 4096 := by
  unfold reachV
  by_cases h : fault n l = 0
  · rw [if_neg (fun e => e h)]
    split
    · simp
    · have := onL_len (fun u => @decide (Rch (EA l) (SF fs) u) (Classical.propDecidable _)) n.toNat
      have h2 := (fault_good h).2.1
      rw [List.length_map]
      unfold rchL
      omega
  · rw [if_pos h]
    simp
theorem rd_app {w : World} {A : Option Addr} {xs ys : List Value} (h : Rd w A (xs ++ ys)) : Rd w A xs := by
  have := h.take xs.length
  rwa [List.take_left] at this
theorem rd_avs {w : World} {A : Option Addr} {l m : List AI} (h : Rd w A (avs (l ++ m))) : Rd w A (avs l) := by
  rw [show avs (l ++ m) = avs l ++ avs m by simp [avs]] at h
  exact rd_app h
theorem rd_ivs {w : World} {A : Option Addr} {l m : List Int} (h : Rd w A (ivs (l ++ m))) : Rd w A (ivs l) := by
  rw [ivs_app] at h
  exact rd_app h
set_option maxHeartbeats 4000000 in
set_option maxRecDepth 100000 in
theorem reach_law (A B : Option Addr) (c d : Nat) (n : Int) (l : List AI) (fs : List Int) (w : World) (hr : Rd w A (avs l)) (hl : l.length ≤ c ∧ c ≤ maxLen ∧ l.length * 24 ≤ 140737488351232) (hf : Rd w B (ivs fs)) (hfl : fs.length * 8 ≤ 140737488351232) (hfd : fs.length ≤ d) :
    Calls Try.prog 5 #[.int .i64 n, .slice A l.length c, .slice B fs.length d] w fun e w' => e = .returned (.bool true) ∧ Below w.heap.size w w' := by
  have hbt := between_calls A n l.length c w (by omega)
  have HC := Lib.hid (And.intro hr (And.intro hl (And.intro hf (And.intro hfl hfd))))
  clear hr hl hf hfl hfd
  generalize betweenB n l.length = bb at *
  go_enter Try.func5, Try.ntmps5
  go_wp2_with fail
  refine hbt.mono ?_
  rintro e w1 ⟨rfl, rfl⟩
  cases bb with
  | true =>
    go_wp2_with fail
    refine (awake_calls w).mono ?_
    rintro e w1 ⟨rfl, hB⟩
    have HB := Lib.hid hB
    clear hB
    go_wp2_with fail
    go_ret
    exact ⟨rfl, HB.out⟩
  | false =>
    go_wp2_with fail
    refine (lentArcs_calls A c l w HC.out.1 HC.out.2.1.2.2 HC.out.2.1.1).mono ?_
    rintro e w1 ⟨A1, c1, rfl, ho1, hB1⟩
    have H1 := Lib.hid (And.intro ho1 hB1)
    clear ho1 hB1
    go_wp2_with fail
    refine (lentInts_calls B d fs w1 (HC.out.2.2.1.keep H1.out.2) HC.out.2.2.2.1 HC.out.2.2.2.2).mono ?_
    rintro e w2 ⟨A2, c2, rfl, ho2, hB2⟩
    have H2 := Lib.hid (And.intro (own_keep H1.out.1 hB2) (And.intro ho2 (below_then H1.out.2 H1.out.2.size hB2)))
    clear ho2 hB2 H1
    go_wp2_with fail
    refine (reach_ans A1 A2 c1 c2 n l fs w2 (rd_avs (own_rd H2.out.1)) (by have := HC.out.2.1.2.2; omega) (rd_ivs (own_rd H2.out.2.1)) (by have := HC.out.2.2.2.1; omega)).mono ?_
    rintro e w3 ⟨⟨A3, c3, rfl, ho3⟩, hB3⟩
    have H3 := Lib.hid (And.intro (own_keep H2.out.1 hB3) (And.intro (own_keep H2.out.2.1 hB3) (And.intro ho3 (below_then H2.out.2.2 H2.out.2.2.size hB3))))
    clear ho3 hB3 H2
    go_wp2_with fail
    refine (reachR_ans A B c d n l fs w3 (HC.out.1.keep H3.out.2.2.2) (by have := HC.out.2.1.2.2; omega) (HC.out.2.2.1.keep H3.out.2.2.2) (by have := HC.out.2.2.2.1; omega)).mono ?_
    rintro e w4 ⟨⟨A4, c4, rfl, ho4⟩, hB4⟩
    have H4 := Lib.hid (And.intro (own_keep H3.out.1 hB4) (And.intro (own_keep H3.out.2.1 hB4) (And.intro (own_keep H3.out.2.2.1 hB4) (And.intro ho4 (below_then H3.out.2.2.2 H3.out.2.2.2.size hB4)))))
    clear ho4 hB4 H3
    have hlen : (reachV n l fs).length ≤ 4096 := reachV_len n l fs
    have HL := Lib.hid hlen
    clear hlen
    generalize reachV n l fs = R at *
    generalize reachE n l fs = E at *
    go_wp2_with fail
    refine (same_calls A3 A4 c3 c4 R w4 (own_rd H4.out.2.2.1) (own_rd H4.out.2.2.2.1) (by have := HL.out; omega)).mono ?_
    rintro e w5 ⟨rfl, hB5⟩
    have H5 := Lib.hid (And.intro (own_keep H4.out.1 hB5) (And.intro (own_keep H4.out.2.1 hB5) (below_then H4.out.2.2.2.2 H4.out.2.2.2.2.size hB5)))
    clear hB5 H4
    go_wp2_with fail
    have hf1 := own_form H5.out.1
    refine (keptArcs_calls A1 A c1 c l w5 (own_rd H5.out.1) (HC.out.1.keep H5.out.2.2) (by obtain ⟨_, _, e, h, _⟩ := hf1; cases e; exact h) (by obtain ⟨_, _, e, _, h⟩ := hf1; cases e; exact h) (by have := HC.out.2.1.2.2; omega)).mono ?_
    rintro e w6 ⟨rfl, hB6⟩
    have H6 := Lib.hid (And.intro (own_keep H5.out.2.1 hB6) (below_then H5.out.2.2 H5.out.2.2.size hB6))
    clear hB6 H5 hf1
    go_wp2_with fail
    have hf1 := own_form H6.out.1
    refine (keptInts_calls A2 B c2 d fs w6 (own_rd H6.out.1) (HC.out.2.2.1.keep H6.out.2) (by obtain ⟨_, _, e, h, _⟩ := hf1; cases e; exact h) (by obtain ⟨_, _, e, _, h⟩ := hf1; cases e; exact h) (by have := HC.out.2.2.2.1; omega)).mono ?_
    rintro e w7 ⟨rfl, hB7⟩
    have H7 := Lib.hid (below_then H6.out.2 H6.out.2.size hB7)
    clear hB7 H6 hf1
    go_wp2_with fail
    refine (awake_calls w7).mono ?_
    rintro e w8 ⟨rfl, hB8⟩
    have H8 := Lib.hid (below_then H7.out H7.out.size hB8)
    clear hB8 H7
    go_wp2_with fail
    go_ret
    exact ⟨rfl, H8.out⟩
end Go.Proofs.Ytnhnckhjcnjacaa.ST
