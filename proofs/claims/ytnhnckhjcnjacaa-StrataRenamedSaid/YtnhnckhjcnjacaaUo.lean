/- Strata: the walk of the law StrataOrdered. -/
import Derived.Test.YtnhnckhjcnjacaaUf
import Derived.Test.YtnhnckhjcnjacaaUm
import Derived.Test.YtnhnckhjcnjacaaUn
import Derived.Test.YtnhnckhjcnjacaaTg
namespace Go.Proofs.Ytnhnckhjcnjacaa.ST
open Go.RowKit Go.Proofs.YtnhnckhjcnjacaaKw Go.Proofs.YtnhnckhjcnjacaaSg Go.Proofs.YtnhnckhjcnjacaaSw
set_option linter.unusedVariables false
set_option linter.unusedSimpArgs false

theorem fit_good (n : Int) (l : List AI) : ∃ N : Nat, n % 40 = N ∧ N < 40 ∧ GoodG N (fitL N l) := by
  have h0 := Int.emod_nonneg n (show (40 : Int) ≠ 0 by omega)
  have h1 := Int.emod_lt_of_pos n (show (0 : Int) < 40 by omega)
  obtain ⟨N, hN⟩ := Int.eq_ofNat_of_zero_le h0
  refine ⟨N, hN, by omega, by omega, Nat.le_trans (fitL_le N l) (by omega), ?_⟩
  rw [List.any_eq_false]
  intro a ha
  unfold fitL at ha
  split at ha
  · rename_i hp
    obtain ⟨b, hb, rfl⟩ := List.mem_map.1 ha
    have k1 := Int.emod_nonneg b.f (show (N : Int) ≠ 0 by omega)
    have k2 := Int.emod_lt_of_pos b.f hp
    have k3 := Int.emod_nonneg b.t (show (N : Int) ≠ 0 by omega)
    have k4 := Int.emod_lt_of_pos b.t hp
    simp [bad]
    omega
  · simp at ha
theorem fit_at (A : Option Addr) (c N : Nat) (n : Int) (l : List AI) (w : World) (hN : n % 40 = N) (hr : Rd w A (avs l)) (hl : l.length ≤ 140737488355328) (hn : b64 n) (hb : ∀ a ∈ l, b64 a.f ∧ b64 a.t) :
    Calls Try.prog 26 #[.int .i64 n, .slice A l.length c] w fun e w' => (∃ B d, e = .returned (.tuple #[.int .i64 N, .slice B (fitL N l).length d]) ∧ w'.ownsRow w.heap.size 36 3 (.slice B (fitL N l).length d) (fitL N l).length (avs (fitL N l))) ∧ Below w.heap.size w w' := by
  have := fit_calls A c n l w hr hl hn hb
  rw [hN] at this
  exact this
section
variable {n : Nat} {l : List AI}
theorem reach_good (hg : GoodG n l) {fs : List Int} (hf : ∀ x ∈ fs, 0 ≤ x ∧ x < n) : reachE n l fs = 0 ∧ reachV n l fs = (rchL n l fs).map fun x : Nat => (x : Int) := by
  have hb : ¬ fs.any (badF n) = true := by
    intro h
    obtain ⟨x, hx, h2⟩ := List.any_eq_true.1 h
    have := hf x hx
    simp [badF] at h2
    omega
  have hne : ¬ fault n l ≠ 0 := fun e => e hg.fault
  unfold reachE reachV
  rw [if_neg hne, if_neg hne, if_neg hb, if_neg hb, Int.toNat_natCast]
  exact ⟨rfl, rfl⟩
theorem reach_mem (hg : GoodG n l) {fs : List Int} (hf : ∀ x ∈ fs, 0 ≤ x ∧ x < n) (j : Nat) (hj : j < n) : (j : Int) ∈ reachV n l fs ↔ Rch (EA l) (SF fs) j := by
  rw [(reach_good hg hf).2, List.mem_map]
  unfold rchL onL
  constructor
  · rintro ⟨x, hx, e⟩
    obtain rfl : x = j := by omega
    have := (List.mem_filter.1 hx).2
    simpa using this
  · intro h
    exact ⟨j, List.mem_filter.2 ⟨List.mem_range.2 hj, by simpa using h⟩, rfl⟩
theorem reach_one (hg : GoodG n l) {k : Nat} (hk : k < n) : reachE n l [(k : Int)] = 0 ∧ ∀ j, j < n → ((j : Int) ∈ reachV n l [(k : Int)] ↔ Pth (tos (outs l)) k j) := by
  have hf : ∀ x ∈ [(k : Int)], 0 ≤ x ∧ x < n := by intro x hx; simp at hx; omega
  refine ⟨(reach_good hg hf).1, fun j hj => ?_⟩
  rw [reach_mem hg hf j hj]
  constructor
  · refine Rch.sub (fun v hv => ?_) (fun a b ha hb => .step ha ((tos_EA hg.hb a b).2 hb)) j
    have h1 : (v : Int) = k := by simpa [SF] using hv
    have h2 : v = k := by omega
    rw [h2]
    exact .refl k
  · intro hp
    induction hp with
    | refl => exact .base (by simp [SF])
    | step hp ht ih => exact .step (ih (pth_lt hg.lt hk hp)) ((tos_EA hg.hb _ _).1 ht)
/-- The greatest number so far. -/
def mostF (P : Nat → Nat) (k : Nat) : Int := (List.range k).foldl (fun z v => max z (P v : Int)) (-1)
theorem mostF_succ (P : Nat → Nat) (k : Nat) : mostF P (k + 1) = max (mostF P k) (P k) := by
  unfold mostF
  rw [List.range_succ, List.foldl_append]
  rfl
theorem mostF_spec (P : Nat → Nat) (k : Nat) : (∀ v, v < k → (P v : Int) ≤ mostF P k) ∧ (mostF P k = -1 ∨ ∃ v, v < k ∧ (P v : Int) = mostF P k) := by
  induction k with
  | zero => exact ⟨fun v hv => by omega, .inl rfl⟩
  | succ k ih =>
    rw [mostF_succ]
    refine ⟨fun v hv => ?_, ?_⟩
    · by_cases e : v = k
      · rw [e]; exact Int.le_max_right _ _
      · exact Int.le_trans (ih.1 v (by omega)) (Int.le_max_left _ _)
    · rcases Int.le_total (mostF P k) (P k) with h | h
      · rw [Int.max_eq_right h]
        exact .inr ⟨k, by omega, rfl⟩
      · rw [Int.max_eq_left h]
        rcases ih.2 with e | ⟨v, hv, e⟩
        · exact .inl e
        · exact .inr ⟨v, by omega, e⟩
theorem most_at (hg : GoodG n l) {k : Nat} (hk : (k : Int) ≤ mostF (PP n l) n) : ∃ v, v < n ∧ PP n l v = k := by
  rcases (mostF_spec (PP n l) n).2 with e | ⟨v, hv, e⟩
  · omega
  · have := (PP_spec hg).lt v hv
    exact (PP_spec hg).surj k (by omega)
theorem least_some (hg : GoodG n l) {k : Nat} {r : Int} (hk : (k : Int) ≤ mostF (PP n l) n) (h : LeastAt n (fun v => (PP n l v : Int)) k r) : ∃ i : Nat, r = i ∧ i < n ∧ PP n l i = k ∧ ∀ j, j < i → PP n l j ≠ k := by
  obtain ⟨v, hv, e⟩ := most_at hg hk
  rcases h with ⟨_, h⟩ | ⟨i, rfl, hi, h1, h2⟩
  · exact absurd (show (PP n l v : Int) = k by rw [e]) (h v hv)
  · refine ⟨i, rfl, hi, ?_, fun j hj e => h2 j hj (by show (PP n l j : Int) = k; rw [e])⟩
    have h1 : (PP n l i : Int) = k := h1
    omega
theorem held_true (hg : GoodG n l) {k q : Nat} {r s : Int} (hkq : k < q) (hq : (q : Int) ≤ mostF (PP n l) n) (h1 : LeastAt n (fun v => (PP n l v : Int)) q r) (h2 : LeastAt n (fun v => (PP n l v : Int)) k s) (hlt : r < s) : l.any (heldB (fun v => (PP n l v : Int)) q k) = true := by
  obtain ⟨i, rfl, hi, e1, e2⟩ := least_some hg hq h1
  obtain ⟨j, rfl, hj, e3, e4⟩ := least_some hg (show (k : Int) ≤ _ by omega) h2
  obtain ⟨y, hy, t, ht, f1, f2, f3⟩ := (PP_spec hg).greedy j hj i hi (by omega) (fun x hx hxe => by
    have := Nat.le_of_not_lt fun h => e4 x h (by omega)
    omega)
  obtain ⟨a, ha, g1, g2⟩ := (tos_EA hg.hb y t).1 ht
  refine List.any_eq_true.2 ⟨a, ha, ?_⟩
  unfold heldB
  rw [g1, g2]
  simp only [Int.toNat_natCast, Bool.and_eq_true, decide_eq_true_eq]
  exact ⟨⟨by omega, by omega⟩, by omega⟩
end
theorem rd_parts {w : World} {A : Option Addr} {n : Nat} {l : List AI} (hg : GoodG n l) (h : Rd w A (ivs (partsV n l))) : Rd w A (ivs ((List.range n).map fun v => (PP n l v : Int))) := by
  rw [parts_good hg] at h
  exact h
theorem partsV_n {n : Nat} {l : List AI} (hg : GoodG n l) : (partsV n l).length = n := by rw [parts_good hg]; simp
set_option maxHeartbeats 16000000 in
set_option maxRecDepth 100000 in
theorem ordered_law (A : Option Addr) (c : Nat) (n : Int) (l : List AI) (w : World) (hr : Rd w A (avs l)) (hl : l.length ≤ c ∧ c ≤ maxLen ∧ l.length * 24 ≤ 140737488351232) (hn : b64 n) (hb : ∀ a ∈ l, b64 a.f ∧ b64 a.t) :
    Calls Try.prog 7 #[.int .i64 n, .slice A l.length c] w fun e w' => e = .returned (.bool true) ∧ Below w.heap.size w w' := by
  obtain ⟨N, hN, hN40, hg⟩ := fit_good n l
  have hfit := fun w1 (h : Rd w1 A (avs l)) => fit_at A c N n l w1 hN h (by omega) hn hb
  have HL := Lib.hid (fitL_le N l)
  generalize fitL N l = L at *
  have HC := Lib.hid (And.intro hr (And.intro hfit hg))
  clear hr hl hn hb hfit hN hg
  go_enter Try.func7, Try.ntmps7
  go_wp2_with fail
  refine (awake_calls w).mono ?_
  rintro e w1 ⟨rfl, hB⟩
  have H1 := Lib.hid hB
  clear hB
  go_wp2_with fail
  refine (HC.out.2.1 w1 (HC.out.1.keep H1.out)).mono ?_
  rintro e w2 ⟨⟨B, d, rfl, ho⟩, hB⟩
  have H2 := Lib.hid (And.intro (own_rd ho) (below_then H1.out H1.out.size hB))
  clear ho hB H1
  go_wp2_with fail
  refine (copyArcs_calls B d L w2 H2.out.1 (by have := HL.out; omega)).mono ?_
  rintro e w3 ⟨B3, d3, rfl, ho3, hB⟩
  have H3 := Lib.hid (And.intro (H2.out.1.keep hB) (And.intro (own_rd ho3) (below_then H2.out.2 H2.out.2.size hB)))
  clear ho3 hB H2
  go_wp2_with fail
  refine (parts_ans B3 d3 N L w3 H3.out.2.1 (by have := HL.out; omega)).mono ?_
  rintro e w4 ⟨⟨A4, c4, rfl, ho4⟩, hB⟩
  have H4 := Lib.hid (And.intro (H3.out.1.keep hB) (And.intro (rd_parts HC.out.2.2 (own_rd ho4)) (below_then H3.out.2.2 H3.out.2.2.size hB)))
  rw [partsV_n HC.out.2.2, HC.out.2.2.fault]
  clear ho4 hB H3
  go_wp2_with fail
  have hPlt : ∀ v, v < N → PP N L v < 40 := fun v hv => by
    have h1 := (PP_spec HC.out.2.2).lt v hv
    obtain ⟨_, _, _, _, _, h2, _⟩ := PP_plan HC.out.2.2
    omega
  have HP := Lib.hid hPlt
  clear hPlt
  go_loopw [8, 9] (fun z a wr => ∃ k : Nat, k ≤ N ∧ a = .int .i64 k ∧ z = .int .i64 (mostF (PP N L) k) ∧ Below w4.heap.size w4 wr) (fun _ a _ => N - (intOf a).toNat)
  case atStart => exact ⟨0, Nat.zero_le _, rfl, rfl, Below.refl _ _⟩
  case round =>
    obtain ⟨k, hk, rfl, rfl, hB⟩ := hrel
    by_cases hlt : k < N
    · have hone := reach_one HC.out.2.2 hlt
      have hms := mostF_succ (PP N L) k
      have hkk := HP.out k hlt
      have HX := Lib.hid (And.intro hone (And.intro hms (And.intro (H4.out.1.keep hB) (And.intro (H4.out.2.1.keep hB) hB))))
      clear hone hms hB
      go_wp2_with fail
      refine (copyArcs_calls B d L wr HX.out.2.2.1 (by have := HL.out; omega)).mono ?_
      rintro e w5 ⟨B5, d5, rfl, ho, hB⟩
      have H5 := Lib.hid (And.intro (own_rd ho) hB)
      clear ho hB
      go_wp2_with fail
      refine (reach_ans B5 _ d5 1 N L [(k : Int)] _ (H5.out.1.keep (below_alloc (Below.refl _ _) _)) (by have := HL.out; omega) (rd_new w5 (ivs [(k : Int)]) 3) (by simp)).mono ?_
      rw [HX.out.1.1]
      rintro e w6 ⟨⟨A6, c6, rfl, ho⟩, hB⟩
      have hB' := below_then H5.out.2 H5.out.2.size (below_then (below_alloc (Below.refl w5.heap.size w5) (.cells #[.int .i64 (k : Int)] 3)) (by simp) hB)
      have HR := Lib.hid (And.intro (own_rd ho) (And.intro HX.out.1.2 (reachV_len N L [(k : Int)])))
      have H6 := Lib.hid (And.intro (HX.out.2.2.1.keep hB') (And.intro (HX.out.2.2.2.1.keep hB') (below_then HX.out.2.2.2.2 HX.out.2.2.2.2.size hB')))
      clear ho hB hB' H5
      generalize reachV N L [(k : Int)] = R at *
      obtain ⟨bp, op, rfl, kp⟩ := rd_int H6.out.2.1 (j := k) (by simpa using hlt)
      rw [ivs_range] at kp
      have hPn : ¬ ((PP N L k : Nat) : Int) < 0 := by omega
      go_wp2_with fail
      refine (has_calls A6 c6 R (k : Int) w6 HR.out.1 (by have := HR.out.2.2; omega)).mono ?_
      rw [decide_eq_true ((HR.out.2.1 k hlt).2 (.refl k))]
      rintro e w7 ⟨rfl, rfl⟩
      go_wp2_with fail
      all_goals
        go_loopw [12] (fun b wq => ∃ j : Nat, j ≤ k ∧ b = .int .i64 j ∧ Below w6.heap.size w6 wq) (fun b _ => k - (intOf b).toNat)
        case atStart => exact ⟨0, Nat.zero_le _, rfl, Below.refl _ _⟩
        case round =>
          obtain ⟨j, hj, rfl, hB⟩ := hrel
          by_cases hjk : j < k
          · have hjN : j < N := by omega
            have hone := reach_one HC.out.2.2 hjN
            have HY := Lib.hid (And.intro hone (And.intro (H6.out.1.keep hB) hB))
            clear hone hB
            go_wp2_with fail
            refine (copyArcs_calls B d L wr HY.out.2.1 (by have := HL.out; omega)).mono ?_
            rintro e w7 ⟨B7, d7, rfl, ho, hB⟩
            have H7 := Lib.hid (And.intro (own_rd ho) hB)
            clear ho hB
            go_wp2_with fail
            refine (reach_ans B7 _ d7 1 N L [(j : Int)] _ (H7.out.1.keep (below_alloc (Below.refl _ _) _)) (by have := HL.out; omega) (rd_new w7 (ivs [(j : Int)]) 3) (by simp)).mono ?_
            rw [HY.out.1.1]
            rintro e w8 ⟨⟨A8, c8, rfl, ho⟩, hB⟩
            have hB' := below_then HY.out.2.2 HY.out.2.2.size (below_then H7.out.2 H7.out.2.size (below_then (below_alloc (Below.refl w7.heap.size w7) (.cells #[.int .i64 (j : Int)] 3)) (by simp) hB))
            have HR2 := Lib.hid (And.intro (own_rd ho) (And.intro HY.out.1.2 (And.intro (reachV_len N L [(j : Int)]) hB')))
            clear ho hB hB' H7
            generalize reachV N L [(j : Int)] = R2 at *
            have q1 := rd_intc (H6.out.2.1.keep HR2.out.2.2.2) (k := k) (by simpa using hlt)
            have q2 := rd_intc (H6.out.2.1.keep HR2.out.2.2.2) (k := j) (by simpa using hjN)
            rw [ivs_range] at q1 q2
            have hsim := (PP_spec HC.out.2.2).sim k hlt j hjN
            have hm1 := HR.out.2.1 j hjN
            have hm2 := HR2.out.2.1 k hlt
            by_cases hb1 : (j : Int) ∈ R
            · by_cases hb2 : (k : Int) ∈ R2
              · have heq : PP N L k = PP N L j := hsim.2 ⟨hm1.1 hb1, hm2.1 hb2⟩
                have HS := Lib.hid (And.intro hb1 hb2)
                rw [← heq] at q2
                clear hsim hm1 hm2 heq
                go_upto_region 19 with fail
                have hcb := World.block_lt_of_cell? w8 _ q1
                have s1 : ∀ w', Below w8.heap.size w8 w' → w'.cell? ⟨bp, op + k, none⟩ = some (.int .i64 (PP N L k : Int)) := fun w' h => (h.cell (p := ⟨bp, op + k, none⟩) hcb).trans q1
                have s2 : ∀ w', Below w8.heap.size w8 w' → w'.cell? ⟨bp, op + j, none⟩ = some (.int .i64 (PP N L k : Int)) := fun w' h => (h.cell (p := ⟨bp, op + j, none⟩) hcb).trans q2
                refine RD.region (S := fun w' => Below w8.heap.size w8 w') (by kernel_rfl) (by kernel_rfl) (Below.refl _ _).drew ?_
                repeat (first
                  | (refine RD.walk_skip rfl ?_; simp only [Act.put, List.setIfInBounds_toArray, List.set_cons_succ, List.set_cons_zero])
                  | (refine RD.walk_op (v := ?_) rfl ?_ ?_; rotate_left; (intro w hS; go_simp; done); simp only [Act.put, List.setIfInBounds_toArray, List.set_cons_succ, List.set_cons_zero])
                  | (refine RD.walk_op (v := ?_) rfl ?_ ?_; rotate_left; (intro w hS; go_simp; rfl); simp only [Act.put, List.setIfInBounds_toArray, List.set_cons_succ, List.set_cons_zero])
                  | (refine RD.rd_at_call (v := .bool true) (f := 28) (args := #[.slice A6 R.length c6, .int .i64 (j : Int)]) rfl ?_ (fun w hS => (has_calls A6 c6 R (j : Int) w ((HR.out.1.keep HR2.out.2.2.2).keep hS) (by have := HR.out.2.2; omega)).mono (fun e w' h => ⟨h.1.trans (by rw [decide_eq_true HS.out.1]), by rw [← h.2]; exact hS⟩)) ?_
                     · intro w hS; go_simp; done
                     simp only [Act.put, List.setIfInBounds_toArray, List.set_cons_succ, List.set_cons_zero])
                  | (refine RD.rd_at_call (v := .bool true) (f := 28) (args := #[.slice A8 R2.length c8, .int .i64 (k : Int)]) rfl ?_ (fun w hS => (has_calls A8 c8 R2 (k : Int) w (HR2.out.1.keep hS) (by have := HR2.out.2.2.1; omega)).mono (fun e w' h => ⟨h.1.trans (by rw [decide_eq_true HS.out.2]), by rw [← h.2]; exact hS⟩)) ?_
                     · intro w hS; go_simp; done
                     simp only [Act.put, List.setIfInBounds_toArray, List.set_cons_succ, List.set_cons_zero]))
                refine RD.walk_nil ?_
                intro w9 hb9
                have HB9 := Lib.hid (below_then HR2.out.2.2.2 HR2.out.2.2.2.size hb9)
                clear s1 s2 q1 q2 hb9 hcb
                go_wp2_with fail
                go_roundw
                case rel => exact ⟨j + 1, by omega, by go_num, HB9.out⟩
                case measure => simp [intOf]; omega
              · have heq : ¬ PP N L k = PP N L j := fun e => hb2 (hm2.2 (hsim.1 e).2)
                have hne : ¬ ((PP N L k : Nat) : Int) = (PP N L j : Nat) := by omega
                have HS := Lib.hid (And.intro hb1 hb2)
                clear hsim hm1 hm2 heq
                go_upto_region 19 with fail
                have hcb := World.block_lt_of_cell? w8 _ q1
                have s1 : ∀ w', Below w8.heap.size w8 w' → w'.cell? ⟨bp, op + k, none⟩ = some (.int .i64 (PP N L k : Int)) := fun w' h => (h.cell (p := ⟨bp, op + k, none⟩) hcb).trans q1
                have s2 : ∀ w', Below w8.heap.size w8 w' → w'.cell? ⟨bp, op + j, none⟩ = some (.int .i64 (PP N L j : Int)) := fun w' h => (h.cell (p := ⟨bp, op + j, none⟩) hcb).trans q2
                refine RD.region (S := fun w' => Below w8.heap.size w8 w') (by kernel_rfl) (by kernel_rfl) (Below.refl _ _).drew ?_
                repeat (first
                  | (refine RD.walk_skip rfl ?_; simp only [Act.put, List.setIfInBounds_toArray, List.set_cons_succ, List.set_cons_zero])
                  | (refine RD.walk_op (v := ?_) rfl ?_ ?_; rotate_left; (intro w hS; go_simp; done); simp only [Act.put, List.setIfInBounds_toArray, List.set_cons_succ, List.set_cons_zero])
                  | (refine RD.walk_op (v := ?_) rfl ?_ ?_; rotate_left; (intro w hS; go_simp; rfl); simp only [Act.put, List.setIfInBounds_toArray, List.set_cons_succ, List.set_cons_zero])
                  | (refine RD.rd_at_call (v := .bool true) (f := 28) (args := #[.slice A6 R.length c6, .int .i64 (j : Int)]) rfl ?_ (fun w hS => (has_calls A6 c6 R (j : Int) w ((HR.out.1.keep HR2.out.2.2.2).keep hS) (by have := HR.out.2.2; omega)).mono (fun e w' h => ⟨h.1.trans (by rw [decide_eq_true HS.out.1]), by rw [← h.2]; exact hS⟩)) ?_
                     · intro w hS; go_simp; done
                     simp only [Act.put, List.setIfInBounds_toArray, List.set_cons_succ, List.set_cons_zero])
                  | (refine RD.rd_at_call (v := .bool false) (f := 28) (args := #[.slice A8 R2.length c8, .int .i64 (k : Int)]) rfl ?_ (fun w hS => (has_calls A8 c8 R2 (k : Int) w (HR2.out.1.keep hS) (by have := HR2.out.2.2.1; omega)).mono (fun e w' h => ⟨h.1.trans (by rw [decide_eq_false HS.out.2]), by rw [← h.2]; exact hS⟩)) ?_
                     · intro w hS; go_simp; done
                     simp only [Act.put, List.setIfInBounds_toArray, List.set_cons_succ, List.set_cons_zero]))
                refine RD.walk_nil ?_
                intro w9 hb9
                have HB9 := Lib.hid (below_then HR2.out.2.2.2 HR2.out.2.2.2.size hb9)
                clear s1 s2 q1 q2 hb9 hcb
                go_wp2_with fail
                go_roundw
                case rel => exact ⟨j + 1, by omega, by go_num, HB9.out⟩
                case measure => simp [intOf]; omega
            · have heq : ¬ PP N L k = PP N L j := fun e => hb1 (hm1.2 (hsim.1 e).1)
              have hne : ¬ ((PP N L k : Nat) : Int) = (PP N L j : Nat) := by omega
              have HS := Lib.hid (And.intro hb1 trivial)
              clear hsim hm1 hm2 heq
              go_upto_region 19 with fail
              have hcb := World.block_lt_of_cell? w8 _ q1
              have s1 : ∀ w', Below w8.heap.size w8 w' → w'.cell? ⟨bp, op + k, none⟩ = some (.int .i64 (PP N L k : Int)) := fun w' h => (h.cell (p := ⟨bp, op + k, none⟩) hcb).trans q1
              have s2 : ∀ w', Below w8.heap.size w8 w' → w'.cell? ⟨bp, op + j, none⟩ = some (.int .i64 (PP N L j : Int)) := fun w' h => (h.cell (p := ⟨bp, op + j, none⟩) hcb).trans q2
              refine RD.region (S := fun w' => Below w8.heap.size w8 w') (by kernel_rfl) (by kernel_rfl) (Below.refl _ _).drew ?_
              repeat (first
                | (refine RD.walk_skip rfl ?_; simp only [Act.put, List.setIfInBounds_toArray, List.set_cons_succ, List.set_cons_zero])
                | (refine RD.walk_op (v := ?_) rfl ?_ ?_; rotate_left; (intro w hS; go_simp; done); simp only [Act.put, List.setIfInBounds_toArray, List.set_cons_succ, List.set_cons_zero])
                | (refine RD.walk_op (v := ?_) rfl ?_ ?_; rotate_left; (intro w hS; go_simp; rfl); simp only [Act.put, List.setIfInBounds_toArray, List.set_cons_succ, List.set_cons_zero])
                | (refine RD.rd_at_call (v := .bool false) (f := 28) (args := #[.slice A6 R.length c6, .int .i64 (j : Int)]) rfl ?_ (fun w hS => (has_calls A6 c6 R (j : Int) w ((HR.out.1.keep HR2.out.2.2.2).keep hS) (by have := HR.out.2.2; omega)).mono (fun e w' h => ⟨h.1.trans (by rw [decide_eq_false HS.out.1]), by rw [← h.2]; exact hS⟩)) ?_
                   · intro w hS; go_simp; done
                   simp only [Act.put, List.setIfInBounds_toArray, List.set_cons_succ, List.set_cons_zero]))
              refine RD.walk_nil ?_
              intro w9 hb9
              have HB9 := Lib.hid (below_then HR2.out.2.2.2 HR2.out.2.2.2.size hb9)
              clear s1 s2 q1 q2 hb9 hcb
              go_wp2_with fail
              go_roundw
              case rel => exact ⟨j + 1, by omega, by go_num, HB9.out⟩
              case measure => simp [intOf]; omega
          · obtain rfl : k = j := by omega
            have H9 := Lib.hid (below_then H6.out.2.2 H6.out.2.2.size hB)
            clear hB hjk hj
            go_wp2_with fail
            go_roundw
            case rel => exact ⟨k + 1, by omega, by go_num, by rw [HX.out.2.1]; first | rw [Int.max_eq_right (by omega)] | rw [Int.max_eq_left (by omega)], H9.out⟩
            case measure => simp [intOf]; omega
    · obtain rfl : N = k := by omega
      obtain ⟨M, hM⟩ : ∃ M, M = mostF (PP N L) N := ⟨_, rfl⟩
      rw [← hM]
      have hM0 : -1 ≤ M ∧ M < 40 := by
        rcases (mostF_spec (PP N L) N).2 with e | ⟨v, hv, e⟩
        · omega
        · have := HP.out v hv
          omega
      have HM := Lib.hid hM
      have H5 := Lib.hid (And.intro (H4.out.1.keep hB) (And.intro (H4.out.2.1.keep hB) (below_then H4.out.2.2 H4.out.2.2.size hB)))
      clear hM H4 hB HP
      go_wp2_with fail
      go_loopw [15] (fun s wq => ∃ i : Nat, i ≤ L.length ∧ s = .int .i64 i ∧ Below wr.heap.size wr wq) (fun s _ => L.length - (intOf s).toNat)
      case atStart => exact ⟨0, Nat.zero_le _, rfl, Below.refl _ _⟩
      case round =>
        obtain ⟨i, hi, rfl, hB⟩ := hrel
        by_cases hlt : i < L.length
        · obtain ⟨b9, off9, rfl, ha0, ha1, ha2⟩ := rd_arc (H5.out.1.keep hB) hlt
          have hao := arcs_ok HC.out.2.2.hb _ (List.getElem_mem hlt)
          have hdn := (PP_spec HC.out.2.2).down _ (HC.out.2.2.arc (List.getElem_mem hlt)).1 _ (HC.out.2.2.arc (List.getElem_mem hlt)).2.2
          obtain ⟨f, hf⟩ := Int.eq_ofNat_of_zero_le hao.1
          obtain ⟨t, ht⟩ := Int.eq_ofNat_of_zero_le hao.2.2.1
          have hfn : f < N := by omega
          have htn : t < N := by omega
          have hft : L[i].f.toNat = f ∧ L[i].t.toNat = t := by omega
          rw [hft.1, hft.2] at hdn
          rw [hf] at ha0
          rw [ht] at ha1
          obtain ⟨bp, op, rfl, q1⟩ := rd_int (H5.out.2.1.keep hB) (j := f) (by simpa using hfn)
          have q2 := rd_intc (H5.out.2.1.keep hB) (k := t) (by simpa using htn)
          rw [ivs_range] at q1 q2
          have hle : ¬ ((PP N L f : Nat) : Int) < (PP N L t : Nat) := by omega
          have hi4 : i ≤ 400 := by have := HL.out; omega
          have HB := Lib.hid hB
          clear hao hdn hf ht hft hB ha2
          generalize PP N L f = p1 at *
          generalize PP N L t = p2 at *
          go_wp2_with fail
          go_quiet (fail)
          go_wp2_with fail
          go_roundw
          case rel => exact ⟨i + 1, by omega, by go_num, below_drewN HB.out _⟩
          case measure => simp [intOf]; omega
        · have H6 := Lib.hid (And.intro (H5.out.1.keep hB) (And.intro (H5.out.2.1.keep hB) (below_then H5.out.2.2 H5.out.2.2.size hB)))
          clear hB H5
          go_wp2_with fail
          go_loopw [16] (fun s wq => ∃ k : Nat, (k : Int) ≤ M + 1 ∧ s = .int .i64 k ∧ wr = wq) (fun s _ => (M + 1 - intOf s).toNat)
          case atStart => exact ⟨0, by omega, rfl, rfl⟩
          case round =>
            obtain ⟨k, hk, rfl, rfl⟩ := hrel
            by_cases hkM : (k : Int) ≤ M
            · go_wp2_with fail
              refine (least_calls A4 c4 N (fun v => (PP N L v : Int)) (k : Int) _ H6.out.2.1 (by omega)).mono ?_
              rintro e w5 ⟨⟨r, rfl, hr⟩, rfl⟩
              have hr0 : ¬ r < 0 := by
                obtain ⟨i, e, _⟩ := least_some HC.out.2.2 (by rw [← HM.out]; exact hkM) hr
                omega
              have HR := Lib.hid hr
              clear hr
              go_wp2_with fail
              go_loopw [17] (fun s wq => ∃ q : Nat, k + 1 ≤ q ∧ (q : Int) ≤ M + 1 ∧ s = .int .i64 q ∧ wr = wq) (fun s _ => (M + 1 - intOf s).toNat)
              case atStart => exact ⟨k + 1, by omega, by omega, by go_num, rfl⟩
              case round =>
                obtain ⟨q, hq1, hq, rfl, rfl⟩ := hrel
                by_cases hqM : (q : Int) ≤ M
                · go_wp2_with fail
                  refine (least_calls A4 c4 N (fun v => (PP N L v : Int)) (q : Int) _ H6.out.2.1 (by omega)).mono ?_
                  rintro e w5 ⟨⟨r1, rfl, hr1⟩, rfl⟩
                  have HR1 := Lib.hid hr1
                  clear hr1
                  go_wp2_with fail
                  refine (least_calls A4 c4 N (fun v => (PP N L v : Int)) (k : Int) _ H6.out.2.1 (by omega)).mono ?_
                  rintro e w5 ⟨⟨r2, rfl, hr2⟩, rfl⟩
                  have HR2 := Lib.hid hr2
                  clear hr2
                  by_cases h12 : r1 < r2
                  · have hany := held_true HC.out.2.2 (show k < q by omega) (by rw [← HM.out]; exact hqM) HR1.out HR2.out h12
                    have hcl := held_calls B A4 d c4 N L (fun v => (PP N L v : Int)) (q : Int) (k : Int) wr H6.out.1 (by have := HL.out; omega) (arcs_ok HC.out.2.2.hb) H6.out.2.1 (by omega)
                    rw [hany] at hcl
                    have HH := Lib.hid hcl
                    clear hany hcl
                    go_wp2_with fail
                    refine HH.out.mono ?_
                    rintro e w5 ⟨rfl, rfl⟩
                    go_wp2_with fail
                    go_roundw
                    case rel => exact ⟨q + 1, by omega, by omega, by go_num, by first | rfl | trivial⟩
                    case measure => simp [intOf]; omega
                  · go_wp2_with fail
                    go_roundw
                    case rel => exact ⟨q + 1, by omega, by omega, by go_num, by first | rfl | trivial⟩
                    case measure => simp [intOf]; omega
                · go_wp2_with fail
                  go_roundw
                  case rel => exact ⟨k + 1, by omega, by go_num, by first | rfl | trivial⟩
                  case measure => simp [intOf]; omega
            · go_wp2_with fail
              go_ret
              exact ⟨rfl, H6.out.2.2⟩
end Go.Proofs.Ytnhnckhjcnjacaa.ST
