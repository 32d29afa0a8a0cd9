/- Strata: the walk of the law StrataLeast. -/
import Derived.Test.YtnhnckhjcnjacaaUo
namespace Go.Proofs.Ytnhnckhjcnjacaa.ST
open Go.RowKit Go.Proofs.YtnhnckhjcnjacaaKw Go.Proofs.YtnhnckhjcnjacaaSg Go.Proofs.YtnhnckhjcnjacaaSw
set_option linter.unusedVariables false
set_option linter.unusedSimpArgs false

theorem rrFold {n : Nat} {l : List AI} (hg : GoodG n l) : l.foldl (ringA fun v => (PP n l v : Int)) (-1) = rr n l := by
  have := ringA_spec (fun v => (PP n l v : Int)) l [] (-1) (RSpec.nil _) fun a _ => by simp
  rw [List.nil_append] at this
  exact this.unique (rr_spec hg)
theorem ringL_pre (P : Nat → Int) (r : Int) (i : Nat) : ∀ m, i ≤ m → ∃ T, ringL P r m = ringL P r i ++ T := by
  intro m
  induction m with
  | zero => intro h; exact ⟨[], by rw [show i = 0 by omega]; simp⟩
  | succ m ih =>
    intro h
    by_cases e : i = m + 1
    · rw [e]; exact ⟨[], by simp⟩
    · obtain ⟨T, hT⟩ := ih (by omega)
      rw [ringL_succ, hT]
      exact ⟨T ++ if 0 ≤ r ∧ P m = r then [m] else [], by rw [List.append_assoc]⟩
/-- The next of the first ring. -/
theorem ringL_next {P : Nat → Int} {r : Int} {i N : Nat} (hi : i < N) (h0 : 0 ≤ r) (hP : P i = r) :
    (ringL P r (i + 1)).length = (ringL P r i).length + 1 ∧ ∃ h : (ringL P r i).length < ((ringL P r N).map fun x : Nat => (x : Int)).length, ((ringL P r N).map fun x : Nat => (x : Int))[(ringL P r i).length] = (i : Int) := by
  have hs := ringL_succ P r i
  rw [if_pos ⟨h0, hP⟩] at hs
  obtain ⟨T, hT⟩ := ringL_pre P r (i + 1) N hi
  refine ⟨by rw [hs]; simp, ?_⟩
  have hlen : (ringL P r i).length < ((ringL P r N).map fun x : Nat => (x : Int)).length := by
    rw [List.length_map, hT, hs]
    simp
  refine ⟨hlen, ?_⟩
  rw [List.getElem_map]
  congr 1
  have : (ringL P r N)[(ringL P r i).length]? = some i := by
    rw [hT, hs, List.append_assoc, List.getElem?_append_right (Nat.le_refl _), Nat.sub_self]
    rfl
  have h2 : (ringL P r i).length < (ringL P r N).length := by rw [List.length_map] at hlen; exact hlen
  rw [List.getElem?_eq_getElem h2] at this
  exact Option.some.inj this
theorem ringL_skip {P : Nat → Int} {r : Int} {i : Nat} (hP : P i ≠ r) : ringL P r (i + 1) = ringL P r i := by
  rw [ringL_succ, if_neg (fun h => hP h.2), List.append_nil]
/-- What a part is to have. -/
def wStep (P : Nat → Nat) (S W : Nat → Int) (a : AI) : Nat → Int := if P a.t.toNat = P a.f.toNat then W else fun v => if P v = P a.f.toNat then max (W v) (S a.t.toNat + ng a) else W v
def wF (P : Nat → Nat) (S : Nat → Int) (l : List AI) : Nat → Int := l.foldl (wStep P S) fun _ => 0
theorem wF_snoc (P : Nat → Nat) (S : Nat → Int) (l : List AI) (a : AI) : wF P S (l ++ [a]) = wStep P S (wF P S l) a := by simp [wF]
theorem wStep_ge (P : Nat → Nat) (S W : Nat → Int) (a : AI) (v : Nat) : W v ≤ wStep P S W a v := by
  unfold wStep
  split
  · exact Int.le_refl _
  · dsimp only
    split
    · exact Int.le_max_left _ _
    · exact Int.le_refl _
theorem wFold_ge (P : Nat → Nat) (S : Nat → Int) : ∀ (l : List AI) (W : Nat → Int) (v : Nat), W v ≤ l.foldl (wStep P S) W v
  | [], W, v => Int.le_refl _
  | a :: l, W, v => Int.le_trans (wStep_ge P S W a v) (wFold_ge P S l _ v)
theorem wFold_att (P : Nat → Nat) (S : Nat → Int) : ∀ (l : List AI) (W : Nat → Int) (v : Nat), ∀ a ∈ l, P a.f.toNat = P v → P a.t.toNat ≠ P v → S a.t.toNat + ng a ≤ l.foldl (wStep P S) W v
  | [], W, v, a, ha, _, _ => by simp at ha
  | b :: l, W, v, a, ha, h1, h2 => by
    rcases List.mem_cons.1 ha with rfl | ha
    · refine Int.le_trans ?_ (wFold_ge P S l _ v)
      unfold wStep
      rw [if_neg (by rw [h1]; exact h2)]
      rw [if_pos h1.symm]
      exact Int.le_max_right _ _
    · exact wFold_att P S l _ v a ha h1 h2
theorem wF_eq {n : Nat} {l : List AI} (hg : GoodG n l) : ∀ v, v < n → SS n l v = wF (PP n l) (SS n l) l v := by
  have hS := SS_spec hg
  intro v hv
  refine Int.le_antisymm ?_ ?_
  · rcases hS.att v hv with e | ⟨a, ha, h1, h2, h3⟩
    · rw [e]; exact wFold_ge (PP n l) (SS n l) l (fun _ => 0) v
    · rw [h3]; exact wFold_att (PP n l) (SS n l) l (fun _ => 0) v a ha h1 h2
  · suffices key : ∀ (k : List AI), (∀ a ∈ k, a ∈ l) → ∀ W : Nat → Int, (∀ v, v < n → W v ≤ SS n l v) → ∀ v, v < n → k.foldl (wStep (PP n l) (SS n l)) W v ≤ SS n l v from
      key l (fun a ha => ha) (fun _ => 0) hS.nonneg v hv
    intro k
    induction k with
    | nil => intro _ W hW v hv; exact hW v hv
    | cons a k ih =>
      intro hk W hW v hv
      refine ih (fun b hb => hk b (List.mem_cons_of_mem _ hb)) _ (fun u hu => ?_) v hv
      unfold wStep
      split
      · exact hW u hu
      · rename_i hne
        dsimp only
        split
        · rename_i he
          have ha := hk a (by simp)
          have h1 := hS.ge a ha (fun e => hne e.symm)
          have h2 := hS.part u hu _ (hg.arc ha).1 he
          have h3 := hW u hu
          rcases Int.le_total (W u) (SS n l a.t.toNat + ng a) with h | h
          · rw [Int.max_eq_right h]; omega
          · rw [Int.max_eq_left h]; exact h3
        · exact hW u hu
/-- An array that is written. -/
structure WA (w0 w : World) (b n : Nat) (W : Nat → Int) : Prop where
  arr : IArr w b n W
  lo : w0.heap.size ≤ b
  below : Below w0.heap.size w0 w
theorem WA.set {w0 w : World} {b n v : Nat} {W : Nat → Int} (h : WA w0 w b n W) (hv : v < n) (x : Int) : WA w0 (w.setCell ⟨b, v, none⟩ (.int .i64 x)) b n (upd W v x) := by
  have ht := Ap.setCell_tch w ⟨b, v, none⟩ (.int .i64 x) (fun q => q = b) rfl
  have hl := h.lo
  exact ⟨h.arr.set hv x, h.lo, below_tch h.below h.below.size ht (fun q _ hq => by omega)⟩
theorem WA.congr {w0 w : World} {b n : Nat} {W W' : Nat → Int} (h : WA w0 w b n W) (he : ∀ v, v < n → W' v = W v) : WA w0 w b n W' := ⟨h.arr.congr he, h.lo, h.below⟩
theorem WA.drew {w0 w : World} {b n : Nat} {W : Nat → Int} (h : WA w0 w b n W) (k : Nat) : WA w0 (w.drewN k) b n W := ⟨h.arr.keep (below_drewN (Below.refl _ _) k), h.lo, below_drewN h.below k⟩
set_option maxHeartbeats 16000000 in
set_option maxRecDepth 100000 in
theorem least_law (A : Option Addr) (c : Nat) (n : Int) (l : List AI) (w : World) (hr : Rd w A (avs l)) (hl : l.length ≤ c ∧ c ≤ maxLen ∧ l.length * 24 ≤ 140737488351232) (hn : b64 n) (hb : ∀ a ∈ l, b64 a.f ∧ b64 a.t) :
    Calls Try.prog 8 #[.int .i64 n, .slice A l.length c] w fun e w' => e = .returned (.bool true) ∧ Below w.heap.size w w' := by
  obtain ⟨N, hN, hN40, hg⟩ := fit_good n l
  have hfit := fun w1 (h : Rd w1 A (avs l)) => fit_at A c N n l w1 hN h (by omega) hn hb
  have HL := Lib.hid (fitL_le N l)
  generalize fitL N l = L at *
  have HC := Lib.hid (And.intro hr (And.intro hfit hg))
  clear hr hl hn hb hfit hN hg
  go_enter Try.func8, Try.ntmps8
  go_wp2_with fail
  refine (awake_calls w).mono ?_
  rintro e w1 ⟨rfl, hB⟩
  have H1 := Lib.hid hB
  clear hB
  go_wp2_with fail
  refine (HC.out.2.1 w1 (HC.out.1.keep H1.out)).mono ?_
  rintro e w2 ⟨⟨B, d, rfl, ho⟩, hB⟩
  have H2 := Lib.hid (And.intro (own_rd ho) (below_then H1.out H1.out.size hB))
  clear ho hB H1
  go_wp2_with fail
  refine (copyArcs_calls B d L w2 H2.out.1 (by have := HL.out; omega)).mono ?_
  rintro e w3 ⟨B3, d3, rfl, ho3, hB⟩
  have H3 := Lib.hid (And.intro (H2.out.1.keep hB) (And.intro (own_rd ho3) (below_then H2.out.2 H2.out.2.size hB)))
  clear ho3 hB H2
  go_wp2_with fail
  refine (parts_ans B3 d3 N L w3 H3.out.2.1 (by have := HL.out; omega)).mono ?_
  rintro e w4 ⟨⟨A4, c4, rfl, ho4⟩, hB⟩
  have H4 := Lib.hid (And.intro (H3.out.1.keep hB) (And.intro (rd_parts HC.out.2.2 (own_rd ho4)) (below_then H3.out.2.2 H3.out.2.2.size hB)))
  rw [partsV_n HC.out.2.2, HC.out.2.2.fault]
  clear ho4 hB H3
  go_wp2_with fail
  refine (copyArcs_calls B d L w4 H4.out.1 (by have := HL.out; omega)).mono ?_
  rintro e w5 ⟨B5, d5, rfl, ho, hB⟩
  have H5 := Lib.hid (And.intro (H4.out.1.keep hB) (And.intro (own_rd ho) (And.intro (H4.out.2.1.keep hB) (below_then H4.out.2.2 H4.out.2.2.size hB))))
  clear ho hB H4
  go_wp2_with fail
  refine (strata_ans B5 d5 N L w5 H5.out.2.1 (by have := HL.out; omega)).mono ?_
  rintro e w6 ⟨⟨A6, c6, rfl, ho⟩, hB⟩
  have H6 := Lib.hid (And.intro (H5.out.1.keep hB) (And.intro (H5.out.2.2.1.keep hB) (And.intro (own_rd ho) (below_then H5.out.2.2.2 H5.out.2.2.2.size hB))))
  clear ho hB H5
  go_wp2_with fail
  refine (copyArcs_calls B d L w6 H6.out.1 (by have := HL.out; omega)).mono ?_
  rintro e w7 ⟨B7, d7, rfl, ho, hB⟩
  have H7 := Lib.hid (And.intro (H6.out.1.keep hB) (And.intro (own_rd ho) (And.intro (H6.out.2.1.keep hB) (And.intro (H6.out.2.2.1.keep hB) (below_then H6.out.2.2.2 H6.out.2.2.2.size hB)))))
  clear ho hB H6
  go_wp2_with fail
  refine (ring_ans B7 d7 N L w7 H7.out.2.1 (by have := HL.out; omega)).mono ?_
  rw [HC.out.2.2.fault]
  rintro e w8 ⟨⟨A8, c8, rfl, ho⟩, hB⟩
  have H8 := Lib.hid (And.intro (H7.out.1.keep hB) (And.intro (H7.out.2.2.1.keep hB) (And.intro (H7.out.2.2.2.1.keep hB) (And.intro (own_rd ho) (below_then H7.out.2.2.2.2 H7.out.2.2.2.2.size hB)))))
  clear ho hB H7
  obtain ⟨r, hr⟩ : ∃ r, r = rr N L := ⟨_, rfl⟩
  have hrs := rr_spec HC.out.2.2
  have hfold := rrFold HC.out.2.2
  rw [← hr] at hrs hfold
  have hst : (0 ≤ r → strataE N L = 81 ∧ strataV N L = []) ∧ (¬ 0 ≤ r → strataE N L = 0 ∧ strataV N L = (List.range N).map (SS N L)) := by
    have hne : ¬ fault N L ≠ 0 := fun e => e HC.out.2.2.fault
    unfold strataE strataV
    rw [if_neg hne, if_neg hne, Int.toNat_natCast, ← hr]
    exact ⟨fun h => by rw [if_pos h, if_pos h]; exact ⟨rfl, rfl⟩, fun h => by rw [if_neg h, if_neg h]; exact ⟨rfl, rfl⟩⟩
  have H8 := Lib.hid H8.out
  have hring := ring_good HC.out.2.2
  rw [← hr] at hring
  have hrd8 := H8.out.2.2.2.1
  have hrd6 := H8.out.2.2.1
  rw [hring] at hrd8 ⊢
  rw [List.length_map]
  generalize strataE N L = E at *
  generalize strataV N L = SV at *
  have hPlt : ∀ v, v < N → PP N L v < 40 ∧ 0 ≤ SS N L v ∧ SS N L v ≤ 40 := fun v hv => by
    have h1 := (PP_spec HC.out.2.2).lt v hv
    obtain ⟨_, _, _, _, _, h2, _⟩ := PP_plan HC.out.2.2
    have h3 := (SS_spec HC.out.2.2).le HC.out.2.2 (PP_spec HC.out.2.2) (PP N L v) v (Nat.le_refl _) hv
    have h4 := (SS_spec HC.out.2.2).nonneg v hv
    omega
  have H9 := Lib.hid (And.intro H8.out.1 (And.intro H8.out.2.1 (And.intro hrd6 (And.intro hrd8 H8.out.2.2.2.2))))
  have HS := Lib.hid (And.intro hrs (And.intro hfold (And.intro hst hPlt)))
  have HE := Lib.hid hr
  clear H8 hrd8 hrd6 hrs hfold hst hPlt hring hr
  go_wp2_with fail
  go_loop [12, 13] (fun z i => ∃ k : Nat, k ≤ L.length ∧ i = .int .i64 k ∧ z = .int .i64 ((L.take k).foldl (ringA fun v => (PP N L v : Int)) (-1))) (fun _ i => L.length - (intOf i).toNat)
  case atStart => exact ⟨0, Nat.zero_le _, rfl, rfl⟩
  case round =>
    obtain ⟨k, hk, rfl, rfl⟩ := hrel
    have hk4 : k ≤ 400 := by have := HL.out; omega
    by_cases hlt : k < L.length
    · obtain ⟨b9, off9, rfl, ha0, ha1, ha2⟩ := rd_arc H9.out.1 hlt
      have hao := arcs_ok HC.out.2.2.hb _ (List.getElem_mem hlt)
      obtain ⟨f, hf⟩ := Int.eq_ofNat_of_zero_le hao.1
      obtain ⟨t, ht⟩ := Int.eq_ofNat_of_zero_le hao.2.2.1
      have hfn : f < N := by omega
      have htn : t < N := by omega
      have hra : ∀ r : Int, ringA (fun v => (PP N L v : Int)) r L[k] = if L[k].neg = true ∧ (PP N L f : Int) = PP N L t ∧ (r < 0 ∨ (PP N L f : Int) < r) then (PP N L f : Int) else r := by
        intro r
        unfold ringA
        rw [hf, ht]
        rfl
      have hsj := foldl_take_succ (ringA fun v => (PP N L v : Int)) (-1) L k hlt
      rw [hra] at hsj
      rw [hf] at ha0
      rw [ht] at ha1
      obtain ⟨bp, op, rfl, k1⟩ := rd_int H9.out.2.1 (j := f) (by simpa using hfn)
      have k2 := rd_intc H9.out.2.1 (k := t) (by simpa using htn)
      rw [ivs_range] at k1 k2
      have HJ := Lib.hid hsj
      clear hao hf ht hra hsj
      generalize (L.take k).foldl (ringA fun v => (PP N L v : Int)) (-1) = r0 at *
      generalize L[k].neg = an at *
      generalize PP N L f = p at *
      generalize PP N L t = q at *
      cases an with
      | false =>
        go_wp2_with fail
        go_round
        case rel => exact ⟨k + 1, by omega, by go_num, by rw [HJ.out, if_neg (fun h => Bool.noConfusion h.1)]⟩
        case measure => simp [intOf]; omega
      | true =>
        by_cases h1 : (q : Int) = p
        · by_cases h2 : r0 < 0
          · go_wp2_with fail
            go_round
            case rel => exact ⟨k + 1, by omega, by go_num, by rw [HJ.out, if_pos ⟨rfl, h1.symm, .inl h2⟩]⟩
            case measure => simp [intOf]; omega
          · by_cases h3 : (p : Int) < r0
            · go_wp2_with fail
              go_round
              case rel => exact ⟨k + 1, by omega, by go_num, by rw [HJ.out, if_pos ⟨rfl, h1.symm, .inr h3⟩]⟩
              case measure => simp [intOf]; omega
            · go_wp2_with fail
              go_round
              case rel => exact ⟨k + 1, by omega, by go_num, by rw [HJ.out, if_neg (fun h => h.2.2.elim h2 h3)]⟩
              case measure => simp [intOf]; omega
        · go_wp2_with fail
          go_round
          case rel => exact ⟨k + 1, by omega, by go_num, by rw [HJ.out, if_neg (fun h => h1 h.2.1.symm)]⟩
          case measure => simp [intOf]; omega
    · obtain rfl : k = L.length := by omega
      rw [List.take_length, HS.out.2.1]
      go_wp2_with fail
      go_loop [15, 16] (fun z i => ∃ k : Nat, k ≤ N ∧ i = .int .i64 k ∧ z = .int .i64 (ringL (fun v => (PP N L v : Int)) r k).length) (fun _ i => N - (intOf i).toNat)
      case atStart => exact ⟨0, Nat.zero_le _, rfl, rfl⟩
      case round =>
        obtain ⟨k, hk, rfl, rfl⟩ := hrel
        by_cases hkN : k < N
        · obtain ⟨bp, op, rfl, k1⟩ := rd_int H9.out.2.1 (j := k) (by simpa using hkN)
          rw [ivs_range] at k1
          have hrl := ringL_len (fun v => (PP N L v : Int)) r k
          by_cases h1 : ((PP N L k : Nat) : Int) = r
          · obtain ⟨e1, h2, e2⟩ := ringL_next (P := fun v => (PP N L v : Int)) (r := r) hkN (by omega) h1
            obtain ⟨b8, o8, rfl, k2⟩ := rd_int H9.out.2.2.2.1 h2
            rw [e2] at k2
            rw [List.length_map] at h2
            have HJ := Lib.hid e1
            clear e1 e2
            generalize (ringL (fun v => (PP N L v : Int)) r k).length = m at *
            go_wp2_with fail
            go_round
            case rel => exact ⟨k + 1, by omega, by go_num, by rw [HJ.out]; go_num⟩
            case measure => simp [intOf]; omega
          · have HJ := Lib.hid (ringL_skip (P := fun v => (PP N L v : Int)) (r := r) h1)
            go_wp2_with fail
            go_round
            case rel => exact ⟨k + 1, by omega, by go_num, by rw [HJ.out]⟩
            case measure => simp [intOf]; omega
        · obtain rfl : N = k := by omega
          by_cases hr0 : 0 ≤ r
          · obtain ⟨rfl, rfl⟩ := HS.out.2.2.1.1 hr0
            go_wp2_with fail
            go_ret
            exact ⟨rfl, H9.out.2.2.2.2⟩
          · obtain ⟨rfl, hSV⟩ := HS.out.2.2.1.2 (by omega)
            have hSl : SV.length = N := by rw [hSV]; simp
            have hrd := H9.out.2.2.1
            rw [hSV] at hrd
            rw [hSl]
            have HV := Lib.hid (And.intro hSV hrd)
            clear hSV hSl hrd
            go_wp2_with (at_make; refine make_arr (Value.int .i64) 0 _ (.tmp 152) (.tmp 152) 26 3 8 N Try.underlying26 info3 rfl rfl rfl rfl rfl (by omega) (by unfold maxLen; omega) ?_; intro w9 hA9 hB9)
            have hst : WA w8 w9 w8.heap.size N (wF (PP N L) (SS N L) (L.take 0)) := ⟨hA9, Nat.le_refl _, hB9⟩
            obtain ⟨wb, hwb⟩ : ∃ wb, wb = w8.heap.size := ⟨_, rfl⟩
            rw [← hwb] at hst ⊢
            have HW := Lib.hid hst
            clear hA9 hB9 hst hwb
            go_loopw [18] (fun s wq => ∃ i : Nat, i ≤ L.length ∧ s = .int .i64 i ∧ WA w8 wq wb N (wF (PP N L) (SS N L) (L.take i))) (fun s _ => L.length - (intOf s).toNat)
            case atStart => exact ⟨0, Nat.zero_le _, rfl, HW.out⟩
            case round =>
              clear HW
              obtain ⟨i, hi, rfl, hW⟩ := hrel
              have hi4 : i ≤ 400 := by have := HL.out; omega
              by_cases hlt : i < L.length
              · obtain ⟨b9, off9, rfl, ha0, ha1, ha2⟩ := rd_arc (H9.out.1.keep hW.below) hlt
                have hao := arcs_ok HC.out.2.2.hb _ (List.getElem_mem hlt)
                obtain ⟨f, hf⟩ := Int.eq_ofNat_of_zero_le hao.1
                obtain ⟨t, ht⟩ := Int.eq_ofNat_of_zero_le hao.2.2.1
                have hfn : f < N := by omega
                have htn : t < N := by omega
                have hsn : wF (PP N L) (SS N L) (L.take (i + 1)) = wStep (PP N L) (SS N L) (wF (PP N L) (SS N L) (L.take i)) L[i] := by
                  rw [List.take_succ_eq_append_getElem hlt, wF_snoc]
                have hws : ∀ W, wStep (PP N L) (SS N L) W L[i] = if PP N L t = PP N L f then W else fun v => if PP N L v = PP N L f then max (W v) (SS N L t + ng L[i]) else W v := by
                  intro W
                  unfold wStep
                  rw [hf, ht]
                  rfl
                rw [hws] at hsn
                have HF := Lib.hid hf
                rw [hf] at ha0
                rw [ht] at ha1
                obtain ⟨bp, op, rfl, k1⟩ := rd_int (H9.out.2.1.keep hW.below) (j := f) (by simpa using hfn)
                have k2 := rd_intc (H9.out.2.1.keep hW.below) (k := t) (by simpa using htn)
                rw [ivs_range] at k1 k2
                obtain ⟨bs, os, rfl, k3⟩ := rd_int (HV.out.2.keep hW.below) (j := t) (by simpa using htn)
                rw [ivs_range] at k3
                have hSt := (HS.out.2.2.2 t htn).2
                have hng : ng L[i] = if L[i].neg = true then 1 else 0 := rfl
                have HJ := Lib.hid (And.intro hsn hW)
                clear hao hf ht hws hsn hW
                generalize wF (PP N L) (SS N L) (L.take i) = W at *
                by_cases hpq : ((PP N L t : Nat) : Int) = (PP N L f : Nat)
                · have hW2 : wF (PP N L) (SS N L) (L.take (i + 1)) = W := by rw [HJ.out.1, if_pos (by omega)]
                  have HK := Lib.hid (show WA w8 wr wb N (wF (PP N L) (SS N L) (L.take (i + 1))) by rw [hW2]; exact HJ.out.2)
                  clear hW2
                  generalize PP N L t = pt at *
                  generalize PP N L f = pf at *
                  go_wp2_with fail
                  go_quiet (fail)
                  go_wp2_with fail
                  go_roundw
                  case rel => exact ⟨i + 1, by omega, by go_num, HK.out.drew _⟩
                  case measure => simp [intOf]; omega
                · have hneN : ¬ PP N L t = PP N L f := by omega
                  obtain ⟨x, hx⟩ : ∃ x, x = SS N L t + ng L[i] := ⟨_, rfl⟩
                  have hW2 : wF (PP N L) (SS N L) (L.take (i + 1)) = fun v => if PP N L v = PP N L f then max (W v) x else W v := by rw [HJ.out.1, if_neg hneN, hx]
                  rw [hng] at hx
                  have HK := Lib.hid (And.intro hW2 HJ.out.2)
                  clear hW2 hneN HJ hng
                  cases hneg : L[i].neg with
                  | false =>
                    rw [hneg] at ha2 hx
                    rw [if_neg (fun h => Bool.noConfusion h)] at hx
                    rw [show SS N L t = x by omega] at k3
                    clear hneg hx hSt
                    go_wp2_with fail
                    go_quiet (fail)
                    go_wp2_with fail
                    clear k1 k2 k3 ha0 ha1 ha2
                    go_loopw [20] (fun s wq => ∃ v : Nat, v ≤ N ∧ s = .int .i64 v ∧ WA w8 wq wb N (fun u => if u < v then (if PP N L u = PP N L f then max (W u) x else W u) else W u)) (fun s _ => N - (intOf s).toNat)
                    case atStart => exact ⟨0, Nat.zero_le _, rfl, (HK.out.2.drew _).congr fun v hv => by simp⟩
                    case round =>
                      obtain ⟨v, hv, rfl, hW⟩ := hrel
                      by_cases hvN : v < N
                      · have k1 := rd_intc (H9.out.2.1.keep hW.below) (k := f) (by simpa using hfn)
                        have k2 := rd_intc (H9.out.2.1.keep hW.below) (k := v) (by simpa using hvN)
                        rw [ivs_range] at k1 k2
                        obtain ⟨ha0, ha1, ha2⟩ := rd_arcc (H9.out.1.keep hW.below) hlt
                        rw [HF.out] at ha0
                        have k4 := hW.arr.cell hvN
                        simp only [Nat.lt_irrefl, if_false] at k4
                        have k5 := hW.arr.fz v
                        have HX := Lib.hid hW
                        clear hW ha1 ha2
                        by_cases hpe : ((PP N L v : Nat) : Int) = (PP N L f : Nat)
                        · have hpN : PP N L v = PP N L f := by omega
                          have HPN := Lib.hid hpN
                          clear hpN
                          go_wp2_with fail
                          go_quiet (fail)
                          go_wp2_with fail
                          all_goals
                            go_roundw
                            case rel => exact ⟨v + 1, by omega, by go_num, ((HX.out.drew _).set hvN _).congr fun u hu => by
                              by_cases e : u = v
                              · subst e
                                rw [if_pos (show u < u + 1 by omega), if_pos HPN.out, upd_same]
                                omega
                              · rw [upd_other _ _ e]
                                by_cases e2 : u < v
                                · rw [if_pos e2, if_pos (by omega)]
                                · rw [if_neg e2, if_neg (by omega)]⟩
                            case measure => simp [intOf]; omega
                        · have hpN : ¬ PP N L v = PP N L f := by omega
                          have HPN := Lib.hid hpN
                          clear hpN
                          go_wp2_with fail
                          go_quiet (fail)
                          go_wp2_with fail
                          go_roundw
                          case rel => exact ⟨v + 1, by omega, by go_num, (HX.out.drew _).congr fun u hu => by
                            by_cases e : u = v
                            · subst e
                              rw [if_pos (show u < u + 1 by omega), if_neg HPN.out, if_neg (Nat.lt_irrefl u)]
                            · by_cases e2 : u < v
                              · rw [if_pos e2, if_pos (by omega)]
                              · rw [if_neg e2, if_neg (by omega)]⟩
                          case measure => simp [intOf]; omega
                      · have HX := Lib.hid (show WA w8 wr wb N (wF (PP N L) (SS N L) (L.take (i + 1))) by
                          rw [HK.out.1]
                          exact hW.congr fun u hu => by rw [if_pos (show u < v by omega)])
                        clear hW
                        go_wp2_with fail
                        go_roundw
                        case rel => exact ⟨i + 1, by omega, by go_num, HX.out⟩
                        case measure => simp [intOf]; omega
                  | true =>
                    rw [hneg] at ha2 hx
                    rw [if_pos rfl] at hx
                    have hw : IntKind.i64.wrap (SS N L t + 1) = x := by rw [hx]; exact IntWalk.i64_in _ (by omega)
                    clear hneg hx
                    go_wp2_with fail
                    go_quiet (fail)
                    go_wp2_with fail
                    clear k1 k2 k3 ha0 ha1 ha2
                    go_loopw [20] (fun s wq => ∃ v : Nat, v ≤ N ∧ s = .int .i64 v ∧ WA w8 wq wb N (fun u => if u < v then (if PP N L u = PP N L f then max (W u) x else W u) else W u)) (fun s _ => N - (intOf s).toNat)
                    case atStart => exact ⟨0, Nat.zero_le _, rfl, (HK.out.2.drew _).congr fun v hv => by simp⟩
                    case round =>
                      obtain ⟨v, hv, rfl, hW⟩ := hrel
                      by_cases hvN : v < N
                      · have k1 := rd_intc (H9.out.2.1.keep hW.below) (k := f) (by simpa using hfn)
                        have k2 := rd_intc (H9.out.2.1.keep hW.below) (k := v) (by simpa using hvN)
                        rw [ivs_range] at k1 k2
                        obtain ⟨ha0, ha1, ha2⟩ := rd_arcc (H9.out.1.keep hW.below) hlt
                        rw [HF.out] at ha0
                        have k4 := hW.arr.cell hvN
                        simp only [Nat.lt_irrefl, if_false] at k4
                        have k5 := hW.arr.fz v
                        have HX := Lib.hid hW
                        clear hW ha1 ha2
                        by_cases hpe : ((PP N L v : Nat) : Int) = (PP N L f : Nat)
                        · have hpN : PP N L v = PP N L f := by omega
                          have HPN := Lib.hid hpN
                          clear hpN
                          go_wp2_with fail
                          go_quiet (fail)
                          go_wp2_with fail
                          all_goals
                            go_roundw
                            case rel => exact ⟨v + 1, by omega, by go_num, ((HX.out.drew _).set hvN _).congr fun u hu => by
                              by_cases e : u = v
                              · subst e
                                rw [if_pos (show u < u + 1 by omega), if_pos HPN.out, upd_same]
                                omega
                              · rw [upd_other _ _ e]
                                by_cases e2 : u < v
                                · rw [if_pos e2, if_pos (by omega)]
                                · rw [if_neg e2, if_neg (by omega)]⟩
                            case measure => simp [intOf]; omega
                        · have hpN : ¬ PP N L v = PP N L f := by omega
                          have HPN := Lib.hid hpN
                          clear hpN
                          go_wp2_with fail
                          go_quiet (fail)
                          go_wp2_with fail
                          go_roundw
                          case rel => exact ⟨v + 1, by omega, by go_num, (HX.out.drew _).congr fun u hu => by
                            by_cases e : u = v
                            · subst e
                              rw [if_pos (show u < u + 1 by omega), if_neg HPN.out, if_neg (Nat.lt_irrefl u)]
                            · by_cases e2 : u < v
                              · rw [if_pos e2, if_pos (by omega)]
                              · rw [if_neg e2, if_neg (by omega)]⟩
                          case measure => simp [intOf]; omega
                      · have HX := Lib.hid (show WA w8 wr wb N (wF (PP N L) (SS N L) (L.take (i + 1))) by
                          rw [HK.out.1]
                          exact hW.congr fun u hu => by rw [if_pos (show u < v by omega)])
                        clear hW
                        go_wp2_with fail
                        go_roundw
                        case rel => exact ⟨i + 1, by omega, by go_num, HX.out⟩
                        case measure => simp [intOf]; omega
              · obtain rfl : i = L.length := by omega
                rw [List.take_length] at hW
                have hrd : Rd wr (some ⟨wb, 0, none⟩) (ivs SV) := by
                  rw [HV.out.1]
                  exact rd_iarr (hW.arr.congr fun v hv => wF_eq HC.out.2.2 v hv)
                have hrd2 := H9.out.2.2.1.keep hW.below
                have hSl : SV.length = N := by rw [HV.out.1]; simp
                have hsc := same_calls A6 (some ⟨wb, 0, none⟩) c6 N SV wr hrd2 hrd (by omega)
                rw [hSl] at hsc
                have HF := Lib.hid (And.intro hsc (below_then H9.out.2.2.2.2 H9.out.2.2.2.2.size hW.below))
                clear hrd hrd2 hSl hsc hW
                go_wp2_with fail
                refine HF.out.1.mono ?_
                rintro e w10 ⟨rfl, hB⟩
                have HG := Lib.hid (below_then HF.out.2 HF.out.2.size hB)
                clear hB
                go_wp2_with fail
                go_ret
                exact ⟨rfl, HG.out⟩
end Go.Proofs.Ytnhnckhjcnjacaa.ST
