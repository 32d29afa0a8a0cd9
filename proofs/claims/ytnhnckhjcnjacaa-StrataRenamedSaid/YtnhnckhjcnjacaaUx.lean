/- Strata: the walk of the law StrataRenamed. -/
import Derived.Test.YtnhnckhjcnjacaaUw
import Derived.Test.YtnhnckhjcnjacaaUs
namespace Go.Proofs.Ytnhnckhjcnjacaa.ST
open Go.RowKit Go.Proofs.YtnhnckhjcnjacaaKw Go.Proofs.YtnhnckhjcnjacaaSg Go.Proofs.YtnhnckhjcnjacaaSw
set_option linter.unusedVariables false
set_option linter.unusedSimpArgs false

theorem nm_int {N cN i : Nat} (hi : i < N) : ((N : Int) - 1 - i + cN) % (N : Int) = (nm N cN i : Int) := by
  have e : ((N : Int) - 1 - i + cN) = ((N - 1 - i + cN : Nat) : Int) := by omega
  rw [e]
  unfold nm
  exact (Int.natCast_emod _ _).symm
/-- A call, as one step of a region that draws. -/
theorem step_call {P : Program} {ops : Array Oper} {o : Oper} {a : Act} {w : World} {K : Act → World → Prop} {Q : Exit → Act → World → Prop} {E : Prop} (hg : o.guard = none) (f : FuncId) (args : Array Value) (R : Ending → World → Prop)
    (hrun : (execOp a.eval o).run P w = .ok (.enter f args) w) (hc : Calls P f args w R) (hret : ∀ e w', R e w' → ∃ v, e = .returned v) (hK : ∀ v w', R (.returned v) w' → K (a.put o.dst v) w') :
    if Region.wanted o (yielded ops a.tmps) = true then Oper.wp P o a w K Q else E := by
  have hw : Region.wanted o (yielded ops a.tmps) = true := by simp [Region.wanted, hg]
  rw [if_pos hw]
  unfold Oper.wp
  rw [hrun]
  simp only [Oper.upon]
  exact Calls.mono hc fun e w' h => by
    obtain ⟨v, rfl⟩ := hret e w' h
    exact hK v w' h
theorem cellB {w : World} {p : Addr} {v : Value} (hc : w.cell? p = some v) : ∀ w', Below w.heap.size w w' → w'.cell? p = some v := fun w' h => (h.cell (World.block_lt_of_cell? w _ hc)).trans hc
/-- What stands while the answers are compared. -/
structure RN (w0 w : World) (tb nb N : Nat) (B Am : Option Addr) (L M : List AI) (g : Nat → Nat) (t : List Int) : Prop where
  t : Rd w (some ⟨tb, 0, none⟩) (ivs t)
  x : Rd w B (avs L)
  nm : IArr w nb N (fun v => (g v : Int))
  m : Rd w Am (avs M)
  below : Below w0.heap.size w0 w
theorem RN.keep {w0 w w' : World} {tb nb N : Nat} {B Am : Option Addr} {L M : List AI} {g : Nat → Nat} {t : List Int} (h : RN w0 w tb nb N B Am L M g t) (hb : Below w.heap.size w w') : RN w0 w' tb nb N B Am L M g t :=
  ⟨h.t.keep hb, h.x.keep hb, h.nm.keep hb, h.m.keep hb, below_then h.below h.below.size hb⟩
theorem strata_both {N : Nat} {g : Nat → Nat} {L M : List AI} (hg : Inv N g) (hL : GoodG N L) (hM : GoodG N M) (h : Hom g L M) (h' : Hom g M L) :
    strataE N M = strataE N L ∧ (strataV N M).length = (strataV N L).length ∧ (strataE N L = 0 → strataV N L = (List.range N).map (SS N L) ∧ strataV N M = (List.range N).map (SS N M) ∧ ∀ v, v < N → SS N L v = SS N M (g v)) := by
  have n1 : ¬ fault N L ≠ 0 := fun e => e hL.fault
  have n2 : ¬ fault N M ≠ 0 := fun e => e hM.fault
  unfold strataE strataV
  rw [if_neg n1, if_neg n1, if_neg n2, if_neg n2, Int.toNat_natCast]
  by_cases h0 : 0 ≤ rr N L
  · have h1 := h.ring hg hL hM h' h0
    rw [if_pos h0, if_pos h0, if_pos h1, if_pos h1]
    exact ⟨rfl, rfl, fun e => by omega⟩
  · have h1 : ¬ 0 ≤ rr N M := fun e => h0 (h'.ring hg hM hL h e)
    rw [if_neg h0, if_neg h0, if_neg h1, if_neg h1]
    exact ⟨rfl, by simp, fun _ => ⟨rfl, rfl, fun v hv => h.level hg hL hM h' h0 h1 hv⟩⟩
set_option maxHeartbeats 16000000 in
set_option maxRecDepth 100000 in
theorem renamed_law (A : Option Addr) (c : Nat) (n by' kk : Int) (l : List AI) (w : World) (hr : Rd w A (avs l)) (hl : l.length ≤ c ∧ c ≤ maxLen ∧ l.length * 24 ≤ 140737488351232) (hn : b64 n) (hb : ∀ a ∈ l, b64 a.f ∧ b64 a.t) (hby : b64 by') (hkk : b64 kk) :
    Calls Try.prog 9 #[.int .i64 n, .slice A l.length c, .agg #[.int .i64 by', .int .i64 kk]] w fun e w' => e = .returned (.bool true) ∧ Below w.heap.size w w' := by
  obtain ⟨N, hN, hN40, hg⟩ := fit_good n l
  have hfit := fun w1 (h : Rd w1 A (avs l)) => fit_at A c N n l w1 hN h (by omega) hn hb
  have HL := Lib.hid (fitL_le N l)
  generalize fitL N l = L at *
  have HC := Lib.hid (And.intro hr (And.intro hfit hg))
  have HT := Lib.hid (And.intro hby hkk)
  clear hr hl hn hb hfit hN hg hby hkk
  go_enter Try.func9, Try.ntmps9
  go_upto_region 1 with fail
  have hrt := rd_new w (ivs [by', kk]) 43
  have hB0 := below_alloc (Below.refl w.heap.size w) (.cells #[.int .i64 by', .int .i64 kk] 43)
  have H0 := Lib.hid (And.intro (show Rd (w.alloc (.cells #[.int .i64 by', .int .i64 kk] 43)) (some ⟨w.heap.size, 0, none⟩) (ivs [by', kk]) from hrt) hB0)
  clear hrt hB0
  generalize w.alloc (.cells #[.int .i64 by', .int .i64 kk] 43) = W0 at *
  obtain ⟨tb, htb⟩ : ∃ tb, tb = w.heap.size := ⟨_, rfl⟩
  have H0 : Hid (Rd W0 (some ⟨tb, 0, none⟩) (ivs [by', kk]) ∧ Below w.heap.size w W0) := Lib.hid (by rw [htb]; exact H0.out)
  rw [← htb]
  clear htb
  go_wp2_with fail
  refine (awake_calls W0).mono ?_
  rintro e w1 ⟨rfl, hB⟩
  have H1 := Lib.hid (And.intro (H0.out.1.keep hB) (below_then H0.out.2 H0.out.2.size hB))
  clear hB H0
  go_wp2_with fail
  refine (HC.out.2.1 w1 (HC.out.1.keep H1.out.2)).mono ?_
  rintro e w2 ⟨⟨B, d, rfl, ho⟩, hB⟩
  have H2 := Lib.hid (And.intro (H1.out.1.keep hB) (And.intro (own_rd ho) (below_then H1.out.2 H1.out.2.size hB)))
  clear ho hB H1
  by_cases hN0 : N = 0
  · have hN0' : ((N : Nat) : Int) = 0 := by omega
    go_wp2_with fail
    go_ret
    exact ⟨rfl, H2.out.2.2⟩
  · obtain ⟨cN, hcN⟩ := Int.eq_ofNat_of_zero_le (Int.emod_nonneg by' (show (N : Int) ≠ 0 by omega))
    have hcl : cN < N := by
      have := Int.emod_lt_of_pos by' (show (0 : Int) < N by omega)
      omega
    obtain ⟨kN, hkN⟩ := Int.eq_ofNat_of_zero_le (Int.emod_nonneg kk (show (N : Int) ≠ 0 by omega))
    have hkl : kN < N := by
      have := Int.emod_lt_of_pos kk (show (0 : Int) < N by omega)
      omega
    have hpk : ∀ w', Calls Try.prog 31 #[.int .i64 by', .int .i64 (N : Int)] w' fun e w'' => e = .returned (.int .i64 (cN : Int)) ∧ w' = w'' := fun w' => by
      have := pick_calls by' N HT.out.1.1 HT.out.1.2 (by omega) (by omega) w'
      rw [hcN] at this
      exact this
    have hpk2 : ∀ w', Calls Try.prog 31 #[.int .i64 kk, .int .i64 (N : Int)] w' fun e w'' => e = .returned (.int .i64 (kN : Int)) ∧ w' = w'' := fun w' => by
      have := pick_calls kk N HT.out.2.1 HT.out.2.2 (by omega) (by omega) w'
      rw [hkN] at this
      exact this
    have HK := Lib.hid (And.intro hpk hpk2)
    have hNne : ¬ ((N : Nat) : Int) = 0 := by omega
    clear hpk hpk2 hcN hkN
    go_wp2_with (at_make; refine make_arr (Value.int .i64) 0 _ (.tmp 44) (.tmp 44) 26 3 8 N Try.underlying26 info3 rfl rfl rfl rfl rfl (by omega) (by unfold maxLen; omega) ?_; intro w3 hA3 hB3)
    have hst : WA w2 w3 w2.heap.size N (fun _ => 0) := ⟨hA3, Nat.le_refl _, hB3⟩
    obtain ⟨nb, hnb⟩ : ∃ nb, nb = w2.heap.size := ⟨_, rfl⟩
    rw [← hnb] at hst ⊢
    have HW := Lib.hid hst
    clear hA3 hB3 hst hnb
    go_loopw [9] (fun s wr => ∃ i : Nat, i ≤ N ∧ s = .int .i64 i ∧ WA w2 wr nb N (fun v => if v < i then (nm N cN v : Int) else 0)) (fun s _ => N - (intOf s).toNat)
    case atStart => exact ⟨0, Nat.zero_le _, rfl, HW.out.congr fun v hv => by simp⟩
    case round =>
      clear HW
      obtain ⟨i, hi, rfl, hW⟩ := hrel
      by_cases hlt : i < N
      · have k1 := rd_intc (H2.out.1.keep hW.below) (k := 0) (by simp)
        simp only [Nat.add_zero, List.getElem_cons_zero] at k1
        have hpx := pick_calls ((N : Int) - 1 - i + cN) N (by omega) (by omega) (by omega) (by omega)
        rw [nm_int hlt] at hpx
        have f1 := hW.arr.fz i
        have f2 := hW.arr.cell hlt
        have HX := Lib.hid (And.intro hW hpx)
        clear hW hpx
        go_wp2_with fail
        refine (HK.out.1 wr).mono ?_
        rintro e w4 ⟨rfl, rfl⟩
        go_wp2_with fail
        refine (HX.out.2 wr).mono ?_
        rintro e w4 ⟨rfl, rfl⟩
        go_wp2_with fail
        go_roundw
        case rel => exact ⟨i + 1, by omega, by go_num, (HX.out.1.set hlt _).congr fun u hu => by
          by_cases e : u = i
          · rw [e, upd_same, if_pos (show i < i + 1 by omega)]
          · rw [upd_other _ _ e]
            by_cases e2 : u < i
            · rw [if_pos e2, if_pos (by omega)]
            · rw [if_neg e2, if_neg (by omega)]⟩
        case measure => simp [intOf]; omega
      · have hW2 : WA w2 wr nb N (fun v => (nm N cN v : Int)) := hW.congr fun v hv => by rw [if_pos (by omega)]
        have H3 := Lib.hid (And.intro (H2.out.1.keep hW.below) (And.intro (H2.out.2.1.keep hW.below) (And.intro hW2.arr (below_then H2.out.2.2 H2.out.2.2.size hW.below))))
        have hLl : L.length ≤ 400 := HL.out
        clear hW hW2 H2
        go_wp2_with fail
        obtain ⟨g, hgd⟩ : ∃ g, g = nm N cN := ⟨_, rfl⟩
        have H3 : Hid (Rd wr (some ⟨tb, 0, none⟩) (ivs [by', kk]) ∧ Rd wr B (avs L) ∧ IArr wr nb N (fun v => (g v : Int)) ∧ Below w.heap.size w wr) := Lib.hid (by rw [hgd]; exact H3.out)
        have hInv : Inv N g := by rw [hgd]; exact nm_Inv hcl
        have HI := Lib.hid hInv
        clear hgd hInv
        go_loopw [10, 11] (fun v s wq => ∃ k : Nat, k ≤ L.length ∧ s = .int .i64 ((k : Int) - 1) ∧ wq.ownsRow wr.heap.size 36 3 v (2 * (L.length - k)) (avs (renL g (L.drop k))) ∧ Below wr.heap.size wr wq) (fun _ s _ => (intOf s + 1).toNat)
        case atStart => exact ⟨L.length, Nat.le_refl _, rfl, by rw [List.drop_length]; simp [renL, avs]; exact World.ownsRow_nil _ _ _ _, Below.refl _ _⟩
        case round =>
          obtain ⟨k, hk, rfl, hown, hB⟩ := hrel
          rcases k with _ | k
          · as_aux_lemma =>
            have hM0 := renL_len g L
            rw [List.drop_zero, Nat.sub_zero, ← hM0] at hown
            have hgM := renL_good HI.out HC.out.2.2 HL.out
            have h1 := hom1 g L
            have h2 := hom2 HI.out HC.out.2.2
            generalize renL g L = M at *
            have hst := strata_both HI.out HC.out.2.2 hgM h1 h2
            have hMl : M.length ≤ 800 := by omega
            have HM := Lib.hid (And.intro hgM (And.intro h1 (And.intro h2 (And.intro hst hMl))))
            obtain ⟨Am, cm, rfl, _, _⟩ := own_form hown
            have K0 := Lib.hid (RN.mk (H3.out.1.keep hB) (H3.out.2.1.keep hB) (H3.out.2.2.1.keep hB) (own_rd hown) (below_then H3.out.2.2.2 H3.out.2.2.2.size hB) : RN w _ tb nb N B Am L M g [by', kk])
            clear hM0 hgM h1 h2 hst hMl hown hB H3
            go_wp2_with fail
            refine (copyArcs_calls B d L _ K0.out.x (by omega)).mono ?_
            rintro e w5 ⟨B5, d5, rfl, ho, hB⟩
            have K1 := Lib.hid (And.intro (K0.out.keep hB) (own_rd ho))
            clear ho hB K0
            go_wp2_with fail
            refine (parts_ans B5 d5 N L w5 K1.out.2 (by omega)).mono ?_
            rintro e w6 ⟨⟨Ap, cp, rfl, ho⟩, hB⟩
            rw [partsV_n HC.out.2.2, HC.out.2.2.fault]
            have K2 := Lib.hid (And.intro (K1.out.1.keep hB) (rd_parts HC.out.2.2 (own_rd ho)))
            clear ho hB K1
            go_wp2_with fail
            refine (copyArcs_calls Am cm M w6 K2.out.1.m (by have := HM.out.2.2.2.2; omega)).mono ?_
            rintro e w7 ⟨B7, d7, rfl, ho, hB⟩
            have K3 := Lib.hid (And.intro (K2.out.1.keep hB) (And.intro (own_rd ho) (K2.out.2.keep hB)))
            clear ho hB K2
            go_wp2_with fail
            refine (parts_ans B7 d7 N M w7 K3.out.2.1 (by have := HM.out.2.2.2.2; omega)).mono ?_
            rintro e w8 ⟨⟨Aq, cq, rfl, ho⟩, hB⟩
            rw [partsV_n HM.out.1, HM.out.1.fault]
            have K4 := Lib.hid (And.intro (K3.out.1.keep hB) (And.intro (K3.out.2.2.keep hB) (rd_parts HM.out.1 (own_rd ho))))
            clear ho hB K3
            go_wp2_with fail
            refine (copyArcs_calls B d L w8 K4.out.1.x (by omega)).mono ?_
            rintro e w9 ⟨B9, d9, rfl, ho, hB⟩
            have K5 := Lib.hid (And.intro (K4.out.1.keep hB) (And.intro (own_rd ho) (And.intro (K4.out.2.1.keep hB) (K4.out.2.2.keep hB))))
            clear ho hB K4
            go_wp2_with fail
            refine (strata_ans B9 d9 N L w9 K5.out.2.1 (by omega)).mono ?_
            rintro e w10 ⟨⟨As, cs, rfl, ho⟩, hB⟩
            have K6 := Lib.hid (And.intro (K5.out.1.keep hB) (And.intro (K5.out.2.2.1.keep hB) (And.intro (K5.out.2.2.2.keep hB) (own_rd ho))))
            clear ho hB K5
            go_wp2_with fail
            refine (copyArcs_calls Am cm M w10 K6.out.1.m (by have := HM.out.2.2.2.2; omega)).mono ?_
            rintro e w11 ⟨B11, d11, rfl, ho, hB⟩
            have K7 := Lib.hid (And.intro (K6.out.1.keep hB) (And.intro (own_rd ho) (And.intro (K6.out.2.1.keep hB) (And.intro (K6.out.2.2.1.keep hB) (K6.out.2.2.2.keep hB)))))
            clear ho hB K6
            go_wp2_with fail
            refine (strata_ans B11 d11 N M w11 K7.out.2.1 (by have := HM.out.2.2.2.2; omega)).mono ?_
            rw [HM.out.2.2.2.1.1]
            rintro e w12 ⟨⟨Au, cu, rfl, ho⟩, hB⟩
            rw [HM.out.2.2.2.1.2.1]
            have K8 := Lib.hid (And.intro (K7.out.1.keep hB) (And.intro (K7.out.2.2.1.keep hB) (And.intro (K7.out.2.2.2.1.keep hB) (And.intro (K7.out.2.2.2.2.keep hB) (own_rd ho)))))
            have HS := Lib.hid HM.out.2.2.2.1.2.2
            have hKE : strataE N L = 0 → (strataV N L).length = N := fun h => by rw [(HM.out.2.2.2.1.2.2 h).1]; simp
            have HKE := Lib.hid hKE
            clear ho hB K7 hKE
            generalize strataE N L = E at *
            generalize hSL : (strataV N L).length = K at *
            go_wp2_with fail
            as_aux_lemma =>
            go_loopw [21] (fun s wq => ∃ a : Nat, a ≤ N ∧ s = .int .i64 a ∧ Below w12.heap.size w12 wq) (fun s _ => N - (intOf s).toNat)
            case atStart => exact ⟨0, Nat.zero_le _, rfl, Below.refl _ _⟩
            case round =>
              obtain ⟨a, ha, rfl, hB⟩ := hrel
              by_cases haN : a < N
              · as_aux_lemma =>
                have HB1 := Lib.hid hB
                clear hB
                go_wp2_with fail
                go_loopw [22] (fun s wq => ∃ b : Nat, b ≤ a ∧ s = .int .i64 b ∧ Below w12.heap.size w12 wq) (fun s _ => a - (intOf s).toNat)
                case atStart => exact ⟨0, Nat.zero_le _, rfl, HB1.out⟩
                case round =>
                  clear HB1
                  obtain ⟨b, hb, rfl, hB⟩ := hrel
                  have hga := HI.out.lt a haN
                  have n1 := (K8.out.1.nm.keep hB).cell haN
                  by_cases hba : b < a
                  · have hbN : b < N := by omega
                    have hgb := HI.out.lt b hbN
                    have hpt := HM.out.2.1.part HI.out HC.out.2.2 HM.out.1 HM.out.2.2.1 haN hbN
                    have n2 := (K8.out.1.nm.keep hB).cell hbN
                    obtain ⟨bp, op, rfl, k1⟩ := rd_int (K8.out.2.1.keep hB) (j := a) (by simpa using haN)
                    have k2 := rd_intc (K8.out.2.1.keep hB) (k := b) (by simpa using hbN)
                    obtain ⟨bq, oq, rfl, k3⟩ := rd_int (K8.out.2.2.1.keep hB) (j := g a) (by simpa using hga)
                    have k4 := rd_intc (K8.out.2.2.1.keep hB) (k := g b) (by simpa using hgb)
                    rw [ivs_range] at k1 k2 k3 k4
                    have HB2 := Lib.hid hB
                    clear hB
                    by_cases heq : PP N L a = PP N L b
                    · have hq := hpt.1 heq
                      rw [← heq] at k2
                      rw [← hq] at k4
                      clear hpt hq heq
                      generalize g a = ga at *
                      generalize g b = gb at *
                      generalize PP N L a = p1 at *
                      generalize PP N M ga = q1 at *
                      go_upto_region 30 with fail
                      have sn1 := cellB n1
                      have sn2 := cellB n2
                      have sk1 := cellB k1
                      have sk2 := cellB k2
                      have sk3 := cellB k3
                      have sk4 := cellB k4
                      refine RD.region (S := fun w' => Below wr.heap.size wr w') (by kernel_rfl) (by kernel_rfl) (Below.refl _ _).drew ?_
                      repeat (first
                        | (refine RD.walk_skip rfl ?_; simp only [Act.put, List.setIfInBounds_toArray, List.set_cons_succ, List.set_cons_zero])
                        | (refine RD.walk_op (v := ?_) rfl ?_ ?_; rotate_left; (intro w hS; go_simp; done); simp only [Act.put, List.setIfInBounds_toArray, List.set_cons_succ, List.set_cons_zero])
                        | (refine RD.walk_op (v := ?_) rfl ?_ ?_; rotate_left; (intro w hS; go_simp; rfl); simp only [Act.put, List.setIfInBounds_toArray, List.set_cons_succ, List.set_cons_zero]))
                      refine RD.walk_nil ?_
                      intro w13 hb13
                      have HB3 := Lib.hid (below_then HB2.out HB2.out.size hb13)
                      clear hb13 sn1 sn2 sk1 sk2 sk3 sk4 n1 n2 k1 k2 k3 k4
                      go_wp2_with fail
                      go_roundw
                      case rel => exact ⟨b + 1, by omega, by go_num, HB3.out⟩
                      case measure => simp [intOf]; omega
                    · as_aux_lemma =>
                      have hq : ¬ PP N M (g a) = PP N M (g b) := fun e => heq (hpt.2 e)
                      have e1 : ¬ ((PP N L a : Nat) : Int) = (PP N L b : Nat) := by omega
                      have e2 : ¬ ((PP N M (g a) : Nat) : Int) = (PP N M (g b) : Nat) := by omega
                      clear hpt
                      generalize g a = ga at *
                      generalize g b = gb at *
                      generalize PP N L a = p1 at *
                      generalize PP N L b = p2 at *
                      generalize PP N M ga = q1 at *
                      generalize PP N M gb = q2 at *
                      go_upto_region 30 with fail
                      have sn1 := cellB n1
                      have sn2 := cellB n2
                      have sk1 := cellB k1
                      have sk2 := cellB k2
                      have sk3 := cellB k3
                      have sk4 := cellB k4
                      have d1 : decide ((p1 : Int) = p2) = false := decide_eq_false e1
                      have d2 : decide ((q1 : Int) = q2) = false := decide_eq_false e2
                      have d3 : decide (p1 = p2) = false := decide_eq_false heq
                      have d4 : decide (q1 = q2) = false := decide_eq_false hq
                      have d5 : ((p1 : Int) == (p2 : Int)) = false := beq_eq_false_iff_ne.2 e1
                      have d6 : ((q1 : Int) == (q2 : Int)) = false := beq_eq_false_iff_ne.2 e2
                      refine RD.region (S := fun w' => Below wr.heap.size wr w') (by kernel_rfl) (by kernel_rfl) (Below.refl _ _).drew ?_
                      repeat (first
                        | (refine RD.walk_skip rfl ?_; simp only [Act.put, List.setIfInBounds_toArray, List.set_cons_succ, List.set_cons_zero, d1, d2, d3, d4, d5, d6])
                        | (refine RD.walk_op (v := ?_) rfl ?_ ?_; rotate_left; (intro w hS; go_simp; done); simp only [Act.put, List.setIfInBounds_toArray, List.set_cons_succ, List.set_cons_zero, d1, d2, d3, d4, d5, d6])
                        | (refine RD.walk_op (v := ?_) rfl ?_ ?_; rotate_left; (intro w hS; go_simp; rfl); simp only [Act.put, List.setIfInBounds_toArray, List.set_cons_succ, List.set_cons_zero, d1, d2, d3, d4, d5, d6]))
                      refine RD.walk_nil ?_
                      intro w13 hb13
                      have HB3 := Lib.hid (below_then HB2.out HB2.out.size hb13)
                      clear hb13 sn1 sn2 sk1 sk2 sk3 sk4 n1 n2 k1 k2 k3 k4
                      go_wp2_with fail
                      go_roundw
                      case rel => exact ⟨b + 1, by omega, by go_num, HB3.out⟩
                      case measure => simp [intOf]; omega
                  · by_cases hE : E = 0
                    · as_aux_lemma =>
                      obtain ⟨e1, e2, e3⟩ := HS.out hE
                      have r1 := K8.out.2.2.2.1.keep hB
                      have r2 := K8.out.2.2.2.2.keep hB
                      rw [e1] at r1
                      rw [e2] at r2
                      have hKN := HKE.out hE
                      obtain ⟨bs, os, rfl, k1⟩ := rd_int r1 (j := a) (by simpa using haN)
                      obtain ⟨bu, ou, rfl, k2⟩ := rd_int r2 (j := g a) (by simpa using hga)
                      rw [ivs_range] at k1 k2
                      rw [← e3 a haN] at k2
                      have HB2 := Lib.hid hB
                      subst hE
                      rw [hKN]
                      clear hB e1 e2 e3 r1 r2
                      generalize g a = ga at *
                      generalize SS N L a = x at *
                      go_upto_region 32 with fail
                      have sn1 := cellB n1
                      have sk1 := cellB k1
                      have sk2 := cellB k2
                      go_quiet (fail)
                      have hb13 : Below wr.heap.size wr (wr.drewN nq) := below_drewN (Below.refl _ _) _
                      have HB3 := Lib.hid (below_then HB2.out HB2.out.size hb13)
                      clear hb13 sn1 sk1 sk2 n1 k1 k2
                      go_wp2_with fail
                      go_roundw
                      case rel => exact ⟨a + 1, by omega, by go_num, HB3.out⟩
                      case measure => simp [intOf]; omega
                    · as_aux_lemma =>
                      have HB2 := Lib.hid hB
                      clear hB
                      go_upto_region 32 with fail
                      have hEd : decide (E = 0) = false := decide_eq_false hE
                      have hEb : (E == 0) = false := by simpa using hE
                      refine RD.region (S := fun w' => Below wr.heap.size wr w') (by kernel_rfl) (by kernel_rfl) (Below.refl _ _).drew ?_
                      repeat (first
                        | (refine RD.walk_skip rfl ?_; simp only [Act.put, List.setIfInBounds_toArray, List.set_cons_succ, List.set_cons_zero, hEd, hEb])
                        | (refine RD.walk_op (v := ?_) rfl ?_ ?_; rotate_left; (intro w hS; go_simp; done); simp only [Act.put, List.setIfInBounds_toArray, List.set_cons_succ, List.set_cons_zero, hEd, hEb])
                        | (refine RD.walk_op (v := ?_) rfl ?_ ?_; rotate_left; (intro w hS; go_simp; rfl); simp only [Act.put, List.setIfInBounds_toArray, List.set_cons_succ, List.set_cons_zero, hEd, hEb]))
                      refine RD.walk_nil ?_
                      intro w13 hb13
                      have HB3 := Lib.hid (below_then HB2.out HB2.out.size hb13)
                      clear hb13
                      go_wp2_with fail
                      go_roundw
                      case rel => exact ⟨a + 1, by omega, by go_num, HB3.out⟩
                      case measure => simp [intOf]; omega
              · as_aux_lemma =>
                have hw := hB
                have q0 := rd_intc (K8.out.1.keep hB).t (k := 0) (by simp)
                have q1 := rd_intc (K8.out.1.keep hB).t (k := 1) (by simp)
                simp only [Nat.add_zero, List.getElem_cons_zero, List.getElem_cons_succ] at q0 q1
                have K9 := Lib.hid (K8.out.1.keep hB)
                clear hB hw
                go_upto_region 34 with fail
                have sq0 := cellB q0
                have sq1 := cellB q1
                refine RD.region (S := fun w' => Below wr.heap.size wr w') (by kernel_rfl) (by kernel_rfl) (Below.refl _ _).drew ?_
                repeat (first
                  | (refine RD.walk_skip rfl ?_; simp only [Act.put, List.setIfInBounds_toArray, List.set_cons_succ, List.set_cons_zero])
                  | (refine RD.walk_op (v := ?_) rfl ?_ ?_; rotate_left; (intro w hS; go_simp; done); simp only [Act.put, List.setIfInBounds_toArray, List.set_cons_succ, List.set_cons_zero])
                  | (refine RD.walk_op (v := ?_) rfl ?_ ?_; rotate_left; (intro w hS; go_simp; rfl); simp only [Act.put, List.setIfInBounds_toArray, List.set_cons_succ, List.set_cons_zero])
                  | (refine RD.rd_at_call (v := .int .i64 (kN : Int)) (f := 31) (args := #[.int .i64 kk, .int .i64 (N : Int)]) rfl ?_ (fun w hS => (HK.out.2 w).mono (fun e w' h => ⟨h.1, by rw [← h.2]; exact hS⟩)) ?_
                     · intro w hS; go_simp; done
                     simp only [Act.put, List.setIfInBounds_toArray, List.set_cons_succ, List.set_cons_zero])
                  | (refine RD.rd_at_call (v := .int .i64 (cN : Int)) (f := 31) (args := #[.int .i64 by', .int .i64 (N : Int)]) rfl ?_ (fun w hS => (HK.out.1 w).mono (fun e w' h => ⟨h.1, by rw [← h.2]; exact hS⟩)) ?_
                     · intro w hS; go_simp; done
                     simp only [Act.put, List.setIfInBounds_toArray, List.set_cons_succ, List.set_cons_zero]))
                refine RD.walk_nil ?_
                intro w14 hb14
                have K10 := Lib.hid (K9.out.keep hb14)
                have HR1 := Lib.hid (reach_one HC.out.2.2 hkl)
                have HR2 := Lib.hid (reach_one HC.out.2.2 hcl)
                have HR3 := Lib.hid (reach_good HC.out.2.2 (fs := [(cN : Int), (kN : Int), (cN : Int)]) (by intro x hx; simp at hx; omega))
                have HR4 := Lib.hid (fun i hi => reach_two HC.out.2.2 hkl hcl i hi)
                have HR5 := Lib.hid (reach_one HM.out.1 (HI.out.lt kN hkl))
                clear sq0 sq1 q0 q1 hb14 K9
                go_wp2_with fail
                refine (copyArcs_calls B d L w14 K10.out.x (by omega)).mono ?_
                rintro e w15 ⟨B15, d15, rfl, ho, hB⟩
                have K11 := Lib.hid (And.intro (K10.out.keep hB) (own_rd ho))
                clear ho hB K10
                go_wp2_with fail
                as_aux_lemma =>
                refine (reach_ans B15 _ d15 1 N L [(kN : Int)] _ (K11.out.2.keep (below_alloc (Below.refl _ _) _)) (by omega) (rd_new w15 (ivs [(kN : Int)]) 3) (by simp)).mono ?_
                rw [HR1.out.1]
                rintro e w16 ⟨⟨A1, c1, rfl, ho⟩, hB⟩
                have hB' := below_then (below_alloc (Below.refl w15.heap.size w15) (.cells #[.int .i64 (kN : Int)] 3)) (by simp) hB
                have K12 := Lib.hid (And.intro (K11.out.1.keep hB') (own_rd ho))
                clear ho hB hB' K11
                go_wp2_with fail
                refine (copyArcs_calls B d L w16 K12.out.1.x (by omega)).mono ?_
                rintro e w17 ⟨B17, d17, rfl, ho, hB⟩
                have K13 := Lib.hid (And.intro (K12.out.1.keep hB) (And.intro (own_rd ho) (K12.out.2.keep hB)))
                clear ho hB K12
                go_wp2_with fail
                refine (reach_ans B17 _ d17 1 N L [(cN : Int)] _ (K13.out.2.1.keep (below_alloc (Below.refl _ _) _)) (by omega) (rd_new w17 (ivs [(cN : Int)]) 3) (by simp)).mono ?_
                rw [HR2.out.1]
                rintro e w18 ⟨⟨A2, c2, rfl, ho⟩, hB⟩
                have hB' := below_then (below_alloc (Below.refl w17.heap.size w17) (.cells #[.int .i64 (cN : Int)] 3)) (by simp) hB
                have K14 := Lib.hid (And.intro (K13.out.1.keep hB') (And.intro (K13.out.2.2.keep hB') (own_rd ho)))
                clear ho hB hB' K13
                go_wp2_with fail
                refine (copyArcs_calls B d L w18 K14.out.1.x (by omega)).mono ?_
                rintro e w19 ⟨B19, d19, rfl, ho, hB⟩
                have K15 := Lib.hid (And.intro (K14.out.1.keep hB) (And.intro (own_rd ho) (And.intro (K14.out.2.1.keep hB) (K14.out.2.2.keep hB))))
                clear ho hB K14
                go_wp2_with fail
                as_aux_lemma =>
                refine (reach_ans B19 _ d19 3 N L [(cN : Int), (kN : Int), (cN : Int)] _ (K15.out.2.1.keep (below_alloc (Below.refl _ _) _)) (by omega) (rd_new w19 (ivs [(cN : Int), (kN : Int), (cN : Int)]) 3) (by simp)).mono ?_
                rw [HR3.out.1]
                rintro e w20 ⟨⟨A3, c3, rfl, ho⟩, hB⟩
                have hB' := below_then (below_alloc (Below.refl w19.heap.size w19) (.cells #[.int .i64 (cN : Int), .int .i64 (kN : Int), .int .i64 (cN : Int)] 3)) (by simp) hB
                have K16 := Lib.hid (And.intro (K15.out.1.keep hB') (And.intro (K15.out.2.2.1.keep hB') (And.intro (K15.out.2.2.2.keep hB') (own_rd ho))))
                clear ho hB hB' K15
                as_aux_lemma =>
                go_upto_region 38 with fail
                have kq := K16.out.1.nm.cell hkl
                have hnl := K16.out.1.nm.lt
                go_cut [31, 32] (fun s31 s32 wx => ∃ A4 c4, s31 = .slice A4 (reachV N M [(g kN : Int)]).length c4 ∧ s32 = .int .i64 (reachE N M [(g kN : Int)]) ∧ Rd wx A4 (ivs (reachV N M [(g kN : Int)])) ∧ Below w20.heap.size w20 wx)
                case first =>
                  as_aux_lemma =>
                  go_region_law (first
                    | (refine step_call rfl 27 #[.slice Am M.length cm] _ ?_ (copyArcs_calls Am cm M _ (K16.out.1.m.keep (by first | exact drew_below _ | exact below_drewN (below_alloc (Below.refl _ _) _) 1)) (by have := HM.out.2.2.2.2; omega)) (fun e w' h => by obtain ⟨_, _, e, _⟩ := h; exact ⟨_, e⟩) ?_
                       · go_simp; done
                       intro v21 w21 h21
                       obtain ⟨B21, d21, hv21, ho, hB⟩ := h21
                       cases hv21
                       have hBt : Below w20.heap.size w20 w21 := by first | exact below_then (drew_below _) (drew_below _).size hB | exact below_then (below_drewN (below_alloc (Below.refl w20.heap.size w20) _) 1) (by simp) hB
                       have kq2 := (hBt.cell (p := ⟨nb, kN, none⟩) hnl).trans kq
                       first | (have hf := (show Rd (w20.alloc (.cells #[.int .i64 (g kN : Int)] 3)).drew (some ⟨w20.heap.size, 0, none⟩) (ivs [(g kN : Int)]) from rd_new w20 (ivs [(g kN : Int)]) 3).keep hB) | skip)
                    | (refine step_call rfl 23 #[.int .i64 (N : Int), .slice B21 M.length d21, .slice (some ⟨_, 0, none⟩) 1 1] _ ?_ (reach_ans B21 _ d21 1 N M [(g kN : Int)] _ (by first | exact own_rd ho | exact (own_rd ho).keep (below_alloc (Below.refl _ _) _)) (by have := HM.out.2.2.2.2; omega) (by first | exact rd_new _ (ivs [(g kN : Int)]) 3 | exact hf) (by simp)) (fun e w' h => by obtain ⟨⟨_, _, e, _⟩, _⟩ := h; exact ⟨_, e⟩) ?_
                       · go_simp; done
                       intro v22 w22 h22
                       obtain ⟨⟨A22, c22, hv22, ho4⟩, hB4⟩ := h22
                       cases hv22))
                  all_goals
                    go_wp2_with fail
                    go_meet
                    first
                      | exact ⟨_, _, rfl, rfl, own_rd ho4, below_then hBt hBt.size hB4⟩
                      | exact ⟨_, _, rfl, rfl, own_rd ho4, below_then hBt hBt.size (below_then (below_alloc (Below.refl _ _) _) (by simp) hB4)⟩
                case rest =>
                  as_aux_lemma =>
                  obtain ⟨A4, c4, rfl, rfl, h4, hb4⟩ := hcut
                  rw [HR5.out.1]
                  have hcnt := HM.out.2.1.count HI.out HC.out.2.2 HM.out.1 HM.out.2.2.1 hkl
                  have HR6 := Lib.hid (fun i (hi : i < N) => HM.out.2.1.pth_iff HI.out HC.out.2.2 HM.out.1 HM.out.2.2.1 hkl hi)
                  rw [← hcnt]
                  have hc4 : ∀ x w', Rd w' A4 (ivs (reachV N M [(g kN : Int)])) → Calls Try.prog 28 #[.slice A4 (reachV N L [(kN : Int)]).length c4, .int .i64 x] w' fun e w'' => e = .returned (.bool (decide (x ∈ reachV N M [(g kN : Int)]))) ∧ w' = w'' := fun x w' h => by
                    have := has_calls A4 c4 _ x w' h (by have := reachV_len N M [(g kN : Int)]; omega)
                    rw [← hcnt] at this
                    exact this
                  have K17 := Lib.hid (And.intro (K16.out.1.keep hb4) (And.intro (K16.out.2.1.keep hb4) (And.intro (K16.out.2.2.1.keep hb4) (And.intro (K16.out.2.2.2.keep hb4) h4))))
                  have HC4 := Lib.hid hc4
                  have HLN := Lib.hid (And.intro (reachV_len N L [(kN : Int)]) (And.intro (reachV_len N L [(cN : Int)]) (reachV_len N L [(cN : Int), (kN : Int), (cN : Int)])))
                  have HR3' := Lib.hid HR4.out
                  have HR1' := Lib.hid HR1.out.2
                  have HR5' := Lib.hid HR5.out.2
                  clear h4 hb4 kq hnl K16 hcnt hc4 HR1 HR2 HR3 HR4 HR5
                  generalize reachV N M [(g kN : Int)] = R4 at *
                  generalize reachV N L [(kN : Int)] = R1 at *
                  generalize reachV N L [(cN : Int)] = R2 at *
                  generalize reachV N L [(cN : Int), (kN : Int), (cN : Int)] = R3 at *
                  go_wp2_with fail
                  go_loopw [33] (fun s wq => ∃ i : Nat, i ≤ N ∧ s = .int .i64 i ∧ Below wc.heap.size wc wq) (fun s _ => N - (intOf s).toNat)
                  case atStart => exact ⟨0, Nat.zero_le _, rfl, Below.refl _ _⟩
                  case round =>
                    obtain ⟨x, hx, rfl, hB⟩ := hrel
                    by_cases hxN : x < N
                    · have n1 := (K17.out.1.nm.keep hB).cell hxN
                      have hboth := HR3'.out x hxN
                      have hthere : ((g x : Nat) : Int) ∈ R4 ↔ (x : Int) ∈ R1 := by rw [HR5'.out (g x) (HI.out.lt x hxN), HR1'.out x hxN]; exact (HR6.out x hxN).symm
                      have HB5 := Lib.hid hB
                      have HRD := Lib.hid (And.intro (K17.out.2.1.keep hB) (And.intro (K17.out.2.2.1.keep hB) (And.intro (K17.out.2.2.2.1.keep hB) (K17.out.2.2.2.2.keep hB))))
                      clear hB
                      by_cases h1 : (x : Int) ∈ R1
                      · as_aux_lemma =>
                        have HD := Lib.hid (And.intro (decide_eq_true h1) (And.intro (decide_eq_true (hboth.2 (.inl h1))) (decide_eq_true (hthere.2 h1))))
                        clear hboth hthere h1
                        go_upto_region 42 with fail
                        have s1 := cellB n1
                        refine RD.region (S := fun w' => Below wr.heap.size wr w') (by kernel_rfl) (by kernel_rfl) (Below.refl _ _).drew ?_
                        repeat (first
                          | (refine RD.walk_skip rfl ?_; simp only [Act.put, List.setIfInBounds_toArray, List.set_cons_succ, List.set_cons_zero])
                          | (refine RD.walk_op (v := ?_) rfl ?_ ?_; rotate_left; (intro w hS; go_simp; done); simp only [Act.put, List.setIfInBounds_toArray, List.set_cons_succ, List.set_cons_zero])
                          | (refine RD.walk_op (v := ?_) rfl ?_ ?_; rotate_left; (intro w hS; go_simp; rfl); simp only [Act.put, List.setIfInBounds_toArray, List.set_cons_succ, List.set_cons_zero])
                          | (refine RD.rd_at_call (v := .bool true) (f := 28) (args := #[.slice A3 R3.length c3, .int .i64 (x : Int)]) rfl ?_ (fun w hS => (has_calls A3 c3 R3 (x : Int) w (HRD.out.2.2.1.keep hS) (by have := HLN.out.2.2; omega)).mono (fun e w' h => ⟨h.1.trans (by rw [HD.out.2.1]), by rw [← h.2]; exact hS⟩)) ?_
                             · intro w hS; go_simp; done
                             simp only [Act.put, List.setIfInBounds_toArray, List.set_cons_succ, List.set_cons_zero])
                          | (refine RD.rd_at_call (v := .bool true) (f := 28) (args := #[.slice A1 R1.length c1, .int .i64 (x : Int)]) rfl ?_ (fun w hS => (has_calls A1 c1 R1 (x : Int) w (HRD.out.1.keep hS) (by have := HLN.out.1; omega)).mono (fun e w' h => ⟨h.1.trans (by rw [HD.out.1]), by rw [← h.2]; exact hS⟩)) ?_
                             · intro w hS; go_simp; done
                             simp only [Act.put, List.setIfInBounds_toArray, List.set_cons_succ, List.set_cons_zero])
                          | (refine RD.rd_at_call (v := .bool true) (f := 28) (args := #[.slice A4 R1.length c4, .int .i64 ((g x : Nat) : Int)]) rfl ?_ (fun w hS => (HC4.out ((g x : Nat) : Int) w (HRD.out.2.2.2.keep hS)).mono (fun e w' h => ⟨h.1.trans (by rw [HD.out.2.2]), by rw [← h.2]; exact hS⟩)) ?_
                             · intro w hS; go_simp; done
                             simp only [Act.put, List.setIfInBounds_toArray, List.set_cons_succ, List.set_cons_zero]))
                        refine RD.walk_nil ?_
                        intro w30 hb30
                        have HB7 := Lib.hid (below_then HB5.out HB5.out.size hb30)
                        clear s1 n1 hb30
                        go_wp2_with fail
                        go_roundw
                        case rel => exact ⟨x + 1, by omega, by go_num, HB7.out⟩
                        case measure => simp [intOf]; omega
                      · as_aux_lemma =>
                        by_cases h2 : (x : Int) ∈ R2
                        · as_aux_lemma =>
                          have HD := Lib.hid (And.intro (decide_eq_false h1) (And.intro (decide_eq_true (hboth.2 (.inr h2))) (And.intro (decide_eq_false (fun h => h1 (hthere.1 h))) (decide_eq_true h2))))
                          clear hboth hthere h1 h2
                          go_upto_region 42 with fail
                          have s1 := cellB n1
                          refine RD.region (S := fun w' => Below wr.heap.size wr w') (by kernel_rfl) (by kernel_rfl) (Below.refl _ _).drew ?_
                          repeat (first
                            | (refine RD.walk_skip rfl ?_; simp only [Act.put, List.setIfInBounds_toArray, List.set_cons_succ, List.set_cons_zero])
                            | (refine RD.walk_op (v := ?_) rfl ?_ ?_; rotate_left; (intro w hS; go_simp; done); simp only [Act.put, List.setIfInBounds_toArray, List.set_cons_succ, List.set_cons_zero])
                            | (refine RD.walk_op (v := ?_) rfl ?_ ?_; rotate_left; (intro w hS; go_simp; rfl); simp only [Act.put, List.setIfInBounds_toArray, List.set_cons_succ, List.set_cons_zero])
                            | (refine RD.rd_at_call (v := .bool true) (f := 28) (args := #[.slice A3 R3.length c3, .int .i64 (x : Int)]) rfl ?_ (fun w hS => (has_calls A3 c3 R3 (x : Int) w (HRD.out.2.2.1.keep hS) (by have := HLN.out.2.2; omega)).mono (fun e w' h => ⟨h.1.trans (by rw [HD.out.2.1]), by rw [← h.2]; exact hS⟩)) ?_
                               · intro w hS; go_simp; done
                               simp only [Act.put, List.setIfInBounds_toArray, List.set_cons_succ, List.set_cons_zero])
                            | (refine RD.rd_at_call (v := .bool false) (f := 28) (args := #[.slice A1 R1.length c1, .int .i64 (x : Int)]) rfl ?_ (fun w hS => (has_calls A1 c1 R1 (x : Int) w (HRD.out.1.keep hS) (by have := HLN.out.1; omega)).mono (fun e w' h => ⟨h.1.trans (by rw [HD.out.1]), by rw [← h.2]; exact hS⟩)) ?_
                               · intro w hS; go_simp; done
                               simp only [Act.put, List.setIfInBounds_toArray, List.set_cons_succ, List.set_cons_zero])
                            | (refine RD.rd_at_call (v := .bool true) (f := 28) (args := #[.slice A2 R2.length c2, .int .i64 (x : Int)]) rfl ?_ (fun w hS => (has_calls A2 c2 R2 (x : Int) w (HRD.out.2.1.keep hS) (by have := HLN.out.2.1; omega)).mono (fun e w' h => ⟨h.1.trans (by rw [HD.out.2.2.2]), by rw [← h.2]; exact hS⟩)) ?_
                               · intro w hS; go_simp; done
                               simp only [Act.put, List.setIfInBounds_toArray, List.set_cons_succ, List.set_cons_zero])
                            | (refine RD.rd_at_call (v := .bool false) (f := 28) (args := #[.slice A4 R1.length c4, .int .i64 ((g x : Nat) : Int)]) rfl ?_ (fun w hS => (HC4.out ((g x : Nat) : Int) w (HRD.out.2.2.2.keep hS)).mono (fun e w' h => ⟨h.1.trans (by rw [HD.out.2.2.1]), by rw [← h.2]; exact hS⟩)) ?_
                               · intro w hS; go_simp; done
                               simp only [Act.put, List.setIfInBounds_toArray, List.set_cons_succ, List.set_cons_zero]))
                          refine RD.walk_nil ?_
                          intro w30 hb30
                          have HB7 := Lib.hid (below_then HB5.out HB5.out.size hb30)
                          clear s1 n1 hb30
                          go_wp2_with fail
                          go_roundw
                          case rel => exact ⟨x + 1, by omega, by go_num, HB7.out⟩
                          case measure => simp [intOf]; omega
                        · as_aux_lemma =>
                          have HD := Lib.hid (And.intro (decide_eq_false h1) (And.intro (decide_eq_false (fun h => (hboth.1 h).elim h1 h2)) (And.intro (decide_eq_false (fun h => h1 (hthere.1 h))) (decide_eq_false h2))))
                          clear hboth hthere h1 h2
                          go_upto_region 42 with fail
                          have s1 := cellB n1
                          refine RD.region (S := fun w' => Below wr.heap.size wr w') (by kernel_rfl) (by kernel_rfl) (Below.refl _ _).drew ?_
                          repeat (first
                            | (refine RD.walk_skip rfl ?_; simp only [Act.put, List.setIfInBounds_toArray, List.set_cons_succ, List.set_cons_zero])
                            | (refine RD.walk_op (v := ?_) rfl ?_ ?_; rotate_left; (intro w hS; go_simp; done); simp only [Act.put, List.setIfInBounds_toArray, List.set_cons_succ, List.set_cons_zero])
                            | (refine RD.walk_op (v := ?_) rfl ?_ ?_; rotate_left; (intro w hS; go_simp; rfl); simp only [Act.put, List.setIfInBounds_toArray, List.set_cons_succ, List.set_cons_zero])
                            | (refine RD.rd_at_call (v := .bool false) (f := 28) (args := #[.slice A3 R3.length c3, .int .i64 (x : Int)]) rfl ?_ (fun w hS => (has_calls A3 c3 R3 (x : Int) w (HRD.out.2.2.1.keep hS) (by have := HLN.out.2.2; omega)).mono (fun e w' h => ⟨h.1.trans (by rw [HD.out.2.1]), by rw [← h.2]; exact hS⟩)) ?_
                               · intro w hS; go_simp; done
                               simp only [Act.put, List.setIfInBounds_toArray, List.set_cons_succ, List.set_cons_zero])
                            | (refine RD.rd_at_call (v := .bool false) (f := 28) (args := #[.slice A1 R1.length c1, .int .i64 (x : Int)]) rfl ?_ (fun w hS => (has_calls A1 c1 R1 (x : Int) w (HRD.out.1.keep hS) (by have := HLN.out.1; omega)).mono (fun e w' h => ⟨h.1.trans (by rw [HD.out.1]), by rw [← h.2]; exact hS⟩)) ?_
                               · intro w hS; go_simp; done
                               simp only [Act.put, List.setIfInBounds_toArray, List.set_cons_succ, List.set_cons_zero])
                            | (refine RD.rd_at_call (v := .bool false) (f := 28) (args := #[.slice A2 R2.length c2, .int .i64 (x : Int)]) rfl ?_ (fun w hS => (has_calls A2 c2 R2 (x : Int) w (HRD.out.2.1.keep hS) (by have := HLN.out.2.1; omega)).mono (fun e w' h => ⟨h.1.trans (by rw [HD.out.2.2.2]), by rw [← h.2]; exact hS⟩)) ?_
                               · intro w hS; go_simp; done
                               simp only [Act.put, List.setIfInBounds_toArray, List.set_cons_succ, List.set_cons_zero])
                            | (refine RD.rd_at_call (v := .bool false) (f := 28) (args := #[.slice A4 R1.length c4, .int .i64 ((g x : Nat) : Int)]) rfl ?_ (fun w hS => (HC4.out ((g x : Nat) : Int) w (HRD.out.2.2.2.keep hS)).mono (fun e w' h => ⟨h.1.trans (by rw [HD.out.2.2.1]), by rw [← h.2]; exact hS⟩)) ?_
                               · intro w hS; go_simp; done
                               simp only [Act.put, List.setIfInBounds_toArray, List.set_cons_succ, List.set_cons_zero]))
                          refine RD.walk_nil ?_
                          intro w30 hb30
                          have HB7 := Lib.hid (below_then HB5.out HB5.out.size hb30)
                          clear s1 n1 hb30
                          go_wp2_with fail
                          go_roundw
                          case rel => exact ⟨x + 1, by omega, by go_num, HB7.out⟩
                          case measure => simp [intOf]; omega
                    · as_aux_lemma =>
                      have HB6 := Lib.hid (below_then K17.out.1.below K17.out.1.below.size hB)
                      clear hB
                      go_wp2_with fail
                      go_ret
                      exact ⟨rfl, HB6.out⟩
          · as_aux_lemma =>
            obtain ⟨b9, off9, rfl, ha0, ha1, ha2⟩ := rd_arc (H3.out.2.1.keep hB) (i := k) (by omega)
            have hao := arcs_ok HC.out.2.2.hb _ (List.getElem_mem (show k < L.length by omega))
            have hrd := renL_drop g L k (by omega)
            obtain ⟨f, hf⟩ := Int.eq_ofNat_of_zero_le hao.1
            obtain ⟨t, ht⟩ := Int.eq_ofNat_of_zero_le hao.2.2.1
            have hfn : f < N := by omega
            have htn : t < N := by omega
            have hren : ren g L[k] = ⟨(g f : Int), (g t : Int), L[k].neg⟩ := by unfold ren; rw [hf, ht]; rfl
            rw [hren] at hrd
            rw [hf] at ha0
            rw [ht] at ha1
            have hA := H3.out.2.2.1.keep hB
            have k1 := hA.cell hfn
            have k2 := hA.cell htn
            have b0 := World.block_lt_of_cell? _ _ ha0
            have b1 := World.block_lt_of_cell? _ _ k1
            have HJ := Lib.hid (And.intro hrd (And.intro hown hB))
            rw [show ((k + 1 : Nat) : Int) - 1 = (k : Int) by omega]
            clear hao hf ht hren hrd hA hown hB
            generalize L[k].neg = an at *
            have hkl : k < L.length := by omega
            go_upto_region 15 with fail
            go_region_held3 (fun w' => w'.cell? ⟨b9, off9 + k * 3, none⟩ = some (.int .i64 (f : Int)) ∧ w'.cell? ⟨b9, off9 + k * 3 + 1, none⟩ = some (.int .i64 (t : Int)) ∧ w'.cell? ⟨b9, off9 + k * 3 + 2, none⟩ = some (.bool an) ∧ w'.cell? ⟨nb, f, none⟩ = some (.int .i64 (g f : Int)) ∧ w'.cell? ⟨nb, t, none⟩ = some (.int .i64 (g t : Int))) (refine ⟨?_, ?_, ?_, ?_, ?_⟩ <;> repeat (first | exact ha0 | exact ha1 | exact ha2 | exact k1 | exact k2 | refine cell_dr ?_ | refine cell_al (by simp; omega) ?_ | refine cell_st (by simp; omega) ?_)) (fail)
            go_upto_region 16 with fail
            have hnew := heap_alloc_new wr (.cells #[.int .i64 (g f : Int), .int .i64 (g t : Int), .bool an] 36)
            have m0 : (wr.alloc (.cells #[.int .i64 (g f : Int), .int .i64 (g t : Int), .bool an] 36)).drew.cell? ⟨wr.heap.size, 0, none⟩ = some (.int .i64 (g f : Int)) := by refine cell_dr ?_; simp only [World.cell?, hnew]; rfl
            have m1 : (wr.alloc (.cells #[.int .i64 (g f : Int), .int .i64 (g t : Int), .bool an] 36)).drew.cell? ⟨wr.heap.size, 1, none⟩ = some (.int .i64 (g t : Int)) := by refine cell_dr ?_; simp only [World.cell?, hnew]; rfl
            have m2 : (wr.alloc (.cells #[.int .i64 (g f : Int), .int .i64 (g t : Int), .bool an] 36)).drew.cell? ⟨wr.heap.size, 2, none⟩ = some (.bool an) := by refine cell_dr ?_; simp only [World.cell?, hnew]; rfl
            have hbW : Below wr.heap.size wr (wr.alloc (.cells #[.int .i64 (g f : Int), .int .i64 (g t : Int), .bool an] 36)).drew := below_drewN (below_alloc (Below.refl _ _) _) 1
            have HO := own_keep HJ.out.2.1 hbW
            have HB := below_then HJ.out.2.2 HJ.out.2.2.size hbW
            have hml : wr.heap.size < (wr.alloc (.cells #[.int .i64 (g f : Int), .int .i64 (g t : Int), .bool an] 36)).drew.heap.size := by simp
            have hvl : ∀ q, u10.ownBlock = some q → q < wr.heap.size := fun q hq => (HJ.out.2.1.lt q hq).2
            clear hnew hbW k1 k2 ha0 ha1 ha2
            generalize (wr.alloc (.cells #[.int .i64 (g f : Int), .int .i64 (g t : Int), .bool an] 36)).drew = W5 at *
            generalize wr.heap.size = mb at *
            have hbs := HB.size
            go_upto_region 17 with (at_builtin; go_loud (refine app_own HO HB (.tmp 94) (.tmp 96) [.int .i64 (g f : Int), .int .i64 (g t : Int), .bool an] 22 _ _ Try.underlying22 info36 (by omega) (by decide) hbs rfl rfl rfl (by decide) rfl rfl rfl (by simp [Value.oneCell']) ?_); intro v1 w6 ho1 hb1 hg1 hat1; have hq1 : ¬ some mb = u10.ownBlock := (fun e => absurd (hvl mb e.symm) (Nat.lt_irrefl _)); have p0 := ((tch_grown hg1).cell (p := ⟨mb, 0, none⟩) hml hq1).trans m0; have p1 := ((tch_grown hg1).cell (p := ⟨mb, 1, none⟩) hml hq1).trans m1; have p2 := ((tch_grown hg1).cell (p := ⟨mb, 2, none⟩) hml hq1).trans m2)
            clear m0 m1 m2
            have hbs1 := hb1.size
            go_wp2_with (at_builtin; go_loud (refine app_own ho1 hb1 (.tmp 98) (.tmp 100) [.int .i64 (g f : Int), .int .i64 (g t : Int), .bool an] 22 _ _ Try.underlying22 info36 (by omega) (by decide) hbs1 rfl rfl rfl (by decide) rfl rfl rfl (by simp [Value.oneCell']) ?_); intro v2 w7 ho2 hb2 hg2 hat2)
            go_roundw
            case rel => exact ⟨k, by omega, by go_num, by rw [HJ.out.1, avs_snoc, avs_snoc, show 2 * (L.length - k) = 2 * (L.length - (k + 1)) + 1 + 1 by omega]; exact ho2, hb2⟩
            case measure => first | (simp [intOf]; done) | (simp [intOf]; omega)
end Go.Proofs.Ytnhnckhjcnjacaa.ST
