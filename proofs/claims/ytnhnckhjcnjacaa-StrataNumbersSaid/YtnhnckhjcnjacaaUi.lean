/- Strata: the walk of the reference's parts. -/
import Derived.Test.YtnhnckhjcnjacaaUh
namespace Go.Proofs.Ytnhnckhjcnjacaa.ST
open Go.RowKit Go.Proofs.YtnhnckhjcnjacaaKw Go.Proofs.YtnhnckhjcnjacaaSg Go.Proofs.YtnhnckhjcnjacaaSw
set_option linter.unusedVariables false
set_option linter.unusedSimpArgs false

/-- The least that is ready is sought. -/
def Seek (n : Nat) (l : List AI) (W : Nat → Nat → Bool) (k q : Nat) (r : Int) : Prop :=
  (r = -1 ∧ q ≤ n ∧ ∀ j, j < q → k ≤ PP n l j → l.any (notR (outK n l k) W j) = true) ∨
  (∃ j : Nat, r = j ∧ j < n ∧ q = j + 1 ∧ k ≤ PP n l j ∧ l.any (notR (outK n l k) W j) = false ∧ ∀ i, i < j → k ≤ PP n l i → l.any (notR (outK n l k) W i) = true)
/-- What the reference's parts tell. -/
def PartsRPost (n : Nat) (l : List AI) (w : World) (e : Ending) (w' : World) : Prop :=
  ∃ b, e = .returned (.slice (some ⟨b, 0, none⟩) n n) ∧ w.heap.size ≤ b ∧ IArr w' b n (fun v => (PP n l v : Int)) ∧ Below w.heap.size w w'
set_option maxHeartbeats 16000000 in
set_option maxRecDepth 100000 in
theorem partsR_calls (A : Option Addr) (c n : Nat) (l : List AI) (w : World) (hr : Rd w A (avs l)) (hg : GoodG n l) :
    Calls Try.prog 37 #[.int .i64 n, .slice A l.length c] w (PartsRPost n l w) := by
  have hn := hg.hn
  have hl := hg.hl
  have HC := Lib.hid (And.intro hr hg)
  clear hr hg
  go_enter Try.func37, Try.ntmps37
  go_wp2_with (at_make; refine make_arr (Value.int .i64) 0 _ (.tmp 12) (.tmp 12) 26 3 8 n Try.underlying26 info3 rfl rfl rfl rfl rfl (by omega) (by unfold maxLen; omega) ?_; intro w2 hA2 hB2)
  have hst : PB w w2 (.slice none 0 0) n 0 w.heap.size l (fun _ => 0) (fun _ _ => false) := ⟨World.ownsRow_nil _ _ _ _, fun i hi => by omega, fun i hi => by omega, by simp [Value.ownBlock], fun i hi => by omega, hA2.congr (fun i hi => by simp), Nat.le_refl _, hB2, fun i hi => by omega⟩
  obtain ⟨ob, hob⟩ : ∃ ob, ob = w.heap.size := ⟨_, rfl⟩
  rw [← hob] at hst ⊢
  have HS := Lib.hid hst
  have HNB := Lib.hid hob
  clear hA2 hB2 hst hob
  go_loopw [5, 7] (fun v i wr => ∃ (k : Nat) (nb : Nat → Nat) (W : Nat → Nat → Bool), k ≤ n ∧ i = .int .i64 k ∧ PB w wr v n k ob l nb W) (fun _ i _ => n - (intOf i).toNat)
  case atStart => exact ⟨0, _, _, Nat.zero_le _, rfl, HS.out⟩
  case round =>
    clear HS
    obtain ⟨k, nb, W, hk, rfl, hP⟩ := hrel
    by_cases hlt : k < n
    · have hr2 := reached_calls A (some ⟨wr.heap.size, 0, none⟩) c n 1 l [(k : Int)] (wr.alloc (.cells #[.int .i64 k] 3)) (HC.out.1.keep (below_then hP.below hP.below.size (below_alloc (Below.refl _ _) _))) hl hn HC.out.2.hb (rd_new wr (ivs [(k : Int)]) 3) (by simp) (by simp [badF]; omega)
      have HP := Lib.hid (And.intro hP hr2)
      obtain ⟨A5, c5, rfl, hc5, hc6⟩ := own_form hP.own
      clear hP hr2
      go_wp2_with fail
      refine HP.out.2.mono ?_
      rintro e w3 ⟨b, on, rfl, hlo, hA, hB, hon⟩
      have hB' := below_then (below_alloc (Below.refl wr.heap.size wr) (.cells #[.int .i64 k] 3)) (by simp) hB
      have HN := Lib.hid (And.intro hlo (And.intro hA (And.intro hB' hon)))
      have hsz := hB'.size
      have hbl := HP.out.1.below.size
      have HO := own_keep HP.out.1.own hB'
      have HB := below_then HP.out.1.below HP.out.1.below.size hB'
      clear hlo hA hB hB' hon
      have HOut := HP.out.1.out.keep HN.out.2.2.1
      have hsob := HP.out.1.sob
      have HX := Lib.hid (And.intro HB (And.intro HOut hsob))
      clear HB HOut hsob
      go_wp2_with (at_builtin; go_loud (refine app_own HO HX.out.1 (.tmp 19) (.tmp 25) [wv n b] 71 _ _ Try.underlying71 info62 (by omega) (by decide) (by omega) rfl rfl rfl (by decide) rfl rfl rfl (by simp [Value.oneCell', wv]) ?_); intro v1 w1 ho1 hb1 hg1 hat1; have k1 := (HX.out.2.1.tch (tch_grown hg1) (fun e => HX.out.2.2 e.symm)).cell hlt; have k2 := (HX.out.2.1.tch (tch_grown hg1) (fun e => HX.out.2.2 e.symm)).fz k)
      have hN := HP.out.1.next hlt HN.out.2.2.1 (by have := HN.out.1; simp at this; omega) HN.out.2.1 HN.out.2.2.2 ho1 hb1 hg1 hat1
      have HNX := Lib.hid hN
      clear hN ho1 hb1 hg1 hat1 HO
      go_roundw
      case rel => exact ⟨k + 1, _, _, by omega, by go_num, HNX.out⟩
      case measure => simp [intOf]; omega
    · obtain rfl : n = k := by omega
      obtain ⟨A5, c5, rfl, hc5, hc6⟩ := own_form hP.own
      have hW : WOk n l W := hP.rch
      have HP := Lib.hid (And.intro hP.done hW)
      clear hP hW hlt
      go_upto_region 9 with fail
      go_loopw [8] (fun s wx => ∃ k : Nat, k ≤ MM n l ∧ s = .int .i64 k ∧ PN w wx A5 n ob nb W (outK n l k)) (fun s _ => MM n l - (intOf s).toNat)
      case atStart => exact ⟨0, Nat.zero_le _, rfl, HP.out.1⟩
      case round =>
        obtain ⟨k, hk, rfl, hN⟩ := hrel
        have HW := Lib.hid HP.out.2
        have HN0 := Lib.hid (And.intro hN hk)
        have hk4 : k ≤ 4096 := by have := (PP_plan HC.out.2); obtain ⟨_, _, _, _, _, h1, _⟩ := this; omega
        clear hN HP hk
        go_wp2_with fail
        go_loopw [9, 10] (fun r i wx => ∃ (q : Nat) (z : Int), q ≤ n ∧ i = .int .i64 q ∧ r = .int .i64 z ∧ Hid (Seek n l W k q z) ∧ PN w wx A5 n ob nb W (outK n l k)) (fun _ i _ => n - (intOf i).toNat)
        case atStart => exact ⟨0, -1, Nat.zero_le _, rfl, rfl, Lib.hid (.inl ⟨rfl, Nat.zero_le _, fun j hj => by omega⟩), HN0.out.1⟩
        case round =>
          obtain ⟨q, z, hq, rfl, rfl, hS, hN⟩ := hrel
          by_cases hz : z < 0
          · have hz1 : z = -1 := by
              rcases hS.out with ⟨e, _⟩ | ⟨j, e, _⟩
              · exact e
              · omega
            have hnone : ∀ j, j < q → k ≤ PP n l j → l.any (notR (outK n l k) W j) = true := by
              rcases hS.out with ⟨e, _, h⟩ | ⟨j, e, _⟩
              · exact h
              · omega
            subst hz1
            by_cases hqn : q < n
            · by_cases hu : k ≤ PP n l q
              · have hout : outK n l k q = -1 := if_neg (by omega)
                have k1 := hN.out.cell hqn
                rw [hout] at k1
                have hrc := ready_calls A A5 c n ob c5 q l (outK n l k) nb W wr (HC.out.1.keep hN.below) hl hn HC.out.2.hb hqn hN.out hN.ways
                have HR := Lib.hid (And.intro hrc (And.intro hN hnone))
                clear hrc hN hnone hS hout
                go_wp2_with fail
                refine HR.out.1.mono ?_
                rintro e w5 ⟨rfl, hB⟩
                have hN5 := HR.out.2.1.keep hB
                cases hany : l.any (notR (outK n l k) W q) with
                | true =>
                  have hS5 : Seek n l W k (q + 1) (-1) := .inl ⟨rfl, by omega, fun j hj hjk => by
                    by_cases e : j = q
                    · rw [e]; exact hany
                    · exact HR.out.2.2 j (by omega) hjk⟩
                  have H5 := Lib.hid (And.intro hS5 hN5)
                  clear hS5 hN5 hB hany
                  go_wp2_with fail
                  go_roundw
                  case rel => exact ⟨q + 1, -1, by omega, by go_num, rfl, Lib.hid H5.out.1, H5.out.2⟩
                  case measure => simp [intOf]; omega
                | false =>
                  have hS5 : Seek n l W k (q + 1) (q : Int) := .inr ⟨q, rfl, hqn, rfl, hu, hany, HR.out.2.2⟩
                  have H5 := Lib.hid (And.intro hS5 hN5)
                  clear hS5 hN5 hB hany
                  go_wp2_with fail
                  go_roundw
                  case rel => exact ⟨q + 1, q, by omega, by go_num, rfl, Lib.hid H5.out.1, H5.out.2⟩
                  case measure => simp [intOf]; omega
              · have hout : outK n l k q = (PP n l q : Int) := if_pos (by omega)
                have k1 := hN.out.cell hqn
                rw [hout] at k1
                have hS5 : Seek n l W k (q + 1) (-1) := .inl ⟨rfl, by omega, fun j hj hjk => by
                  by_cases e : j = q
                  · rw [e] at hjk; exact absurd hjk hu
                  · exact hnone j (by omega) hjk⟩
                have H5 := Lib.hid (And.intro hS5 hN)
                clear hS5 hN hnone hS hout hu
                go_wp2_with fail
                go_roundw
                case rel => exact ⟨q + 1, -1, by omega, by go_num, rfl, Lib.hid H5.out.1, H5.out.2⟩
                case measure => simp [intOf]; omega
            · obtain rfl : n = q := by omega
              obtain ⟨h1, h2⟩ := ready_none HW.out HC.out.2 HN0.out.2 hnone
              have hfin : PartsRPost n l w (.returned (.slice (some ⟨ob, 0, none⟩) n n)) wr := ⟨ob, rfl, hN.lo, hN.out.congr fun v hv => (h2 v hv).symm, hN.below⟩
              have HF := Lib.hid hfin
              clear hfin h1 h2 hnone hS hN hqn
              go_wp2_with fail
              go_ret
              exact HF.out
          · obtain ⟨j, rfl, hj, hqj, hu, hany, hno⟩ : ∃ j : Nat, z = j ∧ j < n ∧ q = j + 1 ∧ k ≤ PP n l j ∧ l.any (notR (outK n l k) W j) = false ∧ ∀ i, i < j → k ≤ PP n l i → l.any (notR (outK n l k) W i) = true := by
              rcases hS.out with ⟨e, _⟩ | h
              · omega
              · exact h
            have hkm : k < MM n l := by
              have := (PP_spec HC.out.2).lt j hj
              omega
            have hjk := ready_next HW.out HC.out.2 hkm hj hu hany hno
            have HJ := Lib.hid (And.intro hN (And.intro hkm hjk))
            clear hS hz hu hany hno hN hkm hjk HN0
            by_cases hqn : q < n
            all_goals
              go_wp2_with fail
              go_loopw [11] (fun s wz => ∃ p : Nat, p ≤ n ∧ s = .int .i64 p ∧ PN w wz A5 n ob nb W (fun v => if v < p then outK n l (k + 1) v else outK n l k v)) (fun s _ => n - (intOf s).toNat)
              case atStart => exact ⟨0, Nat.zero_le _, rfl, HJ.out.1.congr fun v hv => by simp⟩
              case round =>
                obtain ⟨p, hp, rfl, hN⟩ := hrel
                by_cases hpn : p < n
                · obtain ⟨wb, wo, rfl, kj⟩ := hN.ways.at hj
                  have kp := hN.ways.cell hpn
                  have kjp := (hN.ways.row j hj).cell hpn
                  have kpj := (hN.ways.row p hpn).cell hj
                  have kf := hN.out.fz p
                  have ko := hN.out.cell hpn
                  have hset := hN.set hpn (k : Int)
                  have hnx := outK_next HW.out HC.out.2 hj hpn HJ.out.2.2
                  have H6 := Lib.hid (And.intro hN (And.intro hset hnx))
                  clear hN hset hnx
                  generalize W j p = b1 at *
                  generalize W p j = b2 at *
                  cases b1 with
                  | false =>
                    go_wp2_with fail
                    go_roundw
                    case rel => exact ⟨p + 1, by omega, by go_num, H6.out.1.congr fun v hv => by
                      by_cases e : v = p
                      · subst e; rw [if_pos (by omega), if_neg (by omega), H6.out.2.2]; simp
                      · by_cases e2 : v < p
                        · rw [if_pos e2, if_pos (by omega)]
                        · rw [if_neg e2, if_neg (by omega)]⟩
                    case measure => simp [intOf]; omega
                  | true =>
                    cases b2 with
                    | false =>
                      go_wp2_with fail
                      go_roundw
                      case rel => exact ⟨p + 1, by omega, by go_num, H6.out.1.congr fun v hv => by
                        by_cases e : v = p
                        · subst e; rw [if_pos (by omega), if_neg (by omega), H6.out.2.2]; simp
                        · by_cases e2 : v < p
                          · rw [if_pos e2, if_pos (by omega)]
                          · rw [if_neg e2, if_neg (by omega)]⟩
                      case measure => simp [intOf]; omega
                    | true =>
                      go_wp2_with fail
                      go_roundw
                      case rel => exact ⟨p + 1, by omega, by go_num, H6.out.2.1.congr fun v hv => by
                        by_cases e : v = p
                        · subst e; rw [if_pos (by omega), upd_same, H6.out.2.2]; simp
                        · rw [upd_other _ _ e]
                          by_cases e2 : v < p
                          · rw [if_pos e2, if_pos (by omega)]
                          · rw [if_neg e2, if_neg (by omega)]⟩
                      case measure => simp [intOf]; omega
                · have hN2 : PN w wr A5 n ob nb W (outK n l (k + 1)) := hN.congr fun v hv => by rw [if_pos (by omega)]
                  have H6 := Lib.hid hN2
                  clear hN hN2
                  go_wp2_with fail
                  go_roundw
                  case rel => exact ⟨k + 1, HJ.out.2.1, by go_num, H6.out⟩
                  case measure => have := HJ.out.2.1; simp [intOf]; omega
end Go.Proofs.Ytnhnckhjcnjacaa.ST
