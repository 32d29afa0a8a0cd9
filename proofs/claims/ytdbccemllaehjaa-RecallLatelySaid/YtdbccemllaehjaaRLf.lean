import Derived.Test.YtdbccemllaehjaaRLe
namespace Go.Proofs.Ytdbccemllaehjaa.RL
open Go.RowKit Go.Proofs.YtdbccemllaehjaaKw
open PC (strs strs_len strs_at rd_str strs_take info9)
open AW (At)
set_option linter.unusedVariables false
set_option linter.unusedSimpArgs false
set_option maxHeartbeats 8000000 in
set_option maxRecDepth 100000 in
theorem law_calls (x : Int) (hx : -9223372036854775808 ≤ x) (hx2 : x ≤ 9223372036854775807) (A1 A2 : Option Addr) (c1 c2 : Nat) (ks : List ByteArray) (bs : List Bool) (w : World) (hr1 : Rd w A1 (strs ks)) (hr2 : Rd w A2 (bls bs)) (hl : ks.length * 16 ≤ 140737488351232) (hlb : bs.length ≤ 140737488351232) :
    Calls Try.prog 6 #[.int .i64 x, .slice A1 ks.length c1, .slice A2 bs.length c2] w fun e w' => e = .returned (.bool true) ∧ Below w.heap.size w w' := by
  have hmm := @run_makeMap Try.prog
  have hm0 := Int.emod_nonneg x (show (12 : Int) ≠ 0 by omega)
  have hm1 := Int.emod_lt_of_pos x (show (0 : Int) < 12 by omega)
  obtain ⟨mo, hmo⟩ := Int.eq_ofNat_of_zero_le hm0
  go_enter Try.func6, Try.ntmps6
  go_wp2_with fail
  refine (AW.awake_calls w).mono ?_
  rintro e w1 ⟨rfl, hb1⟩
  go_wp2_with fail
  refine (pick_calls x 12 hx hx2 (by omega) (by omega) w1).mono ?_
  rintro e w1' ⟨rfl, rfl⟩
  rw [hmo]
  have hmo2 : mo < 12 := by omega
  clear hm0 hm1 hmo hx hx2
  go_wp2_with fail
  rw [show (1 + (mo : Int)) = ((mo + 1 : Nat) : Int) by omega]
  have hq1 : 1 ≤ mo + 1 := by omega
  have hq2 : mo + 1 ≤ 12 := by omega
  clear hmo2
  generalize mo + 1 = most at *
  refine (AW.new_at most hq1 (by omega) w1).mono ?_
  rintro e w2 ⟨rfl, h2⟩
  generalize w1.heap.size + 1 = bc at *
  generalize hbm : w1.heap.size = bm at *
  have hS0 : St w1 (w2.alloc (.map #[] 0)) bc bm w2.heap.size most (.slice none 0 0) [] [] (fun _ => none) [] := by
    have hA := h2.other (below_alloc (Below.refl w2.heap.size w2) (.map #[] 0))
    refine ⟨hA.rep, hA.kv, hA.len, hA.below, hA.own, ⟨[], ⟨#[], 0, heap_alloc_new w2 _, rfl⟩, fun k => rfl⟩, h2.below.size, fun hq => ?_, World.ownsRow_nil _ _ _ _, fun g hg => by simp [Value.ownBlock] at hg, rfl, by simp, by simp⟩
    have := h2.rep.lt encStr _ hq
    omega
  clear h2 hbm
  go_wp2_with fail
  generalize hbp : w2.heap.size = bp at *
  generalize hW : w2.alloc (.map #[] 0) = W at *
  clear hbp hW
  go_loopw [10, 11] (fun v i wr => ∃ (k : Nat) (used : List ByteArray), k ≤ ks.length ∧ used.length ≤ k ∧ i = .int .i64 k ∧ Inv w1 wr bc bm bp most v used) (fun _ i _ => ks.length - (intOf i).toNat)
  case atStart => exact ⟨0, [], Nat.zero_le _, Nat.le_refl _, rfl, _, _, _, hS0⟩
  case round =>
    clear hS0
    obtain ⟨k, used, hk, hu, rfl, l, f, L, hS⟩ := hrel
    have hb01 := below_then hb1 hb1.size hS.below
    by_cases hlt : k < ks.length
    · obtain ⟨b, off, rfl, hcell⟩ := rd_str (hr1.keep hb01) hlt
      have hzl := fun (W : World) (h : MapF encStr W bp f) => mapF_look1 encStr (P := Try.prog) h (T := 56) (et := 3) Try.underlying56 Try.underlying9 zero3 ks[k]
      by_cases hask : ∃ h : k < bs.length, bs[k] = true
      · obtain ⟨hkb, hbt⟩ := hask
        obtain ⟨b2, off2, rfl, hcell2⟩ := rd_bool (hr2.keep hb01) hkb
        rw [hbt] at hcell2
        by_cases hin : ks[k] ∈ lateF most [] used.reverse
        · obtain ⟨n, hfn, hget⟩ := hS.got hq1 ks[k] hin
          go_wp2_with fail
          refine hget.mono ?_
          rintro e w3 ⟨rfl, L', hR⟩
          clear hget
          have hb03 := below_then hb1 hb1.size hR.below
          have hcell3 := rd_strc (hr1.keep hb03) hlt
          obtain ⟨vA, vc, rfl, hvc, hvc2⟩ := own_form hR.row
          have hRd := own_rd hR.row
          have hll := lateF_len most used.reverse
          clear hcell hcell2
          go_wp2_with fail
          go_region_held3 (fun w' => w'.cell? ⟨b, off + k, none⟩ = some (.string ks[k])) (first | assumption | go_keep) (first | (go_at_call 33; refine (late_calls vA vc used most hq2 _ (show Rd w3.drew vA _ from hRd) (by omega)).mono ?_; rintro e w4 ⟨lA, lc, rfl, hlo, hlb⟩; have hlr := own_rd hlo; have hcell4 : w4.cell? ⟨b, off + k, none⟩ = some (.string ks[k]) := (hlb.cell (p := ⟨b, off + k, none⟩) (World.block_lt_of_cell? w3 _ hcell3)).trans hcell3) | (go_at_call 32; refine (has_calls _ _ _ ks[k] _ hlr (by omega)).mono ?_; rintro e w5 ⟨rfl, rfl⟩))
          have hR4 := hR.other (show Below w3.heap.size w3 w4 from ⟨hlb.os, hlb.tape, hlb.output, hlb.size, hlb.block⟩)
          clear hcell3 hlb hlr hlo
          have hz := hzl w4 hR4.map
          rw [hfn] at hz
          simp only [encStr, Option.getD_some] at hz
          go_wp2_with (at_builtin; go_loud (refine app_own hR4.row hR4.below (.tmp 108) (.tmp 113) [.string ks[k]] 22 _ _ Try.underlying22 info9 (by omega) (by decide) hR4.below.size rfl rfl rfl (by decide) rfl rfl rfl (by simp [Value.oneCell']) ?_); intro v1 w9 ho9 hb9 hg9 hat9)
          go_roundw
          case rel => exact ⟨k + 1, used ++ [ks[k]], by omega, by simp; omega, rfl, _, _, _, hR4.used ho9 hb9 hg9 hat9⟩
          case measure => simp [intOf]; omega
        · go_wp2_with fail
          refine (hS.miss ks[k] (by rw [hS.keys]; exact hin)).mono ?_
          rintro e w3 ⟨rfl, hR, hbm3⟩
          have hb03 := below_then hb1 hb1.size hR.below
          have hcell3 := rd_strc (hr1.keep hb03) hlt
          obtain ⟨vA, vc, rfl, hvc, hvc2⟩ := own_form hR.row
          have hRd := own_rd hR.row
          have hll := lateF_len most used.reverse
          clear hcell hcell2 hbm3
          go_wp2_with fail
          go_region_held3 (fun w' => w'.cell? ⟨b, off + k, none⟩ = some (.string ks[k])) (first | assumption | go_keep) (first | (go_at_call 33; refine (late_calls vA vc used most hq2 _ (show Rd w3.drew vA _ from hRd) (by omega)).mono ?_; rintro e w4 ⟨lA, lc, rfl, hlo, hlb⟩; have hlr := own_rd hlo; have hcell4 : w4.cell? ⟨b, off + k, none⟩ = some (.string ks[k]) := (hlb.cell (p := ⟨b, off + k, none⟩) (World.block_lt_of_cell? w3 _ hcell3)).trans hcell3) | (go_at_call 32; refine (has_calls _ _ _ ks[k] _ hlr (by omega)).mono ?_; rintro e w5 ⟨rfl, rfl⟩))
          have hR4 := hR.other (show Below w3.heap.size w3 w4 from ⟨hlb.os, hlb.tape, hlb.output, hlb.size, hlb.block⟩)
          clear hcell3 hlb hlr hlo
          go_wp2_with fail
          go_roundw
          case rel => exact ⟨k + 1, used, by omega, by omega, rfl, _, _, _, hR4⟩
          case measure => simp [intOf]; omega
      · by_cases hkb : k < bs.length
        · have hbf : bs[k] = false := by
            cases hc : bs[k] with
            | true => exact absurd ⟨hkb, hc⟩ hask
            | false => rfl
          obtain ⟨b2, off2, rfl, hcell2⟩ := rd_bool (hr2.keep hb01) hkb
          rw [hbf] at hcell2
          clear hask
          go_wp2_with fail
          refine (hS.putMid hq1 (by omega) ks[k] k).mono ?_
          rintro e w3 ⟨rfl, L', hM⟩
          have hb03 := below_then hb1 hb1.size hM.below
          have hcell3 := rd_strc (hr1.keep hb03) hlt
          obtain ⟨vA, vc, rfl, hvc, hvc2⟩ := own_form hM.row
          obtain ⟨o, hset, hmapf⟩ := mapF_set encStr (P := Try.prog) hM.map (T := 56) Try.underlying56 Try.underlying9 ks[k] (.int .i64 k)
          have hR4 := hM.set hmapf
          have hcell4 := rd_strc (hr1.keep (below_then hb1 hb1.size hR4.below)) hlt
          simp only [encStr] at hset
          clear hcell hcell2
          go_wp2_with (at_builtin; go_loud (refine app_own hR4.row hR4.below (.tmp 108) (.tmp 113) [.string ks[k]] 22 _ _ Try.underlying22 info9 (by omega) (by decide) hR4.below.size rfl rfl rfl (by decide) rfl rfl rfl (by simp [Value.oneCell']) ?_); intro v1 w9 ho9 hb9 hg9 hat9)
          go_roundw
          case rel => exact ⟨k + 1, used ++ [ks[k]], by omega, by simp; omega, rfl, _, _, _, hR4.used ho9 hb9 hg9 hat9⟩
          case measure => simp [intOf]; omega
        · have hkb' : decide (k < bs.length) = false := by simpa using hkb
          clear hask hkb
          go_wp2_with fail
          refine (hS.putMid hq1 (by omega) ks[k] k).mono ?_
          rintro e w3 ⟨rfl, L', hM⟩
          have hb03 := below_then hb1 hb1.size hM.below
          have hcell3 := rd_strc (hr1.keep hb03) hlt
          obtain ⟨vA, vc, rfl, hvc, hvc2⟩ := own_form hM.row
          obtain ⟨o, hset, hmapf⟩ := mapF_set encStr (P := Try.prog) hM.map (T := 56) Try.underlying56 Try.underlying9 ks[k] (.int .i64 k)
          have hR4 := hM.set hmapf
          have hcell4 := rd_strc (hr1.keep (below_then hb1 hb1.size hR4.below)) hlt
          simp only [encStr] at hset
          clear hcell 
          go_wp2_with (at_builtin; go_loud (refine app_own hR4.row hR4.below (.tmp 108) (.tmp 113) [.string ks[k]] 22 _ _ Try.underlying22 info9 (by omega) (by decide) hR4.below.size rfl rfl rfl (by decide) rfl rfl rfl (by simp [Value.oneCell']) ?_); intro v1 w9 ho9 hb9 hg9 hat9)
          go_roundw
          case rel => exact ⟨k + 1, used ++ [ks[k]], by omega, by simp; omega, rfl, _, _, _, hR4.used ho9 hb9 hg9 hat9⟩
          case measure => simp [intOf]; omega
    · have hk' : decide (k < ks.length) = false := by simpa using hlt
      obtain ⟨vA, vc, rfl, hvc, hvc2⟩ := own_form hS.row
      have hRd := own_rd hS.row
      have hll := lateF_len most used.reverse
      go_wp2_with fail
      refine (late_calls vA vc used most hq2 _ hRd (by omega)).mono ?_
      rintro e w3 ⟨lA, lc, rfl, hlo, hlb⟩
      have hF := hS.fin hlo hlb
      have hkeys := hS.keys
      rw [← hS.kv] at hkeys
      have hlen := hS.len
      clear hS hRd hlo hlb
      generalize lateF most [] used.reverse = want at *
      have hll2 : L.length = want.length := by rw [← hkeys]; simp [Cb.kv]
      go_wp2_with fail
      refine (Cb.keys_calls bc bm most L _ hF.rep (by omega)).mono ?_
      rintro e w4 ⟨vK, rfl, hko, hkb⟩
      rw [keysV_strs, hkeys, hll2] at hko
      obtain ⟨kA, kc, rfl, hkc, hkc2⟩ := own_form hko
      have hF4 := hF.other hkb
      clear hkeys hF hkb
      go_wp2_with fail
      refine (PC.same_calls kA lA kc lc want _ (own_rd hko) (own_rd hF4.row) (by omega)).mono ?_
      rintro e w5 ⟨rfl, hsb⟩
      have hF5 := hF4.other hsb
      clear hF4 hko hsb
      go_wp2_with fail
      refine (Cb.len_calls bc bm most L _ hF5.rep).mono ?_
      rintro e w6 ⟨rfl, rfl⟩
      rw [hll2]
      clear hll2
      go_wp2_with fail
      go_loopw [16] (fun i wr => ∃ k : Nat, k ≤ want.length ∧ i = .int .i64 k ∧ ∃ L, Fin w1 wr bc bm bp most (.slice lA want.length lc) want f L) (fun i _ => want.length - (intOf i).toNat)
      case atStart => exact ⟨0, Nat.zero_le _, rfl, _, hF5⟩
      case round =>
        clear hF5
        obtain ⟨j, hj, rfl, L2, hF⟩ := hrel
        by_cases hjt : j < want.length
        · obtain ⟨b3, off3, rfl, hc3⟩ := rd_str (own_rd hF.row) hjt
          obtain ⟨n, hfn, hget⟩ := hF.get want[j] (List.getElem_mem hjt)
          go_wp2_with fail
          refine hget.mono ?_
          rintro e w7 ⟨rfl, L3, hF7⟩
          have hc7 := rd_strc (own_rd hF7.row) hjt
          have hz := mapF_look1 encStr (P := Try.prog) hF7.map (T := 56) (et := 3) Try.underlying56 Try.underlying9 zero3 want[j]
          rw [hfn] at hz
          simp only [encStr, Option.getD_some] at hz
          clear hc3
          go_wp2_with fail
          go_roundw
          case rel => exact ⟨j + 1, by omega, rfl, _, hF7⟩
          case measure => simp [intOf]; omega
        · have hj' : decide (j < want.length) = false := by simpa using hjt
          go_wp2_with fail
          go_ret
          exact ⟨rfl, below_then hb1 hb1.size hF.below⟩
end Go.Proofs.Ytdbccemllaehjaa.RL
