/- The law RecallKeeps: its walk. -/
import Derived.Test.YtdbccemllaehjaaRKb
import Derived.Test.YtdbccemllaehjaaApA
namespace Go.Proofs.Ytdbccemllaehjaa.RK
open Go.RowKit Go.Proofs.YtdbccemllaehjaaKw
set_option linter.unusedVariables false
set_option linter.unusedSimpArgs false

theorem sep2 {a b : Value} (h : ∀ g, a.ownBlock = some g → b.ownBlock ≠ some g) : Ap.Sep [a, b] [a, b] := by
  intro i j u v hi hj hij g hg hg'
  rcases i with _ | _ | i <;> rcases j with _ | _ | j <;> simp at hi hj hij <;> subst hi <;> subst hj
  · exact h g hg hg'
  · exact h g hg' hg
theorem rws2 {w : World} {a b : Value} {n : Nat} {xs : List Value} (ha : w.ownsRow 0 3 1 a n xs) (hb : w.ownsRow 0 3 1 b n xs) : Ap.Rws w 0 3 [a, b] (fun _ => n) (fun _ => 0) := by
  intro k v hv
  rcases k with _ | _ | k <;> simp at hv <;> subst hv
  · exact ⟨xs, ha, fun i hi => absurd hi (Nat.not_lt_zero i)⟩
  · exact ⟨xs, hb, fun i hi => absurd hi (Nat.not_lt_zero i)⟩
theorem bl2 {a b : Value} {q : Nat} (h : Ap.Bl [a, b] q) : a.ownBlock = some q ∨ b.ownBlock = some q := by
  obtain ⟨k, v, hv, hq⟩ := h
  rcases k with _ | _ | k <;> simp at hv <;> subst hv
  · exact .inl hq
  · exact .inr hq
set_option maxHeartbeats 4000000 in
set_option maxRecDepth 100000 in
theorem law_calls (A1 : Option Addr) (c1 : Nat) (keys : List Int) (w : World) (hr1 : Rd w A1 (ivs keys)) (hl : keys.length * 8 ≤ 140737488351232) (hc1 : keys.length ≤ c1) :
    Calls Try.prog 7 #[.slice A1 keys.length c1] w fun e w' => e = .returned (.bool true) ∧ Below w.heap.size w w' := by
  go_enter Try.func7, Try.ntmps7
  go_wp2_with fail
  refine (AW.awake_calls w).mono ?_
  rintro e w1 ⟨rfl, hb1⟩
  go_wp2_with fail
  refine (Cc.new_calls 5 (by omega) (by omega) w1).mono ?_
  rintro e w2 ⟨rfl, hC2, hb2⟩
  go_wp2_with fail
  refine (copy_calls A1 c1 keys w2 (hr1.keep (below_then hb1 hb1.size hb2)) (by omega)).mono ?_
  rintro e w3 ⟨A, c, rfl, hown, hb3⟩
  obtain ⟨_, c', e1, hcap, hcap2⟩ := own_form hown
  cases e1
  have hK0 : Kp w1 w3 (w1.heap.size + 1) w1.heap.size A c keys 0 [] := by
    have hlt := hC2.lt encInt
    have hst := hC2.keep encInt (RL.tch_new hb3) (fun q hq hs => by have := hlt q hq; omega)
    refine ⟨hst, by simp, below_then hb2 hb2.size hb3, ?_, own_mono hown hb2.size, fun q hq hq' => ?_, by simp [Cc.kv]⟩
    · rintro q (rfl | rfl | h)
      · omega
      · omega
      · simp at h
    · have h1 := own_base hown q hq
      have h2 := hlt q hq'
      omega
  clear hC2 hown
  have hb13 := below_then hb2 hb2.size hb3
  clear hb2 hb3
  generalize hbc : w1.heap.size + 1 = bc at *
  generalize hbm : w1.heap.size = bm at hK0
  have HK0 := Lib.hid hK0
  clear hK0
  clear hbc hbm
  go_wp2_with fail
  go_loopw [6] (fun i wr => ∃ (k : Nat) (L : List (Nat × Int × Value)), k ≤ keys.length ∧ i = .int .i64 k ∧ Kp w1 wr bc bm A c keys k L) (fun i _ => keys.length - (intOf i).toNat)
  case atStart => exact ⟨0, _, Nat.zero_le _, rfl, HK0.out⟩
  case round =>
    clear HK0
    obtain ⟨k, L, hk, rfl, hK⟩ := hrel
    by_cases hlt : k < keys.length
    · obtain ⟨b, off, rfl, hcell⟩ := rd_int (own_rd hK.row) hlt
      have hkc : k ≤ c := by omega
      have hput := fun W (h : Kp w1 W bc bm (some ⟨b, off, none⟩) c keys k L) => h.put hlt
      have HK := Lib.hid hK
      have Hput := Lib.hid hput
      clear hK hput
      go_wp2_with fail
      go_region_held3 (fun w' => w'.cell? ⟨b, off + k, none⟩ = some (.int .i64 keys[k])) (first | assumption | go_keep) ((go_at_call 39; refine (Hput.out wr.drew (Kp.other (w' := wr.drew) HK.out ⟨rfl, rfl, rfl, Nat.le_refl _, fun _ _ => rfl⟩)).mono ?_; rintro e w5 ⟨rfl, L', hK5⟩; have hc5 := rd_intc (own_rd hK5.row) hlt))
      go_wp2_with fail
      go_roundw
      case rel => exact ⟨k + 1, L', by omega, by go_num, hK5⟩
      case measure => simp [intOf]; omega
    · obtain rfl : k = keys.length := by omega
      have hlen := hK.len
      obtain ⟨ks, hks⟩ : ∃ ks, ks = (Cc.kv L).map (·.1) := ⟨_, rfl⟩
      have hLl : L.length = ks.length := by rw [hks]; simp [Cc.kv]
      have hkv : Cc.keysV L = ivs ks := by rw [keysV_ivs, hks]
      have HLl := Lib.hid hLl
      have Hkv := Lib.hid hkv
      have Hks := Lib.hid hks
      have hkl : ks.length ≤ 5 := by omega
      clear hks hkv hLl
      have hOlt := hK.rep.lt encInt
      have hRlt := hK.row.lt
      have h1r := hK.below.size
      have HK := Lib.hid hK
      have HO := Lib.hid hOlt
      have HR := Lib.hid hRlt
      clear hK hOlt hRlt
      go_wp2_with fail
      refine (Cc.keys_calls bc bm (5 : Nat) L _ HK.out.rep (by omega)).mono ?_
      rintro e wa ⟨va, rfl, hao, hab⟩
      have hKa := HK.out.other hab
      rw [Hkv.out, HLl.out] at hao
      obtain ⟨aA, ac, rfl, hac, hac2⟩ := own_form hao
      go_wp2_with fail
      refine (Cc.keys_calls bc bm (5 : Nat) L _ hKa.rep (by omega)).mono ?_
      rintro e wb ⟨vb, rfl, hbo, hbb⟩
      have hKb := hKa.other hbb
      rw [Hkv.out, HLl.out] at hbo
      obtain ⟨bA, bcp, rfl, hbc1, hbc2⟩ := own_form hbo
      have hao2 := own_keep hao hbb
      go_wp2_with fail
      refine (copy_calls aA ac ks wb (own_rd hao2) (by omega)).mono ?_
      rintro e wc ⟨wA, wcp, rfl, hwo, hcb⟩
      have hKc := hKb.other hcb
      have hac' := own_keep hao2 hcb
      have hbc' := own_keep hbo hcb
      go_wp2_with fail
      refine (same_calls aA bA ac bcp ks wc (own_rd hac') (own_rd hbc') (by omega)).mono ?_
      rintro e wd ⟨rfl, hdb⟩
      have hKd := (hKc.other hdb).other (below_alloc (Below.refl wd.heap.size wd) (.cells #[.slice aA ks.length ac, .slice bA ks.length bcp] 44))
      have had := (own_keep hac' hdb).alloc (.cells #[.slice aA ks.length ac, .slice bA ks.length bcp] 44)
      have hbd := (own_keep hbc' hdb).alloc (.cells #[.slice aA ks.length ac, .slice bA ks.length bcp] 44)
      have hwd := (own_keep hwo hdb).alloc (.cells #[.slice aA ks.length ac, .slice bA ks.length bcp] 44)
      have halt := hao.lt
      have hblt := hbo.lt
      have hls : (wd.alloc (.cells #[.slice aA ks.length ac, .slice bA ks.length bcp] 44)).ownsRow 0 44 1 (.slice (some ⟨wd.heap.size, 0, none⟩) 2 2) 2 [.slice aA ks.length ac, .slice bA ks.length bcp] :=
        ⟨rfl, .inr ⟨_, 2, _, rfl, Nat.zero_le _, heap_alloc_new _ _, by omega, by simp [maxLen], rfl, rfl⟩⟩
      have hsz1 := hab.size
      have hsz2 := hbb.size
      clear hKa hKb hKc hao hao2 hac' hbc' hcb hdb hab hbb HK
      go_wp2_with fail
      refine (AP.apart_calls wd.heap.size 2 [.slice aA ks.length ac, .slice bA ks.length bcp] (fun _ => ks.length) 0 (wd.alloc (.cells #[.slice aA ks.length ac, .slice bA ks.length bcp] 44)) hls (rws2 (own_mono had (Nat.zero_le _)) (own_mono hbd (Nat.zero_le _))) (sep2 (fun g hg hg' => by have := (halt g hg).2; have := (hblt g hg').1; omega)) (by simp) (fun _ _ => by omega)).mono ?_
      rintro e we ⟨rfl, hte⟩
      have hKe : Kp w1 we bc bm A c keys keys.length L := hKd.tch hte (fun q hq hb => by
        rcases bl2 hb with hb | hb
        · have h1 := (halt q hb).1
          exact ⟨by omega, fun ho => by have := HO.out q ho; omega, fun ho => by have := (HR.out q ho).2; omega⟩
        · have h1 := (hblt q hb).1
          exact ⟨by omega, fun ho => by have := HO.out q ho; omega, fun ho => by have := (HR.out q ho).2; omega⟩)
      have hwe : we.ownsRow wb.heap.size 3 1 (.slice wA ks.length wcp) ks.length (ivs ks) := RL.own_tch hwd hte (fun g hg hb => by
        have h1 := own_base hwd g hg
        rcases bl2 hb with hb | hb
        · have h1 := (halt g hb).2
          omega
        · have h1 := (hblt g hb).2
          omega)
      have hwN : ∀ q, (Value.slice wA ks.length wcp).ownBlock = some q → ¬ Own bc bm L q := fun q hq ho => by
        have h1 := own_base hwd q hq
        have h2 := HO.out q ho
        omega
      clear hKd had hbd hls hte hwd
      go_wp2_with fail
      refine (Cc.keys_calls bc bm (5 : Nat) L _ hKe.rep (by omega)).mono ?_
      rintro e wf ⟨vf, rfl, hfo, hfb⟩
      rw [Hkv.out, HLl.out] at hfo
      obtain ⟨fA, fc, rfl, hfc1, hfc2⟩ := own_form hfo
      have hKf := hKe.other hfb
      have hwf := own_keep hwe hfb
      go_wp2_with fail
      refine (same_calls fA wA fc wcp ks wf (own_rd hfo) (own_rd hwf) (by omega)).mono ?_
      rintro e wg ⟨rfl, hgb⟩
      have hKg := hKf.other hgb
      have hwg := own_mono (own_keep hwf hgb) (Nat.zero_le _)
      have hmem : ∀ x ∈ ks, x ∈ (Cc.kv L).map (·.1) := fun x hx => by rw [← Hks.out]; exact hx
      have HI := Lib.hid (And.intro hKg (And.intro hwg (And.intro hwN hmem)))
      clear hKe hKf hwe hwf hfo hfb hgb hKg hwg hwN hmem halt hblt
      go_wp2_with fail
      go_loopw [10] (fun i wr => ∃ (k : Nat) (L : List (Nat × Int × Value)), k ≤ ks.length ∧ i = .int .i64 k ∧ Kp w1 wr bc bm A c keys keys.length L ∧ wr.ownsRow 0 3 1 (.slice wA ks.length wcp) ks.length (ivs ks) ∧ (∀ q, (Value.slice wA ks.length wcp).ownBlock = some q → ¬ Own bc bm L q) ∧ ∀ x ∈ ks, x ∈ (Cc.kv L).map (·.1)) (fun i _ => ks.length - (intOf i).toNat)
      case atStart => exact ⟨0, L, Nat.zero_le _, rfl, HI.out⟩
      case round =>
        clear HI HLl Hkv Hks HO HR
        obtain ⟨k, L, hk, rfl, hK, hrow, hN, hmem⟩ := hrel
        by_cases hlt : k < ks.length
        · obtain ⟨b3, off3, rfl, hcell⟩ := rd_int (own_rd hrow) hlt
          obtain ⟨i, hi1, hi2, hi3, hget⟩ := hK.get (hmem ks[k] (List.getElem_mem hlt))
          have hHs := hrow.lt
          clear hK
          go_wp2_with fail
          refine hget.mono ?_
          rintro e w7 ⟨rfl, L', hK7, ht7, hsub, hmem7⟩
          have hrow7 := RL.own_tch hrow ht7 hN
          have hN7 : ∀ q, (Value.slice (some ⟨b3, off3, none⟩) ks.length wcp).ownBlock = some q → ¬ Own bc bm L' q := fun q hq ho => by
            rcases hsub q ho with ho | ho
            · exact hN q hq ho
            · have := (hHs q hq).2
              omega
          have HI := Lib.hid (And.intro hK7 (And.intro hrow7 (And.intro hN7 (fun x hx => hmem7 x (hmem x hx)))))
          clear hcell hrow hN hmem hK7 ht7 hsub hmem7 hrow7 hN7 hHs hget
          go_wp2_with fail
          go_loopw [13, 14] (fun n i wr => ∃ j : Nat, j ≤ keys.length ∧ i = .int .i64 j ∧ n = .int .i64 (lastI keys ks[k] j) ∧ Below w7.heap.size w7 wr) (fun _ i _ => keys.length - (intOf i).toNat)
          case atStart => exact ⟨0, Nat.zero_le _, rfl, rfl, Below.refl _ _⟩
          case round =>
            obtain ⟨j, hj, rfl, rfl, hbj⟩ := hrel
            have hrd1 := hr1.keep (below_then (below_then hb1 hb1.size HI.out.1.below) (Nat.le_trans hb1.size HI.out.1.below.size) hbj)
            have hcellw := rd_intc (own_rd (own_keep HI.out.2.1 hbj)) hlt
            by_cases hjl : j < keys.length
            · obtain ⟨b1, off1, rfl, hcell1⟩ := rd_int hrd1 hjl
              have hjl' : (j : Int) < (keys.length : Int) := by omega
              by_cases hkx : keys[j] = ks[k]
              · have hl1 : lastI keys ks[k] (j + 1) = j := by unfold lastI; rw [if_pos (by rw [List.getElem?_eq_getElem hjl, hkx])]
                have Hl1 := Lib.hid hl1
                clear hl1
                go_wp2_with fail
                go_quiet (fail)
                go_wp2
                go_roundw
                case rel => exact ⟨j + 1, by omega, by go_num, by rw [Hl1.out], below_drewN hbj _⟩
                case measure => simp [intOf]; omega
              · have hl1 : lastI keys ks[k] (j + 1) = lastI keys ks[k] j := by rw [lastI, if_neg (by rw [List.getElem?_eq_getElem hjl]; simpa using hkx)]
                have Hl1 := Lib.hid hl1
                clear hl1
                go_wp2_with fail
                go_quiet (fail)
                go_wp2
                go_roundw
                case rel => exact ⟨j + 1, by omega, by go_num, by rw [Hl1.out], below_drewN hbj _⟩
                case measure => simp [intOf]; omega
            · obtain rfl : j = keys.length := by omega
              have hik : i < keys.length := hi1
              obtain ⟨b1, off1, rfl, _⟩ := rd_int hrd1 hik
              have hlast := lastI_eq hi2 keys.length hi1 hi3
              rw [hlast]
              have hti : (keys.take i).length = i := by rw [List.length_take]; omega
              have hrv := (own_rd HI.out.1.row).take i
              rw [ivs_take] at hrv
              have hrk := hrd1.take i
              rw [ivs_take] at hrk
              have hsame := same_calls A (some ⟨b1, off1, none⟩) c c1 (keys.take i) wr (hrv.keep hbj) hrk (by omega)
              rw [hti] at hsame
              have HIj := Lib.hid (And.intro (HI.out.1.other hbj) (And.intro (own_keep HI.out.2.1 hbj) HI.out.2.2))
              have hic : i ≤ c1 := by omega
              have hcw := hcellw
              clear hrd1 hcellw hcw hrv hrk hti hlast HI hbj hi2 hi3
              go_wp2_with fail
              refine hsame.mono ?_
              rintro e w8 ⟨rfl, h8⟩
              clear hsame
              go_wp2_with fail
              go_roundw
              case rel => exact ⟨k + 1, L', by omega, by go_num, HIj.out.1.other h8, own_keep HIj.out.2.1 h8, HIj.out.2.2⟩
              case measure => simp [intOf]; omega
        · have hk' : decide (k < ks.length) = false := by simpa using hlt
          have hB := Lib.hid hK.below
          clear hK
          go_wp2_with fail
          go_ret
          exact ⟨rfl, below_then hb1 hb1.size hB.out⟩
end Go.Proofs.Ytdbccemllaehjaa.RK
