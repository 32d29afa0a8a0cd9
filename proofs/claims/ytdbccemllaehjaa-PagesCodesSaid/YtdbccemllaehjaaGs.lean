/- The reference's Unarmor, walked on. -/
import Derived.Test.YtdbccemllaehjaaGr
namespace Go.Proofs.Ytdbccemllaehjaa.PG
open Go.RowKit Go.Proofs.YtdbccemllaehjaaKw Go.Proofs.YtdbccemllaehjaaGa
set_option linter.unusedVariables false
set_option linter.unusedSimpArgs false
theorem own_sln {w : World} {base : Nat} {v : Value} {n : Nat} {xs : List Value} (h : w.ownsRow base 3 1 v n xs) : ∃ A c, v = .slice A n c ∧ Rd w A xs := by
  obtain ⟨A, c, rfl, _, _⟩ := own_form h
  exact ⟨A, c, rfl, own_rd h⟩
theorem str_ne2 {a b : ByteArray} (h : ¬ a = b) : (a.toList == b.toList) = false := by
  refine beq_eq_false_iff_ne.2 fun e => h ?_
  rw [ByteArray.toList_eq, ByteArray.toList_eq] at e
  cases a; cases b
  exact congrArg _ (Array.toList_inj.1 e)
theorem tmod2 (x s : Nat) : ((x : Int) / 2 ^ s).tmod 2 = ((x / 2 ^ s % 2 : Nat) : Int) := by
  have e : ((x : Int) / 2 ^ s) = ((x / 2 ^ s : Nat) : Int) := by simp
  rw [e, Int.tmod_eq_emod_of_nonneg (Int.natCast_nonneg _)]
  generalize x / 2 ^ s = y
  omega
set_option maxHeartbeats 8000000 in
set_option maxRecDepth 100000 in
theorem runarmor_calls (w : World) (s : ByteArray) (hs : s.size ≤ 1000) : Calls Try.prog 101 #[.string s] w (UnAns w s) := by
  go_enter Try.func101, Try.ntmps101
  go_wp2_with fail
  go_loopw [4, 5] (fun v s5 wr => ∃ (k : Nat) (D bs : List Nat), k ≤ s.size ∧ wr.ownsRow w.heap.size 3 1 v bs.length (nvs bs) ∧ s5 = .int .i64 (k : Int) ∧ BR s k D bs ∧ Below w.heap.size w wr) (fun _ i _ => s.size - (intOf i).toNat)
  case atStart => exact ⟨0, [], [], Nat.zero_le _, World.ownsRow_nil _ _ _ _, rfl, BR.start s, Below.refl _ _⟩
  case round =>
    obtain ⟨k, D, bs, hk, ho, rfl, hR, hb⟩ := hrel
    by_cases hlt : k < s.size
    · have hno := fun B (hc : ¬ isL s[k].toNat) => arm_not (B := B) hlt hc
      have hyes := fun cs hc hd hl hv => hR.next (cs := cs) hlt hc hd hl hv
      have hlen := hR.bl
      have hc256 : s[k].toNat < 256 := s[k].toNat_lt
      have H := Lib.hid (And.intro hyes (And.intro hno hlen))
      have HO := Lib.hid (And.intro ho hb)
      clear hyes hno hR hlen ho hb
      go_wp2_with fail
      refine (letter_calls wr s[k].toNat hc256).mono ?_
      rintro e w1 ⟨hl, rfl⟩
      rcases hl with ⟨hL, rfl⟩ | ⟨hL, rfl⟩
      · have hx32 := ul_lt hL
        have hst := fun cs => H.out.1 cs hL
        have HS := Lib.hid (And.intro hst H.out.2.2)
        clear hst H
        generalize ul s[k].toNat = x at *
        go_wp2_with fail
        go_loopw [4, 7] (fun v s7 wq => ∃ (j : Nat) (cs : List Nat), j ≤ 5 ∧ s7 = .int .i64 (4 - (j : Int)) ∧ wq.ownsRow w.heap.size 3 1 v (bs.length + j) (nvs (bs ++ cs)) ∧ B5 x j cs ∧ Below w.heap.size w wq) (fun _ i _ => (intOf i + 1).toNat)
        case atStart => exact ⟨0, [], by omega, by go_num, by simpa using HO.out.1, B5.start hx32, HO.out.2⟩
        case round =>
          clear HO
          obtain ⟨j, cs, hj, rfl, ho, hB, hb⟩ := hrel
          have hbl : bs.length ≤ 5000 := by have := HS.out.2; omega
          by_cases hj5 : j < 5
          · have hnx := hB.next hj5
            have HB := Lib.hid hnx
            clear hB hnx
            go_wp2_with (at_builtin; go_loud (refine app_own ho hb (.tmp 28) (.tmp 34) [_] 44 _ _ Try.underlying44 info3i (by omega) (by decide) hb.size rfl rfl rfl (by decide) rfl rfl rfl (by simp [Value.oneCell']) ?_); intro v1 w2 ho1 hb1 hg1 hat1; have H1 := Lib.hid ho1; clear ho1 hg1 hat1)
            go_roundw
            case rel =>
              refine ⟨j + 1, cs ++ [x / 2 ^ (4 - j) % 2], by omega, by go_num, ?_, HB.out, hb1⟩
              have h := H1.out
              rw [tmod2] at h
              rw [← List.append_assoc, nvs_snoc]
              exact h
            case measure => simp [intOf]; omega
          · obtain rfl : j = 5 := by omega
            have hnx := HS.out.1 cs hB.dig hB.len hB.done
            have HB := Lib.hid hnx
            clear hB hnx
            go_wp2_with fail
            go_roundw
            case rel => exact ⟨k + 1, D ++ [x], bs ++ cs, by omega, by rw [List.length_append, show cs.length = 5 by have := HB.out.bl; have := HS.out.2; rw [List.length_append] at *; omega]; exact ho, by go_num, HB.out, hb⟩
            case measure => simp [intOf]; omega
      · have HN := Lib.hid (fun B => H.out.2.1 B hL)
        clear H
        go_wp2_with fail
        go_ret2
        exact ⟨_, [], 22, rfl, World.ownsRow_nil _ _ _ _, by intro d hd; simp at hd, by simp, by omega, by omega, fun B _ h => (HN.out B h).elim, HO.out.2⟩
    · obtain rfl : k = s.size := by omega
      obtain ⟨A4, c4, rfl, hs4⟩ := own_sln ho
      have hrd := hs4
      have hbl : bs.length ≤ 5000 := by have := hR.bl; omega
      have HR := Lib.hid (And.intro hR (And.intro hrd hb))
      obtain ⟨wz, hwz⟩ : ∃ wz, wz = wr.heap.size := ⟨_, rfl⟩
      have hzs : w.heap.size ≤ wz := by rw [hwz]; exact hb.size
      have HZ := Lib.hid hwz
      clear hR hrd hb ho hs4 hwz
      obtain ⟨wA, hwA⟩ : ∃ wA, wA = wr := ⟨_, rfl⟩
      subst hwA
      go_wp2_with fail
      go_loopw [8, 9] (fun v s9 wq => ∃ (j : Nat) (out : List Nat), wq.ownsRow wz 5 1 v out.length (bvs out) ∧ s9 = .int .i64 (8 * (j : Int)) ∧ BB bs j out 0 0 ∧ Below wz wA wq ∧ wz ≤ wq.heap.size) (fun _ i _ => (5000 - intOf i).toNat)
      case atStart => exact ⟨0, [], World.ownsRow_nil _ _ _ _, rfl, BB.start bs, Below.refl _ _, by rw [HZ.out]; exact Nat.le_refl _⟩
      case round =>
        obtain ⟨j, out, ho, rfl, hB, hb, hz⟩ := hrel
        by_cases hj : 8 * j + 8 ≤ bs.length
        · have H := Lib.hid (And.intro ho (And.intro hB hb))
          clear ho hB hb
          have hd1 : decide (8 * (j : Int) + 8 ≤ (bs.length : Int)) = true := decide_eq_true (by omega)
          go_wp2_with fail
          clear hd1
          go_loopw [10, 11] (fun s10 s11 wp => ∃ i x : Nat, i ≤ 8 ∧ s10 = .int .i64 (x : Int) ∧ s11 = .int .i64 (i : Int) ∧ BB bs j out i x ∧ wp = wr) (fun _ s _ => (8 - intOf s).toNat)
          case atStart => exact ⟨0, 0, by omega, rfl, rfl, H.out.2.1, rfl⟩
          case round =>
            obtain ⟨i, x, hi, rfl, rfl, hB, rfl⟩ := hrel
            have hx256 : x < 256 := by
              have h1 := hB.lt
              have h2 : 2 ^ i ≤ 2 ^ 8 := Nat.pow_le_pow_right (by omega) hi
              omega
            by_cases hi8 : i < 8
            · have hil : 8 * j + i < bs.length := by omega
              have hrd : Rd wr A4 (nvs bs) := HR.out.2.1.keep (by rw [← HZ.out]; exact H.out.2.2)
              obtain ⟨b, off, rfl, hc⟩ := rd_num hrd hil
              have hnx := hB.bit HR.out.1.bd hil
              have hb2 : bs[8 * j + i] < 2 := HR.out.1.bd _ (List.getElem_mem hil)
              have HB := Lib.hid hnx
              clear hB hnx hrd
              go_wp2_with fail
              go_roundw
              case rel => exact ⟨i + 1, 2 * x + bs[8 * j + i], by omega, by go_num, by go_num, HB.out, trivial⟩
              case measure => simp [intOf]; omega
            · obtain rfl : i = 8 := by omega
              have hby := hB.byte
              obtain ⟨ho, _, hb⟩ := H.out
              have hol := hB.len
              have HB := Lib.hid (And.intro hby.1 hol)
              clear hB hby H
              go_wp2_with (at_builtin; go_loud (refine app_own ho hb (.tmp 56) (.tmp 59) [_] 141 _ _ Try.underlying141 info5 (by omega) (by decide) hz rfl rfl rfl (by decide) rfl rfl rfl (by simp [Value.oneCell']) ?_); intro v1 w2 ho1 hb1 hg1 hat1; have hz2 : wz ≤ w2.heap.size := (Nat.le_trans hz hg1.size); have H1 := Lib.hid ho1; clear ho1 hg1 hat1)
              go_roundw
              case rel => exact ⟨j + 1, out ++ [x], by rw [List.length_append, bvs_snoc]; exact H1.out, by go_num, HB.out.1, hb1, hz2⟩
              case measure => simp [intOf]; omega
        · obtain ⟨A8, c8, rfl, hs8⟩ := own_sl ho
          have hr8 := hs8.rd
          have hol := hB.len
          have hdone := hB.done HR.out.1 (by omega)
          have hle := hB.le
          have H := Lib.hid (And.intro ho (And.intro hB (And.intro hb (And.intro hdone hol))))
          have hol2 : out.length ≤ 1000 := by omega
          have hjb : 8 * j ≤ 5000 := by omega
          have hold : out.length ≤ s.size := by have := HR.out.1.bl; omega
          have hdg := hB.dig
          clear ho hB hb hs8 hdone hol hle
          go_wp2_with fail
          refine (rarmor_calls wr out A8 c8 hr8 hdg hol2).mono ?_
          rintro e w9 ⟨t, ht, rfl, hb9⟩
          have hfin : Below w.heap.size w w9 := (HR.out.2.2.trans (H.out.2.2.1.mono hzs)).trans (hb9.mono (by omega))
          have ho9 := own_mono (own_keep H.out.1 hb9) hzs
          have H9 := Lib.hid (And.intro hfin (And.intro ho9 ht))
          clear hfin ho9 ht hb9
          by_cases hts : t = s
          · subst hts
            go_wp2_with fail
            go_ret2
            exact ⟨_, out, 0, rfl, H9.out.2.1, hdg, hold, by omega, by omega, fun B hB hA => ⟨H.out.2.2.2.1 B hB hA, rfl⟩, H9.out.1⟩
          · have hse := str_ne2 hts
            have HT := Lib.hid hts
            clear hts
            go_wp2_with fail
            go_ret2
            exact ⟨_, [], 22, rfl, World.ownsRow_nil _ _ _ _, by intro d hd; simp at hd, by simp, by omega, by omega, fun B hB hA => by
              have h1 := H.out.2.2.2.1 B hB hA
              have h2 := H9.out.2.2
              rw [h1] at h2
              exact (HT.out (h2.unique hA)).elim, H9.out.1⟩
end Go.Proofs.Ytdbccemllaehjaa.PG
