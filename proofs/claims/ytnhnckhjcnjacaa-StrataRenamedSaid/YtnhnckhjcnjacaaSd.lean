/- Strata: the walks of Parts, of ring and of Ring. -/
import Derived.Test.YtnhnckhjcnjacaaSo
namespace Go.Proofs.Ytnhnckhjcnjacaa.ST
open Go.RowKit Go.Proofs.YtnhnckhjcnjacaaKw Go.Proofs.YtnhnckhjcnjacaaSg Go.Proofs.YtnhnckhjcnjacaaSw
set_option linter.unusedVariables false
set_option linter.unusedSimpArgs false

/-- A graph that may not be looked at. -/
theorem of_fault (A : Option Addr) (c : Nat) (n : Int) (l : List AI) (w : World) (hr : Rd w A (avs l)) (hl : l.length ≤ 140737488355328) (hf : fault n l ≠ 0) :
    Calls Try.prog 34 #[.int .i64 n, .slice A l.length c] w fun e w' => e = .returned (.tuple #[.pointer none, .int .i64 (fault n l)]) ∧ Below w.heap.size w w' := by
  by_cases hn : (n < 0 ∨ 4096 < n) ∨ 262144 < l.length
  · exact (of_bad A c n l w hl hn).mono fun e w' h => ⟨h.1, by rw [← h.2]; exact Below.refl _ _⟩
  · obtain ⟨k, rfl⟩ := Int.eq_ofNat_of_zero_le (show 0 ≤ n by omega)
    have hb : fault k l = 80 ∧ l.any (bad k) = true := by
      unfold fault at hf ⊢
      rw [if_neg (fun h => hn (.inl h)), if_neg (fun h => hn (.inr h))] at hf ⊢
      by_cases h : l.any (bad k) = true
      · exact ⟨if_pos h, h⟩
      · rw [if_neg h] at hf; exact absurd rfl hf
    refine (of_calls A c k l w hr (by omega) (by omega)).mono fun e w' h => ?_
    unfold OfPost at h
    rw [if_pos hb.2] at h
    rw [hb.1]
    exact h
theorem fault_ok {n : Int} {l : List AI} (h : fault n l = 0) : ∃ k : Nat, n = k ∧ k ≤ 4096 ∧ l.length ≤ 262144 ∧ l.any (bad n) = false := by
  unfold fault at h
  split at h
  · omega
  · split at h
    · omega
    · split at h
      · omega
      · obtain ⟨k, hk⟩ := Int.eq_ofNat_of_zero_le (show 0 ≤ n by omega)
        exact ⟨k, hk, by omega, by omega, by simpa using ‹¬ l.any (bad n) = true›⟩
/-- One that may be. -/
theorem of_good (A : Option Addr) (c n : Nat) (l : List AI) (w : World) (hr : Rd w A (avs l)) (hl : l.length ≤ 262144) (hn : n ≤ 4096) (hb : l.any (bad n) = false) :
    Calls Try.prog 34 #[.int .i64 n, .slice A l.length c] w fun e w' => ∃ gb ob base, e = .returned (.tuple #[.pointer (some ⟨gb, 0, none⟩), .int .i64 0]) ∧ GraphI w' gb ob base n (outs l) ∧ Below w.heap.size w w' := by
  refine (of_calls A c n l w hr hl hn).mono fun e w' h => ?_
  unfold OfPost at h
  rw [if_neg (by rw [hb]; simp)] at h
  obtain ⟨gb, ob, base, he, hg, hbl⟩ := h
  refine ⟨gb, ob, base, he, ⟨hg, fun v hv a ha => ?_, fun v hv => Nat.le_trans (outs_len l v) hl, hn⟩, hbl⟩
  have hm := (outs_sub l v a ha).1
  have := List.any_eq_false.1 hb a hm
  simp [bad] at this
  omega
/-- What numbers a graph's parts. -/
structure PlanI (n T : Nat) (g : Nat → List AI) (H : Nat → Nat) (s : KS) : Prop where
  head : HeadI g n H
  ok : KOk n (cross H (tos g) n).back (startK H (cross H (tos g) n).waits n) T
  fin : iterK (cross H (tos g) n).back (startK H (cross H (tos g) n).waits n) T = s
theorem parts_plan (ob base n gb T : Nat) (g : Nat → List AI) (H : Nat → Nat) (s : KS) (w0 : World) (hG : GraphI w0 gb ob base n g) (hP : PlanI n T g H s) :
    Calls Try.prog 35 #[ptr gb] w0 fun e w' => PartsPost w0 w' n H s e := by
  have := parts_calls ob base n gb T g H _ _ w0 hG hP.head rfl rfl hP.ok
  rw [hP.fin] at this
  exact this
set_option maxHeartbeats 1000000 in
theorem partsF_fault (A : Option Addr) (c : Nat) (n : Int) (l : List AI) (w : World) (hr : Rd w A (avs l)) (hl : l.length ≤ 140737488355328) (hf : fault n l ≠ 0) :
    Calls Try.prog 14 #[.int .i64 n, .slice A l.length c] w fun e w' => e = .returned (.tuple #[.slice none 0 0, .int .i64 (fault n l)]) ∧ Below w.heap.size w w' := by
  have hc := of_fault A c n l w hr hl hf
  have hf' : ¬ fault n l = 0 := hf
  generalize fault n l = x at *
  have H := Lib.hid hc
  clear hc hr hf
  go_enter Try.func14, Try.ntmps14
  go_wp2_with fail
  refine H.out.mono ?_
  rintro e w1 ⟨rfl, hB⟩
  go_wp2_with fail
  go_ret2
  exact ⟨rfl, hB⟩
set_option maxHeartbeats 1000000 in
theorem partsF_calls (A : Option Addr) (c n T : Nat) (l : List AI) (H : Nat → Nat) (s : KS) (w : World) (hr : Rd w A (avs l)) (hl : l.length ≤ 262144) (hn : n ≤ 4096) (hb : l.any (bad n) = false) (hP : PlanI n T (outs l) H s) :
    Calls Try.prog 14 #[.int .i64 n, .slice A l.length c] w fun e w' => (∃ b, e = .returned (.tuple #[.slice (some ⟨b, 0, none⟩) n n, .int .i64 0]) ∧ w.heap.size ≤ b ∧ IArr w' b n (fun x => s.number (H x))) ∧ Below w.heap.size w w' := by
  have hc := of_good A c n l w hr hl hn hb
  have HC := Lib.hid (And.intro hc hP)
  clear hc hr hb hP
  go_enter Try.func14, Try.ntmps14
  go_wp2_with fail
  refine HC.out.1.mono ?_
  rintro e w1 ⟨gb, ob, base, rfl, hG, hB⟩
  have hp := parts_plan ob base n gb T (outs l) H s w1 hG HC.out.2
  have HP := Lib.hid (And.intro hp hB)
  clear hp hB hG
  go_wp2_with fail
  refine HP.out.1.mono ?_
  rintro e w2 ⟨⟨b, v, rfl, hlb, hA, hrow, hne⟩, hB2⟩
  have HQ := Lib.hid (And.intro hlb (And.intro hA hB2))
  clear hlb hA hB2 hrow
  go_wp2_with fail
  go_ret2
  exact ⟨⟨b, rfl, Nat.le_trans HP.out.2.size HQ.out.1, HQ.out.2.1⟩, below_then HP.out.2 HP.out.2.size HQ.out.2.2⟩
/-- The first part within which something is taken away. -/
def ringT (P : Nat → Int) (v : Nat) (r : Int) (a : AI) : Int := if a.neg = true ∧ P v = P a.t.toNat ∧ (r < 0 ∨ P v < r) then P v else r
def ringV (P : Nat → Int) (v : Nat) (row : List AI) (r : Int) : Int := row.foldl (ringT P v) r
def ringG (P : Nat → Int) (g : Nat → List AI) (k : Nat) : Int := (List.range k).foldl (fun r v => ringV P v (g v) r) (-1)
theorem ringG_succ (P : Nat → Int) (g : Nat → List AI) (k : Nat) : ringG P g (k + 1) = ringV P k (g k) (ringG P g k) := by
  unfold ringG
  rw [List.range_succ, List.foldl_append]
  rfl
theorem ringV_succ (P : Nat → Int) (v : Nat) (row : List AI) (r : Int) (j : Nat) (h : j < row.length) : ringV P v (row.take (j + 1)) r = ringT P v (ringV P v (row.take j) r) row[j] := by
  unfold ringV
  rw [List.take_succ_eq_append_getElem h, List.foldl_append]
  rfl
set_option maxHeartbeats 4000000 in
set_option maxRecDepth 100000 in
theorem ring_calls (ob base n gb pb : Nat) (g : Nat → List AI) (P : Nat → Int) (w0 : World) (hG : GraphI w0 gb ob base n g) (hP : IArr w0 pb n P) :
    Calls Try.prog 38 #[ptr gb, .slice (some ⟨pb, 0, none⟩) n n] w0 fun e w' => e = .returned (.int .i64 (ringG P g n)) ∧ Below w0.heap.size w0 w' := by
  have hsm := hG.small
  have hc0 := hG.rep.c0
  have hgl := World.block_lt_of_cell? w0 _ hc0
  have HG := Lib.hid (And.intro hG hP)
  clear hG hP
  go_enter Try.func38, Try.ntmps38
  go_wp2_with fail
  clear hc0
  go_loopw [5, 13] (fun r i wr => ∃ k : Nat, k ≤ n ∧ i = .int .i64 k ∧ r = .int .i64 (ringG P g k) ∧ Below w0.heap.size w0 wr) (fun _ i _ => n - (intOf i).toNat)
  case atStart => exact ⟨0, Nat.zero_le _, rfl, rfl, Below.refl _ _⟩
  case round =>
    obtain ⟨k, hk, rfl, rfl, hB⟩ := hrel
    by_cases hlt : k < n
    · obtain ⟨A', c', hcs0, hos0, hle, hcm, hfz0⟩ := HG.out.1.rep.mat.at hlt
      have hgr := HG.out.1.rep.keep hB
      have hg1 := hgr.c1
      have hcs1 := (hB.cell (p := ⟨ob, k, none⟩) HG.out.1.rep.mat.lt).trans hcs0
      have hln := HG.out.1.len k hlt
      have hsucc := ringG_succ P g k
      have HO := Lib.hid (And.intro hos0 (And.intro hsucc hB))
      clear hos0 hsucc hcs0 hfz0 hgr hB
      generalize ringG P g k = r0 at *
      go_wp2_with fail
      clear hg1 hcs1
      go_loopw [5, 24] (fun r i wr => ∃ j : Nat, j ≤ (g k).length ∧ i = .int .i64 j ∧ r = .int .i64 (ringV P k ((g k).take j) r0) ∧ Below w0.heap.size w0 wr) (fun _ i _ => (g k).length - (intOf i).toNat)
      case atStart => exact ⟨0, Nat.zero_le _, rfl, rfl, HO.out.2.2⟩
      case round =>
        obtain ⟨j, hj, rfl, rfl, hB⟩ := hrel
        by_cases hjt : j < (g k).length
        · obtain ⟨b, off, rfl, ha0, ha1, ha2⟩ := rd_arc (own_rd (own_keep HO.out.1 hB)) hjt
          have hsj := ringV_succ P k (g k) r0 j hjt
          have hok := HG.out.1.ok k hlt _ (List.getElem_mem hjt)
          obtain ⟨t, ht⟩ := Int.eq_ofNat_of_zero_le hok.1
          have htn : t < n := by omega
          have htt : (g k)[j].t.toNat = t := by omega
          unfold ringT at hsj
          rw [htt] at hsj
          rw [ht] at ha1
          clear hok ht htt
          generalize (g k)[j].f = af at *
          generalize (g k)[j].neg = an at *
          generalize ringV P k ((g k).take j) r0 = r at *
          have hnew := heap_alloc_new wr (.cells #[.int .i64 af, .int .i64 t, .bool an] 36)
          have hbx1 : (wr.alloc (.cells #[.int .i64 af, .int .i64 t, .bool an] 36)).cell? ⟨wr.heap.size, 1, none⟩ = some (.int .i64 t) := by simp only [World.cell?, hnew]; rfl
          have hbx2 : (wr.alloc (.cells #[.int .i64 af, .int .i64 t, .bool an] 36)).cell? ⟨wr.heap.size, 2, none⟩ = some (.bool an) := by simp only [World.cell?, hnew]; rfl
          have hBA := below_alloc hB (.cells #[.int .i64 af, .int .i64 t, .bool an] 36)
          have hPA := (HG.out.2.keep hB).keep (below_alloc (Below.refl wr.heap.size wr) (.cells #[.int .i64 af, .int .i64 t, .bool an] 36))
          have k1 := hPA.cell hlt
          have k2 := hPA.cell htn
          have HJ := Lib.hid (And.intro hsj hBA)
          clear hnew hsj hBA hPA hB
          generalize P k = pk at *
          generalize P t = pt at *
          go_upto_region 8 with fail
          generalize wr.alloc (.cells #[.int .i64 af, .int .i64 t, .bool an] 36) = W2 at *
          have HB3 := Lib.hid (show ∀ m, Below w0.heap.size w0 (W2.drewN m) from fun m => below_drewN HJ.out.2 m)
          cases an with
          | false =>
            have hs2 := HJ.out.1
            rw [if_neg (fun h => by cases h.1)] at hs2
            have HS := Lib.hid hs2
            clear hs2
            go_quiet (fail)
            go_wp2_with fail
            go_roundw
            case rel => exact ⟨j + 1, by omega, by go_num, by rw [HS.out], HB3.out _⟩
            case measure => simp [intOf]; omega
          | true =>
            by_cases h1 : pk = pt
            · by_cases h2 : r < 0
              · have hs2 := HJ.out.1
                rw [if_pos ⟨rfl, h1, .inl h2⟩] at hs2
                have HS := Lib.hid hs2
                clear hs2
                go_quiet (fail)
                go_wp2_with fail
                go_roundw
                case rel => exact ⟨j + 1, by omega, by go_num, by rw [HS.out, h1], HB3.out _⟩
                case measure => simp [intOf]; omega
              · by_cases h3 : pk < r
                · have hs2 := HJ.out.1
                  rw [if_pos ⟨rfl, h1, .inr h3⟩] at hs2
                  have HS := Lib.hid hs2
                  clear hs2
                  go_quiet (fail)
                  go_wp2_with fail
                  go_roundw
                  case rel => exact ⟨j + 1, by omega, by go_num, by rw [HS.out, h1], HB3.out _⟩
                  case measure => simp [intOf]; omega
                · have hs2 := HJ.out.1
                  rw [if_neg (fun h => h.2.2.elim h2 h3)] at hs2
                  have HS := Lib.hid hs2
                  clear hs2
                  go_quiet (fail)
                  go_wp2_with fail
                  go_roundw
                  case rel => exact ⟨j + 1, by omega, by go_num, by rw [HS.out], HB3.out _⟩
                  case measure => simp [intOf]; omega
            · have hs2 := HJ.out.1
              rw [if_neg (fun h => h1 h.2.1)] at hs2
              have HS := Lib.hid hs2
              clear hs2
              go_quiet (fail)
              go_wp2_with fail
              go_roundw
              case rel => exact ⟨j + 1, by omega, by go_num, by rw [HS.out], HB3.out _⟩
              case measure => simp [intOf]; omega
        · have hfull : ringV P k ((g k).take j) r0 = ringG P g (k + 1) := by
            rw [List.take_of_length_le (by omega)]
            exact HO.out.2.1.symm
          rw [hfull]
          clear hfull
          go_wp2_with fail
          go_roundw
          case rel => exact ⟨k + 1, by omega, by go_num, rfl, hB⟩
          case measure => simp [intOf]; omega
    · have hkn : k = n := by omega
      rw [hkn]
      clear hkn
      have HB := Lib.hid hB
      clear hB
      go_wp2_with fail
      go_ret
      exact ⟨rfl, HB.out⟩
end Go.Proofs.Ytnhnckhjcnjacaa.ST
