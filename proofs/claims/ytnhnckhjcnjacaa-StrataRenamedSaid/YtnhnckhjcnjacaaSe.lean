/- Strata: the walk of Ring. -/
import Derived.Test.YtnhnckhjcnjacaaSd
namespace Go.Proofs.Ytnhnckhjcnjacaa.ST
open Go.RowKit Go.Proofs.YtnhnckhjcnjacaaKw Go.Proofs.YtnhnckhjcnjacaaSg Go.Proofs.YtnhnckhjcnjacaaSw
set_option linter.unusedVariables false
set_option linter.unusedSimpArgs false

/-- The nodes of a part. -/
def ringL (P : Nat → Int) (r : Int) (k : Nat) : List Nat := (List.range k).filter fun v => decide (0 ≤ r) && decide (P v = r)
theorem ringL_succ (P : Nat → Int) (r : Int) (k : Nat) : ringL P r (k + 1) = ringL P r k ++ (if 0 ≤ r ∧ P k = r then [k] else []) := by
  unfold ringL
  rw [List.range_succ, List.filter_append]
  congr 1
  by_cases h1 : 0 ≤ r <;> by_cases h2 : P k = r <;> simp [h1, h2]
theorem ringL_len (P : Nat → Int) (r : Int) (k : Nat) : (ringL P r k).length ≤ k := by
  unfold ringL
  have := List.length_filter_le (fun v => decide (0 ≤ r) && decide (P v = r)) (List.range k)
  simpa using this
set_option maxHeartbeats 1000000 in
theorem ringF_fault (A : Option Addr) (c : Nat) (n : Int) (l : List AI) (w : World) (hr : Rd w A (avs l)) (hl : l.length ≤ 140737488355328) (hf : fault n l ≠ 0) :
    Calls Try.prog 19 #[.int .i64 n, .slice A l.length c] w fun e w' => e = .returned (.tuple #[.slice none 0 0, .int .i64 (fault n l)]) ∧ Below w.heap.size w w' := by
  have hc := of_fault A c n l w hr hl hf
  have hf' : ¬ fault n l = 0 := hf
  generalize fault n l = x at *
  have H := Lib.hid hc
  clear hc hr hf
  go_enter Try.func19, Try.ntmps19
  go_wp2_with fail
  refine H.out.mono ?_
  rintro e w1 ⟨rfl, hB⟩
  go_wp2_with fail
  go_ret2
  exact ⟨rfl, hB⟩
set_option maxHeartbeats 4000000 in
set_option maxRecDepth 100000 in
theorem ringF_calls (A : Option Addr) (c n T : Nat) (l : List AI) (H : Nat → Nat) (s : KS) (P : Nat → Int) (r : Int) (w : World) (hr : Rd w A (avs l)) (hl : l.length ≤ 262144) (hn : n ≤ 4096) (hb : l.any (bad n) = false) (hP : PlanI n T (outs l) H s) (hPe : P = fun x => s.number (H x)) (hre : r = ringG P (outs l) n) :
    Calls Try.prog 19 #[.int .i64 n, .slice A l.length c] w fun e w' => (∃ v, e = .returned (.tuple #[v, .int .i64 0]) ∧ w'.ownsRow w.heap.size 3 1 v (ringL P r n).length (nvs (ringL P r n))) ∧ Below w.heap.size w w' := by
  have hc := of_good A c n l w hr hl hn hb
  have HC := Lib.hid (And.intro hc (And.intro hP (And.intro hPe hre)))
  clear hc hr hb hP hPe hre
  go_enter Try.func19, Try.ntmps19
  go_wp2_with fail
  refine HC.out.1.mono ?_
  rintro e w1 ⟨gb, ob, base, rfl, hG, hB⟩
  have hp := parts_plan ob base n gb T (outs l) H s w1 hG HC.out.2.1
  have HP := Lib.hid (And.intro hp (And.intro hB hG))
  clear hp hB hG
  go_wp2_with fail
  refine HP.out.1.mono ?_
  rintro e w2 ⟨⟨b, v, rfl, hlb, hA, hrow, hne⟩, hB2⟩
  have hA' : IArr w2 b n P := by rw [HC.out.2.2.1]; exact hA
  have hG2 : GraphI w2 gb ob base n (outs l) := ⟨HP.out.2.2.rep.keep hB2, HP.out.2.2.ok, HP.out.2.2.len, HP.out.2.2.small⟩
  have hrg := ring_calls ob base n gb b (outs l) P w2 hG2 hA'
  rw [← HC.out.2.2.2] at hrg
  have HQ := Lib.hid (And.intro hrg (And.intro hA' (below_then HP.out.2.1 HP.out.2.1.size hB2)))
  clear hlb hA hB2 hrow hG2 hA' hrg hne
  go_wp2_with fail
  refine HQ.out.1.mono ?_
  rintro e w3 ⟨rfl, hB3⟩
  have HR := Lib.hid (And.intro (HQ.out.2.1.keep hB3) (below_then HQ.out.2.2 HQ.out.2.2.size hB3))
  clear hB3
  go_wp2_with fail
  go_loopw [11, 31] (fun v i wr => ∃ (k : Nat) (sA : Option Addr) (sc : Nat), k ≤ n ∧ i = .int .i64 k ∧ v = .slice sA (ringL P r k).length sc ∧ wr.ownsRow w3.heap.size 3 1 v (ringL P r k).length (nvs (ringL P r k)) ∧ Below w3.heap.size w3 wr) (fun _ i _ => n - (intOf i).toNat)
  case atStart => exact ⟨0, none, 0, Nat.zero_le _, rfl, rfl, World.ownsRow_nil _ _ _ _, Below.refl _ _⟩
  case round =>
    obtain ⟨k, sA, sc, hk, rfl, rfl, hrow, hB⟩ := hrel
    by_cases hlt : k < n
    · have k1 := (HR.out.1.keep hB).cell hlt
      have hs := ringL_succ P r k
      have hlen := ringL_len P r k
      obtain ⟨vA0, vc0, he0, h0a, h0b⟩ := own_form hrow
      cases he0
      have HS := Lib.hid (And.intro hs (And.intro hrow hB))
      clear hs
      generalize ringL P r k = L at *
      generalize hpk : P k = pk at *
      by_cases h1 : 0 ≤ r
      · by_cases h2 : pk = r
        · have hs2 := HS.out.1
          rw [if_pos ⟨h1, h2⟩] at hs2
          have HS2 := Lib.hid hs2
          clear hs2 hpk
          go_wp2_with (at_builtin; go_loud (refine app_own HS.out.2.1 HS.out.2.2 (.tmp 44) (.tmp 46) [.int .i64 k] 26 _ _ Try.underlying26 info3 (by omega) (by decide) hB.size rfl rfl rfl (by decide) rfl rfl rfl (by simp [Value.oneCell']) ?_); intro v1 w4 ho1 hb1 hg1 hat1; obtain ⟨vA1, vc1, rfl, hvc1, hvc2⟩ := own_form ho1)
          go_roundw
          case rel =>
            refine ⟨k + 1, vA1, vc1, by omega, by go_num, ?_, ?_, hb1⟩
            · rw [HS2.out, List.length_append]; rfl
            · rw [HS2.out, List.length_append, nvs_snoc]; exact ho1
          case measure => simp [intOf]; omega
        · have hs2 := HS.out.1
          rw [if_neg (fun h => h2 h.2), List.append_nil] at hs2
          have HS2 := Lib.hid hs2
          clear hs2 hpk hrow hB
          go_wp2_with fail
          go_roundw
          case rel => exact ⟨k + 1, sA, sc, by omega, by go_num, by rw [HS2.out], by rw [HS2.out]; exact HS.out.2.1, HS.out.2.2⟩
          case measure => simp [intOf]; omega
      · have hs2 := HS.out.1
        rw [if_neg (fun h => h1 h.1), List.append_nil] at hs2
        have HS2 := Lib.hid hs2
        clear hs2 hpk hrow hB
        go_wp2_with fail
        go_roundw
        case rel => exact ⟨k + 1, sA, sc, by omega, by go_num, by rw [HS2.out], by rw [HS2.out]; exact HS.out.2.1, HS.out.2.2⟩
        case measure => simp [intOf]; omega
    · have hkn : k = n := by omega
      rw [hkn] at hrow ⊢
      have HS := Lib.hid (And.intro hrow hB)
      clear hkn hrow hB
      go_wp2_with fail
      go_ret2
      exact ⟨⟨_, rfl, own_mono HS.out.1 HR.out.2.size⟩, below_then HR.out.2 HR.out.2.size HS.out.2⟩
end Go.Proofs.Ytnhnckhjcnjacaa.ST
