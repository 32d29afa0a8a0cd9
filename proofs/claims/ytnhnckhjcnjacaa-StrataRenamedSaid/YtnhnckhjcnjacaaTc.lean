/- Strata: the walk of the reference's Reach. -/
import Derived.Test.YtnhnckhjcnjacaaTb
namespace Go.Proofs.Ytnhnckhjcnjacaa.ST
open Go.RowKit Go.Proofs.YtnhnckhjcnjacaaKw Go.Proofs.YtnhnckhjcnjacaaSg Go.Proofs.YtnhnckhjcnjacaaSw
set_option linter.unusedVariables false
set_option linter.unusedSimpArgs false

set_option maxHeartbeats 1000000 in
theorem reachR_fault (A B : Option Addr) (c m d : Nat) (n : Int) (l : List AI) (w : World) (hr : Rd w A (avs l)) (hl : l.length ≤ 140737488355328) (hf : fault n l ≠ 0) :
    Calls Try.prog 24 #[.int .i64 n, .slice A l.length c, .slice B m d] w fun e w' => e = .returned (.tuple #[.slice none 0 0, .int .i64 (fault n l)]) ∧ Below w.heap.size w w' := by
  have hc := faultr_calls A c n l w hr hl
  have hf' : ¬ fault n l = 0 := hf
  generalize fault n l = x at *
  have H := Lib.hid hc
  clear hc hr hf
  go_enter Try.func24, Try.ntmps24
  go_wp2_with fail
  refine H.out.mono ?_
  rintro e w1 ⟨rfl, rfl⟩
  go_wp2_with fail
  go_ret2
  exact ⟨rfl, Below.refl _ _⟩
def ReachRPost (n : Nat) (l : List AI) (fs : List Int) (w : World) (e : Ending) (w' : World) : Prop :=
  Below w.heap.size w w' ∧ if fs.any (badF n) then e = .returned (.tuple #[.slice none 0 0, .int .i64 80])
  else ∃ v on, e = .returned (.tuple #[v, .int .i64 0]) ∧ w'.ownsRow w.heap.size 3 1 v (onL on n).length (nvs (onL on n)) ∧ ∀ u, u < n → (on u = true ↔ Rch (EA l) (SF fs) u)
theorem ReachRPost.yes {n : Nat} {l : List AI} {fs : List Int} {w w' : World} (hb : Below w.heap.size w w') (h : fs.any (badF n) = true) : ReachRPost n l fs w (.returned (.tuple #[.slice none 0 0, .int .i64 80])) w' := by
  unfold ReachRPost
  rw [if_pos h]
  exact ⟨hb, rfl⟩
theorem ReachRPost.no {n : Nat} {l : List AI} {fs : List Int} {w w' : World} {v : Value} {on : Nat → Bool} (hb : Below w.heap.size w w') (h : fs.any (badF n) = false) (ho : w'.ownsRow w.heap.size 3 1 v (onL on n).length (nvs (onL on n))) (hr : ∀ u, u < n → (on u = true ↔ Rch (EA l) (SF fs) u)) : ReachRPost n l fs w (.returned (.tuple #[v, .int .i64 0])) w' := by
  unfold ReachRPost
  rw [if_neg (by rw [h]; simp)]
  exact ⟨hb, v, on, rfl, ho, hr⟩
set_option maxHeartbeats 8000000 in
set_option maxRecDepth 100000 in
theorem reachR_calls (A B : Option Addr) (c n d : Nat) (l : List AI) (fs : List Int) (w : World) (hr : Rd w A (avs l)) (hl : l.length ≤ 262144) (hn : n ≤ 4096) (hb : l.any (bad n) = false) (hf : Rd w B (ivs fs)) (hfl : fs.length ≤ 140737488355328) :
    Calls Try.prog 24 #[.int .i64 n, .slice A l.length c, .slice B fs.length d] w (ReachRPost n l fs w) := by
  have hfa := faultr_calls A c n l w hr (by omega)
  have hf0 : fault n l = 0 := by
    unfold fault
    rw [if_neg (by omega), if_neg (by omega), if_neg (by rw [hb]; simp)]
  rw [hf0] at hfa
  have HC := Lib.hid (And.intro hfa (And.intro hr (And.intro hb hf)))
  clear hfa hf0 hr hb hf
  go_enter Try.func24, Try.ntmps24
  go_wp2_with fail
  refine HC.out.1.mono ?_
  rintro e w1 ⟨rfl, rfl⟩
  go_wp2_with fail
  go_loop [9] (fun i => ∃ k : Nat, k ≤ fs.length ∧ i = .int .i64 k ∧ Hid (∀ j (h : j < fs.length), j < k → badF n fs[j] = false)) (fun i => fs.length - (intOf i).toNat)
  case atStart => exact ⟨0, Nat.zero_le _, rfl, Lib.hid fun j hj hjk => by omega⟩
  case round =>
    obtain ⟨k, hk, rfl, hS⟩ := hrel
    by_cases hlt : k < fs.length
    · obtain ⟨b9, off9, rfl, hx⟩ := rd_int HC.out.2.2.2 hlt
      by_cases h1 : fs[k] < 0
      · have HX := Lib.hid (ReachRPost.yes (l := l) (n := n) (Below.refl w.heap.size w) (List.any_eq_true.2 ⟨_, List.getElem_mem hlt, by simp [badF, h1]⟩))
        go_wp2_with fail
        go_ret2
        exact HX.out
      · by_cases h2 : (n : Int) ≤ fs[k]
        · have HX := Lib.hid (ReachRPost.yes (l := l) (n := n) (Below.refl w.heap.size w) (List.any_eq_true.2 ⟨_, List.getElem_mem hlt, by simp [badF, h2]⟩))
          go_wp2_with fail
          go_ret2
          exact HX.out
        · have HX := Lib.hid (show ∀ j (h : j < fs.length), j < k + 1 → badF n fs[j] = false from fun j hj hjk => by
            by_cases e : j = k
            · subst e; simp [badF]; omega
            · exact hS.out j hj (by omega))
          go_wp2_with fail
          go_round
          case rel => exact ⟨k + 1, by omega, by go_num, HX⟩
          case measure => simp [intOf]; omega
    · have hnb : fs.any (badF n) = false := List.any_eq_false.2 fun x hx => by
        obtain ⟨j, hj, rfl⟩ := List.mem_iff_getElem.1 hx
        rw [hS.out j hj (by omega)]
        simp
      have hrc := reached_calls A B c n d l fs w HC.out.2.1 hl hn HC.out.2.2.1 HC.out.2.2.2 hfl hnb
      have HX := Lib.hid (And.intro hrc hnb)
      clear hS hrc hnb
      go_wp2_with fail
      refine HX.out.1.mono ?_
      rintro e w3 ⟨nb, on, rfl, hlo, hA, hB, hiff⟩
      have HY := Lib.hid (And.intro hA (And.intro hB hiff))
      clear hA hiff hB
      go_wp2_with fail
      go_loopw [11, 12] (fun v i wq => ∃ (k : Nat) (sA : Option Addr) (sc : Nat), k ≤ n ∧ i = .int .i64 k ∧ v = .slice sA (onL on k).length sc ∧ wq.ownsRow w3.heap.size 3 1 v (onL on k).length (nvs (onL on k)) ∧ Below w3.heap.size w3 wq) (fun _ i _ => n - (intOf i).toNat)
      case atStart => exact ⟨0, none, 0, Nat.zero_le _, rfl, rfl, World.ownsRow_nil _ _ _ _, Below.refl _ _⟩
      case round =>
        obtain ⟨k, sA, sc, hk, rfl, rfl, hrow, hB⟩ := hrel
        by_cases hlt : k < n
        · have k1 := (HY.out.1.keep hB).cell hlt
          have hs := onL_succ on k
          have hlen := onL_len on k
          obtain ⟨vA0, vc0, he0, h0a, h0b⟩ := own_form hrow
          cases he0
          have HS := Lib.hid (And.intro hs (And.intro hrow hB))
          have hzl := hB.size
          clear hs hB
          generalize onL on k = L5 at *
          generalize hpk : on k = pk at *
          cases pk with
          | true =>
            have hs2 := HS.out.1
            rw [if_pos rfl] at hs2
            have HS2 := Lib.hid hs2
            clear hs2 hpk hrow
            go_wp2_with (at_builtin; go_loud (refine app_own HS.out.2.1 HS.out.2.2 (.tmp 51) (.tmp 53) [.int .i64 k] 26 _ _ Try.underlying26 info3 (by omega) (by decide) hzl rfl rfl rfl (by decide) rfl rfl rfl (by simp [Value.oneCell']) ?_); intro v1 w6 ho1 hb1 hg1 hat1; obtain ⟨vA1, vc1, rfl, hvc1, hvc2⟩ := own_form ho1)
            go_roundw
            case rel =>
              refine ⟨k + 1, vA1, vc1, by omega, by go_num, ?_, ?_, hb1⟩
              · rw [HS2.out, List.length_append]; rfl
              · rw [HS2.out, List.length_append, nvs_snoc]; exact ho1
            case measure => simp [intOf]; omega
          | false =>
            have hs2 := HS.out.1
            rw [if_neg (by simp), List.append_nil] at hs2
            have HS2 := Lib.hid hs2
            clear hs2 hpk hrow
            go_wp2_with fail
            go_roundw
            case rel => exact ⟨k + 1, sA, sc, by omega, by go_num, by rw [HS2.out], by rw [HS2.out]; exact HS.out.2.1, HS.out.2.2⟩
            case measure => simp [intOf]; omega
        · have hkn : k = n := by omega
          rw [hkn] at hrow ⊢
          have HS := Lib.hid (And.intro hrow (below_then HY.out.2.1 HY.out.2.1.size hB))
          clear hkn hrow hB
          go_wp2_with fail
          go_ret2
          exact ReachRPost.no HS.out.2 HX.out.2 (own_mono HS.out.1 HY.out.2.1.size) HY.out.2.2
end Go.Proofs.Ytnhnckhjcnjacaa.ST
