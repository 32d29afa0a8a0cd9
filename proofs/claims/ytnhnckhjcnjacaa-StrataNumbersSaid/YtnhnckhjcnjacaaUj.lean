/- Strata: the walks of the reference's Parts and Ring. -/
import Derived.Test.YtnhnckhjcnjacaaUi
namespace Go.Proofs.Ytnhnckhjcnjacaa.ST
open Go.RowKit Go.Proofs.YtnhnckhjcnjacaaKw Go.Proofs.YtnhnckhjcnjacaaSg Go.Proofs.YtnhnckhjcnjacaaSw
set_option linter.unusedVariables false
set_option linter.unusedSimpArgs false

set_option maxHeartbeats 1000000 in
theorem partsR_fault (A : Option Addr) (c : Nat) (n : Int) (l : List AI) (w : World) (hr : Rd w A (avs l)) (hl : l.length ≤ 140737488355328) (hf : fault n l ≠ 0) :
    Calls Try.prog 15 #[.int .i64 n, .slice A l.length c] w fun e w' => e = .returned (.tuple #[.slice none 0 0, .int .i64 (fault n l)]) ∧ Below w.heap.size w w' := by
  have hc := faultr_calls A c n l w hr hl
  have hf' : ¬ fault n l = 0 := hf
  generalize fault n l = x at *
  have H := Lib.hid hc
  clear hc hr hf
  go_enter Try.func15, Try.ntmps15
  go_wp2_with fail
  refine H.out.mono ?_
  rintro e w1 ⟨rfl, rfl⟩
  go_wp2_with fail
  go_ret2
  exact ⟨rfl, Below.refl _ _⟩
set_option maxHeartbeats 1000000 in
theorem partsR_ans (A : Option Addr) (c : Nat) (n : Int) (l : List AI) (w : World) (hr : Rd w A (avs l)) (hl : l.length ≤ 140737488355328) :
    Calls Try.prog 15 #[.int .i64 n, .slice A l.length c] w (AnsO w (partsV n l) (fault n l)) := by
  by_cases h0 : fault n l = 0
  · obtain ⟨m, rfl, hg⟩ := GoodG.of h0
    have hc := faultr_calls A c m l w hr hl
    have hp := partsR_calls A c m l w hr hg
    rw [h0] at hc ⊢
    rw [parts_good hg]
    have H := Lib.hid (And.intro hc hp)
    clear hc hp hr h0
    go_enter Try.func15, Try.ntmps15
    go_wp2_with fail
    refine H.out.1.mono ?_
    rintro e w1 ⟨rfl, rfl⟩
    go_wp2_with fail
    refine H.out.2.mono ?_
    rintro e w1 ⟨b, rfl, hlb, hA, hB⟩
    have H2 := Lib.hid (And.intro hlb (And.intro hA hB))
    clear hlb hA hB
    go_wp2_with fail
    go_ret2
    exact AnsO.arr H2.out.2.1 H2.out.1 H2.out.2.2
  · refine (partsR_fault A c n l w hr hl h0).mono ?_
    rintro e w1 ⟨rfl, hB⟩
    unfold partsV
    rw [if_pos h0]
    exact AnsO.nil hB
set_option maxHeartbeats 1000000 in
theorem ringR_fault (A : Option Addr) (c : Nat) (n : Int) (l : List AI) (w : World) (hr : Rd w A (avs l)) (hl : l.length ≤ 140737488355328) (hf : fault n l ≠ 0) :
    Calls Try.prog 21 #[.int .i64 n, .slice A l.length c] w fun e w' => e = .returned (.tuple #[.slice none 0 0, .int .i64 (fault n l)]) ∧ Below w.heap.size w w' := by
  have hc := faultr_calls A c n l w hr hl
  have hf' : ¬ fault n l = 0 := hf
  generalize fault n l = x at *
  have H := Lib.hid hc
  clear hc hr hf
  go_enter Try.func21, Try.ntmps21
  go_wp2_with fail
  refine H.out.mono ?_
  rintro e w1 ⟨rfl, rfl⟩
  go_wp2_with fail
  go_ret2
  exact ⟨rfl, Below.refl _ _⟩
theorem rr_fold {n : Nat} {l : List AI} (hg : GoodG n l) : l.foldl (ringA fun v => (PP n l v : Int)) (-1) = rr n l := by
  have := ringA_spec (fun v => (PP n l v : Int)) l [] (-1) (RSpec.nil _) fun a _ => by simp
  rw [List.nil_append] at this
  exact this.unique (rr_spec hg)
set_option maxHeartbeats 16000000 in
set_option maxRecDepth 100000 in
theorem ringR_good (A : Option Addr) (c n : Nat) (l : List AI) (r : Int) (w : World) (hr : Rd w A (avs l)) (hg : GoodG n l) (hre : l.foldl (ringA fun v => (PP n l v : Int)) (-1) = r) :
    Calls Try.prog 21 #[.int .i64 n, .slice A l.length c] w (AnsO w ((ringL (fun v => (PP n l v : Int)) r n).map fun x : Nat => (x : Int)) 0) := by
  have hn := hg.hn
  have hl := hg.hl
  have hc := faultr_calls A c n l w hr (by omega)
  have hp := partsR_calls A c n l w hr hg
  rw [hg.fault] at hc
  have H := Lib.hid (And.intro hc hp)
  have HC := Lib.hid (And.intro hr (And.intro (arcs_ok hg.hb) hre))
  clear hc hp hr hre
  go_enter Try.func21, Try.ntmps21
  go_wp2_with fail
  refine H.out.1.mono ?_
  rintro e w1 ⟨rfl, rfl⟩
  go_wp2_with fail
  refine H.out.2.mono ?_
  rintro e w1 ⟨pb, rfl, hlb, hA, hB⟩
  have H2 := Lib.hid (And.intro hA hB)
  clear hlb hA hB H hg
  go_wp2_with fail
  go_loop [8, 9] (fun z i => ∃ k : Nat, k ≤ l.length ∧ i = .int .i64 k ∧ z = .int .i64 ((l.take k).foldl (ringA fun v => (PP n l v : Int)) (-1))) (fun _ i => l.length - (intOf i).toNat)
  case atStart => exact ⟨0, Nat.zero_le _, rfl, rfl⟩
  case round =>
    obtain ⟨k, hk, rfl, rfl⟩ := hrel
    by_cases hlt : k < l.length
    · obtain ⟨b9, off9, rfl, ha0, ha1, ha2⟩ := rd_arc (HC.out.1.keep H2.out.2) hlt
      have hao := HC.out.2.1 _ (List.getElem_mem hlt)
      obtain ⟨f, hf⟩ := Int.eq_ofNat_of_zero_le hao.1
      obtain ⟨t, ht⟩ := Int.eq_ofNat_of_zero_le hao.2.2.1
      have hfn : f < n := by omega
      have htn : t < n := by omega
      have hsj := foldl_take_succ (ringA fun v => (PP n l v : Int)) (-1) l k hlt
      have hra : ∀ r : Int, ringA (fun v => (PP n l v : Int)) r l[k] = if l[k].neg = true ∧ (PP n l f : Int) = PP n l t ∧ (r < 0 ∨ (PP n l f : Int) < r) then (PP n l f : Int) else r := by
        intro r
        unfold ringA
        rw [hf, ht]
        rfl
      rw [hra] at hsj
      rw [hf] at ha0
      rw [ht] at ha1
      have k1 := H2.out.1.cell hfn
      have k2 := H2.out.1.cell htn
      have HJ := Lib.hid hsj
      clear hao hf ht hra hsj
      generalize (l.take k).foldl (ringA fun v => (PP n l v : Int)) (-1) = r0 at *
      generalize l[k].neg = an at *
      generalize PP n l f = p at *
      generalize PP n l t = q at *
      cases an with
      | false =>
        go_wp2_with fail
        go_round
        case rel => exact ⟨k + 1, by omega, by go_num, by rw [HJ.out, if_neg (fun h => Bool.noConfusion h.1)]⟩
        case measure => simp [intOf]; omega
      | true =>
        by_cases h1 : (p : Int) = q
        · by_cases h2 : r0 < 0
          · go_wp2_with fail
            go_round
            case rel => exact ⟨k + 1, by omega, by go_num, by rw [HJ.out, if_pos ⟨rfl, h1, .inl h2⟩, h1]⟩
            case measure => simp [intOf]; omega
          · by_cases h3 : (p : Int) < r0
            · go_wp2_with fail
              go_round
              case rel => exact ⟨k + 1, by omega, by go_num, by rw [HJ.out, if_pos ⟨rfl, h1, .inr h3⟩, h1]⟩
              case measure => simp [intOf]; omega
            · go_wp2_with fail
              go_round
              case rel => exact ⟨k + 1, by omega, by go_num, by rw [HJ.out, if_neg (fun h => h.2.2.elim h2 h3)]⟩
              case measure => simp [intOf]; omega
        · go_wp2_with fail
          go_round
          case rel => exact ⟨k + 1, by omega, by go_num, by rw [HJ.out, if_neg (fun h => h1 h.2.1)]⟩
          case measure => simp [intOf]; omega
    · obtain rfl : k = l.length := by omega
      rw [List.take_length, HC.out.2.2]
      clear hlt
      go_wp2_with fail
      go_loopw [11, 12] (fun v i wr => ∃ (k : Nat) (sA : Option Addr) (sc : Nat), k ≤ n ∧ i = .int .i64 k ∧ v = .slice sA (ringL (fun v => (PP n l v : Int)) r k).length sc ∧ wr.ownsRow w1.heap.size 3 1 v (ringL (fun v => (PP n l v : Int)) r k).length (nvs (ringL (fun v => (PP n l v : Int)) r k)) ∧ Below w1.heap.size w1 wr) (fun _ i _ => n - (intOf i).toNat)
      case atStart => exact ⟨0, none, 0, Nat.zero_le _, rfl, rfl, World.ownsRow_nil _ _ _ _, Below.refl _ _⟩
      case round =>
        obtain ⟨k, sA, sc, hkn, rfl, rfl, hrow, hB⟩ := hrel
        by_cases hlt : k < n
        · have k1 := (H2.out.1.keep hB).cell hlt
          have hs := ringL_succ (fun v => (PP n l v : Int)) r k
          have hlen := ringL_len (fun v => (PP n l v : Int)) r k
          obtain ⟨vA0, vc0, he0, h0a, h0b⟩ := own_form hrow
          cases he0
          have HS := Lib.hid (And.intro hs (And.intro hrow hB))
          clear hs
          generalize ringL (fun v => (PP n l v : Int)) r k = L at *
          generalize hpk : PP n l k = pk at *
          by_cases h2 : (pk : Int) = r
          · have hs2 := HS.out.1
            rw [if_pos ⟨by omega, h2⟩] at hs2
            have HS2 := Lib.hid hs2
            clear hs2 hpk
            go_wp2_with (at_builtin; go_loud (refine app_own HS.out.2.1 HS.out.2.2 (.tmp 74) (.tmp 76) [.int .i64 k] 26 _ _ Try.underlying26 info3 (by omega) (by decide) hB.size rfl rfl rfl (by decide) rfl rfl rfl (by simp [Value.oneCell']) ?_); intro v1 w4 ho1 hb1 hg1 hat1; obtain ⟨vA1, vc1, rfl, hvc1, hvc2⟩ := own_form ho1)
            go_roundw
            case rel =>
              refine ⟨k + 1, vA1, vc1, by omega, by go_num, ?_, ?_, hb1⟩
              · rw [HS2.out, List.length_append]; rfl
              · rw [HS2.out, List.length_append, nvs_snoc]; exact ho1
            case measure => simp [intOf]; omega
          · have hs2 := HS.out.1
            rw [if_neg (fun h => h2 h.2), List.append_nil] at hs2
            have HS2 := Lib.hid hs2
            clear hs2 hpk hrow hB
            go_wp2_with fail
            go_roundw
            case rel => exact ⟨k + 1, sA, sc, by omega, by go_num, by rw [HS2.out], by rw [HS2.out]; exact HS.out.2.1, HS.out.2.2⟩
            case measure => simp [intOf]; omega
        · have hkn' : k = n := by omega
          rw [hkn'] at hrow ⊢
          have HS := Lib.hid (AnsO.nvs (k := 0) (own_mono hrow H2.out.2.size) (below_then H2.out.2 H2.out.2.size hB))
          clear hkn' hrow hB
          go_wp2_with fail
          go_ret2
          exact HS.out
theorem ringR_ans (A : Option Addr) (c : Nat) (n : Int) (l : List AI) (w : World) (hr : Rd w A (avs l)) (hl : l.length ≤ 140737488355328) :
    Calls Try.prog 21 #[.int .i64 n, .slice A l.length c] w (AnsO w (ringV' n l) (fault n l)) := by
  by_cases h0 : fault n l = 0
  · obtain ⟨m, rfl, hg⟩ := GoodG.of h0
    rw [ring_good hg, h0]
    exact ringR_good A c m l _ w hr hg (rr_fold hg)
  · refine (ringR_fault A c n l w hr hl h0).mono ?_
    rintro e w1 ⟨rfl, hB⟩
    unfold ringV'
    rw [if_pos h0]
    exact AnsO.nil hB
end Go.Proofs.Ytnhnckhjcnjacaa.ST
