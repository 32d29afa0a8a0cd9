/- Strata: the walks of has, least, held. -/
import Derived.Test.YtnhnckhjcnjacaaSb
namespace Go.Proofs.Ytnhnckhjcnjacaa.ST
open Go.RowKit Go.Proofs.YtnhnckhjcnjacaaKw Go.Proofs.YtnhnckhjcnjacaaSg
set_option linter.unusedVariables false
set_option linter.unusedSimpArgs false
set_option maxHeartbeats 1000000 in
set_option maxRecDepth 100000 in
theorem has_calls (A : Option Addr) (c : Nat) (L : List Int) (x : Int) (w : World) (hr : Rd w A (ivs L)) (hl : L.length ≤ 140737488355328) :
    Calls Try.prog 28 #[.slice A L.length c, .int .i64 x] w fun e w' => e = .returned (.bool (decide (x ∈ L))) ∧ w = w' := by
  obtain ⟨b, hb⟩ : ∃ b, b = decide (x ∈ L) := ⟨_, rfl⟩
  rw [← hb]
  have HB := Lib.hid hb
  clear hb
  go_enter Try.func28, Try.ntmps28
  go_wp2
  go_loop [5] (fun i => ∃ k : Nat, k ≤ L.length ∧ i = .int .i64 k ∧ Hid (∀ j (h : j < L.length), j < k → L[j] ≠ x)) (fun i => L.length - (intOf i).toNat)
  case atStart => exact ⟨0, Nat.zero_le _, rfl, Lib.hid fun j hj hjk => by omega⟩
  case round =>
    obtain ⟨k, hk, rfl, hH⟩ := hrel
    by_cases hlt : k < L.length
    · obtain ⟨bb, off, rfl, hc⟩ := rd_int hr hlt
      by_cases h1 : L[k] = x
      · have HX := Lib.hid (show b = true by rw [HB.out]; exact decide_eq_true (by rw [← h1]; exact List.getElem_mem hlt))
        clear hH
        go_wp2_with fail
        go_ret
        exact ⟨ret_bool HX.out.symm, rfl⟩
      · have HX := Lib.hid (show ∀ j (h : j < L.length), j < k + 1 → L[j] ≠ x from fun j hj hjk => by
          by_cases e : j = k
          · subst e; exact h1
          · exact hH.out j hj (by omega))
        clear hH
        go_wp2_with fail
        go_round
        case rel => exact ⟨k + 1, by omega, by go_num, HX⟩
        case measure => simp [intOf]; omega
    · have HX := Lib.hid (show b = false by
        rw [HB.out]
        refine decide_eq_false fun hm => ?_
        obtain ⟨j, hj, e⟩ := List.mem_iff_getElem.1 hm
        exact hH.out j hj (by omega) e)
      clear hH
      go_wp2
      go_ret
      exact ⟨ret_bool HX.out.symm, rfl⟩
/-- The first place of a number. -/
def LeastAt (n : Nat) (f : Nat → Int) (k r : Int) : Prop := (r = -1 ∧ ∀ i, i < n → f i ≠ k) ∨ ∃ i : Nat, r = i ∧ i < n ∧ f i = k ∧ ∀ j, j < i → f j ≠ k
theorem ivs_range (n : Nat) (f : Nat → Int) (i : Nat) (h : i < ((List.range n).map f).length) : ((List.range n).map f)[i] = f i := by simp
set_option maxHeartbeats 1000000 in
set_option maxRecDepth 100000 in
theorem least_calls (A : Option Addr) (c n : Nat) (f : Nat → Int) (x : Int) (w : World) (hr : Rd w A (ivs ((List.range n).map f))) (hn : n ≤ 4096) :
    Calls Try.prog 29 #[.slice A n c, .int .i64 x] w fun e w' => (∃ r, e = .returned (.int .i64 r) ∧ LeastAt n f x r) ∧ w = w' := by
  have HR := Lib.hid hr
  clear hr
  go_enter Try.func29, Try.ntmps29
  go_wp2
  go_loop [5] (fun i => ∃ k : Nat, k ≤ n ∧ i = .int .i64 k ∧ Hid (∀ j, j < k → f j ≠ x)) (fun i => n - (intOf i).toNat)
  case atStart => exact ⟨0, Nat.zero_le _, rfl, Lib.hid fun j hj => by omega⟩
  case round =>
    obtain ⟨k, hk, rfl, hH⟩ := hrel
    by_cases hlt : k < n
    · obtain ⟨bb, off, rfl, hc⟩ := rd_int HR.out (j := k) (by simpa using hlt)
      rw [ivs_range] at hc
      by_cases h1 : f k = x
      · have HX := Lib.hid (show LeastAt n f x k from .inr ⟨k, rfl, hlt, h1, hH.out⟩)
        clear hH
        go_wp2_with fail
        go_ret
        exact ⟨⟨_, rfl, HX.out⟩, rfl⟩
      · have HX := Lib.hid (show ∀ j, j < k + 1 → f j ≠ x from fun j hj => by
          by_cases e : j = k
          · subst e; exact h1
          · exact hH.out j (by omega))
        clear hH
        go_wp2_with fail
        go_round
        case rel => exact ⟨k + 1, by omega, by go_num, HX⟩
        case measure => simp [intOf]; omega
    · have HX := Lib.hid (show LeastAt n f x (-1) from .inl ⟨rfl, fun i hi => hH.out i (by omega)⟩)
      clear hH
      go_wp2
      go_ret
      exact ⟨⟨_, rfl, HX.out⟩, rfl⟩
def heldB (f : Nat → Int) (q k : Int) (a : AI) : Bool := decide (f a.f.toNat = q) && decide (f a.t.toNat ≠ q) && decide (k ≤ f a.t.toNat)
set_option maxHeartbeats 2000000 in
set_option maxRecDepth 100000 in
theorem held_calls (A B : Option Addr) (c d n : Nat) (l : List AI) (f : Nat → Int) (q k : Int) (w : World) (hr : Rd w A (avs l)) (hl : l.length ≤ 140737488355328) (hok : ∀ a ∈ l, 0 ≤ a.f ∧ a.f < n ∧ 0 ≤ a.t ∧ a.t < n) (hp : Rd w B (ivs ((List.range n).map f))) (hn : n ≤ 4096) :
    Calls Try.prog 30 #[.slice A l.length c, .slice B n d, .int .i64 q, .int .i64 k] w fun e w' => e = .returned (.bool (l.any (heldB f q k))) ∧ w = w' := by
  obtain ⟨b, hb⟩ : ∃ b, b = l.any (heldB f q k) := ⟨_, rfl⟩
  rw [← hb]
  have HB := Lib.hid hb
  have HC := Lib.hid (And.intro hr (And.intro hok hp))
  clear hb hr hok hp
  go_enter Try.func30, Try.ntmps30
  go_wp2
  go_loop [9] (fun i => ∃ k0 : Nat, k0 ≤ l.length ∧ i = .int .i64 k0 ∧ Hid (∀ j (h : j < l.length), j < k0 → heldB f q k l[j] = false)) (fun i => l.length - (intOf i).toNat)
  case atStart => exact ⟨0, Nat.zero_le _, rfl, Lib.hid fun j hj hjk => by omega⟩
  case round =>
    obtain ⟨k0, hk, rfl, hH⟩ := hrel
    by_cases hlt : k0 < l.length
    · obtain ⟨bb, off, rfl, hc0, hc1, hc2⟩ := rd_arc HC.out.1 hlt
      have hao := HC.out.2.1 _ (List.getElem_mem hlt)
      obtain ⟨u, hu⟩ := Int.eq_ofNat_of_zero_le hao.1
      obtain ⟨t, ht⟩ := Int.eq_ofNat_of_zero_le hao.2.2.1
      have hun : u < n := by omega
      have htn : t < n := by omega
      have hft : l[k0].f.toNat = u ∧ l[k0].t.toNat = t := by omega
      obtain ⟨b2, off2, rfl, hd0⟩ := rd_int HC.out.2.2 (j := u) (by simpa using hun)
      have hd1 := rd_intc HC.out.2.2 (k := t) (by simpa using htn)
      rw [ivs_range] at hd0 hd1
      rw [hu] at hc0
      rw [ht] at hc1
      have hh : heldB f q k l[k0] = (decide (f u = q) && decide (f t ≠ q) && decide (k ≤ f t)) := by unfold heldB; rw [hft.1, hft.2]
      have HN := Lib.hid hh
      clear hao hu ht hft hh
      generalize f u = p1 at *
      generalize f t = p2 at *
      by_cases h1 : p1 = q
      · by_cases h2 : p2 = q
        · have HX := Lib.hid (show ∀ j (h : j < l.length), j < k0 + 1 → heldB f q k l[j] = false from fun j hj hjk => by
            by_cases e : j = k0
            · subst e; rw [HN.out]; simp [h2]
            · exact hH.out j hj (by omega))
          clear hH HN
          go_wp2_with fail
          go_round
          case rel => exact ⟨k0 + 1, by omega, by go_num, HX⟩
          case measure => simp [intOf]; omega
        · by_cases h3 : k ≤ p2
          · have HX := Lib.hid (show b = true by rw [HB.out]; exact List.any_eq_true.2 ⟨_, List.getElem_mem hlt, by rw [HN.out]; simp [h1, h2, h3]⟩)
            clear hH HN
            go_wp2_with fail
            go_ret
            exact ⟨ret_bool HX.out.symm, rfl⟩
          · have HX := Lib.hid (show ∀ j (h : j < l.length), j < k0 + 1 → heldB f q k l[j] = false from fun j hj hjk => by
              by_cases e : j = k0
              · subst e; rw [HN.out]; simp [h3]
              · exact hH.out j hj (by omega))
            clear hH HN
            go_wp2_with fail
            go_round
            case rel => exact ⟨k0 + 1, by omega, by go_num, HX⟩
            case measure => simp [intOf]; omega
      · have HX := Lib.hid (show ∀ j (h : j < l.length), j < k0 + 1 → heldB f q k l[j] = false from fun j hj hjk => by
          by_cases e : j = k0
          · subst e; rw [HN.out]; simp [h1]
          · exact hH.out j hj (by omega))
        clear hH HN
        go_wp2_with fail
        go_round
        case rel => exact ⟨k0 + 1, by omega, by go_num, HX⟩
        case measure => simp [intOf]; omega
    · have HX := Lib.hid (show b = false by
        rw [HB.out]
        refine List.any_eq_false.2 fun a ha => ?_
        obtain ⟨j, hj, rfl⟩ := List.mem_iff_getElem.1 ha
        rw [hH.out j hj (by omega)]
        simp)
      clear hH
      go_wp2
      go_ret
      exact ⟨ret_bool HX.out.symm, rfl⟩
end Go.Proofs.Ytnhnckhjcnjacaa.ST
