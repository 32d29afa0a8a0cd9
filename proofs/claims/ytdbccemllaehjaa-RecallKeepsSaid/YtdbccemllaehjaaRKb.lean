/- The law RecallKeeps: its states. -/
import Derived.Test.YtdbccemllaehjaaRKa
import Derived.Test.YtdbccemllaehjaaRAw
import Derived.Test.YtdbccemllaehjaaKwAp
namespace Go.Proofs.Ytdbccemllaehjaa.RK
open Go.RowKit Go.Proofs.YtdbccemllaehjaaKw
set_option linter.unusedVariables false
set_option linter.unusedSimpArgs false

theorem keysV_ivs (L : List (Nat × Int × Value)) : Cc.keysV L = ivs ((Cc.kv L).map (·.1)) := by
  simp [Cc.keysV, Cc.kv, ivs, encInt, List.map_map, Function.comp_def]
theorem find_keys {l : List (Int × Value)} {k : Int} : (l.find? fun p => decide (p.1 = k)) = none ↔ k ∉ l.map (·.1) := by
  rw [List.find?_eq_none]
  constructor
  · intro h hm
    obtain ⟨p, hp, rfl⟩ := List.mem_map.1 hm
    exact h p hp (by simp)
  · intro h p hp hq
    exact h (List.mem_map.2 ⟨p, hp, by simpa using hq⟩)
theorem getS_mem (l : List (Int × Value)) (k : Int) : ∀ p ∈ Cc.getS l k, p ∈ l := by
  intro p hp
  unfold Cc.getS at hp
  cases hf : l.find? (fun p => decide (p.1 = k)) with
  | none => rw [hf] at hp; exact hp
  | some q =>
    rw [hf] at hp
    rcases List.mem_cons.1 hp with rfl | hp
    · exact List.mem_of_find?_eq_some hf
    · exact (List.mem_filter.1 hp).1
theorem getS_all (l : List (Int × Value)) (k : Int) : ∀ x ∈ l.map (·.1), x ∈ (Cc.getS l k).map (·.1) := by
  intro x hx
  unfold Cc.getS
  cases hf : l.find? (fun p => decide (p.1 = k)) with
  | none => exact hx
  | some q =>
    have hq : q.1 = k := by have := List.find?_some hf; simpa using this
    by_cases he : x = k
    · exact List.mem_cons.2 (.inl (he.trans hq.symm))
    · obtain ⟨p, hp, rfl⟩ := List.mem_map.1 hx
      exact List.mem_cons.2 (.inr (List.mem_map.2 ⟨p, List.mem_filter.2 ⟨hp, by simp [he]⟩, rfl⟩))

/-- The last place of a number among the first k. -/
def lastI (keys : List Int) (x : Int) : Nat → Nat
  | 0 => 0
  | k + 1 => if keys[k]? = some x then k else lastI keys x k
theorem lastI_eq {keys : List Int} {x : Int} {i : Nat} (hi : keys[i]? = some x) : ∀ k, i < k → (∀ j, i < j → j < k → keys[j]? ≠ some x) → lastI keys x k = i
  | 0, h, _ => by omega
  | k + 1, h, hn => by
    unfold lastI
    by_cases hik : i = k
    · subst hik; rw [if_pos hi]
    · rw [if_neg (hn k (by omega) (by omega))]
      exact lastI_eq hi k (by omega) (fun j h1 h2 => hn j h1 (by omega))

structure Kp (w0 w : World) (bc bm : Nat) (A : Option Addr) (c : Nat) (keys : List Int) (k : Nat) (L : List (Nat × Int × Value)) : Prop where
  rep : CacheR encInt w bc bm (5 : Nat) L
  len : L.length ≤ 5
  below : Below w0.heap.size w0 w
  own : ∀ q, Own bc bm L q → w0.heap.size ≤ q
  row : w.ownsRow w0.heap.size 3 1 (.slice A keys.length c) keys.length (ivs keys)
  rowN : ∀ q, (Value.slice A keys.length c).ownBlock = some q → ¬ Own bc bm L q
  vals : ∀ p ∈ Cc.kv L, ∃ i, i < k ∧ keys[i]? = some p.1 ∧ p.2 = .slice A i c ∧ ∀ j, i < j → j < k → keys[j]? ≠ some p.1
theorem Kp.tch {w0 w w' : World} {bc bm c k : Nat} {A : Option Addr} {keys : List Int} {L : List (Nat × Int × Value)} (h : Kp w0 w bc bm A c keys k L) {S : Nat → Prop} (ht : Tch S w w') (hS : ∀ q, q < w.heap.size → S q → w0.heap.size ≤ q ∧ ¬ Own bc bm L q ∧ (Value.slice A keys.length c).ownBlock ≠ some q) : Kp w0 w' bc bm A c keys k L := by
  have hlt := h.rep.lt encInt
  have hr := h.row.lt
  have ht' : Tch (fun q => q < w.heap.size ∧ S q) w w' := ht.mono (fun q hq hs => ⟨hq, hs⟩)
  refine ⟨h.rep.keep encInt ht (fun q hq hs => (hS q (hlt q hq) hs).2.1 hq), h.len, ?_, h.own, RL.own_tch h.row ht (fun g hg hs => (hS g (hr g hg).2 hs).2.2 hg), h.rowN, h.vals⟩
  exact h.below.trans (ht'.below h.below.size (fun q hq => (hS q hq.1 hq.2).1))
theorem Kp.other {w0 w w' : World} {bc bm c k : Nat} {A : Option Addr} {keys : List Int} {L : List (Nat × Int × Value)} (h : Kp w0 w bc bm A c keys k L) (hb : Below w.heap.size w w') : Kp w0 w' bc bm A c keys k L :=
  h.tch (RL.tch_new hb) (fun q hq hs => by omega)
theorem Kp.put {w0 w : World} {bc bm c k : Nat} {A : Option Addr} {keys : List Int} {L : List (Nat × Int × Value)} (h : Kp w0 w bc bm A c keys k L) (hk : k < keys.length) :
    Calls Try.prog 39 #[.pointer (some ⟨bc, 0, none⟩), .int .i64 keys[k], .slice A k c] w fun e w' => e = .returned (.tuple #[]) ∧ ∃ L', Kp w0 w' bc bm A c keys (k + 1) L' := by
  refine (Cc.put_any bc bm 5 (by omega) (by omega) L h.len keys[k] A k c w h.rep).mono ?_
  rintro e w' ⟨rfl, L', hC, hkv, hl, ht, hn⟩
  have hr := h.row.lt
  have hsub : ∀ q, Own bc bm L' q → Own bc bm L q ∨ w.heap.size ≤ q := fun q hq => Cc.own_new hn hq
  refine ⟨rfl, L', hC, hl, h.below.trans (ht.below h.below.size h.own), fun q hq => ?_, RL.own_tch h.row ht h.rowN, fun q hq hq' => ?_, fun p hp => ?_⟩
  · rcases hsub q hq with hq | hq
    · exact h.own q hq
    · exact Nat.le_trans h.below.size hq
  · rcases hsub q hq' with hq' | hq'
    · exact h.rowN q hq hq'
    · have := (hr q hq).2
      omega
  · rw [hkv] at hp
    rcases List.mem_cons.1 (List.mem_of_mem_take hp) with rfl | hp
    · exact ⟨k, by omega, List.getElem?_eq_getElem hk, rfl, fun j h1 h2 => by omega⟩
    · obtain ⟨hp, hne⟩ := List.mem_filter.1 hp
      obtain ⟨i, h1, h2, h3, h4⟩ := h.vals p hp
      refine ⟨i, by omega, h2, h3, fun j h5 h6 => ?_⟩
      by_cases hjk : j = k
      · subst hjk
        rw [List.getElem?_eq_getElem hk]
        intro e
        have := Option.some.inj e
        simp only [Bool.not_eq_true', decide_eq_false_iff_not] at hne
        exact hne this.symm
      · exact h4 j h5 (by omega)
theorem Kp.get {w0 w : World} {bc bm c k : Nat} {A : Option Addr} {keys : List Int} {L : List (Nat × Int × Value)} (h : Kp w0 w bc bm A c keys k L) {x : Int} (hx : x ∈ (Cc.kv L).map (·.1)) :
    ∃ i, i < k ∧ keys[i]? = some x ∧ (∀ j, i < j → j < k → keys[j]? ≠ some x) ∧ Calls Try.prog 42 #[.pointer (some ⟨bc, 0, none⟩), .int .i64 x] w fun e w' => e = .returned (.tuple #[.slice A i c, .bool true]) ∧ ∃ L', Kp w0 w' bc bm A c keys k L' ∧ Tch (Own bc bm L) w w' ∧ (∀ q, Own bc bm L' q → Own bc bm L q ∨ w.heap.size ≤ q) ∧ ∀ y ∈ (Cc.kv L).map (·.1), y ∈ (Cc.kv L').map (·.1) := by
  cases hf : (Cc.kv L).find? (fun p => decide (p.1 = x)) with
  | none => exact absurd hx (find_keys.1 hf)
  | some p =>
    have hp := List.mem_of_find?_eq_some hf
    have hpk : p.1 = x := by have := List.find?_some hf; simpa using this
    obtain ⟨i, h1, h2, h3, h4⟩ := h.vals p hp
    obtain ⟨pk, pv⟩ := p
    simp only at hpk h2 h3 h4
    subst hpk; subst h3
    refine ⟨i, h1, h2, h4, (Cc.get_found bc bm (5 : Nat) L pk A i c w h.rep hf).mono ?_⟩
    rintro e w' ⟨rfl, L', hC, hkv, hl, ht, hn⟩
    have hr := h.row.lt
    have hsub : ∀ q, Own bc bm L' q → Own bc bm L q ∨ w.heap.size ≤ q := fun q hq => Cc.own_new (fun n hn' => .inl (hn n hn')) hq
    refine ⟨rfl, L', ⟨hC, by rw [hl]; exact h.len, h.below.trans (ht.below h.below.size h.own), fun q hq => ?_, RL.own_tch h.row ht h.rowN, fun q hq hq' => ?_, fun p hp => ?_⟩, ht, hsub, fun y hy => by rw [hkv]; exact getS_all _ _ y hy⟩
    · rcases hsub q hq with hq | hq
      · exact h.own q hq
      · exact Nat.le_trans h.below.size hq
    · rcases hsub q hq' with hq' | hq'
      · exact h.rowN q hq hq'
      · have := (hr q hq).2
        omega
    · rw [hkv] at hp
      exact h.vals p (getS_mem _ _ p hp)
end Go.Proofs.Ytdbccemllaehjaa.RK
