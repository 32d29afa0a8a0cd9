/- Strata: the long chain of StrataLimits, plainly. -/
import Derived.Test.YtnhnckhjcnjacaaUf
namespace Go.Proofs.YtnhnckhjcnjacaaSg
open Go.Proofs.YtnhnckhjcnjacaaSw Go.Proofs.Ytnhnckhjcnjacaa.ST
set_option linter.unusedVariables false
set_option linter.unusedSimpArgs false

def chA (i : Nat) : AI := ⟨((i % 4095 : Nat) : Int), ((i % 4095 : Nat) : Int) + 1, decide (0 < i % 3)⟩
/-- A list of arcs that makes the chain. -/
structure Chain (L : List AI) : Prop where
  all : ∀ a ∈ L, ∃ i, a = chA i
  has : ∀ v, v < 4095 → ∃ i, i % 4095 = v ∧ chA i ∈ L
  len : L.length ≤ 262144
theorem chain_range (s k : Nat) (hs : s ≤ 1) (hk : 4095 ≤ k) (hl : k ≤ 262144) : Chain ((List.range' s k).map chA) := by
  refine ⟨fun a ha => ?_, fun v hv => ?_, by simp; omega⟩
  · obtain ⟨i, _, rfl⟩ := List.mem_map.1 ha
    exact ⟨i, rfl⟩
  · by_cases h : s ≤ v
    · exact ⟨v, by omega, List.mem_map.2 ⟨v, by rw [List.mem_range'_1]; omega, rfl⟩⟩
    · exact ⟨4095, by omega, List.mem_map.2 ⟨4095, by rw [List.mem_range'_1]; omega, rfl⟩⟩
theorem chA_nat (i : Nat) : (chA i).f.toNat = i % 4095 ∧ (chA i).t.toNat = i % 4095 + 1 ∧ ng (chA i) = if 0 < i % 4095 % 3 then 1 else 0 := by
  refine ⟨Int.toNat_natCast _, by show (((i % 4095 : Nat) : Int) + 1).toNat = _; omega, ?_⟩
  unfold ng chA
  rw [show i % 3 = i % 4095 % 3 by omega]
  by_cases h : 0 < i % 4095 % 3 <;> simp [h]
section
variable {L : List AI}
theorem Chain.good (h : Chain L) : GoodG 4096 L := by
  refine ⟨Nat.le_refl _, h.len, ?_⟩
  rw [List.any_eq_false]
  intro a ha
  obtain ⟨i, rfl⟩ := h.all a ha
  have e1 : (chA i).f = ((i % 4095 : Nat) : Int) := rfl
  have e2 : (chA i).t = ((i % 4095 : Nat) : Int) + 1 := rfl
  intro hb
  simp only [bad, Bool.or_eq_true, decide_eq_true_eq] at hb
  rw [e1, e2] at hb
  omega
theorem Chain.tos (h : Chain L) (u t : Nat) : t ∈ tos (outs L) u ↔ u < 4095 ∧ t = u + 1 := by
  rw [tos_EA h.good.hb]
  unfold EA
  constructor
  · rintro ⟨a, ha, h1, h2⟩
    obtain ⟨i, rfl⟩ := h.all a ha
    simp only [chA] at h1 h2
    omega
  · rintro ⟨h1, rfl⟩
    obtain ⟨i, hi, hm⟩ := h.has u h1
    refine ⟨chA i, hm, ?_, ?_⟩ <;> simp only [chA] <;> omega
theorem Chain.up (h : Chain L) {u v : Nat} (hp : Pth (Ytnhnckhjcnjacaa.ST.tos (outs L)) u v) : u ≤ v := by
  induction hp with
  | refl => exact Nat.le_refl _
  | step _ ht ih => have := (h.tos _ _).1 ht; omega
theorem Chain.spec (h : Chain L) : PSpec (Ytnhnckhjcnjacaa.ST.tos (outs L)) 4096 4096 (fun v => 4095 - v) := by
  refine ⟨fun u hu v hv => ?_, fun u hu t ht => ?_, fun v hv => by omega, fun k hk => ⟨4095 - k, by omega, by omega⟩, fun u hu v hv hlt hx => ?_⟩
  · constructor
    · intro e
      have : u = v := by omega
      rw [this]
      exact Sim.rfl' v
    · intro hs
      have h1 := h.up hs.1
      have h2 := h.up hs.2
      omega
  · have := (h.tos u t).1 ht
    omega
  · refine ⟨v, hv, v + 1, (h.tos v (v + 1)).2 ⟨by omega, rfl⟩, rfl, ?_, ?_⟩ <;> omega
theorem Chain.PP (h : Chain L) {v : Nat} (hv : v < 4096) : PP 4096 L v = 4095 - v := (PP_spec h.good).unique h.good.lt h.spec v hv
theorem Chain.rr (h : Chain L) : rr 4096 L = -1 := by
  refine (rr_spec h.good).unique (.inl ⟨rfl, fun a ha _ => ?_⟩)
  obtain ⟨i, rfl⟩ := h.all a ha
  show ((YtnhnckhjcnjacaaSg.PP 4096 L (chA i).f.toNat : Nat) : Int) ≠ (YtnhnckhjcnjacaaSg.PP 4096 L (chA i).t.toNat : Nat)
  rw [(chA_nat i).1, (chA_nat i).2.1, h.PP (by omega), h.PP (by omega)]
  omega
theorem Chain.SS (h : Chain L) : ∀ d v : Nat, v + d = 4095 → SS 4096 L v = 4095 - (v : Int) - 1365 + ((v : Int) + 2) / 3 := by
  have hS := SS_spec h.good
  intro d
  induction d with
  | zero =>
    intro v hv
    rcases hS.att v (by omega) with e | ⟨a, ha, h1, h2, h3⟩
    · rw [e]; omega
    · obtain ⟨i, rfl⟩ := h.all a ha
      rw [(chA_nat i).1, h.PP (by omega), h.PP (by omega)] at h1
      omega
  | succ d ih =>
    intro v hv
    have h1 := ih (v + 1) (by omega)
    obtain ⟨i, hi, hm⟩ := h.has v (by omega)
    have hge := hS.ge (chA i) hm (by rw [(chA_nat i).1, (chA_nat i).2.1, h.PP (by omega), h.PP (by omega)]; omega)
    rw [(chA_nat i).1, (chA_nat i).2.1, (chA_nat i).2.2, hi, h1] at hge
    have hv3 : ∀ x : Int, x = (if 0 < v % 3 then 1 else 0) → 4095 - ((v + 1 : Nat) : Int) - 1365 + (((v + 1 : Nat) : Int) + 2) / 3 + x = 4095 - (v : Int) - 1365 + ((v : Int) + 2) / 3 := by
      intro x hx
      rw [hx]
      split <;> omega
    rw [hv3 _ rfl] at hge
    refine Int.le_antisymm ?_ hge
    rcases hS.att v (by omega) with e | ⟨a, ha, k1, k2, k3⟩
    · rw [e] at hge ⊢
      omega
    · obtain ⟨j, rfl⟩ := h.all a ha
      rw [(chA_nat j).1, h.PP (by omega), h.PP (by omega)] at k1
      have hj : j % 4095 = v := by omega
      rw [(chA_nat j).2.1, (chA_nat j).2.2, hj, h1, hv3 _ rfl] at k3
      omega
theorem Chain.strata (h : Chain L) : strataV (4096 : Nat) L = (List.range 4096).map (YtnhnckhjcnjacaaSg.SS 4096 L) ∧ strataE (4096 : Nat) L = 0 := by
  have hne : ¬ fault (4096 : Nat) L ≠ 0 := fun e => e h.good.fault
  unfold strataV strataE
  rw [if_neg hne, if_neg hne, Int.toNat_natCast, h.rr, if_neg (by omega), if_neg (by omega)]
  exact ⟨rfl, rfl⟩
theorem Chain.ring (h : Chain L) : ringV' (4096 : Nat) L = [] := by
  rw [ring_good h.good, h.rr]
  unfold ringL
  rw [List.filter_eq_nil_iff.2]
  · rfl
  · intro x _
    simp
theorem Chain.parts (h : Chain L) : partsV (4096 : Nat) L = (List.range 4096).map fun v => ((4095 - v : Nat) : Int) := by
  rw [parts_good h.good]
  refine List.map_congr_left fun v hv => ?_
  rw [h.PP (by simpa using hv)]
theorem Chain.rch (h : Chain L) (u : Nat) (hu : u < 4096) : Rch (EA L) (SF [((4094 : Nat) : Int)]) u ↔ 4094 ≤ u := by
  constructor
  · refine fun hr => Rch.sub (P := fun u => 4094 ≤ u) (fun v hv => ?_) (fun a b ha hb => ?_) u hr
    · have : (v : Int) = 4094 := by simpa [SF] using hv
      show 4094 ≤ v
      omega
    · have := (h.tos a b).1 ((tos_EA h.good.hb a b).2 hb)
      show 4094 ≤ b
      have : 4094 ≤ a := ha
      omega
  · intro hle
    have h0 : Rch (EA L) (SF [((4094 : Nat) : Int)]) 4094 := .base (by simp [SF])
    by_cases e : u = 4094
    · rw [e]; exact h0
    · have : u = 4095 := by omega
      rw [this]
      exact .step h0 ((tos_EA h.good.hb _ _).1 ((h.tos 4094 4095).2 ⟨by omega, rfl⟩))
end
end Go.Proofs.YtnhnckhjcnjacaaSg
