/- Strata: Reach and the reference's Reach answer alike. -/
import Derived.Test.YtnhnckhjcnjacaaTc
namespace Go.Proofs.Ytnhnckhjcnjacaa.ST
open Go.RowKit Go.Proofs.YtnhnckhjcnjacaaKw Go.Proofs.YtnhnckhjcnjacaaSg Go.Proofs.YtnhnckhjcnjacaaSw
set_option linter.unusedVariables false
set_option linter.unusedSimpArgs false
/-- An answer: a list of integers of its own, and a number. -/
def AnsO (w : World) (l : List Int) (k : Int) (e : Ending) (w' : World) : Prop :=
  (∃ A c, e = .returned (.tuple #[.slice A l.length c, .int .i64 k]) ∧ w'.ownsRow w.heap.size 3 1 (.slice A l.length c) l.length (ivs l)) ∧ Below w.heap.size w w'
theorem AnsO.nil {w w' : World} {k : Int} (hB : Below w.heap.size w w') : AnsO w [] k (.returned (.tuple #[.slice none 0 0, .int .i64 k])) w' :=
  ⟨⟨none, 0, rfl, World.ownsRow_nil _ _ _ _⟩, hB⟩
theorem nvs_ivs (l : List Nat) : nvs l = ivs (l.map fun x : Nat => (x : Int)) := by simp [nvs, ivs]
theorem AnsO.nvs {w w' : World} {k : Int} {l : List Nat} {v : Value} (ho : w'.ownsRow w.heap.size 3 1 v l.length (nvs l)) (hB : Below w.heap.size w w') : AnsO w (l.map fun x : Nat => (x : Int)) k (.returned (.tuple #[v, .int .i64 k])) w' := by
  obtain ⟨A, c, rfl, _, _⟩ := own_form ho
  rw [nvs_ivs] at ho
  have hl : (l.map fun x : Nat => (x : Int)).length = l.length := by simp
  refine ⟨⟨A, c, by rw [hl], ?_⟩, hB⟩
  rw [hl]
  exact ho
theorem Rch.congr {E E' : Nat → Nat → Prop} {S : Nat → Prop} (h : ∀ u v, E u v ↔ E' u v) (x : Nat) : Rch E S x ↔ Rch E' S x :=
  ⟨Rch.sub (fun v hv => .base hv) (fun u v hu he => .step hu ((h u v).1 he)) x, Rch.sub (fun v hv => .base hv) (fun u v hu he => .step hu ((h u v).2 he)) x⟩
theorem arcs_ok {n : Nat} {l : List AI} (hb : l.any (bad n) = false) : ∀ a ∈ l, 0 ≤ a.f ∧ a.f < n ∧ 0 ≤ a.t ∧ a.t < n := by
  intro a ha
  have := List.any_eq_false.1 hb a ha
  simp [bad] at this
  omega
/-- The program's arcs and the reference's. -/
theorem tos_EA {n : Nat} {l : List AI} (hb : l.any (bad n) = false) (u t : Nat) : t ∈ tos (outs l) u ↔ EA l u t := by
  have hok := arcs_ok hb
  unfold tos EA
  rw [List.mem_map]
  constructor
  · rintro ⟨a, ha, rfl⟩
    obtain ⟨h1, h2⟩ := (outs_mem l (fun a h => (hok a h).1) u a).1 ha
    have := hok a h1
    exact ⟨a, h1, h2, by omega⟩
  · rintro ⟨a, ha, h1, h2⟩
    exact ⟨a, (outs_mem l (fun a h => (hok a h).1) u a).2 ⟨ha, h1⟩, by omega⟩
theorem onL_congr {on on' : Nat → Bool} {k : Nat} (h : ∀ u, u < k → (on u = true ↔ on' u = true)) : onL on k = onL on' k := by
  unfold onL
  refine List.filter_congr fun x hx => ?_
  have := h x (by simpa using hx)
  cases e1 : on x <;> cases e2 : on' x <;> simp_all
open Classical in
/-- What is reached. -/
noncomputable def rchL (n : Nat) (l : List AI) (fs : List Int) : List Nat := onL (fun u => decide (Rch (EA l) (SF fs) u)) n
noncomputable def reachV (n : Int) (l : List AI) (fs : List Int) : List Int :=
  if fault n l ≠ 0 then [] else if fs.any (badF n) then [] else (rchL n.toNat l fs).map fun x : Nat => (x : Int)
def reachE (n : Int) (l : List AI) (fs : List Int) : Int := if fault n l ≠ 0 then fault n l else if fs.any (badF n) then 80 else 0
theorem fault_good {n : Int} {l : List AI} (h : fault n l = 0) : 0 ≤ n ∧ n ≤ 4096 ∧ l.length ≤ 262144 ∧ l.any (bad n) = false := by
  unfold fault at h
  split at h
  · omega
  · split at h
    · omega
    · split at h
      · omega
      · rename_i h1 h2 h3
        exact ⟨by omega, by omega, by omega, by simpa using h3⟩
theorem reach_ans (A B : Option Addr) (c d : Nat) (n : Int) (l : List AI) (fs : List Int) (w : World) (hr : Rd w A (avs l)) (hl : l.length ≤ 140737488355328) (hf : Rd w B (ivs fs)) (hfl : fs.length ≤ 140737488355328) :
    Calls Try.prog 23 #[.int .i64 n, .slice A l.length c, .slice B fs.length d] w (AnsO w (reachV n l fs) (reachE n l fs)) := by
  by_cases h0 : fault n l = 0
  · obtain ⟨h1, h2, h3, h4⟩ := fault_good h0
    obtain ⟨m, rfl⟩ := Int.eq_ofNat_of_zero_le h1
    refine (reachF_calls A B c m d l fs w hr h3 (by omega) h4 hf hfl).mono ?_
    rintro e w1 ⟨hB, hp⟩
    unfold reachV reachE
    have hne : ¬ fault m l ≠ 0 := fun h => h h0
    rw [if_neg hne, if_neg hne]
    by_cases hb : fs.any (badF m) = true
    · rw [if_pos hb] at hp
      subst hp
      rw [if_pos hb, if_pos hb]
      exact AnsO.nil hB
    · rw [if_neg hb] at hp
      obtain ⟨v, on, rfl, ho, hon⟩ := hp
      rw [if_neg hb, if_neg hb, Int.toNat_natCast]
      have e : onL on m = rchL m l fs := onL_congr fun u hu => by
        rw [hon u hu, Rch.congr (fun u t => tos_EA h4 u t) u]
        simp
      rw [e] at ho
      exact AnsO.nvs ho hB
  · refine (reachF_fault A B c fs.length d n l w hr hl h0).mono ?_
    rintro e w1 ⟨rfl, hB⟩
    unfold reachV reachE
    rw [if_pos h0, if_pos h0]
    exact AnsO.nil hB
theorem reachR_ans (A B : Option Addr) (c d : Nat) (n : Int) (l : List AI) (fs : List Int) (w : World) (hr : Rd w A (avs l)) (hl : l.length ≤ 140737488355328) (hf : Rd w B (ivs fs)) (hfl : fs.length ≤ 140737488355328) :
    Calls Try.prog 24 #[.int .i64 n, .slice A l.length c, .slice B fs.length d] w (AnsO w (reachV n l fs) (reachE n l fs)) := by
  by_cases h0 : fault n l = 0
  · obtain ⟨h1, h2, h3, h4⟩ := fault_good h0
    obtain ⟨m, rfl⟩ := Int.eq_ofNat_of_zero_le h1
    refine (reachR_calls A B c m d l fs w hr h3 (by omega) h4 hf hfl).mono ?_
    rintro e w1 ⟨hB, hp⟩
    unfold reachV reachE
    have hne : ¬ fault m l ≠ 0 := fun h => h h0
    rw [if_neg hne, if_neg hne]
    by_cases hb : fs.any (badF m) = true
    · rw [if_pos hb] at hp
      subst hp
      rw [if_pos hb, if_pos hb]
      exact AnsO.nil hB
    · rw [if_neg hb] at hp
      obtain ⟨v, on, rfl, ho, hon⟩ := hp
      rw [if_neg hb, if_neg hb, Int.toNat_natCast]
      have e : onL on m = rchL m l fs := onL_congr fun u hu => by
        rw [hon u hu]
        simp
      rw [e] at ho
      exact AnsO.nvs ho hB
  · refine (reachR_fault A B c fs.length d n l w hr hl h0).mono ?_
    rintro e w1 ⟨rfl, hB⟩
    unfold reachV reachE
    rw [if_pos h0, if_pos h0]
    exact AnsO.nil hB
end Go.Proofs.Ytnhnckhjcnjacaa.ST
