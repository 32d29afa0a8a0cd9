/- Strata: the two small graphs of awake. -/
import Derived.Test.YtnhnckhjcnjacaaSf
import Derived.Test.YtnhnckhjcnjacaaTa
namespace Go.Proofs.Ytnhnckhjcnjacaa.ST
open Go.RowKit Go.Proofs.YtnhnckhjcnjacaaKw Go.Proofs.YtnhnckhjcnjacaaSg Go.Proofs.YtnhnckhjcnjacaaSw
set_option linter.unusedVariables false
set_option linter.unusedSimpArgs false

theorem wb_fold (b : Int) (l : List Nat) : ∀ (a : Int) (s : KS), (∀ p, a ≤ s.waits p ∧ s.waits p ≤ b) → ∀ p, a - l.length ≤ (l.foldl lowK s).waits p ∧ (l.foldl lowK s).waits p ≤ b := by
  induction l with
  | nil => intro a s h p; have := h p; simp; omega
  | cons x l ih =>
    intro a s h p
    rw [List.foldl_cons]
    have := ih (a - 1) (lowK s x) (fun q => by
      show a - 1 ≤ upd s.waits x (s.waits x - 1) q ∧ _
      have h1 := h q
      have h2 := h x
      unfold lowK upd
      dsimp only
      split <;> omega) p
    simp only [List.length_cons]
    push_cast
    omega
theorem wb_iter (back : Nat → List Nat) (K : Nat) (hK : ∀ q, (back q).length ≤ K) (a b : Int) (s : KS) (h : ∀ p, a ≤ s.waits p ∧ s.waits p ≤ b) (i : Nat) : ∀ p, a - i * K ≤ (iterK back s i).waits p ∧ (iterK back s i).waits p ≤ b := by
  induction i with
  | zero => intro p; have := h p; simp [iterK]; omega
  | succ i ih =>
    intro p
    have := wb_fold b (back (minR (iterK back s i).ready)) (a - i * K) (takeK (iterK back s i)) ih p
    have hk := hK (minR (iterK back s i).ready)
    have e : ((i + 1 : Nat) : Int) * K = i * K + K := by push_cast; rw [Int.add_mul, Int.one_mul]
    show a - ((i + 1 : Nat) : Int) * K ≤ ((back (minR (iterK back s i).ready)).foldl lowK (takeK (iterK back s i))).waits p ∧ ((back (minR (iterK back s i).ready)).foldl lowK (takeK (iterK back s i))).waits p ≤ b
    rw [e]
    omega
def l4 : List AI := [⟨0, 1, false⟩, ⟨1, 2, false⟩, ⟨2, 1, false⟩, ⟨3, 1, true⟩]
def H4 (v : Nat) : Nat := [0, 1, 1, 3].getD v 0
theorem head4 : HeadI (outs l4) 4 H4 := ⟨by decide +kernel, by decide +kernel⟩
def cs4 : CS := cross H4 (tos (outs l4)) 4
def s4 : KS := startK H4 cs4.waits 4
theorem order4 : (iterK cs4.back s4 3).order = [1, 0, 3] := by decide +kernel
theorem ne4 : ∀ i, i < 3 → (iterK cs4.back s4 i).ready ≠ [] := by decide +kernel
theorem fin4 : (iterK cs4.back s4 3).ready = [] := by decide +kernel
theorem ring4 : ringG (fun x => (iterK cs4.back s4 3).number (H4 x)) (outs l4) 4 = -1 := by decide +kernel
theorem rd4 : ∀ i, i ≤ 3 → (iterK cs4.back s4 i).ready.length < 5000 ∧ (iterK cs4.back s4 i).order.length < 5000 ∧ ∀ x ∈ (iterK cs4.back s4 i).ready, x < 4 := by decide +kernel
theorem rm4 : ∀ i, i < 3 → ∀ j, j ≤ (cs4.back (minR (iterK cs4.back s4 i).ready)).length → (inK cs4.back (iterK cs4.back s4 i) j).ready.length < 5000 ∧ (inK cs4.back (iterK cs4.back s4 i) j).order.length < 5000 ∧ ∀ x ∈ (inK cs4.back (iterK cs4.back s4 i) j).ready, x < 4 := by decide +kernel
theorem cb4 : CB 4 (4 * 4) cs4 := CB.cross (N := 4) head4.lt (by decide +kernel) 4 (Nat.le_refl _)
theorem kok_of {n T m : Nat} {cs : CS} {s : KS} (hc : CB n m cs) (hw : s.waits = cs.waits) (hm : m ≤ 5000) (hT : T ≤ 5000) (ne : ∀ i, i < T → (iterK cs.back s i).ready ≠ []) (fin : (iterK cs.back s T).ready = [])
    (r : ∀ i, i ≤ T → (iterK cs.back s i).ready.length < 5000 ∧ (iterK cs.back s i).order.length < 5000 ∧ ∀ x ∈ (iterK cs.back s i).ready, x < n)
    (rm : ∀ i, i < T → ∀ j, j ≤ (cs.back (minR (iterK cs.back s i).ready)).length → (inK cs.back (iterK cs.back s i) j).ready.length < 5000 ∧ (inK cs.back (iterK cs.back s i) j).order.length < 5000 ∧ ∀ x ∈ (inK cs.back (iterK cs.back s i) j).ready, x < n) : KOk n cs.back s T := by
  have hb : ∀ i, i ≤ T → ∀ p, 0 - (i : Int) * m ≤ (iterK cs.back s i).waits p ∧ (iterK cs.back s i).waits p ≤ m := fun i _ => wb_iter cs.back m hc.l 0 m s (by rw [hw]; exact hc.w) i
  have him : ∀ i, i ≤ T → (i : Int) * m ≤ 25000000 := by
    intro i hi
    have h1 : i * m ≤ 5000 * 5000 := Nat.mul_le_mul (by omega) hm
    have h2 : ((i * m : Nat) : Int) ≤ 25000000 := by omega
    rw [Int.natCast_mul] at h2
    exact h2
  refine ⟨ne, fin, fun i hi => ⟨(r i hi).1, (r i hi).2.1, fun p => ?_, (r i hi).2.2⟩, fun i hi j hj => ⟨(rm i hi j hj).1, (rm i hi j hj).2.1, fun p => ?_, (rm i hi j hj).2.2⟩⟩
  · have h1 := hb i hi p
    have h2 := him i hi
    omega
  · have h1 := wb_fold m ((cs.back (minR (iterK cs.back s i).ready)).take j) (0 - (i : Int) * m) (takeK (iterK cs.back s i)) (hb i (by omega)) p
    have h2 := him i (by omega)
    have h3 : ((cs.back (minR (iterK cs.back s i).ready)).take j).length ≤ m := Nat.le_trans (by rw [List.length_take]; omega) (hc.l (minR (iterK cs.back s i).ready))
    show _ ≤ (((cs.back (minR (iterK cs.back s i).ready)).take j).foldl lowK (takeK (iterK cs.back s i))).waits p ∧ _
    unfold inK
    omega
theorem plan4 : PlanI 4 3 (outs l4) H4 (iterK cs4.back s4 3) := ⟨head4, kok_of cb4 rfl (by decide) (by decide) ne4 fin4 rd4 rm4, rfl⟩
def l2 : List AI := [⟨1, 1, true⟩]
def H2 (v : Nat) : Nat := v
theorem head2 : HeadI (outs l2) 2 H2 := ⟨by decide +kernel, fun v h => h⟩
def cs2 : CS := cross H2 (tos (outs l2)) 2
def s2 : KS := startK H2 cs2.waits 2
theorem plan2 : PlanI 2 2 (outs l2) H2 (iterK cs2.back s2 2) := ⟨head2, kok_of (m := 2 * 1) (CB.cross (N := 1) head2.lt (by decide +kernel) 2 (Nat.le_refl _)) rfl (by decide) (by decide) (by decide +kernel) (by decide +kernel) (by decide +kernel) (by decide +kernel), rfl⟩
theorem parts4 : (List.range 4).map (fun x => (iterK cs4.back s4 3).number (H4 x)) = [1, 0, 0, 2] := by decide +kernel
theorem ring2 : ringL (fun x => (iterK cs2.back s2 2).number (H2 x)) (ringG (fun x => (iterK cs2.back s2 2).number (H2 x)) (outs l2) 2) 2 = [1] := by decide +kernel
def Q4 (v : Nat) : Nat := [1, 0, 0, 2].getD v 0
theorem num4 : ∀ v, v < 4 → (iterK cs4.back s4 3).number (H4 v) = (Q4 v : Int) ∧ Q4 v < 3 := by decide +kernel
theorem level4 : (List.range 4).map (fun x => lvG Q4 (outs l4) 4 3 (Q4 x)) = [0, 0, 0, 1] := by decide +kernel
theorem reach4 (on : Nat → Bool) (h : ∀ u, u < 4 → (on u = true ↔ Rch (fun u t => t ∈ tos (outs l4) u) (SF [0]) u)) : onL on 4 = [0, 1, 2] := by
  have r0 : Rch (fun u t => t ∈ tos (outs l4) u) (SF [0]) 0 := .base (by simp [SF])
  have r1 : Rch (fun u t => t ∈ tos (outs l4) u) (SF [0]) 1 := .step r0 (by decide +kernel)
  have r2 : Rch (fun u t => t ∈ tos (outs l4) u) (SF [0]) 2 := .step r1 (by decide +kernel)
  have r3 : ¬ Rch (fun u t => t ∈ tos (outs l4) u) (SF [0]) 3 := fun h3 => by
    have key : ∀ u, u < 3 → ∀ t ∈ tos (outs l4) u, t < 3 := by decide +kernel
    have := Rch.sub (E := fun u t => t ∈ tos (outs l4) u) (S := SF [0]) (P := fun v => v < 3) (fun v hv => by simp [SF] at hv; omega) (fun u v hu hv => key u hu v hv) 3 h3
    omega
  have o0 := (h 0 (by omega)).2 r0
  have o1 := (h 1 (by omega)).2 r1
  have o2 := (h 2 (by omega)).2 r2
  have o3 : on 3 = false := by
    cases e : on 3 with
    | false => rfl
    | true => exact absurd ((h 3 (by omega)).1 e) r3
  unfold onL
  rw [show List.range 4 = [0, 1, 2, 3] from rfl]
  simp [List.filter, o0, o1, o2, o3]
end Go.Proofs.Ytnhnckhjcnjacaa.ST
