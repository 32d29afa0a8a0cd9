/- Strata: the heads are the least nodes of their parts. -/
import Derived.Test.YtnhnckhjcnjacaaUa
import Derived.Test.YtnhnckhjcnjacaaSn
import Derived.Test.YtnhnckhjcnjacaaSm
namespace Go.Proofs.YtnhnckhjcnjacaaSg
open Go.Proofs.YtnhnckhjcnjacaaSw Go.Proofs.Ytnhnckhjcnjacaa.ST
set_option linter.unusedVariables false
set_option linter.unusedSimpArgs false

theorem zero_ti (out : Nat → List Nat) (n : Nat) : TI out n (fun _ => False) zeroS :=
  ⟨zero_lt n, fun x => by simp [zeroS], fun x hx => by simp [zeroS] at hx, by simp [zeroS], fun g h => h.elim, fun x hx => by simp [zeroS] at hx, fun x hx => by simp [zeroS] at hx,
    fun x hx => by simp [zeroS] at hx, fun g h => h.elim, fun x hx => by simp [zeroS] at hx⟩
theorem rings_ti (out : Nat → List Nat) (n : Nat) (ho : ∀ v < n, ∀ t ∈ out v, t < n) : ∀ k, k ≤ n → TI out n (fun _ => False) (ringsF out n k) ∧ ∀ v, v < k → (ringsF out n k).seen v ≠ 0 := by
  intro k
  induction k with
  | zero => intro _; exact ⟨zero_ti out n, fun v hv => by omega⟩
  | succ k ih =>
    intro hk
    obtain ⟨h1, h2⟩ := ih (by omega)
    rw [ringsF_succ]
    by_cases hs : (ringsF out n k).seen k = 0
    · rw [if_pos hs]
      have hq := visit_ti ho n k _ _ h1 (by omega) hs (unseen_n n _) (fun g hg => hg.elim)
      refine ⟨hq.ti, fun v hv => ?_⟩
      by_cases e : v = k
      · rw [e]; exact hq.seen
      · have := h2 v (by omega)
        rw [(hq.keep v this).1]
        exact this
    · rw [if_neg hs]
      refine ⟨h1, fun v hv => ?_⟩
      by_cases e : v = k
      · rw [e]; exact hs
      · exact h2 v (by omega)
theorem rings_least (out : Nat → List Nat) (n : Nat) (ho : ∀ v < n, ∀ t ∈ out v, t < n) (v : Nat) (hv : v < n) : ∃ m : Nat, (ringsF out n n).head v = m ∧ Least out v m := by
  obtain ⟨h1, h2⟩ := rings_ti out n ho n (Nat.le_refl n)
  refine (h1.closed v (h2 v hv) fun hs => ?_).2.2
  obtain ⟨g, hg, _⟩ := h1.up v hs
  exact hg
def headH (out : Nat → List Nat) (n v : Nat) : Nat := ((ringsF out n n).head v).toNat
theorem headH_least (out : Nat → List Nat) (n : Nat) (ho : ∀ v < n, ∀ t ∈ out v, t < n) (v : Nat) (hv : v < n) : Least out v (headH out n v) := by
  obtain ⟨m, h1, h2⟩ := rings_least out n ho v hv
  unfold headH
  rw [h1]
  exact h2
theorem headH_headI (g : Nat → List AI) (n : Nat) (ho : ∀ v < n, ∀ t ∈ tos g v, t < n) : HeadI g n (headH (tos g) n) := by
  refine ⟨fun v hv => ?_, fun v hv => ?_⟩
  · obtain ⟨m, h1, h2⟩ := rings_least (tos g) n ho v hv
    unfold headH
    rw [h1]
    rfl
  · exact Nat.lt_of_le_of_lt ((headH_least (tos g) n ho v hv).le v (.refl v) (.refl v)) hv
/-- Two nodes are in one part. -/
def Sim (out : Nat → List Nat) (u v : Nat) : Prop := Pth out u v ∧ Pth out v u
theorem Sim.symm {out : Nat → List Nat} {u v : Nat} (h : Sim out u v) : Sim out v u := ⟨h.2, h.1⟩
theorem Sim.trans {out : Nat → List Nat} {u v t : Nat} (h : Sim out u v) (k : Sim out v t) : Sim out u t := ⟨h.1.trans k.1, k.2.trans h.2⟩
theorem Sim.rfl' {out : Nat → List Nat} (u : Nat) : Sim out u u := ⟨.refl u, .refl u⟩
theorem Least.sim {out : Nat → List Nat} {x m : Nat} (h : Least out x m) : Sim out x m := ⟨h.fwd, h.back⟩
theorem Least.eq_iff {out : Nat → List Nat} {x y m k : Nat} (h : Least out x m) (h' : Least out y k) : m = k ↔ Sim out x y := by
  constructor
  · rintro rfl
    exact h.sim.trans h'.sim.symm
  · intro hs
    refine Nat.le_antisymm (h.le k (hs.1.trans h'.fwd) (h'.back.trans hs.2)) (h'.le m (hs.2.trans h.fwd) (h.back.trans hs.1))
end Go.Proofs.YtnhnckhjcnjacaaSg
