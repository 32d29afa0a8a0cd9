/- Heaps in lists, plainly. -/
import Derived.Test.YtnhnckhjcnjacaaSg
namespace Go.Proofs.YtnhnckhjcnjacaaSg
set_option linter.unusedVariables false
set_option linter.unusedSimpArgs false

def gN (L : List Nat) (i : Nat) : Nat := L.getD i 0
theorem gN_at {L : List Nat} {i : Nat} (h : i < L.length) : gN L i = L[i] := by simp [gN, List.getD, List.getElem?_eq_getElem h]
/-- Two places exchanged. -/
def swL (L : List Nat) (i k : Nat) : List Nat := (L.set i (gN L k)).set k (gN L i)
theorem swL_len (L : List Nat) (i k : Nat) : (swL L i k).length = L.length := by simp [swL]
theorem swL_get {L : List Nat} {i k : Nat} (hi : i < L.length) (hk : k < L.length) (m : Nat) : gN (swL L i k) m = if m = k then gN L i else if m = i then gN L k else gN L m := by
  unfold swL
  by_cases h1 : m = k
  · subst h1
    simp [gN, List.getD, hk]
  · rw [if_neg h1]
    by_cases h2 : m = i
    · subst h2
      rw [if_pos rfl]
      have h3 : ¬ k = m := fun e => h1 e.symm
      simp [gN, List.getD, List.getElem?_set, h3, hi]
    · rw [if_neg h2]
      have h3 : ¬ k = m := fun e => h1 e.symm
      have h4 : ¬ i = m := fun e => h2 e.symm
      simp [gN, List.getD, List.getElem?_set, h3, h4]
theorem swL_perm {L : List Nat} {i k : Nat} (hi : i < L.length) (hk : k < L.length) : (swL L i k).Perm L := by
  have h := Array.swap_perm (xs := L.toArray) (i := i) (j := k) (by simpa using hi) (by simpa using hk)
  have h2 := Array.perm_iff_toList_perm.1 h
  have e : (L.toArray.swap i k (by simpa using hi) (by simpa using hk)).toList = swL L i k := by
    unfold swL
    rw [gN_at hi, gN_at hk]
    simp [Array.swap]
  rw [e] at h2
  exact h2
def par (j : Nat) : Nat := (j - 1) / 2
/-- A heap of the first n. -/
def IsHp (L : List Nat) (n : Nat) : Prop := ∀ j, 0 < j → j < n → gN L (par j) ≤ gN L j
def UpI (L : List Nat) (n j : Nat) : Prop := (∀ m, 0 < m → m < n → m ≠ j → gN L (par m) ≤ gN L m) ∧ (∀ m, 0 < m → m < n → par m = j → 0 < j → gN L (par j) ≤ gN L m)
def DnI (L : List Nat) (n i : Nat) : Prop := (∀ m, 0 < m → m < n → par m ≠ i → gN L (par m) ≤ gN L m) ∧ (∀ m, 0 < m → m < n → par m = i → 0 < i → gN L (par i) ≤ gN L m)
theorem UpI.stop {L : List Nat} {n j : Nat} (h : UpI L n j) (hs : j = 0 ∨ gN L (par j) ≤ gN L j) : IsHp L n := by
  intro m h0 hm
  by_cases e : m = j
  · subst e
    rcases hs with rfl | hs
    · omega
    · exact hs
  · exact h.1 m h0 hm e
theorem UpI.step {L : List Nat} {n j : Nat} (h : UpI L n j) (hn : n ≤ L.length) (h0 : 0 < j) (hj : j < n) (hlt : gN L j < gN L (par j)) : UpI (swL L (par j) j) n (par j) := by
  have hp : par j < j := by unfold par; omega
  have g := swL_get (L := L) (i := par j) (k := j) (by omega) (by omega)
  refine ⟨fun m hm0 hm hne => ?_, fun m hm0 hm hpm hp0 => ?_⟩
  · rw [g m, g (par m)]
    have hpm : par m < m := by unfold par; omega
    by_cases e1 : m = j
    · subst e1
      rw [if_pos rfl, if_neg (by omega), if_pos rfl]
      omega
    · rw [if_neg e1, if_neg hne]
      have h1 := h.1 m hm0 hm e1
      by_cases e2 : par m = j
      · rw [if_pos e2]
        exact h.2 m hm0 hm e2 h0
      · rw [if_neg e2]
        by_cases e3 : par m = par j
        · rw [if_pos e3]
          rw [e3] at h1
          omega
        · rw [if_neg e3]
          exact h1
  · rw [g m, g (par (par j))]
    have hpp : par (par j) < par j := by unfold par at *; omega
    rw [if_neg (by omega), if_neg (by omega)]
    have h2 := h.1 (par j) hp0 (by omega) (by omega)
    by_cases e1 : m = j
    · rw [if_pos e1]
      exact h2
    · rw [if_neg e1]
      have hmp : par m < m := by unfold par; omega
      rw [if_neg (by omega)]
      have h1 := h.1 m hm0 hm e1
      rw [hpm] at h1
      omega
theorem DnI.stop {L : List Nat} {n i : Nat} (h : DnI L n i) (hs : ∀ m, 0 < m → m < n → par m = i → gN L i ≤ gN L m) : IsHp L n := by
  intro m h0 hm
  by_cases e : par m = i
  · rw [e]; exact hs m h0 hm e
  · exact h.1 m h0 hm e
theorem DnI.step {L : List Nat} {n i j : Nat} (h : DnI L n i) (hn : n ≤ L.length) (hj0 : 0 < j) (hj : j < n) (hp : par j = i) (hmin : ∀ m, 0 < m → m < n → par m = i → gN L j ≤ gN L m) (hlt : gN L j < gN L i) : DnI (swL L i j) n j := by
  have hij : i < j := by unfold par at hp; omega
  have g := swL_get (L := L) (i := i) (k := j) (by omega) (by omega)
  refine ⟨fun m hm0 hm hne => ?_, fun m hm0 hm hpm _ => ?_⟩
  · rw [g m, g (par m), if_neg hne]
    have hpm : par m < m := by unfold par; omega
    by_cases e1 : m = j
    · subst e1
      rw [if_pos rfl, hp, if_pos rfl]
      omega
    · rw [if_neg e1]
      by_cases e2 : m = i
      · rw [if_pos e2, if_neg (by omega)]
        subst e2
        exact h.2 j hj0 hj hp (by omega)
      · rw [if_neg e2]
        by_cases e3 : par m = i
        · rw [if_pos e3]
          exact hmin m hm0 hm e3
        · rw [if_neg e3]
          exact h.1 m hm0 hm e3
  · have hmj : j < m := by unfold par at hpm; omega
    rw [show gN (swL L i j) (par j) = gN L j by rw [hp, g i, if_neg (by omega), if_pos rfl], show gN (swL L i j) m = gN L m by rw [g m, if_neg (by omega), if_neg (by omega)]]
    have := h.1 m hm0 hm (by omega)
    rw [hpm] at this
    exact this
/-- The first is the least. -/
theorem IsHp.least {L : List Nat} {n : Nat} (h : IsHp L n) : ∀ j, j < n → gN L 0 ≤ gN L j := by
  intro j
  induction j using Nat.strongRecOn with
  | ind j ih =>
    intro hj
    by_cases e : j = 0
    · subst e; exact Nat.le_refl _
    · have hp : par j < j := by unfold par; omega
      exact Nat.le_trans (ih (par j) hp (by omega)) (h j (by omega) hj)
theorem IsHp.mono {L : List Nat} {n m : Nat} (h : IsHp L n) (hm : m ≤ n) : IsHp L m := fun j h0 hj => h j h0 (by omega)
/-- A new last one. -/
theorem IsHp.push {L : List Nat} (h : IsHp L L.length) (x : Nat) : UpI (L ++ [x]) (L.length + 1) L.length := by
  have g : ∀ m, m < L.length → gN (L ++ [x]) m = gN L m := fun m hm => by simp [gN, List.getD, List.getElem?_append_left hm]
  refine ⟨fun m h0 hm hne => ?_, fun m h0 hm hp hl => ?_⟩
  · have hp : par m < m := by unfold par; omega
    rw [g m (by omega), g (par m) (by omega)]
    exact h m h0 (by omega)
  · have hp' : par m < m := by unfold par; omega
    omega
/-- The last laid first. -/
theorem IsHp.pop {L : List Nat} {n : Nat} (hL : L.length = n + 1) (h : IsHp L (n + 1)) : DnI (swL L 0 n) n 0 := by
  have g := swL_get (L := L) (i := 0) (k := n) (by omega) (by omega)
  refine ⟨fun m h0 hm hne => ?_, fun m h0 hm hp hl => by omega⟩
  have hp : par m < m := by unfold par; omega
  rw [show gN (swL L 0 n) (par m) = gN L (par m) by rw [g (par m), if_neg (by omega), if_neg hne], show gN (swL L 0 n) m = gN L m by rw [g m, if_neg (by omega), if_neg (by omega)]]
  exact h m h0 (by omega)
theorem IsHp.take {L : List Nat} {n : Nat} (hL : n ≤ L.length) (h : IsHp L n) : IsHp (L.take n) (L.take n).length := by
  have g : ∀ m, m < n → gN (L.take n) m = gN L m := fun m hm => by simp [gN, List.getD, List.getElem?_take_of_lt hm]
  intro j h0 hj
  have hj' : j < n := by simp at hj; omega
  have hp : par j < j := by unfold par; omega
  rw [g j hj', g (par j) (by omega)]
  exact h j h0 hj'
end Go.Proofs.YtnhnckhjcnjacaaSg
