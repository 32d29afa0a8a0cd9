/- Graphs: the plain words of the statements about strata. -/
import Derived.Test.YtnhnckhjcnjacaaKw
namespace Go.Proofs.YtnhnckhjcnjacaaSg
open Go.RowKit Go.Proofs.YtnhnckhjcnjacaaKw
set_option linter.unusedVariables false
set_option linter.unusedSimpArgs false

/-- An arc. -/
structure AI where
  f : Int
  t : Int
  neg : Bool
theorem AI.ext' {a b : AI} (h1 : a.f = b.f) (h2 : a.t = b.t) (h3 : a.neg = b.neg) : a = b := by cases a; cases b; simp_all
instance : DecidableEq AI := fun a b =>
  if h : a.f = b.f ∧ a.t = b.t ∧ a.neg = b.neg then isTrue (AI.ext' h.1 h.2.1 h.2.2) else isFalse fun e => h (by rw [e]; exact ⟨rfl, rfl, rfl⟩)
instance : Inhabited AI := ⟨⟨0, 0, false⟩⟩
/-- An arc's cells; those of a list. -/
def AI.cells (a : AI) : List Value := [.int .i64 a.f, .int .i64 a.t, .bool a.neg]
def avs (l : List AI) : List Value := l.flatMap AI.cells
theorem avs_len (l : List AI) : (avs l).length = l.length * 3 := by
  induction l with
  | nil => rfl
  | cons p l ih => simp only [avs, AI.cells, List.flatMap_cons, List.length_append, List.length_cons, List.length_nil] at ih ⊢; omega
theorem avs_snoc (l : List AI) (a : AI) : avs (l ++ [a]) = avs l ++ [.int .i64 a.f, .int .i64 a.t, .bool a.neg] := by simp [avs, AI.cells]
theorem avs_at (l : List AI) : ∀ i, (h : i < l.length) → (avs l)[i * 3]? = some (.int .i64 l[i].f) ∧ (avs l)[i * 3 + 1]? = some (.int .i64 l[i].t) ∧ (avs l)[i * 3 + 2]? = some (.bool l[i].neg) := by
  induction l with
  | nil => intro i h; simp at h
  | cons p l ih =>
    intro i h
    rcases i with _ | i
    · exact ⟨rfl, rfl, rfl⟩
    · have := ih i (by simpa using h)
      have e : avs (p :: l) = .int .i64 p.f :: .int .i64 p.t :: .bool p.neg :: avs l := rfl
      rw [e, show (i + 1) * 3 = i * 3 + 1 + 1 + 1 by omega]
      simpa using this
theorem rd_arc {w : World} {A : Option Addr} {l : List AI} (h : Rd w A (avs l)) {i : Nat} (hi : i < l.length) :
    ∃ b off, A = some ⟨b, off, none⟩ ∧ w.cell? ⟨b, off + i * 3, none⟩ = some (.int .i64 l[i].f) ∧ w.cell? ⟨b, off + i * 3 + 1, none⟩ = some (.int .i64 l[i].t) ∧ w.cell? ⟨b, off + i * 3 + 2, none⟩ = some (.bool l[i].neg) := by
  obtain ⟨h1, h2, h3⟩ := avs_at l i hi
  rcases h with h | ⟨b, off, e, hc⟩
  · have := avs_len l
    rw [h] at this
    simp at this
    omega
  · exact ⟨b, off, e, hc _ _ h1, by rw [Nat.add_assoc]; exact hc _ _ h2, by rw [Nat.add_assoc]; exact hc _ _ h3⟩
theorem rd_arcc {w : World} {b off : Nat} {l : List AI} (h : Rd w (some ⟨b, off, none⟩) (avs l)) {i : Nat} (hi : i < l.length) :
    w.cell? ⟨b, off + i * 3, none⟩ = some (.int .i64 l[i].f) ∧ w.cell? ⟨b, off + i * 3 + 1, none⟩ = some (.int .i64 l[i].t) ∧ w.cell? ⟨b, off + i * 3 + 2, none⟩ = some (.bool l[i].neg) := by
  obtain ⟨b', off', e, hc⟩ := rd_arc h hi
  cases e
  exact hc
/-- Lists of integers. -/
def ivs (l : List Int) : List Value := l.map (.int .i64)
theorem ivs_len (l : List Int) : (ivs l).length = l.length := by simp [ivs]
theorem rd_int {w : World} {A : Option Addr} {l : List Int} (h : Rd w A (ivs l)) {j : Nat} (hj : j < l.length) :
    ∃ b off, A = some ⟨b, off, none⟩ ∧ w.cell? ⟨b, off + j, none⟩ = some (.int .i64 l[j]) := by
  obtain ⟨b, off, e, hc⟩ := h.at (j := j) (by rw [ivs_len]; exact hj)
  exact ⟨b, off, e, by rw [hc]; simp [ivs]⟩
theorem rd_intc {w : World} {b off : Nat} {l : List Int} (h : Rd w (some ⟨b, off, none⟩) (ivs l)) {k : Nat} (hk : k < l.length) : w.cell? ⟨b, off + k, none⟩ = some (.int .i64 l[k]) := by
  obtain ⟨b', off', e, hc⟩ := rd_int h hk
  cases e
  exact hc
theorem ivs_take (l : List Int) (n : Nat) : (ivs l).take n = ivs (l.take n) := by simp [ivs, List.map_take]
theorem ivs_snoc (l : List Int) (x : Int) : ivs (l ++ [x]) = ivs l ++ [.int .i64 x] := by simp [ivs]
theorem ivs_app (l m : List Int) : ivs (l ++ m) = ivs l ++ ivs m := by simp [ivs]

/-- The marks of the kit. -/
def mk1 (i : Int) : Int := 1000003 * (1 + 7) + i
def marksI (k : Nat) : List Int := (List.range k).map fun (i : Nat) => mk1 (i : Int)
theorem marksI_len (k : Nat) : (marksI k).length = k := by simp [marksI]
theorem marksI_succ (k : Nat) : marksI (k + 1) = marksI k ++ [mk1 (k : Int)] := by simp [marksI, List.range_succ]
def marksA (k : Nat) : List AI := (List.range k).map fun (i : Nat) => ⟨mk1 (i : Int), -7, false⟩
theorem marksA_len (k : Nat) : (marksA k).length = k := by simp [marksA]
theorem marksA_succ (k : Nat) : marksA (k + 1) = marksA k ++ [⟨mk1 (k : Int), -7, false⟩] := by simp [marksA, List.range_succ]
theorem allA_lo (l : List AI) (k : Nat) (h : k < l.length) (h' : k < (l ++ marksA 24).length) : (l ++ marksA 24)[k] = l[k] := by rw [List.getElem_append_left h]
theorem allA_hi (l : List AI) (k : Nat) (h : l.length ≤ k) (h' : k < (l ++ marksA 24).length) : (l ++ marksA 24)[k] = ⟨mk1 ((k : Int) - l.length), -7, false⟩ := by
  rw [List.getElem_append_right h]
  simp only [marksA, List.getElem_map, List.getElem_range]
  congr 2
  omega
theorem allI_lo (l : List Int) (k : Nat) (h : k < l.length) (h' : k < (l ++ marksI 24).length) : (l ++ marksI 24)[k] = l[k] := by rw [List.getElem_append_left h]
theorem allI_hi (l : List Int) (k : Nat) (h : l.length ≤ k) (h' : k < (l ++ marksI 24).length) : (l ++ marksI 24)[k] = mk1 ((k : Int) - l.length) := by
  rw [List.getElem_append_right h]
  simp only [marksI, List.getElem_map, List.getElem_range]
  congr 1
  omega
/-- An arc that is not between nodes; why a graph isn't looked at. -/
def bad (n : Int) (a : AI) : Bool := decide (a.f < 0) || decide (n ≤ a.f) || decide (a.t < 0) || decide (n ≤ a.t)
def fault (n : Int) (l : List AI) : Int := if n < 0 ∨ 4096 < n then 2 else if 262144 < l.length then 3 else if l.any (bad n) then 80 else 0
/-- The arcs that come from each node, each once. -/
def updA (g : Nat → List AI) (v : Nat) (l : List AI) : Nat → List AI := fun u => if u = v then l else g u
def addArc (g : Nat → List AI) (a : AI) : Nat → List AI := if (g a.f.toNat).getLast? = some a then g else updA g a.f.toNat (g a.f.toNat ++ [a])
def outs (l : List AI) : Nat → List AI := l.foldl addArc fun _ => []
theorem outs_snoc (l : List AI) (a : AI) : outs (l ++ [a]) = addArc (outs l) a := by simp [outs]
theorem outs_len (l : List AI) (v : Nat) : (outs l v).length ≤ l.length := by
  suffices h : ∀ (l : List AI) (g : Nat → List AI) (m : Nat), (∀ v, (g v).length ≤ m) → ∀ v, (l.foldl addArc g v).length ≤ m + l.length by
    have := h l (fun _ => []) 0 (fun _ => Nat.le_refl _) v
    simpa [outs] using this
  intro l
  induction l with
  | nil => intro g m h v; simpa using h v
  | cons a l ih =>
    intro g m h v
    have := ih (addArc g a) (m + 1) (fun u => by
      unfold addArc updA
      split
      · have := h u; omega
      · dsimp only
        split
        · simp; exact h _
        · have := h u; omega) v
    simp only [List.foldl_cons, List.length_cons]
    omega
theorem outs_mem (l : List AI) (hl : ∀ a ∈ l, 0 ≤ a.f) (v : Nat) (x : AI) : x ∈ outs l v ↔ x ∈ l ∧ x.f = v := by
  suffices h : ∀ (l : List AI) (g : Nat → List AI), (∀ a ∈ l, 0 ≤ a.f) → (∀ v x, x ∈ g v → x.f = v) → ∀ v x, x ∈ l.foldl addArc g v ↔ x ∈ g v ∨ (x ∈ l ∧ x.f = v) by
    have := h l (fun _ => []) hl (fun _ _ h => by simp at h) v x
    simpa [outs] using this
  intro l
  induction l with
  | nil => intro g _ _ v x; simp
  | cons a l ih =>
    intro g hl hg v x
    have ha : 0 ≤ a.f := hl a (by simp)
    have hav : ∀ u : Nat, u = a.f.toNat ↔ a.f = u := fun u => by omega
    have hmem : ∀ u y, y ∈ addArc g a u ↔ y ∈ g u ∨ (y = a ∧ a.f = u) := by
      intro u y
      unfold addArc updA
      split
      · rename_i hlast
        constructor
        · exact .inl
        · rintro (h | ⟨rfl, hu⟩)
          · exact h
          · rw [(hav u).2 hu]
            exact List.mem_of_getLast? hlast
      · dsimp only
        split
        · rename_i hu
          rw [List.mem_append, List.mem_singleton, ← hu]
          constructor
          · rintro (h | h)
            · exact .inl h
            · exact .inr ⟨h, (hav u).1 hu⟩
          · rintro (h | h)
            · exact .inl h
            · exact .inr h.1
        · rename_i hu
          constructor
          · exact .inl
          · rintro (h | ⟨_, h⟩)
            · exact h
            · exact absurd ((hav u).2 h) hu
    rw [List.foldl_cons, ih (addArc g a) (fun b hb => hl b (List.mem_cons_of_mem _ hb)) (fun u y hy => by
      rcases (hmem u y).1 hy with h | ⟨rfl, h⟩
      · exact hg u y h
      · exact h) v x, hmem, List.mem_cons]
    constructor
    · rintro ((h | ⟨rfl, h⟩) | ⟨h1, h2⟩)
      · exact .inl h
      · exact .inr ⟨.inl rfl, h⟩
      · exact .inr ⟨.inr h1, h2⟩
    · rintro (h | ⟨rfl | h1, h2⟩)
      · exact .inl (.inl h)
      · exact .inl (.inr ⟨rfl, h2⟩)
      · exact .inr ⟨h1, h2⟩
theorem outs_sub (l : List AI) (v : Nat) (x : AI) (h : x ∈ outs l v) : x ∈ l ∧ x.f.toNat = v := by
  suffices hs : ∀ (l : List AI) (g : Nat → List AI) (p : AI → Prop), (∀ v x, x ∈ g v → p x ∧ x.f.toNat = v) → (∀ a ∈ l, p a) → ∀ v x, x ∈ l.foldl addArc g v → p x ∧ x.f.toNat = v from
    hs l (fun _ => []) (fun x => x ∈ l) (fun _ _ h => by simp at h) (fun a ha => ha) v x h
  intro l
  induction l with
  | nil => intro g p hg _ v x h; exact hg v x h
  | cons a l ih =>
    intro g p hg hp v x h
    refine ih (addArc g a) p (fun u y hy => ?_) (fun b hb => hp b (List.mem_cons_of_mem _ hb)) v x h
    unfold addArc updA at hy
    split at hy
    · exact hg u y hy
    · dsimp only at hy
      split at hy
      · rename_i hu
        rcases List.mem_append.1 hy with hy | hy
        · rw [hu]; exact hg _ y hy
        · rw [List.mem_singleton] at hy
          subst hy
          exact ⟨hp y (by simp), hu.symm⟩
      · exact hg u y hy
theorem outs_from (l : List AI) (hl : ∀ a ∈ l, 0 ≤ a.f) (v : Nat) (x : AI) (h : x ∈ outs l v) : x.f = v := by
  obtain ⟨h1, h2⟩ := outs_sub l v x h
  have := hl x h1
  omega
/-- What the walk through a graph keeps. -/
structure TS where
  low : Nat → Int
  seen : Nat → Int
  head : Nat → Int
  stack : List Nat
  at_ : Int
end Go.Proofs.YtnhnckhjcnjacaaSg
