/- Strata: other numbers for the nodes, plainly. -/
import Derived.Test.YtnhnckhjcnjacaaUo
namespace Go.Proofs.YtnhnckhjcnjacaaSg
open Go.Proofs.YtnhnckhjcnjacaaSw Go.Proofs.Ytnhnckhjcnjacaa.ST
set_option linter.unusedVariables false
set_option linter.unusedSimpArgs false

/-- The other number of a node. -/
def nm (N c i : Nat) : Nat := (N - 1 - i + c) % N
theorem nm_if {N c i : Nat} (hi : i < N) (hc : c < N) : nm N c i = if N - 1 - i + c < N then N - 1 - i + c else N - 1 - i + c - N := by
  unfold nm
  split
  · rename_i h; exact Nat.mod_eq_of_lt h
  · rename_i h
    rw [Nat.mod_eq_sub_mod (by omega), Nat.mod_eq_of_lt (by omega)]
theorem nm_lt {N c i : Nat} (hN : 0 < N) : nm N c i < N := Nat.mod_lt _ hN
theorem nm_inv {N c i : Nat} (hi : i < N) (hc : c < N) : nm N c (nm N c i) = i := by
  rw [nm_if (nm_lt (by omega)) hc, nm_if hi hc]
  split <;> split <;> omega
def ren (g : Nat → Nat) (a : AI) : AI := ⟨(g a.f.toNat : Int), (g a.t.toNat : Int), a.neg⟩
def renL (g : Nat → Nat) (L : List AI) : List AI := L.reverse.flatMap fun a => [ren g a, ren g a]
theorem renL_drop (g : Nat → Nat) (L : List AI) (k : Nat) (h : k < L.length) : renL g (L.drop k) = renL g (L.drop (k + 1)) ++ [ren g L[k]] ++ [ren g L[k]] := by
  unfold renL
  rw [List.drop_eq_getElem_cons h, List.reverse_cons, List.flatMap_append]
  simp
theorem renL_mem (g : Nat → Nat) (L : List AI) (b : AI) : b ∈ renL g L ↔ ∃ a ∈ L, b = ren g a := by
  unfold renL
  simp only [List.mem_flatMap, List.mem_reverse, List.mem_cons, List.not_mem_nil, or_false, or_self]
theorem renL_len (g : Nat → Nat) (L : List AI) : (renL g L).length = 2 * L.length := by
  have key : ∀ l : List AI, (l.flatMap fun a => [ren g a, ren g a]).length = 2 * l.length := by
    intro l
    induction l with
    | nil => rfl
    | cons a l ih => rw [List.flatMap_cons, List.length_append, ih]; simp; omega
  unfold renL
  rw [key, List.length_reverse]
/-- An involution of the nodes. -/
structure Inv (N : Nat) (g : Nat → Nat) : Prop where
  lt : ∀ v, v < N → g v < N
  inv : ∀ v, v < N → g (g v) = v
def Hom (g : Nat → Nat) (L M : List AI) : Prop := ∀ a ∈ L, ren g a ∈ M
section
variable {N : Nat} {g : Nat → Nat} {L M : List AI}
theorem nm_Inv {c : Nat} (hc : c < N) : Inv N (nm N c) := ⟨fun v hv => nm_lt (by omega), fun v hv => nm_inv hv hc⟩
theorem renL_good (hg : Inv N g) (h : GoodG N L) (hl : L.length ≤ 400) : GoodG N (renL g L) := by
  refine ⟨h.hn, by rw [renL_len]; omega, ?_⟩
  rw [List.any_eq_false]
  intro b hb
  obtain ⟨a, ha, rfl⟩ := (renL_mem g L b).1 hb
  have h1 := hg.lt _ (h.arc ha).1
  have h2 := hg.lt _ (h.arc ha).2.1
  have e1 : (ren g a).f = (g a.f.toNat : Int) := rfl
  have e2 : (ren g a).t = (g a.t.toNat : Int) := rfl
  intro hbad
  simp only [bad, Bool.or_eq_true, decide_eq_true_eq] at hbad
  rw [e1, e2] at hbad
  omega
theorem hom1 (g : Nat → Nat) (L : List AI) : Hom g L (renL g L) := fun a ha => (renL_mem g L _).2 ⟨a, ha, rfl⟩
theorem hom2 (hg : Inv N g) (h : GoodG N L) : Hom g (renL g L) L := by
  intro b hb
  obtain ⟨a, ha, rfl⟩ := (renL_mem g L b).1 hb
  have hk := arcs_ok h.hb a ha
  have e : ren g (ren g a) = a := by
    refine AI.ext' ?_ ?_ rfl
    · show ((g ((g a.f.toNat : Nat) : Int).toNat : Nat) : Int) = a.f
      rw [Int.toNat_natCast, hg.inv _ (h.arc ha).1]
      omega
    · show ((g ((g a.t.toNat : Nat) : Int).toNat : Nat) : Int) = a.t
      rw [Int.toNat_natCast, hg.inv _ (h.arc ha).2.1]
      omega
  rw [e]
  exact ha
theorem Hom.pth (hL : GoodG N L) (hM : GoodG N M) (h : Hom g L M) {u v : Nat} (hp : Pth (tos (outs L)) u v) : Pth (tos (outs M)) (g u) (g v) := by
  induction hp with
  | refl => exact .refl _
  | step _ ht ih =>
    refine .step ih ?_
    obtain ⟨a, ha, h1, h2⟩ := (tos_EA hL.hb _ _).1 ht
    refine (tos_EA hM.hb _ _).2 ⟨ren g a, h a ha, ?_, ?_⟩
    · show ((g a.f.toNat : Nat) : Int) = _
      rw [h1, Int.toNat_natCast]
    · show ((g a.t.toNat : Nat) : Int) = _
      rw [h2, Int.toNat_natCast]
theorem Hom.pth_iff (hg : Inv N g) (hL : GoodG N L) (hM : GoodG N M) (h : Hom g L M) (h' : Hom g M L) {u v : Nat} (hu : u < N) (hv : v < N) : Pth (tos (outs L)) u v ↔ Pth (tos (outs M)) (g u) (g v) := by
  refine ⟨h.pth hL hM, fun hp => ?_⟩
  have := h'.pth hM hL hp
  rw [hg.inv u hu, hg.inv v hv] at this
  exact this
theorem Hom.part (hg : Inv N g) (hL : GoodG N L) (hM : GoodG N M) (h : Hom g L M) (h' : Hom g M L) {u v : Nat} (hu : u < N) (hv : v < N) : PP N L u = PP N L v ↔ PP N M (g u) = PP N M (g v) := by
  rw [(PP_spec hL).sim u hu v hv, (PP_spec hM).sim _ (hg.lt u hu) _ (hg.lt v hv)]
  unfold Sim
  rw [h.pth_iff hg hL hM h' hu hv, h.pth_iff hg hL hM h' hv hu]
theorem Hom.ring (hg : Inv N g) (hL : GoodG N L) (hM : GoodG N M) (h : Hom g L M) (h' : Hom g M L) (h0 : 0 ≤ rr N L) : 0 ≤ rr N M := by
  rcases rr_spec hL with ⟨e, _⟩ | ⟨_, ⟨a, ha, h1, h2, _⟩, _⟩
  · omega
  · rcases rr_spec hM with ⟨e, hno⟩ | ⟨h3, _⟩
    · refine absurd ?_ (hno _ (h a ha) h1)
      have h4 : PP N L a.f.toNat = PP N L a.t.toNat := by
        have : ((PP N L a.f.toNat : Nat) : Int) = (PP N L a.t.toNat : Nat) := h2
        omega
      have h5 := (h.part hg hL hM h' (hL.arc ha).1 (hL.arc ha).2.1).1 h4
      show ((PP N M ((g a.f.toNat : Nat) : Int).toNat : Nat) : Int) = (PP N M ((g a.t.toNat : Nat) : Int).toNat : Nat)
      rw [Int.toNat_natCast, Int.toNat_natCast, h5]
    · exact h3
theorem Sol.hom (hg : Inv N g) (hL : GoodG N L) (h : Hom g L M) {S : Nat → Int} (hS : Sol N M S) : Sol N L fun v => S (g v) := by
  refine ⟨fun v hv => hS.1 _ (hg.lt v hv), fun a ha => ?_⟩
  have := hS.2 _ (h a ha)
  have e1 : (ren g a).f.toNat = g a.f.toNat := Int.toNat_natCast _
  have e2 : (ren g a).t.toNat = g a.t.toNat := Int.toNat_natCast _
  have e3 : ng (ren g a) = ng a := rfl
  rw [e1, e2, e3] at this
  exact this
theorem noring {n : Nat} {l : List AI} (hg : GoodG n l) (hr : ¬ 0 ≤ rr n l) : ∀ a ∈ l, a.neg = true → PP n l a.f.toNat ≠ PP n l a.t.toNat := by
  rcases rr_spec hg with ⟨_, h⟩ | ⟨h, _⟩
  · exact fun a ha hn e => h a ha hn (by show (PP n l a.f.toNat : Int) = PP n l a.t.toNat; rw [e])
  · exact absurd h hr
theorem Hom.le (hg : Inv N g) (hL : GoodG N L) (hM : GoodG N M) (h : Hom g L M) (hr : ¬ 0 ≤ rr N M) {v : Nat} (hv : v < N) : SS N L v ≤ SS N M (g v) :=
  (SS_spec hL).least hL (PP_spec hL) (((SS_spec hM).sol hM (noring hM hr)).hom hg hL h) (PP N L v) v (Nat.le_refl _) hv
theorem Hom.level (hg : Inv N g) (hL : GoodG N L) (hM : GoodG N M) (h : Hom g L M) (h' : Hom g M L) (hr : ¬ 0 ≤ rr N L) (hr' : ¬ 0 ≤ rr N M) {v : Nat} (hv : v < N) : SS N L v = SS N M (g v) := by
  refine Int.le_antisymm (h.le hg hL hM hr' hv) ?_
  have := Hom.le hg hM hL h' hr (hg.lt v hv)
  rw [hg.inv v hv] at this
  exact this
theorem nodup_sub : ∀ (l1 l2 : List Nat), l1.Nodup → (∀ x ∈ l1, x ∈ l2) → l1.length ≤ l2.length
  | [], _, _, _ => by simp
  | x :: l1, l2, hn, hs => by
    have hx := hs x (by simp)
    rw [List.nodup_cons] at hn
    have := nodup_sub l1 (l2.erase x) hn.2 fun y hy => (List.mem_erase_of_ne (fun e => hn.1 (by rw [← e]; exact hy))).2 (hs y (List.mem_cons_of_mem _ hy))
    have h2 := List.length_erase_of_mem hx
    have h3 : 0 < l2.length := List.length_pos_of_mem hx
    simp only [List.length_cons]
    omega
theorem map_nodup (hg : Inv N g) : ∀ (l : List Nat), (∀ x ∈ l, x < N) → l.Nodup → (l.map g).Nodup
  | [], _, _ => by simp
  | x :: l, hl, hn => by
    rw [List.nodup_cons] at hn
    rw [List.map_cons, List.nodup_cons]
    refine ⟨fun hm => ?_, map_nodup hg l (fun y hy => hl y (List.mem_cons_of_mem _ hy)) hn.2⟩
    obtain ⟨y, hy, e⟩ := List.mem_map.1 hm
    have h1 := hg.inv y (hl y (List.mem_cons_of_mem _ hy))
    have h2 := hg.inv x (hl x (by simp))
    rw [e, h2] at h1
    exact hn.1 (by rw [h1]; exact hy)
theorem Hom.count_le (hg : Inv N g) (hL : GoodG N L) (hM : GoodG N M) (h : Hom g L M) {a : Nat} (ha : a < N) : (reachV N L [(a : Int)]).length ≤ (reachV N M [(g a : Int)]).length := by
  have f1 : ∀ x ∈ [(a : Int)], 0 ≤ x ∧ x < N := by intro x hx; simp at hx; omega
  have hga := hg.lt a ha
  have f2 : ∀ x ∈ [(g a : Int)], 0 ≤ x ∧ x < N := by intro x hx; simp at hx; omega
  rw [(reach_good hL f1).2, (reach_good hM f2).2, List.length_map, List.length_map, ← List.length_map (f := g)]
  have hmem : ∀ x ∈ rchL N L [(a : Int)], x < N ∧ Pth (tos (outs L)) a x := by
    intro x hx
    have hxN : x < N := by
      unfold rchL onL at hx
      exact List.mem_range.1 (List.mem_filter.1 hx).1
    refine ⟨hxN, ((reach_one hL ha).2 x hxN).1 ?_⟩
    rw [(reach_good hL f1).2]
    exact List.mem_map.2 ⟨x, hx, rfl⟩
  refine nodup_sub _ _ (map_nodup hg _ (fun x hx => (hmem x hx).1) ?_) fun y hy => ?_
  · unfold rchL onL
    exact List.Pairwise.filter _ List.nodup_range
  · obtain ⟨x, hx, rfl⟩ := List.mem_map.1 hy
    obtain ⟨h1, h2⟩ := hmem x hx
    have h3 := ((reach_one hM hga).2 (g x) (hg.lt x h1)).2 (h.pth hL hM h2)
    rw [(reach_good hM f2).2] at h3
    obtain ⟨z, hz, e⟩ := List.mem_map.1 h3
    have : z = g x := by omega
    rw [← this]
    exact hz
theorem Hom.count (hg : Inv N g) (hL : GoodG N L) (hM : GoodG N M) (h : Hom g L M) (h' : Hom g M L) {a : Nat} (ha : a < N) : (reachV N L [(a : Int)]).length = (reachV N M [(g a : Int)]).length := by
  refine Nat.le_antisymm (h.count_le hg hL hM ha) ?_
  have := Hom.count_le hg hM hL h' (hg.lt a ha)
  rw [hg.inv a ha] at this
  exact this
theorem reach_two (hL : GoodG N L) {a b : Nat} (ha : a < N) (hb : b < N) (i : Nat) (hi : i < N) : (i : Int) ∈ reachV N L [(b : Int), (a : Int), (b : Int)] ↔ (i : Int) ∈ reachV N L [(a : Int)] ∨ (i : Int) ∈ reachV N L [(b : Int)] := by
  have f1 : ∀ x ∈ [(b : Int), (a : Int), (b : Int)], 0 ≤ x ∧ x < N := by intro x hx; simp at hx; omega
  rw [reach_mem hL f1 i hi, (reach_one hL ha).2 i hi, (reach_one hL hb).2 i hi]
  have pr : ∀ {u v : Nat}, u < N → Pth (tos (outs L)) u v → SF [(b : Int), (a : Int), (b : Int)] u → Rch (EA L) (SF [(b : Int), (a : Int), (b : Int)]) v := by
    intro u v hu hp hs
    induction hp with
    | refl => exact .base hs
    | step _ ht ih => exact .step ih ((tos_EA hL.hb _ _).1 ht)
  constructor
  · refine Rch.sub (P := fun i => Pth (tos (outs L)) a i ∨ Pth (tos (outs L)) b i) (fun v hv => ?_) (fun u v hu he => ?_) i
    · have : (v : Int) = b ∨ (v : Int) = a := by
        have h1 : (v : Int) ∈ [(b : Int), (a : Int), (b : Int)] := hv
        simp only [List.mem_cons, List.not_mem_nil, or_false] at h1
        omega
      rcases this with e | e
      · have e2 : v = b := by omega
        rw [e2]; exact .inr (.refl b)
      · have e2 : v = a := by omega
        rw [e2]; exact .inl (.refl a)
    · have ht := (tos_EA hL.hb u v).2 he
      rcases hu with hu | hu
      · exact .inl (.step hu ht)
      · exact .inr (.step hu ht)
  · rintro (h | h)
    · exact pr ha h (by simp [SF])
    · exact pr hb h (by simp [SF])
end
end Go.Proofs.YtnhnckhjcnjacaaSg
