/- Strata: the walk through a graph finds the parts, plainly. -/
import Derived.Test.YtnhnckhjcnjacaaSq
namespace Go.Proofs.YtnhnckhjcnjacaaSg
open Go.Proofs.YtnhnckhjcnjacaaSw
set_option linter.unusedVariables false
set_option linter.unusedSimpArgs false

/-- A way. -/
inductive Pth (out : Nat → List Nat) : Nat → Nat → Prop
  | refl (u : Nat) : Pth out u u
  | step {u v t : Nat} : Pth out u v → t ∈ out v → Pth out u t
theorem Pth.trans {out : Nat → List Nat} {u v t : Nat} (h : Pth out u v) (k : Pth out v t) : Pth out u t := by
  induction k with
  | refl => exact h
  | step _ ht ih => exact .step ih ht
theorem Pth.arc {out : Nat → List Nat} {u t : Nat} (h : t ∈ out u) : Pth out u t := .step (.refl u) h
/-- The least node of a part. -/
structure Least (out : Nat → List Nat) (x m : Nat) : Prop where
  fwd : Pth out x m
  back : Pth out m x
  le : ∀ y, Pth out x y → Pth out y x → m ≤ y
/-- What holds while the nodes of G are under visit. -/
structure TI (out : Nat → List Nat) (n : Nat) (G : Nat → Prop) (s : TS) : Prop where
  lt : Lt n s
  pos : ∀ x, 0 ≤ s.seen x ∧ s.seen x ≤ s.at_
  rng : ∀ x, s.seen x ≠ 0 → x < n
  inc : s.stack.Pairwise fun x y => s.seen x < s.seen y
  gray : ∀ g, G g → g ∈ s.stack
  black : ∀ x, s.seen x ≠ 0 → ¬ G x → ∀ t ∈ out x, s.seen t ≠ 0 ∧ (x ∈ s.stack → t ∈ s.stack → s.low x ≤ s.seen t)
  closed : ∀ x, s.seen x ≠ 0 → x ∉ s.stack → (∀ t ∈ out x, s.seen t ≠ 0 ∧ t ∉ s.stack) ∧ s.low x = n + 1 ∧ ∃ m : Nat, s.head x = m ∧ Least out x m
  up : ∀ x ∈ s.stack, ∃ g, G g ∧ s.seen g ≤ s.seen x ∧ Pth out x g
  down : ∀ g, G g → ∀ y ∈ s.stack, s.seen g ≤ s.seen y → Pth out g y
  low : ∀ x ∈ s.stack, ∃ y ∈ s.stack, Pth out x y ∧ s.low x = s.seen y ∧ s.low x ≤ s.seen x
/-- While v is visited: the arcs ds are gone. -/
structure MB (out : Nat → List Nat) (n : Nat) (G : Nat → Prop) (v : Nat) (s0 : TS) (ds T : List Nat) (s : TS) : Prop where
  ti : TI out n (fun x => G x ∨ x = v) s
  stk : s.stack = s0.stack ++ v :: T
  new : ∀ x ∈ T, s0.seen x = 0 ∧ x ≠ v
  keep : ∀ x, s0.seen x ≠ 0 → s.seen x = s0.seen x ∧ s.low x = s0.low x
  arcs : ∀ t ∈ ds, s.seen t ≠ 0 ∧ (t ∈ s.stack → s.low v ≤ s.seen t)
  v0 : s0.seen v = 0
/-- What a visit leaves. -/
structure VQ (out : Nat → List Nat) (n : Nat) (G : Nat → Prop) (v : Nat) (s s' : TS) : Prop where
  ti : TI out n G s'
  ext : ∃ T, s'.stack = s.stack ++ T ∧ (∀ x ∈ T, s.seen x = 0) ∧ ∀ x ∈ T, s'.low v ≤ s'.low x
  keep : ∀ x, s.seen x ≠ 0 → s'.seen x = s.seen x ∧ s'.low x = s.low x
  seen : s'.seen v ≠ 0
section
variable {out : Nat → List Nat} {n v t : Nat} {G : Nat → Prop} {s0 s s' : TS} {ds T : List Nat}
theorem TI.push (h : TI out n G s) (hv : v < n) (hs : s.seen v = 0) (hg : ∀ g, G g → Pth out g v) : MB out n G v s [] [] (pushS v s) := by
  have h0 := h.lt.at0
  have hvs : v ∉ s.stack := fun e => (h.lt.stk v e).2 hs
  have sv : (pushS v s).seen v = s.at_ + 1 := by simp [pushS, upd]
  have lv : (pushS v s).low v = s.at_ + 1 := by simp [pushS, upd]
  have sx : ∀ x, x ≠ v → (pushS v s).seen x = s.seen x := fun x hx => by simp [pushS, upd, hx]
  have lx : ∀ x, x ≠ v → (pushS v s).low x = s.low x := fun x hx => by simp [pushS, upd, hx]
  have ne : ∀ x, s.seen x ≠ 0 → x ≠ v := fun x hx e => hx (by rw [e]; exact hs)
  have nes : ∀ x ∈ s.stack, x ≠ v := fun x hx e => hvs (by rw [← e]; exact hx)
  have hst : (pushS v s).stack = s.stack ++ [v] := rfl
  have hmem : ∀ x, x ∈ (pushS v s).stack ↔ x ∈ s.stack ∨ x = v := fun x => by rw [hst]; simp
  have hne0 : ∀ x, s.seen x ≠ 0 → (pushS v s).seen x ≠ 0 := fun x hx => by rw [sx x (ne x hx)]; exact hx
  refine ⟨⟨(push_lt h.lt hv hs).1, fun x => ?_, fun x hx => ?_, ?_, fun g hgg => ?_, fun x hx hG t ht => ?_, fun x hx hxs => ?_, fun x hx => ?_, fun g hgg y hy hle => ?_, fun x hx => ?_⟩, rfl, by simp, fun x hx => ⟨sx x (ne x hx), lx x (ne x hx)⟩, by simp, hs⟩
  · show 0 ≤ _ ∧ _ ≤ s.at_ + 1
    by_cases e : x = v
    · rw [e, sv]; omega
    · rw [sx x e]; have := h.pos x; omega
  · by_cases e : x = v
    · rw [e]; exact hv
    · rw [sx x e] at hx; exact h.rng x hx
  · rw [hst, List.pairwise_append]
    refine ⟨h.inc.imp_of_mem fun {a b} ha hb hab => by rw [sx a (nes a ha), sx b (nes b hb)]; exact hab, by simp, fun a ha b hb => ?_⟩
    rw [List.mem_singleton] at hb
    rw [hb, sv, sx a (nes a ha)]
    have := h.pos a
    omega
  · rcases hgg with hgg | rfl
    · exact (hmem g).2 (.inl (h.gray g hgg))
    · exact (hmem g).2 (.inr rfl)
  · have hxv : x ≠ v := fun e => hG (.inr e)
    rw [sx x hxv] at hx
    obtain ⟨h1, h2⟩ := h.black x hx (fun e => hG (.inl e)) t ht
    refine ⟨hne0 t h1, fun hxs hts => ?_⟩
    rw [lx x hxv, sx t (ne t h1)]
    exact h2 (((hmem x).1 hxs).resolve_right hxv) (((hmem t).1 hts).resolve_right (ne t h1))
  · have hxv : x ≠ v := fun e => hxs ((hmem x).2 (.inr e))
    rw [sx x hxv] at hx
    obtain ⟨h1, h2, h3⟩ := h.closed x hx (fun e => hxs ((hmem x).2 (.inl e)))
    refine ⟨fun t ht => ⟨hne0 t (h1 t ht).1, fun e => ?_⟩, by rw [lx x hxv]; exact h2, h3⟩
    rcases (hmem t).1 e with e | e
    · exact (h1 t ht).2 e
    · exact ne t (h1 t ht).1 e
  · rcases (hmem x).1 hx with hx | rfl
    · obtain ⟨g, hgg, hle, hp⟩ := h.up x hx
      exact ⟨g, .inl hgg, by rw [sx g (nes g (h.gray g hgg)), sx x (nes x hx)]; exact hle, hp⟩
    · exact ⟨x, .inr rfl, Int.le_refl _, .refl x⟩
  · rcases hgg with hgg | rfl
    · have hgs := h.gray g hgg
      rcases (hmem y).1 hy with hy | rfl
      · rw [sx g (nes g hgs), sx y (nes y hy)] at hle
        exact h.down g hgg y hy hle
      · exact hg g hgg
    · rcases (hmem y).1 hy with hy | rfl
      · rw [sv, sx y (nes y hy)] at hle
        have := h.pos y
        omega
      · exact .refl y
  · rcases (hmem x).1 hx with hx | rfl
    · obtain ⟨y, hy, hp, h1, h2⟩ := h.low x hx
      exact ⟨y, (hmem y).2 (.inl hy), hp, by rw [lx x (nes x hx), sx y (nes y hy)]; exact h1, by rw [lx x (nes x hx), sx x (nes x hx)]; exact h2⟩
    · exact ⟨x, (hmem x).2 (.inr rfl), .refl x, by rw [lv, sv], by rw [lv, sv]; exact Int.le_refl _⟩
/-- The order of the stack. -/
theorem MB.ord (h : MB out n G v s0 ds T s) : (∀ a ∈ s0.stack, s.seen a < s.seen v ∧ ∀ b ∈ T, s.seen a < s.seen b) ∧ ∀ b ∈ T, s.seen v < s.seen b := by
  have hi := h.ti.inc
  rw [h.stk, List.pairwise_append, List.pairwise_cons] at hi
  exact ⟨fun a ha => ⟨hi.2.2 a ha v (by simp), fun b hb => hi.2.2 a ha b (by simp [hb])⟩, hi.2.1.1⟩
theorem MB.lower (h : MB out n G v s0 ds T s) (ht : t ∈ out v) (hst : s.seen t ≠ 0) (hl : ∀ x ∈ T, min (s.low v) (s.low t) ≤ s.low x) :
    MB out n G v s0 (ds ++ [t]) T (lowerS v t s) ∧ ∀ x ∈ T, (lowerS v t s).low v ≤ (lowerS v t s).low x := by
  have hvm : v ∈ s.stack := by rw [h.stk]; simp
  have lv : (lowerS v t s).low v = min (s.low v) (s.low t) := by simp [lowerS, upd]
  have lx : ∀ x, x ≠ v → (lowerS v t s).low x = s.low x := fun x hx => by simp [lowerS, upd, hx]
  have hle : (lowerS v t s).low v ≤ s.low v := by rw [lv]; exact Int.min_le_left _ _
  obtain ⟨yv, hyv, hpv, h1v, h2v⟩ := h.ti.low v hvm
  have hs0v : ∀ x, s0.seen x ≠ 0 → x ≠ v := fun x hx e => hx (by rw [e]; exact h.v0)
  refine ⟨⟨⟨lower_lt h.ti.lt, h.ti.pos, h.ti.rng, h.ti.inc, h.ti.gray, fun x hx hG u hu => ?_, fun x hx hxs => ?_, h.ti.up, h.ti.down, fun x hx => ?_⟩, h.stk, h.new, fun x hx => ?_, fun u hu => ?_, h.v0⟩, fun x hx => ?_⟩
  · have hxv : x ≠ v := fun e => hG (.inr e)
    rw [lx x hxv]
    exact h.ti.black x hx hG u hu
  · have hxv : x ≠ v := fun e => hxs (by rw [e]; exact hvm)
    rw [lx x hxv]
    exact h.ti.closed x hx hxs
  · by_cases e : x = v
    · subst e
      rw [lv]
      by_cases hts : t ∈ s.stack
      · obtain ⟨y, hy, hp, h1, h2⟩ := h.ti.low t hts
        rcases Int.le_total (s.low x) (s.low t) with hm | hm
        · rw [Int.min_eq_left hm]; exact ⟨yv, hyv, hpv, h1v, h2v⟩
        · rw [Int.min_eq_right hm]
          exact ⟨y, hy, (Pth.arc ht).trans hp, h1, Int.le_trans hm h2v⟩
      · have hc := (h.ti.closed t hst hts).2.1
        have := h.ti.pos yv
        have := h.ti.lt.atn
        rw [Int.min_eq_left (by omega)]
        exact ⟨yv, hyv, hpv, h1v, h2v⟩
    · rw [lx x e]
      exact h.ti.low x hx
  · refine ⟨(h.keep x hx).1, ?_⟩
    rw [lx x (hs0v x hx)]
    exact (h.keep x hx).2
  · rcases List.mem_append.1 hu with hu | hu
    · exact ⟨(h.arcs u hu).1, fun hus => Int.le_trans hle ((h.arcs u hu).2 hus)⟩
    · rw [List.mem_singleton] at hu
      subst hu
      refine ⟨hst, fun hus => ?_⟩
      obtain ⟨y, hy, hp, h1, h2⟩ := h.ti.low u hus
      rw [lv]
      exact Int.le_trans (Int.min_le_right _ _) h2
  · rw [lv, lx x (h.new x hx).2]
    exact hl x hx
theorem MB.fin (h0 : TI out n G s0) (h : MB out n G v s0 (out v) T s) (hl : ∀ x ∈ T, s.low v ≤ s.low x) : VQ out n G v s0 (if s.low v = s.seen v then popF n v s else s) := by
  have hvm : v ∈ s.stack := by rw [h.stk]; simp
  have hsv : s.seen v ≠ 0 := (h.ti.lt.stk v hvm).2
  obtain ⟨hpre, hpost⟩ := h.ord
  have hmem : ∀ x, x ∈ s.stack ↔ x ∈ s0.stack ∨ x ∈ v :: T := fun x => by rw [h.stk, List.mem_append]
  have hdis : ∀ x, x ∈ s0.stack → x ∉ v :: T := by
    intro x hx hx2
    rcases List.mem_cons.1 hx2 with rfl | hx2
    · have := (hpre x hx).1; omega
    · have := (hpre x hx).2 x hx2; omega
  have hge : ∀ x ∈ v :: T, s.seen v ≤ s.seen x := by
    intro x hx
    rcases List.mem_cons.1 hx with rfl | hx
    · exact Int.le_refl _
    · have := hpost x hx; omega
  have hnew : ∀ x ∈ v :: T, s0.seen x = 0 := by
    intro x hx
    rcases List.mem_cons.1 hx with rfl | hx
    · exact h.v0
    · exact (h.new x hx).1
  have hgt : ∀ g, G g → s.seen g < s.seen v := fun g hg => (hpre g (h0.gray g hg)).1
  have hlv : ∀ x ∈ v :: T, s.low v ≤ s.low x := by
    intro x hx
    rcases List.mem_cons.1 hx with rfl | hx
    · exact Int.le_refl _
    · exact hl x hx
  have hA : ∀ x ∈ v :: T, Pth out x v := by
    intro x hx
    obtain ⟨g, hg, hle, hp⟩ := h.ti.up x ((hmem x).2 (.inr hx))
    rcases hg with hg | rfl
    · exact hp.trans (h.ti.down g (.inl hg) v hvm (Int.le_of_lt (hgt g hg)))
    · exact hp
  have hB : ∀ x ∈ v :: T, Pth out v x := fun x hx => h.ti.down v (.inr rfl) x ((hmem x).2 (.inr hx)) (hge x hx)
  have hbl : ∀ x, s.seen x ≠ 0 → ¬ G x → ∀ t ∈ out x, s.seen t ≠ 0 ∧ (x ∈ s.stack → t ∈ s.stack → s.low x ≤ s.seen t) := by
    intro x hx hG t ht
    by_cases e : x = v
    · rw [e] at ht ⊢
      exact ⟨(h.arcs t ht).1, fun _ => (h.arcs t ht).2⟩
    · exact h.ti.black x hx (fun e' => e'.elim hG e) t ht
  have hGT : ∀ x ∈ v :: T, ¬ G x := fun x hx hg => hdis x (h0.gray x hg) hx
  split
  · rename_i heq
    have hC : ∀ x ∈ v :: T, ∀ t ∈ out x, s.seen t ≠ 0 ∧ (t ∈ s.stack → t ∈ v :: T) := by
      intro x hx t ht
      have hxs := (hmem x).2 (.inr hx)
      obtain ⟨h1, h2⟩ := hbl x (h.ti.lt.stk x hxs).2 (hGT x hx) t ht
      refine ⟨h1, fun hts => ?_⟩
      rcases (hmem t).1 hts with ht0 | ht0
      · have := h2 hxs hts
        have := hlv x hx
        have := (hpre t ht0).1
        omega
      · exact ht0
    have hD : ∀ y, Pth out v y → y ∈ v :: T ∨ (s.seen y ≠ 0 ∧ y ∉ s.stack) := by
      intro y hy
      suffices hs : ∀ u y, Pth out u y → u = v → y ∈ v :: T ∨ (s.seen y ≠ 0 ∧ y ∉ s.stack) from hs v y hy rfl
      intro u y hy
      induction hy with
      | refl => intro e; subst e; exact .inl (by simp)
      | step _ ht ih =>
        intro e
        rcases ih e with hu | ⟨h1, h2⟩
        · obtain ⟨h3, h4⟩ := hC _ hu _ ht
          exact (Classical.em _).elim (fun hts => .inl (h4 hts)) (fun hts => .inr ⟨h3, hts⟩)
        · exact .inr ((h.ti.closed _ h1 h2).1 _ ht)
    have hE : ∀ u y, Pth out u y → s.seen u ≠ 0 → u ∉ s.stack → s.seen y ≠ 0 ∧ y ∉ s.stack := by
      intro u y hy
      induction hy with
      | refl => exact fun h1 h2 => ⟨h1, h2⟩
      | step _ ht ih => exact fun h1 h2 => (h.ti.closed _ (ih h1 h2).1 (ih h1 h2).2).1 _ ht
    have hF : ∀ y, Pth out v y → Pth out y v → y ∈ v :: T := by
      intro y h1 h2
      rcases hD y h1 with h3 | ⟨h3, h4⟩
      · exact h3
      · exact absurd hvm (hE y v h2 h3 h4).2
    have hmin : minL v T ∈ v :: T := by
      rcases minL_mem v T with e | e
      · rw [e]; simp
      · exact List.mem_cons_of_mem _ e
    have hleast : ∀ x ∈ v :: T, Least out x (minL v T) := fun x hx => ⟨(hA x hx).trans (hB _ hmin), (hA _ hmin).trans (hB x hx), fun y h1 h2 => by
      have hy := hF y ((hB x hx).trans h1) (h2.trans (hA x hx))
      obtain ⟨h3, h4⟩ := minL_le_all v T
      rcases List.mem_cons.1 hy with rfl | hy
      · exact h3
      · exact h4 y hy⟩
    have hvT : v ∉ T := fun e => (h.new v e).2 rfl
    rw [popF_eq n v s s0.stack T h.stk hvT]
    have lx : ∀ x, x ∉ v :: T → (popS n s0.stack v T s).low x = s.low x := fun x hx => if_neg hx
    have lp : ∀ x, x ∈ v :: T → (popS n s0.stack v T s).low x = n + 1 := fun x hx => if_pos hx
    have hx' : ∀ x, x ∉ v :: T → (popS n s0.stack v T s).head x = s.head x := fun x hx => if_neg hx
    have hp' : ∀ x, x ∈ v :: T → (popS n s0.stack v T s).head x = minL v T := fun x hx => if_pos hx
    have hnd := h.ti.lt.nd
    have hin := h.ti.inc
    rw [h.stk, List.nodup_append] at hnd
    rw [h.stk, List.pairwise_append] at hin
    refine ⟨⟨⟨h.ti.lt.at0, h.ti.lt.cnt, fun x hx => h.ti.lt.stk x ((hmem x).2 (.inl hx)), hnd.1⟩, h.ti.pos, h.ti.rng, hin.1, h0.gray, fun x hx hG t ht => ?_, fun x hx hxs => ?_, fun x hx => ?_, fun g hg y hy hle => h.ti.down g (.inl hg) y ((hmem y).2 (.inl hy)) hle, fun x hx => ?_⟩, ⟨[], by simp [popS], by simp, by simp⟩, fun x hx => ⟨(h.keep x hx).1, ?_⟩, hsv⟩
    · refine ⟨(hbl x hx hG t ht).1, fun hxs hts => ?_⟩
      rw [lx x (hdis x hxs)]
      exact (hbl x hx hG t ht).2 ((hmem x).2 (.inl hxs)) ((hmem t).2 (.inl hts))
    · by_cases hxT : x ∈ v :: T
      · refine ⟨fun t ht => ⟨(hC x hxT t ht).1, fun ht0 => hdis t ht0 ((hC x hxT t ht).2 ((hmem t).2 (.inl ht0)))⟩, lp x hxT, minL v T, hp' x hxT, hleast x hxT⟩
      · obtain ⟨h1, h2, h3⟩ := h.ti.closed x hx (fun e => ((hmem x).1 e).elim hxs hxT)
        exact ⟨fun t ht => ⟨(h1 t ht).1, fun ht0 => (h1 t ht).2 ((hmem t).2 (.inl ht0))⟩, by rw [lx x hxT]; exact h2, by rw [hx' x hxT]; exact h3⟩
    · obtain ⟨g, hg, hle, hp⟩ := h.ti.up x ((hmem x).2 (.inl hx))
      rcases hg with hg | rfl
      · exact ⟨g, hg, hle, hp⟩
      · have := (hpre x hx).1; omega
    · obtain ⟨y, hy, hp, h1, h2⟩ := h.ti.low x ((hmem x).2 (.inl hx))
      refine ⟨y, ?_, hp, by rw [lx x (hdis x hx)]; exact h1, by rw [lx x (hdis x hx)]; exact h2⟩
      rcases (hmem y).1 hy with hy | hy
      · exact hy
      · have := hge y hy
        have := (hpre x hx).1
        omega
    · rw [lx x (fun e => hx (hnew x e))]
      exact (h.keep x hx).2
  · rename_i hne
    obtain ⟨y, hy, hpy, h1, h2⟩ := h.ti.low v hvm
    obtain ⟨g, hg, hle, hpg⟩ := h.ti.up y hy
    have hgv : G g := by
      rcases hg with hg | rfl
      · exact hg
      · omega
    have hW := hgt g hgv
    refine ⟨⟨h.ti.lt, h.ti.pos, h.ti.rng, h.ti.inc, fun g hg => h.ti.gray g (.inl hg), hbl, h.ti.closed, fun x hx => ?_, fun g hg => h.ti.down g (.inl hg), h.ti.low⟩, ⟨v :: T, h.stk, hnew, hlv⟩, h.keep, hsv⟩
    obtain ⟨g', hg', hle', hp'⟩ := h.ti.up x hx
    rcases hg' with hg' | rfl
    · exact ⟨g', hg', hle', hp'⟩
    · exact ⟨g, hgv, by omega, hp'.trans (hpy.trans hpg)⟩
/-- One arc. -/
theorem MB.step {f : Nat} {vis : Nat → TS → TS} (ho : ∀ v < n, ∀ t ∈ out v, t < n)
    (ih : ∀ (t : Nat) (s : TS) (G : Nat → Prop), TI out n G s → t < n → s.seen t = 0 → unseen n s ≤ f → (∀ g, G g → Pth out g t) → VQ out n G t s (vis t s))
    (hv : v < n) (h0 : TI out n G s0) (hu : unseen n (pushS v s0) ≤ f) (ht : t ∈ out v) (h : MB out n G v s0 ds T s) (hl : ∀ x ∈ T, s.low v ≤ s.low x) :
    ∃ T', MB out n G v s0 (ds ++ [t]) T' (stepS vis v s t) ∧ ∀ x ∈ T', (stepS vis v s t).low v ≤ (stepS vis v s t).low x := by
  have hvm : v ∈ s.stack := by rw [h.stk]; simp
  have hsv : s.seen v ≠ 0 := (h.ti.lt.stk v hvm).2
  unfold stepS
  by_cases hst : s.seen t = 0
  · rw [if_pos hst]
    have hle : unseen n s ≤ f := by
      refine Nat.le_trans (unseen_le fun x hx => ?_) hu
      by_cases e : x = v
      · rw [e]; exact hsv
      · have hx0 : s0.seen x ≠ 0 := by simpa [pushS, upd, e] using hx
        rw [(h.keep x hx0).1]
        exact hx0
    have hq := ih t s _ h.ti (ho v hv t ht) hst hle (fun g hg => by
      refine Pth.trans ?_ (Pth.arc ht)
      rcases hg with hg | rfl
      · exact h.ti.down g (.inl hg) v hvm (Int.le_of_lt (h.ord.1 g (h0.gray g hg)).1)
      · exact .refl g)
    obtain ⟨U, hU, hU0, hUl⟩ := hq.ext
    have hTs : ∀ x ∈ T, s.seen x ≠ 0 := fun x hx => (h.ti.lt.stk x (by rw [h.stk]; simp [hx])).2
    have hb : MB out n G v s0 ds (T ++ U) (vis t s) := by
      refine ⟨hq.ti, by rw [hU, h.stk]; simp, fun x hx => ?_, fun x hx => ?_, fun u hu => ?_, h.v0⟩
      · rcases List.mem_append.1 hx with hx | hx
        · exact h.new x hx
        · have hx0 := hU0 x hx
          refine ⟨Classical.byContradiction fun e => e ?_, fun e => hsv (by rw [← e]; exact hx0)⟩
          rw [← (h.keep x e).1]
          exact hx0
      · obtain ⟨h1, h2⟩ := h.keep x hx
        obtain ⟨h3, h4⟩ := hq.keep x (by rw [h1]; exact hx)
        exact ⟨h3.trans h1, h4.trans h2⟩
      · obtain ⟨h1, h2⟩ := h.arcs u hu
        obtain ⟨h3, h4⟩ := hq.keep u h1
        refine ⟨by rw [h3]; exact h1, fun hus => ?_⟩
        rw [(hq.keep v hsv).2, h3]
        refine h2 ?_
        rw [hU] at hus
        rcases List.mem_append.1 hus with hus | hus
        · exact hus
        · exact absurd (hU0 u hus) h1
    refine ⟨T ++ U, hb.lower ht hq.seen fun x hx => ?_⟩
    rcases List.mem_append.1 hx with hx | hx
    · rw [(hq.keep v hsv).2, (hq.keep x (hTs x hx)).2]
      exact Int.le_trans (Int.min_le_left _ _) (hl x hx)
    · exact Int.le_trans (Int.min_le_right _ _) (hUl x hx)
  · rw [if_neg hst]
    exact ⟨T, h.lower ht hst fun x hx => Int.le_trans (Int.min_le_left _ _) (hl x hx)⟩
theorem MB.fold {f : Nat} {vis : Nat → TS → TS} (ho : ∀ v < n, ∀ t ∈ out v, t < n)
    (ih : ∀ (t : Nat) (s : TS) (G : Nat → Prop), TI out n G s → t < n → s.seen t = 0 → unseen n s ≤ f → (∀ g, G g → Pth out g t) → VQ out n G t s (vis t s))
    (hv : v < n) (h0 : TI out n G s0) (hu : unseen n (pushS v s0) ≤ f) : ∀ (ts ds T : List Nat) (s : TS), (∀ t ∈ ts, t ∈ out v) → MB out n G v s0 ds T s → (∀ x ∈ T, s.low v ≤ s.low x) →
    ∃ T', MB out n G v s0 (ds ++ ts) T' (ts.foldl (stepS vis v) s) ∧ ∀ x ∈ T', (ts.foldl (stepS vis v) s).low v ≤ (ts.foldl (stepS vis v) s).low x
  | [], ds, T, s, _, h, hl => ⟨T, by simpa using h, hl⟩
  | t :: ts, ds, T, s, hts, h, hl => by
    obtain ⟨T', h', hl'⟩ := MB.step ho ih hv h0 hu (hts t (by simp)) h hl
    have := MB.fold ho ih hv h0 hu ts (ds ++ [t]) T' _ (fun x hx => hts x (List.mem_cons_of_mem _ hx)) h' hl'
    simpa using this
theorem visit_ti (ho : ∀ v < n, ∀ t ∈ out v, t < n) : ∀ (f v : Nat) (s : TS) (G : Nat → Prop), TI out n G s → v < n → s.seen v = 0 → unseen n s ≤ f → (∀ g, G g → Pth out g v) → VQ out n G v s (visit out n f v s) := by
  intro f
  induction f with
  | zero =>
    intro v s G h hv hs hu hg
    have := unseen_push hv hs h.lt.at0
    omega
  | succ f ih =>
    intro v s G h hv hs hu hg
    have h1 := unseen_push hv hs h.lt.at0
    obtain ⟨T, hm, hl⟩ := MB.fold ho ih hv h (by omega) (out v) [] [] _ (fun t ht => ht) (h.push hv hs hg) (by simp)
    exact MB.fin h hm hl
end
end Go.Proofs.YtnhnckhjcnjacaaSg
