/- The representation of a Cache: its ring, its items' cells, its map. No statement is proved here. -/
import Derived.Test.YtdjkheiakkhngaaGreatDoorKwMap
import Derived.Test.YtdjkheiakkhngaaGreatDoorKwRing
import Derived.LaidEql
namespace Go.Proofs.YtdjkheiakkhngaaGreatDoorKw
open Go Go.RowKit
set_option linter.unusedVariables false
set_option linter.unusedSimpArgs false
set_option linter.unusedSectionVars false

section
variable {K : Type} [DecidableEq K] {kind : TypeDesc} (E : Enc K kind)

def ptr (b : Nat) : Value := .pointer (some ⟨b, 0, none⟩)
/-- All of a Cache but the ring: how many, the map, the items' keys and values. -/
structure Body (w : World) (bc bm : Nat) (most : Int) (L : List (Nat × K × Value)) : Prop where
  most : w.cell? ⟨bc, 0, none⟩ = some (.int .i64 most)
  map : w.cell? ⟨bc, 1, none⟩ = some (.map (some bm))
  items : ∀ n ∈ L, w.cell? ⟨n.1, 0, none⟩ = some (E.enc n.2.1) ∧ w.cell? ⟨n.1, 1, none⟩ = some n.2.2
  mp : ∃ m, MapIs E w bm m ∧ m.Perm (L.map fun n => (n.2.1, ptr n.1))
  keys : (L.map (·.2.1)).Nodup
structure CacheR (w : World) (bc bm : Nat) (most : Int) (L : List (Nat × K × Value)) : Prop where
  ring : Ring w bc (L.map (·.1))
  body : Body E w bc bm most L

theorem perm_find {m m' : List (K × Value)} (h : m.Perm m') : (m'.map (·.1)).Nodup → ∀ k, m.find? (fun p => decide (p.1 = k)) = m'.find? (fun p => decide (p.1 = k)) := by
  induction h with
  | nil => intro _ k; rfl
  | cons x _ ih =>
    intro hn k
    simp only [List.map_cons, List.nodup_cons] at hn
    simp only [List.find?_cons, ih hn.2 k]
  | swap x y l =>
    intro hn k
    simp only [List.map_cons, List.nodup_cons, List.mem_cons, not_or] at hn
    simp only [List.find?_cons]
    by_cases hx : x.1 = k
    · by_cases hy : y.1 = k
      · exact absurd (hx.trans hy.symm) hn.1.1
      · simp [hx, hy]
    · by_cases hy : y.1 = k <;> simp [hx, hy]
  | trans h1 h2 ih1 ih2 =>
    intro hn k
    rw [ih1 ((h2.map _).nodup_iff.2 hn) k, ih2 hn k]
theorem perm_erase {m m' : List (K × Value)} (h : m.Perm m') (hn : (m'.map (·.1)).Nodup) (k : K) (p : K × Value) (hf : m.find? (fun p => decide (p.1 = k)) = some p) :
    (m.eraseIdx (m.findIdx (fun p => decide (p.1 = k)))).Perm (m'.filter fun p => !decide (p.1 = k)) := by
  have key : ∀ (l : List (K × Value)), (l.map (·.1)).Nodup → l.eraseIdx (l.findIdx (fun p => decide (p.1 = k))) = l.filter fun p => !decide (p.1 = k) := by
    intro l
    induction l with
    | nil => intro _; rfl
    | cons x l ih =>
      intro hn
      simp only [List.map_cons, List.nodup_cons] at hn
      by_cases hx : x.1 = k
      · subst hx
        have : l.filter (fun p => !decide (p.1 = x.1)) = l := by
          rw [List.filter_eq_self]
          intro a ha
          have : a.1 ≠ x.1 := fun e => hn.1 (by rw [← e]; exact List.mem_map_of_mem ha)
          simp [this]
        simp [List.findIdx_cons, this]
      · simp [List.findIdx_cons, hx, ih hn.2]
  rw [key m ((h.map _).nodup_iff.2 hn)]
  exact h.filter _

/-- The worlds that keep a Body: the cells 0 and 1 of each block, and the map. -/
theorem Body.keep {w w' : World} {bc bm : Nat} {most : Int} {L : List (Nat × K × Value)} (h : Body E w bc bm most L) (h1 : ∀ b o v, o < 2 → (b = bc ∨ b ∈ L.map (·.1)) → w.cell? ⟨b, o, none⟩ = some v → w'.cell? ⟨b, o, none⟩ = some v) (h2 : w'.heap[bm]? = w.heap[bm]?) :
    Body E w' bc bm most L where
  most := h1 _ _ _ (by omega) (.inl rfl) h.most
  map := h1 _ _ _ (by omega) (.inl rfl) h.map
  items n hn := ⟨h1 _ _ _ (by omega) (.inr (List.mem_map_of_mem hn)) (h.items n hn).1, h1 _ _ _ (by omega) (.inr (List.mem_map_of_mem hn)) (h.items n hn).2⟩
  mp := by
    obtain ⟨m, ⟨es, clock, hb, he⟩, hp⟩ := h.mp
    exact ⟨m, ⟨es, clock, by rw [h2]; exact hb, he⟩, hp⟩
  keys := h.keys

theorem heap_map_setCell {w : World} {b : Nat} {es : Array MapEntry} {clock : Nat} (h : w.heap[b]? = some (.map es clock)) (a : Addr) (v : Value) : (w.setCell a v).heap[b]? = w.heap[b]? := by
  simp only [World.setCell, Array.getElem?_modify]
  split
  · rw [h]; rfl
  · rfl
theorem mapIs_setCell {w : World} {b : Nat} {m : List (K × Value)} (h : MapIs E w b m) (a : Addr) (v : Value) : (w.setCell a v).heap[b]? = w.heap[b]? := by
  obtain ⟨es, clock, hb, _⟩ := h
  exact heap_map_setCell hb a v
/-- A store from cell 2 on. -/
theorem Body.setCell {w : World} {bc bm : Nat} {most : Int} {L : List (Nat × K × Value)} (h : Body E w bc bm most L) (a : Addr) (v : Value) (ha : 2 ≤ a.off) : Body E (w.setCell a v) bc bm most L := by
  obtain ⟨m, hm, _⟩ := h.mp
  exact h.keep E (fun b o u ho _ hu => by rw [World.cell?_setCell_other _ _ _ _ (fun e => by rw [e] at ha; simp at ha; omega)]; exact hu) (mapIs_setCell E hm a v)
theorem Body.drewN {w : World} {bc bm : Nat} {most : Int} {L : List (Nat × K × Value)} (h : Body E w bc bm most L) (n : Nat) : Body E (w.drewN n) bc bm most L :=
  h.keep E (fun _ _ _ _ _ hu => hu) rfl
theorem block_lt {w : World} {b o : Nat} {v : Value} (h : w.cell? ⟨b, o, none⟩ = some v) : b < w.heap.size := World.block_lt_of_cell? w _ h
theorem Body.map_lt {w : World} {bc bm : Nat} {most : Int} {L : List (Nat × K × Value)} (h : Body E w bc bm most L) : bm < w.heap.size := by
  obtain ⟨m, ⟨es, clock, hb, _⟩, _⟩ := h.mp
  exact (Array.getElem?_eq_some_iff.1 hb).1
theorem cell_ne_map {w : World} {b bm o : Nat} {v : Value} {es : Array MapEntry} {clock : Nat} (h : w.cell? ⟨b, o, none⟩ = some v) (hb : w.heap[bm]? = some (.map es clock)) : b ≠ bm := by
  rintro rfl
  simp [World.cell?, hb] at h
theorem Body.ne_map {w : World} {bc bm : Nat} {most : Int} {L : List (Nat × K × Value)} (h : Body E w bc bm most L) : bc ≠ bm ∧ ∀ b ∈ L.map (·.1), b ≠ bm := by
  obtain ⟨m, ⟨es, clock, hb, _⟩, _⟩ := h.mp
  refine ⟨cell_ne_map h.most hb, fun b hbm => ?_⟩
  obtain ⟨n, hn, rfl⟩ := List.mem_map.1 hbm
  exact cell_ne_map (h.items n hn).1 hb
/-- Another order of the items. -/
theorem Body.perm {w : World} {bc bm : Nat} {most : Int} {L L' : List (Nat × K × Value)} (h : Body E w bc bm most L) (hp : L.Perm L') : Body E w bc bm most L' where
  most := h.most
  map := h.map
  items n hn := h.items n (hp.mem_iff.2 hn)
  mp := by obtain ⟨m, hm, hq⟩ := h.mp; exact ⟨m, hm, hq.trans (hp.map _)⟩
  keys := (hp.map _).nodup_iff.1 h.keys

/-- What the Cache's own blocks are. -/
def Own (bc bm : Nat) (L : List (Nat × K × Value)) (k : Nat) : Prop := k = bc ∨ k = bm ∨ k ∈ L.map (·.1)
theorem CacheR.lt {w : World} {bc bm : Nat} {most : Int} {L : List (Nat × K × Value)} (h : CacheR E w bc bm most L) (k : Nat) (hk : Own bc bm L k) : k < w.heap.size := by
  rcases hk with rfl | rfl | hk
  · exact block_lt h.body.most
  · exact h.body.map_lt E
  · obtain ⟨n, hn, rfl⟩ := List.mem_map.1 hk
    exact block_lt (h.body.items n hn).1
/-- Other blocks have been written. -/
theorem CacheR.keep {w w' : World} {bc bm : Nat} {most : Int} {L : List (Nat × K × Value)} (h : CacheR E w bc bm most L) {S : Nat → Prop} (ht : Tch S w w') (hS : ∀ k, Own bc bm L k → ¬ S k) : CacheR E w' bc bm most L := by
  have hlt := h.lt E
  have hc : ∀ b, Own bc bm L b → ∀ o, w'.cell? ⟨b, o, none⟩ = w.cell? ⟨b, o, none⟩ := fun b hb o => ht.cell (p := ⟨b, o, none⟩) (hlt b hb) (hS b hb)
  have hf : ∀ b, Own bc bm L b → ∀ o, w'.frozen? ⟨b, o, none⟩ = w.frozen? ⟨b, o, none⟩ := fun b hb o => ht.frozen (p := ⟨b, o, none⟩) (hlt b hb) (hS b hb)
  have own : ∀ b ∈ bc :: L.map (·.1), Own bc bm L b := fun b hb => by
    rcases List.mem_cons.1 hb with rfl | hb
    · exact .inl rfl
    · exact .inr (.inr hb)
  refine ⟨⟨?_, fun b hb o => by rw [hf b (own b hb) o]; exact h.ring.free b hb o, h.ring.nodup⟩, h.body.keep E (fun b o v _ hb hv => ?_) (ht.block bm (hlt bm (.inr (.inl rfl))) (hS bm (.inr (.inl rfl))))⟩
  · refine Adj.imp h.ring.adj fun a ha b hb hl => ?_
    have ha' := (nd_form (List.dropLast_subset _ ha))
    have hb' := (nd_form (List.mem_of_mem_tail hb))
    obtain ⟨oa, ea, ma⟩ := ha'
    obtain ⟨ob, eb, mb⟩ := hb'
    exact ⟨by unfold nx; rw [hc _ (own _ ma)]; exact hl.1, by unfold pv; rw [hc _ (own _ mb)]; exact hl.2⟩
  · rw [hc b (own b (by rcases hb with rfl | hb <;> simp [*])) o]; exact hv

/-- The world behind a cut. -/
def cutW (w : World) (bp op bn on : Nat) : World := (w.setCell ⟨bp, op + 3, none⟩ (.pointer (some ⟨bn, on, none⟩))).setCell ⟨bn, on + 2, none⟩ (.pointer (some ⟨bp, op, none⟩))
theorem cutW_cell (w : World) (bp op bn on b o : Nat) (hb : (bp ≠ b ∧ bn ≠ b) ∨ o < 2) : (cutW w bp op bn on).cell? ⟨b, o, none⟩ = w.cell? ⟨b, o, none⟩ := by
  unfold cutW
  rw [World.cell?_setCell_other _ _ _ _ (by simp; omega), World.cell?_setCell_other _ _ _ _ (by simp; omega)]
theorem cutW_touch (w : World) (bp op bn on : Nat) (S : Nat → Prop) (h1 : S bp) (h2 : S bn) : Tch S w (cutW w bp op bn on) := ((Tch.refl S w).setCell h1 _).setCell h2 _
theorem cutW_frozen (w : World) (bp op bn on : Nat) (a : Addr) : (cutW w bp op bn on).frozen? a = w.frozen? a := by unfold cutW; rw [frozen_setCell, frozen_setCell]
theorem Body.cutW {w : World} {bc bm : Nat} {most : Int} {L : List (Nat × K × Value)} (h : Body E w bc bm most L) (bp op bn on : Nat) : Body E (cutW w bp op bn on) bc bm most L :=
  (h.setCell E _ _ (by simp)).setCell E _ _ (by simp)
/-- The world behind a new first one. -/
def frontW (w : World) (bc bx bf of : Nat) : World := (((w.setCell ⟨bx, 2, none⟩ (.pointer (some ⟨bc, 2, none⟩))).setCell ⟨bx, 3, none⟩ (.pointer (some ⟨bf, of, none⟩))).setCell ⟨bf, of + 2, none⟩ (.pointer (some ⟨bx, 0, none⟩))).setCell ⟨bc, 5, none⟩ (.pointer (some ⟨bx, 0, none⟩))
theorem frontW_cell (w : World) (bc bx bf of b o : Nat) (ho : o < 2) : (frontW w bc bx bf of).cell? ⟨b, o, none⟩ = w.cell? ⟨b, o, none⟩ := by
  unfold frontW
  iterate 4 rw [World.cell?_setCell_other _ _ _ _ (by intro e; simp only [Addr.mk.injEq] at e; omega)]
theorem frontW_touch (w : World) (bc bx bf of : Nat) (S : Nat → Prop) (h1 : S bc) (h2 : S bx) (h3 : S bf) : Tch S w (frontW w bc bx bf of) := ((((Tch.refl S w).setCell h2 _).setCell h2 _).setCell h3 _).setCell h1 _
theorem frontW_frozen (w : World) (bc bx bf of : Nat) (a : Addr) : (frontW w bc bx bf of).frozen? a = w.frozen? a := by unfold frontW; rw [frozen_setCell, frozen_setCell, frozen_setCell, frozen_setCell]
theorem Body.frontW {w : World} {bc bm : Nat} {most : Int} {L : List (Nat × K × Value)} (h : Body E w bc bm most L) (bx bf of : Nat) : Body E (frontW w bc bx bf of) bc bm most L :=
  (((h.setCell E _ _ (by simp)).setCell E _ _ (by simp)).setCell E _ _ (by simp)).setCell E _ _ (by simp)

theorem find_split {α : Type} (p : α → Bool) {l : List α} {x : α} (h : l.find? p = some x) : ∃ l1 l2, l = l1 ++ x :: l2 ∧ p x = true ∧ ∀ y ∈ l1, p y = false := by
  obtain ⟨hx, l1, l2, e, h2⟩ := List.find?_eq_some_iff_append.1 h
  exact ⟨l1, l2, e, hx, fun y hy => by simpa using h2 y hy⟩
/-- What the map answers. -/
theorem Body.find {w : World} {bc bm : Nat} {most : Int} {L : List (Nat × K × Value)} (h : Body E w bc bm most L) (k : K) :
    ∃ m, MapIs E w bm m ∧ (m.map (·.1)).Nodup ∧ m.Perm (L.map fun n => (n.2.1, ptr n.1)) ∧ m.find? (fun p => decide (p.1 = k)) = (L.find? (fun n => decide (n.2.1 = k))).map fun n => (n.2.1, ptr n.1) := by
  obtain ⟨m, hm, hp⟩ := h.mp
  have hk : ((L.map fun n => (n.2.1, ptr n.1)).map (·.1)).Nodup := by
    rw [List.map_map]
    exact h.keys
  refine ⟨m, hm, ((hp.map _).nodup_iff.2 hk), hp, ?_⟩
  rw [perm_find hp hk k]
  induction L with
  | nil => rfl
  | cons n L ih =>
    clear ih hk hp hm h
    simp only [List.map_cons, List.find?_cons]
    by_cases hn : n.2.1 = k
    · simp [hn]
    · simp only [hn, decide_false]
      rw [List.find?_map]
      rfl
theorem nodup_mid {L1 L2 : List (Nat × K × Value)} {n : Nat × K × Value} (h : ((L1 ++ n :: L2).map (·.2.1)).Nodup) : ∀ m ∈ L1 ++ L2, m.2.1 ≠ n.2.1 := by
  simp only [List.map_append, List.map_cons, List.nodup_append, List.nodup_cons] at h
  intro m hm e
  rcases List.mem_append.1 hm with hm | hm
  · exact h.2.2 m.2.1 (List.mem_map_of_mem hm) n.2.1 (by simp) e
  · exact h.2.1.1 (by rw [← e]; exact List.mem_map_of_mem hm)

theorem Ring.heap {w w' : World} {bc : Nat} {bs : List Nat} (h : Ring w bc bs) (hc : ∀ b ∈ bc :: bs, ∀ o v, 2 ≤ o → w.cell? ⟨b, o, none⟩ = some v → w'.cell? ⟨b, o, none⟩ = some v) (hf : ∀ b ∈ bc :: bs, ∀ o, w'.frozen? ⟨b, o, none⟩ = w.frozen? ⟨b, o, none⟩) : Ring w' bc bs := by
  refine ⟨?_, fun b hb o => by rw [hf b hb o]; exact h.free b hb o, h.nodup⟩
  refine Adj.imp h.adj fun a ha b hb hl => ?_
  obtain ⟨oa, ea, ma⟩ := nd_form (List.dropLast_subset _ ha)
  obtain ⟨ob, eb, mb⟩ := nd_form (List.mem_of_mem_tail hb)
  exact ⟨hc _ ma _ _ (by omega) hl.1, hc _ mb _ _ (by omega) hl.2⟩
theorem Ring.setCell_out {w : World} {bc : Nat} {bs : List Nat} (h : Ring w bc bs) {b : Nat} (hb : b ∉ bc :: bs) (o : Nat) (v : Value) : Ring (w.setCell ⟨b, o, none⟩ v) bc bs :=
  h.heap (fun c hc o' u _ hu => by rw [World.cell?_setCell_other _ _ _ _ (by intro e; simp only [Addr.mk.injEq] at e; exact hb (e.1 ▸ hc))]; exact hu) (fun _ _ _ => frozen_setCell ..)
theorem Ring.last {w : World} {bc : Nat} {l : List Nat} {b : Nat} (h : Ring w bc (l ++ [b])) : w.cell? ⟨bc, 4, none⟩ = some (.pointer (some ⟨b, 0, none⟩)) := by
  have hadj := h.adj
  have e : cyc bc (l ++ [b]) = (R bc :: l.map nd) ++ nd b :: [R bc] := by simp [cyc]
  rw [e] at hadj
  exact ((adj_append (nd b) [R bc] (R bc :: l.map nd)).1 hadj).2.1.2
theorem Ring.first {w : World} {bc : Nat} {bs : List Nat} (h : Ring w bc bs) : w.cell? ⟨bc, 5, none⟩ = some (.pointer (some ((bs.map nd ++ [R bc]).headD (R bc)))) := by
  have hadj := h.adj
  cases bs with
  | nil => exact hadj.1.1
  | cons b l => exact hadj.1.1
theorem Ring.next {w : World} {bc : Nat} {l1 l2 : List Nat} {b : Nat} (h : Ring w bc (l1 ++ b :: l2)) : w.cell? ⟨b, 3, none⟩ = some (.pointer (some ((l2.map nd ++ [R bc]).headD (R bc)))) := by
  obtain ⟨_, _, _, _, _, _, _, h1, _, _, _, _, _, _, _, _, _, h2, _⟩ := h.cut
  rw [← h2]; exact h1

theorem setMap_cell {w : World} {bm : Nat} {es : Array MapEntry} {clock : Nat} (hb : w.heap[bm]? = some (.map es clock)) (o : Obj) {a : Addr} {v : Value} (h : w.cell? a = some v) : (setMap w bm o).cell? a = some v := by
  have hne : a.block ≠ bm := by
    intro e
    simp [World.cell?, e, hb] at h
  simp only [World.cell?, setMap] at h ⊢
  rw [Array.getElem?_setIfInBounds_ne (Ne.symm hne)]
  exact h
theorem setMap_frozen {w : World} {bm : Nat} {es : Array MapEntry} {clock : Nat} (hb : w.heap[bm]? = some (.map es clock)) (o : Obj) {a : Addr} (hne : a.block ≠ bm) : (setMap w bm o).frozen? a = w.frozen? a := by
  simp only [World.frozen?, setMap]
  rw [Array.getElem?_setIfInBounds_ne (Ne.symm hne)]
theorem setMap_tch (w : World) (bm : Nat) (o : Obj) (S : Nat → Prop) (h : S bm) : Tch S w (setMap w bm o) :=
  ⟨rfl, rfl, rfl, by simp [setMap], fun k hk hn => by
    simp only [setMap]
    rw [Array.getElem?_setIfInBounds_ne (fun e : bm = k => hn (by rw [← e]; exact h))]⟩

/-- A value written. -/
theorem Body.setVal {w : World} {bc bm : Nat} {most : Int} {l1 l2 : List (Nat × K × Value)} {b : Nat} {k : K} {v0 : Value} (h : Body E w bc bm most (l1 ++ (b, k, v0) :: l2)) (hn : (bc :: (l1 ++ (b, k, v0) :: l2).map (·.1)).Nodup) (v : Value) :
    Body E (w.setCell ⟨b, 1, none⟩ v) bc bm most (l1 ++ (b, k, v) :: l2) := by
  have hb : ∀ n ∈ l1 ++ l2, n.1 ≠ b := by
    intro n hn' e
    simp only [List.map_append, List.map_cons, List.nodup_cons, List.nodup_append] at hn
    rcases List.mem_append.1 hn' with hm | hm
    · exact hn.2.2.2 n.1 (List.mem_map_of_mem hm) b (by simp) e
    · exact hn.2.2.1.1 (by rw [← e]; exact List.mem_map_of_mem hm)
  have hc : bc ≠ b := by
    rintro rfl
    simp at hn
  obtain ⟨m, hm, hp⟩ := h.mp
  have hit := h.items (b, k, v0) (by simp)
  have oth : ∀ c o, c ≠ b → (w.setCell ⟨b, 1, none⟩ v).cell? ⟨c, o, none⟩ = w.cell? ⟨c, o, none⟩ := fun c o hne => World.cell?_setCell_other _ _ _ _ (by intro e; simp only [Addr.mk.injEq] at e; exact hne e.1.symm)
  refine ⟨by rw [oth _ _ hc]; exact h.most, by rw [oth _ _ hc]; exact h.map, fun n hn' => ?_, ⟨m, ?_, by simpa using hp⟩, by simpa using h.keys⟩
  · rcases List.mem_append.1 hn' with hm | hm
    · rw [oth _ _ (hb n (by simp [hm])), oth _ _ (hb n (by simp [hm]))]
      exact h.items n (by simp [hm])
    · rcases List.mem_cons.1 hm with rfl | hm
      · refine ⟨?_, World.cell?_setCell_same _ _ _ hit.2⟩
        rw [World.cell?_setCell_other _ _ _ _ (by simp)]
        exact hit.1
      · rw [oth _ _ (hb n (by simp [hm])), oth _ _ (hb n (by simp [hm]))]
        exact h.items n (by simp [hm])
  · obtain ⟨es, clock, h1, h2⟩ := hm
    exact ⟨es, clock, by rw [heap_map_setCell h1]; exact h1, h2⟩
theorem Body.length {w : World} {bc bm : Nat} {most : Int} {L : List (Nat × K × Value)} (h : Body E w bc bm most L) : ∃ m, MapIs E w bm m ∧ m.length = L.length := by
  obtain ⟨m, hm, hp⟩ := h.mp
  exact ⟨m, hm, by have := hp.length_eq; simpa using this⟩
theorem Body.len {P : Program} {w : World} {bc bm : Nat} {most : Int} {L : List (Nat × K × Value)} (h : Body E w bc bm most L) {T kt et : TypeId} (hm : P.underlying T = some (.map kt et)) (ty : TypeId) (n : Nat) :
    (Builtin.len_ #[T] ty #[.map (some bm)]).run P (w.drewN n) = .ok (.int .i64 L.length) (w.drewN n) := by
  obtain ⟨m, ⟨es, clock, hb, he⟩, hl⟩ := h.length E
  have : MapIs E (w.drewN n) bm m := ⟨es, clock, hb, he⟩
  have := map_len E (P := P) this hm ty
  rw [hl] at this
  exact this
theorem Body.len0 {P : Program} {w : World} {bc bm : Nat} {most : Int} {L : List (Nat × K × Value)} (h : Body E w bc bm most L) {T kt et : TypeId} (hm : P.underlying T = some (.map kt et)) (ty : TypeId) :
    (Builtin.len_ #[T] ty #[.map (some bm)]).run P w = .ok (.int .i64 L.length) w := h.len E hm ty 0
/-- An item taken off the map. -/
theorem Body.delete {P : Program} {w : World} {bc bm : Nat} {most : Int} {l1 l2 : List (Nat × K × Value)} {b : Nat} {k : K} {v : Value} (h : Body E w bc bm most (l1 ++ (b, k, v) :: l2)) {T kt et : TypeId} (hm : P.underlying T = some (.map kt et)) (hk : P.underlying kt = some kind) (ty t2 : TypeId) :
    ∃ o, (Builtin.delete_ #[T, t2] ty #[.map (some bm), E.enc k]).run P w = .ok (.tuple #[]) (setMap w bm o) ∧ Body E (setMap w bm o) bc bm most (l1 ++ l2) := by
  obtain ⟨m, hM, hmn, hmp, hfind⟩ := h.find E k
  obtain ⟨o, hrun, hM'⟩ := map_delete E (P := P) hM hm hk k ty t2
  have hL : (l1 ++ (b, k, v) :: l2).find? (fun n => decide (n.2.1 = k)) = some (b, k, v) := by
    rw [List.find?_append]
    have : l1.find? (fun p => decide (p.2.1 = k)) = none := by
      rw [List.find?_eq_none]
      intro x hx
      have := nodup_mid h.keys x (by simp [hx])
      simpa using this
    rw [this]
    simp
  rw [hL] at hfind
  have hfind' : m.find? (fun p => decide (p.1 = k)) = some (k, ptr b) := hfind
  rw [hfind'] at hM'
  simp only [Option.isSome_some, if_true] at hM'
  have hkeys := h.keys
  have hmid := nodup_mid hkeys
  have hnk : ((((l1 ++ (b, k, v) :: l2).map fun n => (n.2.1, ptr n.1))).map (·.1)).Nodup := by rw [List.map_map]; exact hkeys
  have hpe := perm_erase hmp hnk k (k, ptr b) hfind'
  have hfil : (((l1 ++ (b, k, v) :: l2).map fun n => (n.2.1, ptr n.1)).filter fun p => !decide (p.1 = k)) = (l1 ++ l2).map fun n => (n.2.1, ptr n.1) := by
    have hall : ∀ l : List (Nat × K × Value), (∀ x ∈ l, x.2.1 ≠ k) → (l.map fun n => (n.2.1, ptr n.1)).filter (fun p => !decide (p.1 = k)) = l.map fun n => (n.2.1, ptr n.1) := by
      intro l hl
      rw [List.filter_eq_self]
      intro a ha
      obtain ⟨n, hn, rfl⟩ := List.mem_map.1 ha
      simp [hl n hn]
    rw [List.map_append, List.filter_append, hall l1 (fun x hx => hmid x (by simp [hx])), List.map_cons, List.filter_cons]
    simp only [decide_true, Bool.not_true, Bool.false_eq_true, if_false]
    rw [hall l2 (fun x hx => hmid x (by simp [hx])), List.map_append]
  rw [hfil] at hpe
  obtain ⟨es, clock, hb, he⟩ := hM
  refine ⟨o, hrun, setMap_cell hb o h.most, setMap_cell hb o h.map, fun n hn => ?_, ⟨_, hM', hpe⟩, ?_⟩
  · have := h.items n (by rcases List.mem_append.1 hn with h1 | h1 <;> simp [h1])
    exact ⟨setMap_cell hb o this.1, setMap_cell hb o this.2⟩
  · simp only [List.map_append, List.map_cons, List.nodup_append, List.nodup_cons] at hkeys ⊢
    exact ⟨hkeys.1, hkeys.2.1.2, fun a ha c hc => hkeys.2.2 a ha c (by simp [hc])⟩
end

theorem run_sameAddr_free {P : Program} {w : World} {a b : Addr} {u v : Value} (hne : a.block ≠ b.block) (ha : w.cell? a = some u) (hb : w.cell? b = some v) (fa : ∀ o, w.frozen? ⟨a.block, o, none⟩ = false) (fb : ∀ o, w.frozen? ⟨b.block, o, none⟩ = false) :
    (sameAddr a b).run P w = .ok false w := by
  have hh : ∀ {x : Addr} {u : Value}, w.cell? x = some u → ∃ c t fr, w.heap[x.block]? = some (.cells c t fr) := by
    intro x u hx
    unfold World.cell? at hx
    split at hx
    · rename_i c t fr heq; exact ⟨c, t, fr, heq⟩
    · cases hx
  obtain ⟨ca, ta, fra, ea⟩ := hh ha
  obtain ⟨cb, tb, frb, eb⟩ := hh hb
  have f1 : ∀ o sp, w.frozen? ⟨a.block, o, sp⟩ = false := fun o sp => fa o
  have f2 : ∀ o sp, w.frozen? ⟨b.block, o, sp⟩ = false := fun o sp => fb o
  have g1 : w.frozen? a = false := f1 a.off a.spot
  have g2 : w.frozen? b = false := f2 b.off b.spot
  have s1 : w.shape? a.block = some (ta, ca.size) := by simp [World.shape?, ea]
  have s2 : w.shape? b.block = some (tb, cb.size) := by simp [World.shape?, eb]
  have hbne : (a.block == b.block) = false := by simp [hne]
  simp [sameAddr, hbne, g1, g2, noView, viewAt, s1, s2, mayBeOne, stringish, f1, f2]
theorem run_neq_ptr {P : Program} {w : World} {T e : TypeId} {a b : Addr} {u v : Value} (hT : P.underlying T = some (.pointer e)) {i : TypeInfo} (hi : P.info? e = some i) (hs : i.size ≠ 0) (hne : a.block ≠ b.block) (ha : w.cell? a = some u) (hb : w.cell? b = some v) (fa : ∀ o, w.frozen? ⟨a.block, o, none⟩ = false) (fb : ∀ o, w.frozen? ⟨b.block, o, none⟩ = false) :
    (binOp .neq T (.pointer (some a)) (.pointer (some b))).run P w = .ok (.bool true) w := by
  have h0 : ∀ d, (Op.equalIn (d + 1) T (.pointer (some a)) (.pointer (some b))).run P w = .ok false w := by
    intro d
    simp [Op.equalIn, run_underlying hT, sizeOf, typeInfo, hi, hs, run_sameAddr_free hne ha hb fa fb]
  have h1 : (Op.equal T (.pointer (some a)) (.pointer (some b))).run P w = .ok false w := h0 9999
  simp only [binOp]
  simp [h1]
theorem run_neq_self {P : Program} {w : World} {T e : TypeId} {a : Addr} (hT : P.underlying T = some (.pointer e)) {i : TypeInfo} (hi : P.info? e = some i) (hs : i.size ≠ 0) :
    (binOp .neq T (.pointer (some a)) (.pointer (some a))).run P w = .ok (.bool false) w := by
  have h0 : ∀ d, (Op.equalIn (d + 1) T (.pointer (some a)) (.pointer (some a))).run P w = .ok true w := by
    intro d
    simp [Op.equalIn, run_underlying hT, sizeOf, typeInfo, hi, hs, run_sameAddr_same]
  have h1 : (Op.equal T (.pointer (some a)) (.pointer (some a))).run P w = .ok true w := h0 9999
  simp only [binOp]
  simp [h1]

theorem run_eql_func_nil {P : Program} {w : World} {T : TypeId} {ps rs : Array TypeId} {v : Bool} (hT : P.underlying T = some (.func ps rs v)) (F : Fn) (a b : Array Value) :
    (binOp .eql T (.func F a b) .nilFunc).run P w = .ok (.bool false) w := by
  have h0 : ∀ d, (Op.equalIn (d + 1) T (.func F a b) .nilFunc).run P w = .ok false w := by
    intro d
    simp [Op.equalIn, run_underlying hT]
  have h1 : (Op.equal T (.func F a b) .nilFunc).run P w = .ok false w := h0 9999
  simp only [binOp]
  simp [h1]
end Go.Proofs.YtdjkheiakkhngaaGreatDoorKw
