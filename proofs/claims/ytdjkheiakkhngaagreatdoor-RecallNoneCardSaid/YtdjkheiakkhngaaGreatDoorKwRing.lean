/- Rings of blocks, linked both ways; what a cut and a new first item do to them; the representation of a Cache. No statement is proved here. -/
import Derived.WalkKit
import Derived.Lib.Hide
import Derived.Deep.Draws
namespace Go.Proofs.YtdjkheiakkhngaaGreatDoorKw
open Go Go.RowKit
set_option linter.unusedVariables false
set_option linter.unusedSimpArgs false

/-- Neighbours, one by one. -/
def Adj {α : Type} (R : α → α → Prop) : List α → Prop
  | a :: b :: l => R a b ∧ Adj R (b :: l)
  | _ => True
theorem Adj.imp {α : Type} {R R' : α → α → Prop} : ∀ {l : List α}, Adj R l → (∀ a ∈ l.dropLast, ∀ b ∈ l.tail, R a b → R' a b) → Adj R' l
  | [], _, _ => trivial
  | [_], _, _ => trivial
  | a :: b :: l, h, hi => ⟨hi a (by simp) b (by simp) h.1, Adj.imp h.2 fun x hx y hy r => hi x (by simp only [List.dropLast_cons_cons]; exact List.mem_cons_of_mem _ hx) y (by simp only [List.tail_cons] at hy ⊢; exact List.mem_cons_of_mem _ hy) r⟩
theorem adj_append {α : Type} {R : α → α → Prop} (a : α) (l2 : List α) : ∀ (l1 : List α), Adj R (l1 ++ a :: l2) ↔ Adj R (l1 ++ [a]) ∧ Adj R (a :: l2)
  | [] => by simp [Adj]
  | [x] => by simp [Adj]
  | x :: y :: l1 => by
    have := adj_append (R := R) a l2 (y :: l1)
    simp only [List.cons_append, Adj] at this ⊢
    rw [this, and_assoc]

def nx (a : Addr) : Addr := ⟨a.block, a.off + 3, none⟩
def pv (a : Addr) : Addr := ⟨a.block, a.off + 2, none⟩
def Lnk (w : World) (a b : Addr) : Prop := w.cell? (nx a) = some (.pointer (some b)) ∧ w.cell? (pv b) = some (.pointer (some a))

theorem nx_ne {a b : Addr} (h : a.block ≠ b.block) : nx a ≠ nx b := fun e => h (show (nx a).block = (nx b).block by rw [e])
theorem pv_ne {a b : Addr} (h : a.block ≠ b.block) : pv a ≠ pv b := fun e => h (show (pv a).block = (pv b).block by rw [e])
theorem nx_pv (a b : Addr) (h : a.block ≠ b.block ∨ a = b) : nx a ≠ pv b := fun e => by
  rcases h with h | rfl
  · exact h (show (nx a).block = (pv b).block by rw [e])
  · have := congrArg Addr.off e; simp [nx, pv] at this

/-- Nodes whose blocks are apart, or that are one. -/
def Apart (l : List Addr) : Prop := ∀ a ∈ l, ∀ b ∈ l, a.block = b.block → a = b
theorem Apart.nx_pv {l : List Addr} (h : Apart l) {a b : Addr} (ha : a ∈ l) (hb : b ∈ l) : nx a ≠ pv b := by
  by_cases e : a.block = b.block
  · exact Go.Proofs.YtdjkheiakkhngaaGreatDoorKw.nx_pv a b (.inr (h a ha b hb e))
  · exact Go.Proofs.YtdjkheiakkhngaaGreatDoorKw.nx_pv a b (.inl e)

/-- A cut: x leaves the ring. -/
theorem cut_ring {w w' : World} {c1 c2 : List Addr} {p x n : Addr} (hl : Adj (Lnk w) (c1 ++ p :: x :: n :: c2)) (hA : Apart (c1 ++ p :: x :: n :: c2))
    (hL : ((c1 ++ p :: x :: n :: c2).dropLast.map (·.block)).Nodup) (hR : ((c1 ++ p :: x :: n :: c2).tail.map (·.block)).Nodup)
    (h1 : w'.cell? (nx p) = some (.pointer (some n))) (h2 : w'.cell? (pv n) = some (.pointer (some p))) (h3 : ∀ q, q ≠ nx p → q ≠ pv n → w'.cell? q = w.cell? q) :
    Adj (Lnk w') (c1 ++ p :: n :: c2) := by
  rw [adj_append] at hl ⊢
  obtain ⟨ha, hb⟩ := hl
  have hc : Adj (Lnk w) (n :: c2) := hb.2.2
  have eL : (c1 ++ p :: x :: n :: c2).dropLast = c1 ++ p :: x :: (n :: c2).dropLast := by
    rw [List.dropLast_append_of_ne_nil (by simp)]; simp
  rw [eL] at hL
  have eR : ∀ b, b ∈ (c1 ++ [p]).tail → b ∈ (c1 ++ p :: x :: n :: c2) ∧ b.block ≠ n.block := by
    intro b hb'
    cases c1 with
    | nil => simp at hb'
    | cons c c1 =>
      simp only [List.cons_append, List.tail_cons] at hb' hR ⊢
      refine ⟨by simp only [List.mem_append, List.mem_singleton] at hb'; rcases hb' with h | rfl <;> simp [*], ?_⟩
      have : ((c1 ++ [p]) ++ (x :: n :: c2)).map (·.block) = (c1 ++ p :: x :: n :: c2).map (·.block) := by simp
      rw [← this, List.map_append] at hR
      have := (List.nodup_append.1 hR).2.2 b.block (List.mem_map_of_mem hb') n.block (by simp)
      exact this
  constructor
  · refine Adj.imp ha fun a hma b hmb hr => ?_
    rw [List.dropLast_concat] at hma
    have hna : a.block ≠ p.block := by
      rw [List.map_append] at hL
      exact (List.nodup_append.1 hL).2.2 a.block (List.mem_map_of_mem hma) p.block (by simp)
    have ⟨hbm, hnb⟩ := eR b hmb
    exact ⟨by rw [h3 _ (nx_ne hna) (hA.nx_pv (by simp [hma]) (by simp))]; exact hr.1, by rw [h3 _ (Ne.symm (hA.nx_pv (by simp) hbm)) (pv_ne hnb)]; exact hr.2⟩
  · refine ⟨⟨h1, h2⟩, Adj.imp hc fun a hma b hmb hr => ?_⟩
    have hna : a.block ≠ p.block := by
      rw [List.map_append] at hL
      have := (List.nodup_append.1 hL).2.1
      simp only [List.map_cons, List.nodup_cons] at this
      intro e
      exact this.1 (by rw [← e]; exact List.mem_cons_of_mem _ (List.mem_map_of_mem hma))
    have hma' : a ∈ n :: c2 := List.dropLast_subset _ hma
    simp only [List.tail_cons] at hmb
    have hnb : b.block ≠ n.block := by
      have : (c1 ++ p :: x :: n :: c2).tail.map (·.block) = ((c1 ++ [p, x]).tail.map (·.block)) ++ (n.block :: c2.map (·.block)) := by
        cases c1 <;> simp
      rw [this] at hR
      have := (List.nodup_append.1 hR).2.1
      simp only [List.nodup_cons] at this
      intro e
      exact this.1 (by rw [← e]; exact List.mem_map_of_mem hmb)
    exact ⟨by rw [h3 _ (nx_ne hna) (hA.nx_pv (by rcases List.mem_cons.1 hma' with rfl | h <;> simp [*]) (by simp))]; exact hr.1,
      by rw [h3 _ (Ne.symm (hA.nx_pv (by simp) (by simp [hmb]))) (pv_ne hnb)]; exact hr.2⟩

/-- A new first one: x behind r, ahead of f. -/
theorem front_ring {w w' : World} {c2 : List Addr} {r x f : Addr} (hl : Adj (Lnk w) (r :: f :: c2)) (hA : Apart (r :: f :: c2)) (hx : ∀ a ∈ r :: f :: c2, a.block ≠ x.block)
    (hL : ((r :: f :: c2).dropLast.map (·.block)).Nodup) (hR : ((r :: f :: c2).tail.map (·.block)).Nodup)
    (h1 : w'.cell? (pv x) = some (.pointer (some r))) (h2 : w'.cell? (nx x) = some (.pointer (some f))) (h3 : w'.cell? (pv f) = some (.pointer (some x))) (h4 : w'.cell? (nx r) = some (.pointer (some x)))
    (h5 : ∀ q, q ≠ pv x → q ≠ nx x → q ≠ pv f → q ≠ nx r → w'.cell? q = w.cell? q) :
    Adj (Lnk w') (r :: x :: f :: c2) := by
  refine ⟨⟨h4, h1⟩, ⟨h2, h3⟩, Adj.imp hl.2 fun a hma b hmb hr => ?_⟩
  have hma' : a ∈ f :: c2 := List.dropLast_subset _ hma
  simp only [List.tail_cons] at hmb
  have hna : a.block ≠ r.block := by
    simp only [List.dropLast_cons_cons, List.map_cons, List.nodup_cons] at hL
    intro e
    exact hL.1 (by rw [← e]; exact List.mem_map_of_mem hma)
  have hnb : b.block ≠ f.block := by
    simp only [List.tail_cons, List.map_cons, List.nodup_cons] at hR
    intro e
    exact hR.1 (by rw [← e]; exact List.mem_map_of_mem hmb)
  have hax : a.block ≠ x.block := hx a (List.mem_cons_of_mem _ hma')
  have hbx : b.block ≠ x.block := hx b (by simp [hmb])
  refine ⟨?_, ?_⟩
  · rw [h5 _ (nx_pv a x (.inl hax)) (nx_ne hax) (hA.nx_pv (List.mem_cons_of_mem _ hma') (by simp)) (nx_ne hna)]; exact hr.1
  · rw [h5 _ (pv_ne hbx) (Ne.symm (nx_pv x b (.inl (Ne.symm hbx)))) (pv_ne hnb) (Ne.symm (hA.nx_pv (by simp) (by simp [hmb])))]; exact hr.2

/-- Only the blocks of S have been written (and new ones made). -/
structure Tch (S : Nat → Prop) (w w' : World) : Prop where
  os : w'.os = w.os
  tape : w'.tape = w.tape
  output : w'.output = w.output
  size : w.heap.size ≤ w'.heap.size
  block : ∀ k, k < w.heap.size → ¬ S k → w'.heap[k]? = w.heap[k]?
theorem Tch.refl (S : Nat → Prop) (w : World) : Tch S w w := ⟨rfl, rfl, rfl, Nat.le_refl _, fun _ _ _ => rfl⟩
theorem Tch.trans {S : Nat → Prop} {a b c : World} (h : Tch S a b) (k : Tch S b c) : Tch S a c :=
  ⟨k.os.trans h.os, k.tape.trans h.tape, k.output.trans h.output, Nat.le_trans h.size k.size, fun i hi hn => (k.block i (Nat.lt_of_lt_of_le hi h.size) hn).trans (h.block i hi hn)⟩
theorem Tch.mono {S S' : Nat → Prop} {w w' : World} (h : Tch S w w') (hS : ∀ k, k < w.heap.size → S k → S' k) : Tch S' w w' := ⟨h.os, h.tape, h.output, h.size, fun k hk hn => h.block k hk fun hs => hn (hS k hk hs)⟩
theorem Tch.drewN {S : Nat → Prop} {w w' : World} (h : Tch S w w') (n : Nat) : Tch S w (w'.drewN n) := ⟨h.os, h.tape, h.output, h.size, h.block⟩
theorem Tch.setCell {S : Nat → Prop} {w w' : World} (h : Tch S w w') {a : Addr} (ha : S a.block) (v : Value) : Tch S w (w'.setCell a v) :=
  h.trans ⟨rfl, rfl, rfl, by simp [World.setCell], fun k hk hn => by
    simp only [World.setCell, Array.getElem?_modify]
    rw [if_neg (fun e : a.block = k => hn (by rw [← e]; exact ha))]⟩
theorem Tch.alloc {S : Nat → Prop} {w w' : World} (h : Tch S w w') (o : Obj) : Tch S w (w'.alloc o) :=
  h.trans ⟨rfl, rfl, rfl, by simp, fun k hk hn => by
    show (w'.heap.push o)[k]? = _
    rw [Array.getElem?_push, if_neg (by omega)]⟩
theorem Tch.below {S : Nat → Prop} {w w' : World} (h : Tch S w w') {B : Nat} (hB : B ≤ w.heap.size) (hS : ∀ k, S k → B ≤ k) : Below B w w' :=
  ⟨h.os, h.tape, h.output, h.size, fun k hk => h.block k (Nat.lt_of_lt_of_le hk hB) fun hs => by have := hS k hs; omega⟩
theorem Tch.of_below {S : Nat → Prop} {w w' : World} {B : Nat} (h : Below B w w') (hS : ∀ k, k < w.heap.size → B ≤ k → S k) : Tch S w w' :=
  ⟨h.os, h.tape, h.output, h.size, fun k hk hn => h.block k (Nat.lt_of_not_le fun hb => hn (hS k hk hb))⟩
theorem Tch.cell {S : Nat → Prop} {w w' : World} (h : Tch S w w') {p : Addr} (hl : p.block < w.heap.size) (hp : ¬ S p.block) : w'.cell? p = w.cell? p := World.cell?_of_block (w := w) (h.block p.block hl hp)
theorem Tch.frozen {S : Nat → Prop} {w w' : World} (h : Tch S w w') {p : Addr} (hl : p.block < w.heap.size) (hp : ¬ S p.block) : w'.frozen? p = w.frozen? p := World.frozen?_of_block (w := w) (h.block p.block hl hp)

/-- The ring's own node in a Cache's block; an item's node. -/
def R (bc : Nat) : Addr := ⟨bc, 2, none⟩
def nd (b : Nat) : Addr := ⟨b, 0, none⟩
def cyc (bc : Nat) (bs : List Nat) : List Addr := R bc :: (bs.map nd ++ [R bc])
structure Ring (w : World) (bc : Nat) (bs : List Nat) : Prop where
  adj : Adj (Lnk w) (cyc bc bs)
  free : ∀ b ∈ bc :: bs, ∀ o, w.frozen? ⟨b, o, none⟩ = false
  nodup : (bc :: bs).Nodup

theorem mem_cyc {bc : Nat} {bs : List Nat} {a : Addr} : a ∈ cyc bc bs ↔ a = R bc ∨ ∃ b ∈ bs, a = nd b := by
  simp only [cyc, List.mem_cons, List.mem_append, List.mem_map, List.mem_nil_iff, or_false]
  constructor
  · rintro (h | ⟨b, hb, rfl⟩ | h)
    · exact .inl h
    · exact .inr ⟨b, hb, rfl⟩
    · exact .inl h
  · rintro (h | ⟨b, hb, rfl⟩)
    · exact .inl h
    · exact .inr (.inl ⟨b, hb, rfl⟩)
theorem cyc_apart {bc : Nat} {bs : List Nat} (h : (bc :: bs).Nodup) : Apart (cyc bc bs) := by
  have hn := (List.nodup_cons.1 h).1
  intro a ha b hb e
  rcases mem_cyc.1 ha with rfl | ⟨x, hx, rfl⟩ <;> rcases mem_cyc.1 hb with rfl | ⟨y, hy, rfl⟩
  · rfl
  · simp only [R, nd] at e; subst e; exact absurd hy hn
  · simp only [R, nd] at e; subst e; exact absurd hx hn
  · simp only [nd] at e; subst e; rfl
theorem cyc_left {bc : Nat} {bs : List Nat} : (cyc bc bs).dropLast.map (·.block) = bc :: bs := by
  have : (cyc bc bs).dropLast = R bc :: bs.map nd := by
    show ((R bc :: bs.map nd) ++ [R bc]).dropLast = _
    rw [List.dropLast_concat]
  rw [this]
  simp [R, nd, Function.comp_def]
theorem cyc_right {bc : Nat} {bs : List Nat} : (cyc bc bs).tail.map (·.block) = bs ++ [bc] := by
  simp [cyc, R, nd, Function.comp_def]
theorem nodup_right {bc : Nat} {bs : List Nat} (h : (bc :: bs).Nodup) : (bs ++ [bc]).Nodup := by
  obtain ⟨h1, h2⟩ := List.nodup_cons.1 h
  refine List.nodup_append.2 ⟨h2, by simp, ?_⟩
  intro a ha b hb e
  simp at hb
  subst hb; subst e
  exact h1 ha

/-- The neighbours of an item. -/
theorem cyc_split (bc : Nat) (l1 l2 : List Nat) (b : Nat) : ∃ c1 p n c2, cyc bc (l1 ++ b :: l2) = c1 ++ p :: nd b :: n :: c2 ∧ cyc bc (l1 ++ l2) = c1 ++ p :: n :: c2 ∧ n = (l2.map nd ++ [R bc]).headD (R bc) ∧ p = (R bc :: l1.map nd).getLastD (R bc) := by
  have hp : ∃ c1 p, R bc :: l1.map nd = c1 ++ [p] := by
    rcases List.eq_nil_or_concat (R bc :: l1.map nd) with h | ⟨c1, p, h⟩
    · simp at h
    · exact ⟨c1, p, by simpa using h⟩
  have hn : ∃ n c2, l2.map nd ++ [R bc] = n :: c2 := by
    cases l2 with
    | nil => exact ⟨R bc, [], rfl⟩
    | cons y l2 => exact ⟨nd y, l2.map nd ++ [R bc], by simp⟩
  obtain ⟨c1, p, h1⟩ := hp
  obtain ⟨n, c2, h2⟩ := hn
  refine ⟨c1, p, n, c2, ?_, ?_, ?_, ?_⟩
  · have : cyc bc (l1 ++ b :: l2) = (R bc :: l1.map nd) ++ nd b :: (l2.map nd ++ [R bc]) := by simp [cyc]
    rw [this, h1, h2]; simp
  · have : cyc bc (l1 ++ l2) = (R bc :: l1.map nd) ++ (l2.map nd ++ [R bc]) := by simp [cyc]
    rw [this, h1, h2]; simp
  · rw [h2]; rfl
  · rw [h1]; simp

theorem frozen_setCell (w : World) (a b : Addr) (v : Value) : (w.setCell a v).frozen? b = w.frozen? b := World.frozen?_setCell ..
theorem nd_form {bc : Nat} {bs : List Nat} {a : Addr} (h : a ∈ cyc bc bs) : ∃ o, a = ⟨a.block, o, none⟩ ∧ a.block ∈ bc :: bs := by
  rcases mem_cyc.1 h with rfl | ⟨b, hb, rfl⟩
  · exact ⟨2, rfl, by simp [R]⟩
  · exact ⟨0, rfl, by simp [nd, hb]⟩

/-- A cut, as the walk needs it. -/
theorem Ring.cut {w : World} {bc : Nat} {l1 l2 : List Nat} {b : Nat} (h : Ring w bc (l1 ++ b :: l2)) :
    ∃ bp op bn on u1 u2, w.cell? ⟨b, 0 + 2, none⟩ = some (.pointer (some ⟨bp, op, none⟩)) ∧ w.cell? ⟨b, 0 + 3, none⟩ = some (.pointer (some ⟨bn, on, none⟩)) ∧
      w.cell? ⟨bp, op + 3, none⟩ = some u1 ∧ w.cell? ⟨bn, on + 2, none⟩ = some u2 ∧ w.frozen? ⟨bp, op + 3, none⟩ = false ∧ w.frozen? ⟨bn, on + 2, none⟩ = false ∧ bp ≠ b ∧ bn ≠ b ∧ (bp = bn → op + 3 ≠ on + 2) ∧
      (bp ∈ bc :: (l1 ++ l2)) ∧ (bn ∈ bc :: (l1 ++ l2)) ∧ (⟨bn, on, none⟩ : Addr) = (l2.map nd ++ [R bc]).headD (R bc) ∧ (⟨bp, op, none⟩ : Addr) = (R bc :: l1.map nd).getLastD (R bc) ∧
      ∀ w', (∃ k, w' = ((w.setCell ⟨bp, op + 3, none⟩ (.pointer (some ⟨bn, on, none⟩))).setCell ⟨bn, on + 2, none⟩ (.pointer (some ⟨bp, op, none⟩))).drewN k) → Ring w' bc (l1 ++ l2) := by
  obtain ⟨c1, p, n, c2, e1, e2, e3, e4⟩ := cyc_split bc l1 l2 b
  have hnd : (bc :: (l1 ++ l2)).Nodup := by
    have := h.nodup
    simp only [List.nodup_cons, List.mem_append, List.mem_cons, List.nodup_append] at this ⊢
    refine ⟨fun hm => this.1 (by rcases hm with hm | hm <;> simp [hm]), this.2.1, this.2.2.1.2, fun a ha c hc => this.2.2.2 a ha c (.inr hc)⟩
  have hb : b ∉ bc :: (l1 ++ l2) := by
    have := h.nodup
    simp only [List.nodup_cons, List.mem_append, List.mem_cons, List.nodup_append] at this ⊢
    rintro (rfl | hm | hm)
    · exact this.1 (.inr (.inl rfl))
    · exact this.2.2.2 b hm b (.inl rfl) rfl
    · exact this.2.2.1.1 hm
  have hadj := h.adj
  rw [e1] at hadj
  have hA := cyc_apart h.nodup
  have hL : ((cyc bc (l1 ++ b :: l2)).dropLast.map (·.block)).Nodup := by rw [cyc_left]; exact h.nodup
  have hR : ((cyc bc (l1 ++ b :: l2)).tail.map (·.block)).Nodup := by rw [cyc_right]; exact nodup_right h.nodup
  rw [e1] at hA hL hR
  obtain ⟨-, hpx, hxn, -⟩ := (adj_append p (nd b :: n :: c2) c1).1 hadj
  have hpm : p ∈ cyc bc (l1 ++ l2) := by rw [e2]; simp
  have hnm : n ∈ cyc bc (l1 ++ l2) := by rw [e2]; simp
  obtain ⟨op, ep, hpb⟩ := nd_form hpm
  obtain ⟨on, en, hnb⟩ := nd_form hnm
  obtain ⟨bp, op', sp⟩ := p
  obtain ⟨bn, on', sn⟩ := n
  simp only [Addr.mk.injEq, true_and] at ep en
  obtain ⟨rfl, rfl⟩ := ep
  obtain ⟨rfl, rfl⟩ := en
  simp only at hpb hnb
  have hfp : ∀ o, w.frozen? ⟨bp, o, none⟩ = false := h.free bp (by simp only [List.mem_cons, List.mem_append] at hpb ⊢; rcases hpb with hq | hq | hq <;> simp [hq])
  have hfn : ∀ o, w.frozen? ⟨bn, o, none⟩ = false := h.free bn (by simp only [List.mem_cons, List.mem_append] at hnb ⊢; rcases hnb with hq | hq | hq <;> simp [hq])
  have hpn : bp = bn → op' + 3 ≠ on' + 2 := by
    intro e
    have := hA ⟨bp, op', none⟩ (by simp) ⟨bn, on', none⟩ (by simp) e
    simp only [Addr.mk.injEq, and_true] at this
    omega
  refine ⟨bp, op', bn, on', _, _, hpx.2, hxn.1, hpx.1, hxn.2, hfp _, hfn _, fun e => hb (e ▸ hpb), fun e => hb (e ▸ hnb), hpn, hpb, hnb, e3, e4, ?_⟩
  rintro w' ⟨k, rfl⟩
  have hne : (⟨bp, op' + 3, none⟩ : Addr) ≠ ⟨bn, on' + 2, none⟩ := by simp only [ne_eq, Addr.mk.injEq, and_true, not_and]; exact hpn
  refine ⟨?_, ?_, hnd⟩
  · rw [e2]
    refine cut_ring hadj hA hL hR ?_ ?_ ?_
    · show (World.setCell _ _ _).cell? ⟨bp, op' + 3, none⟩ = _
      rw [World.cell?_setCell_other _ _ _ _ (Ne.symm hne)]
      exact World.cell?_setCell_same _ _ _ hpx.1
    · show (World.setCell _ _ _).cell? ⟨bn, on' + 2, none⟩ = _
      exact World.cell?_setCell_same _ _ _ (by rw [World.cell?_setCell_other _ _ _ _ hne]; exact hxn.2)
    · intro q h1 h2
      have h1 : q ≠ ⟨bp, op' + 3, none⟩ := h1
      have h2 : q ≠ ⟨bn, on' + 2, none⟩ := h2
      show (World.setCell _ _ _).cell? q = _
      rw [World.cell?_setCell_other _ _ _ _ (Ne.symm h2), World.cell?_setCell_other _ _ _ _ (Ne.symm h1)]
  · intro b' hb' o
    show (World.setCell _ _ _).frozen? _ = _
    rw [frozen_setCell, frozen_setCell]
    exact h.free b' (by simp only [List.mem_cons, List.mem_append] at hb' ⊢; rcases hb' with hq | hq | hq <;> simp [hq]) o

/-- A new first item, as the walk needs it. -/
theorem Ring.front {w : World} {bc : Nat} {bs : List Nat} {b : Nat} (h : Ring w bc bs) (hb : b ∉ bc :: bs) (hf : ∀ o, w.frozen? ⟨b, o, none⟩ = false) {v2 v3 : Value} (h2 : w.cell? ⟨b, 2, none⟩ = some v2) (h3 : w.cell? ⟨b, 3, none⟩ = some v3) :
    ∃ bf of u3, w.cell? ⟨bc, 5, none⟩ = some (.pointer (some ⟨bf, of, none⟩)) ∧ w.cell? ⟨bf, of + 2, none⟩ = some u3 ∧ w.frozen? ⟨bf, of + 2, none⟩ = false ∧ w.frozen? ⟨bc, 5, none⟩ = false ∧ b ≠ bf ∧ (bf = bc → of + 2 ≠ 5) ∧ bf ∈ bc :: bs ∧
      Ring ((((w.setCell ⟨b, 2, none⟩ (.pointer (some ⟨bc, 2, none⟩))).setCell ⟨b, 3, none⟩ (.pointer (some ⟨bf, of, none⟩))).setCell ⟨bf, of + 2, none⟩ (.pointer (some ⟨b, 0, none⟩))).setCell ⟨bc, 5, none⟩ (.pointer (some ⟨b, 0, none⟩))) bc (b :: bs) := by
  have hc : ∃ f c2, bs.map nd ++ [R bc] = f :: c2 := by
    cases bs with
    | nil => exact ⟨R bc, [], rfl⟩
    | cons y l2 => exact ⟨nd y, l2.map nd ++ [R bc], by simp⟩
  obtain ⟨f, c2, ec⟩ := hc
  have e1 : cyc bc bs = R bc :: f :: c2 := by rw [cyc, ec]
  have e2 : cyc bc (b :: bs) = R bc :: nd b :: f :: c2 := by simp [cyc, ec]
  have hadj := h.adj
  have hA := cyc_apart h.nodup
  have hL : ((cyc bc bs).dropLast.map (·.block)).Nodup := by rw [cyc_left]; exact h.nodup
  have hR : ((cyc bc bs).tail.map (·.block)).Nodup := by rw [cyc_right]; exact nodup_right h.nodup
  have hfm : f ∈ cyc bc bs := by rw [e1]; simp
  have hx : ∀ a ∈ cyc bc bs, a.block ≠ (nd b).block := fun a ha e => by
    obtain ⟨o, _, hm⟩ := nd_form ha
    simp only [nd] at e
    exact hb (e ▸ hm)
  obtain ⟨of, ef, hfb⟩ := nd_form hfm
  obtain ⟨bf, of', sf⟩ := f
  simp only [Addr.mk.injEq, true_and] at ef
  obtain ⟨rfl, rfl⟩ := ef
  simp only at hfb
  rw [e1] at hadj hA hL hR hx
  have hlk : Lnk w (R bc) ⟨bf, of', none⟩ := hadj.1
  have hbf : b ≠ bf := fun e => hb (e ▸ hfb)
  have hbc : b ≠ bc := fun e => hb (by simp [e])
  have hfc : bf = bc → of' + 2 ≠ 5 := by
    intro e
    have := hA ⟨bf, of', none⟩ (by simp) (R bc) (by simp) e
    simp only [R, Addr.mk.injEq, and_true] at this
    omega
  refine ⟨bf, of', _, hlk.1, hlk.2, h.free bf hfb _, h.free bc (by simp) _, hbf, hfc, hfb, ?_, ?_, List.nodup_cons.2 ⟨?_, ?_⟩⟩
  · rw [e2]
    have n1 : (⟨b, 2, none⟩ : Addr) ≠ ⟨b, 3, none⟩ := by simp
    have n2 : (⟨b, 2, none⟩ : Addr) ≠ ⟨bf, of' + 2, none⟩ := by simp [hbf]
    have n3 : (⟨b, 2, none⟩ : Addr) ≠ ⟨bc, 5, none⟩ := by simp
    have n4 : (⟨b, 3, none⟩ : Addr) ≠ ⟨bf, of' + 2, none⟩ := by simp [hbf]
    have n5 : (⟨b, 3, none⟩ : Addr) ≠ ⟨bc, 5, none⟩ := by simp
    have n6 : (⟨bf, of' + 2, none⟩ : Addr) ≠ ⟨bc, 5, none⟩ := by simp only [ne_eq, Addr.mk.injEq, and_true, not_and]; exact hfc
    refine front_ring hadj hA hx hL hR ?_ ?_ ?_ ?_ ?_
    · show World.cell? _ ⟨b, 2, none⟩ = some (.pointer (some ⟨bc, 2, none⟩))
      rw [World.cell?_setCell_other _ _ _ _ (Ne.symm n3), World.cell?_setCell_other _ _ _ _ (Ne.symm n2), World.cell?_setCell_other _ _ _ _ (Ne.symm n1)]
      exact World.cell?_setCell_same _ _ _ h2
    · show World.cell? _ ⟨b, 3, none⟩ = _
      rw [World.cell?_setCell_other _ _ _ _ (Ne.symm n5), World.cell?_setCell_other _ _ _ _ (Ne.symm n4)]
      exact World.cell?_setCell_same _ _ _ (by rw [World.cell?_setCell_other _ _ _ _ n1]; exact h3)
    · show World.cell? _ ⟨bf, of' + 2, none⟩ = some (.pointer (some ⟨b, 0, none⟩))
      rw [World.cell?_setCell_other _ _ _ _ (Ne.symm n6)]
      exact World.cell?_setCell_same _ _ _ (by rw [World.cell?_setCell_other _ _ _ _ n4, World.cell?_setCell_other _ _ _ _ n2]; exact hlk.2)
    · show World.cell? _ ⟨bc, 5, none⟩ = some (.pointer (some ⟨b, 0, none⟩))
      exact World.cell?_setCell_same _ _ _ (by rw [World.cell?_setCell_other _ _ _ _ n6, World.cell?_setCell_other _ _ _ _ n5, World.cell?_setCell_other _ _ _ _ n3]; exact hlk.1)
    · intro q q1 q2 q3 q4
      have q1 : q ≠ ⟨b, 2, none⟩ := q1
      have q2 : q ≠ ⟨b, 3, none⟩ := q2
      have q3 : q ≠ ⟨bf, of' + 2, none⟩ := q3
      have q4 : q ≠ ⟨bc, 5, none⟩ := q4
      rw [World.cell?_setCell_other _ _ _ _ (Ne.symm q4), World.cell?_setCell_other _ _ _ _ (Ne.symm q3), World.cell?_setCell_other _ _ _ _ (Ne.symm q2), World.cell?_setCell_other _ _ _ _ (Ne.symm q1)]
  · intro b' hb' o
    rw [frozen_setCell, frozen_setCell, frozen_setCell, frozen_setCell]
    rcases List.mem_cons.1 hb' with rfl | hb'
    · exact h.free _ (by simp) o
    · rcases List.mem_cons.1 hb' with rfl | hb'
      · exact hf o
      · exact h.free b' (by simp [hb']) o
  · intro hm
    rcases List.mem_cons.1 hm with e | hm
    · exact hbc e.symm
    · exact (List.nodup_cons.1 h.nodup).1 hm
  · exact List.nodup_cons.2 ⟨fun hm => hb (by simp [hm]), (List.nodup_cons.1 h.nodup).2⟩
end Go.Proofs.YtdjkheiakkhngaaGreatDoorKw
