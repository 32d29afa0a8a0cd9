/- Words on memory: arrays of a fixed length, rows of rows. No statement is proved here. -/
import Derived.Test.YtnhnckhjcnjacaaKwAp
import Derived.Test.YtnhnckhjcnjacaaKw
import Derived.OwnWalk
import Derived.Laws.OwnMore
namespace Go.Proofs.YtnhnckhjcnjacaaSw
open Go.RowKit Go.Proofs.YtnhnckhjcnjacaaKw
set_option linter.unusedVariables false
set_option linter.unusedSimpArgs false

theorem own_tch {w w1 : World} {S : Nat → Prop} {base : Nat} {e : TypeId} {size n : Nat} {v : Value} {xs : List Value} (h : w.ownsRow base e size v n xs) (ht : Tch S w w1) (hS : ∀ g, v.ownBlock = some g → ¬ S g) : w1.ownsRow base e size v n xs := by
  have hlt := h.lt
  refine ⟨h.1, ?_⟩
  rcases h.2 with hn | ⟨g, cap, cur, rfl, hbg, hgg, rest⟩
  · exact .inl hn
  · exact .inr ⟨g, cap, cur, rfl, hbg, by rw [ht.block g (hlt g rfl).2 (hS g rfl)]; exact hgg, rest⟩
theorem tch_new {w w' : World} (hb : Below w.heap.size w w') : Tch (fun k => w.heap.size ≤ k) w w' := Tch.of_below (S := fun k => w.heap.size ≤ k) hb (fun k _ hk => hk)
theorem tch_grown {w w' : World} {row : Option Nat} (h : w.grownBy w' row) : Tch (fun k => some k = row) w w' := ⟨h.os, h.tape, h.output, h.size, h.block⟩
theorem drew_below (w : World) : Below w.heap.size w w.drew := ⟨rfl, rfl, rfl, Nat.le_refl _, fun _ _ => rfl⟩
/-- Blocks from B on may be written. -/
theorem tch_below {B : Nat} {w w' : World} {S : Nat → Prop} (h : Tch S w w') (hB : B ≤ w.heap.size) (hS : ∀ k, k < w.heap.size → S k → B ≤ k) : Below B w w' :=
  ⟨h.os, h.tape, h.output, h.size, fun k hk => h.block k (Nat.lt_of_lt_of_le hk hB) (fun hs => by have := hS k (Nat.lt_of_lt_of_le hk hB) hs; omega)⟩
theorem below_tch {B : Nat} {w w1 w2 : World} {S : Nat → Prop} (h : Below B w w1) (hB : B ≤ w1.heap.size) (ht : Tch S w1 w2) (hS : ∀ k, k < w1.heap.size → S k → B ≤ k) : Below B w w2 :=
  h.trans (tch_below ht hB hS)

def upd {α : Type} (f : Nat → α) (i : Nat) (x : α) : Nat → α := fun j => if j = i then x else f j
theorem upd_same {α : Type} (f : Nat → α) (i : Nat) (x : α) : upd f i x i = x := by simp [upd]
theorem upd_other {α : Type} (f : Nat → α) {i j : Nat} (x : α) (h : j ≠ i) : upd f i x j = f j := by simp [upd, h]

/-- An array of n cells, read by a function. -/
def Arr {α : Type} (mk : α → Value) (e : TypeId) (w : World) (b n : Nat) (f : Nat → α) : Prop := w.ownsRow 0 e 1 (.slice (some ⟨b, 0, none⟩) n n) n ((List.range n).map fun i => mk (f i))
section
variable {α : Type} {mk : α → Value} {e : TypeId} {w w' : World} {b n : Nat} {f : Nat → α}
theorem Arr.cell (h : Arr mk e w b n f) {i : Nat} (hi : i < n) : w.cell? ⟨b, i, none⟩ = some (mk (f i)) := by
  have := h.cellAt i (by omega)
  rw [this]
  simp [hi]
theorem Arr.fz (h : Arr mk e w b n f) (i : Nat) : w.frozen? ⟨b, i, none⟩ = false := h.frozenAt i
theorem Arr.lt (h : Arr mk e w b n f) : b < w.heap.size := (World.ownsRow.lt h b rfl).2
theorem Arr.tch (h : Arr mk e w b n f) {S : Nat → Prop} (ht : Tch S w w') (hS : ¬ S b) : Arr mk e w' b n f :=
  own_tch h ht (fun g hg hs => by simp [Value.ownBlock] at hg; subst hg; exact hS hs)
theorem Arr.keep (h : Arr mk e w b n f) (hb : Below w.heap.size w w') : Arr mk e w' b n f := own_keep h hb
theorem Arr.set (h : Arr mk e w b n f) {i : Nat} (hi : i < n) (x : α) : Arr mk e (w.setCell ⟨b, i, none⟩ (mk x)) b n (upd f i x) := by
  have := Ap.own_set h hi (mk x)
  have e : ((List.range n).map fun i => mk (f i)).set i (mk x) = (List.range n).map fun j => mk (upd f i x j) := by
    refine List.ext_getElem? fun j => ?_
    by_cases hj : j < n
    · by_cases hji : j = i
      · subst hji
        rw [List.getElem?_set_self (by simpa using hj)]
        simp [hj, upd]
      · rw [List.getElem?_set_ne (fun e => hji e.symm)]
        simp [hj, upd, hji]
    · rw [List.getElem?_eq_none (by simp; omega), List.getElem?_eq_none (by simp; omega)]
  rw [e] at this
  exact this
theorem Arr.own (h : Arr mk e w b n f) {base : Nat} (hb : base ≤ b) : w.ownsRow base e 1 (.slice (some ⟨b, 0, none⟩) n n) n ((List.range n).map fun i => mk (f i)) := by
  refine ⟨h.1, ?_⟩
  rcases h.2 with ⟨hv, _⟩ | ⟨g, cap, cur, hv, _, rest⟩
  · cases hv
  · cases hv
    exact .inr ⟨b, n, cur, rfl, hb, rest⟩
theorem Arr.congr (h : Arr mk e w b n f) {f' : Nat → α} (hf : ∀ i, i < n → f' i = f i) : Arr mk e w b n f' := by
  unfold Arr
  have : (List.range n).map (fun i => mk (f' i)) = (List.range n).map fun i => mk (f i) := List.map_congr_left fun i hi => by rw [hf i (by simpa using hi)]
  rw [this]
  exact h
theorem made_one (z : Value) (n : Nat) (hz : z.cells = #[z]) : (madeCells z.cells (n * 1)).toList = (List.range n).map fun _ => z := by
  rw [hz, Nat.mul_one, toList_madeCells_one]
  symm
  rw [List.eq_replicate_iff]
  exact ⟨by simp, fun b hb => (List.mem_map.1 hb).elim fun _ h => h.2.symm⟩
end
section
variable {P : Program} {ops : Array Oper} {rest : List Oper} {o : Oper} {a : Act} {Q : Exit → Act → World → Prop}
/-- make([]T, n), T of one cell. -/
theorem make_arr {α : Type} (mk : α → Value) (z : α) (W : World) (l c : Operand) (t e : TypeId) (bytes : Nat) (n : Nat)
    (ht : P.underlying t = some (.slice e)) (hinfo : (P.info? e).map (fun i => (i.zero, i.size, i.bytes)) = some (some (mk z), 1, bytes)) (hc1 : (mk z).cells = #[mk z])
    (hg : o.guard = none) (hop : o.op = Op.makeSlice t l c) (hl : a.eval l = .int .i64 n) (hc : a.eval c = .int .i64 n) (hb : bytes * n ≤ 281474976710656) (hn : n ≤ maxLen)
    (h : ∀ w1, Arr mk e w1 W.heap.size n (fun _ => z) → Below W.heap.size W w1 → wpList P ops Q rest (a.put o.dst (.slice (some ⟨W.heap.size, 0, none⟩) n n)) w1) :
    wpList P ops Q (o :: rest) a W := by
  obtain ⟨i0, hi, hzz⟩ := Option.map_eq_some_iff.1 hinfo
  have hz0 : i0.zero = some (mk z) := congrArg (·.1) hzz
  have hz1 : i0.size = 1 := congrArg (·.2.1) hzz
  have hz2 : i0.bytes = bytes := congrArg (·.2.2) hzz
  refine wpList_make_full W hg l c t hop W.heap.size e i0 (mk z) 1 ht hi hz0 hz1 .i64 .i64 n n n hl hc rfl rfl (by rw [hz2]; exact hb) hn (Nat.le_refl _) ?_
  intro w1 hown hgr
  have hA : Arr mk e w1 W.heap.size n (fun _ => z) := by
    have := own_mono hown (Nat.zero_le _)
    rw [made_one _ _ hc1] at this
    exact this
  exact h w1 hA ((Below.refl _ _).grown hgr (Nat.le_refl _) (fun k e => by cases e))
end

/-- Rows of rows: the first n cells of block ob hold slices; slice v owns row f v. -/
structure Mat (w : World) (base ob : Nat) (e : TypeId) (size n : Nat) (L : Nat → Nat) (f : Nat → List Value) : Prop where
  row : ∀ v, v < n → ∃ s, w.cell? ⟨ob, v, none⟩ = some s ∧ w.ownsRow base e size s (L v) (f v)
  sep : ∀ u v s t, u < n → v < n → u ≠ v → w.cell? ⟨ob, u, none⟩ = some s → w.cell? ⟨ob, v, none⟩ = some t → ∀ g, s.ownBlock = some g → t.ownBlock ≠ some g
  fz : ∀ v, v < n → w.frozen? ⟨ob, v, none⟩ = false
  lo : ob < base
  lt : ob < w.heap.size
section
variable {e : TypeId} {size n base ob : Nat} {L : Nat → Nat} {f : Nat → List Value} {w w' W w1 : World}
theorem Mat.tch (h : Mat w base ob e size n L f) {S : Nat → Prop} (ht : Tch S w w') (h1 : ¬ S ob) (h2 : ∀ k, base ≤ k → ¬ S k) : Mat w' base ob e size n L f := by
  have hc : ∀ v, w'.cell? ⟨ob, v, none⟩ = w.cell? ⟨ob, v, none⟩ := fun v => ht.cell (p := ⟨ob, v, none⟩) h.lt h1
  refine ⟨fun v hv => ?_, fun u v s t hu hv hne hs ht' => h.sep u v s t hu hv hne ((hc u).symm.trans hs) ((hc v).symm.trans ht'), fun v hv => (ht.frozen (p := ⟨ob, v, none⟩) h.lt h1).trans (h.fz v hv), h.lo, Nat.lt_of_lt_of_le h.lt ht.size⟩
  obtain ⟨s, hs, ho⟩ := h.row v hv
  exact ⟨s, (hc v).trans hs, own_tch ho ht (fun g hg => h2 g (own_base ho g hg))⟩
theorem Mat.keep (h : Mat w base ob e size n L f) (hb : Below w.heap.size w w') : Mat w' base ob e size n L f := by
  have hc : ∀ v, w'.cell? ⟨ob, v, none⟩ = w.cell? ⟨ob, v, none⟩ := fun v => hb.cell (p := ⟨ob, v, none⟩) h.lt
  refine ⟨fun v hv => ?_, fun u v s t hu hv hne hs ht' => h.sep u v s t hu hv hne ((hc u).symm.trans hs) ((hc v).symm.trans ht'), fun v hv => (hb.frozen (p := ⟨ob, v, none⟩) h.lt).trans (h.fz v hv), h.lo, Nat.lt_of_lt_of_le h.lt hb.size⟩
  obtain ⟨s, hs, ho⟩ := h.row v hv
  exact ⟨s, (hc v).trans hs, own_keep ho hb⟩
/-- The row of a place, its form, and that it is read. -/
theorem Mat.at (h : Mat w base ob e size n L f) {v : Nat} (hv : v < n) : ∃ A c, w.cell? ⟨ob, v, none⟩ = some (.slice A (L v) c) ∧ w.ownsRow base e size (.slice A (L v) c) (L v) (f v) ∧ L v ≤ c ∧ c ≤ 9223372036854775807 ∧ w.frozen? ⟨ob, v, none⟩ = false := by
  obtain ⟨s, hs, ho⟩ := h.row v hv
  obtain ⟨A, c, rfl, h1, h2⟩ := own_form ho
  exact ⟨A, c, hs, ho, h1, h2, h.fz v hv⟩
/-- An append to a row, laid back. -/
theorem Mat.push (h : Mat W base ob e size n L f) {v : Nat} (hv : v < n) {s v1 : Value} {m : Nat} {ys : List Value} (hs : W.cell? ⟨ob, v, none⟩ = some s) (hg : W.grownBy w1 s.ownBlock) (ho : w1.ownsRow base e size v1 m ys)
    (hat : v1.ownBlock = s.ownBlock ∨ ∃ b, v1.ownBlock = some b ∧ W.heap.size ≤ b) :
    Mat (w1.setCell ⟨ob, v, none⟩ v1) base ob e size n (upd L v m) (upd f v ys) ∧ Tch (fun q => q = ob ∨ base ≤ q) W (w1.setCell ⟨ob, v, none⟩ v1) := by
  obtain ⟨s', hs', hos⟩ := h.row v hv
  rw [hs] at hs'
  obtain rfl := Option.some.inj hs'
  have hT : Tch (fun q => some q = s.ownBlock) W w1 := tch_grown hg
  have hbs : ∀ q, some q = s.ownBlock → base ≤ q := fun q e => own_base hos q e.symm
  have hlo := h.lo
  have hob : ¬ some ob = s.ownBlock := fun e => by have := hbs ob e; omega
  have hc1 : ∀ u, w1.cell? ⟨ob, u, none⟩ = W.cell? ⟨ob, u, none⟩ := fun u => hT.cell (p := ⟨ob, u, none⟩) h.lt hob
  have hcs : (w1.setCell ⟨ob, v, none⟩ v1).cell? ⟨ob, v, none⟩ = some v1 := World.cell?_setCell_same w1 _ _ ((hc1 v).trans hs)
  have hco : ∀ u, u ≠ v → (w1.setCell ⟨ob, v, none⟩ v1).cell? ⟨ob, u, none⟩ = W.cell? ⟨ob, u, none⟩ := fun u hu =>
    (World.cell?_setCell_other w1 _ _ _ (fun e => by have := congrArg Addr.off e; simp at this; omega)).trans (hc1 u)
  have hset := Ap.setCell_tch w1 ⟨ob, v, none⟩ v1 (fun q => q = ob) rfl
  have hobn : ∀ g, v1.ownBlock = some g → ¬ g = ob := fun g hg e => by have := own_base ho g hg; omega
  have hlt : ∀ u t g, u < n → W.cell? ⟨ob, u, none⟩ = some t → t.ownBlock = some g → g < W.heap.size := by
    intro u t g hu ht hg
    obtain ⟨t', ht', hot⟩ := h.row u hu
    rw [ht] at ht'
    obtain rfl := Option.some.inj ht'
    exact (hot.lt g hg).2
  refine ⟨⟨fun u hu => ?_, fun u u' t t' hu hu' hne ht ht' g hgt hgt' => ?_, fun u hu => ?_, h.lo, Nat.lt_of_lt_of_le h.lt (Nat.le_trans hg.size hset.size)⟩, ?_⟩
  · by_cases huv : u = v
    · subst huv
      exact ⟨v1, hcs, by rw [upd_same, upd_same]; exact own_tch ho hset (fun g hg => hobn g hg)⟩
    · obtain ⟨t, ht, hot⟩ := h.row u hu
      refine ⟨t, (hco u huv).trans ht, ?_⟩
      rw [upd_other _ _ huv, upd_other _ _ huv]
      refine own_tch (own_tch hot hT (fun g hgt e => h.sep u v t s hu hv huv ht hs g hgt e.symm)) hset (fun g hgt e => ?_)
      have := own_base hot g hgt
      omega
  · by_cases huv : u = v
    · subst huv
      rw [hcs] at ht
      obtain rfl := Option.some.inj ht
      rw [hco u' (fun e => hne e.symm)] at ht'
      rcases hat with hat | ⟨b, hb, hbl⟩
      · rw [hat] at hgt
        exact h.sep u u' s t' hu hu' hne hs ht' g hgt hgt'
      · rw [hb] at hgt
        cases hgt
        have := hlt u' t' _ hu' ht' hgt'
        omega
    · rw [hco u huv] at ht
      by_cases huv' : u' = v
      · subst huv'
        rw [hcs] at ht'
        obtain rfl := Option.some.inj ht'
        rcases hat with hat | ⟨b, hb, hbl⟩
        · rw [hat] at hgt'
          exact h.sep u u' t s hu hu' hne ht hs g hgt hgt'
        · rw [hb] at hgt'
          cases hgt'
          have := hlt u t _ hu ht hgt
          omega
      · rw [hco u' huv'] at ht'
        exact h.sep u u' t t' hu hu' hne ht ht' g hgt hgt'
  · rw [World.frozen?_setCell]
    exact (hT.frozen (p := ⟨ob, u, none⟩) h.lt hob).trans (h.fz u hu)
  · exact (hT.mono (fun q _ hq => .inr (hbs q hq))).setCell (a := ⟨ob, v, none⟩) (.inl rfl) _
/-- Rows that are all nil. -/
theorem Mat.start {t : TypeId} (h : Arr (fun _ : Unit => Value.slice none 0 0) t w ob n (fun _ => ())) (hlo : ob < base) : Mat w base ob e size n (fun _ => 0) (fun _ => []) := by
  refine ⟨fun v hv => ⟨_, h.cell hv, World.ownsRow_nil _ _ _ _⟩, fun u v s t hu hv hne hs ht g hg => ?_, fun v hv => h.fz v, hlo, h.lt⟩
  rw [h.cell hu] at hs
  obtain rfl := Option.some.inj hs
  simp [Value.ownBlock] at hg
end
end Go.Proofs.YtnhnckhjcnjacaaSw
