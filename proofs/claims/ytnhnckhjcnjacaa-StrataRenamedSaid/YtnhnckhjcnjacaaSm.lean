/- Strata: the memory of the numbering of the parts. -/
import Derived.Test.YtnhnckhjcnjacaaSy
import Derived.Test.YtnhnckhjcnjacaaSl
import Derived.Test.YtnhnckhjcnjacaaSq
namespace Go.Proofs.Ytnhnckhjcnjacaa.ST
open Go.RowKit Go.Proofs.YtnhnckhjcnjacaaKw Go.Proofs.YtnhnckhjcnjacaaSg Go.Proofs.YtnhnckhjcnjacaaSw
set_option linter.unusedVariables false
set_option linter.unusedSimpArgs false

theorem info26 : (Try.prog.info? 26).map (fun i => (i.zero, i.size, i.bytes)) = some (some (.slice none 0 0), 1, 24) := by kernel_rfl
/-- The heads of a graph's nodes. -/
structure HeadI (g : Nat → List AI) (n : Nat) (H : Nat → Nat) : Prop where
  eq : ∀ v, v < n → (ringsF (tos g) n n).head v = (H v : Int)
  lt : ∀ v, v < n → H v < n
abbrev IArr (w : World) (b n : Nat) (f : Nat → Int) : Prop := Arr (Value.int .i64) 3 w b n f
/-- The memory of the first loop. -/
structure P1 (w0 w : World) (n hb wb bb hx mb : Nat) (H : Nat → Nat) (s : CS) : Prop where
  head : IArr w hb n (fun v => (H v : Int))
  waits : IArr w wb n s.waits
  back : Mat w mb bb 3 1 n (fun q => (s.back q).length) (fun q => nvs (s.back q))
  ready : HeapR w 0 hx []
  ord : w0.heap.size ≤ hb ∧ hb < wb ∧ wb < bb ∧ bb < hx ∧ hx < mb ∧ mb ≤ w.heap.size
  hrow : ∀ q, HRow w hx q → bb < q ∧ q < hx
  below : Below w0.heap.size w0 w
section
variable {w0 w w' W w1 : World} {n hb wb bb hx mb : Nat} {H : Nat → Nat} {s : CS}
theorem HRow.lt {q : Nat} {base : Nat} {L : List Nat} (h : HeapR w base hx L) (hq : HRow w hx q) : q < w.heap.size := by
  obtain ⟨A, c, hs, ho⟩ := h.row
  obtain ⟨A', n', c', hs', hg⟩ := hq
  rw [hs] at hs'
  cases hs'
  exact (ho.lt q hg).2
theorem HeapR.tch {base : Nat} {L : List Nat} (h : HeapR w base hx L) {S : Nat → Prop} (ht : Tch S w w') (h1 : ¬ S hx) (h2 : ∀ q, HRow w hx q → ¬ S q) : HeapR w' base hx L ∧ ∀ q, HRow w' hx q → HRow w hx q := by
  obtain ⟨A, c, hs, ho⟩ := h.row
  have hc := ht.cell (p := ⟨hx, 0, none⟩) h.lt h1
  refine ⟨⟨⟨A, c, hc.trans hs, own_tch ho ht (fun g hg => h2 g ⟨A, L.length, c, hs, hg⟩)⟩, (ht.frozen (p := ⟨hx, 0, none⟩) h.lt h1).trans h.fz, fun A' c' hs' => h.ne A' c' (hc.symm.trans hs')⟩, fun q hq => ?_⟩
  obtain ⟨A', n', c', hs', hg⟩ := hq
  exact ⟨A', n', c', hc.symm.trans hs', hg⟩
theorem P1.other (h : P1 w0 w n hb wb bb hx mb H s) (hb' : Below w.heap.size w w') : P1 w0 w' n hb wb bb hx mb H s := by
  have hr := h.ready.tch (tch_new hb') (by have := h.ready.lt; omega) (fun q hq hs => by have := HRow.lt h.ready hq; omega)
  have ho := h.ord
  exact ⟨h.head.keep hb', h.waits.keep hb', h.back.keep hb', hr.1, ⟨ho.1, ho.2.1, ho.2.2.1, ho.2.2.2.1, ho.2.2.2.2.1, Nat.le_trans ho.2.2.2.2.2 hb'.size⟩, fun q hq => h.hrow q (hr.2 q hq), below_then h.below h.below.size hb'⟩
theorem P1.setW (h : P1 w0 w n hb wb bb hx mb H s) {p : Nat} (hp : p < n) (x : Int) : P1 w0 (w.setCell ⟨wb, p, none⟩ (.int .i64 x)) n hb wb bb hx mb H { s with waits := upd s.waits p x } := by
  have ho := h.ord
  have ht := Ap.setCell_tch w ⟨wb, p, none⟩ (.int .i64 x) (fun q => q = wb) rfl
  have hr := h.ready.tch ht (by omega) (fun q hq hs => by have := h.hrow q hq; omega)
  exact ⟨h.head.tch ht (by omega), h.waits.set hp x, h.back.tch ht (by omega) (fun k hk e => by omega), hr.1, ⟨ho.1, ho.2.1, ho.2.2.1, ho.2.2.2.1, ho.2.2.2.2.1, Nat.le_trans ho.2.2.2.2.2 ht.size⟩, fun q hq => h.hrow q (hr.2 q hq), below_tch h.below h.below.size ht (fun k _ hk => by omega)⟩
theorem P1.push (h : P1 w0 W n hb wb bb hx mb H s) {q : Nat} (hq : q < n) {x : Nat} {r v1 : Value} (hs : W.cell? ⟨bb, q, none⟩ = some r) (hg : W.grownBy w1 r.ownBlock) (ho : w1.ownsRow mb 3 1 v1 ((s.back q).length + 1) (nvs (s.back q) ++ [.int .i64 (x : Int)])) (hat : v1.ownBlock = r.ownBlock ∨ ∃ b, v1.ownBlock = some b ∧ W.heap.size ≤ b) :
    P1 w0 (w1.setCell ⟨bb, q, none⟩ v1) n hb wb bb hx mb H { s with back := upd s.back q (s.back q ++ [x]) } := by
  have hord := h.ord
  obtain ⟨hm, ht⟩ := h.back.push hq hs hg ho hat
  have hr := h.ready.tch ht (by omega) (fun k hk hs => by have := h.hrow k hk; omega)
  refine ⟨h.head.tch ht (by omega), h.waits.tch ht (by omega), ?_, hr.1, ⟨hord.1, hord.2.1, hord.2.2.1, hord.2.2.2.1, hord.2.2.2.2.1, Nat.le_trans hord.2.2.2.2.2 ht.size⟩, fun k hk => h.hrow k (hr.2 k hk), below_tch h.below h.below.size ht (fun k _ hk => by have := h.below.size; omega)⟩
  have e1 : (fun u => (upd s.back q (s.back q ++ [x]) u).length) = upd (fun u => (s.back u).length) q ((s.back q).length + 1) := by
    funext u
    unfold upd
    split <;> simp
  have e2 : (fun u => nvs (upd s.back q (s.back q ++ [x]) u)) = upd (fun u => nvs (s.back u)) q (nvs (s.back q) ++ [.int .i64 (x : Int)]) := by
    funext u
    unfold upd
    split
    · exact nvs_snoc _ _
    · rfl
  show Mat _ mb bb 3 1 n _ _
  rw [e1, e2]
  exact hm
theorem P1.start {w2 w3 : World} (hh : w0.heap.size ≤ hb) (hA1 : IArr w1 hb n (fun v => (H v : Int))) (hB : Below w0.heap.size w0 w1) (hA2 : IArr w2 w1.heap.size n (fun _ => 0)) (hB2 : Below w1.heap.size w1 w2) (hA3 : Arr (fun _ : Unit => Value.slice none 0 0) 26 w3 w2.heap.size n (fun _ => ())) (hB3 : Below w2.heap.size w2 w3) :
    P1 w0 ((w3.alloc (.cells #[] 3)).alloc (.cells #[.slice (some ⟨w3.heap.size, 0, none⟩) 0 0] 67)) n hb w1.heap.size w2.heap.size (w3.heap.size + 1) (w3.heap.size + 1 + 1) H zeroC := by
  have hB4 := allocs_below w3 [.cells #[] 3, .cells #[.slice (some ⟨w3.heap.size, 0, none⟩) 0 0] 67]
  have a0 := allocs_at w3 [.cells #[] 3, .cells #[.slice (some ⟨w3.heap.size, 0, none⟩) 0 0] 67] 0 _ rfl
  have a1 := allocs_at w3 [.cells #[] 3, .cells #[.slice (some ⟨w3.heap.size, 0, none⟩) 0 0] 67] 1 _ rfl
  have hsz := allocs_size w3 [.cells #[] 3, .cells #[.slice (some ⟨w3.heap.size, 0, none⟩) 0 0] 67]
  have hc := cell_one a1
  have l1 := hA1.lt
  have l2 := hA2.lt
  have l3 := hA3.lt
  have s2 := hB2.size
  refine ⟨((hA1.keep hB2).keep hB3).keep hB4, (hA2.keep hB3).keep hB4, Mat.start (hA3.keep hB4) (by omega), ⟨⟨some ⟨w3.heap.size, 0, none⟩, 0, hc.1, ⟨by simp [nvs], .inr ⟨w3.heap.size, 0, #[], rfl, Nat.zero_le _, a0, Nat.le_refl _, by simp [maxLen], by simp, by simp [nvs]⟩⟩⟩, hc.2, fun A c hs q hq => ?_⟩, ⟨hh, l1, l2, by omega, by omega, by simp⟩, fun q hq => ?_, below_then (below_then (below_then hB hB.size hB2) (Nat.le_trans hB.size hB2.size) hB3) (Nat.le_trans hB.size (Nat.le_trans hB2.size hB3.size)) hB4⟩
  · have e : (some (Value.slice (some ⟨w3.heap.size, 0, none⟩) 0 0) : Option Value) = some (.slice A 0 c) := hc.1.symm.trans hs
    cases e
    have : w3.heap.size = q := by simpa [Value.ownBlock] using hq
    omega
  · obtain ⟨A, m, c, hs, hg⟩ := hq
    have e : (some (Value.slice (some ⟨w3.heap.size, 0, none⟩) 0 0) : Option Value) = some (.slice A m c) := hc.1.symm.trans hs
    cases e
    have : w3.heap.size = q := by simpa [Value.ownBlock] using hg
    omega
end
/-- The memory of the later loops: what lies below B is read, but for the waits and the heap's first row. -/
structure P2 (w0 w : World) (n hb wb bb hx mb B : Nat) (H : Nat → Nat) (waits : Nat → Int) (back : Nat → List Nat) (L : List Nat) : Prop where
  head : IArr w hb n (fun v => (H v : Int))
  waits : IArr w wb n waits
  back : ∀ q, q < n → ∃ A c, w.cell? ⟨bb, q, none⟩ = some (.slice A (back q).length c) ∧ w.ownsRow mb 3 1 (.slice A (back q).length c) (back q).length (nvs (back q)) ∧ (back q).length ≤ c ∧ c ≤ 9223372036854775807 ∧ ∀ g, (Value.slice A (back q).length c).ownBlock = some g → g < B
  ready : HeapR w 0 hx L
  hp : IsHp L L.length
  ord : w0.heap.size ≤ hb ∧ hb < wb ∧ wb < bb ∧ bb < hx ∧ hx < mb ∧ mb ≤ B ∧ B ≤ w.heap.size
  hrow : ∀ q, HRow w hx q → (bb < q ∧ q < hx) ∨ B ≤ q
  below : Below w0.heap.size w0 w
section
variable {w0 w w' W w1 : World} {n hb wb bb hx mb B : Nat} {H : Nat → Nat} {waits : Nat → Int} {back : Nat → List Nat} {L L' : List Nat} {s : CS}
theorem P1.next (h : P1 w0 w n hb wb bb hx mb H s) : P2 w0 w n hb wb bb hx mb w.heap.size H s.waits s.back [] := by
  have ho := h.ord
  refine ⟨h.head, h.waits, fun q hq => ?_, h.ready, fun j h0 hj => by simp at hj, ⟨ho.1, ho.2.1, ho.2.2.1, ho.2.2.2.1, ho.2.2.2.2.1, ho.2.2.2.2.2, Nat.le_refl _⟩, fun q hq => .inl (h.hrow q hq), h.below⟩
  obtain ⟨A, c, hs, ho, h1, h2, _⟩ := h.back.at hq
  exact ⟨A, c, hs, ho, h1, h2, fun g hg => (ho.lt g hg).2⟩
theorem P2.rows (h : P2 w0 w n hb wb bb hx mb B H waits back L) {S : Nat → Prop} (ht : Tch S w w') (h1 : ¬ S bb) (h2 : ∀ k, mb ≤ k → k < B → ¬ S k) :
    ∀ q, q < n → ∃ A c, w'.cell? ⟨bb, q, none⟩ = some (.slice A (back q).length c) ∧ w'.ownsRow mb 3 1 (.slice A (back q).length c) (back q).length (nvs (back q)) ∧ (back q).length ≤ c ∧ c ≤ 9223372036854775807 ∧ ∀ g, (Value.slice A (back q).length c).ownBlock = some g → g < B := by
  intro q hq
  obtain ⟨A, c, hs, ho, k1, k2, k3⟩ := h.back q hq
  exact ⟨A, c, (ht.cell (p := ⟨bb, q, none⟩) (World.block_lt_of_cell? w _ hs) h1).trans hs, own_tch ho ht (fun g hg => h2 g (own_base ho g hg) (k3 g hg)), k1, k2, k3⟩
/-- What writes beyond B only, and not in the heap. -/
theorem P2.tch (h : P2 w0 w n hb wb bb hx mb B H waits back L) {S : Nat → Prop} (ht : Tch S w w') (hS : ∀ k, S k → B ≤ k ∧ ¬ HRow w hx k) : P2 w0 w' n hb wb bb hx mb B H waits back L ∧ ∀ q, HRow w' hx q → HRow w hx q := by
  have ho := h.ord
  have hn : ∀ k, k < B → ¬ S k := fun k hk hs => by have := (hS k hs).1; omega
  have hr := h.ready.tch ht (hn hx (by omega)) (fun q hq hs => (hS q hs).2 hq)
  exact ⟨⟨h.head.tch ht (hn hb (by omega)), h.waits.tch ht (hn wb (by omega)), h.rows ht (hn bb (by omega)) (fun k _ hk => hn k hk), hr.1, h.hp, ⟨ho.1, ho.2.1, ho.2.2.1, ho.2.2.2.1, ho.2.2.2.2.1, ho.2.2.2.2.2.1, Nat.le_trans ho.2.2.2.2.2.2 ht.size⟩, fun q hq => h.hrow q (hr.2 q hq), below_tch h.below h.below.size ht (fun k _ hk => by have := (hS k hk).1; omega)⟩, hr.2⟩
theorem P2.other (h : P2 w0 w n hb wb bb hx mb B H waits back L) (hb' : Below w.heap.size w w') : P2 w0 w' n hb wb bb hx mb B H waits back L ∧ ∀ q, HRow w' hx q → HRow w hx q :=
  h.tch (tch_new hb') (fun k hk => ⟨by have := h.ord; omega, fun hs => by have := HRow.lt h.ready hs; omega⟩)
theorem P2.setW (h : P2 w0 w n hb wb bb hx mb B H waits back L) {p : Nat} (hp : p < n) (x : Int) : P2 w0 (w.setCell ⟨wb, p, none⟩ (.int .i64 x)) n hb wb bb hx mb B H (upd waits p x) back L ∧ ∀ q, HRow (w.setCell ⟨wb, p, none⟩ (.int .i64 x)) hx q → HRow w hx q := by
  have ho := h.ord
  have ht := Ap.setCell_tch w ⟨wb, p, none⟩ (.int .i64 x) (fun q => q = wb) rfl
  have hr := h.ready.tch ht (by omega) (fun q hq hs => by have := h.hrow q hq; omega)
  exact ⟨⟨h.head.tch ht (by omega), h.waits.set hp x, h.rows ht (by omega) (fun k h1 h2 => by omega), hr.1, h.hp, ⟨ho.1, ho.2.1, ho.2.2.1, ho.2.2.2.1, ho.2.2.2.2.1, ho.2.2.2.2.2.1, Nat.le_trans ho.2.2.2.2.2.2 ht.size⟩, fun q hq => h.hrow q (hr.2 q hq), below_tch h.below h.below.size ht (fun k _ hk => by omega)⟩, hr.2⟩
theorem P2.heap (h : P2 w0 w n hb wb bb hx mb B H waits back L) (hf : HFram w w' hx) (hr : HeapR w' 0 hx L') (hi : IsHp L' L'.length) : P2 w0 w' n hb wb bb hx mb B H waits back L' := by
  have ho := h.ord
  have hn : ∀ k, k < bb ∨ k = bb ∨ (mb ≤ k ∧ k < B) → ¬ (k = hx ∨ HRow w hx k) := by
    intro k hk hs
    rcases hs with hs | hs
    · omega
    · have := h.hrow k hs; omega
  exact ⟨h.head.tch hf.tch (hn hb (by omega)), h.waits.tch hf.tch (hn wb (by omega)), h.rows hf.tch (hn bb (by omega)) (fun k h1 h2 => hn k (.inr (.inr ⟨h1, h2⟩))), hr, hi, ⟨ho.1, ho.2.1, ho.2.2.1, ho.2.2.2.1, ho.2.2.2.2.1, ho.2.2.2.2.2.1, Nat.le_trans ho.2.2.2.2.2.2 hf.tch.size⟩, fun q hq => by
    rcases hf.row q hq with hq | hq
    · exact h.hrow q hq
    · exact .inr (by omega), below_tch h.below h.below.size hf.tch (fun k _ hk => by
    rcases hk with hk | hk
    · omega
    · have := h.hrow k hk; omega)⟩
end
/-- The memory of the third loop. -/
structure P3 (w0 w : World) (n hb wb bb hx mb B nb : Nat) (H : Nat → Nat) (waits : Nat → Int) (back : Nat → List Nat) (L : List Nat) (number : Nat → Int) (v : Value) (order : List Nat) : Prop where
  p2 : P2 w0 w n hb wb bb hx mb B H waits back L
  num : IArr w nb n number
  row : w.ownsRow (nb + 1) 3 1 v order.length (nvs order)
  lo : B ≤ nb
  av : ∀ q, HRow w hx q → q ≠ nb ∧ v.ownBlock ≠ some q
section
variable {w0 w w' W w1 : World} {n hb wb bb hx mb B nb : Nat} {H : Nat → Nat} {waits : Nat → Int} {back : Nat → List Nat} {L L' : List Nat} {number : Nat → Int} {v v1 : Value} {order : List Nat}
theorem P3.other (h : P3 w0 w n hb wb bb hx mb B nb H waits back L number v order) (hb' : Below w.heap.size w w') : P3 w0 w' n hb wb bb hx mb B nb H waits back L number v order := by
  have h2 := h.p2.other hb'
  exact ⟨h2.1, h.num.keep hb', own_keep h.row hb', h.lo, fun q hq => h.av q (h2.2 q hq)⟩
theorem P3.setW (h : P3 w0 w n hb wb bb hx mb B nb H waits back L number v order) {p : Nat} (hp : p < n) (x : Int) : P3 w0 (w.setCell ⟨wb, p, none⟩ (.int .i64 x)) n hb wb bb hx mb B nb H (upd waits p x) back L number v order := by
  have h2 := h.p2.setW hp x
  have ho := h.p2.ord
  have hl := h.lo
  have ht := Ap.setCell_tch w ⟨wb, p, none⟩ (.int .i64 x) (fun q => q = wb) rfl
  exact ⟨h2.1, h.num.tch ht (by omega), own_tch h.row ht (fun g hg e => by have := own_base h.row g hg; omega), h.lo, fun q hq => h.av q (h2.2 q hq)⟩
theorem P3.setN (h : P3 w0 w n hb wb bb hx mb B nb H waits back L number v order) {p : Nat} (hp : p < n) (x : Int) : P3 w0 (w.setCell ⟨nb, p, none⟩ (.int .i64 x)) n hb wb bb hx mb B nb H waits back L (upd number p x) v order := by
  have ht := Ap.setCell_tch w ⟨nb, p, none⟩ (.int .i64 x) (fun q => q = nb) rfl
  have h2 := h.p2.tch ht (fun k hk => ⟨by have := h.lo; omega, fun hs => (h.av k hs).1 hk⟩)
  exact ⟨h2.1, h.num.set hp x, own_tch h.row ht (fun g hg e => by have := own_base h.row g hg; omega), h.lo, fun q hq => h.av q (h2.2 q hq)⟩
theorem P3.app (h : P3 w0 W n hb wb bb hx mb B nb H waits back L number v order) {x : Nat} (hg : W.grownBy w1 v.ownBlock) (ho : w1.ownsRow (nb + 1) 3 1 v1 (order.length + 1) (nvs order ++ [.int .i64 (x : Int)])) (hat : v1.ownBlock = v.ownBlock ∨ ∃ b, v1.ownBlock = some b ∧ W.heap.size ≤ b) :
    P3 w0 w1 n hb wb bb hx mb B nb H waits back L number v1 (order ++ [x]) := by
  have ht := tch_grown hg
  have hbs : ∀ k, some k = v.ownBlock → nb + 1 ≤ k := fun k hk => own_base h.row k hk.symm
  have h2 := h.p2.tch ht (fun k hk => ⟨by have := hbs k hk; have := h.lo; omega, fun hs => (h.av k hs).2 hk.symm⟩)
  refine ⟨h2.1, h.num.tch ht (fun e => by have := hbs nb e; omega), by rw [List.length_append, nvs_snoc]; exact ho, h.lo, fun q hq => ?_⟩
  have hq' := h2.2 q hq
  refine ⟨(h.av q hq').1, fun e => ?_⟩
  rcases hat with hat | ⟨b, hb, hbl⟩
  · exact (h.av q hq').2 (hat.symm.trans e)
  · rw [hb] at e
    cases e
    have := HRow.lt h.p2.ready hq'
    omega
theorem P3.heap (h : P3 w0 w n hb wb bb hx mb B nb H waits back L number v order) (hf : HFram w w' hx) (hr : HeapR w' 0 hx L') (hi : IsHp L' L'.length) : P3 w0 w' n hb wb bb hx mb B nb H waits back L' number v order := by
  have ho := h.p2.ord
  have hl := h.lo
  have hnl := h.num.lt
  refine ⟨h.p2.heap hf hr hi, h.num.tch hf.tch (fun hs => ?_), own_tch h.row hf.tch (fun g hg hs => ?_), h.lo, fun q hq => ?_⟩
  · rcases hs with hs | hs
    · omega
    · exact (h.av nb hs).1 rfl
  · rcases hs with hs | hs
    · have := own_base h.row g hg; omega
    · exact (h.av g hs).2 hg
  · rcases hf.row q hq with hq | hq
    · exact h.av q hq
    · exact ⟨by omega, fun e => by have := (h.row.lt q e).2; omega⟩
theorem P2.start (h : P2 w0 w n hb wb bb hx mb B H waits back L) (hA : IArr w1 w.heap.size n (fun _ => 0)) (hB : Below w.heap.size w w1) : P3 w0 w1 n hb wb bb hx mb B w.heap.size H waits back L (fun _ => 0) (.slice none 0 0) [] := by
  have h2 := h.other hB
  refine ⟨h2.1, hA, World.ownsRow_nil _ _ _ _, h.ord.2.2.2.2.2.2, fun q hq => ⟨fun e => by have := HRow.lt h.ready (h2.2 q hq); omega, fun e => by cases e⟩⟩
end
end Go.Proofs.Ytnhnckhjcnjacaa.ST
