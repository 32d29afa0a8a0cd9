/- Strata: what StrataKeeps keeps in memory. -/
import Derived.Test.YtnhnckhjcnjacaaUf
import Derived.Test.YtnhnckhjcnjacaaUm
import Derived.Test.YtnhnckhjcnjacaaTg
import Derived.Test.YtnhnckhjcnjacaaUt
namespace Go.Proofs.Ytnhnckhjcnjacaa.ST
open Go.RowKit Go.Proofs.YtnhnckhjcnjacaaKw Go.Proofs.YtnhnckhjcnjacaaSg Go.Proofs.YtnhnckhjcnjacaaSw
set_option linter.unusedVariables false
set_option linter.unusedSimpArgs false

/-- Answers that came out, each its own. -/
structure Acc (w : World) (lo : Nat) (its : List (Value × List Int)) : Prop where
  row : ∀ (k : Nat) v R, its[k]? = some (v, R) → w.ownsRow lo 3 1 v R.length (ivs R)
  sep : ∀ (i j : Nat) x y, i ≠ j → its[i]? = some x → its[j]? = some y → ∀ g, x.1.ownBlock = some g → y.1.ownBlock ≠ some g
theorem Acc.nil (w : World) (lo : Nat) : Acc w lo [] := ⟨fun k v R h => by simp at h, fun i j x y _ h => by simp at h⟩
theorem Acc.keep {w w' : World} {lo : Nat} {its : List (Value × List Int)} (h : Acc w lo its) (hb : Below w.heap.size w w') : Acc w' lo its := ⟨fun k v R hk => own_keep (h.row k v R hk) hb, h.sep⟩
theorem Acc.tch {w w' : World} {lo : Nat} {its : List (Value × List Int)} {S : Nat → Prop} (h : Acc w lo its) (ht : Tch S w w') (hS : ∀ q, lo ≤ q → ¬ S q) : Acc w' lo its :=
  ⟨fun k v R hk => own_tch (h.row k v R hk) ht (fun g hg => hS g (own_base (h.row k v R hk) g hg)), h.sep⟩
theorem Acc.push {w w' : World} {lo : Nat} {its : List (Value × List Int)} {v : Value} {R : List Int} (h : Acc w lo its) (hlo : lo ≤ w.heap.size) (hb : Below w.heap.size w w') (ho : w'.ownsRow w.heap.size 3 1 v R.length (ivs R)) : Acc w' lo (its ++ [(v, R)]) := by
  have hk := h.keep hb
  refine ⟨fun k u Q hk' => ?_, fun i j x y hij hx hy g hg hg' => ?_⟩
  · by_cases e : k < its.length
    · rw [List.getElem?_append_left e] at hk'
      exact hk.row k u Q hk'
    · rw [List.getElem?_append_right (by omega)] at hk'
      obtain ⟨e1, e2⟩ : v = u ∧ R = Q := by
        rcases hm : k - its.length with _ | m
        · rw [hm] at hk'
          simpa using hk'
        · rw [hm] at hk'
          simp at hk'
      rw [← e1, ← e2]
      exact own_mono ho hlo
  · have key : ∀ (i : Nat) (x : Value × List Int), (its ++ [(v, R)])[i]? = some x → (i < its.length ∧ its[i]? = some x) ∨ (i = its.length ∧ x = (v, R)) := by
      intro i x hx
      by_cases e : i < its.length
      · rw [List.getElem?_append_left e] at hx
        exact .inl ⟨e, hx⟩
      · rw [List.getElem?_append_right (by omega)] at hx
        rcases hm : i - its.length with _ | m
        · rw [hm] at hx
          exact .inr ⟨by omega, by simpa using hx.symm⟩
        · rw [hm] at hx
          simp at hx
    rcases key i x hx with ⟨_, h1⟩ | ⟨h1, e1⟩ <;> rcases key j y hy with ⟨_, h2⟩ | ⟨h2, e2⟩
    · exact h.sep i j x y hij h1 h2 g hg hg'
    · subst e2
      have h3 := ((h.row i x.1 x.2 h1).lt g hg).2
      have h4 := own_base ho g hg'
      omega
    · subst e1
      have h3 := ((h.row j y.1 y.2 h2).lt g hg').2
      have h4 := own_base ho g hg
      omega
    · omega
theorem Acc.rd {w : World} {lo : Nat} {its : List (Value × List Int)} (h : Acc w lo its) (k : Nat) {A : Option Addr} {m c : Nat} {R : List Int} (hk : its[k]? = some (.slice A m c, R)) : Rd w A (ivs R) := own_rd (h.row k _ R hk)
theorem Acc.rws {w : World} {lo : Nat} {its : List (Value × List Int)} (h : Acc w lo its) : Ap.Rws w 0 3 (its.map Prod.fst) (fun k => ((its[k]?).map fun x => x.2.length).getD 0) (fun _ => 0) ∧ Ap.Sep (its.map Prod.fst) (its.map Prod.fst) := by
  refine ⟨fun k v hv => ?_, fun i j u v hu hv hij g hg => ?_⟩
  · rw [List.getElem?_map] at hv
    obtain ⟨⟨v', R⟩, h1, rfl⟩ := Option.map_eq_some_iff.1 hv
    refine ⟨ivs R, ?_, fun i hi => absurd hi (Nat.not_lt_zero _)⟩
    show w.ownsRow 0 3 1 v' (((its[k]?).map fun x => x.2.length).getD 0) (ivs R)
    rw [h1]
    exact own_mono (h.row k v' R h1) (Nat.zero_le _)
  · rw [List.getElem?_map] at hu hv
    obtain ⟨x, h1, rfl⟩ := Option.map_eq_some_iff.1 hu
    obtain ⟨y, h2, rfl⟩ := Option.map_eq_some_iff.1 hv
    exact h.sep i j x y hij h1 h2 g hg
theorem rd_cells {w : World} {b : Nat} {L : List AI} (h : ∀ i, (hi : i < L.length) → w.cell? ⟨b, i * 3, none⟩ = some (.int .i64 L[i].f) ∧ w.cell? ⟨b, i * 3 + 1, none⟩ = some (.int .i64 L[i].t) ∧ w.cell? ⟨b, i * 3 + 2, none⟩ = some (.bool L[i].neg)) : Rd w (some ⟨b, 0, none⟩) (avs L) := by
  have e : L = (List.range L.length).map fun i => L.getD i ⟨0, 0, false⟩ := by
    refine List.ext_getElem (by simp) fun i h1 h2 => ?_
    simp [h1]
  have := rd_rows (W := w) (a := ⟨b, 0, none⟩) 3 L.length (fun i => L.getD i ⟨0, 0, false⟩) AI.cells (fun _ => rfl) (fun i hi j u hu => by
    obtain ⟨h1, h2, h3⟩ := h i hi
    have e : L.getD i ⟨0, 0, false⟩ = L[i] := by simp [hi]
    rw [e] at hu
    rw [add_plain, Nat.zero_add]
    rcases j with _ | _ | _ | j
    · simp [AI.cells] at hu; subst hu; exact h1
    · simp [AI.cells] at hu; subst hu; exact h2
    · simp [AI.cells] at hu; subst hu; exact h3
    · simp [AI.cells] at hu) (by omega)
  rw [← e] at this
  exact this
theorem rd_tch3 {w w' : World} {A : Option Addr} {xs : List Value} {S : Nat → Prop} (h : Rd w A xs) (ht : Tch S w w') (hS : ∀ b off, A = some ⟨b, off, none⟩ → ¬ S b) : Rd w' A xs := by
  rcases h with h | ⟨b, off, rfl, h⟩
  · exact .inl h
  · exact .inr ⟨b, off, rfl, fun j u hu => (ht.cell (p := ⟨b, off + j, none⟩) (World.block_lt_of_cell? w _ (h j u hu)) (hS b off rfl)).trans (h j u hu)⟩
/-- The lent arcs, what is sought from, and the answers. -/
structure KP (w0 w : World) (lo xb : Nat) (L : List AI) (F : Option Addr) (fs : List Int) (its : List (Value × List Int)) : Prop where
  x : Rd w (some ⟨xb, 0, none⟩) (avs L)
  fz : ∀ j, w.frozen? ⟨xb, j, none⟩ = false
  xlt : xb < lo
  xlo : w0.heap.size ≤ xb
  f : Rd w F (ivs fs)
  sf : ∀ b off, F = some ⟨b, off, none⟩ → b ≠ xb
  acc : Acc w lo its
  hi : lo ≤ w.heap.size
  below : Below w0.heap.size w0 w
section
variable {w0 w w' : World} {lo xb : Nat} {L : List AI} {F : Option Addr} {fs : List Int} {its : List (Value × List Int)}
theorem KP.keep (h : KP w0 w lo xb L F fs its) (hb : Below w.heap.size w w') : KP w0 w' lo xb L F fs its :=
  ⟨h.x.keep hb, fun j => (hb.frozen (p := ⟨xb, j, none⟩) (Nat.lt_of_lt_of_le h.xlt h.hi)).trans (h.fz j), h.xlt, h.xlo, h.f.keep hb, h.sf, h.acc.keep hb, Nat.le_trans h.hi hb.size, below_then h.below h.below.size hb⟩
theorem KP.push (h : KP w0 w lo xb L F fs its) {v : Value} {R : List Int} (hb : Below w.heap.size w w') (ho : w'.ownsRow w.heap.size 3 1 v R.length (ivs R)) : KP w0 w' lo xb L F fs (its ++ [(v, R)]) := by
  have k := h.keep hb
  exact ⟨k.x, k.fz, k.xlt, k.xlo, k.f, k.sf, h.acc.push h.hi hb ho, k.hi, k.below⟩
theorem KP.set (h : KP w0 w lo xb L F fs its) {k : Nat} (hk : k < L.length) (f t : Int) (ng : Bool) :
    KP w0 (((w.setCell ⟨xb, k * 3, none⟩ (.int .i64 f)).setCell ⟨xb, k * 3 + 1, none⟩ (.int .i64 t)).setCell ⟨xb, k * 3 + 2, none⟩ (.bool ng)) lo xb (L.set k ⟨f, t, ng⟩) F fs its := by
  have hne : ∀ (i j : Nat), i ≠ j → (⟨xb, i, none⟩ : Addr) ≠ ⟨xb, j, none⟩ := fun i j hij e => hij (by cases e; rfl)
  have hold : ∀ i, (hi : i < L.length) → w.cell? ⟨xb, i * 3, none⟩ = some (.int .i64 L[i].f) ∧ w.cell? ⟨xb, i * 3 + 1, none⟩ = some (.int .i64 L[i].t) ∧ w.cell? ⟨xb, i * 3 + 2, none⟩ = some (.bool L[i].neg) := by
    intro i hi
    have := rd_arcc h.x hi
    simpa using this
  obtain ⟨e0, e1, e2⟩ := hold k hk
  have c1 : ∀ j, j ≠ k * 3 → (w.setCell ⟨xb, k * 3, none⟩ (.int .i64 f)).cell? ⟨xb, j, none⟩ = w.cell? ⟨xb, j, none⟩ := fun j hj => World.cell?_setCell_other w _ _ _ (hne _ _ hj.symm)
  have c0 : (w.setCell ⟨xb, k * 3, none⟩ (.int .i64 f)).cell? ⟨xb, k * 3, none⟩ = some (.int .i64 f) := World.cell?_setCell_same w _ _ e0
  have t1 := Ap.setCell_tch w ⟨xb, k * 3, none⟩ (.int .i64 f) (fun q => q = xb) rfl
  have z1 : ∀ j, (w.setCell ⟨xb, k * 3, none⟩ (.int .i64 f)).frozen? ⟨xb, j, none⟩ = false := fun j => by rw [World.frozen?_setCell]; exact h.fz j
  generalize w.setCell ⟨xb, k * 3, none⟩ (.int .i64 f) = w1 at *
  have d1 : ∀ j, j ≠ k * 3 + 1 → (w1.setCell ⟨xb, k * 3 + 1, none⟩ (.int .i64 t)).cell? ⟨xb, j, none⟩ = w1.cell? ⟨xb, j, none⟩ := fun j hj => World.cell?_setCell_other w1 _ _ _ (hne _ _ hj.symm)
  have d0 : (w1.setCell ⟨xb, k * 3 + 1, none⟩ (.int .i64 t)).cell? ⟨xb, k * 3 + 1, none⟩ = some (.int .i64 t) := World.cell?_setCell_same w1 _ _ ((c1 _ (by omega)).trans e1)
  have t2 := Ap.setCell_tch w1 ⟨xb, k * 3 + 1, none⟩ (.int .i64 t) (fun q => q = xb) rfl
  have z2 : ∀ j, (w1.setCell ⟨xb, k * 3 + 1, none⟩ (.int .i64 t)).frozen? ⟨xb, j, none⟩ = false := fun j => by rw [World.frozen?_setCell]; exact z1 j
  generalize w1.setCell ⟨xb, k * 3 + 1, none⟩ (.int .i64 t) = w2 at *
  have f1 : ∀ j, j ≠ k * 3 + 2 → (w2.setCell ⟨xb, k * 3 + 2, none⟩ (.bool ng)).cell? ⟨xb, j, none⟩ = w2.cell? ⟨xb, j, none⟩ := fun j hj => World.cell?_setCell_other w2 _ _ _ (hne _ _ hj.symm)
  have f0 : (w2.setCell ⟨xb, k * 3 + 2, none⟩ (.bool ng)).cell? ⟨xb, k * 3 + 2, none⟩ = some (.bool ng) := World.cell?_setCell_same w2 _ _ ((d1 _ (by omega)).trans ((c1 _ (by omega)).trans e2))
  have t3 := Ap.setCell_tch w2 ⟨xb, k * 3 + 2, none⟩ (.bool ng) (fun q => q = xb) rfl
  have z3 : ∀ j, (w2.setCell ⟨xb, k * 3 + 2, none⟩ (.bool ng)).frozen? ⟨xb, j, none⟩ = false := fun j => by rw [World.frozen?_setCell]; exact z2 j
  generalize w2.setCell ⟨xb, k * 3 + 2, none⟩ (.bool ng) = w3 at *
  have hsame : ∀ j, j ≠ k * 3 → j ≠ k * 3 + 1 → j ≠ k * 3 + 2 → w3.cell? ⟨xb, j, none⟩ = w.cell? ⟨xb, j, none⟩ := fun j h1 h2 h3 => (f1 j h3).trans ((d1 j h2).trans (c1 j h1))
  have v0 : w3.cell? ⟨xb, k * 3, none⟩ = some (.int .i64 f) := (f1 _ (by omega)).trans ((d1 _ (by omega)).trans c0)
  have v1 : w3.cell? ⟨xb, k * 3 + 1, none⟩ = some (.int .i64 t) := (f1 _ (by omega)).trans d0
  have hxlt := h.xlt
  have hxlo := h.xlo
  have a3 := ((h.acc.tch t1 (fun q hq e => by omega)).tch t2 (fun q hq e => by omega)).tch t3 (fun q hq e => by omega)
  have r3 := rd_tch3 (rd_tch3 (rd_tch3 h.f t1 h.sf) t2 h.sf) t3 h.sf
  have hb1 := below_tch h.below h.below.size t1 (fun q _ e => by omega)
  have hb2 := below_tch hb1 hb1.size t2 (fun q _ e => by omega)
  refine ⟨rd_cells fun i hi => ?_, z3, h.xlt, h.xlo, r3, h.sf, a3, Nat.le_trans h.hi (Nat.le_trans t1.size (Nat.le_trans t2.size t3.size)), below_tch hb2 hb2.size t3 (fun q _ e => by omega)⟩
  rw [List.length_set] at hi
  by_cases e : i = k
  · subst e
    rw [v0, v1, f0, List.getElem_set_self]
    exact ⟨rfl, rfl, rfl⟩
  · rw [hsame _ (by omega) (by omega) (by omega), hsame _ (by omega) (by omega) (by omega), hsame _ (by omega) (by omega) (by omega), List.getElem_set_ne (fun e' => e e'.symm)]
    exact hold i hi
end
end Go.Proofs.Ytnhnckhjcnjacaa.ST
