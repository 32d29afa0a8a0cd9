/- Strata: the walk of Reach. -/
import Derived.Test.YtnhnckhjcnjacaaSd
namespace Go.Proofs.YtnhnckhjcnjacaaSg
open Go.Proofs.YtnhnckhjcnjacaaSw
/-- What is reached. -/
inductive Rch (E : Nat → Nat → Prop) (S : Nat → Prop) : Nat → Prop
  | base {v : Nat} : S v → Rch E S v
  | step {u v : Nat} : Rch E S u → E u v → Rch E S v
theorem Rch.sub {E : Nat → Nat → Prop} {S P : Nat → Prop} (h1 : ∀ v, S v → P v) (h2 : ∀ u v, P u → E u v → P v) : ∀ v, Rch E S v → P v := by
  intro v h
  induction h with
  | base h => exact h1 _ h
  | step _ he ih => exact h2 _ _ ih he
def pushOn (on : Nat → Bool) (v : Nat) : Nat → Bool := if on v = true then on else upd on v true
def pushSt (on : Nat → Bool) (L : List Nat) (v : Nat) : List Nat := if on v = true then L else L ++ [v]
/-- While what is reached is sought: x is looked at, its first j arcs are gone. -/
structure RI (g : Nat → List Nat) (n : Nat) (S : Nat → Prop) (on : Nat → Bool) (L : List Nat) (out : Nat → List Nat) : Prop where
  sound : ∀ v, on v = true → Rch (fun u t => t ∈ g u) S v ∧ v < n
  closed : ∀ u, on u = true → u ∉ L → ∀ t ∈ out u, on t = true
  st : ∀ x ∈ L, on x = true
theorem RI.push {g : Nat → List Nat} {n : Nat} {S : Nat → Prop} {on : Nat → Bool} {L : List Nat} {out : Nat → List Nat} (h : RI g n S on L out) {v : Nat} (hv : Rch (fun u t => t ∈ g u) S v) (hn : v < n) : RI g n S (pushOn on v) (pushSt on L v) out := by
  unfold pushOn pushSt
  split
  · exact h
  · refine ⟨fun x hx => ?_, fun u hu hL t ht => ?_, fun x hx => ?_⟩
    · unfold upd at hx
      split at hx
      · rename_i e; subst e; exact ⟨hv, hn⟩
      · exact h.sound x hx
    · unfold upd at hu ⊢
      split at hu
      · rename_i e; subst e; simp at hL
      · split
        · rfl
        · exact h.closed u hu (fun e => hL (List.mem_append_left _ e)) t ht
    · unfold upd
      split
      · rfl
      · rename_i hne
        rcases List.mem_append.1 hx with hx | hx
        · exact h.st x hx
        · simp at hx; exact absurd hx hne
theorem pushOn_on (on : Nat → Bool) (v : Nat) : pushOn on v v = true := by
  unfold pushOn
  split
  · assumption
  · exact upd_same _ _ _
theorem pushOn_mono {on : Nat → Bool} {u : Nat} (v : Nat) (h : on u = true) : pushOn on v u = true := by
  unfold pushOn
  split
  · exact h
  · unfold upd
    split
    · rfl
    · exact h
end Go.Proofs.YtnhnckhjcnjacaaSg
namespace Go.Proofs.Ytnhnckhjcnjacaa.ST
open Go.RowKit Go.Proofs.YtnhnckhjcnjacaaKw Go.Proofs.YtnhnckhjcnjacaaSg Go.Proofs.YtnhnckhjcnjacaaSw
set_option linter.unusedVariables false
set_option linter.unusedSimpArgs false

/-- The memory of Reach. -/
structure RR (w0 w : World) (n nb ox sx : Nat) (on : Nat → Bool) (L : List Nat) : Prop where
  on : Arr Value.bool 4 w nb n on
  co : w.cell? ⟨ox, 0, none⟩ = some (.slice (some ⟨nb, 0, none⟩) n n)
  row : ∃ A c, w.cell? ⟨sx, 0, none⟩ = some (.slice A L.length c) ∧ w.ownsRow (sx + 1) 3 1 (.slice A L.length c) L.length (nvs L)
  fz : w.frozen? ⟨sx, 0, none⟩ = false
  ord : w0.heap.size ≤ nb ∧ nb < ox ∧ ox < sx ∧ sx < w.heap.size
  below : Below w0.heap.size w0 w
section
variable {w0 w w' W w1 : World} {n nb ox sx : Nat} {on : Nat → Bool} {L : List Nat}
theorem RR.other (h : RR w0 w n nb ox sx on L) (hb : Below w.heap.size w w') : RR w0 w' n nb ox sx on L := by
  obtain ⟨A, c, hs, ho⟩ := h.row
  have hord := h.ord
  have hl := h.on.lt
  exact ⟨h.on.keep hb, (hb.cell (p := ⟨ox, 0, none⟩) (World.block_lt_of_cell? w _ h.co)).trans h.co, ⟨A, c, (hb.cell (p := ⟨sx, 0, none⟩) hord.2.2.2).trans hs, own_keep ho hb⟩, (hb.frozen (p := ⟨sx, 0, none⟩) hord.2.2.2).trans h.fz, ⟨hord.1, hord.2.1, hord.2.2.1, Nat.lt_of_lt_of_le hord.2.2.2 hb.size⟩, below_then h.below h.below.size hb⟩
theorem RR.setOn (h : RR w0 w n nb ox sx on L) {v : Nat} (hv : v < n) (x : Bool) : RR w0 (w.setCell ⟨nb, v, none⟩ (.bool x)) n nb ox sx (upd on v x) L := by
  obtain ⟨A, c, hs, ho⟩ := h.row
  have hord := h.ord
  have ht := Ap.setCell_tch w ⟨nb, v, none⟩ (.bool x) (fun q => q = nb) rfl
  exact ⟨h.on.set hv x, (ht.cell (p := ⟨ox, 0, none⟩) (World.block_lt_of_cell? w _ h.co) (by simp; omega)).trans h.co, ⟨A, c, (ht.cell (p := ⟨sx, 0, none⟩) hord.2.2.2 (by simp; omega)).trans hs, own_tch ho ht (fun g hg e => by have := own_base ho g hg; omega)⟩, (ht.frozen (p := ⟨sx, 0, none⟩) hord.2.2.2 (by simp; omega)).trans h.fz, ⟨hord.1, hord.2.1, hord.2.2.1, Nat.lt_of_lt_of_le hord.2.2.2 ht.size⟩, below_tch h.below h.below.size ht (fun q _ hq => by omega)⟩
theorem RR.setSt {M : List Nat} (h : RR w0 W n nb ox sx on L) {A : Option Addr} {c : Nat} (hs : W.cell? ⟨sx, 0, none⟩ = some (.slice A L.length c)) (hb : ∀ g, (Value.slice A L.length c).ownBlock = some g → sx + 1 ≤ g) (hg : W.grownBy w1 (Value.slice A L.length c).ownBlock) {B : Option Addr} {d : Nat} (ho : w1.ownsRow (sx + 1) 3 1 (.slice B M.length d) M.length (nvs M)) :
    RR w0 (w1.setCell ⟨sx, 0, none⟩ (.slice B M.length d)) n nb ox sx on M := by
  have hord := h.ord
  have ht := tch_grown hg
  have hS : ∀ k, some k = (Value.slice A L.length c).ownBlock → sx + 1 ≤ k := fun k hk => hb k hk.symm
  have hn : ∀ k, k < sx + 1 → ¬ some k = (Value.slice A L.length c).ownBlock := fun k hk e => by have := hS k e; omega
  have ht2 := Ap.setCell_tch w1 ⟨sx, 0, none⟩ (.slice B M.length d) (fun q => q = sx) rfl
  have hs1 := (ht.cell (p := ⟨sx, 0, none⟩) hord.2.2.2 (hn sx (by omega))).trans hs
  have hsl : sx < w1.heap.size := World.block_lt_of_cell? w1 _ hs1
  have ho1 : ox < W.heap.size := by omega
  have ho2 : ox < w1.heap.size := by omega
  refine ⟨(h.on.tch ht (hn nb (by omega))).tch ht2 (by omega), (ht2.cell (p := ⟨ox, 0, none⟩) ho2 (by simp; omega)).trans ((ht.cell (p := ⟨ox, 0, none⟩) ho1 (hn ox (by omega))).trans h.co), ⟨B, d, World.cell?_setCell_same w1 _ _ hs1, own_tch ho ht2 (fun g hg e => by have := own_base ho g hg; omega)⟩, (World.frozen?_setCell ..).trans ((ht.frozen (p := ⟨sx, 0, none⟩) hord.2.2.2 (hn sx (by omega))).trans h.fz), ⟨hord.1, hord.2.1, hord.2.2.1, Nat.lt_of_lt_of_le hsl ht2.size⟩, ?_⟩
  exact below_tch (below_tch h.below h.below.size ht (fun q _ hq => by have := hS q hq; omega)) (Nat.le_trans h.below.size ht.size) ht2 (fun q _ hq => by omega)
end
set_option maxHeartbeats 2000000 in
set_option maxRecDepth 100000 in
theorem pushR_calls (w0 w : World) (n nb ox sx v : Nat) (on : Nat → Bool) (L : List Nat) (h : RR w0 w n nb ox sx on L) (hv : v < n) (hl : L.length ≤ 100000) :
    Calls Try.prog 39 #[.int .i64 v, ptr ox, ptr sx] w fun e w' => e = .returned (.tuple #[]) ∧ RR w0 w' n nb ox sx (pushOn on v) (pushSt on L v) := by
  have k1 := h.co
  have k2 := h.on.cell hv
  have k3 := h.on.fz v
  by_cases ho : on v = true
  · have hp1 : pushOn on v = on := if_pos ho
    have hp2 : pushSt on L v = L := if_pos ho
    rw [hp1, hp2]
    rw [ho] at k2
    have H := Lib.hid h
    clear h hp1 hp2 ho
    go_enter Try.func39, Try.ntmps39
    go_wp2_with fail
    go_end0
    exact ⟨rfl, H.out⟩
  · have hp1 : pushOn on v = upd on v true := if_neg ho
    have hp2 : pushSt on L v = L ++ [v] := if_neg ho
    rw [hp1, hp2]
    have hof : on v = false := by simpa using ho
    rw [hof] at k2
    have h2 := h.setOn hv true
    obtain ⟨A, c, hs, hown⟩ := h2.row
    have hfz := h2.fz
    have hord := h2.ord
    have H := Lib.hid h2
    clear h h2 hp1 hp2 ho hof
    go_enter Try.func39, Try.ntmps39
    go_upto_region 2 with fail
    generalize w.setCell ⟨nb, v, none⟩ (.bool true) = W at *
    have hbs : ∀ g, (Value.slice A L.length c).ownBlock = some g → sx + 1 ≤ g := fun g hg => own_base hown g hg
    have hxn : ¬ some sx = (Value.slice A L.length c).ownBlock := fun e => by have := hbs sx e.symm; omega
    have HB := Lib.hid hbs
    clear hbs
    go_wp2_with (at_builtin; go_loud (refine app_own hown (Below.refl _ _) (.tmp 12) (.tmp 14) [.int .i64 v] 26 _ _ Try.underlying26 info3 (by omega) (by decide) (by omega) rfl rfl rfl (by decide) rfl rfl rfl (by simp [Value.oneCell']) ?_); intro v1 w1 ho1 hb1 hg1 hat1; obtain ⟨vA1, vc1, rfl, hvc1, hvc2⟩ := own_form ho1; have HAT := Lib.hid hat1; clear hat1; have hT1 := tch_grown hg1; have hs1 := (hT1.cell (p := ⟨sx, 0, none⟩) hord.2.2.2 hxn).trans hs; have hf1 := (hT1.frozen (p := ⟨sx, 0, none⟩) hord.2.2.2 hxn).trans hfz)
    go_end0
    have hfin := H.out.setSt (M := L ++ [v]) hs HB.out hg1 (B := vA1) (d := vc1) (by rw [List.length_append, nvs_snoc]; exact ho1)
    rw [List.length_append] at hfin
    exact ⟨rfl, hfin⟩
end Go.Proofs.Ytnhnckhjcnjacaa.ST
