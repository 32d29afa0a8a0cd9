/- The walks over the methods of a Cache[string, int]: cut, front, Get, Put, Len, by the representation. -/
import Derived.Test.YtdjkheiakkhngaaGreatDoorProg
import Derived.Test.YtdjkheiakkhngaaGreatDoorKw
import Derived.Test.YtdjkheiakkhngaaGreatDoorKwCache
import Derived.RegionTactic
namespace Go.Proofs.YtdjkheiakkhngaaGreatDoor.Cb
open Go.RowKit Go.Proofs.YtdjkheiakkhngaaGreatDoorKw
set_option linter.unusedVariables false
set_option linter.unusedSimpArgs false
set_option maxHeartbeats 1000000 in
set_option maxRecDepth 100000 in
theorem cutC (c : Value) (bx ox bp op bn on : Nat) (u1 u2 : Value) (w : World) (hp : w.cell? ⟨bx, ox + 2, none⟩ = some (.pointer (some ⟨bp, op, none⟩))) (hn : w.cell? ⟨bx, ox + 3, none⟩ = some (.pointer (some ⟨bn, on, none⟩)))
    (h1 : w.cell? ⟨bp, op + 3, none⟩ = some u1) (h2 : w.cell? ⟨bn, on + 2, none⟩ = some u2) (f1 : w.frozen? ⟨bp, op + 3, none⟩ = false) (f2 : w.frozen? ⟨bn, on + 2, none⟩ = false) (hpx : bp ≠ bx) (hpn : bp = bn → op + 3 ≠ on + 2) :
    Calls Tryz.prog 20 #[c, .pointer (some ⟨bx, ox, none⟩)] w fun e w' => e = .returned (.tuple #[]) ∧ ∃ k, w' = (cutW w bp op bn on).drewN k := by
  unfold cutW
  have g1 : (w.setCell ⟨bp, op + 3, none⟩ (.pointer (some ⟨bn, on, none⟩))).cell? ⟨bx, ox + 2, none⟩ = some (.pointer (some ⟨bp, op, none⟩)) := by rw [World.cell?_setCell_other _ _ _ _ (by simp [hpx])]; exact hp
  have g2 : (w.setCell ⟨bp, op + 3, none⟩ (.pointer (some ⟨bn, on, none⟩))).cell? ⟨bx, ox + 3, none⟩ = some (.pointer (some ⟨bn, on, none⟩)) := by rw [World.cell?_setCell_other _ _ _ _ (by simp [hpx])]; exact hn
  have g3 : (w.setCell ⟨bp, op + 3, none⟩ (.pointer (some ⟨bn, on, none⟩))).cell? ⟨bn, on + 2, none⟩ = some u2 := by rw [World.cell?_setCell_other _ _ _ _ (by simp; omega)]; exact h2
  have g4 : (w.setCell ⟨bp, op + 3, none⟩ (.pointer (some ⟨bn, on, none⟩))).frozen? ⟨bn, on + 2, none⟩ = false := by rw [World.frozen?_setCell]; exact f2
  go_enter Tryz.func20, Tryz.ntmps20
  go_wp2
  go_region
  generalize hw1 : w.setCell ⟨bp, op + 3, none⟩ (.pointer (some ⟨bn, on, none⟩)) = w1 at *
  go_wp2
  go_region
  go_wp2
  go_end0
  subst hw1
  exact ⟨rfl, 2, rfl⟩

set_option maxHeartbeats 1000000 in
set_option maxRecDepth 100000 in
theorem frontC (bc bx bf of : Nat) (u1 u2 u3 : Value) (w : World) (hr : w.cell? ⟨bc, 5, none⟩ = some (.pointer (some ⟨bf, of, none⟩)))
    (h1 : w.cell? ⟨bx, 2, none⟩ = some u1) (h2 : w.cell? ⟨bx, 3, none⟩ = some u2) (h3 : w.cell? ⟨bf, of + 2, none⟩ = some u3)
    (f1 : w.frozen? ⟨bx, 2, none⟩ = false) (f2 : w.frozen? ⟨bx, 3, none⟩ = false) (f3 : w.frozen? ⟨bf, of + 2, none⟩ = false) (f4 : w.frozen? ⟨bc, 5, none⟩ = false) (hcx : bx ≠ bc) (hfx : bx ≠ bf) (hcf : bf = bc → of + 2 ≠ 5) :
    Calls Tryz.prog 21 #[.pointer (some ⟨bc, 0, none⟩), .pointer (some ⟨bx, 0, none⟩)] w fun e w' => e = .returned (.tuple #[]) ∧ w' = frontW w bc bx bf of := by
  unfold frontW
  go_enter Tryz.func21, Tryz.ntmps21
  generalize hw1 : w.setCell ⟨bx, 2, none⟩ (.pointer (some ⟨bc, 2, none⟩)) = w1
  generalize hw2 : w1.setCell ⟨bx, 3, none⟩ (.pointer (some ⟨bf, of, none⟩)) = w2
  generalize hw3 : w2.setCell ⟨bf, of + 2, none⟩ (.pointer (some ⟨bx, 0, none⟩)) = w3
  have a1 : w1.cell? ⟨bc, 5, none⟩ = some (.pointer (some ⟨bf, of, none⟩)) := by rw [← hw1, World.cell?_setCell_other _ _ _ _ (by simp [hcx])]; exact hr
  have a2 : w1.cell? ⟨bx, 3, none⟩ = some u2 := by rw [← hw1, World.cell?_setCell_other _ _ _ _ (by simp)]; exact h2
  have a3 : w1.frozen? ⟨bx, 3, none⟩ = false := by rw [← hw1, World.frozen?_setCell]; exact f2
  have a4 : w2.cell? ⟨bx, 3, none⟩ = some (.pointer (some ⟨bf, of, none⟩)) := by rw [← hw2]; exact World.cell?_setCell_same _ _ _ a2
  have a5 : w2.cell? ⟨bf, of + 2, none⟩ = some u3 := by rw [← hw2, World.cell?_setCell_other _ _ _ _ (by simp [hfx]), ← hw1, World.cell?_setCell_other _ _ _ _ (by simp [hfx])]; exact h3
  have a6 : w2.frozen? ⟨bf, of + 2, none⟩ = false := by rw [← hw2, World.frozen?_setCell, ← hw1, World.frozen?_setCell]; exact f3
  have a7 : w3.cell? ⟨bc, 5, none⟩ = some (.pointer (some ⟨bf, of, none⟩)) := by rw [← hw3, World.cell?_setCell_other _ _ _ _ (by simp; omega), ← hw2, World.cell?_setCell_other _ _ _ _ (by simp [hcx])]; exact a1
  have a8 : w3.frozen? ⟨bc, 5, none⟩ = false := by rw [← hw3, World.frozen?_setCell, ← hw2, World.frozen?_setCell, ← hw1, World.frozen?_setCell]; exact f4
  go_wp2
  go_end0
  exact ⟨rfl, rfl⟩

/-- cut, by the representation. -/
theorem cutR {K : Type} [DecidableEq K] {kind : TypeDesc} (E : Enc K kind) (bc bm : Nat) (most : Int) (l1 l2 : List (Nat × K × Value)) (n : Nat × K × Value) (w : World) (hr : Ring w bc ((l1 ++ n :: l2).map (·.1))) {L : List (Nat × K × Value)} (hb : Body E w bc bm most L) (c : Value) :
    Calls Tryz.prog 20 #[c, .pointer (some ⟨n.1, 0, none⟩)] w fun e w' => e = .returned (.tuple #[]) ∧ Ring w' bc ((l1 ++ l2).map (·.1)) ∧ Body E w' bc bm most L ∧ (∀ o, w'.cell? ⟨n.1, o, none⟩ = w.cell? ⟨n.1, o, none⟩) ∧ (∀ a, w'.frozen? a = w.frozen? a) ∧ Tch (fun k => k = bc ∨ k ∈ (l1 ++ l2).map (·.1)) w w' ∧
      n.1 ∉ bc :: (l1 ++ l2).map (·.1) ∧ (∃ v2, w.cell? ⟨n.1, 2, none⟩ = some v2) ∧ w.cell? ⟨n.1, 3, none⟩ = some (.pointer (some ((l2.map (fun n => nd n.1) ++ [R bc]).headD (R bc)))) := by
  rw [List.map_append, List.map_cons] at hr
  obtain ⟨bp, op, bn, on, u1, u2, hp, hn, h1, h2, f1, f2, hpx, hnx, hpn, mp, mn, hhd, _, hR⟩ := hr.cut
  refine (cutC c n.1 0 bp op bn on u1 u2 w hp hn h1 h2 f1 f2 hpx hpn).mono ?_
  rintro e w' ⟨rfl, k, rfl⟩
  refine ⟨rfl, by rw [List.map_append]; exact hR _ ⟨k, rfl⟩, (hb.cutW E bp op bn on).drewN E k, fun o => cutW_cell w bp op bn on n.1 o (.inl ⟨hpx, hnx⟩), fun a => cutW_frozen w bp op bn on a, (cutW_touch w bp op bn on _ ?_ ?_).drewN k, ?_, ⟨_, hp⟩, ?_⟩
  · simpa using mp
  · simpa using mn
  · have := hr.nodup
    simp only [List.nodup_cons, List.mem_append, List.mem_cons, List.nodup_append, List.map_append] at this ⊢
    rintro (e | hm | hm)
    · exact this.1 (.inr (.inl e.symm))
    · exact this.2.2.2 _ hm _ (.inl rfl) rfl
    · exact this.2.2.1.1 hm
  · rw [show l2.map (fun n => nd n.1) = (l2.map (·.1)).map nd by simp [Function.comp_def], ← hhd]
    exact hn
theorem frontR {K : Type} [DecidableEq K] {kind : TypeDesc} (E : Enc K kind) (bc bm : Nat) (most : Int) (bs : List Nat) (b : Nat) (w : World) (hr : Ring w bc bs) (hb : b ∉ bc :: bs) (hf : ∀ o, w.frozen? ⟨b, o, none⟩ = false) {v2 v3 : Value} (h2 : w.cell? ⟨b, 2, none⟩ = some v2) (h3 : w.cell? ⟨b, 3, none⟩ = some v3) {L : List (Nat × K × Value)} (hB : Body E w bc bm most L) :
    Calls Tryz.prog 21 #[.pointer (some ⟨bc, 0, none⟩), .pointer (some ⟨b, 0, none⟩)] w fun e w' => e = .returned (.tuple #[]) ∧ Ring w' bc (b :: bs) ∧ Body E w' bc bm most L ∧ (∀ b o, o < 2 → w'.cell? ⟨b, o, none⟩ = w.cell? ⟨b, o, none⟩) ∧ (∀ a, w'.frozen? a = w.frozen? a) ∧ Tch (fun k => k = bc ∨ k = b ∨ k ∈ bs) w w' := by
  obtain ⟨bf, of, u3, g1, g2, g3, g4, g5, g6, g7, hR⟩ := hr.front hb hf h2 h3
  refine (frontC bc b bf of v2 v3 u3 w g1 h2 h3 g2 (hf _) (hf _) g3 g4 (fun e => hb (by simp [e])) g5 g6).mono ?_
  rintro e w' ⟨rfl, rfl⟩
  refine ⟨rfl, hR, hB.frontW E b bf of, fun b' o ho => frontW_cell w bc b bf of b' o ho, fun a => frontW_frozen w bc b bf of a, frontW_touch w bc b bf of _ (.inl rfl) (.inr (.inl rfl)) ?_⟩
  rcases List.mem_cons.1 g7 with h | h
  · exact .inl h
  · exact .inr (.inr h)

theorem find_mid {K : Type} [DecidableEq K] (l1 l2 : List (Nat × K × Value)) (n : Nat × K × Value) (h : ((l1 ++ n :: l2).map (·.2.1)).Nodup) : (l1 ++ n :: l2).find? (fun p => decide (p.2.1 = n.2.1)) = some n := by
  rw [List.find?_append]
  have : l1.find? (fun p => decide (p.2.1 = n.2.1)) = none := by
    rw [List.find?_eq_none]
    intro x hx
    have := nodup_mid h x (by simp [hx])
    simp [this]
  rw [this]
  simp
theorem zeroE : ∀ w : World, (zeroValue 65).run Tryz.prog w = .ok (.pointer none) w := fun w => by kernel_rfl
set_option maxHeartbeats 1000000 in
set_option maxRecDepth 100000 in
theorem get_hit (bc bm : Nat) (most : Int) (l1 l2 : List (Nat × ByteArray × Value)) (b : Nat) (k : ByteArray) (sv : Int) (w : World) (h : CacheR encStr w bc bm most (l1 ++ (b, k, (.int .i64 sv)) :: l2)) :
    Calls Tryz.prog 28 #[.pointer (some ⟨bc, 0, none⟩), .string k] w fun e w' => e = .returned (.tuple #[(.int .i64 sv), .bool true]) ∧ CacheR encStr w' bc bm most ((b, k, (.int .i64 sv)) :: (l1 ++ l2)) ∧ Tch (Own bc bm (l1 ++ (b, k, (.int .i64 sv)) :: l2)) w w' := by
  obtain ⟨m, hm, hmn, hmp, hfind⟩ := h.body.find encStr k
  have hL := find_mid l1 l2 (b, k, (.int .i64 sv)) h.body.keys
  rw [hL] at hfind
  have hlook := map_look encStr hm (T := 64) (et := 65) Tryz.underlying64 Tryz.underlying9 zeroE k
  rw [hfind] at hlook
  have hc1 := h.body.map
  have hlook' : (Instr.lookup 64 (.map (some bm)) (.string k) true).run Tryz.prog w = .ok (.tuple #[.pointer (some ⟨b, 0, none⟩), .bool true]) w := hlook
  clear hlook hfind hL
  go_enter Tryz.func28, Tryz.ntmps28
  go_wp2_with fail
  refine (cutR encStr bc bm most l1 l2 (b, k, (.int .i64 sv)) w h.ring h.body _).mono ?_
  rintro e w1 ⟨rfl, hr1, hb1, hcb1, hf1, ht1, hnb, ⟨v2, hc2⟩, hc3⟩
  go_wp2_with fail
  refine (frontR encStr bc bm most _ b w1 hr1 hnb (fun o => by rw [hf1]; exact h.ring.free b (by simp) o) (by rw [hcb1]; exact hc2) (by rw [hcb1]; exact hc3) hb1).mono ?_
  rintro e w2 ⟨rfl, hr2, hb2, hcb2, hf2, ht2⟩
  have hv : w2.cell? ⟨b, 1, none⟩ = some (.int .i64 sv) := by rw [hcb2 _ _ (by omega), hcb1]; exact (h.body.items (b, k, (.int .i64 sv)) (by simp)).2
  clear hcb1 hcb2 hf1 hf2
  go_wp2_with fail
  go_ret2
  refine ⟨rfl, ⟨hr2, hb2.perm encStr List.perm_middle⟩, (ht1.mono fun k _ hk => ?_).trans (ht2.mono fun k _ hk => ?_)⟩
  · rcases hk with rfl | hk
    · exact .inl rfl
    · refine .inr (.inr ?_)
      simp only [List.map_append, List.mem_append, List.map_cons, List.mem_cons] at hk ⊢
      rcases hk with hk | hk <;> simp [hk]
  · rcases hk with rfl | rfl | hk
    · exact .inl rfl
    · exact .inr (.inr (by simp))
    · refine .inr (.inr ?_)
      simp only [List.map_append, List.mem_append, List.map_cons, List.mem_cons] at hk ⊢
      rcases hk with hk | hk <;> simp [hk]

set_option maxHeartbeats 1000000 in
set_option maxRecDepth 100000 in
theorem get_miss (bc bm : Nat) (most : Int) (L : List (Nat × ByteArray × Value)) (k : ByteArray) (w : World) (h : CacheR encStr w bc bm most L) (hno : ∀ n ∈ L, n.2.1 ≠ k) :
    Calls Tryz.prog 28 #[.pointer (some ⟨bc, 0, none⟩), .string k] w fun e w' => e = .returned (.tuple #[.int .i64 0, .bool false]) ∧ Below w.heap.size w w' := by
  obtain ⟨m, hm, hmn, hmp, hfind⟩ := h.body.find encStr k
  have hL : L.find? (fun n => decide (n.2.1 = k)) = none := by
    rw [List.find?_eq_none]
    intro x hx
    simp [hno x hx]
  rw [hL] at hfind
  have hlook := map_look encStr hm (T := 64) (et := 65) Tryz.underlying64 Tryz.underlying9 zeroE k
  rw [hfind] at hlook
  have hc1 := h.body.map
  have hlook' : (Instr.lookup 64 (.map (some bm)) (.string k) true).run Tryz.prog w = .ok (.tuple #[.pointer none, .bool false]) w := hlook
  clear hlook hfind hL
  go_enter Tryz.func28, Tryz.ntmps28
  go_wp2_with fail
  go_ret2
  exact ⟨rfl, below_alloc (Below.refl _ _) _⟩

/-- Put, the key being there. -/
theorem own_mid {l1 l2 : List (Nat × ByteArray × Value)} {n n' : Nat × ByteArray × Value} (hn : n'.1 = n.1) (bc bm k : Nat) : Own bc bm (l1 ++ n' :: l2) k ↔ Own bc bm (l1 ++ n :: l2) k := by
  simp [Own, hn]
set_option maxHeartbeats 1000000 in
set_option maxRecDepth 100000 in
theorem put_hit (bc bm : Nat) (most : Int) (l1 l2 : List (Nat × ByteArray × Value)) (b : Nat) (k : ByteArray) (v0 : Value) (sv : Int) (w : World) (h : CacheR encStr w bc bm most (l1 ++ (b, k, v0) :: l2)) (hlen : ((l1 ++ (b, k, v0) :: l2).length : Int) ≤ most) (hmost : most ≤ 4096) :
    Calls Tryz.prog 11 #[.pointer (some ⟨bc, 0, none⟩), .string k, (.int .i64 sv)] w fun e w' => e = .returned (.tuple #[]) ∧ CacheR encStr w' bc bm most ((b, k, (.int .i64 sv)) :: (l1 ++ l2)) ∧ Tch (Own bc bm (l1 ++ (b, k, v0) :: l2)) w w' := by
  obtain ⟨m, hm, hmn, hmp, hfind⟩ := h.body.find encStr k
  have hL := find_mid l1 l2 (b, k, v0) h.body.keys
  rw [hL] at hfind
  have hlook := map_look encStr hm (T := 64) (et := 65) Tryz.underlying64 Tryz.underlying9 zeroE k
  rw [hfind] at hlook
  have hc1 := h.body.map
  have hlook' : (Instr.lookup 64 (.map (some bm)) (.string k) true).run Tryz.prog w = .ok (.tuple #[.pointer (some ⟨b, 0, none⟩), .bool true]) w := hlook
  have Hlen := Lib.hid hlen
  clear hlook hfind hL hlen
  go_enter Tryz.func11, Tryz.ntmps11
  go_wp2_with fail
  refine (cutR encStr bc bm most l1 l2 (b, k, v0) w h.ring h.body _).mono ?_
  rintro e w1 ⟨rfl, hr1, hb1, hcb1, hf1, ht1, hnb, ⟨v2, hc2⟩, hc3⟩
  obtain ⟨v3, hc3⟩ : ∃ v3, w.cell? ⟨b, 3, none⟩ = some v3 := ⟨_, hc3⟩
  have hv : w1.cell? ⟨b, 1, none⟩ = some v0 := by rw [hcb1]; exact (h.body.items (b, k, v0) (by simp)).2
  have hfv : w1.frozen? ⟨b, 1, none⟩ = false := by rw [hf1]; exact h.ring.free b (by simp) 1
  have hb1' := hb1.setVal encStr h.ring.nodup (.int .i64 sv)
  have hr1' := hr1.setCell_out hnb 1 (.int .i64 sv)
  have hfr : ∀ o, (w1.setCell ⟨b, 1, none⟩ (.int .i64 sv)).frozen? ⟨b, o, none⟩ = false := fun o => by rw [frozen_setCell, hf1]; exact h.ring.free b (by simp) o
  have hc2' : (w1.setCell ⟨b, 1, none⟩ (.int .i64 sv)).cell? ⟨b, 2, none⟩ = some v2 := by rw [World.cell?_setCell_other _ _ _ _ (by simp), hcb1]; exact hc2
  have hc3' : (w1.setCell ⟨b, 1, none⟩ (.int .i64 sv)).cell? ⟨b, 3, none⟩ = some v3 := by rw [World.cell?_setCell_other _ _ _ _ (by simp), hcb1]; exact hc3
  clear hcb1 hf1 hc2 hc3
  go_wp2_with fail
  refine (frontR encStr bc bm most _ b _ hr1' hnb hfr hc2' hc3' hb1').mono ?_
  rintro e w2 ⟨rfl, hr2, hb2, hcb2, hf2, ht2⟩
  have hlenr := fun n => hb2.len encStr (P := Tryz.prog) (T := 64) (et := 65) Tryz.underlying64 3 n
  have hm2 := hb2.map
  have hm3 := hb2.most
  have hl2 : ((l1 ++ (b, k, (.int .i64 sv)) :: l2).length : Int) ≤ most := by have := Hlen.out; simpa using this
  generalize hLL : (l1 ++ (b, k, (.int .i64 sv)) :: l2).length = LL at *
  have hl3 : decide (most < (LL : Int)) = false := by simp; omega
  clear hcb2 hf2 hv hfv hfr hc2' hc3' hc1 hlook'
  go_wp2_with fail
  go_quiet (fail)
  go_wp2_with fail
  go_end0
  refine ⟨rfl, ⟨?_, ?_⟩, ?_⟩
  · exact hr2.heap (fun _ _ _ _ _ hu => hu) (fun _ _ _ => rfl)
  · exact (hb2.perm encStr List.perm_middle).drewN encStr _
  · refine Tch.drewN ((((ht1.mono ?_).setCell ?_ _).trans (ht2.mono ?_))) _
    · intro q _ hq
      rcases hq with rfl | hq
      · exact .inl rfl
      · refine .inr (.inr ?_)
        simp only [List.map_append, List.mem_append, List.map_cons, List.mem_cons] at hq ⊢
        rcases hq with hq | hq <;> simp [hq]
    · exact .inr (.inr (by simp))
    · intro q _ hq
      rcases hq with rfl | rfl | hq
      · exact .inl rfl
      · exact .inr (.inr (by simp))
      · refine .inr (.inr ?_)
        simp only [List.map_append, List.mem_append, List.map_cons, List.mem_cons] at hq ⊢
        rcases hq with hq | hq <;> simp [hq]

/-- What a new item's block holds. -/
def newItem (k : ByteArray) : Obj := .cells #[.string k, .int .i64 0, .pointer none, .pointer none] 67
theorem ring_setMap {w : World} {bc bm : Nat} {bs : List Nat} (h : Ring w bc bs) {m : List (ByteArray × Value)} (hm : MapIs encStr w bm m) (hne : ∀ b ∈ bc :: bs, b ≠ bm) (o : Obj) : Ring (setMap w bm o) bc bs := by
  obtain ⟨es, clock, hb, _⟩ := hm
  exact h.heap (fun _ _ _ _ _ hu => setMap_cell hb o hu) (fun b hbm _ => setMap_frozen hb o (hne b hbm))
/-- The new item is laid and entered in the map. -/
theorem body_push {bc bm : Nat} {most : Int} {L : List (Nat × ByteArray × Value)} {k : ByteArray} {w : World} (h : CacheR encStr w bc bm most L) (hno : ∀ n ∈ L, n.2.1 ≠ k) :
    ∃ o, (Instr.mapUpdate 64 (.map (some bm)) (.string k) (.pointer (some ⟨w.heap.size, 0, none⟩))).run Tryz.prog (w.alloc (newItem k)) = .ok () (setMap (w.alloc (newItem k)) bm o) ∧
      Body encStr (setMap (w.alloc (newItem k)) bm o) bc bm most ((w.heap.size, k, .int .i64 0) :: L) ∧ Ring (setMap (w.alloc (newItem k)) bm o) bc (L.map (·.1)) ∧
      (∀ j v, (#[.string k, .int .i64 0, .pointer none, .pointer none] : Array Value)[j]? = some v → (setMap (w.alloc (newItem k)) bm o).cell? ⟨w.heap.size, j, none⟩ = some v) ∧ (∀ j, (setMap (w.alloc (newItem k)) bm o).frozen? ⟨w.heap.size, j, none⟩ = false) ∧ Tch (Own bc bm L) w (setMap (w.alloc (newItem k)) bm o) := by
  have hlt := h.lt encStr
  have hA : CacheR encStr (w.alloc (newItem k)) bc bm most L := h.keep encStr (Tch.alloc (Tch.refl (fun k => w.heap.size ≤ k) w) _) (fun q hq => by have := hlt q hq; omega)
  obtain ⟨m, hm, hmn, hmp, hfind⟩ := hA.body.find encStr k
  have hL : L.find? (fun n => decide (n.2.1 = k)) = none := by
    rw [List.find?_eq_none]
    intro x hx
    simp [hno x hx]
  rw [hL] at hfind
  obtain ⟨o, hrun, hM⟩ := map_push encStr (P := Tryz.prog) hm (T := 64) (et := 65) Tryz.underlying64 Tryz.underlying9 k (.pointer (some ⟨w.heap.size, 0, none⟩)) hfind
  obtain ⟨es, clock, hb, he⟩ := hm
  have hne := hA.body.ne_map encStr
  have hcell : ∀ j v, (#[.string k, .int .i64 0, .pointer none, .pointer none] : Array Value)[j]? = some v → (setMap (w.alloc (newItem k)) bm o).cell? ⟨w.heap.size, j, none⟩ = some v := fun j v hj => by
    refine setMap_cell hb o ?_
    show (World.alloc w _).cell? _ = _
    simp only [World.cell?, heap_alloc_new, newItem]
    simpa using hj
  refine ⟨o, hrun, ⟨setMap_cell hb o hA.body.most, setMap_cell hb o hA.body.map, fun n hn => ?_, ⟨_, hM, ?_⟩, ?_⟩, ?_, hcell, fun j => ?_, ?_⟩
  · rcases List.mem_cons.1 hn with rfl | hn
    · exact ⟨hcell 0 _ (by rfl), hcell 1 _ (by rfl)⟩
    · have := hA.body.items n hn
      exact ⟨setMap_cell hb o this.1, setMap_cell hb o this.2⟩
  · rw [List.map_cons]
    exact (List.perm_append_singleton _ _).trans (hmp.cons _)
  · rw [List.map_cons, List.nodup_cons]
    exact ⟨fun hm => by obtain ⟨n, hn, e⟩ := List.mem_map.1 hm; exact hno n hn e, h.body.keys⟩
  · exact ring_setMap hA.ring ⟨es, clock, hb, he⟩ (fun b hbm => by
      rcases List.mem_cons.1 hbm with rfl | hbm
      · exact hne.1
      · exact hne.2 b hbm) o
  · rw [setMap_frozen hb o (by have := hlt bm (.inr (.inl rfl)); simp; omega)]
    unfold World.frozen?
    rw [heap_alloc_new]
    simp [newItem]
  · exact ((Tch.refl _ w).alloc _).trans (setMap_tch _ bm o _ (.inr (.inl rfl)))

set_option maxHeartbeats 1000000 in
set_option maxRecDepth 100000 in
theorem put_room (bc bm : Nat) (most : Int) (L : List (Nat × ByteArray × Value)) (k : ByteArray) (sv : Int) (w : World) (h : CacheR encStr w bc bm most L) (hno : ∀ n ∈ L, n.2.1 ≠ k) (hlen : (L.length : Int) + 1 ≤ most) (hmost : most ≤ 4096) :
    Calls Tryz.prog 11 #[.pointer (some ⟨bc, 0, none⟩), .string k, (.int .i64 sv)] w fun e w' => e = .returned (.tuple #[]) ∧ CacheR encStr w' bc bm most ((w.heap.size, k, (.int .i64 sv)) :: L) ∧ Tch (Own bc bm L) w w' := by
  obtain ⟨m, hm, hmn, hmp, hfind⟩ := h.body.find encStr k
  have hL : L.find? (fun n => decide (n.2.1 = k)) = none := by
    rw [List.find?_eq_none]
    intro x hx
    simp [hno x hx]
  rw [hL] at hfind
  have hlook := map_look encStr hm (T := 64) (et := 65) Tryz.underlying64 Tryz.underlying9 zeroE k
  rw [hfind] at hlook
  have hc1 := h.body.map
  have hlook' : (Instr.lookup 64 (.map (some bm)) (.string k) true).run Tryz.prog w = .ok (.tuple #[.pointer none, .bool false]) w := hlook
  have Hlen := Lib.hid hlen
  have hlt := h.lt encStr
  obtain ⟨o, hrun, hb1, hr1, hcell, hfr, ht1⟩ := body_push h hno
  have hcA : (w.alloc (newItem k)).cell? ⟨bc, 1, none⟩ = some (.map (some bm)) := by
    rw [World.cell?_alloc_lt _ _ _ (hlt bc (.inl rfl))]; exact hc1
  have hc0 := hcell 1 _ (by rfl)
  have hc2 := hcell 2 _ (by rfl)
  have hc3 := hcell 3 _ (by rfl)
  have hfr1 := hfr 1
  unfold newItem at *
  generalize hW1 : setMap (w.alloc (Obj.cells #[.string k, .int .i64 0, .pointer none, .pointer none] 67)) bm o = W1 at *
  have hnb : w.heap.size ∉ bc :: L.map (·.1) := fun hm => by
    have := hlt w.heap.size (by rcases List.mem_cons.1 hm with e | e; exact .inl e; exact .inr (.inr e))
    omega
  have hnd : (bc :: (([] : List (Nat × ByteArray × Value)) ++ (w.heap.size, k, (.int .i64 0 : Value)) :: L).map (·.1)).Nodup := by
    have := h.ring.nodup
    simp only [List.nil_append, List.map_cons, List.nodup_cons, List.mem_cons, not_or] at this hnb ⊢
    exact ⟨⟨fun e => hnb.1 e.symm, this.1⟩, hnb.2, this.2⟩
  have hb1' := Body.setVal encStr (l1 := []) hb1 hnd (.int .i64 sv)
  have hr1' := hr1.setCell_out hnb 1 (.int .i64 sv)
  have hfr' : ∀ o, (W1.setCell ⟨w.heap.size, 1, none⟩ (.int .i64 sv)).frozen? ⟨w.heap.size, o, none⟩ = false := fun o => by rw [frozen_setCell]; exact hfr o
  have hc2' : (W1.setCell ⟨w.heap.size, 1, none⟩ (.int .i64 sv)).cell? ⟨w.heap.size, 2, none⟩ = some (.pointer none) := by rw [World.cell?_setCell_other _ _ _ _ (by simp)]; exact hc2
  have hc3' : (W1.setCell ⟨w.heap.size, 1, none⟩ (.int .i64 sv)).cell? ⟨w.heap.size, 3, none⟩ = some (.pointer none) := by rw [World.cell?_setCell_other _ _ _ _ (by simp)]; exact hc3
  clear hlook hfind hL hlen hcell hfr hc2 hc3
  go_enter Tryz.func11, Tryz.ntmps11
  go_wp2_with fail
  refine (frontR encStr bc bm most _ w.heap.size _ hr1' hnb hfr' hc2' hc3' hb1').mono ?_
  rintro e w2 ⟨rfl, hr2, hb2, hcb2, hf2, ht2⟩
  have hlenr := fun n => hb2.len encStr (P := Tryz.prog) (T := 64) (et := 65) Tryz.underlying64 3 n
  have hm2 := hb2.map
  have hm3 := hb2.most
  have hl2 : ((([] : List (Nat × ByteArray × Value)) ++ (w.heap.size, k, ((.int .i64 sv) : Value)) :: L).length : Int) ≤ most := by have := Hlen.out; simpa using this
  generalize hLL : (([] : List (Nat × ByteArray × Value)) ++ (w.heap.size, k, ((.int .i64 sv) : Value)) :: L).length = LL at *
  have hl3 : decide (most < (LL : Int)) = false := by simp; omega
  clear hcb2 hf2 hc0 hfr1 hfr' hc2' hc3' hc1 hlook' hrun hcA
  go_wp2_with fail
  go_quiet (fail)
  go_wp2_with fail
  go_end0
  refine ⟨rfl, ⟨?_, ?_⟩, ?_⟩
  · exact hr2.heap (fun _ _ _ _ _ hu => hu) (fun _ _ _ => rfl)
  · exact hb2.drewN encStr _
  · have hsz : w.heap.size ≤ w.heap.size := Nat.le_refl _
    refine Tch.drewN ?_ _
    have t1 : Tch (fun q => Own bc bm L q ∨ w.heap.size ≤ q) w w2 :=
      ((ht1.mono fun q _ hq => .inl hq).setCell (.inr (Nat.le_refl _)) _).trans (ht2.mono fun q _ hq => by
        rcases hq with rfl | rfl | hq
        · exact .inl (.inl rfl)
        · exact .inr (Nat.le_refl _)
        · exact .inl (.inr (.inr hq)))
    exact t1.mono fun q hq hs => by
      rcases hs with hs | hs
      · exact hs
      · omega

set_option maxHeartbeats 2000000 in
set_option maxRecDepth 100000 in
theorem put_full (bc bm : Nat) (most : Int) (l1 : List (Nat × ByteArray × Value)) (bl : Nat) (kl : ByteArray) (vl : Value) (k : ByteArray) (sv : Int) (w : World) (h : CacheR encStr w bc bm most (l1 ++ [(bl, kl, vl)])) (hno : ∀ n ∈ l1 ++ [(bl, kl, vl)], n.2.1 ≠ k) (hlen : ((l1 ++ [(bl, kl, vl)]).length : Int) = most) (hmost : most ≤ 4096) :
    Calls Tryz.prog 11 #[.pointer (some ⟨bc, 0, none⟩), .string k, (.int .i64 sv)] w fun e w' => e = .returned (.tuple #[]) ∧ CacheR encStr w' bc bm most ((w.heap.size, k, (.int .i64 sv)) :: l1) ∧ Tch (Own bc bm (l1 ++ [(bl, kl, vl)])) w w' := by
  obtain ⟨m, hm, hmn, hmp, hfind⟩ := h.body.find encStr k
  have hL : (l1 ++ [(bl, kl, vl)]).find? (fun n => decide (n.2.1 = k)) = none := by
    rw [List.find?_eq_none]
    intro x hx
    simp [hno x hx]
  rw [hL] at hfind
  have hlook := map_look encStr hm (T := 64) (et := 65) Tryz.underlying64 Tryz.underlying9 zeroE k
  rw [hfind] at hlook
  have hc1 := h.body.map
  have hlook' : (Instr.lookup 64 (.map (some bm)) (.string k) true).run Tryz.prog w = .ok (.tuple #[.pointer none, .bool false]) w := hlook
  have Hlen := Lib.hid hlen
  have hlt := h.lt encStr
  obtain ⟨o, hrun, hb1, hr1, hcell, hfr, ht1⟩ := body_push h hno
  have hcA : (w.alloc (newItem k)).cell? ⟨bc, 1, none⟩ = some (.map (some bm)) := by
    rw [World.cell?_alloc_lt _ _ _ (hlt bc (.inl rfl))]; exact hc1
  have hc0 := hcell 1 _ (by rfl)
  have hc2 := hcell 2 _ (by rfl)
  have hc3 := hcell 3 _ (by rfl)
  have hfr1 := hfr 1
  unfold newItem at *
  generalize hW1 : setMap (w.alloc (Obj.cells #[.string k, .int .i64 0, .pointer none, .pointer none] 67)) bm o = W1 at *
  have hnb : w.heap.size ∉ bc :: (l1 ++ [(bl, kl, vl)]).map (·.1) := fun hm => by
    have := hlt w.heap.size (by rcases List.mem_cons.1 hm with e | e; exact .inl e; exact .inr (.inr e))
    omega
  have hnd : (bc :: (([] : List (Nat × ByteArray × Value)) ++ (w.heap.size, k, (.int .i64 0 : Value)) :: (l1 ++ [(bl, kl, vl)])).map (·.1)).Nodup := by
    have := h.ring.nodup
    simp only [List.nil_append, List.map_cons, List.nodup_cons, List.mem_cons, not_or] at this hnb ⊢
    exact ⟨⟨fun e => hnb.1 e.symm, this.1⟩, hnb.2, this.2⟩
  have hb1' := Body.setVal encStr (l1 := []) hb1 hnd (.int .i64 sv)
  have hr1' := hr1.setCell_out hnb 1 (.int .i64 sv)
  have hfr' : ∀ o, (W1.setCell ⟨w.heap.size, 1, none⟩ (.int .i64 sv)).frozen? ⟨w.heap.size, o, none⟩ = false := fun o => by rw [frozen_setCell]; exact hfr o
  have hc2' : (W1.setCell ⟨w.heap.size, 1, none⟩ (.int .i64 sv)).cell? ⟨w.heap.size, 2, none⟩ = some (.pointer none) := by rw [World.cell?_setCell_other _ _ _ _ (by simp)]; exact hc2
  have hc3' : (W1.setCell ⟨w.heap.size, 1, none⟩ (.int .i64 sv)).cell? ⟨w.heap.size, 3, none⟩ = some (.pointer none) := by rw [World.cell?_setCell_other _ _ _ _ (by simp)]; exact hc3
  have hwn : w.heap.size ≠ bl := by simp at hnb; exact fun e => hnb.2.2 e
  clear hlook hfind hL hlen hcell hfr hc2 hc3
  go_enter Tryz.func11, Tryz.ntmps11
  go_wp2_with fail
  refine (frontR encStr bc bm most _ w.heap.size _ hr1' hnb hfr' hc2' hc3' hb1').mono ?_
  rintro e w2 ⟨rfl, hr2, hb2, hcb2, hf2, ht2⟩
  have hlenr := fun n => hb2.len encStr (P := Tryz.prog) (T := 64) (et := 65) Tryz.underlying64 3 n
  have hm2 := hb2.map
  have hm3 := hb2.most
  have hl2 : ((([] : List (Nat × ByteArray × Value)) ++ (w.heap.size, k, ((.int .i64 sv) : Value)) :: (l1 ++ [(bl, kl, vl)])).length : Int) = most + 1 := by have := Hlen.out; simp at this ⊢; omega
  generalize hLL : (([] : List (Nat × ByteArray × Value)) ++ (w.heap.size, k, ((.int .i64 sv) : Value)) :: (l1 ++ [(bl, kl, vl)])).length = LL at *
  have hl3 : most < (LL : Int) := by omega
  have HL2 := Lib.hid hl2
  have HLL := Lib.hid hLL
  have hr2' : Ring w2 bc ((w.heap.size :: l1.map (·.1)) ++ [bl]) := by simpa using hr2
  have hlast := hr2'.last
  clear hcb2 hf2 hc0 hfr1 hfr' hc2' hc3' hc1 hlook' hrun hcA hl2 hLL
  go_wp2_with fail
  go_quiet (fail)
  have hr3 : Ring (w2.drewN nq) bc ((((w.heap.size, k, ((.int .i64 sv) : Value)) :: l1) ++ (bl, kl, vl) :: []).map (·.1)) := by
    have : Ring (w2.drewN nq) bc ((w.heap.size :: l1.map (·.1)) ++ [bl]) := hr2'.heap (fun _ _ _ _ _ hu => hu) (fun _ _ _ => rfl)
    simpa using this
  have hb3 : Body encStr (w2.drewN nq) bc bm most (((w.heap.size, k, ((.int .i64 sv) : Value)) :: l1) ++ (bl, kl, vl) :: []) := by
    have := hb2.drewN encStr nq
    simpa using this
  have ht3 : Tch (fun k => k = bc ∨ k = w.heap.size ∨ k ∈ (l1 ++ [(bl, kl, vl)]).map (·.1)) (W1.setCell ⟨w.heap.size, 1, none⟩ (.int .i64 sv)) (w2.drewN nq) := ht2.drewN nq
  have hlast3 : (w2.drewN nq).cell? ⟨bc, 4, none⟩ = some (.pointer (some ⟨bl, 0, none⟩)) := hlast
  clear hlenr hm2 hm3 hr2 hr2' hb2 ht2 hlast
  generalize w2.drewN nq = w3 at *
  go_wp2_with fail
  refine (cutR encStr bc bm most _ [] (bl, kl, vl) w3 hr3 hb3 _).mono ?_
  rintro e w4 ⟨rfl, hr4, hb4, hcb4, hf4, ht4, hnb4, _, _⟩
  have hb4d : Body encStr w4.drew bc bm most (((w.heap.size, k, ((.int .i64 sv) : Value)) :: l1) ++ (bl, kl, vl) :: []) := hb4.drewN encStr 1
  obtain ⟨o2, hdel, hb5⟩ := hb4d.delete encStr (P := Tryz.prog) (T := 64) (et := 65) Tryz.underlying64 Tryz.underlying9 0 9
  have hm4 := hb4.map
  have hk4 := (hb4.items (bl, kl, vl) (by simp)).1
  have hne4 := hb4d.ne_map encStr
  obtain ⟨m4, hM4, _⟩ := hb4d.mp
  have hr4' : Ring w4.drew bc ((((w.heap.size, k, ((.int .i64 sv) : Value)) :: l1) ++ ([] : List (Nat × ByteArray × Value))).map (·.1)) := hr4.heap (fun _ _ _ _ _ hu => hu) (fun _ _ _ => rfl)
  have hr5 := ring_setMap hr4' hM4 (fun b hbm => by
    rcases List.mem_cons.1 hbm with rfl | hbm
    · exact hne4.1
    · exact hne4.2 b (by simp at hbm ⊢; rcases hbm with e | e <;> simp [e])) o2
  have hdel' : (Builtin.delete_ #[64, 9] 0 #[.map (some bm), .string kl]).run Tryz.prog w4.drew = .ok (.tuple #[]) (setMap w4.drew bm o2) := hdel
  clear hcb4 hf4 hdel hM4 hne4
  have hk4' : w4.cell? ⟨bl, 0, none⟩ = some (.string kl) := hk4
  clear hk4
  go_wp2_with fail
  go_region
  go_end0
  refine ⟨rfl, ⟨by simpa using hr5, by simpa using hb5⟩, ?_⟩
  have t1 : Tch (fun q => Own bc bm (l1 ++ [(bl, kl, vl)]) q ∨ w.heap.size ≤ q) w w3 :=
    ((ht1.mono fun q _ hq => .inl hq).setCell (.inr (Nat.le_refl _)) _).trans (ht3.mono fun q _ hq => by
      rcases hq with rfl | rfl | hq
      · exact .inl (.inl rfl)
      · exact .inr (Nat.le_refl _)
      · exact .inl (.inr (.inr hq)))
  have t2 : Tch (fun q => Own bc bm (l1 ++ [(bl, kl, vl)]) q ∨ w.heap.size ≤ q) w3 w4.drew := (ht4.mono fun q _ hq => by
      rcases hq with rfl | hq
      · exact .inl (.inl rfl)
      · simp at hq
        rcases hq with rfl | hq
        · exact .inr (Nat.le_refl _)
        · exact .inl (.inr (.inr (by simp [hq])))).drewN 1
  exact ((t1.trans t2).trans (setMap_tch _ bm o2 _ (.inl (.inr (.inl rfl))))).mono fun q hq hs => by
    rcases hs with hs | hs
    · exact hs
    · omega

theorem len_calls (bc bm : Nat) (most : Int) (L : List (Nat × ByteArray × Value)) (w : World) (h : CacheR encStr w bc bm most L) :
    Calls Tryz.prog 13 #[.pointer (some ⟨bc, 0, none⟩)] w fun e w' => e = .returned (.int .i64 L.length) ∧ w = w' := by
  have hc1 := h.body.map
  have hl := h.body.len0 encStr (P := Tryz.prog) (T := 64) (et := 65) Tryz.underlying64 3
  go_enter Tryz.func13, Tryz.ntmps13
  go_wp2_with fail
  go_ret
  exact ⟨rfl, rfl⟩

theorem infoK : (Tryz.prog.info? 9).map (fun i => (i.zero, i.size, i.bytes)) = some (some (.string ⟨#[]⟩), 1, 16) := by kernel_rfl
theorem infoI : (Tryz.prog.info? 67).map (fun i => decide (i.size ≠ 0)) = some true := by kernel_rfl
def keysV (L : List (Nat × ByteArray × Value)) : List Value := L.map fun n => encStr.enc n.2.1
theorem keysV_len (L : List (Nat × ByteArray × Value)) : (keysV L).length = L.length := by simp [keysV]
/-- 'x != &c.ring' at an item. -/
theorem neq_item {w : World} {bc bm : Nat} {most : Int} {L : List (Nat × ByteArray × Value)} (h : CacheR encStr w bc bm most L) {n : Nat × ByteArray × Value} (hn : n ∈ L) :
    (binOp .neq 65 (.pointer (some ⟨n.1, 0, none⟩)) (.pointer (some ⟨bc, 2, none⟩))).run Tryz.prog w = .ok (.bool true) w := by
  obtain ⟨i, hi, hs⟩ := Option.map_eq_some_iff.1 infoI
  have hm : n.1 ∈ L.map (·.1) := List.mem_map_of_mem hn
  obtain ⟨l1, l2, e⟩ := List.append_of_mem hm
  have hr := h.ring
  rw [e] at hr
  have hbc : ∃ u, w.cell? ⟨bc, 2, none⟩ = some u ∨ True := ⟨.bool true, .inr trivial⟩
  have hd : ∃ u, w.cell? ⟨bc, 2, none⟩ = some u := by
    have h5 := h.ring.first
    obtain ⟨arr, t, fr, ha⟩ : ∃ arr t fr, w.heap[bc]? = some (.cells arr t fr) := by
      unfold World.cell? at h5
      split at h5
      · rename_i c t fr heq; exact ⟨c, t, fr, heq⟩
      · cases h5
    simp only [World.cell?, ha] at h5 ⊢
    simp at h5 ⊢
    have := (Array.getElem?_eq_some_iff.1 h5).1
    exact ⟨arr[2], by rw [Array.getElem?_eq_getElem]⟩
  obtain ⟨u, hu⟩ := hd
  refine run_neq_ptr Tryz.underlying65 hi (by simpa using hs) ?_ (h.body.items n hn).1 hu (h.ring.free n.1 (by simp [hm])) (h.ring.free bc (by simp))
  intro e
  have := h.ring.nodup
  simp only [List.nodup_cons] at this
  simp only at e
  exact this.1 (e ▸ hm)
theorem neq_ring (w : World) (bc : Nat) : (binOp .neq 65 (.pointer (some ⟨bc, 2, none⟩)) (.pointer (some ⟨bc, 2, none⟩))).run Tryz.prog w = .ok (.bool false) w := by
  obtain ⟨i, hi, hs⟩ := Option.map_eq_some_iff.1 infoI
  exact run_neq_self Tryz.underlying65 hi (by simpa using hs)
theorem next_item {w : World} {bc bm : Nat} {most : Int} {l1 l2 : List (Nat × ByteArray × Value)} {n : Nat × ByteArray × Value} (h : CacheR encStr w bc bm most (l1 ++ n :: l2)) :
    w.cell? ⟨n.1, 3, none⟩ = some (.pointer (some (((l2.map (·.1)).map nd ++ [R bc]).headD (R bc)))) := by
  have := h.ring
  rw [List.map_append, List.map_cons] at this
  exact this.next
/-- The first node of a rest. -/
def hd (bc : Nat) (l : List (Nat × ByteArray × Value)) : Addr := ((l.map (·.1)).map nd ++ [R bc]).headD (R bc)
theorem hd_form (bc : Nat) (l : List (Nat × ByteArray × Value)) : ∃ b o, hd bc l = ⟨b, o, none⟩ := by
  cases l with
  | nil => exact ⟨bc, 2, rfl⟩
  | cons n l => exact ⟨n.1, 0, rfl⟩
set_option maxHeartbeats 1000000 in
set_option maxRecDepth 100000 in
theorem keys_calls (bc bm : Nat) (most : Int) (L : List (Nat × ByteArray × Value)) (w : World) (h : CacheR encStr w bc bm most L) (hlen : L.length ≤ 4096) :
    Calls Tryz.prog 30 #[.pointer (some ⟨bc, 0, none⟩)] w fun e w' => ∃ v, e = .returned v ∧ w'.ownsRow w.heap.size 9 1 v L.length (keysV L) ∧ Below w.heap.size w w' := by
  have hfirst := h.ring.first
  have hlt := h.lt encStr
  have Hhd := Lib.hid (rfl : hd bc L = hd bc L)
  obtain ⟨xb, xo, hx⟩ := hd_form bc L
  have hfirst' : w.cell? ⟨bc, 5, none⟩ = some (.pointer (some ⟨xb, xo, none⟩)) := by rw [← hx]; exact hfirst
  have HX := Lib.hid hx
  clear hfirst hx
  go_enter Tryz.func30, Tryz.ntmps30
  go_wp2_with fail
  go_loopg [3, 4] (L.length + 1) (fun kq v x wr => ∃ (l1 l2 : List (Nat × ByteArray × Value)) (b o : Nat), Hid (L = l1 ++ l2) ∧ Hid (hd bc l2 = ⟨b, o, none⟩) ∧ x = .pointer (some ⟨b, o, none⟩) ∧ wr.ownsRow w.heap.size 9 1 v l1.length (keysV l1) ∧ Below w.heap.size w wr ∧ l1.length + l2.length = L.length ∧ kq = l2.length + 1)
  case atStart => exact ⟨[], L, xb, xo, rfl, HX, rfl, World.ownsRow_nil _ _ _ _, Below.refl _ _, by simp, rfl⟩
  case round =>
    obtain ⟨l1, l2, b, o, HL, HB, rfl, hown, hb, hl, rfl⟩ := hrel
    have hC : CacheR encStr wr bc bm most L := h.keep encStr (Tch.of_below (S := fun k => w.heap.size ≤ k) hb (fun k _ hk => hk)) (fun k hk hk2 => by have := hlt k hk; omega)
    cases l2 with
    | nil =>
      have e1 : (⟨bc, 2, none⟩ : Addr) = ⟨b, o, none⟩ := HB.out
      simp only [Addr.mk.injEq, and_true] at e1
      obtain ⟨rfl, rfl⟩ := e1
      have hq := neq_ring wr bc
      have e2 : L = l1 := by have := HL.out; simpa using this
      subst e2
      obtain ⟨A', c', rfl, hc1, hc2⟩ := own_form hown
      go_wp2_with fail
      go_ret
      exact ⟨_, rfl, hown, hb⟩
    | cons n l2 =>
      have e1 : (⟨n.1, 0, none⟩ : Addr) = ⟨b, o, none⟩ := HB.out
      simp only [Addr.mk.injEq, and_true] at e1
      obtain ⟨rfl, rfl⟩ := e1
      have e2 : L = l1 ++ n :: l2 := HL.out
      have hnm : n ∈ L := by rw [e2]; simp
      have hq := neq_item hC hnm
      have hk : wr.cell? ⟨n.1, 0, none⟩ = some (encStr.enc n.2.1) := (hC.body.items n hnm).1
      have hC' := hC
      rw [e2] at hC'
      obtain ⟨b2, o2, hx2⟩ := hd_form bc l2
      have hnx0 := next_item hC'
      clear hC'
      have hnx : wr.cell? ⟨n.1, 3, none⟩ = some (.pointer (some ⟨b2, o2, none⟩)) := by rw [← hx2]; exact hnx0
      clear hnx0
      obtain ⟨nb, k, nv⟩ := n
      have hk' : wr.cell? ⟨nb, 0, none⟩ = some (.string k) := hk
      have hbl : nb < w.heap.size := hlt nb (.inr (.inr (List.mem_map_of_mem (f := (·.1)) hnm)))
      have HX2 := Lib.hid hx2
      have HL2 := Lib.hid e2
      simp only at hq hnx
      clear hk hx2 e2
      have hll : l1.length < L.length := by simp at hl; omega
      go_wp2_with (at_builtin; go_loud (refine app_own hown hb (.tmp 21) (.tmp 26) [.string k] 92 _ _ Tryz.underlying92 infoK (by omega) (by decide) hb.size rfl rfl rfl (by decide) rfl rfl rfl (by simp [Value.oneCell']) ?_); intro v1 w1 ho1 hb1 _ _; have hnx1 : w1.cell? ⟨nb, 3, none⟩ = some (.pointer (some ⟨b2, o2, none⟩)) := (hb1.cell (p := ⟨nb, 3, none⟩) hbl).trans (((hb.cell (p := ⟨nb, 3, none⟩) hbl).symm).trans hnx))
      go_roundg (l2.length + 1)
      case measure => simp
      case rel => exact ⟨l1 ++ [(nb, k, nv)], l2, b2, o2, by rw [HL2.out]; simp [Hid], HX2, rfl, by rw [show keysV (l1 ++ [(nb, k, nv)]) = keysV l1 ++ [.string k] from by rw [keysV, List.map_append]; rfl, List.length_append]; exact ho1, hb1, by simp at hl ⊢; omega, rfl⟩

theorem ring_new {w : World} {bc : Nat} (h4 : w.cell? ⟨bc, 4, none⟩ = some (.pointer (some ⟨bc, 2, none⟩))) (h5 : w.cell? ⟨bc, 5, none⟩ = some (.pointer (some ⟨bc, 2, none⟩))) (hf : ∀ o, w.frozen? ⟨bc, o, none⟩ = false) : Ring w bc [] :=
  ⟨⟨⟨h5, h4⟩, trivial⟩, fun b hb o => by simp at hb; subst hb; exact hf o, by simp⟩
theorem made_new (w : World) (most : Int) (z1 z2 : Value) : CacheR encStr ((w.alloc (.map #[] 0)).alloc (.cells #[.int .i64 most, .map (some w.heap.size), z1, z2, .pointer (some ⟨w.heap.size + 1, 2, none⟩), .pointer (some ⟨w.heap.size + 1, 2, none⟩)] 69)) (w.heap.size + 1) w.heap.size most [] := by
  have hh : ((w.alloc (.map #[] 0)).alloc (.cells #[.int .i64 most, .map (some w.heap.size), z1, z2, .pointer (some ⟨w.heap.size + 1, 2, none⟩), .pointer (some ⟨w.heap.size + 1, 2, none⟩)] 69)).heap[w.heap.size + 1]? = some (.cells #[.int .i64 most, .map (some w.heap.size), z1, z2, .pointer (some ⟨w.heap.size + 1, 2, none⟩), .pointer (some ⟨w.heap.size + 1, 2, none⟩)] 69) := by
    have := heap_alloc_new (w.alloc (.map #[] 0)) (.cells #[.int .i64 most, .map (some w.heap.size), z1, z2, .pointer (some ⟨w.heap.size + 1, 2, none⟩), .pointer (some ⟨w.heap.size + 1, 2, none⟩)] 69)
    simpa using this
  refine ⟨ring_new ?_ ?_ fun o => ?_, ⟨?_, ?_, by simp, ⟨[], ⟨#[], 0, ?_, rfl⟩, by simp⟩, by simp⟩⟩
  · unfold World.cell?; rw [hh]; rfl
  · unfold World.cell?; rw [hh]; rfl
  · unfold World.frozen?; rw [hh]; simp
  · unfold World.cell?; rw [hh]; rfl
  · unfold World.cell?; rw [hh]; rfl
  · have h1 := heap_alloc_old (r := w.heap.size) (w.alloc (.map #[] 0)) (.cells #[.int .i64 most, .map (some w.heap.size), z1, z2, .pointer (some ⟨w.heap.size + 1, 2, none⟩), .pointer (some ⟨w.heap.size + 1, 2, none⟩)] 69) (by simp)
    exact h1.trans (heap_alloc_new w _)
set_option maxHeartbeats 1000000 in
set_option maxRecDepth 100000 in
theorem new_calls (most : Int) (h1 : 1 ≤ most) (h2 : most ≤ 4096) (w : World) :
    Calls Tryz.prog 10 #[.int .i64 most] w fun e w' => e = .returned (.tuple #[.pointer (some ⟨w.heap.size + 1, 0, none⟩), .int .i64 0]) ∧ CacheR encStr w' (w.heap.size + 1) w.heap.size most [] ∧ Below w.heap.size w w' := by
  have hmm := @run_makeMap Tryz.prog
  go_enter Tryz.func10, Tryz.ntmps10
  go_wp2_with fail
  go_ret2
  exact ⟨rfl, made_new w most _ _, ((Below.refl _ _).alloc (Nat.le_refl _) _).alloc (by simp) _⟩
theorem new_none (most : Int) (h : most < 1 ∨ 4096 < most) (w : World) :
    Calls Tryz.prog 10 #[.int .i64 most] w fun e w' => e = .returned (.tuple #[.pointer none, .int .i64 2]) ∧ w = w' := by
  by_cases h1 : most < 1
  · go_enter Tryz.func10, Tryz.ntmps10
    go_wp2_with fail
    go_ret2
    exact ⟨rfl, rfl⟩
  · have h2 : 4096 < most := by omega
    go_enter Tryz.func10, Tryz.ntmps10
    go_wp2_with fail
    go_ret2
    exact ⟨rfl, rfl⟩


theorem filter_snoc {α : Type} (p : α → Bool) (l : List α) (x : α) : (l ++ [x]).filter p = l.filter p ++ (if p x then [x] else []) := by
  rw [List.filter_append]; cases h : p x <;> simp [h]
theorem own_sub {bc bm : Nat} {L L' : List (Nat × ByteArray × Value)} (h : ∀ n ∈ L', n ∈ L) {k : Nat} (hk : Own bc bm L' k) : Own bc bm L k := by
  rcases hk with rfl | rfl | hk
  · exact .inl rfl
  · exact .inr (.inl rfl)
  · obtain ⟨n, hn, rfl⟩ := List.mem_map.1 hk
    exact .inr (.inr (List.mem_map_of_mem (h n hn)))
set_option maxHeartbeats 4000000 in
set_option maxRecDepth 100000 in
/-- Drop: those for which g says yes go; the function that is asked keeps Inv, and writes no block of the Cache. -/
theorem drop_calls  (g : ByteArray → Bool) (Inv : List ByteArray → World → Prop) (S : Nat → Prop) (bc bm : Nat) (most : Int) (L : List (Nat × ByteArray × Value))
    (hcall : ∀ (ks : List ByteArray) (k : ByteArray) (W : World), ks.length < 4096 → Inv ks W → Calls Tryz.prog 31 #[.string k] W fun e W' => e = .returned (.bool (g k)) ∧ Inv (ks ++ [k]) W' ∧ Tch S W W')
    (hInv : ∀ ks W W', Inv ks W → Tch (Own bc bm L) W W' → Inv ks W') (hS : ∀ k, Own bc bm L k → ¬ S k)
    (w : World) (h : CacheR encStr w bc bm most L) (hlen : L.length ≤ 4096) (hI : Inv [] w) :
    Calls Tryz.prog 12 #[.pointer (some ⟨bc, 0, none⟩), .func (.func 31) #[] #[]] w fun e w' => e = .returned (.int .i64 (L.filter fun n => g n.2.1).length) ∧ CacheR encStr w' bc bm most (L.filter fun n => !g n.2.1) ∧ Inv (L.map (·.2.1)) w' ∧ Tch (fun k => Own bc bm L k ∨ S k) w w' := by
  have hfirst := h.ring.first
  have hlt := h.lt encStr
  obtain ⟨xb, xo, hx⟩ := hd_form bc L
  have hfirst' : w.cell? ⟨bc, 5, none⟩ = some (.pointer (some ⟨xb, xo, none⟩)) := by rw [← hx]; exact hfirst
  have HX := Lib.hid hx
  clear hfirst hx
  have hfn := run_eql_func_nil (P := Tryz.prog) (w := w) (T := 72) Tryz.underlying72 (.func 31) #[] #[]
  have HC := Lib.hid hcall
  have HI := Lib.hid hInv
  have HS := Lib.hid hS
  clear hcall hInv hS
  go_enter Tryz.func12, Tryz.ntmps12
  go_wp2_with fail
  go_loopg [5, 6] (L.length + 1) (fun kq v x wr => ∃ (l1 l2 : List (Nat × ByteArray × Value)) (b o : Nat), Hid (L = l1 ++ l2) ∧ Hid (hd bc l2 = ⟨b, o, none⟩) ∧ x = .pointer (some ⟨b, o, none⟩) ∧ v = .int .i64 (l1.filter fun n => g n.2.1).length ∧ kq = l2.length + 1 ∧ CacheR encStr wr bc bm most (l1.filter (fun n => !g n.2.1) ++ l2) ∧ Inv (l1.map (·.2.1)) wr ∧ Tch (fun k => Own bc bm L k ∨ S k) w wr)
  case atStart => exact ⟨[], L, xb, xo, rfl, HX, rfl, rfl, rfl, h, hI, Tch.refl _ _⟩
  case round =>
    clear hfirst' hfn HX hlt
    obtain ⟨l1, l2, b, o, HL, HB, rfl, rfl, rfl, hC, hInv, hT⟩ := hrel
    cases l2 with
    | nil =>
      have e1 : (⟨bc, 2, none⟩ : Addr) = ⟨b, o, none⟩ := HB.out
      simp only [Addr.mk.injEq, and_true] at e1
      obtain ⟨rfl, rfl⟩ := e1
      have hq := neq_ring wr bc
      have e2 : L = l1 := by have := HL.out; simpa using this
      subst e2
      clear HL HB
      go_wp2_with fail
      go_ret
      exact ⟨rfl, by simpa using hC, hInv, hT⟩
    | cons n l2 =>
      have e1 : (⟨n.1, 0, none⟩ : Addr) = ⟨b, o, none⟩ := HB.out
      simp only [Addr.mk.injEq, and_true] at e1
      obtain ⟨rfl, rfl⟩ := e1
      have e2 : L = l1 ++ n :: l2 := HL.out
      have hlenl : l1.length < L.length := by rw [e2]; simp
      have hnm : n ∈ l1.filter (fun n => !g n.2.1) ++ n :: l2 := by simp
      have hsub : ∀ m ∈ l1.filter (fun n => !g n.2.1) ++ n :: l2, m ∈ L := by
        intro m hm
        rw [e2]
        rcases List.mem_append.1 hm with hm | hm
        · exact List.mem_append.2 (.inl (List.mem_filter.1 hm).1)
        · exact List.mem_append.2 (.inr hm)
      have hq := neq_item hC hnm
      have hk : wr.cell? ⟨n.1, 0, none⟩ = some (encStr.enc n.2.1) := (hC.body.items n hnm).1
      obtain ⟨nb, k, nv⟩ := n
      have hk' : wr.cell? ⟨nb, 0, none⟩ = some (.string k) := hk
      clear hk HB
      have HSub := Lib.hid hsub
      have HE := Lib.hid e2
      clear hsub e2 HL
      obtain ⟨b2, o2, hx2⟩ := hd_form bc l2
      have HX2 := Lib.hid hx2
      clear hx2
      have hfl : (l1.filter fun n => g n.2.1).length ≤ l1.length := List.length_filter_le _ _
      go_wp2_with fail
      refine (HC.out (l1.map (·.2.1)) k wr (by simp; omega) hInv).mono ?_
      rintro e W1 ⟨rfl, hI1, hT1⟩
      clear hq hk' hInv
      have hown : ∀ q, Own bc bm (l1.filter (fun n => !g n.2.1) ++ (nb, k, nv) :: l2) q → ¬ S q := fun q hq => HS.out q (own_sub HSub.out hq)
      have hC1 : CacheR encStr W1 bc bm most (l1.filter (fun n => !g n.2.1) ++ (nb, k, nv) :: l2) := hC.keep encStr hT1 hown
      have hT2 : Tch (fun k => Own bc bm L k ∨ S k) w W1 := hT.trans (hT1.mono fun q _ hq => .inr hq)
      clear hC hT hT1 hown
      cases hg : g k with
      | false =>
        have hG := Lib.hid hg
        clear hg
        have hnx : W1.cell? ⟨nb, 3, none⟩ = some (.pointer (some ⟨b2, o2, none⟩)) := by rw [← HX2.out]; exact next_item hC1
        go_wp2_with fail
        go_roundg (l2.length + 1)
        case measure => simp
        case rel => exact ⟨l1 ++ [(nb, k, nv)], l2, b2, o2, by rw [HE.out]; simp [Hid], HX2, rfl, by rw [filter_snoc]; simp [hG.out], rfl, by rw [filter_snoc]; simpa [hG.out] using hC1, by simpa using hI1, hT2⟩
      | true =>
        have hG := Lib.hid hg
        clear hg
        go_wp2_with fail
        refine (cutR encStr bc bm most _ l2 (nb, k, nv) W1 hC1.ring hC1.body _).mono ?_
        rintro e w4 ⟨rfl, hr4, hb4, hcb4, hf4, ht4, hnb4, _, hnx4⟩
        have hb4d : Body encStr w4.drew bc bm most (l1.filter (fun n => !g n.2.1) ++ (nb, k, nv) :: l2) := hb4.drewN encStr 1
        obtain ⟨o2', hdel, hb5⟩ := hb4d.delete encStr (P := Tryz.prog) (T := 64) (et := 65) Tryz.underlying64 Tryz.underlying9 0 9
        have hm4 := hb4.map
        have hk4 := (hb4.items (nb, k, nv) (by simp)).1
        have hne4 := hb4d.ne_map encStr
        obtain ⟨m4, hM4, _⟩ := hb4d.mp
        have hr4' : Ring w4.drew bc ((l1.filter (fun n => !g n.2.1) ++ l2).map (·.1)) := hr4.heap (fun _ _ _ _ _ hu => hu) (fun _ _ _ => rfl)
        have hr5 := ring_setMap hr4' hM4 (fun b hbm => by
          rcases List.mem_cons.1 hbm with rfl | hbm
          · exact hne4.1
          · exact hne4.2 b (by
              rw [List.map_append, List.mem_append] at hbm ⊢
              rcases hbm with e | e
              · exact .inl e
              · exact .inr (List.mem_cons_of_mem _ e))) o2'
        have hdel' : (Builtin.delete_ #[64, 9] 0 #[.map (some bm), .string k]).run Tryz.prog w4.drew = .ok (.tuple #[]) (setMap w4.drew bm o2') := hdel
        have hk4' : w4.cell? ⟨nb, 0, none⟩ = some (.string k) := hk4
        have hnx5 : (setMap w4.drew bm o2').cell? ⟨nb, 3, none⟩ = some (.pointer (some ⟨b2, o2, none⟩)) := by
          obtain ⟨es, clock, hbm, _⟩ := hM4
          refine setMap_cell hbm o2' ?_
          show w4.cell? _ = _
          rw [← HX2.out, hcb4 3, hnx4]
          simp [hd, Function.comp_def]
        have hT3 : Tch (fun k => Own bc bm L k ∨ S k) w (setMap w4.drew bm o2') := by
          refine (hT2.trans ((ht4.mono fun q _ hq => ?_).drewN 1)).trans (setMap_tch _ bm o2' _ (.inl (.inr (.inl rfl))))
          rcases hq with rfl | hq
          · exact .inl (.inl rfl)
          · exact .inl (own_sub HSub.out (.inr (.inr (by
              rw [List.map_append, List.mem_append] at hq ⊢
              rcases hq with e | e
              · exact .inl e
              · exact .inr (List.mem_cons_of_mem _ e)))))
        have hI5 : Inv (l1.map (·.2.1) ++ [k]) (setMap w4.drew bm o2') := HI.out _ _ _ hI1 (by
          refine ((ht4.mono fun q _ hq => ?_).drewN 1).trans (setMap_tch _ bm o2' _ (.inr (.inl rfl)))
          rcases hq with rfl | hq
          · exact .inl rfl
          · exact own_sub HSub.out (.inr (.inr (by
              rw [List.map_append, List.mem_append] at hq ⊢
              rcases hq with e | e
              · exact .inl e
              · exact .inr (List.mem_cons_of_mem _ e)))))
        clear hcb4 hf4 hdel hM4 hne4 hk4 hI1 hC1 hnx4 hr4 hr4' hb4 hb4d ht4 hT2
        go_wp2_with fail
        go_region
        go_wp2_with fail
        go_roundg (l2.length + 1)
        case measure => simp
        case rel => exact ⟨l1 ++ [(nb, k, nv)], l2, b2, o2, by rw [HE.out]; simp [Hid], HX2, rfl, by rw [filter_snoc]; simp [hG.out], rfl, by rw [filter_snoc]; simp only [hG.out, Bool.not_true, Bool.false_eq_true, if_false, List.append_nil]; exact ⟨hr5, hb5⟩, by simpa using hI5, hT3⟩

/-! ### Get and Put as functions on lists -/
def putS (most : Nat) (l : List (ByteArray × Value)) (k : ByteArray) (v : Value) : List (ByteArray × Value) := ((k, v) :: l.filter fun p => !decide (p.1 = k)).take most
def getS (l : List (ByteArray × Value)) (k : ByteArray) : List (ByteArray × Value) := match l.find? fun p => decide (p.1 = k) with
  | some p => p :: l.filter fun p => !decide (p.1 = k)
  | none => l
def kv (L : List (Nat × ByteArray × Value)) : List (ByteArray × Value) := L.map (·.2)
theorem kv_len (L : List (Nat × ByteArray × Value)) : (kv L).length = L.length := by simp [kv]
theorem filter_mid {l1 l2 : List (Nat × ByteArray × Value)} {n : Nat × ByteArray × Value} (h : ((l1 ++ n :: l2).map (·.2.1)).Nodup) :
    (kv (l1 ++ n :: l2)).filter (fun p => !decide (p.1 = n.2.1)) = kv (l1 ++ l2) := by
  have hm := nodup_mid h
  have hall : ∀ l : List (Nat × ByteArray × Value), (∀ x ∈ l, x.2.1 ≠ n.2.1) → (kv l).filter (fun p => !decide (p.1 = n.2.1)) = kv l := by
    intro l hl
    rw [List.filter_eq_self]
    intro a ha
    obtain ⟨x, hx, rfl⟩ := List.mem_map.1 ha
    simp [hl x hx]
  have e1 : kv (l1 ++ n :: l2) = kv l1 ++ n.2 :: kv l2 := by simp [kv]
  have e2 : kv (l1 ++ l2) = kv l1 ++ kv l2 := by simp [kv]
  rw [e1, e2, List.filter_append, List.filter_cons, hall l1 (fun x hx => hm x (by simp [hx])), hall l2 (fun x hx => hm x (by simp [hx]))]
  simp
theorem find_kv (L : List (Nat × ByteArray × Value)) (k : ByteArray) : (kv L).find? (fun p => decide (p.1 = k)) = (L.find? fun n => decide (n.2.1 = k)).map (·.2) := by
  unfold kv; rw [List.find?_map]; rfl
theorem own_new {bc bm : Nat} {L L' : List (Nat × ByteArray × Value)} {N : Nat} (h : ∀ n ∈ L', n.1 ∈ L.map (·.1) ∨ N ≤ n.1) {q : Nat} (hq : Own bc bm L' q) : Own bc bm L q ∨ N ≤ q := by
  rcases hq with rfl | rfl | hq
  · exact .inl (.inl rfl)
  · exact .inl (.inr (.inl rfl))
  · obtain ⟨n, hn, rfl⟩ := List.mem_map.1 hq
    rcases h n hn with h | h
    · exact .inl (.inr (.inr h))
    · exact .inr h

theorem put_any (bc bm : Nat) (most : Nat) (h1 : 1 ≤ most) (h2 : most ≤ 4096) (L : List (Nat × ByteArray × Value)) (hlen : L.length ≤ most) (k : ByteArray) (sv : Int) (w : World) (h : CacheR encStr w bc bm most L) :
    Calls Tryz.prog 11 #[.pointer (some ⟨bc, 0, none⟩), .string k, (.int .i64 sv)] w fun e w' => e = .returned (.tuple #[]) ∧ ∃ L', CacheR encStr w' bc bm most L' ∧ kv L' = putS most (kv L) k (.int .i64 sv) ∧ L'.length ≤ most ∧ Tch (Own bc bm L) w w' ∧ ∀ n ∈ L', n.1 ∈ L.map (·.1) ∨ w.heap.size ≤ n.1 := by
  cases hf : L.find? (fun n => decide (n.2.1 = k)) with
  | some n =>
    obtain ⟨l1, l2, e, hk, _⟩ := find_split _ hf
    obtain ⟨b, k', v0⟩ := n
    have hk' : k' = k := by simpa using hk
    subst hk'
    subst e
    refine (put_hit bc bm most l1 l2 b k' v0 _ w h (by omega) (by omega)).mono ?_
    rintro e w' ⟨rfl, hC, hT⟩
    refine ⟨rfl, _, hC, ?_, by simp at hlen ⊢; omega, hT, fun n hn => .inl ?_⟩
    · unfold putS
      rw [filter_mid h.body.keys, List.take_of_length_le]
      · rfl
      · simp [kv_len] at hlen ⊢; omega
    · rcases List.mem_cons.1 hn with rfl | hn
      · simp
      · rcases List.mem_append.1 hn with hn | hn
        · exact List.mem_map_of_mem (by simp [hn])
        · exact List.mem_map_of_mem (by simp [hn])
  | none =>
    have hno : ∀ n ∈ L, n.2.1 ≠ k := fun n hn => by
      have := List.find?_eq_none.1 hf n hn
      simpa using this
    have hfil : (kv L).filter (fun p => !decide (p.1 = k)) = kv L := by
      rw [List.filter_eq_self]
      intro a ha
      obtain ⟨x, hx, rfl⟩ := List.mem_map.1 ha
      simp [hno x hx]
    by_cases hroom : L.length + 1 ≤ most
    · refine (put_room bc bm most L k _ w h hno (by omega) (by omega)).mono ?_
      rintro e w' ⟨rfl, hC, hT⟩
      refine ⟨rfl, _, hC, ?_, by simpa using hroom, hT, fun n hn => ?_⟩
      · unfold putS
        rw [hfil, List.take_of_length_le (by simp [kv_len]; omega)]
        rfl
      · rcases List.mem_cons.1 hn with rfl | hn
        · exact .inr (Nat.le_refl _)
        · exact .inl (List.mem_map_of_mem hn)
    · rcases List.eq_nil_or_concat L with rfl | ⟨l1, n, rfl⟩
      · simp at hroom; omega
      · rw [List.concat_eq_append] at *
        obtain ⟨bl, kl, vl⟩ := n
        refine (put_full bc bm most l1 bl kl vl k _ w h hno (by simp at hlen hroom ⊢; omega) (by omega)).mono ?_
        rintro e w' ⟨rfl, hC, hT⟩
        refine ⟨rfl, _, hC, ?_, by simp at hlen ⊢; omega, hT, fun n hn => ?_⟩
        · unfold putS
          rw [hfil]
          have e1 : kv (l1 ++ [(bl, kl, vl)]) = kv l1 ++ [(kl, vl)] := by simp [kv]
          rw [e1, ← List.cons_append, List.take_left']
          · rfl
          · simp [kv_len] at hlen hroom ⊢; omega
        · rcases List.mem_cons.1 hn with rfl | hn
          · exact .inr (Nat.le_refl _)
          · exact .inl (List.mem_map_of_mem (by simp [hn]))

theorem get_found (bc bm : Nat) (most : Int) (L : List (Nat × ByteArray × Value)) (k : ByteArray) (sv : Int) (w : World) (h : CacheR encStr w bc bm most L) (hf : (kv L).find? (fun p => decide (p.1 = k)) = some (k, (.int .i64 sv))) :
    Calls Tryz.prog 28 #[.pointer (some ⟨bc, 0, none⟩), .string k] w fun e w' => e = .returned (.tuple #[(.int .i64 sv), .bool true]) ∧ ∃ L', CacheR encStr w' bc bm most L' ∧ kv L' = getS (kv L) k ∧ L'.length = L.length ∧ Tch (Own bc bm L) w w' ∧ ∀ n ∈ L', n.1 ∈ L.map (·.1) := by
  have hg : getS (kv L) k = (k, (.int .i64 sv)) :: (kv L).filter fun p => !decide (p.1 = k) := by unfold getS; rw [hf]
  rw [find_kv] at hf
  obtain ⟨n, hn, e⟩ := Option.map_eq_some_iff.1 hf
  obtain ⟨b, kv'⟩ := n
  simp only at e
  subst e
  obtain ⟨l1, l2, rfl, _, _⟩ := find_split _ hn
  refine (get_hit bc bm most l1 l2 b k _ w h).mono ?_
  rintro e w' ⟨rfl, hC, hT⟩
  refine ⟨rfl, _, hC, ?_, by simp; omega, hT, fun n hn => ?_⟩
  · rw [hg, filter_mid h.body.keys]; rfl
  · rcases List.mem_cons.1 hn with rfl | hn
    · simp
    · rcases List.mem_append.1 hn with hn | hn
      · exact List.mem_map_of_mem (by simp [hn])
      · exact List.mem_map_of_mem (by simp [hn])
theorem get_none (bc bm : Nat) (most : Int) (L : List (Nat × ByteArray × Value)) (k : ByteArray) (w : World) (h : CacheR encStr w bc bm most L) (hf : (kv L).find? (fun p => decide (p.1 = k)) = none) :
    Calls Tryz.prog 28 #[.pointer (some ⟨bc, 0, none⟩), .string k] w fun e w' => e = .returned (.tuple #[.int .i64 0, .bool false]) ∧ CacheR encStr w' bc bm most L ∧ Below w.heap.size w w' := by
  have hno : ∀ n ∈ L, n.2.1 ≠ k := fun n hn e => by
    have := List.find?_eq_none.1 hf n.2 (List.mem_map_of_mem hn)
    simp [e] at this
  have hlt := h.lt encStr
  refine (get_miss bc bm most L k w h hno).mono ?_
  rintro e w' ⟨rfl, hb⟩
  exact ⟨rfl, h.keep encStr (Tch.of_below (S := fun k => w.heap.size ≤ k) hb (fun k _ hk => hk)) (fun k hk hk2 => by have := hlt k hk; omega), hb⟩
end Go.Proofs.YtdjkheiakkhngaaGreatDoor.Cb
