/- The walk over 'awake': some fixed answers of a Cache[string, int]. -/
import Derived.Test.YtdjkheiakkhngaaGreatDoorPcA
import Derived.Test.YtdjkheiakkhngaaGreatDoorRCb
namespace Go.Proofs.YtdjkheiakkhngaaGreatDoor.AW
open Go.RowKit Go.Proofs.YtdjkheiakkhngaaGreatDoorKw
set_option linter.unusedVariables false
set_option linter.unusedSimpArgs false
def sA : ByteArray := ⟨#[97]⟩
def sB : ByteArray := ⟨#[98]⟩
def sC : ByteArray := ⟨#[99]⟩
theorem gone_calls (s : ByteArray) (w : World) : Calls Tryz.prog 31 #[.string s] w fun e w' => e = .returned (.bool (s.toList == [99])) ∧ w = w' := by
  go_enter Tryz.func31, Tryz.ntmps31
  go_wp2_with fail
  go_ret
  exact ⟨rfl, rfl⟩
/-- A Cache that the call itself has made. -/
structure At (w0 w : World) (bc bm most : Nat) (l : List (ByteArray × Value)) (L : List (Nat × ByteArray × Value)) : Prop where
  rep : CacheR encStr w bc bm most L
  kv : Cb.kv L = l
  len : L.length ≤ most
  below : Below w0.heap.size w0 w
  own : ∀ q, Own bc bm L q → w0.heap.size ≤ q
theorem At.put {w0 w : World} {bc bm most : Nat} {l : List (ByteArray × Value)} {L : List (Nat × ByteArray × Value)} (h : At w0 w bc bm most l L) (h1 : 1 ≤ most) (h2 : most ≤ 4096) (k : ByteArray) (v : Int) :
    Calls Tryz.prog 11 #[.pointer (some ⟨bc, 0, none⟩), .string k, .int .i64 v] w fun e w' => e = .returned (.tuple #[]) ∧ ∃ L', At w0 w' bc bm most (Cb.putS most l k (.int .i64 v)) L' := by
  refine (Cb.put_any bc bm most h1 h2 L h.len k v w h.rep).mono ?_
  rintro e w' ⟨rfl, L', hC, hk, hl, ht, hn⟩
  refine ⟨rfl, L', hC, by rw [hk, h.kv], hl, h.below.trans (ht.below (Nat.le_trans (Nat.le_refl _) h.below.size) h.own), fun q hq => ?_⟩
  rcases Cb.own_new hn hq with hq | hq
  · exact h.own q hq
  · exact Nat.le_trans h.below.size hq
theorem At.get {w0 w : World} {bc bm most : Nat} {l : List (ByteArray × Value)} {L : List (Nat × ByteArray × Value)} (h : At w0 w bc bm most l L) (k : ByteArray) (v : Int) (hf : l.find? (fun p => decide (p.1 = k)) = some (k, .int .i64 v)) :
    Calls Tryz.prog 28 #[.pointer (some ⟨bc, 0, none⟩), .string k] w fun e w' => e = .returned (.tuple #[.int .i64 v, .bool true]) ∧ ∃ L', At w0 w' bc bm most (Cb.getS l k) L' := by
  refine (Cb.get_found bc bm most L k v w h.rep (by rw [h.kv]; exact hf)).mono ?_
  rintro e w' ⟨rfl, L', hC, hk, hl, ht, hn⟩
  refine ⟨rfl, L', hC, by rw [hk, h.kv], by rw [hl]; exact h.len, h.below.trans (ht.below h.below.size h.own), fun q hq => ?_⟩
  rcases Cb.own_new (N := w.heap.size) (fun n hn' => .inl (hn n hn')) hq with hq | hq
  · exact h.own q hq
  · exact Nat.le_trans h.below.size hq
theorem At.miss {w0 w : World} {bc bm most : Nat} {l : List (ByteArray × Value)} {L : List (Nat × ByteArray × Value)} (h : At w0 w bc bm most l L) (k : ByteArray) (hf : l.find? (fun p => decide (p.1 = k)) = none) :
    Calls Tryz.prog 28 #[.pointer (some ⟨bc, 0, none⟩), .string k] w fun e w' => e = .returned (.tuple #[.int .i64 0, .bool false]) ∧ At w0 w' bc bm most l L := by
  refine (Cb.get_none bc bm most L k w h.rep (by rw [h.kv]; exact hf)).mono ?_
  rintro e w' ⟨rfl, hC, hb⟩
  exact ⟨rfl, hC, h.kv, h.len, below_then h.below h.below.size hb, h.own⟩
theorem new_at (most : Nat) (h1 : 1 ≤ most) (h2 : most ≤ 4096) (w : World) :
    Calls Tryz.prog 10 #[.int .i64 most] w fun e w' => e = .returned (.tuple #[.pointer (some ⟨w.heap.size + 1, 0, none⟩), .int .i64 0]) ∧ At w w' (w.heap.size + 1) w.heap.size most [] [] := by
  refine (Cb.new_calls most (by omega) (by omega) w).mono ?_
  rintro e w1 ⟨rfl, hC1, hb1⟩
  refine ⟨rfl, hC1, rfl, by simp, hb1, ?_⟩
  rintro q (rfl | rfl | h)
  · omega
  · omega
  · simp at h
theorem keysV_kv (L : List (Nat × ByteArray × Value)) : Cb.keysV L = PC.strs ((Cb.kv L).map (·.1)) := by
  simp [Cb.keysV, Cb.kv, PC.strs, encStr]
theorem At.keys {w0 w : World} {bc bm most : Nat} {l : List (ByteArray × Value)} {L : List (Nat × ByteArray × Value)} (h : At w0 w bc bm most l L) (h2 : most ≤ 4096) :
    Calls Tryz.prog 30 #[.pointer (some ⟨bc, 0, none⟩)] w fun e w' => ∃ A c, e = .returned (.slice A l.length c) ∧ w'.ownsRow w.heap.size 9 1 (.slice A l.length c) l.length (PC.strs (l.map (·.1))) ∧ Below w.heap.size w w' ∧ At w0 w' bc bm most l L := by
  have hll : L.length = l.length := by rw [← h.kv, Cb.kv_len]
  refine (Cb.keys_calls bc bm most L w h.rep (by have := h.len; omega)).mono ?_
  rintro e w' ⟨v, rfl, ho, hb⟩
  rw [keysV_kv, h.kv, hll] at ho
  obtain ⟨A, c, rfl, _, _⟩ := own_form ho
  have hlt := h.rep.lt encStr
  exact ⟨A, c, rfl, ho, hb, h.rep.keep encStr (Tch.of_below (S := fun k => w.heap.size ≤ k) hb (fun k _ hk => hk)) (fun k hk hk2 => by have := hlt k hk; omega), h.kv, h.len, below_then h.below h.below.size hb, h.own⟩
theorem At.len_ {w0 w : World} {bc bm most : Nat} {l : List (ByteArray × Value)} {L : List (Nat × ByteArray × Value)} (h : At w0 w bc bm most l L) :
    Calls Tryz.prog 13 #[.pointer (some ⟨bc, 0, none⟩)] w fun e w' => e = .returned (.int .i64 l.length) ∧ w = w' := by
  have hll : L.length = l.length := by rw [← h.kv, Cb.kv_len]
  rw [← hll]
  exact Cb.len_calls bc bm most L w h.rep
/-- Other blocks, and new ones, have been written. -/
theorem At.other {w0 w w' : World} {bc bm most : Nat} {l : List (ByteArray × Value)} {L : List (Nat × ByteArray × Value)} (h : At w0 w bc bm most l L) (hb : Below w.heap.size w w') : At w0 w' bc bm most l L := by
  have hlt := h.rep.lt encStr
  exact ⟨h.rep.keep encStr (Tch.of_below (S := fun k => w.heap.size ≤ k) hb (fun k _ hk => hk)) (fun k hk hk2 => by have := hlt k hk; omega), h.kv, h.len, below_then h.below h.below.size hb, h.own⟩

set_option maxHeartbeats 4000000 in
set_option maxRecDepth 100000 in
theorem awake_calls (w : World) : Calls Tryz.prog 17 #[] w fun e w' => e = .returned (.bool true) ∧ Below w.heap.size w w' := by
  go_enter Tryz.func17, Tryz.ntmps17
  go_wp2_with fail
  refine (new_at 2 (by omega) (by omega) w).mono ?_
  rintro e w1 ⟨rfl, h1⟩
  go_wp2_with fail
  refine (h1.put (by omega) (by omega) sA 1).mono ?_
  rintro e w2 ⟨rfl, L2, h2⟩
  clear h1
  go_wp2_with fail
  refine (h2.put (by omega) (by omega) sB 2).mono ?_
  rintro e w3 ⟨rfl, L3, h3⟩
  clear h2
  have e3 : Cb.putS 2 (Cb.putS 2 [] sA (.int .i64 1)) sB (.int .i64 2) = [(sB, .int .i64 2), (sA, .int .i64 1)] := by rfl
  rw [e3] at h3
  clear e3
  go_wp2_with fail
  refine (h3.get sA 1 rfl).mono ?_
  rintro e w4 ⟨rfl, L4, h4⟩
  clear h3
  have e4 : Cb.getS [(sB, .int .i64 2), (sA, .int .i64 1)] sA = [(sA, .int .i64 1), (sB, .int .i64 2)] := by rfl
  rw [e4] at h4
  clear e4
  go_wp2_with fail
  refine (h4.put (by omega) (by omega) sC 3).mono ?_
  rintro e w5 ⟨rfl, L5, h5⟩
  clear h4
  have e5 : Cb.putS 2 [(sA, .int .i64 1), (sB, .int .i64 2)] sC (.int .i64 3) = [(sC, .int .i64 3), (sA, .int .i64 1)] := by rfl
  rw [e5] at h5
  clear e5
  go_wp2_with fail
  refine (h5.miss sB rfl).mono ?_
  rintro e w6 ⟨rfl, h6⟩
  clear h5
  go_wp2_with fail
  refine (h6.keys (by omega)).mono ?_
  rintro e w7 ⟨A, c, rfl, ho, hb, h7⟩
  clear h6
  have hr := own_rd ho
  clear ho hb
  have hr2 := hr.keep (below_alloc (Below.refl w7.heap.size w7) (.cells #[.string sC, .string sA] 9))
  have hr3 : Rd (w7.alloc (.cells #[.string sC, .string sA] 9)) (some ⟨w7.heap.size, 0, none⟩) (PC.strs [sC, sA]) := by
    refine .inr ⟨w7.heap.size, 0, rfl, fun j u hj => ?_⟩
    match j, hj with
    | 0, hj => simp [PC.strs] at hj; subst hj; simp [go_sem]
    | 1, hj => simp [PC.strs] at hj; subst hj; simp [go_sem]
  go_wp2_with fail
  refine (PC.same_calls A (some ⟨w7.heap.size, 0, none⟩) c 2 [sC, sA] _ hr2 hr3 (by simp)).mono ?_
  rintro e w8 ⟨rfl, hb8⟩
  have h8 := (h7.other (below_alloc (Below.refl w7.heap.size w7) (.cells #[.string sC, .string sA] 9))).other hb8
  clear h7 hr hr2 hr3 hb8
  go_wp2_with fail
  have hlen8 : L5.length ≤ 4096 := by have := h8.len; omega
  refine (Cb.drop_calls (fun s => s.toList == [99]) (fun _ _ => True) (fun _ => False) _ _ _ L5 (fun ks k W _ _ => (gone_calls k W).mono fun e W' ⟨he, hw⟩ => ⟨he, trivial, by subst hw; exact Tch.refl _ _⟩) (fun _ _ _ _ _ => trivial) (fun _ _ h => h) w8 h8.rep hlen8 trivial).mono ?_
  rintro e w9 ⟨rfl, hC9, -, ht9⟩
  have ekv := h8.kv
  have hf1 : (L5.filter fun n => n.2.1.toList == [99]).length = 1 := by
    have := congrArg (fun l => (l.filter fun p => p.1.toList == [99]).length) ekv
    simp only [Cb.kv, List.filter_map, List.length_map] at this
    rw [show (L5.filter fun n => n.2.1.toList == [99]).length = _ from this]
    decide +kernel
  have hf2 : (L5.filter fun n => !(n.2.1.toList == [99])).length = 1 := by
    have := congrArg (fun l => (l.filter fun p => !(p.1.toList == [99])).length) ekv
    simp only [Cb.kv, List.filter_map, List.length_map] at this
    rw [show (L5.filter fun n => !(n.2.1.toList == [99])).length = _ from this]
    decide +kernel
  rw [hf1]
  have hb9 : Below w.heap.size w w9 := h8.below.trans (ht9.below h8.below.size (fun k hk => by rcases hk with hk | hk; exact h8.own k hk; exact hk.elim))
  have HF2 := Lib.hid hf2
  clear h8 hf1 hf2 ekv ht9
  go_wp2_with fail
  refine (Cb.len_calls _ _ _ _ w9 hC9).mono ?_
  rintro e w10 ⟨rfl, rfl⟩
  rw [HF2.out]
  go_wp2_with fail
  go_ret
  exact ⟨rfl, hb9⟩
end Go.Proofs.YtdjkheiakkhngaaGreatDoor.AW
