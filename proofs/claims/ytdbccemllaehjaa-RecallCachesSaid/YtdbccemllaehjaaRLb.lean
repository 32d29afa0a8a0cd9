/- The law RecallLately. -/
import Derived.Test.YtdbccemllaehjaaRLa
namespace Go.Proofs.Ytdbccemllaehjaa.RL
open Go.RowKit Go.Proofs.YtdbccemllaehjaaKw
open PC (strs strs_len strs_at rd_str strs_take info9)
open AW (At)
set_option linter.unusedVariables false
set_option linter.unusedSimpArgs false

def pickS (x n : Int) : Int := if n < 1 then 0 else x % n
set_option maxHeartbeats 1000000 in
theorem pick_calls (x n : Int) (hx : -9223372036854775808 ≤ x) (hx2 : x ≤ 9223372036854775807) (hn : 1 ≤ n) (hn2 : n ≤ 4611686018427387904) (w : World) :
    Calls Try.prog 21 #[.int .i64 x, .int .i64 n] w fun e w' => e = .returned (.int .i64 (x % n)) ∧ w = w' := by
  have h0 : (n == 0) = false := by simp; omega
  have hm := Int.emod_nonneg x (show n ≠ 0 by omega)
  have hm2 := Int.emod_lt_of_pos x (show 0 < n by omega)
  by_cases hs : 0 ≤ x
  · have ht : x.tmod n = x % n := Int.tmod_eq_emod_of_nonneg hs
    go_enter Try.func21, Try.ntmps21
    go_wp2
    go_ret
    exact ⟨rfl, rfl⟩
  · by_cases hd : n ∣ x
    · have he : x % n = 0 := Int.emod_eq_zero_of_dvd hd
      have ht : x.tmod n = 0 := by rw [Int.tmod_eq_emod, if_pos (.inr hd), he]; rfl
      go_enter Try.func21, Try.ntmps21
      go_wp2
      go_ret
      exact ⟨rfl, rfl⟩
    · have ht : x.tmod n = x % n - n := by rw [Int.tmod_eq_emod, if_neg (by omega)]; omega
      have hlt : x % n - n < 0 := by omega
      have e : Hid (x % n - n + n = x % n) := by show _ = _; omega
      go_enter Try.func21, Try.ntmps21
      go_wp2
      go_ret
      exact ⟨rfl, rfl⟩

/-! ### what stays where other blocks are written -/
theorem own_tch {w w1 : World} {S : Nat → Prop} {base : Nat} {e : TypeId} {size n : Nat} {v : Value} {xs : List Value} (h : w.ownsRow base e size v n xs) (ht : Tch S w w1) (hS : ∀ g, v.ownBlock = some g → ¬ S g) : w1.ownsRow base e size v n xs := by
  have hlt := h.lt
  refine ⟨h.1, ?_⟩
  rcases h.2 with hn | ⟨g, cap, cur, rfl, hbg, hgg, rest⟩
  · exact .inl hn
  · exact .inr ⟨g, cap, cur, rfl, hbg, by rw [ht.block g (hlt g rfl).2 (hS g rfl)]; exact hgg, rest⟩
theorem mapF_tch {w w1 : World} {S : Nat → Prop} {b : Nat} {f : ByteArray → Option Value} (h : MapF encStr w b f) (ht : Tch S w w1) (hS : ¬ S b) : MapF encStr w1 b f := by
  obtain ⟨m, ⟨es, clock, hb, he⟩, hf⟩ := h
  exact ⟨m, ⟨es, clock, by rw [ht.block b (Array.getElem?_eq_some_iff.1 hb).1 hS]; exact hb, he⟩, hf⟩
theorem mapF_lt {w : World} {b : Nat} {f : ByteArray → Option Value} (h : MapF encStr w b f) : b < w.heap.size := by
  obtain ⟨m, ⟨es, clock, hb, he⟩, hf⟩ := h
  exact (Array.getElem?_eq_some_iff.1 hb).1
theorem mapF_cell {w : World} {b o : Nat} {f : ByteArray → Option Value} {v : Value} (h : MapF encStr w b f) (hc : w.cell? ⟨b, o, none⟩ = some v) : False := by
  obtain ⟨m, ⟨es, clock, hb, he⟩, hf⟩ := h
  simp [World.cell?, hb] at hc
theorem tch_new {w w' : World} (hb : Below w.heap.size w w') : Tch (fun k => w.heap.size ≤ k) w w' := Tch.of_below (S := fun k => w.heap.size ≤ k) hb (fun k _ hk => hk)
theorem tch_grown {w w' : World} {row : Option Nat} (h : w.grownBy w' row) : Tch (fun k => some k = row) w w' := ⟨h.os, h.tape, h.output, h.size, h.block⟩

/-- The state of the law's loop: the Cache, the map, what was used. -/
structure St (w0 w : World) (bc bm bp most : Nat) (v : Value) (used : List ByteArray) (l : List (ByteArray × Value)) (f : ByteArray → Option Value) (L : List (Nat × ByteArray × Value)) : Prop where
  rep : CacheR encStr w bc bm most L
  kv : Cb.kv L = l
  len : L.length ≤ most
  below : Below w0.heap.size w0 w
  own : ∀ q, Own bc bm L q → w0.heap.size ≤ q
  map : MapF encStr w bp f
  mapB : w0.heap.size ≤ bp
  mapN : ¬ Own bc bm L bp
  row : w.ownsRow w0.heap.size 9 1 v used.length (strs used)
  rowN : ∀ g, v.ownBlock = some g → ¬ Own bc bm L g
  keys : l.map (·.1) = lateF most [] used.reverse
  vals : ∀ p ∈ l, ∃ n : Int, p.2 = .int .i64 n ∧ f p.1 = some (.int .i64 n)
  ints : ∀ k u, f k = some u → ∃ n : Int, u = .int .i64 n

theorem St.other {w0 w w' : World} {bc bm bp most : Nat} {v : Value} {used : List ByteArray} {l : List (ByteArray × Value)} {f : ByteArray → Option Value} {L : List (Nat × ByteArray × Value)} (h : St w0 w bc bm bp most v used l f L) (hb : Below w.heap.size w w') : St w0 w' bc bm bp most v used l f L := by
  have hlt := h.rep.lt encStr
  have ht := tch_new hb
  have hm := mapF_lt h.map
  have hr := h.row.lt
  exact ⟨h.rep.keep encStr ht (fun k hk hk2 => by have := hlt k hk; omega), h.kv, h.len, below_then h.below h.below.size hb, h.own, mapF_tch h.map ht (by omega), h.mapB, h.mapN, own_keep h.row hb, h.rowN, h.keys, h.vals, h.ints⟩
/-- The Cache has been written, and holds other items. -/
theorem St.cache {w0 w w' : World} {bc bm bp most : Nat} {v : Value} {used : List ByteArray} {l : List (ByteArray × Value)} {f : ByteArray → Option Value} {L : List (Nat × ByteArray × Value)} (h : St w0 w bc bm bp most v used l f L) {L' : List (Nat × ByteArray × Value)}
    (hC : CacheR encStr w' bc bm most L') (hl : L'.length ≤ most) (ht : Tch (Own bc bm L) w w') (hn : ∀ n ∈ L', n.1 ∈ L.map (·.1) ∨ w.heap.size ≤ n.1) :
    Below w0.heap.size w0 w' ∧ (∀ q, Own bc bm L' q → w0.heap.size ≤ q) ∧ MapF encStr w' bp f ∧ ¬ Own bc bm L' bp ∧ w'.ownsRow w0.heap.size 9 1 v used.length (strs used) ∧ ∀ g, v.ownBlock = some g → ¬ Own bc bm L' g := by
  have hm := mapF_lt h.map
  have hr := h.row.lt
  refine ⟨h.below.trans (ht.below h.below.size h.own), fun q hq => ?_, mapF_tch h.map ht h.mapN, fun hq => ?_, own_tch h.row ht h.rowN, fun g hg hq => ?_⟩
  · rcases Cb.own_new hn hq with hq | hq
    · exact h.own q hq
    · exact Nat.le_trans h.below.size hq
  · rcases Cb.own_new hn hq with hq | hq
    · exact h.mapN hq
    · omega
  · rcases Cb.own_new hn hq with hq | hq
    · exact h.rowN g hg hq
    · have := (hr g hg).2; omega

theorem find_keys {l : List (ByteArray × Value)} {k : ByteArray} : (l.find? fun p => decide (p.1 = k)) = none ↔ k ∉ l.map (·.1) := by
  rw [List.find?_eq_none]
  constructor
  · intro h hm
    obtain ⟨p, hp, rfl⟩ := List.mem_map.1 hm
    exact h p hp (by simp)
  · intro h p hp hq
    exact h (List.mem_map.2 ⟨p, hp, by simpa using hq⟩)
theorem St.nodup {w0 w : World} {bc bm bp most : Nat} {v : Value} {used : List ByteArray} {l : List (ByteArray × Value)} {f : ByteArray → Option Value} {L : List (Nat × ByteArray × Value)} (h : St w0 w bc bm bp most v used l f L) : (l.map (·.1)).Nodup := by rw [h.keys]; exact lateF_nodup _ _

/-- Put. -/
theorem St.put {w0 w : World} {bc bm bp most : Nat} {v : Value} {used : List ByteArray} {l : List (ByteArray × Value)} {f : ByteArray → Option Value} {L : List (Nat × ByteArray × Value)} (h : St w0 w bc bm bp most v used l f L) (h1 : 1 ≤ most) (h2 : most ≤ 4096) (k : ByteArray) (n : Int) :
    Calls Try.prog 34 #[.pointer (some ⟨bc, 0, none⟩), .string k, .int .i64 n] w fun e w' => e = .returned (.tuple #[]) ∧ ∃ L', CacheR encStr w' bc bm most L' ∧ Cb.kv L' = Cb.putS most l k (.int .i64 n) ∧ L'.length ≤ most ∧
      Below w0.heap.size w0 w' ∧ (∀ q, Own bc bm L' q → w0.heap.size ≤ q) ∧ MapF encStr w' bp f ∧ ¬ Own bc bm L' bp ∧ w'.ownsRow w0.heap.size 9 1 v used.length (strs used) ∧ ∀ g, v.ownBlock = some g → ¬ Own bc bm L' g := by
  refine (Cb.put_any bc bm most h1 h2 L h.len k n w h.rep).mono ?_
  rintro e w' ⟨rfl, L', hC, hk, hl, ht, hn⟩
  exact ⟨rfl, L', hC, by rw [hk, h.kv], hl, h.cache hC hl ht hn⟩

theorem putS_keys (most : Nat) (l : List (ByteArray × Value)) (k : ByteArray) (v : Value) : (Cb.putS most l k v).map (·.1) = (k :: (l.map (·.1)).filter fun x => !decide (x = k)).take most := by
  unfold Cb.putS
  rw [List.map_take, List.map_cons, List.filter_map]
  rfl
theorem rev_snoc (used : List ByteArray) (k : ByteArray) : (used ++ [k]).reverse = k :: used.reverse := by simp
