/- The law RecallLately: the states behind Get and Put. -/
import Derived.Test.YtdbccemllaehjaaRLc
namespace Go.Proofs.Ytdbccemllaehjaa.RL
open Go.RowKit Go.Proofs.YtdbccemllaehjaaKw
open PC (strs strs_len strs_at rd_str strs_take info9)
open AW (At)
set_option linter.unusedVariables false
set_option linter.unusedSimpArgs false

theorem rd_strc {w : World} {b off : Nat} {ks : List ByteArray} (h : Rd w (some ⟨b, off, none⟩) (strs ks)) {k : Nat} (hk : k < ks.length) : w.cell? ⟨b, off + k, none⟩ = some (.string ks[k]) := by
  obtain ⟨b', off', e, hc⟩ := rd_str h hk
  cases e
  exact hc
theorem rd_boolc {w : World} {b off : Nat} {bs : List Bool} (h : Rd w (some ⟨b, off, none⟩) (bls bs)) {k : Nat} (hk : k < bs.length) : w.cell? ⟨b, off + k, none⟩ = some (.bool bs[k]) := by
  obtain ⟨b', off', e, hc⟩ := rd_bool h hk
  cases e
  exact hc

theorem Rest.other {w0 w w' : World} {bc bm bp most : Nat} {v : Value} {used keys' : List ByteArray} {f : ByteArray → Option Value} {L : List (Nat × ByteArray × Value)} (h : Rest w0 w bc bm bp most v used keys' f L) (hb : Below w.heap.size w w') : Rest w0 w' bc bm bp most v used keys' f L := by
  have hlt := h.rep.lt encStr
  have ht := tch_new hb
  have hm := mapF_lt h.map
  have hr := h.row.lt
  exact ⟨h.rep.keep encStr ht (fun k hk hk2 => by have := hlt k hk; omega), h.len, below_then h.below h.below.size hb, h.own, mapF_tch h.map ht (by omega), h.mapB, h.mapN, own_keep h.row hb, h.rowN, h.keys, h.vals, h.ints⟩

/-- Get, of a key that is there. -/
theorem St.got {w0 w : World} {bc bm bp most : Nat} {v : Value} {used : List ByteArray} {l : List (ByteArray × Value)} {f : ByteArray → Option Value} {L : List (Nat × ByteArray × Value)} (h : St w0 w bc bm bp most v used l f L) (h1 : 1 ≤ most) (k : ByteArray) (hk : k ∈ lateF most [] used.reverse) :
    ∃ n : Int, f k = some (.int .i64 n) ∧ Calls Try.prog 31 #[.pointer (some ⟨bc, 0, none⟩), .string k] w fun e w' => e = .returned (.tuple #[.int .i64 n, .bool true]) ∧ ∃ L', Rest w0 w' bc bm bp most v used (lateF most [] (used ++ [k]).reverse) f L' := by
  have hk' : k ∈ l.map (·.1) := by rw [h.keys]; exact hk
  obtain ⟨n, hf, hc⟩ := h.get k hk'
  refine ⟨n, hf, hc.mono ?_⟩
  rintro e w' ⟨rfl, L', hC, hkv, hl, hb, ho, hm, hmn, hr, hrn⟩
  refine ⟨rfl, L', hC, hl, hb, ho, hm, h.mapB, hmn, hr, hrn, ?_, ?_, h.ints⟩
  · rw [hkv, getS_keys l k hk', h.keys]
    exact late_hit most h1 k used hk
  · rw [hkv]
    exact fun p hp => h.vals p (getS_mem l k p hp)

/-- Behind Put. -/
structure Mid (w0 w : World) (bc bm bp most : Nat) (v : Value) (used : List ByteArray) (l : List (ByteArray × Value)) (f : ByteArray → Option Value) (k : ByteArray) (n : Int) (L : List (Nat × ByteArray × Value)) : Prop where
  rep : CacheR encStr w bc bm most L
  kv : Cb.kv L = Cb.putS most l k (.int .i64 n)
  len : L.length ≤ most
  below : Below w0.heap.size w0 w
  own : ∀ q, Own bc bm L q → w0.heap.size ≤ q
  map : MapF encStr w bp f
  mapB : w0.heap.size ≤ bp
  mapN : ¬ Own bc bm L bp
  row : w.ownsRow w0.heap.size 9 1 v used.length (strs used)
  rowN : ∀ g, v.ownBlock = some g → ¬ Own bc bm L g
  keys : (Cb.kv L).map (·.1) = lateF most [] (used ++ [k]).reverse
  vals : ∀ p ∈ l, ∃ n : Int, p.2 = .int .i64 n ∧ f p.1 = some (.int .i64 n)
  ints : ∀ k u, f k = some u → ∃ n : Int, u = .int .i64 n
theorem St.putMid {w0 w : World} {bc bm bp most : Nat} {v : Value} {used : List ByteArray} {l : List (ByteArray × Value)} {f : ByteArray → Option Value} {L : List (Nat × ByteArray × Value)} (h : St w0 w bc bm bp most v used l f L) (h1 : 1 ≤ most) (h2 : most ≤ 4096) (k : ByteArray) (n : Int) :
    Calls Try.prog 34 #[.pointer (some ⟨bc, 0, none⟩), .string k, .int .i64 n] w fun e w' => e = .returned (.tuple #[]) ∧ ∃ L', Mid w0 w' bc bm bp most v used l f k n L' := by
  refine (h.put h1 h2 k n).mono ?_
  rintro e w' ⟨rfl, L', hC, hkv, hl, hb, ho, hm, hmn, hr, hrn⟩
  refine ⟨rfl, L', hC, hkv, hl, hb, ho, hm, h.mapB, hmn, hr, hrn, ?_, h.vals, h.ints⟩
  rw [hkv, putS_keys, h.keys, rev_snoc, late_cons most h1]
theorem Mid.set {w0 w : World} {bc bm bp most : Nat} {v : Value} {used : List ByteArray} {l : List (ByteArray × Value)} {f : ByteArray → Option Value} {k : ByteArray} {n : Int} {L : List (Nat × ByteArray × Value)} (h : Mid w0 w bc bm bp most v used l f k n L) {o : Obj} (hm : MapF encStr (setMap w bp o) bp (fun k' => if k' = k then some (.int .i64 n) else f k')) :
    Rest w0 (setMap w bp o) bc bm bp most v used (lateF most [] (used ++ [k]).reverse) (fun k' => if k' = k then some (.int .i64 n) else f k') L := by
  have ht := setMap_tch w bp o (fun q => q = bp) rfl
  refine ⟨h.rep.keep encStr ht (fun q hq hs => h.mapN (by rw [← hs]; exact hq)), h.len, h.below.trans (ht.below h.below.size (fun q hq => by rw [hq]; exact h.mapB)), h.own, hm, h.mapB, h.mapN, own_tch h.row ht (fun g hg hs => ?_), h.rowN, h.keys, fun p hp => ?_, fun k' u hu => ?_⟩
  · subst hs
    rcases h.row.2 with ⟨rfl, _⟩ | ⟨g', cap, cur, rfl, _, hh, _⟩
    · simp [Value.ownBlock] at hg
    · simp [Value.ownBlock] at hg
      obtain ⟨m, ⟨es, clock, hbm, he⟩, hf⟩ := h.map
      rw [← hg, hh] at hbm
      cases hbm
  · rw [h.kv] at hp
    have hp := List.mem_of_mem_take hp
    rcases List.mem_cons.1 hp with rfl | hp
    · exact ⟨n, rfl, by simp⟩
    · obtain ⟨hp, hne⟩ := List.mem_filter.1 hp
      obtain ⟨m, e1, e2⟩ := h.vals p hp
      refine ⟨m, e1, ?_⟩
      simp only [Bool.not_eq_true', decide_eq_false_iff_not] at hne
      simp only [if_neg hne, e2]
  · by_cases hk : k' = k
    · simp only [if_pos hk, Option.some.injEq] at hu
      exact ⟨n, hu.symm⟩
    · simp only [if_neg hk] at hu
      exact h.ints k' u hu

def Inv (w0 w : World) (bc bm bp most : Nat) (v : Value) (used : List ByteArray) : Prop := ∃ l f L, St w0 w bc bm bp most v used l f L
end Go.Proofs.Ytdbccemllaehjaa.RL
