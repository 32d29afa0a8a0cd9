/- The law RecallLately: its walk. -/
import Derived.Test.YtdbccemllaehjaaRLb
namespace Go.Proofs.Ytdbccemllaehjaa.RL
open Go.RowKit Go.Proofs.YtdbccemllaehjaaKw
open PC (strs strs_len strs_at rd_str strs_take info9)
open AW (At)
set_option linter.unusedVariables false
set_option linter.unusedSimpArgs false

theorem St.get {w0 w : World} {bc bm bp most : Nat} {v : Value} {used : List ByteArray} {l : List (ByteArray × Value)} {f : ByteArray → Option Value} {L : List (Nat × ByteArray × Value)} (h : St w0 w bc bm bp most v used l f L) (k : ByteArray) (hk : k ∈ l.map (·.1)) :
    ∃ n : Int, f k = some (.int .i64 n) ∧ Calls Try.prog 31 #[.pointer (some ⟨bc, 0, none⟩), .string k] w fun e w' => e = .returned (.tuple #[.int .i64 n, .bool true]) ∧ ∃ L', CacheR encStr w' bc bm most L' ∧ Cb.kv L' = Cb.getS l k ∧ L'.length ≤ most ∧
      Below w0.heap.size w0 w' ∧ (∀ q, Own bc bm L' q → w0.heap.size ≤ q) ∧ MapF encStr w' bp f ∧ ¬ Own bc bm L' bp ∧ w'.ownsRow w0.heap.size 9 1 v used.length (strs used) ∧ ∀ g, v.ownBlock = some g → ¬ Own bc bm L' g := by
  cases hf : l.find? (fun p => decide (p.1 = k)) with
  | none => exact absurd hk (find_keys.1 hf)
  | some p =>
    have hp := List.mem_of_find?_eq_some hf
    have hpk : p.1 = k := by have := List.find?_some hf; simpa using this
    obtain ⟨n, hn, hfn⟩ := h.vals p hp
    obtain ⟨pk, pv⟩ := p
    simp only at hpk hn hfn
    subst hpk; subst hn
    refine ⟨n, hfn, (Cb.get_found bc bm most L pk n w h.rep (by rw [h.kv]; exact hf)).mono ?_⟩
    rintro e w' ⟨rfl, L', hC, hkv, hl, ht, hn⟩
    exact ⟨rfl, L', hC, by rw [hkv, h.kv], by rw [hl]; exact h.len, h.cache hC (by rw [hl]; exact h.len) ht (fun n hn' => .inl (hn n hn'))⟩
theorem St.miss {w0 w : World} {bc bm bp most : Nat} {v : Value} {used : List ByteArray} {l : List (ByteArray × Value)} {f : ByteArray → Option Value} {L : List (Nat × ByteArray × Value)} (h : St w0 w bc bm bp most v used l f L) (k : ByteArray) (hk : k ∉ l.map (·.1)) :
    Calls Try.prog 31 #[.pointer (some ⟨bc, 0, none⟩), .string k] w fun e w' => e = .returned (.tuple #[.int .i64 0, .bool false]) ∧ St w0 w' bc bm bp most v used l f L ∧ Below w.heap.size w w' := by
  refine (Cb.get_none bc bm most L k w h.rep (by rw [h.kv]; exact find_keys.2 hk)).mono ?_
  rintro e w' ⟨rfl, _, hb⟩
  exact ⟨rfl, h.other hb, hb⟩
theorem getS_keys (l : List (ByteArray × Value)) (k : ByteArray) (hk : k ∈ l.map (·.1)) : (Cb.getS l k).map (·.1) = k :: (l.map (·.1)).filter fun x => !decide (x = k) := by
  unfold Cb.getS
  cases hf : l.find? (fun p => decide (p.1 = k)) with
  | none => exact absurd hk (find_keys.1 hf)
  | some p =>
    have hpk : p.1 = k := by have := List.find?_some hf; simpa using this
    simp only [List.map_cons, hpk, List.filter_map]
    rfl
theorem getS_mem (l : List (ByteArray × Value)) (k : ByteArray) : ∀ p ∈ Cb.getS l k, p ∈ l := by
  intro p hp
  unfold Cb.getS at hp
  cases hf : l.find? (fun p => decide (p.1 = k)) with
  | none => rw [hf] at hp; exact hp
  | some q =>
    rw [hf] at hp
    rcases List.mem_cons.1 hp with rfl | hp
    · exact List.mem_of_find?_eq_some hf
    · exact (List.mem_filter.1 hp).1
theorem filter_len {l : List ByteArray} (hn : l.Nodup) {k : ByteArray} (hk : k ∈ l) : (l.filter fun x => !decide (x = k)).length + 1 = l.length := by
  induction l with
  | nil => simp at hk
  | cons y l ih =>
    obtain ⟨h1, h2⟩ := List.nodup_cons.1 hn
    by_cases hy : y = k
    · subst hy
      have : l.filter (fun x => !decide (x = y)) = l := List.filter_eq_self.2 fun x hx => by
        have : x ≠ y := fun e => h1 (e ▸ hx)
        simp [this]
      simp [List.filter_cons, this]
    · have := ih h2 ((List.mem_cons.1 hk).resolve_left (fun e => hy e.symm))
      simp only [List.filter_cons, hy, decide_false, Bool.not_false, if_true, List.length_cons]
      omega
theorem late_hit (most : Nat) (h : 1 ≤ most) (k : ByteArray) (used : List ByteArray) (hk : k ∈ lateF most [] used.reverse) :
    k :: ((lateF most [] used.reverse).filter fun x => !decide (x = k)) = lateF most [] (used ++ [k]).reverse := by
  rw [rev_snoc, late_cons most h]
  have h1 := filter_len (lateF_nodup most used.reverse) hk
  have h2 := lateF_len most used.reverse
  rw [List.take_of_length_le]
  simp; omega

def bls (bs : List Bool) : List Value := bs.map .bool
theorem rd_bool {w : World} {A : Option Addr} {bs : List Bool} (h : Rd w A (bls bs)) {j : Nat} (hj : j < bs.length) :
    ∃ b off, A = some ⟨b, off, none⟩ ∧ w.cell? ⟨b, off + j, none⟩ = some (.bool bs[j]) := by
  obtain ⟨b, off, e, hc⟩ := h.at (j := j) (by simp [bls]; exact hj)
  exact ⟨b, off, e, by rw [hc]; simp [bls]⟩

theorem zero3 : ∀ w : World, (zeroValue 3).run Try.prog w = .ok (.int .i64 0) w := fun w => by kernel_rfl

/-- The end of a round: a key that has been used. -/
structure Rest (w0 w : World) (bc bm bp most : Nat) (v : Value) (used : List ByteArray) (keys' : List ByteArray) (f : ByteArray → Option Value) (L : List (Nat × ByteArray × Value)) : Prop where
  rep : CacheR encStr w bc bm most L
  len : L.length ≤ most
  below : Below w0.heap.size w0 w
  own : ∀ q, Own bc bm L q → w0.heap.size ≤ q
  map : MapF encStr w bp f
  mapB : w0.heap.size ≤ bp
  mapN : ¬ Own bc bm L bp
  row : w.ownsRow w0.heap.size 9 1 v used.length (strs used)
  rowN : ∀ g, v.ownBlock = some g → ¬ Own bc bm L g
  keys : (Cb.kv L).map (·.1) = keys'
  vals : ∀ p ∈ Cb.kv L, ∃ n : Int, p.2 = .int .i64 n ∧ f p.1 = some (.int .i64 n)
  ints : ∀ k u, f k = some u → ∃ n : Int, u = .int .i64 n
/-- Behind the append to 'used'. -/
theorem Rest.used {w0 w w1 : World} {bc bm bp most : Nat} {v v1 : Value} {used : List ByteArray} {k : ByteArray} {f : ByteArray → Option Value} {L : List (Nat × ByteArray × Value)} (h : Rest w0 w bc bm bp most v used (lateF most [] (used ++ [k]).reverse) f L)
    (ho : w1.ownsRow w0.heap.size 9 1 v1 (used.length + 1) (strs used ++ [.string k])) (hb : Below w0.heap.size w0 w1) (hg : w.grownBy w1 v.ownBlock) (hat : v1.ownBlock = v.ownBlock ∨ ∃ b, v1.ownBlock = some b ∧ w.heap.size ≤ b) :
    St w0 w1 bc bm bp most v1 (used ++ [k]) (Cb.kv L) f L := by
  have ht := tch_grown hg
  have hlt := h.rep.lt encStr
  have hm := mapF_lt h.map
  have e1 : strs (used ++ [k]) = strs used ++ [.string k] := by simp [strs]
  refine ⟨h.rep.keep encStr ht (fun q hq hs => h.rowN q hs.symm hq), rfl, h.len, hb, h.own, mapF_tch h.map ht (fun hs => ?_), h.mapB, h.mapN, by rw [e1, List.length_append]; exact ho, fun g hg' hq => ?_, h.keys, h.vals, h.ints⟩
  · -- the map's block is no row's
    rcases h.row.2 with ⟨rfl, _⟩ | ⟨g, cap, cur, rfl, _, hh, _⟩
    · simp [Value.ownBlock] at hs
    · simp [Value.ownBlock] at hs
      obtain ⟨m, ⟨es, clock, hbm, he⟩, hf⟩ := h.map
      rw [hs, hh] at hbm
      cases hbm
  · rcases hat with e | ⟨b, e, hb'⟩
    · exact h.rowN g (by rw [← e]; exact hg') hq
    · rw [e] at hg'
      simp at hg'
      subst hg'
      have := hlt b hq
      omega
end Go.Proofs.Ytdbccemllaehjaa.RL
