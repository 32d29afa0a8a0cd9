/- The law RecallCaches: a Cache beside the reference's. -/
import Derived.Test.YtdbccemllaehjaaRDd
namespace Go.Proofs.Ytdbccemllaehjaa.RD2
open Go.RowKit Go.Proofs.YtdbccemllaehjaaKw
open RK (ivs ivs_len rd_int rd_intc ivs_snoc info3)
set_option linter.unusedVariables false
set_option linter.unusedSimpArgs false

def toV (l : List (Int × ByteArray)) : List (Int × Value) := l.map fun p => (p.1, .string p.2)
theorem toV_filter (l : List (Int × ByteArray)) (g : Int → Bool) : toV (l.filter fun p => g p.1) = (toV l).filter fun p => g p.1 := by
  unfold toV
  rw [List.filter_map]
  rfl
theorem toV_wo (l : List (Int × ByteArray)) (key : Int) : toV (wo l key) = (toV l).filter fun p => !decide (p.1 = key) := toV_filter l fun k => !decide (k = key)
theorem toV_put (most : Nat) (l : List (Int × ByteArray)) (key : Int) (v : ByteArray) : toV (((key, v) :: wo l key).take most) = Ca.putS most (toV l) key (.string v) := by
  unfold Ca.putS
  rw [← toV_wo]
  simp [toV, List.map_take]
theorem first_at (l : List (Int × ByteArray)) (key : Int) (h : ∃ p ∈ l, p.1 = key) : ∃ i, ∃ hi : i < l.length, l[i].1 = key ∧ ∀ j, (hj : j < i) → l[j].1 ≠ key := by
  induction l with
  | nil => obtain ⟨p, hp, _⟩ := h; simp at hp
  | cons q l ih =>
    by_cases hq : q.1 = key
    · exact ⟨0, by simp, hq, fun j hj => by omega⟩
    · obtain ⟨p, hp, hpk⟩ := h
      have hp' : p ∈ l := by
        rcases List.mem_cons.1 hp with rfl | hp
        · exact absurd hpk hq
        · exact hp
      obtain ⟨i, hi, h1, h2⟩ := ih ⟨p, hp', hpk⟩
      refine ⟨i + 1, by simp; omega, by simpa using h1, fun j hj => ?_⟩
      rcases j with _ | j
      · exact hq
      · simpa using h2 j (by omega)
theorem find_first (l : List (Int × ByteArray)) (key : Int) (i : Nat) (hi : i < l.length) (h1 : l[i].1 = key) (h2 : ∀ j, (hj : j < i) → l[j].1 ≠ key) : (toV l).find? (fun p => decide (p.1 = key)) = some (key, .string l[i].2) := by
  induction l generalizing i with
  | nil => simp at hi
  | cons q l ih =>
    rcases i with _ | i
    · simp only [List.getElem_cons_zero] at h1
      simp [toV, List.find?_cons, h1]
    · have hq : q.1 ≠ key := by simpa using h2 0 (by omega)
      have := ih i (by simpa using hi) (by simpa using h1) (fun j hj => by simpa using h2 (j + 1) (by omega))
      simp only [toV, List.map_cons, List.find?_cons, hq, decide_false] at this ⊢
      simpa using this
theorem find_none (l : List (Int × ByteArray)) (key : Int) (h : ¬ ∃ p ∈ l, p.1 = key) : (toV l).find? (fun p => decide (p.1 = key)) = none := by
  rw [List.find?_eq_none]
  intro p hp
  obtain ⟨q, hq, rfl⟩ := List.mem_map.1 hp
  simp only [decide_eq_true_eq]
  exact fun e => h ⟨q, hq, e⟩

/-- A Cache and the reference's beside it. -/
structure Pair (w : World) (bc bm most qc : Nat) (A : Option Addr) (c : Nat) (l : List (Int × ByteArray)) (L : List (Nat × Int × Value)) : Prop where
  rep : CacheR encInt w bc bm most L
  len : L.length ≤ most
  m1 : 1 ≤ most
  m2 : most ≤ 4096
  ref : RefR w qc most A c l
  kv : Ca.kv L = toV l
  qN : ¬ Own bc bm L qc
  aN : ∀ b off, A = some ⟨b, off, none⟩ → ¬ Own bc bm L b
/-- Its blocks. -/
def Fp (bc bm qc : Nat) (A : Option Addr) (L : List (Nat × Int × Value)) (q : Nat) : Prop := Own bc bm L q ∨ q = qc ∨ ∃ off, A = some ⟨q, off, none⟩
section
variable {w w' : World} {bc bm most qc c : Nat} {A : Option Addr} {l : List (Int × ByteArray)} {L : List (Nat × Int × Value)}
theorem Pair.lt (h : Pair w bc bm most qc A c l L) : ∀ q, Fp bc bm qc A L q → q < w.heap.size := by
  rintro q (hq | rfl | ⟨off, hq⟩)
  · exact h.rep.lt encInt q hq
  · simpa using World.block_lt_of_cell? w _ h.ref.most0
  · rcases h.ref.pl with e | ⟨b, e, hb⟩
    · rw [e] at hq; cases hq
    · rw [e] at hq; cases hq; exact hb
theorem Pair.llen (h : Pair w bc bm most qc A c l L) : l.length = L.length := by
  have := congrArg List.length h.kv
  simpa [Ca.kv, toV] using this.symm
theorem Pair.tch (h : Pair w bc bm most qc A c l L) {S : Nat → Prop} (ht : Tch S w w') (hS : ∀ q, Fp bc bm qc A L q → ¬ S q) : Pair w' bc bm most qc A c l L :=
  ⟨h.rep.keep encInt ht (fun q hq => hS q (.inl hq)), h.len, h.m1, h.m2, h.ref.tch ht (hS qc (.inr (.inl rfl))) (fun b off e => hS b (.inr (.inr ⟨off, e⟩))), h.kv, h.qN, h.aN⟩
theorem Pair.other (h : Pair w bc bm most qc A c l L) (hb : Below w.heap.size w w') : Pair w' bc bm most qc A c l L :=
  h.tch (RL.tch_new hb) (fun q hq hs => by have := h.lt q hq; omega)
/-- What a call of both leaves. -/
def StepPost (w : World) (bc bm most qc : Nat) (A : Option Addr) (L : List (Nat × Int × Value)) (w' : World) : Prop :=
  ∃ A' c' l' L', Pair w' bc bm most qc A' c' l' L' ∧ Tch (Fp bc bm qc A L) w w' ∧ ∀ q, Fp bc bm qc A' L' q → Fp bc bm qc A L q ∨ w.heap.size ≤ q
theorem Pair.same (h : Pair w bc bm most qc A c l L) (hb : Below w.heap.size w w') : StepPost w bc bm most qc A L w' :=
  ⟨A, c, l, L, h.other hb, Tch.of_below hb (fun k h1 h2 => by omega), fun q hq => .inl hq⟩
/-- Both have been written. -/
theorem Pair.both {W w1 w2 : World} {L' : List (Nat × Int × Value)} {l' : List (Int × ByteArray)} (h : Pair W bc bm most qc A c l L) (hb : Below w.heap.size w W) (hC : CacheR encInt w1 bc bm most L') (hlen : L'.length ≤ most) (ht : Tch (Own bc bm L) W w1) (hn : ∀ n ∈ L', n.1 ∈ L.map (·.1) ∨ W.heap.size ≤ n.1)
    (hR : RefPost w1 qc most l' w2) (hkv : Ca.kv L' = toV l') : StepPost w bc bm most qc A L w2 := by
  obtain ⟨B, d, h1, h2, h3⟩ := hR
  have hsub : ∀ q, Own bc bm L' q → Own bc bm L q ∨ W.heap.size ≤ q := fun q hq => Ca.own_new hn hq
  have hqW : qc < W.heap.size := h.lt qc (.inr (.inl rfl))
  have hqN : ¬ Own bc bm L' qc := fun ho => by
    rcases hsub qc ho with ho | ho
    · exact h.qN ho
    · omega
  have hlt1 := hC.lt encInt
  refine ⟨B, d, l', L', ⟨hC.keep encInt h2 (fun q hq e => hqN (by rw [← e]; exact hq)), hlen, h.m1, h.m2, h1, hkv, hqN, fun b off e ho => by have := h3 b off e; have := hlt1 b ho; omega⟩, ?_, ?_⟩
  · have t1 : Tch (Fp bc bm qc A L) w W := Tch.of_below hb (fun k h1 h2 => by omega)
    exact (t1.trans (ht.mono (fun k _ hk => .inl hk))).trans (h2.mono (fun k _ hk => .inr (.inl hk)))
  · rintro q (hq | rfl | ⟨off, hq⟩)
    · rcases hsub q hq with hq | hq
      · exact .inl (.inl hq)
      · exact .inr (Nat.le_trans hb.size hq)
    · exact .inl (.inr (.inl rfl))
    · exact .inr (Nat.le_trans hb.size (Nat.le_trans ht.size (h3 q off hq)))
end
end Go.Proofs.Ytdbccemllaehjaa.RD2
