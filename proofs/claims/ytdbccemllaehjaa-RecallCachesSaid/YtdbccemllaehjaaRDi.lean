/- The law RecallCaches: the parts of its walk. -/
import Derived.Test.YtdbccemllaehjaaRDh
namespace Go.Proofs.Ytdbccemllaehjaa.RD2
open Go.RowKit Go.Proofs.YtdbccemllaehjaaKw
open RK (ivs ivs_len rd_int rd_intc ivs_snoc info3)
set_option linter.unusedVariables false
set_option linter.unusedSimpArgs false

/-- An operation that came in. -/
structure OpR where
  on : Int
  kind : Int
  key : Int
  v : ByteArray
def opv (l : List OpR) : List Value := l.flatMap fun o => [.int .i64 o.on, .int .i64 o.kind, .int .i64 o.key, .string o.v]
theorem opv_len (l : List OpR) : (opv l).length = l.length * 4 := by
  induction l with
  | nil => rfl
  | cons p l ih => simp only [opv, List.flatMap_cons, List.length_append, List.length_cons, List.length_nil] at ih ⊢; omega
theorem opv_at (l : List OpR) : ∀ i, (h : i < l.length) → (opv l)[i * 4]? = some (.int .i64 l[i].on) ∧ (opv l)[i * 4 + 1]? = some (.int .i64 l[i].kind) ∧ (opv l)[i * 4 + 2]? = some (.int .i64 l[i].key) ∧ (opv l)[i * 4 + 3]? = some (.string l[i].v) := by
  induction l with
  | nil => intro i h; simp at h
  | cons p l ih =>
    intro i h
    rcases i with _ | i
    · exact ⟨rfl, rfl, rfl, rfl⟩
    · have := ih i (by simpa using h)
      have e : opv (p :: l) = .int .i64 p.on :: .int .i64 p.kind :: .int .i64 p.key :: .string p.v :: opv l := rfl
      rw [e, show (i + 1) * 4 = i * 4 + 1 + 1 + 1 + 1 by omega]
      simpa using this
theorem rd_op {w : World} {A : Option Addr} {l : List OpR} (h : Rd w A (opv l)) {i : Nat} (hi : i < l.length) :
    ∃ b off, A = some ⟨b, off, none⟩ ∧ w.cell? ⟨b, off + i * 4, none⟩ = some (.int .i64 l[i].on) ∧ w.cell? ⟨b, off + i * 4 + 1, none⟩ = some (.int .i64 l[i].kind) ∧ w.cell? ⟨b, off + i * 4 + 2, none⟩ = some (.int .i64 l[i].key) ∧ w.cell? ⟨b, off + i * 4 + 3, none⟩ = some (.string l[i].v) := by
  obtain ⟨h1, h2, h3, h4⟩ := opv_at l i hi
  rcases h with h | ⟨b, off, e, hc⟩
  · have := opv_len l
    rw [h] at this
    simp at this
    omega
  · exact ⟨b, off, e, hc _ _ h1, by rw [Nat.add_assoc]; exact hc _ _ h2, by rw [Nat.add_assoc]; exact hc _ _ h3, by rw [Nat.add_assoc]; exact hc _ _ h4⟩
theorem mk_pair {w w1 w2 : World} {most : Nat} (h1 : 1 ≤ most) (h2 : most ≤ 4096) (hC : CacheR encInt w1 (w.heap.size + 1) w.heap.size most []) (hb1 : Below w.heap.size w w1) (hR : RefR w2 w1.heap.size most none 0 []) (hb2 : Below w1.heap.size w1 w2) :
    PD.ok ⟨w.heap.size + 1, w.heap.size, most, w1.heap.size, 0, none, [], []⟩ w2 ∧ Below w.heap.size w w2 ∧ ∀ q, PD.fp ⟨w.heap.size + 1, w.heap.size, most, w1.heap.size, 0, none, [], []⟩ q → w.heap.size ≤ q := by
  have hlt := hC.lt encInt
  have e1 : w.heap.size + 1 < w1.heap.size := hlt _ (.inl rfl)
  have hown : ∀ q, Own (w.heap.size + 1) w.heap.size ([] : List (Nat × Int × Value)) q → q = w.heap.size + 1 ∨ q = w.heap.size := by
    rintro q (rfl | rfl | hq)
    · exact .inl rfl
    · exact .inr rfl
    · simp at hq
  refine ⟨⟨hC.keep encInt (Tch.of_below (S := fun k => w1.heap.size ≤ k) hb2 (fun k _ hk => hk)) (fun q hq hs => by have := hown q hq; omega), Nat.zero_le _, h1, h2, hR, rfl, fun hq => by have h3 : w1.heap.size = w.heap.size + 1 ∨ w1.heap.size = w.heap.size := hown _ hq; omega, fun b off e => by cases e⟩, below_then hb1 hb1.size hb2, ?_⟩
  rintro q (hq | rfl | ⟨off, hq⟩)
  · have := hown q hq; omega
  · exact hb1.size
  · cases hq
/-- Two arrays that were just made. -/
theorem Many.start (w : World) : Many w ((w.alloc (.cells #[.pointer none, .pointer none] 33)).alloc (.cells #[.pointer none, .pointer none] 35)) w.heap.size (w.heap.size + 1) [] := by
  have h1 := heap_alloc_new w (.cells #[.pointer none, .pointer none] 33)
  have h2 := alloc2 w (.cells #[.pointer none, .pointer none] 33) (.cells #[.pointer none, .pointer none] 35)
  have h3 : ((w.alloc (.cells #[.pointer none, .pointer none] 33)).alloc (.cells #[.pointer none, .pointer none] 35)).heap[w.heap.size]? = some (.cells #[.pointer none, .pointer none] 33) := by
    rw [heap_alloc_old (w.alloc (.cells #[.pointer none, .pointer none] 33)) _ (by simp)]
    exact h1
  have h01 : ∀ i : Nat, i < 2 → i = 0 ∨ i = 1 := fun i hi => by omega
  refine ⟨fun i d hd => by simp at hd, fun i j d d' hd => by simp at hd, fun i d hd => by simp at hd, fun i hi => ?_, fun i hi => ?_, by omega, ⟨Nat.le_refl _, Nat.le_succ _⟩, below_alloc (below_alloc (Below.refl _ _) _) _⟩
  · rcases h01 i hi with rfl | rfl <;> exact ⟨⟨.pointer none, by simp only [World.cell?, h3]; rfl⟩, by simp only [World.frozen?, h3]; rfl⟩
  · rcases h01 i hi with rfl | rfl <;> exact ⟨⟨.pointer none, by simp only [World.cell?, h2]; rfl⟩, by simp only [World.frozen?, h2]; rfl⟩
/-- What a step leaves. -/
theorem Many.stepped {w0 w w' : World} {pb qb : Nat} {ds : List PD} (h : Many w0 w pb qb ds) {i : Nat} {d : PD} (hd : ds[i]? = some d) (hs : StepPost w d.bc d.bm d.most d.qc d.A d.L w') : ∃ d', Many w0 w' pb qb (ds.set i d') := by
  obtain ⟨A', c', l', L', hp, ht, hn⟩ := hs
  exact ⟨⟨d.bc, d.bm, d.most, d.qc, c', A', l', L'⟩, h.step hd hp ht hn rfl rfl⟩
/-- While the keys are asked one by one. -/
structure Lk (w0 w : World) (pb qb k N : Nat) (B : Option Addr) (c : Nat) (l : List (Int × ByteArray)) (d : PD) : Prop where
  many : ∃ ds : List PD, ds.length = 2 ∧ Many w0 w pb qb ds ∧ ds[k]? = some d
  keys : ∀ x ∈ l.map (·.1), ∃ p ∈ d.l, p.1 = x
  row : w.ownsRow N 3 1 (.slice B l.length c) l.length (ivs (l.map (·.1)))
  ap : ∀ g, (Value.slice B l.length c).ownBlock = some g → ¬ d.fp g
/-- What the one answers. -/
def GotC (W : World) (d : PD) (x : Int) (v : ByteArray) (v1 v2 : Value) (wx : World) : Prop :=
  v1 = .string v ∧ v2 = .bool true ∧ ∃ L', CacheR encInt wx d.bc d.bm d.most L' ∧ Ca.kv L' = Ca.getS (Ca.kv d.L) x ∧ L'.length = d.L.length ∧ Tch (Own d.bc d.bm d.L) W wx ∧ ∀ n ∈ L', n.1 ∈ d.L.map (·.1)
/-- What the reference answers. -/
def GotR (W : World) (d : PD) (x : Int) (v : ByteArray) (v1 : Value) (wx : World) : Prop := v1 = .string v ∧ RefPost W d.qc d.most ((x, v) :: wo d.l x) wx
theorem drew_below (w : World) : Below w.heap.size w w.drew := ⟨rfl, rfl, rfl, Nat.le_refl _, fun _ _ => rfl⟩
theorem Lk.other {w0 w w' : World} {pb qb k N c : Nat} {B : Option Addr} {l : List (Int × ByteArray)} {d : PD} (h : Lk w0 w pb qb k N B c l d) (hb : Below w.heap.size w w') : Lk w0 w' pb qb k N B c l d := by
  obtain ⟨ds, h1, h2, h3⟩ := h.many
  exact ⟨⟨ds, h1, h2.other hb, h3⟩, h.keys, own_keep h.row hb, h.ap⟩
theorem Lk.ok {w0 w : World} {pb qb k N c : Nat} {B : Option Addr} {l : List (Int × ByteArray)} {d : PD} (h : Lk w0 w pb qb k N B c l d) : d.ok w := by
  obtain ⟨ds, h1, h2, h3⟩ := h.many
  exact (h2.pc k d h3).2.2
theorem Lk.got {w0 w w1 w2 : World} {pb qb k N c : Nat} {B : Option Addr} {l : List (Int × ByteArray)} {d : PD} (h : Lk w0 w pb qb k N B c l d) {x : Int} {v : ByteArray} {v1 v2 v3 : Value} (hx : (toV d.l).find? (fun p => decide (p.1 = x)) = some (x, .string v))
    (h1 : GotC w d x v v1 v2 w1) (h2 : GotR w1 d x v v3 w2) : ∃ d', Lk w0 w2 pb qb k N B c l d' := by
  obtain ⟨_, _, L', hC, hkv, hlen, ht, hn⟩ := h1
  obtain ⟨_, B', d', hR, ht2, hB'⟩ := h2
  obtain ⟨ds, hds, hM, hd⟩ := h.many
  have hok : Pair w d.bc d.bm d.most d.qc d.A d.c d.l d.L := (hM.pc k d hd).2.2
  have hqW : d.qc < w.heap.size := Pair.lt hok d.qc (.inr (.inl rfl))
  have hsub : ∀ q, Own d.bc d.bm L' q → Own d.bc d.bm d.L q := by
    rintro q (rfl | rfl | hq)
    · exact .inl rfl
    · exact .inr (.inl rfl)
    · obtain ⟨n, hnm, rfl⟩ := List.mem_map.1 hq
      exact .inr (.inr (hn n hnm))
  have hqN : ¬ Own d.bc d.bm L' d.qc := fun ho => hok.qN (hsub _ ho)
  have hlt1 := hC.lt encInt
  have hpair : PD.ok ⟨d.bc, d.bm, d.most, d.qc, d', B', (x, v) :: wo d.l x, L'⟩ w2 := by
    refine ⟨hC.keep encInt ht2 (fun q hq e => hqN (by rw [← e]; exact hq)), by rw [hlen]; exact hok.len, hok.m1, hok.m2, hR, ?_, hqN, fun b off e ho => by have := hB' b off e; have := hlt1 b ho; omega⟩
    show Ca.kv L' = _
    rw [hkv, hok.kv]
    unfold Ca.getS
    rw [hx]
    simp only [toV, List.map_cons]
    congr 1
    exact (toV_wo d.l x).symm
  have hT : Tch d.fp w w2 := (ht.mono (fun q _ hq => .inl hq)).trans (ht2.mono (fun q _ hq => .inr (.inl hq)))
  have hnew : ∀ q, PD.fp ⟨d.bc, d.bm, d.most, d.qc, d', B', (x, v) :: wo d.l x, L'⟩ q → d.fp q ∨ w.heap.size ≤ q := by
    rintro q (hq | rfl | ⟨off, hq⟩)
    · exact .inl (.inl (hsub q hq))
    · exact .inl (.inr (.inl rfl))
    · exact .inr (Nat.le_trans ht.size (hB' q off hq))
  have hrow := RL.own_tch h.row hT (fun g hg => h.ap g hg)
  refine ⟨⟨d.bc, d.bm, d.most, d.qc, d', B', (x, v) :: wo d.l x, L'⟩, ⟨_, by rw [List.length_set]; exact hds, hM.step hd hpair hT hnew rfl rfl, List.getElem?_set_self (List.getElem?_eq_some_iff.1 hd).1⟩, fun y hy => ?_, hrow, fun g hg hf => ?_⟩
  · by_cases hyx : y = x
    · exact ⟨(x, v), by simp, hyx.symm⟩
    · obtain ⟨p, hp, hpy⟩ := h.keys y hy
      exact ⟨p, List.mem_cons_of_mem _ (List.mem_filter.2 ⟨hp, by simp; rw [hpy]; exact hyx⟩), hpy⟩
  · rcases hnew g hf with hf | hf
    · exact h.ap g hg hf
    · have := (h.row.lt g hg).2; omega
end Go.Proofs.Ytdbccemllaehjaa.RD2
