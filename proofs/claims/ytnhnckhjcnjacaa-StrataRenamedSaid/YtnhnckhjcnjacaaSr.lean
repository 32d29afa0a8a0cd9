/- Strata: blocks that are made one behind the other; the start of the walk through a graph. -/
import Derived.Test.YtnhnckhjcnjacaaSx
namespace Go.Proofs.Ytnhnckhjcnjacaa.ST
open Go.RowKit Go.Proofs.YtnhnckhjcnjacaaKw Go.Proofs.YtnhnckhjcnjacaaSg Go.Proofs.YtnhnckhjcnjacaaSw
set_option linter.unusedVariables false
set_option linter.unusedSimpArgs false

/-- make([]int, n), as an equation. -/
def zrow (n : Nat) : Obj := .cells (madeCells #[.int .i64 0] n) 3
theorem run_mk (n : Nat) (hn : n ≤ 5000) (w : World) : (Instr.makeSlice 26 (.int .i64 n) (.int .i64 n)).run Try.prog w = .ok (.slice (some ⟨w.heap.size, 0, none⟩) n n) (w.alloc (zrow n)) := by
  obtain ⟨i0, hi, hz0, hz1, hz2⟩ := info_parts info3
  have := run_make (P := Try.prog) w 26 3 i0 (.int .i64 0) Try.underlying26 hi hz0 .i64 .i64 n n (by omega) (Int.le_refl _) (by rw [hz2]; omega) (by omega)
  rw [this, hz1]
  simp only [Nat.mul_one, Value.cells]
  rfl
theorem zrow_own (n : Nat) (hn : n ≤ 5000) (w : World) (b : Nat) (h : w.heap[b]? = some (zrow n)) : Arr (Value.int .i64) 3 w b n (fun _ => 0) := by
  have e : (madeCells #[Value.int .i64 0] n).toList = (List.range n).map fun i => Value.int .i64 ((fun _ : Nat => (0 : Int)) i) := by
    rw [toList_madeCells_one]
    symm
    rw [List.eq_replicate_iff]
    exact ⟨by simp, fun b hb => (List.mem_map.1 hb).elim fun _ h => h.2.symm⟩
  refine ⟨by simp, .inr ⟨b, n, madeCells #[.int .i64 0] n, rfl, Nat.zero_le _, h, Nat.le_refl _, by unfold maxLen; omega, by simp [size_madeCells], ?_⟩⟩
  rw [List.take_of_length_le (by simp [size_madeCells])]
  exact e
/-- Blocks one behind the other. -/
def allocs (w : World) (l : List Obj) : World := l.foldl World.alloc w
theorem allocs_size (w : World) (l : List Obj) : (allocs w l).heap.size = w.heap.size + l.length := by
  induction l generalizing w with
  | nil => rfl
  | cons o l ih =>
    show (allocs (w.alloc o) l).heap.size = _
    rw [ih]
    simp
    omega
theorem allocs_old (w : World) (l : List Obj) (k : Nat) (hk : k < w.heap.size) : (allocs w l).heap[k]? = w.heap[k]? := by
  induction l generalizing w with
  | nil => rfl
  | cons o l ih =>
    show (allocs (w.alloc o) l).heap[k]? = _
    rw [ih _ (by simp; omega), heap_alloc_old w o hk]
theorem allocs_at (w : World) (l : List Obj) (i : Nat) (o : Obj) (h : l[i]? = some o) : (allocs w l).heap[w.heap.size + i]? = some o := by
  induction l generalizing w i with
  | nil => simp at h
  | cons p l ih =>
    show (allocs (w.alloc p) l).heap[_]? = _
    rcases i with _ | i
    · simp at h
      subst h
      rw [Nat.add_zero, allocs_old _ _ _ (by simp)]
      exact heap_alloc_new w p
    · have := ih (w.alloc p) i (by simpa using h)
      rw [show w.heap.size + (i + 1) = (w.alloc p).heap.size + i by simp; omega]
      exact this
theorem allocs_below (w : World) (l : List Obj) : Below w.heap.size w (allocs w l) := by
  suffices h : ∀ (l : List Obj) (W : World), Below w.heap.size w W → Below w.heap.size w (allocs W l) from h l w (Below.refl _ _)
  intro l
  induction l with
  | nil => exact fun W h => h
  | cons o l ih => exact fun W h => ih _ (below_alloc h o)
theorem cell_one {w : World} {b : Nat} {v : Value} {t : TypeId} (h : w.heap[b]? = some (.cells #[v] t)) : w.cell? ⟨b, 0, none⟩ = some v ∧ w.frozen? ⟨b, 0, none⟩ = false :=
  ⟨by simp only [World.cell?, h]; rfl, by simp only [World.frozen?, h]; rfl⟩
/-- Two arrays of zeros, each in a box. -/
def TwoArr (W : World) (n : Nat) (s3 s4 : Value) (wx : World) : Prop :=
  ∃ xl xs lb sb : Nat, s3 = ptr xl ∧ s4 = ptr xs ∧ [xl, xs, lb, sb].Nodup ∧ (∀ b ∈ [xl, xs, lb, sb], W.heap.size ≤ b ∧ b < wx.heap.size) ∧ wx.cell? ⟨xl, 0, none⟩ = some (.slice (some ⟨lb, 0, none⟩) n n) ∧ wx.cell? ⟨xs, 0, none⟩ = some (.slice (some ⟨sb, 0, none⟩) n n) ∧
    wx.heap[lb]? = some (zrow n) ∧ wx.heap[sb]? = some (zrow n) ∧ Below W.heap.size W wx
/-- At the start. -/
def zeroS : TS := { low := fun _ => 0, seen := fun _ => 0, head := fun _ => 0, stack := [], at_ := 0 }
def ringObjs (n xg xl xs s : Nat) : List Obj :=
  [zrow n, .cells #[.slice (some ⟨s, 0, none⟩) n n] 26, .cells #[.slice none 0 0] 26, .cells #[.int .i64 0] 3, .cells #[.func (.func 46) #[] #[ptr (s + 1 + 1 + 1), ptr xs, ptr xl, ptr (s + 1 + 1)]] 63, .cells #[.func (.func 47) #[] #[ptr (s + 1 + 1), ptr (s + 1), ptr xg, ptr xl]] 63, .cells #[.func (.func 49) #[] #[ptr (s + 1 + 1 + 1 + 1), ptr xg, ptr xs, ptr (s + 1 + 1 + 1 + 1 + 1 + 1), ptr xl, ptr (s + 1 + 1 + 1 + 1 + 1)]] 63]
theorem start_rep {w0 W wc : World} {gb n xl xs lb sb : Nat} (hn : n ≤ 5000) (hW : W = w0.alloc (.cells #[ptr gb] 49)) (hnd : [xl, xs, lb, sb].Nodup) (hlo : ∀ b ∈ [xl, xs, lb, sb], W.heap.size ≤ b ∧ b < wc.heap.size) (h1 : wc.cell? ⟨xl, 0, none⟩ = some (.slice (some ⟨lb, 0, none⟩) n n)) (h2 : wc.cell? ⟨xs, 0, none⟩ = some (.slice (some ⟨sb, 0, none⟩) n n))
    (h3 : wc.heap[lb]? = some (zrow n)) (h4 : wc.heap[sb]? = some (zrow n)) (hb : Below W.heap.size W wc) :
    RepT w0 (allocs wc (ringObjs n w0.heap.size xl xs wc.heap.size)) ⟨n, gb, w0.heap.size, xl, xs, wc.heap.size + 1, wc.heap.size + 1 + 1, wc.heap.size + 1 + 1 + 1, wc.heap.size + 1 + 1 + 1 + 1, wc.heap.size + 1 + 1 + 1 + 1 + 1, wc.heap.size + 1 + 1 + 1 + 1 + 1 + 1, lb, sb, wc.heap.size⟩ zeroS := by
  have hWs : W.heap.size = w0.heap.size + 1 := by rw [hW]; simp
  have hbs := hb.size
  have hA := allocs_below wc (ringObjs n w0.heap.size xl xs wc.heap.size)
  have at_ := fun (i : Nat) (o : Obj) (h : (ringObjs n w0.heap.size xl xs wc.heap.size)[i]? = some o) => allocs_at wc (ringObjs n w0.heap.size xl xs wc.heap.size) i o h
  have old := fun (k : Nat) (hk : k < wc.heap.size) => allocs_old wc (ringObjs n w0.heap.size xl xs wc.heap.size) k hk
  simp only [List.mem_cons, List.not_mem_nil, or_false, forall_eq_or_imp, forall_eq] at hlo
  obtain ⟨⟨a1, b1⟩, ⟨a2, b2⟩, ⟨a3, b3⟩, ⟨a4, b4⟩⟩ := hlo
  have hxg : wc.cell? ⟨w0.heap.size, 0, none⟩ = some (ptr gb) := by
    refine (hb.cell (p := ⟨w0.heap.size, 0, none⟩) (by simp; omega)).trans ?_
    rw [hW]
    have := heap_alloc_new w0 (.cells #[ptr gb] 49)
    simp only [World.cell?, this]
    rfl
  have hbw : Below w0.heap.size w0 W := by rw [hW]; exact below_alloc (Below.refl _ _) _
  have hbc : Below w0.heap.size w0 wc := below_then hbw hbw.size hb
  refine ⟨zrow_own n hn _ lb ((old lb b3).trans h3), zrow_own n hn _ sb ((old sb b4).trans h4), zrow_own n hn _ wc.heap.size (at_ 0 _ rfl), (hA.cell (p := ⟨w0.heap.size, 0, none⟩) (by simp; omega)).trans hxg, (hA.cell (p := ⟨xl, 0, none⟩) b1).trans h1, (hA.cell (p := ⟨xs, 0, none⟩) b2).trans h2, (cell_one (at_ 1 _ rfl)).1, (cell_one (at_ 4 _ rfl)).1, (cell_one (at_ 5 _ rfl)).1, (cell_one (at_ 6 _ rfl)).1, (cell_one (at_ 3 _ rfl)).1, (cell_one (at_ 3 _ rfl)).2, ⟨none, 0, (cell_one (at_ 2 _ rfl)).1, World.ownsRow_nil _ _ _ _, fun g hg => by simp [Value.ownBlock] at hg⟩, (cell_one (at_ 2 _ rfl)).2, ?_, ?_, below_then hbc hbc.size hA⟩
  · simp only [Fr.all, List.nodup_cons, List.mem_cons, List.not_mem_nil, or_false, not_or, not_false_iff, List.nodup_nil, and_true] at hnd ⊢
    omega
  · intro b hb'
    simp only [Fr.all, List.mem_cons, List.not_mem_nil, or_false] at hb'
    omega
/-- The walk through all nodes. -/
def ringsF (out : Nat → List Nat) (n k : Nat) : TS := (List.range k).foldl (fun s v => if s.seen v = 0 then visit out n n v s else s) zeroS
theorem ringsF_succ (out : Nat → List Nat) (n k : Nat) : ringsF out n (k + 1) = if (ringsF out n k).seen k = 0 then visit out n n k (ringsF out n k) else ringsF out n k := by
  unfold ringsF
  rw [List.range_succ, List.foldl_append]
  rfl
theorem zero_lt (n : Nat) : Lt n zeroS := ⟨by simp [zeroS], by
  have : unseen n zeroS = n := by
    unfold unseen
    rw [List.filter_eq_self.2 (fun x _ => by simp [zeroS])]
    simp
  rw [this]
  simp [zeroS], by simp [zeroS], by simp [zeroS]⟩
theorem unseen_n (n : Nat) (s : TS) : unseen n s ≤ n := by
  have := List.length_filter_le (fun x => decide (s.seen x = 0)) (List.range n)
  simpa [unseen] using this
theorem ringsF_lt (out : Nat → List Nat) (n : Nat) (ho : ∀ v < n, ∀ t ∈ out v, t < n) (k : Nat) (hk : k ≤ n) : Lt n (ringsF out n k) := by
  induction k with
  | zero => exact zero_lt n
  | succ k ih =>
    rw [ringsF_succ]
    split
    · rename_i hs
      exact (visit_lt out n ho n k _ (ih (by omega)) (by omega) hs (unseen_n n _)).lt
    · exact ih (by omega)
theorem two_arr {W : World} {n s : Nat} {zo o0 o1 o2 o3 : Obj} (hz : zrow n = zo) (hs : W.heap.size = s) (il is jl js : Nat) (hil : il < 4) (his : is < 4) (hjl : jl < 4) (hjs : js < 4) (hd : [il, is, jl, js].Nodup)
    (h1 : [o0, o1, o2, o3][jl]? = some zo) (h2 : [o0, o1, o2, o3][js]? = some zo) (h3 : [o0, o1, o2, o3][il]? = some (.cells #[.slice (some ⟨s + jl, 0, none⟩) n n] 26)) (h4 : [o0, o1, o2, o3][is]? = some (.cells #[.slice (some ⟨s + js, 0, none⟩) n n] 26)) :
    TwoArr W n (ptr (s + il)) (ptr (s + is)) ((((W.alloc o0).alloc o1).alloc o2).alloc o3).drew := by
  subst hz hs
  have at_ := fun (i : Nat) (o : Obj) (h : [o0, o1, o2, o3][i]? = some o) => allocs_at W [o0, o1, o2, o3] i o h
  have hz := allocs_size W [o0, o1, o2, o3]
  have hb := allocs_below W [o0, o1, o2, o3]
  refine ⟨W.heap.size + il, W.heap.size + is, W.heap.size + jl, W.heap.size + js, rfl, rfl, ?_, ?_, (cell_one (at_ il _ h3)).1, (cell_one (at_ is _ h4)).1, at_ jl _ h1, at_ js _ h2, ⟨hb.os, hb.tape, hb.output, hb.size, hb.block⟩⟩
  · simp only [List.nodup_cons, List.mem_cons, List.not_mem_nil, or_false, not_or, not_false_iff, List.nodup_nil, and_true] at hd ⊢
    omega
  · intro b hb'
    have hsz : ((((W.alloc o0).alloc o1).alloc o2).alloc o3).drew.heap.size = W.heap.size + 4 := hz
    simp only [List.mem_cons, List.not_mem_nil, or_false] at hb'
    omega
end Go.Proofs.Ytnhnckhjcnjacaa.ST
