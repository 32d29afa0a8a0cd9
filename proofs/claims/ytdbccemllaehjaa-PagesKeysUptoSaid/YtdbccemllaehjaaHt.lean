/- LentArg, LentArgs, LentAsk, walked. -/
import Derived.Test.YtdbccemllaehjaaHs
namespace Go.Proofs.Ytdbccemllaehjaa.PK
open Go.RowKit Go.Proofs.YtdbccemllaehjaaKw Go.Proofs.YtdbccemllaehjaaHa Go.Proofs.YtdbccemllaehjaaGa Go.Proofs.Ytdbccemllaehjaa.PG
set_option linter.unusedVariables false
set_option linter.unusedSimpArgs false
def gcells (x : ByteArray × VV) : List Value := [.string x.1, .int .i64 x.2.kind, .bool x.2.b, .int .i64 x.2.n, .float .f32 x.2.x, .string x.2.t, .slice x.2.A x.2.ss.length x.2.c]
def gagg (x : ByteArray × VV) : Value := .agg #[.string x.1, .int .i64 x.2.kind, .bool x.2.b, .int .i64 x.2.n, .float .f32 x.2.x, .string x.2.t, .slice x.2.A x.2.ss.length x.2.c]
/-- The list of texts that was lent, a row of its own. -/
def LOwn (w : World) (base : Nat) (y : ByteArray × VV) : Prop := w.ownsRow base 9 1 (.slice y.2.A (y.2.ss.length + 24) y.2.c) (y.2.ss.length + 24) (PC.strs (y.2.ss ++ PC.marks 24))
theorem ne_off {pb i j : Nat} (h : i ≠ j) : (⟨pb, i, none⟩ : Addr) ≠ ⟨pb, j, none⟩ := fun e => h (congrArg Addr.off e)
theorem own_tch {w w1 : World} {S : Nat → Prop} {base : Nat} {e : TypeId} {size n : Nat} {v : Value} {xs : List Value} (h : w.ownsRow base e size v n xs) (ht : Tch S w w1) (hS : ∀ g, v.ownBlock = some g → ¬ S g) : w1.ownsRow base e size v n xs := by
  have hlt := h.lt
  refine ⟨h.1, ?_⟩
  rcases h.2 with hn | ⟨g, cap, cur, rfl, hbg, hgg, rest⟩
  · exact .inl hn
  · exact .inr ⟨g, cap, cur, rfl, hbg, by rw [ht.block g (hlt g rfl).2 (hS g rfl)]; exact hgg, rest⟩
/-- A row of another type lies in another block. -/
theorem own_apart {w : World} {e e' : TypeId} {base base' size size' n n' : Nat} {v v' : Value} {xs xs' : List Value} (h : w.ownsRow base e size v n xs) (h' : w.ownsRow base' e' size' v' n' xs') (hne : e ≠ e') {g : Nat} (hg : v.ownBlock = some g) : v'.ownBlock ≠ some g := by
  intro hg'
  rcases h.2 with ⟨rfl, _⟩ | ⟨g1, c1, cur1, rfl, _, hh, _⟩
  · simp [Value.ownBlock] at hg
  rcases h'.2 with ⟨rfl, _⟩ | ⟨g2, c2, cur2, rfl, _, hh', _⟩
  · simp [Value.ownBlock] at hg'
  simp only [Value.ownBlock, Option.some.injEq] at hg hg'
  subst hg
  subst hg'
  rw [hh] at hh'
  simp only [Option.some.injEq, Obj.cells.injEq] at hh'
  exact hne hh'.2.1
/-- The cells of a block, that may be written. -/
structure CS (w : World) (b : Nat) (cs : List Value) : Prop where
  at_ : ∀ (j : Nat) u, cs[j]? = some u → w.cell? ⟨b, j, none⟩ = some u
  fz : ∀ j : Nat, w.frozen? ⟨b, j, none⟩ = false
theorem CS.new (w : World) (cs : List Value) (t : TypeId) : CS (w.alloc (.cells cs.toArray t)) w.heap.size cs := by
  have hnew := heap_alloc_new w (.cells cs.toArray t)
  refine ⟨fun j u hu => ?_, fun j => ?_⟩
  · simp only [World.cell?, hnew]
    simpa using hu
  · unfold World.frozen?
    simp only [hnew]
    simp
theorem CS.keep {w w' : World} {b B : Nat} {cs : List Value} (h : CS w b cs) (hb : Below B w w') (hB : b < B) : CS w' b cs :=
  ⟨fun j u hu => (hb.cell (p := ⟨b, j, none⟩) hB).trans (h.at_ j u hu), fun j => (hb.frozen (p := ⟨b, j, none⟩) hB).trans (h.fz j)⟩
theorem CS.set {w : World} {b : Nat} {cs : List Value} (h : CS w b cs) (j : Nat) (v : Value) : CS (w.setCell ⟨b, j, none⟩ v) b (cs.set j v) := by
  refine ⟨fun i u hu => ?_, fun i => (World.frozen?_setCell _ _ _ _).trans (h.fz i)⟩
  by_cases hij : i = j
  · subst hij
    have hi : i < cs.length := by
      have := (List.getElem?_eq_some_iff.1 hu).1
      simpa using this
    rw [List.getElem?_set_self hi] at hu
    cases hu
    exact World.cell?_setCell_same w _ _ (h.at_ i _ (List.getElem?_eq_getElem hi))
  · rw [List.getElem?_set_ne (fun e => hij e.symm)] at hu
    rw [World.cell?_setCell_other _ _ _ _ (ne_off (fun e => hij e.symm))]
    exact h.at_ i u hu
theorem CS.other {w : World} {b b' : Nat} {cs : List Value} (h : CS w b cs) (j : Nat) (v : Value) (hne : b' ≠ b) : CS (w.setCell ⟨b', j, none⟩ v) b cs :=
  ⟨fun i u hu => (World.cell?_setCell_other _ _ _ _ (fun e => hne (congrArg Addr.block e))).trans (h.at_ i u hu), fun i => (World.frozen?_setCell _ _ _ _).trans (h.fz i)⟩
theorem CS.lt {w : World} {b : Nat} {u : Value} {cs : List Value} (h : CS w b (u :: cs)) : b < w.heap.size := World.block_lt_of_cell? w _ (h.at_ 0 u rfl)
set_option maxRecDepth 100000 in
theorem ret_arg {fn : Func} (hf : fn.results = #[.cell 2 149]) {w : World} {b : Nat} {x : ByteArray × VV} (h : CS w b (gcells x)) (tmps : Array Value) (ht : tmps.getD 2 undef = .pointer (some ⟨b, 0, none⟩)) :
    (results fn tmps).run Try.prog w = .ok (gagg x) w := by
  have p0 := h.at_ 0 _ rfl
  have p1 := h.at_ 1 _ rfl
  have p2 := h.at_ 2 _ rfl
  have p3 := h.at_ 3 _ rfl
  have p4 := h.at_ 4 _ rfl
  have p5 := h.at_ 5 _ rfl
  have p6 := h.at_ 6 _ rfl
  have ht' : tmps[2]?.getD undef = .pointer (some ⟨b, 0, none⟩) := by simpa using ht
  simp [results, hf, ht', asAddr]
  go_simp
  rfl
set_option maxHeartbeats 4000000 in
set_option maxRecDepth 100000 in
theorem lentarg_calls (w : World) (x : ByteArray × VV) (hx : VOk w x.2) :
    Calls Try.prog 103 #[gagg x] w fun e w' => ∃ y, Cp x y ∧ e = .returned (gagg y) ∧ LOwn w' w.heap.size y ∧ Below w.heap.size w w' := by
  obtain ⟨nm, kd, b, n, xx, t, A, c, ss⟩ := x
  simp only [gagg] at *
  have hr := hx.rd
  have hl := hx.len
  have hc := hx.c.1
  clear hx
  simp only at *
  have hb1 := below_alloc (below_alloc (Below.refl w.heap.size w) (.cells #[.string nm, .int .i64 kd, .bool b, .int .i64 n, .float .f32 xx, .string t, .slice A ss.length c] 149)) (.cells #[.string ⟨#[]⟩, .int .i64 0, .bool false, .int .i64 0, .float .f32 0, .string ⟨#[]⟩, .slice none 0 0] 149)
  have HH := Lib.hid (And.intro hb1 (And.intro (hr.keep hb1) (And.intro hl hc)))
  clear hb1 hr hl hc
  go_enter Try.func103, Try.ntmps103
  go_wp2_with fail
  refine (PC.lent_calls A c ss _ HH.out.2.1 HH.out.2.2.1 HH.out.2.2.2).mono ?_
  rintro e w1 ⟨A', c', rfl, ho1, hb1⟩
  have h1 : CS w1 w.heap.size [.string nm, .int .i64 kd, .bool b, .int .i64 n, .float .f32 xx, .string t, .slice A ss.length c] := (((CS.new w _ 149).keep (below_alloc (Below.refl _ _) _) (by simp)).keep hb1 (by simp; omega))
  have h2 : CS w1 (w.heap.size + 1) [.string ⟨#[]⟩, .int .i64 0, .bool false, .int .i64 0, .float .f32 0, .string ⟨#[]⟩, .slice none 0 0] := by
    have := (CS.new (w.alloc (.cells #[.string nm, .int .i64 kd, .bool b, .int .i64 n, .float .f32 xx, .string t, .slice A ss.length c] 149)) [.string ⟨#[]⟩, .int .i64 0, .bool false, .int .i64 0, .float .f32 0, .string ⟨#[]⟩, .slice none 0 0] 149)
    rw [show (w.alloc (.cells #[.string nm, .int .i64 kd, .bool b, .int .i64 n, .float .f32 xx, .string t, .slice A ss.length c] 149)).heap.size = w.heap.size + 1 by simp] at this
    exact this.keep hb1 (by simp)
  have k0 : w1.cell? ⟨w.heap.size, 0, none⟩ = _ := h1.at_ 0 _ rfl
  have k1 : w1.cell? ⟨w.heap.size, 1, none⟩ = _ := h1.at_ 1 _ rfl
  have k2 : w1.cell? ⟨w.heap.size, 2, none⟩ = _ := h1.at_ 2 _ rfl
  have k3 : w1.cell? ⟨w.heap.size, 3, none⟩ = _ := h1.at_ 3 _ rfl
  have k4 : w1.cell? ⟨w.heap.size, 4, none⟩ = _ := h1.at_ 4 _ rfl
  have k5 : w1.cell? ⟨w.heap.size, 5, none⟩ = _ := h1.at_ 5 _ rfl
  have k6 : w1.cell? ⟨w.heap.size, 6, none⟩ = _ := h1.at_ 6 _ rfl
  have m0 : w1.cell? ⟨w.heap.size + 1, 0, none⟩ = _ := h2.at_ 0 _ rfl
  have m1 : w1.cell? ⟨w.heap.size + 1, 1, none⟩ = _ := h2.at_ 1 _ rfl
  have m2 : w1.cell? ⟨w.heap.size + 1, 2, none⟩ = _ := h2.at_ 2 _ rfl
  have m3 : w1.cell? ⟨w.heap.size + 1, 3, none⟩ = _ := h2.at_ 3 _ rfl
  have m4 : w1.cell? ⟨w.heap.size + 1, 4, none⟩ = _ := h2.at_ 4 _ rfl
  have m5 : w1.cell? ⟨w.heap.size + 1, 5, none⟩ = _ := h2.at_ 5 _ rfl
  have m6 : w1.cell? ⟨w.heap.size + 1, 6, none⟩ = _ := h2.at_ 6 _ rfl
  have f6 := h1.fz 6
  have n0 := h2.fz 0
  have n1 := h2.fz 1
  have n2 := h2.fz 2
  have n3 := h2.fz 3
  have n4 := h2.fz 4
  have n5 := h2.fz 5
  have n6 := h2.fz 6
  have H1 := Lib.hid (And.intro ho1 (And.intro hb1 (And.intro h1 h2)))
  clear ho1 hb1 h1 h2
  go_wp2_with fail
  obtain ⟨ho1, hb1, h1, h2⟩ := H1.out
  have hC := (((((((h2.other (b' := w.heap.size) 6 (.slice A' ss.length c') (by omega)).set 0 (.string nm)).set 1 (.int .i64 kd)).set 2 (.bool b)).set 3 (.int .i64 n)).set 4 (.float .f32 xx)).set 5 (.string t)).set 6 (.slice A' ss.length c')
  have hT := (((((((((Tch.refl (fun q => q = w.heap.size ∨ q = w.heap.size + 1) w1).setCell (a := ⟨w.heap.size, 6, none⟩) (.inl rfl) (.slice A' ss.length c')).setCell (a := ⟨w.heap.size + 1, 0, none⟩) (.inr rfl) (.string nm)).setCell (a := ⟨w.heap.size + 1, 1, none⟩) (.inr rfl) (.int .i64 kd)).setCell (a := ⟨w.heap.size + 1, 2, none⟩) (.inr rfl) (.bool b)).setCell (a := ⟨w.heap.size + 1, 3, none⟩) (.inr rfl) (.int .i64 n)).setCell (a := ⟨w.heap.size + 1, 4, none⟩) (.inr rfl) (.float .f32 xx)).setCell (a := ⟨w.heap.size + 1, 5, none⟩) (.inr rfl) (.string t)).setCell (a := ⟨w.heap.size + 1, 6, none⟩) (.inr rfl) (.slice A' ss.length c'))
  have hz := HH.out.1.size
  refine bodyPost_ret (ret_arg (x := (nm, ⟨kd, b, n, xx, t, A', c', ss⟩)) rfl hC _ rfl) rfl ⟨(nm, ⟨kd, b, n, xx, t, A', c', ss⟩), ⟨A', c', rfl⟩, rfl, ?_, ?_⟩
  · refine own_mono (own_tch ho1 hT ?_) (by simp; omega)
    intro g hg
    have := own_base ho1 g hg
    simp at this
    omega
  · have hl1 : w.heap.size ≤ w1.heap.size := Nat.le_trans hz hb1.size
    have := below_then HH.out.1 hz hb1
    exact this.trans (hT.below hl1 (by intro k hk; omega))
/-- The cells of arguments, one behind the other. -/
theorem gcells_len (x : ByteArray × VV) : (gcells x).length = 7 := rfl
theorem flat_at : ∀ (xs : List (ByteArray × VV)) (k j : Nat) (x : ByteArray × VV), xs[k]? = some x → j < 7 → (xs.flatMap gcells)[k * 7 + j]? = (gcells x)[j]?
  | [], k, j, x, h, _ => by simp at h
  | y :: l, 0, j, x, h, hj => by
    simp at h
    subst h
    rw [List.flatMap_cons, List.getElem?_append_left (by rw [gcells_len]; omega)]
    simp
  | y :: l, k + 1, j, x, h, hj => by
    have := flat_at l k j x (by simpa using h) hj
    rw [List.flatMap_cons, List.getElem?_append_right (by rw [gcells_len]; omega), gcells_len, ← this]
    congr 1
    omega
theorem GsAt.of_own {w : World} {base : Nat} {A : Option Addr} {m c n : Nat} {ys : List (ByteArray × VV)} (h : w.ownsRow base 149 7 (.slice A m c) n (ys.flatMap gcells)) : GsAt w A ys := by
  rcases h.2 with ⟨hv, rfl⟩ | ⟨g, cap, cur, hv, hb, hg, _⟩
  · left
    have := h.1
    cases ys with
    | nil => rfl
    | cons y l => simp [gcells] at this
  · simp only [Value.slice.injEq] at hv
    obtain ⟨rfl, rfl, rfl⟩ := hv
    have hc := h.cells (g := g) rfl
    have hlt := (h.lt g rfl).2
    refine .inr ⟨g, 0, rfl, hlt, fun k x hk => ?_⟩
    have hj : ∀ j u, j < 7 → (gcells x)[j]? = some u → w.cell? ⟨g, 0 + k * 7 + j, none⟩ = some u := fun j u hj hu => by
      have := hc (k * 7 + j) u ((flat_at ys k j x hk hj).trans hu)
      rw [Nat.add_assoc]
      have e : (⟨g, 0, none⟩ : Addr).add (k * 7 + j) = ⟨g, k * 7 + j, none⟩ := by
        unfold Addr.add
        split <;> simp_all
      rw [e] at this
      simpa using this
    exact ⟨hj 0 _ (by omega) rfl, hj 1 _ (by omega) rfl, hj 2 _ (by omega) rfl, hj 3 _ (by omega) rfl, hj 4 _ (by omega) rfl, hj 5 _ (by omega) rfl, hj 6 _ (by omega) rfl⟩
theorem info149 : (Try.prog.info? 149).map (fun i => (i.zero, i.size, i.bytes)) = some (some (.agg #[.string ⟨#[]⟩, .int .i64 0, .bool false, .int .i64 0, .float .f32 0, .string ⟨#[]⟩, .slice none 0 0]), 7, 88) := by kernel_rfl
/-- What the loops hold of the arguments that were lent so far, with j marks behind them. -/
structure LInv (w0 w : World) (v : Value) (n : Nat) (xs ys : List (ByteArray × VV)) (j : Nat) : Prop where
  len : n = ys.length + j
  own : w.ownsRow w0.heap.size 149 7 v n ((ys ++ gmarks j).flatMap gcells)
  b : Below w0.heap.size w0 w
  cp : ∀ (k : Nat) x y, xs[k]? = some x → ys[k]? = some y → Cp x y
  lent : ∀ y ∈ ys, LOwn w w0.heap.size y
theorem own_grown {w w1 : World} {base : Nat} {e : TypeId} {size n : Nat} {v : Value} {xs : List Value} {row : Option Nat} (h : w.ownsRow base e size v n xs) (hg : w.grownBy w1 row) (hS : ∀ g, v.ownBlock = some g → row ≠ some g) : w1.ownsRow base e size v n xs := by
  have hlt := h.lt
  refine ⟨h.1, ?_⟩
  rcases h.2 with hn | ⟨g, cap, cur, rfl, hbg, hgg, rest⟩
  · exact .inl hn
  · exact .inr ⟨g, cap, cur, rfl, hbg, by rw [hg.block g (hlt g rfl).2 (fun e => hS g rfl e.symm)]; exact hgg, rest⟩
theorem LOwn.keep {w w' : World} {base : Nat} {y : ByteArray × VV} (h : LOwn w base y) (hb : Below w.heap.size w w') : LOwn w' base y := own_keep h hb
theorem LInv.keep {w0 w w' : World} {v : Value} {n j : Nat} {xs ys : List (ByteArray × VV)} (h : LInv w0 w v n xs ys j) (hb : Below w.heap.size w w') : LInv w0 w' v n xs ys j :=
  ⟨h.len, own_keep h.own hb, below_then h.b h.b.size hb, h.cp, fun y hy => (h.lent y hy).keep hb⟩
theorem LInv.grown {w0 w w' : World} {v v' : Value} {n n' j : Nat} {xs ys : List (ByteArray × VV)} (h : LInv w0 w v n xs ys j) (hg : w.grownBy w' v.ownBlock) : ∀ y ∈ ys, LOwn w' w0.heap.size y := fun y hy =>
  own_grown (h.lent y hy) hg fun g hg' => own_apart (h.lent y hy) h.own (by decide) hg'
/-- One more argument. -/
theorem LInv.push {w0 w w' : World} {v v' : Value} {k : Nat} {xs ys : List (ByteArray × VV)} {x y : ByteArray × VV} (h : LInv w0 w v k xs ys 0) (hx : xs[k]? = some x) (hcp : Cp x y) (hlo : LOwn w w0.heap.size y)
    (ho : w'.ownsRow w0.heap.size 149 7 v' (k + 1) ((ys ++ gmarks 0).flatMap gcells ++ gcells y)) (hb : Below w0.heap.size w0 w') (hg : w.grownBy w' v.ownBlock) : LInv w0 w' v' (k + 1) xs (ys ++ [y]) 0 := by
  have hl := h.len
  refine ⟨by simp; omega, by simpa [gmarks] using ho, hb, ?_, ?_⟩
  · intro i x' y' hx' hy'
    by_cases hi : i < ys.length
    · rw [List.getElem?_append_left hi] at hy'
      exact h.cp i x' y' hx' hy'
    · have := (List.getElem?_eq_some_iff.1 hy').1
      simp at this
      obtain rfl : i = ys.length := by omega
      simp at hy'
      subst hy'
      rw [show k = ys.length by omega] at hx
      rw [hx] at hx'
      cases hx'
      exact hcp
  · intro y' hy'
    rcases List.mem_append.1 hy' with hy' | hy'
    · exact h.grown (n' := 0) (v' := v') hg y' hy'
    · simp at hy'
      subst hy'
      exact own_grown hlo hg fun g hg' => own_apart hlo h.own (by decide) hg'
/-- One more mark. -/
theorem LInv.mark {w0 w w' : World} {v v' : Value} {n j : Nat} {xs ys : List (ByteArray × VV)} (h : LInv w0 w v n xs ys j)
    (ho : w'.ownsRow w0.heap.size 149 7 v' (n + 1) ((ys ++ gmarks j).flatMap gcells ++ gcells (PC.mkT (j : Int), zeroV))) (hb : Below w0.heap.size w0 w') (hg : w.grownBy w' v.ownBlock) : LInv w0 w' v' (n + 1) xs ys (j + 1) :=
  ⟨by have := h.len; omega, by rw [gmarks_succ, ← List.append_assoc, List.flatMap_append]; simpa using ho, hb, h.cp, fun y hy => h.grown (n' := 0) (v' := v') hg y hy⟩
set_option maxHeartbeats 4000000 in
set_option maxRecDepth 100000 in
theorem lentargs_calls (w : World) (A : Option Addr) (c : Nat) (xs : List (ByteArray × VV)) (h : GsAt w A xs) (hx : ∀ x ∈ xs, VOk w x.2) (hl : xs.length ≤ 1048576) (hc : xs.length ≤ c) :
    Calls Try.prog 75 #[.slice A xs.length c] w fun e w' => ∃ A' c' ys, e = .returned (.slice A' xs.length c') ∧ LInv w w' (.slice A' (xs.length + 24) c') (xs.length + 24) xs ys 24 := by
  have HH := Lib.hid (And.intro h hx)
  clear h hx
  go_enter Try.func75, Try.ntmps75
  go_wp2_with fail
  go_loopw [3, 4] (fun v i wr => ∃ (k : Nat) (ys : List (ByteArray × VV)), k ≤ xs.length ∧ i = .int .i64 k ∧ LInv w wr v k xs ys 0) (fun _ i _ => xs.length - (intOf i).toNat)
  case atStart => exact ⟨0, [], Nat.zero_le _, rfl, rfl, World.ownsRow_nil _ _ _ _, Below.refl _ _, fun k x y _ h => by simp at h, fun y hy => by simp at hy⟩
  case round =>
    obtain ⟨k, ys, hk, rfl, hI⟩ := hrel
    by_cases hlt : k < xs.length
    · obtain ⟨x, hxk⟩ : ∃ x, xs[k]? = some x := ⟨_, List.getElem?_eq_getElem hlt⟩
      rcases HH.out.1 with h0 | ⟨b2, off2, hA, hlt2, hc2⟩
      · rw [h0] at hlt; simp at hlt
      have hgx := (hc2 k x hxk).keep hI.b hlt2
      have hvx := (HH.out.2 x (List.mem_of_getElem? hxk)).keep hI.b
      subst hA
      have q0 := hgx.nm
      have q1 : wr.cell? ⟨b2, off2 + k * 7 + 1, none⟩ = _ := hgx.v.c0
      have q2 : wr.cell? ⟨b2, off2 + k * 7 + 2, none⟩ = _ := hgx.v.c1
      have q3 : wr.cell? ⟨b2, off2 + k * 7 + 3, none⟩ = _ := hgx.v.c2
      have q4 : wr.cell? ⟨b2, off2 + k * 7 + 4, none⟩ = _ := hgx.v.c3
      have q5 : wr.cell? ⟨b2, off2 + k * 7 + 5, none⟩ = _ := hgx.v.c4
      have q6 : wr.cell? ⟨b2, off2 + k * 7 + 6, none⟩ = _ := hgx.v.c5
      have HR := Lib.hid (And.intro hvx hI)
      clear hvx hI hc2 hgx
      go_wp2_with fail
      refine (lentarg_calls wr x HR.out.1).mono ?_
      rintro e w1 ⟨y, hcp, rfl, hlo, hb1⟩
      have hown1 := own_keep HR.out.2.own hb1
      have hb2 := below_then HR.out.2.b HR.out.2.b.size hb1
      have HL := Lib.hid (And.intro (HR.out.2.keep hb1) (And.intro hcp (own_mono hlo HR.out.2.b.size)))
      clear hcp hlo hb1 q0 q1 q2 q3 q4 q5 q6 HR
      simp only [gagg]
      go_wp2_with (at_builtin; go_loud (refine app_own hown1 hb2 (.tmp 12) (.tmp 18) (gcells y) 78 _ _ Try.underlying78 info149 (by omega) (by decide) hb2.size rfl rfl rfl (by decide) rfl rfl rfl (by simp [gcells, Value.oneCell']) ?_); intro v1 w2 ho2 hb3 hg3 _)
      go_roundw
      case rel => exact ⟨k + 1, ys ++ [y], by omega, by go_num, HL.out.1.push hxk HL.out.2.1 HL.out.2.2 ho2 hb3 hg3⟩
      case measure => simp [intOf]; omega
    · obtain rfl : xs.length = k := by omega
      go_wp2_with fail
      go_loopw [3, 5] (fun v i wr => ∃ k : Nat, k ≤ 24 ∧ i = .int .i64 k ∧ LInv w wr v (xs.length + k) xs ys k) (fun _ i _ => 24 - (intOf i).toNat)
      case atStart => exact ⟨0, Nat.zero_le _, rfl, hI⟩
      case round =>
        clear hI hlt hk
        obtain ⟨k, hk, rfl, hI⟩ := hrel
        by_cases hlt : k < 24
        · have hown := hI.own
          have hb := hI.b
          have HI := Lib.hid hI
          clear hI
          go_wp2_with (first
            | (go_at_call 51; refine (PC.mark_calls _ (by omega) (by omega) _).mono ?_; rintro e w1 ⟨rfl, hb1⟩; have hown1 := own_keep hown hb1; have hb2 := below_then hb hb.size hb1)
            | (at_builtin; go_loud (refine app_own hown1 hb2 (.tmp 24) (.tmp 28) (gcells (PC.mkT k, zeroV)) 78 _ _ Try.underlying78 info149 (by omega) (by decide) hb2.size rfl rfl rfl (by decide) rfl rfl rfl (by simp [gcells, Value.oneCell']) ?_); intro v2 w2 ho2 hb3 hg3 _))
          go_roundw
          case rel => exact ⟨k + 1, by omega, by go_num, (HI.out.keep hb1).mark ho2 hb3 hg3⟩
          case measure => simp [intOf]; omega
        · obtain rfl : k = 24 := by omega
          obtain ⟨A', c', rfl, hc1, hc2⟩ := own_form hI.own
          have HI := Lib.hid hI
          clear hI
          go_wp2_with fail
          go_ret
          exact ⟨_, _, ys, rfl, HI.out⟩
end Go.Proofs.Ytdbccemllaehjaa.PK
