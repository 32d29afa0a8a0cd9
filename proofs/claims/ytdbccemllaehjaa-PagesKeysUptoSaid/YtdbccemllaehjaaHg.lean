/- values.Check, walked. -/
import Derived.Test.YtdbccemllaehjaaHf
import Derived.Test.YtdbccemllaehjaaKwRd
import Derived.Test.YtdbccemllaehjaaGd
namespace Go.Proofs.Ytdbccemllaehjaa.PK
open Go.RowKit Go.Proofs.YtdbccemllaehjaaKw Go.Proofs.YtdbccemllaehjaaHa Go.Proofs.YtdbccemllaehjaaGa Go.Proofs.Ytdbccemllaehjaa.PG
set_option linter.unusedVariables false
set_option linter.unusedSimpArgs false
/-- A value's cells, at a place. -/
structure VAt (w : World) (b o : Nat) (v : VV) : Prop where
  c0 : w.cell? ⟨b, o, none⟩ = some (.int .i64 v.kind)
  c1 : w.cell? ⟨b, o + 1, none⟩ = some (.bool v.b)
  c2 : w.cell? ⟨b, o + 2, none⟩ = some (.int .i64 v.n)
  c3 : w.cell? ⟨b, o + 3, none⟩ = some (.float .f32 v.x)
  c4 : w.cell? ⟨b, o + 4, none⟩ = some (.string v.t)
  c5 : w.cell? ⟨b, o + 5, none⟩ = some (.slice v.A v.ss.length v.c)
theorem VAt.keep {w w' : World} {b o B : Nat} {v : VV} (h : VAt w b o v) (hb : Below B w w') (hB : b < B) : VAt w' b o v :=
  ⟨(hb.cell (p := ⟨b, o, none⟩) hB).trans h.c0, (hb.cell (p := ⟨b, o + 1, none⟩) hB).trans h.c1, (hb.cell (p := ⟨b, o + 2, none⟩) hB).trans h.c2, (hb.cell (p := ⟨b, o + 3, none⟩) hB).trans h.c3, (hb.cell (p := ⟨b, o + 4, none⟩) hB).trans h.c4, (hb.cell (p := ⟨b, o + 5, none⟩) hB).trans h.c5⟩
theorem VAt.new (w : World) (v : VV) : VAt (w.alloc (.cells #[.int .i64 v.kind, .bool v.b, .int .i64 v.n, .float .f32 v.x, .string v.t, .slice v.A v.ss.length v.c] 147)) w.heap.size 0 v := by
  have hnew := heap_alloc_new w (.cells #[.int .i64 v.kind, .bool v.b, .int .i64 v.n, .float .f32 v.x, .string v.t, .slice v.A v.ss.length v.c] 147)
  exact ⟨by simp only [World.cell?, hnew]; rfl, by simp only [World.cell?, hnew]; rfl, by simp only [World.cell?, hnew]; rfl, by simp only [World.cell?, hnew]; rfl, by simp only [World.cell?, hnew]; rfl, by simp only [World.cell?, hnew]; rfl⟩
theorem cellB {w : World} {p : Addr} {v : Value} (hc : w.cell? p = some v) : ∀ w', Below w.heap.size w w' → w'.cell? p = some v := fun w' h => (h.cell (World.block_lt_of_cell? w _ hc)).trans hc
set_option maxHeartbeats 8000000 in
set_option maxRecDepth 100000 in
theorem check_calls (w : World) (v : VV) (hv : VOk w v) : Calls Try.prog 120 #[.agg #[.int .i64 v.kind, .bool v.b, .int .i64 v.n, .float .f32 v.x, .string v.t, .slice v.A v.ss.length v.c]] w fun e w' => ((okV v ∧ e = .returned (.int .i64 0)) ∨ (¬ okV v ∧ e = .returned (.int .i64 40))) ∧ Below w.heap.size w w' := by
  have hAt := VAt.new w v
  have hal := below_alloc (Below.refl w.heap.size w) (.cells #[.int .i64 v.kind, .bool v.b, .int .i64 v.n, .float .f32 v.x, .string v.t, .slice v.A v.ss.length v.c] 147)
  have hsz : (w.alloc (.cells #[.int .i64 v.kind, .bool v.b, .int .i64 v.n, .float .f32 v.x, .string v.t, .slice v.A v.ss.length v.c] 147)).heap.size = w.heap.size + 1 := by simp
  have hvo := hv.keep hal
  have HH := Lib.hid (And.intro hAt (And.intro hal (And.intro hvo hsz)))
  clear hAt hal hvo hsz hv
  go_enter Try.func120, Try.ntmps120
  by_cases ht : 256 < v.t.size
  · have HN := Lib.hid (show ¬ okV v from fun h => by have := h.1; omega)
    go_wp2_with fail
    go_ret
    exact ⟨.inr ⟨HN.out, rfl⟩, HH.out.2.1⟩
  by_cases hs : 32 < v.ss.length
  · have HN := Lib.hid (show ¬ okV v from fun h => by have := h.2.1; omega)
    go_wp2_with fail
    go_ret
    exact ⟨.inr ⟨HN.out, rfl⟩, HH.out.2.1⟩
  go_wp2_with fail
  generalize w.alloc (.cells #[.int .i64 v.kind, .bool v.b, .int .i64 v.n, .float .f32 v.x, .string v.t, .slice v.A v.ss.length v.c] 147) = W0 at *
  go_loopw [23] (fun s23 wr => ∃ k : Nat, k ≤ v.ss.length ∧ s23 = .int .i64 (k : Int) ∧ (∀ s ∈ v.ss.take k, s.size ≤ 256) ∧ wr = W0) (fun i _ => v.ss.length - (intOf i).toNat)
  case atStart => exact ⟨0, Nat.zero_le _, rfl, by simp, rfl⟩
  case round =>
    obtain ⟨k, hk, rfl, hall, rfl⟩ := hrel
    by_cases hlt : k < v.ss.length
    · obtain ⟨b, off, hA, hc⟩ := PC.rd_str HH.out.2.2.1.rd hlt
      have hsz : v.ss[k].size ≤ 9223372036854775807 := by have := HH.out.2.2.1.each _ (List.getElem_mem hlt); unfold maxLen at this; omega
      by_cases hbig : 256 < v.ss[k].size
      · have HN := Lib.hid (show ¬ okV v from fun h => by have := h.2.2.1 _ (List.getElem_mem hlt); omega)
        clear hall
        go_wp2_with fail
        go_ret
        exact ⟨.inr ⟨HN.out, rfl⟩, HH.out.2.1⟩
      · have hn : ∀ s ∈ v.ss.take (k + 1), s.size ≤ 256 := fun s hs => by
          rw [List.take_succ_eq_append_getElem hlt] at hs
          rcases List.mem_append.1 hs with h | h
          · exact hall s h
          · simp at h; subst h; omega
        have HN := Lib.hid hn
        clear hall hn
        go_wp2_with fail
        go_roundw
        case rel => exact ⟨k + 1, by omega, by go_num, HN.out, trivial⟩
        case measure => simp [intOf]; omega
    · obtain rfl : v.ss.length = k := by omega
      rw [List.take_length] at hall
      have HS := Lib.hid hall
      clear hall
      go_upto_region 9 with fail
      have hz := zr_is HH.out.2.2.1.x
      have p1 := cellB HH.out.1.c1
      have p2 := cellB HH.out.1.c2
      have p3 := cellB HH.out.1.c3
      have p4 := cellB HH.out.1.c4
      have p5 := cellB HH.out.1.c5
      simp only [Nat.zero_add] at p1 p2 p3 p4 p5
      refine RD.region (S := fun w' => Below wr.heap.size wr w') (by kernel_rfl) (by kernel_rfl) (Below.refl _ _).drew ?_
      repeat (first
        | (refine RD.walk_skip rfl ?_; simp only [Act.put, List.setIfInBounds_toArray, List.set_cons_succ, List.set_cons_zero])
        | (refine RD.walk_op (v := ?_) rfl ?_ ?_; rotate_left; (intro w hS; go_simp; done); simp only [Act.put, List.setIfInBounds_toArray, List.set_cons_succ, List.set_cons_zero])
        | (refine RD.walk_op (v := ?_) rfl ?_ ?_; rotate_left; (intro w hS; go_simp; rfl); simp only [Act.put, List.setIfInBounds_toArray, List.set_cons_succ, List.set_cons_zero]))
      refine RD.walk_nil ?_
      intro w2 hb2
      have k0 : w2.cell? ⟨w.heap.size, 0, none⟩ = some (.int .i64 v.kind) := (cellB HH.out.1.c0) w2 hb2
      have hfin := below_then HH.out.2.1 HH.out.2.1.size hb2
      have hok : okV v ↔ (1 ≤ v.kind ∧ v.kind ≤ 5 ∧ (v.kind = 1 ∨ v.b = false) ∧ (v.kind = 2 ∨ (v.n != 0) = false) ∧ (v.kind = 3 ∨ (!decide (zr v.x)) = false) ∧ (v.kind = 4 ∨ (!v.t.toList.isEmpty) = false) ∧ (v.kind = 5 ∨ decide (0 < v.ss.length) = false)) := by
        have e2 : (v.n != 0) = false ↔ v.n = 0 := by simp
        have e3 : (!decide (zr v.x)) = false ↔ zr v.x := by simp
        have e4 : (!v.t.toList.isEmpty) = false ↔ v.t.size = 0 := by
          constructor
          · intro h
            refine Classical.byContradiction fun hne => ?_
            rw [PG.mt_false hne] at h
            cases h
          · intro h
            have : v.t.toList = [] := by
              rw [ByteArray.toList_eq]
              exact List.eq_nil_of_length_eq_zero (by simpa using h)
            rw [this]
            rfl
        have e5 : decide (0 < v.ss.length) = false ↔ v.ss.length = 0 := by simp
        rw [e2, e3, e4, e5]
        unfold okV
        exact ⟨fun h => h.2.2.2, fun h => ⟨by omega, by omega, HS.out, h⟩⟩
      have HF := Lib.hid (And.intro hfin hok)
      have HV := HH.out.2.2.1.kind
      clear hfin hok p1 p2 p3 p4 p5 hz hb2
      generalize (v.n != 0) = b2 at *
      generalize (!decide (zr v.x)) = b3 at *
      generalize (!v.t.toList.isEmpty) = b4 at *
      generalize decide (0 < v.ss.length) = b5 at *
      generalize v.b = b1 at *
      obtain ⟨kd, hkd⟩ : ∃ kd, kd = v.kind := ⟨_, rfl⟩
      rw [← hkd] at k0 HF HV
      clear hkd
      have fin : ∀ {Z : Prop}, (kd = 1 → Z) → (kd = 2 → Z) → (kd = 3 → Z) → (kd = 4 → Z) → (kd = 5 → Z) → ((kd == 1) = false → (kd == 2) = false → (kd == 3) = false → (kd == 4) = false → (kd == 5) = false → Z) → Z := by
        intro Z h1 h2 h3 h4 h5 h6
        by_cases a1 : kd = 1
        · exact h1 a1
        by_cases a2 : kd = 2
        · exact h2 a2
        by_cases a3 : kd = 3
        · exact h3 a3
        by_cases a4 : kd = 4
        · exact h4 a4
        by_cases a5 : kd = 5
        · exact h5 a5
        exact h6 (beq_eq_false_iff_ne.2 a1) (beq_eq_false_iff_ne.2 a2) (beq_eq_false_iff_ne.2 a3) (beq_eq_false_iff_ne.2 a4) (beq_eq_false_iff_ne.2 a5)
      refine fin ?_ ?_ ?_ ?_ ?_ ?_
      · intro hk1
        subst hk1
        clear fin
        go_wp2_with fail
        all_goals
          go_ret
          have h := HF.out.2
          refine ⟨?_, HF.out.1⟩
          first
            | (refine .inr ⟨?_, rfl⟩; intro hh; have := h.1 hh; simp_all; done)
            | (refine .inl ⟨h.2 ?_, rfl⟩; simp_all; done)
      · intro hk1
        subst hk1
        clear fin
        go_wp2_with fail
        all_goals
          go_ret
          have h := HF.out.2
          refine ⟨?_, HF.out.1⟩
          first
            | (refine .inr ⟨?_, rfl⟩; intro hh; have := h.1 hh; simp_all; done)
            | (refine .inl ⟨h.2 ?_, rfl⟩; simp_all; done)
      · intro hk1
        subst hk1
        clear fin
        go_wp2_with fail
        all_goals
          go_ret
          have h := HF.out.2
          refine ⟨?_, HF.out.1⟩
          first
            | (refine .inr ⟨?_, rfl⟩; intro hh; have := h.1 hh; simp_all; done)
            | (refine .inl ⟨h.2 ?_, rfl⟩; simp_all; done)
      · intro hk1
        subst hk1
        clear fin
        go_wp2_with fail
        all_goals
          go_ret
          have h := HF.out.2
          refine ⟨?_, HF.out.1⟩
          first
            | (refine .inr ⟨?_, rfl⟩; intro hh; have := h.1 hh; simp_all; done)
            | (refine .inl ⟨h.2 ?_, rfl⟩; simp_all; done)
      · intro hk1
        subst hk1
        clear fin
        go_wp2_with fail
        all_goals
          go_ret
          have h := HF.out.2
          refine ⟨?_, HF.out.1⟩
          first
            | (refine .inr ⟨?_, rfl⟩; intro hh; have := h.1 hh; simp_all; done)
            | (refine .inl ⟨h.2 ?_, rfl⟩; simp_all; done)
      · intro a1 a2 a3 a4 a5
        have a6 : ¬ okV v := fun hh => by
          obtain ⟨b1, b2, _⟩ := HF.out.2.1 hh
          rw [beq_eq_false_iff_ne] at a1 a2 a3 a4 a5
          omega
        have HN := Lib.hid a6
        clear fin a6
        go_wp2_with fail
        go_ret
        exact ⟨.inr ⟨HN.out, rfl⟩, HF.out.1⟩
end Go.Proofs.Ytdbccemllaehjaa.PK
