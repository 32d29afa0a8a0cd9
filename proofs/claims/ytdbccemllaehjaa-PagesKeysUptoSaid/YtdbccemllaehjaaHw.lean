/- KeptAsk, walked; the law. -/
import Derived.Test.YtdbccemllaehjaaHv
namespace Go.Proofs.Ytdbccemllaehjaa.PK
open Go.RowKit Go.Proofs.YtdbccemllaehjaaKw Go.Proofs.YtdbccemllaehjaaHa Go.Proofs.YtdbccemllaehjaaGa Go.Proofs.Ytdbccemllaehjaa.PG
set_option linter.unusedVariables false
set_option linter.unusedSimpArgs false
set_option maxHeartbeats 2000000 in
set_option maxRecDepth 100000 in
theorem keptask_calls (w : World) (a a' : AA) (h : Lent w a a') (ha : AOk w a) :
    Calls Try.prog 46 #[a'.agg, a.agg] w fun e w' => e = .returned (.bool true) ∧ Below w.heap.size w w' := by
  have hb1 := below_alloc (below_alloc (Below.refl w.heap.size w) (.cells a'.cells 80)) (.cells a.cells 80)
  have hs2 : ((w.alloc (.cells a'.cells 80)).alloc (.cells a.cells 80)).heap.size = w.heap.size + 2 := by simp
  have h1 := (CS.new w a'.cells.toList 80).keep (below_alloc (Below.refl _ _) (.cells a.cells 80)) (by simp)
  have h2 := CS.new (w.alloc (.cells a'.cells 80)) a.cells.toList 80
  rw [show (w.alloc (.cells a'.cells 80)).heap.size = w.heap.size + 1 by simp] at h2
  have hL := h.keep hb1
  have hO := ha.below hb1 ha.low
  have hS := sameask_calls _ a a' hL hO
  obtain ⟨A', c', ys, he⟩ := h.eq
  have hl := h.len
  subst he
  obtain ⟨T, R, st, si, sr, ot, oi, A, c, xs, bud⟩ := a
  clear h ha
  simp only [AA.agg, AA.cells] at *
  rw [hl] at hb1 hs2 h1 h2 hS hL hO ⊢
  have HL := Lib.hid (And.intro hL (And.intro hO hl))
  clear hL hO
  have HH := Lib.hid (And.intro hb1 (And.intro hS (And.intro h1 (And.intro h2 hs2))))
  clear hb1 hS h1 h2 hs2 hl
  go_enter Try.func46, Try.ntmps46
  go_wp2_with fail
  generalize (w.alloc (.cells #[.string T, .string R, .string st, .string si, .string sr, .string ot, .string oi, .slice A' xs.length c', .int .i64 bud] 80)).alloc (.cells #[.string T, .string R, .string st, .string si, .string sr, .string ot, .string oi, .slice A xs.length c, .int .i64 bud] 80) = W1 at *
  refine HH.out.2.1.mono ?_
  rintro e w1 ⟨rfl, hb2⟩
  rw [HH.out.2.2.2.2] at hb2
  have k1 : w1.cell? ⟨w.heap.size, 7, none⟩ = _ := (HH.out.2.2.1.keep hb2 (by omega)).at_ 7 _ rfl
  have k2 : w1.cell? ⟨w.heap.size + 1, 7, none⟩ = _ := (HH.out.2.2.2.1.keep hb2 (by omega)).at_ 7 _ rfl
  have H2 := Lib.hid hb2
  clear hb2
  go_wp2_with fail
  obtain ⟨hb1, _, _, _, hs2⟩ := HH.out
  have hb2 := H2.out
  rw [← hs2] at hb2
  have hL2 := HL.out.1.keep hb2
  have hO2 := HL.out.2.1.below hb2 HL.out.2.1.low
  refine (keptargs_calls w1 A' A c' c xs ys hL2.rd hO2.rd HL.out.2.2 hL2.cp hO2.grd hL2.lent hO2.len hL2.c.1 hL2.c.2).mono ?_
  rintro e w2 ⟨rfl, hb3⟩
  have H3 := Lib.hid ((below_then hb1 hb1.size hb2).trans (Below.mono hb3 (Nat.le_trans hb1.size hb2.size)))
  clear hb3 k1 k2 hb1 hL2 hO2 hb2 hs2
  go_wp2_with fail
  go_ret
  exact ⟨rfl, H3.out⟩
theorem Lent.ok {w : World} {a a' : AA} (h : Lent w a a') (ha : AOk w a) : AOk w a' := by
  have hl := h.len
  have hc := h.c
  obtain ⟨A', c', ys, he⟩ := h.eq
  subst he
  refine ⟨ha.small, ha.bud, ⟨by simp only at *; omega, hc.2⟩, by simp only at *; have := ha.len; omega, h.rd.pre, fun y hy => ?_⟩
  obtain ⟨k, hk, rfl⟩ := List.getElem_of_mem hy
  obtain ⟨x, hx⟩ : ∃ x, a.xs[k]? = some x := ⟨_, List.getElem?_eq_getElem (by rw [← hl]; exact hk)⟩
  obtain ⟨B', d', e⟩ := h.cp k _ _ hx (List.getElem?_eq_getElem hk)
  have hlo := h.lent _ hy
  obtain ⟨hx1, hx2⟩ := ha.each _ (List.mem_of_getElem? hx)
  simp only at e
  rw [e] at hlo ⊢
  obtain ⟨l1, l2, l3⟩ := hlo
  simp only at l1 l2 l3
  exact ⟨hx1, ⟨hx2.kind, hx2.n, hx2.x, hx2.t, strs_app_take l1, ⟨by simp only; omega, l3⟩, hx2.len, hx2.each⟩⟩
theorem argB_cp {x y : ByteArray × VV} (h : Cp x y) : argB y = argB x := by
  obtain ⟨A', c', rfl⟩ := h
  rfl
theorem Lent.args {w : World} {a a' : AA} (h : Lent w a a') : a'.xs.map argB = a.xs.map argB := by
  refine List.ext_getElem? fun k => ?_
  simp only [List.getElem?_map]
  by_cases hk : k < a'.xs.length
  · obtain ⟨x, hx⟩ : ∃ x, a.xs[k]? = some x := ⟨_, List.getElem?_eq_getElem (by rw [← h.len]; exact hk)⟩
    have hy := List.getElem?_eq_getElem hk
    rw [hx, hy, Option.map_some, Option.map_some, argB_cp (h.cp k _ _ hx hy)]
  · rw [List.getElem?_eq_none (by omega), List.getElem?_eq_none (by have := h.len; omega)]
theorem Lent.key {w : World} {a a' : AA} (h : Lent w a a') (ob : Bool) : keyOf a' ob = keyOf a ob := by
  have h1 := h.args
  have h2 := h.len
  obtain ⟨A', c', ys, he⟩ := h.eq
  subst he
  unfold keyOf keyB
  simp only at h1 h2 ⊢
  rw [h1, h2]
  rfl
/-- What stands throughout the law. -/
structure LSt (w0 w : World) (nb : Nat) (a a' : AA) : Prop where
  b : Below w0.heap.size w0 w
  lent : Lent w a a'
  ok : AOk w a
  c1 : CS w w0.heap.size a.cells.toList
  c2 : CS w nb a'.cells.toList
  lt : w0.heap.size < w.heap.size ∧ nb < w.heap.size
theorem LSt.keep {w0 w w' : World} {nb : Nat} {a a' : AA} (h : LSt w0 w nb a a') (hb : Below w.heap.size w w') : LSt w0 w' nb a a' :=
  ⟨below_then h.b (by have := h.lt; omega) hb, h.lent.keep hb, h.ok.below hb h.ok.low, h.c1.keep hb h.lt.1, h.c2.keep hb h.lt.2, by have := hb.size; have := h.lt; omega⟩
set_option maxHeartbeats 4000000 in
set_option maxRecDepth 100000 in
theorem law_calls (w : World) (a : AA) (ha : AOk w a) :
    Calls Try.prog 8 #[a.agg] w fun e w' => e = .returned (.bool true) ∧ Below w.heap.size w w' := by
  have hb1 := below_alloc (Below.refl w.heap.size w) (.cells a.cells 80)
  have hok := ha.below hb1 ha.low
  have h1 := CS.new w a.cells.toList 80
  have HS := Lib.hid (lentask_calls _ a hok)
  have HH := Lib.hid (And.intro hb1 (And.intro hok h1))
  have HZ := Lib.hid (show (w.alloc (.cells a.cells 80)).heap.size = w.heap.size + 1 from by simp)
  have HK := Lib.hid (show keyOf a true = sumB (keyB (headO a) a.xs) ∧ keyOf a false = sumB (keyB (headS a) a.xs) from by simp [keyOf])
  obtain ⟨kt, hkt⟩ : ∃ kt, kt = keyOf a true := ⟨_, rfl⟩
  obtain ⟨kf, hkf⟩ : ∃ kf, kf = keyOf a false := ⟨_, rfl⟩
  rw [← hkt, ← hkf] at HK
  have HE := Lib.hid (And.intro hkt hkf)
  clear hb1 hok h1 ha hkt hkf
  obtain ⟨T, R, st, si, sr, ot, oi, A, c, xs, bud⟩ := a
  simp only [AA.agg, AA.cells] at *
  go_enter Try.func8, Try.ntmps8
  go_wp2_with fail
  refine HS.out.mono ?_
  rintro e w2 ⟨a', rfl, hL, hb2⟩
  obtain ⟨A', c', ys, he⟩ := hL.eq
  have hl := hL.len
  have hkT := hL.key true
  have hkF := hL.key false
  subst he
  simp only [AA.agg, AA.cells] at *
  rw [hl]
  have H3 : Hid (LSt w (w2.alloc (.cells #[.string T, .string R, .string st, .string si, .string sr, .string ot, .string oi, .slice A' xs.length c', .int .i64 bud] 80)) w2.heap.size ⟨T, R, st, si, sr, ot, oi, A, c, xs, bud⟩ ⟨T, R, st, si, sr, ot, oi, A', c', ys, bud⟩) := by
    refine Lib.hid ?_
    obtain ⟨g1, g2, g3⟩ := HH.out
    have hb3 := below_alloc (Below.refl w2.heap.size w2) (.cells #[.string T, .string R, .string st, .string si, .string sr, .string ot, .string oi, .slice A' xs.length c', .int .i64 bud] 80)
    have hs := hb2.size
    have g4 := g2.below hb2 g2.low
    refine ⟨(below_then g1 g1.size hb2).trans (hb3.mono (by have := HZ.out; omega)), hL.keep hb3, g4.below hb3 g4.low, (g3.keep hb2 (by have := HZ.out; omega)).keep hb3 (by have := HZ.out; omega), ?_, ?_⟩
    · have := CS.new w2 [.string T, .string R, .string st, .string si, .string sr, .string ot, .string oi, .slice A' xs.length c', .int .i64 bud] 80
      simpa [AA.cells, hl] using this
    · have := HZ.out
      simp
      omega
  have HKT := Lib.hid (And.intro hkT hkF)
  have HL := Lib.hid hl
  clear hL hb2 hl HS HH HZ hkT hkF
  go_wp2_with fail
  generalize w2.alloc (.cells #[.string T, .string R, .string st, .string si, .string sr, .string ot, .string oi, .slice A' xs.length c', .int .i64 bud] 80) = w3 at *
  generalize w2.heap.size = nb at *
  have hP := pkey_calls w3 ⟨T, R, st, si, sr, ot, oi, A', c', ys, bud⟩ (H3.out.lent.ok H3.out.ok) true
  rw [HKT.out.1, ← HE.out.1] at hP
  simp only [AA.agg, HL.out] at hP
  refine hP.mono ?_
  clear hP
  rintro e w4 ⟨rfl, hb4⟩
  have H4 := Lib.hid (H3.out.keep hb4)
  clear H3 hb4
  have c2 := H4.out.c2
  simp only [AA.cells, HL.out] at c2
  have m0 : w4.cell? ⟨nb, 0, none⟩ = _ := c2.at_ 0 _ rfl
  have m1 : w4.cell? ⟨nb, 1, none⟩ = _ := c2.at_ 1 _ rfl
  have m2 : w4.cell? ⟨nb, 2, none⟩ = _ := c2.at_ 2 _ rfl
  have m3 : w4.cell? ⟨nb, 3, none⟩ = _ := c2.at_ 3 _ rfl
  have m4 : w4.cell? ⟨nb, 4, none⟩ = _ := c2.at_ 4 _ rfl
  have m5 : w4.cell? ⟨nb, 5, none⟩ = _ := c2.at_ 5 _ rfl
  have m6 : w4.cell? ⟨nb, 6, none⟩ = _ := c2.at_ 6 _ rfl
  have m7 : w4.cell? ⟨nb, 7, none⟩ = _ := c2.at_ 7 _ rfl
  have m8 : w4.cell? ⟨nb, 8, none⟩ = _ := c2.at_ 8 _ rfl
  clear c2
  go_wp2_with fail
  have hP := pkey_calls w4 ⟨T, R, st, si, sr, ot, oi, A', c', ys, bud⟩ (H4.out.lent.ok H4.out.ok) false
  rw [HKT.out.2, ← HE.out.2] at hP
  simp only [AA.agg, HL.out] at hP
  refine hP.mono ?_
  clear hP
  rintro e w5 ⟨rfl, hb5⟩
  have H5 := Lib.hid (H4.out.keep hb5)
  clear H4 hb5 m0 m1 m2 m3 m4 m5 m6 m7 m8
  have c1 := H5.out.c1
  have m0 : w5.cell? ⟨w.heap.size, 0, none⟩ = _ := c1.at_ 0 _ rfl
  have m1 : w5.cell? ⟨w.heap.size, 1, none⟩ = _ := c1.at_ 1 _ rfl
  have m2 : w5.cell? ⟨w.heap.size, 2, none⟩ = _ := c1.at_ 2 _ rfl
  have m3 : w5.cell? ⟨w.heap.size, 3, none⟩ = _ := c1.at_ 3 _ rfl
  have m4 : w5.cell? ⟨w.heap.size, 4, none⟩ = _ := c1.at_ 4 _ rfl
  have m5 : w5.cell? ⟨w.heap.size, 5, none⟩ = _ := c1.at_ 5 _ rfl
  have m6 : w5.cell? ⟨w.heap.size, 6, none⟩ = _ := c1.at_ 6 _ rfl
  have m7 : w5.cell? ⟨w.heap.size, 7, none⟩ = _ := c1.at_ 7 _ rfl
  have m8 : w5.cell? ⟨w.heap.size, 8, none⟩ = _ := c1.at_ 8 _ rfl
  clear c1
  go_wp2_with fail
  have hP := rkeyo_calls w5 ⟨T, R, st, si, sr, ot, oi, A, c, xs, bud⟩ H5.out.ok
  rw [← HK.out.1] at hP
  simp only [AA.agg] at hP
  refine hP.mono ?_
  clear hP
  rintro e w6 ⟨rfl, hb6⟩
  have H6 := Lib.hid (H5.out.keep hb6)
  clear H5 hb6 m0 m1 m2 m3 m4 m5 m6 m7 m8
  have c1 := H6.out.c1
  have m0 : w6.cell? ⟨w.heap.size, 0, none⟩ = _ := c1.at_ 0 _ rfl
  have m1 : w6.cell? ⟨w.heap.size, 1, none⟩ = _ := c1.at_ 1 _ rfl
  have m2 : w6.cell? ⟨w.heap.size, 2, none⟩ = _ := c1.at_ 2 _ rfl
  have m3 : w6.cell? ⟨w.heap.size, 3, none⟩ = _ := c1.at_ 3 _ rfl
  have m4 : w6.cell? ⟨w.heap.size, 4, none⟩ = _ := c1.at_ 4 _ rfl
  have m5 : w6.cell? ⟨w.heap.size, 5, none⟩ = _ := c1.at_ 5 _ rfl
  have m6 : w6.cell? ⟨w.heap.size, 6, none⟩ = _ := c1.at_ 6 _ rfl
  have m7 : w6.cell? ⟨w.heap.size, 7, none⟩ = _ := c1.at_ 7 _ rfl
  have m8 : w6.cell? ⟨w.heap.size, 8, none⟩ = _ := c1.at_ 8 _ rfl
  clear c1
  go_wp2_with fail
  have hP := rkeys_calls w6 ⟨T, R, st, si, sr, ot, oi, A, c, xs, bud⟩ H6.out.ok
  rw [← HK.out.2] at hP
  simp only [AA.agg] at hP
  refine hP.mono ?_
  clear hP
  rintro e w7 ⟨rfl, hb7⟩
  have H7 := Lib.hid (H6.out.keep hb7)
  clear H6 hb7 m0 m1 m2 m3 m4 m5 m6 m7 m8
  have c1 := H7.out.c1
  have m0 : w7.cell? ⟨w.heap.size, 0, none⟩ = _ := c1.at_ 0 _ rfl
  have m1 : w7.cell? ⟨w.heap.size, 1, none⟩ = _ := c1.at_ 1 _ rfl
  have m2 : w7.cell? ⟨w.heap.size, 2, none⟩ = _ := c1.at_ 2 _ rfl
  have m3 : w7.cell? ⟨w.heap.size, 3, none⟩ = _ := c1.at_ 3 _ rfl
  have m4 : w7.cell? ⟨w.heap.size, 4, none⟩ = _ := c1.at_ 4 _ rfl
  have m5 : w7.cell? ⟨w.heap.size, 5, none⟩ = _ := c1.at_ 5 _ rfl
  have m6 : w7.cell? ⟨w.heap.size, 6, none⟩ = _ := c1.at_ 6 _ rfl
  have m7 : w7.cell? ⟨w.heap.size, 7, none⟩ = _ := c1.at_ 7 _ rfl
  have m8 : w7.cell? ⟨w.heap.size, 8, none⟩ = _ := c1.at_ 8 _ rfl
  have c2 := H7.out.c2
  simp only [AA.cells, HL.out] at c2
  have n0 : w7.cell? ⟨nb, 0, none⟩ = _ := c2.at_ 0 _ rfl
  have n1 : w7.cell? ⟨nb, 1, none⟩ = _ := c2.at_ 1 _ rfl
  have n2 : w7.cell? ⟨nb, 2, none⟩ = _ := c2.at_ 2 _ rfl
  have n3 : w7.cell? ⟨nb, 3, none⟩ = _ := c2.at_ 3 _ rfl
  have n4 : w7.cell? ⟨nb, 4, none⟩ = _ := c2.at_ 4 _ rfl
  have n5 : w7.cell? ⟨nb, 5, none⟩ = _ := c2.at_ 5 _ rfl
  have n6 : w7.cell? ⟨nb, 6, none⟩ = _ := c2.at_ 6 _ rfl
  have n7 : w7.cell? ⟨nb, 7, none⟩ = _ := c2.at_ 7 _ rfl
  have n8 : w7.cell? ⟨nb, 8, none⟩ = _ := c2.at_ 8 _ rfl
  clear c1 c2
  go_wp2_with fail
  have hP := keptask_calls w7 ⟨T, R, st, si, sr, ot, oi, A, c, xs, bud⟩ ⟨T, R, st, si, sr, ot, oi, A', c', ys, bud⟩ H7.out.lent H7.out.ok
  simp only [AA.agg, HL.out] at hP
  refine hP.mono ?_
  clear hP
  rintro e w8 ⟨rfl, hb8⟩
  have H8 := Lib.hid (H7.out.keep hb8).b
  clear H7 hb8 m0 m1 m2 m3 m4 m5 m6 m7 m8 n0 n1 n2 n3 n4 n5 n6 n7 n8
  go_wp2_with fail
  go_ret
  exact ⟨rfl, H8.out⟩
end Go.Proofs.Ytdbccemllaehjaa.PK
