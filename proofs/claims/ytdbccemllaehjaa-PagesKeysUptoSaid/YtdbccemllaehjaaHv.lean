/- SameAsk, KeptAsk, walked; the law. -/
import Derived.Test.YtdbccemllaehjaaHu
namespace Go.Proofs.Ytdbccemllaehjaa.PK
open Go.RowKit Go.Proofs.YtdbccemllaehjaaKw Go.Proofs.YtdbccemllaehjaaHa Go.Proofs.YtdbccemllaehjaaGa Go.Proofs.Ytdbccemllaehjaa.PG
set_option linter.unusedVariables false
set_option linter.unusedSimpArgs false
theorem AOk.grd {w : World} {a : AA} (h : AOk w a) : ∀ x ∈ a.xs, GRd w x := fun x hx => by
  have := (h.each x hx).2
  exact ⟨this.x, this.rd, by have := this.len; omega⟩
theorem Lent.grd {w : World} {a a' : AA} (h : Lent w a a') (hg : ∀ x ∈ a.xs, GRd w x) : ∀ y ∈ a'.xs, GRd w y := fun y hy => by
  obtain ⟨k, hk, rfl⟩ := List.getElem_of_mem hy
  obtain ⟨x, hx⟩ : ∃ x, a.xs[k]? = some x := ⟨_, List.getElem?_eq_getElem (by rw [← h.len]; exact hk)⟩
  obtain ⟨A', c', e⟩ := h.cp k _ _ hx (List.getElem?_eq_getElem hk)
  have hl := (h.lent _ hy).1
  have hgx := hg _ (List.mem_of_getElem? hx)
  rw [e] at hl ⊢
  exact ⟨hgx.1, strs_app_take hl, hgx.2.2⟩
set_option maxHeartbeats 8000000 in
set_option maxRecDepth 100000 in
theorem sameask_calls (w : World) (a a' : AA) (h : Lent w a a') (ha : AOk w a) :
    Calls Try.prog 82 #[a'.agg, a.agg] w fun e w' => e = .returned (.bool true) ∧ Below w.heap.size w w' := by
  have hg := ha.grd
  have hg' := h.grd hg
  obtain ⟨A', c', ys, he⟩ := h.eq
  subst he
  have hl := h.len
  have hcp := h.cp
  have hrd := h.rd
  have hxs := ha.rd
  have hle := ha.len
  obtain ⟨T, R, st, si, sr, ot, oi, A, c, xs, bud⟩ := a
  simp only [AA.agg] at *
  rw [hl]
  clear h ha
  have hb1 := below_alloc (below_alloc (Below.refl w.heap.size w) (.cells #[.string T, .string R, .string st, .string si, .string sr, .string ot, .string oi, .slice A' xs.length c', .int .i64 bud] 80)) (.cells #[.string T, .string R, .string st, .string si, .string sr, .string ot, .string oi, .slice A xs.length c, .int .i64 bud] 80)
  have h1 := (CS.new w [.string T, .string R, .string st, .string si, .string sr, .string ot, .string oi, .slice A' xs.length c', .int .i64 bud] 80).keep (below_alloc (Below.refl _ _) (.cells #[.string T, .string R, .string st, .string si, .string sr, .string ot, .string oi, .slice A xs.length c, .int .i64 bud] 80)) (by simp)
  have h2 := CS.new (w.alloc (.cells #[.string T, .string R, .string st, .string si, .string sr, .string ot, .string oi, .slice A' xs.length c', .int .i64 bud] 80)) [.string T, .string R, .string st, .string si, .string sr, .string ot, .string oi, .slice A xs.length c, .int .i64 bud] 80
  rw [show (w.alloc (.cells #[.string T, .string R, .string st, .string si, .string sr, .string ot, .string oi, .slice A' xs.length c', .int .i64 bud] 80)).heap.size = w.heap.size + 1 by simp] at h2
  have HC := Lib.hid (And.intro h1 h2)
  clear h1 h2
  have HS := Lib.hid (sameargs_calls · A' A c' c xs ys · · hl hcp · · hle)
  have HH := Lib.hid (And.intro hb1 (And.intro hrd.pre (And.intro hxs (And.intro hg hg'))))
  clear hb1 hrd hxs hg hg' hcp hl
  go_enter Try.func82, Try.ntmps82
  go_wp2_with fail
  obtain ⟨hb1, hrd, hxs, hg, hg'⟩ := HH.out
  refine (HS.out _ (hrd.keep hb1) (hxs.keep hb1) (fun x hx => (hg x hx).keep hb1) (fun y hy => (hg' y hy).keep hb1)).mono ?_
  rintro e w1 ⟨rfl, hb2⟩
  have hs2 : ((w.alloc (.cells #[.string T, .string R, .string st, .string si, .string sr, .string ot, .string oi, .slice A' xs.length c', .int .i64 bud] 80)).alloc (.cells #[.string T, .string R, .string st, .string si, .string sr, .string ot, .string oi, .slice A xs.length c, .int .i64 bud] 80)).heap.size = w.heap.size + 2 := by simp
  rw [hs2] at hb2
  have k1 : w1.cell? ⟨w.heap.size, 8, none⟩ = _ := (HC.out.1.keep hb2 (by omega)).at_ 8 _ rfl
  have k2 : w1.cell? ⟨w.heap.size + 1, 8, none⟩ = _ := (HC.out.2.keep hb2 (by omega)).at_ 8 _ rfl
  have H1 := Lib.hid (hb1.trans (Below.mono hb2 (by omega)))
  clear hb1 hrd hxs hg hg' hb2 hs2
  go_wp2_with fail
  go_ret
  exact ⟨rfl, H1.out⟩
end Go.Proofs.Ytdbccemllaehjaa.PK
