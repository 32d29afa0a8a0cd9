/- LentAsk, SameAsk, KeptAsk, walked; the law. -/
import Derived.Test.YtdbccemllaehjaaHt
namespace Go.Proofs.Ytdbccemllaehjaa.PK
open Go.RowKit Go.Proofs.YtdbccemllaehjaaKw Go.Proofs.YtdbccemllaehjaaHa Go.Proofs.YtdbccemllaehjaaGa Go.Proofs.Ytdbccemllaehjaa.PG
set_option linter.unusedVariables false
set_option linter.unusedSimpArgs false
/-- The question that was lent. -/
structure Lent (w : World) (a a' : AA) : Prop where
  eq : ∃ A' c' ys, a' = ⟨a.T, a.R, a.st, a.si, a.sr, a.ot, a.oi, A', c', ys, a.bud⟩
  len : a'.xs.length = a.xs.length
  rd : GsAt w a'.A (a'.xs ++ gmarks 24)
  cp : ∀ (k : Nat) x y, a.xs[k]? = some x → a'.xs[k]? = some y → Cp x y
  lent : ∀ y ∈ a'.xs, LRd w y
  c : a.xs.length + 24 ≤ a'.c ∧ a'.c ≤ 9223372036854775807
theorem GsAt.keep {w w' : World} {A : Option Addr} {xs : List (ByteArray × VV)} (h : GsAt w A xs) (hb : Below w.heap.size w w') : GsAt w' A xs := by
  rcases h with h | ⟨b, off, hA, hlt, hc⟩
  · exact .inl h
  · exact .inr ⟨b, off, hA, Nat.lt_of_lt_of_le hlt hb.size, fun k x hk => (hc k x hk).keep hb hlt⟩
theorem GsAt.pre {w : World} {A : Option Addr} {xs ys : List (ByteArray × VV)} (h : GsAt w A (xs ++ ys)) : GsAt w A xs := by
  rcases h with h | ⟨b, off, hA, hlt, hc⟩
  · exact .inl (List.append_eq_nil_iff.1 h).1
  · exact .inr ⟨b, off, hA, hlt, fun k x hk => hc k x (by rw [List.getElem?_append_left (List.getElem?_eq_some_iff.1 hk).1]; exact hk)⟩
theorem Lent.keep {w w' : World} {a a' : AA} (h : Lent w a a') (hb : Below w.heap.size w w') : Lent w' a a' :=
  ⟨h.eq, h.len, h.rd.keep hb, h.cp, fun y hy => (h.lent y hy).keep hb, h.c⟩
set_option maxRecDepth 100000 in
theorem ret_ask {fn : Func} (hf : fn.results = #[.cell 2 80]) {w : World} {b : Nat} {a : AA} (h : CS w b a.cells.toList) (tmps : Array Value) (ht : tmps.getD 2 undef = .pointer (some ⟨b, 0, none⟩)) :
    (results fn tmps).run Try.prog w = .ok a.agg w := by
  have p0 := h.at_ 0 _ rfl
  have p1 := h.at_ 1 _ rfl
  have p2 := h.at_ 2 _ rfl
  have p3 := h.at_ 3 _ rfl
  have p4 := h.at_ 4 _ rfl
  have p5 := h.at_ 5 _ rfl
  have p6 := h.at_ 6 _ rfl
  have p7 := h.at_ 7 _ rfl
  have p8 := h.at_ 8 _ rfl
  have ht' : tmps[2]?.getD undef = .pointer (some ⟨b, 0, none⟩) := by simpa using ht
  simp [results, hf, ht', asAddr]
  go_simp
  rfl
theorem AOk.lrd {w : World} {base : Nat} {y : ByteArray × VV} (h : LOwn w base y) : LRd w y := by
  obtain ⟨A, c, e, h1, h2⟩ := own_form h
  cases e
  exact ⟨own_rd h, h1, h2⟩
set_option maxHeartbeats 4000000 in
set_option maxRecDepth 100000 in
theorem lentask_calls (w : World) (a : AA) (ha : AOk w a) :
    Calls Try.prog 43 #[a.agg] w fun e w' => ∃ a', e = .returned a'.agg ∧ Lent w' a a' ∧ Below w.heap.size w w' := by
  have hb1 := below_alloc (below_alloc (Below.refl w.heap.size w) (.cells a.cells 80)) (.cells #[.string ⟨#[]⟩, .string ⟨#[]⟩, .string ⟨#[]⟩, .string ⟨#[]⟩, .string ⟨#[]⟩, .string ⟨#[]⟩, .string ⟨#[]⟩, .slice none 0 0, .int .i64 0] 80)
  have hsz : ((w.alloc (.cells a.cells 80)).alloc (.cells #[.string ⟨#[]⟩, .string ⟨#[]⟩, .string ⟨#[]⟩, .string ⟨#[]⟩, .string ⟨#[]⟩, .string ⟨#[]⟩, .string ⟨#[]⟩, .slice none 0 0, .int .i64 0] 80)).heap.size = w.heap.size + 2 := by simp
  have hok := ha.below hb1 ha.low
  have h1 := (CS.new w a.cells.toList 80).keep (below_alloc (Below.refl _ _) (.cells #[.string ⟨#[]⟩, .string ⟨#[]⟩, .string ⟨#[]⟩, .string ⟨#[]⟩, .string ⟨#[]⟩, .string ⟨#[]⟩, .string ⟨#[]⟩, .slice none 0 0, .int .i64 0] 80)) (by simp)
  have h2 := (CS.new (w.alloc (.cells a.cells 80)) [.string ⟨#[]⟩, .string ⟨#[]⟩, .string ⟨#[]⟩, .string ⟨#[]⟩, .string ⟨#[]⟩, .string ⟨#[]⟩, .string ⟨#[]⟩, .slice none 0 0, .int .i64 0] 80)
  rw [show (w.alloc (.cells a.cells 80)).heap.size = w.heap.size + 1 by simp] at h2
  obtain ⟨T, R, st, si, sr, ot, oi, A, c, xs, bud⟩ := a
  simp only [AA.cells, AA.agg] at *
  have HH := Lib.hid (And.intro hb1 (And.intro hok (And.intro h1 (And.intro h2 hsz))))
  clear hb1 hok h1 h2 hsz ha
  go_enter Try.func43, Try.ntmps43
  go_wp2_with fail
  refine (lentargs_calls _ A c xs HH.out.2.1.rd (fun x hx => (HH.out.2.1.each x hx).2) HH.out.2.1.len HH.out.2.1.c.1).mono ?_
  rintro e w1 ⟨A', c', ys, rfl, hI⟩
  have h1 := HH.out.2.2.1.keep hI.b (by rw [HH.out.2.2.2.2]; omega)
  have h2 := HH.out.2.2.2.1.keep hI.b (by rw [HH.out.2.2.2.2]; omega)
  have k0 : w1.cell? ⟨w.heap.size, 0, none⟩ = _ := h1.at_ 0 _ rfl
  have k1 : w1.cell? ⟨w.heap.size, 1, none⟩ = _ := h1.at_ 1 _ rfl
  have k2 : w1.cell? ⟨w.heap.size, 2, none⟩ = _ := h1.at_ 2 _ rfl
  have k3 : w1.cell? ⟨w.heap.size, 3, none⟩ = _ := h1.at_ 3 _ rfl
  have k4 : w1.cell? ⟨w.heap.size, 4, none⟩ = _ := h1.at_ 4 _ rfl
  have k5 : w1.cell? ⟨w.heap.size, 5, none⟩ = _ := h1.at_ 5 _ rfl
  have k6 : w1.cell? ⟨w.heap.size, 6, none⟩ = _ := h1.at_ 6 _ rfl
  have k7 : w1.cell? ⟨w.heap.size, 7, none⟩ = _ := h1.at_ 7 _ rfl
  have k8 : w1.cell? ⟨w.heap.size, 8, none⟩ = _ := h1.at_ 8 _ rfl
  have m0 : w1.cell? ⟨w.heap.size + 1, 0, none⟩ = _ := h2.at_ 0 _ rfl
  have m1 : w1.cell? ⟨w.heap.size + 1, 1, none⟩ = _ := h2.at_ 1 _ rfl
  have m2 : w1.cell? ⟨w.heap.size + 1, 2, none⟩ = _ := h2.at_ 2 _ rfl
  have m3 : w1.cell? ⟨w.heap.size + 1, 3, none⟩ = _ := h2.at_ 3 _ rfl
  have m4 : w1.cell? ⟨w.heap.size + 1, 4, none⟩ = _ := h2.at_ 4 _ rfl
  have m5 : w1.cell? ⟨w.heap.size + 1, 5, none⟩ = _ := h2.at_ 5 _ rfl
  have m6 : w1.cell? ⟨w.heap.size + 1, 6, none⟩ = _ := h2.at_ 6 _ rfl
  have m7 : w1.cell? ⟨w.heap.size + 1, 7, none⟩ = _ := h2.at_ 7 _ rfl
  have m8 : w1.cell? ⟨w.heap.size + 1, 8, none⟩ = _ := h2.at_ 8 _ rfl
  have f7 := h1.fz 7
  have n0 := h2.fz 0
  have n1 := h2.fz 1
  have n2 := h2.fz 2
  have n3 := h2.fz 3
  have n4 := h2.fz 4
  have n5 := h2.fz 5
  have n6 := h2.fz 6
  have n7 := h2.fz 7
  have n8 := h2.fz 8
  have H1 := Lib.hid (And.intro hI (And.intro h1 h2))
  clear hI h1 h2
  go_wp2_with fail
  obtain ⟨hI, h1, h2⟩ := H1.out
  have hC := ((((((((((h2.other (b' := w.heap.size) 7 (.slice A' xs.length c') (by omega)).set 0 (.string T)).set 1 (.string R)).set 2 (.string st)).set 3 (.string si)).set 4 (.string sr)).set 5 (.string ot)).set 6 (.string oi)).set 7 (.slice A' xs.length c')).set 8 (.int .i64 bud))
  have hT := (((((((((((Tch.refl (fun q => q = w.heap.size ∨ q = w.heap.size + 1) w1).setCell (a := ⟨w.heap.size, 7, none⟩) (.inl rfl) (.slice A' xs.length c')).setCell (a := ⟨w.heap.size + 1, 0, none⟩) (.inr rfl) (.string T)).setCell (a := ⟨w.heap.size + 1, 1, none⟩) (.inr rfl) (.string R)).setCell (a := ⟨w.heap.size + 1, 2, none⟩) (.inr rfl) (.string st)).setCell (a := ⟨w.heap.size + 1, 3, none⟩) (.inr rfl) (.string si)).setCell (a := ⟨w.heap.size + 1, 4, none⟩) (.inr rfl) (.string sr)).setCell (a := ⟨w.heap.size + 1, 5, none⟩) (.inr rfl) (.string ot)).setCell (a := ⟨w.heap.size + 1, 6, none⟩) (.inr rfl) (.string oi)).setCell (a := ⟨w.heap.size + 1, 7, none⟩) (.inr rfl) (.slice A' xs.length c')).setCell (a := ⟨w.heap.size + 1, 8, none⟩) (.inr rfl) (.int .i64 bud))
  have hlen : ys.length = xs.length := by have := hI.len; omega
  have hz := HH.out.1.size
  have hlo : ∀ {e size n v cs}, w1.ownsRow (w.heap.size + 2) e size v n cs → _ := fun {e size n v cs} (h : w1.ownsRow (w.heap.size + 2) e size v n cs) => own_tch h hT (fun g hg => by have := own_base h g hg; omega)
  have hown := hI.own
  have hlent := hI.lent
  rw [HH.out.2.2.2.2] at hown
  obtain ⟨_, _, ee, hc1, hc2⟩ := own_form hown
  cases ee
  refine bodyPost_ret (ret_ask (a := ⟨T, R, st, si, sr, ot, oi, A', c', ys, bud⟩) rfl (by simpa [AA.cells, hlen] using hC) _ rfl) rfl ⟨⟨T, R, st, si, sr, ot, oi, A', c', ys, bud⟩, rfl, ⟨⟨A', c', ys, rfl⟩, hlen, GsAt.of_own (hlo hown), hI.cp, fun y hy => ?_, ⟨hc1, hc2⟩⟩, ?_⟩
  · have := hlent y hy
    unfold LOwn at this
    rw [HH.out.2.2.2.2] at this
    exact AOk.lrd (hlo this)
  · have hl1 : w.heap.size ≤ w1.heap.size := Nat.le_trans hz hI.b.size
    exact (below_then HH.out.1 hz hI.b).trans (hT.below hl1 (by intro k hk; omega))
end Go.Proofs.Ytdbccemllaehjaa.PK
