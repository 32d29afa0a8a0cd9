/- The reference's May, walked. -/
import Derived.Test.YtdbccemllaehjaaHh
namespace Go.Proofs.Ytdbccemllaehjaa.PK
open Go.RowKit Go.Proofs.YtdbccemllaehjaaKw Go.Proofs.YtdbccemllaehjaaHa Go.Proofs.YtdbccemllaehjaaGa Go.Proofs.Ytdbccemllaehjaa.PG
set_option linter.unusedVariables false
set_option linter.unusedSimpArgs false
theorem okV_zok (v : VV) : okV v ↔ (1 ≤ v.kind ∧ v.kind ≤ 5 ∧ zok v ∧ v.t.size ≤ 256 ∧ v.ss.length ≤ 32 ∧ ∀ s ∈ v.ss, s.size ≤ 256) := by
  unfold okV zok
  constructor
  · rintro ⟨h1, h2, h3, h4, h5, h6⟩
    exact ⟨h4, h5, h6, h1, h2, h3⟩
  · rintro ⟨h4, h5, h6, h1, h2, h3⟩
    exact ⟨h1, h2, h3, h4, h5, h6⟩
set_option maxHeartbeats 8000000 in
set_option maxRecDepth 100000 in
theorem rmay_calls (w : World) (v : VV) (hv : VOk w v) : Calls Try.prog 105 #[.agg #[.int .i64 v.kind, .bool v.b, .int .i64 v.n, .float .f32 v.x, .string v.t, .slice v.A v.ss.length v.c]] w fun e w' => ((okV v ∧ e = .returned (.bool true)) ∨ (¬ okV v ∧ e = .returned (.bool false))) ∧ Below w.heap.size w w' := by
  have hAt := VAt.new w v
  have hal := below_alloc (Below.refl w.heap.size w) (.cells #[.int .i64 v.kind, .bool v.b, .int .i64 v.n, .float .f32 v.x, .string v.t, .slice v.A v.ss.length v.c] 147)
  have hsz : (w.alloc (.cells #[.int .i64 v.kind, .bool v.b, .int .i64 v.n, .float .f32 v.x, .string v.t, .slice v.A v.ss.length v.c] 147)).heap.size = w.heap.size + 1 := by simp
  have hvo := hv.keep hal
  have hiff := okV_zok v
  have HH := Lib.hid (And.intro hAt (And.intro hal (And.intro hvo (And.intro hsz hiff))))
  have hts : v.t.size ≤ 9223372036854775807 := by have := hv.t; unfold maxLen at this; omega
  clear hAt hal hvo hsz hiff
  go_enter Try.func105, Try.ntmps105
  by_cases hk1 : v.kind < 1
  · have HN := Lib.hid (show ¬ okV v from fun h => by have := h.2.2.2.1; omega)
    go_wp2_with fail
    go_ret
    exact ⟨.inr ⟨HN.out, rfl⟩, HH.out.2.1⟩
  by_cases hk5 : 5 < v.kind
  · have HN := Lib.hid (show ¬ okV v from fun h => by have := h.2.2.2.2.1; omega)
    go_wp2_with fail
    go_ret
    exact ⟨.inr ⟨HN.out, rfl⟩, HH.out.2.1⟩
  go_wp2_with fail
  generalize w.alloc (.cells #[.int .i64 v.kind, .bool v.b, .int .i64 v.n, .float .f32 v.x, .string v.t, .slice v.A v.ss.length v.c] 147) = W0 at *
  refine (zero_calls W0 v HH.out.2.2.1.x).mono ?_
  rintro e w1 ⟨hz, hb1⟩
  have hz0 : w.heap.size < W0.heap.size := by have := HH.out.2.2.2.1; omega
  have hA1 := HH.out.1.keep hb1 hz0
  have p4 := hA1.c4
  have p5 := hA1.c5
  simp only [Nat.zero_add] at p4 p5
  have H1 := Lib.hid (And.intro (below_then HH.out.2.1 HH.out.2.1.size hb1) (And.intro (HH.out.2.2.1.keep hb1) HH.out.2.2.2.2))
  clear hb1 hA1 HH
  rcases hz with ⟨hzy, rfl⟩ | ⟨hzn, rfl⟩
  · by_cases ht : 256 < v.t.size
    · have HN := Lib.hid (show ¬ okV v from fun h => by have := h.1; omega)
      clear hzy
      go_wp2_with fail
      go_ret
      exact ⟨.inr ⟨HN.out, rfl⟩, H1.out.1⟩
    by_cases hs : 32 < v.ss.length
    · have HN := Lib.hid (show ¬ okV v from fun h => by have := h.2.1; omega)
      clear hzy
      go_wp2_with fail
      go_ret
      exact ⟨.inr ⟨HN.out, rfl⟩, H1.out.1⟩
    have HZ := Lib.hid hzy
    clear hzy
    go_wp2_with fail
    go_loopw [3] (fun s3 wr => ∃ k : Nat, k ≤ v.ss.length ∧ s3 = .int .i64 (k : Int) ∧ (∀ s ∈ v.ss.take k, s.size ≤ 256) ∧ wr = w1) (fun i _ => v.ss.length - (intOf i).toNat)
    case atStart => exact ⟨0, Nat.zero_le _, rfl, by simp, rfl⟩
    case round =>
      obtain ⟨k, hk, rfl, hall, rfl⟩ := hrel
      by_cases hlt : k < v.ss.length
      · obtain ⟨b, off, hA, hc⟩ := PC.rd_str H1.out.2.1.rd hlt
        have hsz : v.ss[k].size ≤ 9223372036854775807 := by have := H1.out.2.1.each _ (List.getElem_mem hlt); unfold maxLen at this; omega
        by_cases hbig : 256 < v.ss[k].size
        · have HN := Lib.hid (show ¬ okV v from fun h => by have := h.2.2.1 _ (List.getElem_mem hlt); omega)
          clear hall
          go_wp2_with fail
          go_ret
          exact ⟨.inr ⟨HN.out, rfl⟩, H1.out.1⟩
        · have hn : ∀ s ∈ v.ss.take (k + 1), s.size ≤ 256 := fun s hs => by
            rw [List.take_succ_eq_append_getElem hlt] at hs
            rcases List.mem_append.1 hs with h | h
            · exact hall s h
            · simp at h; subst h; omega
          have HN := Lib.hid hn
          clear hall hn
          go_wp2_with fail
          go_roundw
          case rel => exact ⟨k + 1, by omega, by go_num, HN.out, trivial⟩
          case measure => simp [intOf]; omega
      · obtain rfl : v.ss.length = k := by omega
        rw [List.take_length] at hall
        have HY := Lib.hid (H1.out.2.2.2 ⟨by omega, by omega, HZ.out, by omega, by omega, hall⟩)
        clear hall
        go_wp2_with fail
        go_ret
        exact ⟨.inl ⟨HY.out, rfl⟩, H1.out.1⟩
  · have HN := Lib.hid (show ¬ okV v from fun h => hzn (H1.out.2.2.1 h).2.2.1)
    clear hzn
    go_wp2_with fail
    go_ret
    exact ⟨.inr ⟨HN.out, rfl⟩, H1.out.1⟩
end Go.Proofs.Ytdbccemllaehjaa.PK
