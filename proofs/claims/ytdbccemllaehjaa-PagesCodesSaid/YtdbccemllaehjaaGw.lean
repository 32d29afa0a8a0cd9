/- The law PagesCodes, walked: it returns true. -/
import Derived.Test.YtdbccemllaehjaaGv
namespace Go.Proofs.Ytdbccemllaehjaa.PG
open Go.RowKit Go.Proofs.YtdbccemllaehjaaKw Go.Proofs.YtdbccemllaehjaaGa
set_option linter.unusedVariables false
set_option linter.unusedSimpArgs false
/-- Two answers of Encode are one. -/
theorem enc_same {key : Nat} {r : Int} {last : ByteArray} {e e' : Ending} (h : EncAns key r last e) (h' : EncAns key r last e') : ∃ (t : ByteArray) (n : Int), e = .returned (.tuple #[.string t, .int .i64 n]) ∧ e' = .returned (.tuple #[.string t, .int .i64 n]) := by
  rcases h with ⟨h1, rfl⟩ | ⟨h1, s1, h2, rfl⟩
  · rcases h' with ⟨_, rfl⟩ | ⟨h3, _⟩
    · exact ⟨_, _, rfl, rfl⟩
    · exact (h1 h3).elim
  · rcases h' with ⟨h3, _⟩ | ⟨_, s2, h4, rfl⟩
    · exact (h3 h1).elim
    · rw [h2.unique h4]
      exact ⟨_, _, rfl, rfl⟩
/-- Two answers of Decode are one. -/
theorem dec_same {s : ByteArray} {e e' : Ending} (h : DecAns s e) (h' : DecAns s e') : ∃ (key : Nat) (r : Int) (t : ByteArray) (n : Int), e = .returned (.tuple #[.agg #[.int .u64 (key : Int), .int .i64 r, .string t], .int .i64 n]) ∧ e' = .returned (.tuple #[.agg #[.int .u64 (key : Int), .int .i64 r, .string t], .int .i64 n]) := by
  by_cases hc : ∃ key rn last, Coded key rn last s
  · obtain ⟨key, rn, last, hc⟩ := hc
    exact ⟨key, rn, last, 0, h.yes _ _ _ hc, h'.yes _ _ _ hc⟩
  · have hn : ∀ key rn last, ¬ Coded key rn last s := fun key rn last h => hc ⟨key, rn, last, h⟩
    exact ⟨0, 0, ⟨#[]⟩, 250, h.no hn, h'.no hn⟩
set_option maxHeartbeats 8000000 in
set_option maxRecDepth 100000 in
theorem codes_law (w : World) (key : Nat) (r : Int) (last s : ByteArray) (hk : key < 18446744073709551616) (hr : -9223372036854775808 ≤ r ∧ r ≤ 9223372036854775807) (hls : last.size ≤ maxLen) (hs : s.size ≤ 140737488351232) :
    Calls Try.prog 9 #[.agg #[.int .u64 (key : Int), .int .i64 r, .string last], .string s] w fun e w' => e = .returned (.bool true) ∧ Below w.heap.size w w' := by
  have hP := PinAt.new w key r last
  have hA := below_alloc (Below.refl w.heap.size w) (.cells #[.int .u64 (key : Int), .int .i64 r, .string last] 87)
  have hsz : (w.alloc (.cells #[.int .u64 (key : Int), .int .i64 r, .string last] 87)).heap.size = w.heap.size + 1 := by simp
  have HH := Lib.hid (And.intro hP (And.intro hA hsz))
  clear hP hA hsz
  go_enter Try.func9, Try.ntmps9
  go_wp2_with fail
  generalize w.alloc (.cells #[.int .u64 (key : Int), .int .i64 r, .string last] 87) = W0 at *
  refine (encode_calls W0 key r last hk hr hls).mono ?_
  rintro e1 w1 ⟨hE1, hb1⟩
  obtain ⟨t, n, rfl, _⟩ := enc_same hE1 hE1
  have hP1 := HH.out.1.keep hb1 (by rw [HH.out.2.2]; omega)
  have p0 := hP1.c0
  have p1 := hP1.c1
  have p2 := hP1.c2
  have H1 := Lib.hid (And.intro hE1 (below_then HH.out.2.1 HH.out.2.1.size hb1))
  clear hE1 hb1 hP1 HH
  go_wp2_with fail
  refine (rencode_calls w1 key r last hk hr hls).mono ?_
  rintro e2 w2 ⟨hE2, hb2⟩
  obtain ⟨t', n', he, rfl⟩ := enc_same H1.out.1 hE2
  cases he
  have H2 := Lib.hid (below_then H1.out.2 H1.out.2.size hb2)
  clear hE2 hb2 p0 p1 p2 H1
  go_wp2_with fail
  refine (decode_calls w2 s hs).mono ?_
  rintro e3 w3 ⟨hD3, hb3⟩
  obtain ⟨x, y, u, m, rfl, _⟩ := dec_same hD3 hD3
  have hPn := PinAt.new w3 x y u
  have hAn := below_alloc (Below.refl w3.heap.size w3) (.cells #[.int .u64 (x : Int), .int .i64 y, .string u] 87)
  have hsn : (w3.alloc (.cells #[.int .u64 (x : Int), .int .i64 y, .string u] 87)).heap.size = w3.heap.size + 1 := by simp
  have hb3' := below_then H2.out H2.out.size hb3
  have H3 := Lib.hid (And.intro hD3 (And.intro (below_then hb3' hb3'.size hAn) (And.intro hPn hsn)))
  clear hD3 hb3 hb3' hPn hAn hsn H2
  go_wp2_with fail
  generalize w3.alloc (.cells #[.int .u64 (x : Int), .int .i64 y, .string u] 87) = W3 at *
  obtain ⟨q, hq⟩ : ∃ q, q = w3.heap.size := ⟨_, rfl⟩
  rw [← hq] at H3 ⊢
  clear hq
  refine (rdecode_calls W3 s hs).mono ?_
  rintro e4 w4 ⟨hD4, hb4⟩
  obtain ⟨x', y', u', m', he, rfl⟩ := dec_same H3.out.1 hD4
  cases he
  have hQ := H3.out.2.2.1.keep hb4 (by rw [H3.out.2.2.2]; omega)
  have hQn := PinAt.new w4 x y u
  have hAn := below_alloc (Below.refl w4.heap.size w4) (.cells #[.int .u64 (x : Int), .int .i64 y, .string u] 87)
  have hb4' := below_then H3.out.2.1 H3.out.2.1.size hb4
  have hQ' := hQ.keep hAn (World.block_lt_of_cell? _ _ hQ.c0)
  have H4 := Lib.hid (below_then hb4' hb4'.size hAn)
  have q0 := hQ'.c0
  have q1 := hQ'.c1
  have q2 := hQ'.c2
  have r0 := hQn.c0
  have r1 := hQn.c1
  have r2 := hQn.c2
  clear hD4 hb4 hb4' hAn H3 hQ hQ' hQn
  go_wp2_with fail
  go_ret
  exact ⟨rfl, H4.out⟩
end Go.Proofs.Ytdbccemllaehjaa.PG
