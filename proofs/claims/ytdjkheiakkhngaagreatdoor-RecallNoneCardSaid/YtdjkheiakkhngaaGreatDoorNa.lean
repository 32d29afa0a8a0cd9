/- RecallNone: what isn't there, the limits; the law. -/
import Derived.Test.YtdjkheiakkhngaaGreatDoorRAw
import Derived.Laws.ResultCell
namespace Go.Proofs.YtdjkheiakkhngaaGreatDoor.NN
open Go.RowKit Go.Proofs.YtdjkheiakkhngaaGreatDoorKw Go.Proofs.YtdjkheiakkhngaaGreatDoor.AW
set_option linter.unusedVariables false
set_option linter.unusedSimpArgs false
theorem put_nil (w : World) (k : Int) (s : ByteArray) : Calls Tryz.prog 4 #[.pointer none, .int .i64 k, .string s] w fun e w' => e = .returned (.tuple #[]) ∧ w' = w := by
  go_enter Tryz.func4, Tryz.ntmps4
  go_wp2_with fail
  exact bodyPost_ret (results_none rfl _ _ _) rfl ⟨rfl, rfl⟩
theorem get_nil (w : World) (k : Int) : Calls Tryz.prog 5 #[.pointer none, .int .i64 k] w fun e w' => e = .returned (.tuple #[.string ⟨#[]⟩, .bool false]) ∧ Below w.heap.size w w' := by
  have hb := below_alloc (Below.refl w.heap.size w) (.cells #[.string ⟨#[]⟩] 9)
  go_enter Tryz.func5, Tryz.ntmps5
  go_wp2_with fail
  go_ret2
  exact ⟨rfl, hb⟩
theorem drop_nil (w : World) (f : Value) : Calls Tryz.prog 6 #[.pointer none, f] w fun e w' => e = .returned (.int .i64 0) ∧ w' = w := by
  go_enter Tryz.func6, Tryz.ntmps6
  go_wp2_with fail
  go_ret
  exact ⟨rfl, rfl⟩
theorem len_nil (w : World) : Calls Tryz.prog 8 #[.pointer none] w fun e w' => e = .returned (.int .i64 0) ∧ w' = w := by
  go_enter Tryz.func8, Tryz.ntmps8
  go_wp2_with fail
  go_ret
  exact ⟨rfl, rfl⟩
theorem keys_nil (w : World) : Calls Tryz.prog 9 #[.pointer none] w fun e w' => e = .returned (.slice none 0 0) ∧ w' = w := by
  go_enter Tryz.func9, Tryz.ntmps9
  go_wp2_with fail
  go_ret
  exact ⟨rfl, rfl⟩
theorem new_low (w : World) : Calls Tryz.prog 10 #[.int .i64 0] w fun e w' => e = .returned (.tuple #[.pointer none, .int .i64 2]) ∧ w' = w := by
  go_enter Tryz.func10, Tryz.ntmps10
  go_wp2_with fail
  go_ret2
  exact ⟨rfl, rfl⟩
set_option maxRecDepth 100000 in
theorem new_high (w : World) : Calls Tryz.prog 10 #[.int .i64 4097] w fun e w' => e = .returned (.tuple #[.pointer none, .int .i64 2]) ∧ w' = w := by
  go_enter Tryz.func10, Tryz.ntmps10
  go_wp2_with fail
  go_ret2
  exact ⟨rfl, rfl⟩
set_option maxRecDepth 100000 in
theorem drop_nofunc (w : World) (b : Nat) : Calls Tryz.prog 12 #[.pointer (some ⟨b, 0, none⟩), .nilFunc] w fun e w' => e = .returned (.int .i64 0) ∧ w' = w := by
  have kf : ∀ w, (binOp .eql 72 .nilFunc .nilFunc).run Tryz.prog w = .ok (.bool true) w := fun w => by kernel_rfl
  go_enter Tryz.func12, Tryz.ntmps12
  go_wp2_with fail
  go_ret
  exact ⟨rfl, rfl⟩
theorem over_nil (w : World) (most : Int) : Calls Tryz.prog 14 #[.pointer none, .int .i64 most] w fun e w' => e = .returned (.tuple #[.pointer none, .int .i64 1]) ∧ w' = w := by
  go_enter Tryz.func14, Tryz.ntmps14
  go_wp2_with fail
  go_ret2
  exact ⟨rfl, rfl⟩
theorem tally_nil (w : World) : Calls Tryz.prog 16 #[.pointer none] w fun e w' => e = .returned (.tuple #[.int .i64 0, .int .i64 0]) ∧ w' = w := by
  go_enter Tryz.func16, Tryz.ntmps16
  go_wp2_with fail
  go_ret2
  exact ⟨rfl, rfl⟩
theorem ret_verdict {fn : Func} (hf : fn.results = #[.cell 6 41, .tmp 7]) {w : World} {b : Nat} {x y : Value} {z : Value} (h0 : w.cell? ⟨b, 0, none⟩ = some x) (h1 : w.cell? ⟨b, 1, none⟩ = some y) (h2 : w.cell? ⟨b, 2, none⟩ = some z) (tmps : Array Value) (u : Value) (ht : tmps.getD 6 undef = .pointer (some ⟨b, 0, none⟩)) (hu : tmps.getD 7 undef = u) :
    (results fn tmps).run Tryz.prog w = .ok (.tuple #[.agg #[x, y, z], u]) w := by
  rw [results_cell_tmp hf, ht, hu]
  go_simp
set_option maxRecDepth 100000 in
theorem ask_nil (w : World) (rev : Int) : Calls Tryz.prog 15 #[.pointer none, .int .i64 rev, .agg #[.string ⟨#[]⟩, .string ⟨#[]⟩, .string ⟨#[]⟩, .string ⟨#[]⟩, .string ⟨#[]⟩, .string ⟨#[]⟩, .slice none 0 0, .int .i64 0]] w fun e w' => e = .returned (.tuple #[.agg #[.bool false, .int .i64 0, .int .i64 1], .int .i64 1]) ∧ Below w.heap.size w w' := by
  go_enter Tryz.func15, Tryz.ntmps15
  go_wp2_with fail
  have hn := heap_alloc_new (w.alloc (.cells #[.string ⟨#[]⟩, .string ⟨#[]⟩, .string ⟨#[]⟩, .string ⟨#[]⟩, .string ⟨#[]⟩, .string ⟨#[]⟩, .slice none 0 0, .int .i64 0] 50)) (.cells #[.bool false, .int .i64 0, .int .i64 1] 41)
  rw [show (w.alloc (.cells #[.string ⟨#[]⟩, .string ⟨#[]⟩, .string ⟨#[]⟩, .string ⟨#[]⟩, .string ⟨#[]⟩, .string ⟨#[]⟩, .slice none 0 0, .int .i64 0] 50)).heap.size = w.heap.size + 1 by simp] at hn
  refine bodyPost_ret (ret_verdict rfl (x := .bool false) (y := .int .i64 0) (z := .int .i64 1) (b := w.heap.size + 1) ?_ ?_ ?_ _ _ rfl rfl) rfl ⟨rfl, below_alloc (below_alloc (Below.refl _ _) _) _⟩
  · simp only [World.cell?, hn]; rfl
  · simp only [World.cell?, hn]; rfl
  · simp only [World.cell?, hn]; rfl
set_option maxHeartbeats 4000000 in
set_option maxRecDepth 100000 in
theorem law_calls (w : World) (key most rev : Int) : Calls Tryz.prog 3 #[.int .i64 key, .int .i64 most, .int .i64 rev] w fun e w' => e = .returned (.bool true) ∧ Below w.heap.size w w' := by
  go_enter Tryz.func3, Tryz.ntmps3
  go_wp2_with fail
  refine (put_nil w key ⟨#[97]⟩).mono ?_
  rintro e w1 ⟨rfl, rfl⟩
  go_wp2_with fail
  refine (get_nil w1 key).mono ?_
  rintro e w2 ⟨rfl, hb2⟩
  go_wp2_with fail
  refine (drop_nil w2 _).mono ?_
  rintro e w3 ⟨rfl, rfl⟩
  go_wp2_with fail
  refine (len_nil _).mono ?_
  rintro e w4 ⟨rfl, rfl⟩
  go_wp2_with fail
  refine (keys_nil _).mono ?_
  rintro e w5 ⟨rfl, rfl⟩
  go_wp2_with fail
  refine (new_low _).mono ?_
  rintro e w6 ⟨rfl, rfl⟩
  go_wp2_with fail
  refine (new_at 4096 (by omega) (by omega) w6).mono ?_
  rintro e w7 ⟨rfl, h7⟩
  go_wp2_with fail
  refine (new_high _).mono ?_
  rintro e w8 ⟨rfl, rfl⟩
  have h8 := h7.other (Below.refl _ _)
  clear h7
  go_wp2_with fail
  refine (h8.put (by omega) (by omega) sA 1).mono ?_
  rintro e w9 ⟨rfl, L9, h9⟩
  have e9 : Cb.putS 4096 [] sA (.int .i64 1) = [(sA, .int .i64 1)] := by rfl
  rw [e9] at h9
  clear e9 h8
  go_wp2_with fail
  refine (drop_nofunc _ _).mono ?_
  rintro e w10 ⟨rfl, rfl⟩
  go_wp2_with fail
  refine h9.len_.mono ?_
  rintro e w11 ⟨rfl, rfl⟩
  go_wp2_with fail
  refine (over_nil _ most).mono ?_
  rintro e w12 ⟨rfl, rfl⟩
  go_wp2_with fail
  refine (ask_nil _ rev).mono ?_
  rintro e w13 ⟨rfl, hb13⟩
  go_wp2_with fail
  refine (tally_nil _).mono ?_
  rintro e w14 ⟨rfl, rfl⟩
  go_wp2_with fail
  have H1 := Lib.hid (And.intro hb2 (And.intro h9.below hb13))
  clear hb2 h9 hb13
  refine (awake_calls _).mono ?_
  rintro e w15 ⟨rfl, hb15⟩
  have H2 := Lib.hid hb15
  clear hb15
  go_wp2_with fail
  go_ret
  obtain ⟨k1, k2, k3⟩ := H1.out
  have k4 := below_then k1 k1.size k2
  have k5 := below_then k4 k4.size k3
  have k6 := k5.alloc k5.size (.cells #[.bool false, .int .i64 0, .int .i64 1] 41)
  exact ⟨rfl, below_then k6 k6.size H2.out⟩
end Go.Proofs.YtdjkheiakkhngaaGreatDoor.NN
