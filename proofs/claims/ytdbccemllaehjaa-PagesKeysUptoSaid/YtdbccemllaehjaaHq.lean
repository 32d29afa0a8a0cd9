/- SameReal, SameValue, SameArg, KeptArg, walked. -/
import Derived.Test.YtdbccemllaehjaaHp
import Derived.Test.YtdbccemllaehjaaPcB
namespace Go.Proofs.Ytdbccemllaehjaa.PK
open Go.RowKit Go.Proofs.YtdbccemllaehjaaKw Go.Proofs.YtdbccemllaehjaaHa Go.Proofs.YtdbccemllaehjaaGa Go.Proofs.Ytdbccemllaehjaa.PG
set_option linter.unusedVariables false
set_option linter.unusedSimpArgs false
theorem samereal_calls (w : World) (x : Nat) (hx : x < 4294967296) : Calls Try.prog 128 #[.float .f32 x, .float .f32 x] w fun e w' => e = .returned (.bool true) ∧ w' = w := by
  have hb := fun w => run_bits x w
  have hI : (x : Int) ≤ 4294967295 := by omega
  clear hx
  go_enter Try.func128, Try.ntmps128
  go_wp2_with fail
  go_ret
  exact ⟨rfl, rfl⟩
set_option maxHeartbeats 4000000 in
set_option maxRecDepth 100000 in
theorem samevalue_calls (w : World) (kd : Int) (b : Bool) (n : Int) (x : Nat) (t : ByteArray) (A1 A2 : Option Addr) (c1 c2 : Nat) (ss : List ByteArray) (hx : x < 4294967296) (h1 : Rd w A1 (PC.strs ss)) (h2 : Rd w A2 (PC.strs ss)) (hl : ss.length ≤ 140737488351232) :
    Calls Try.prog 132 #[.agg #[.int .i64 kd, .bool b, .int .i64 n, .float .f32 x, .string t, .slice A1 ss.length c1], .agg #[.int .i64 kd, .bool b, .int .i64 n, .float .f32 x, .string t, .slice A2 ss.length c2]] w fun e w' => e = .returned (.bool true) ∧ Below w.heap.size w w' := by
  have hb1 := below_alloc (below_alloc (Below.refl w.heap.size w) (.cells #[.int .i64 kd, .bool b, .int .i64 n, .float .f32 x, .string t, .slice A1 ss.length c1] 147)) (.cells #[.int .i64 kd, .bool b, .int .i64 n, .float .f32 x, .string t, .slice A2 ss.length c2] 147)
  have hr := fun w => samereal_calls w x hx
  have HH := Lib.hid (And.intro hb1 (And.intro (h1.keep hb1) (And.intro (h2.keep hb1) hr)))
  clear hb1 h1 h2 hr hx
  obtain ⟨fe, hfe⟩ : ∃ fe, (FloatKind.f32.format.order x x == some Ordering.eq) = fe := ⟨_, rfl⟩
  obtain ⟨d, hd⟩ : ∃ d, (kd != 3) = d := ⟨_, rfl⟩
  cases d <;> cases fe
  all_goals
    go_enter Try.func132, Try.ntmps132
    go_wp2_with fail
    try (refine (HH.out.2.2.2 _).mono ?_; rintro e w1 ⟨rfl, rfl⟩; go_wp2_with fail)
    refine (PC.same_calls A1 A2 c1 c2 ss _ HH.out.2.1 HH.out.2.2.1 hl).mono ?_
    rintro e w2 ⟨rfl, hb2⟩
    have H2 := Lib.hid (below_then HH.out.1 HH.out.1.size hb2)
    clear hb2
    go_wp2_with fail
    go_ret
    exact ⟨rfl, H2.out⟩
/-- The texts of two values, read twice. -/
theorem toL_self (t : ByteArray) : (t.toList == t.toList) = true := by simp
set_option maxHeartbeats 4000000 in
set_option maxRecDepth 100000 in
theorem samearg_calls (w : World) (nm : ByteArray) (kd : Int) (b : Bool) (n : Int) (x : Nat) (t : ByteArray) (A1 A2 : Option Addr) (c1 c2 : Nat) (ss : List ByteArray) (hx : x < 4294967296) (h1 : Rd w A1 (PC.strs ss)) (h2 : Rd w A2 (PC.strs ss)) (hl : ss.length ≤ 140737488351232) :
    Calls Try.prog 127 #[.agg #[.string nm, .int .i64 kd, .bool b, .int .i64 n, .float .f32 x, .string t, .slice A1 ss.length c1], .agg #[.string nm, .int .i64 kd, .bool b, .int .i64 n, .float .f32 x, .string t, .slice A2 ss.length c2]] w fun e w' => e = .returned (.bool true) ∧ Below w.heap.size w w' := by
  have hb1 := below_alloc (below_alloc (Below.refl w.heap.size w) (.cells #[.string nm, .int .i64 kd, .bool b, .int .i64 n, .float .f32 x, .string t, .slice A1 ss.length c1] 149)) (.cells #[.string nm, .int .i64 kd, .bool b, .int .i64 n, .float .f32 x, .string t, .slice A2 ss.length c2] 149)
  have HH := Lib.hid (And.intro hb1 (And.intro (h1.keep hb1) (And.intro (h2.keep hb1) hx)))
  clear hb1 h1 h2 hx
  go_enter Try.func127, Try.ntmps127
  go_wp2_with fail
  refine (samevalue_calls _ kd b n x t A1 A2 c1 c2 ss HH.out.2.2.2 HH.out.2.1 HH.out.2.2.1 hl).mono ?_
  rintro e w2 ⟨rfl, hb2⟩
  have H2 := Lib.hid (below_then HH.out.1 HH.out.1.size hb2)
  clear hb2
  go_wp2_with fail
  go_ret
  exact ⟨rfl, H2.out⟩
theorem strs_app_take {A : Option Addr} {w : World} {ss ts : List ByteArray} (h : Rd w A (PC.strs (ss ++ ts))) : Rd w A (PC.strs ss) := by
  have := h.take ss.length
  rwa [PC.strs_pre] at this
set_option maxHeartbeats 4000000 in
set_option maxRecDepth 100000 in
/-- x: the copy that was lent; y: what came in. -/
theorem keptarg_calls (w : World) (nm : ByteArray) (kd : Int) (b : Bool) (n : Int) (x : Nat) (t : ByteArray) (A1 A2 : Option Addr) (c1 c2 : Nat) (ss : List ByteArray) (hx : x < 4294967296) (h1 : Rd w A1 (PC.strs (ss ++ PC.marks 24))) (h2 : Rd w A2 (PC.strs ss)) (hc : ss.length + 24 ≤ c1) (hcm : c1 ≤ 9223372036854775807) (hl : ss.length ≤ 140737488351232) :
    Calls Try.prog 110 #[.agg #[.string nm, .int .i64 kd, .bool b, .int .i64 n, .float .f32 x, .string t, .slice A1 ss.length c1], .agg #[.string nm, .int .i64 kd, .bool b, .int .i64 n, .float .f32 x, .string t, .slice A2 ss.length c2]] w fun e w' => e = .returned (.bool true) ∧ Below w.heap.size w w' := by
  have hb1 := below_alloc (below_alloc (Below.refl w.heap.size w) (.cells #[.string nm, .int .i64 kd, .bool b, .int .i64 n, .float .f32 x, .string t, .slice A1 ss.length c1] 149)) (.cells #[.string nm, .int .i64 kd, .bool b, .int .i64 n, .float .f32 x, .string t, .slice A2 ss.length c2] 149)
  have hg1 := (GAt.new w (nm, ⟨kd, b, n, x, t, A1, c1, ss⟩))
  have hg2 := (GAt.new (w.alloc (.cells #[.string nm, .int .i64 kd, .bool b, .int .i64 n, .float .f32 x, .string t, .slice A1 ss.length c1] 149)) (nm, ⟨kd, b, n, x, t, A2, c2, ss⟩))
  have hg1' := hg1.keep (below_alloc (Below.refl (w.alloc (.cells #[.string nm, .int .i64 kd, .bool b, .int .i64 n, .float .f32 x, .string t, .slice A1 ss.length c1] 149)).heap.size _) (.cells #[.string nm, .int .i64 kd, .bool b, .int .i64 n, .float .f32 x, .string t, .slice A2 ss.length c2] 149)) (by simp)
  have e1 : (w.alloc (.cells #[.string nm, .int .i64 kd, .bool b, .int .i64 n, .float .f32 x, .string t, .slice A1 ss.length c1] 149)).heap.size = w.heap.size + 1 := by simp
  rw [e1] at hg2
  have hsz : ((w.alloc (.cells #[.string nm, .int .i64 kd, .bool b, .int .i64 n, .float .f32 x, .string t, .slice A1 ss.length c1] 149)).alloc (.cells #[.string nm, .int .i64 kd, .bool b, .int .i64 n, .float .f32 x, .string t, .slice A2 ss.length c2] 149)).heap.size = w.heap.size + 2 := by simp
  have HH := Lib.hid (And.intro hb1 (And.intro (h1.keep hb1) (And.intro (h2.keep hb1) (And.intro hx (And.intro hg1' (And.intro hg2 hsz))))))
  clear hb1 h1 h2 hx hg1 hg2 hg1' e1 hsz
  go_enter Try.func110, Try.ntmps110
  go_wp2_with fail
  generalize (w.alloc (.cells #[.string nm, .int .i64 kd, .bool b, .int .i64 n, .float .f32 x, .string t, .slice A1 ss.length c1] 149)).alloc (.cells #[.string nm, .int .i64 kd, .bool b, .int .i64 n, .float .f32 x, .string t, .slice A2 ss.length c2] 149) = W1 at *
  refine (samearg_calls W1 nm kd b n x t A1 A2 c1 c2 ss HH.out.2.2.2.1 (strs_app_take HH.out.2.1) HH.out.2.2.1 hl).mono ?_
  rintro e w2 ⟨rfl, hb2⟩
  obtain ⟨hw, hr1, hr2, hx, hg1, hg2, hsz⟩ := HH.out
  have k1 := hg1.keep hb2 (by omega)
  have k2 := hg2.keep hb2 (by omega)
  have q3 : w2.cell? ⟨w.heap.size, 4, none⟩ = some (.float .f32 x) := k1.v.c3
  have q5 : w2.cell? ⟨w.heap.size, 6, none⟩ = some (.slice A1 ss.length c1) := k1.v.c5
  have r3 : w2.cell? ⟨w.heap.size + 1, 4, none⟩ = some (.float .f32 x) := k2.v.c3
  have r5 : w2.cell? ⟨w.heap.size + 1, 6, none⟩ = some (.slice A2 ss.length c2) := k2.v.c5
  have H2 := Lib.hid (And.intro (below_then hw hw.size hb2) (And.intro (hr1.keep hb2) (And.intro (hr2.keep hb2) (And.intro hw.size hb2.size))))
  have hs := samereal_calls w2 x hx
  clear hw hr1 hr2 hg1 hg2 hsz k1 k2 hb2 hx HH
  go_wp2_with fail
  refine hs.mono ?_
  rintro e w3 ⟨rfl, rfl⟩
  clear hs
  go_wp2_with fail
  refine (PC.kept_calls A1 A2 c1 c2 ss w3 H2.out.2.1 H2.out.2.2.1 hc hcm (by omega)).mono ?_
  rintro e w4 ⟨rfl, hb4⟩
  have H4 := Lib.hid (below_then H2.out.1 (Nat.le_trans H2.out.2.2.2.1 H2.out.2.2.2.2) hb4)
  clear hb4 q3 q5 r3 r5
  go_wp2_with fail
  go_ret
  exact ⟨rfl, H4.out⟩
end Go.Proofs.Ytdbccemllaehjaa.PK
