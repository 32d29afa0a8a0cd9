/- Questions, as they lie in memory; the heads of their keys, walked. -/
import Derived.Test.YtdbccemllaehjaaHk
import Derived.Handy
namespace Go.Proofs.Ytdbccemllaehjaa.PK
open Go.RowKit Go.Proofs.YtdbccemllaehjaaKw Go.Proofs.YtdbccemllaehjaaHa Go.Proofs.YtdbccemllaehjaaGa Go.Proofs.Ytdbccemllaehjaa.PG
set_option linter.unusedVariables false
set_option linter.unusedSimpArgs false
/-- A question: its texts, its arguments, its budget. -/
structure AA where
  T : ByteArray
  R : ByteArray
  st : ByteArray
  si : ByteArray
  sr : ByteArray
  ot : ByteArray
  oi : ByteArray
  A : Option Addr
  c : Nat
  xs : List (ByteArray × VV)
  bud : Int
def AA.cells (a : AA) : Array Value := #[.string a.T, .string a.R, .string a.st, .string a.si, .string a.sr, .string a.ot, .string a.oi, .slice a.A a.xs.length a.c, .int .i64 a.bud]
def AA.agg (a : AA) : Value := .agg #[.string a.T, .string a.R, .string a.st, .string a.si, .string a.sr, .string a.ot, .string a.oi, .slice a.A a.xs.length a.c, .int .i64 a.bud]
/-- Its texts are not great. -/
def AA.small (a : AA) : Prop := a.T.size ≤ 1048576 ∧ a.R.size ≤ 1048576 ∧ a.st.size ≤ 1048576 ∧ a.si.size ≤ 1048576 ∧ a.sr.size ≤ 1048576 ∧ a.ot.size ≤ 1048576 ∧ a.oi.size ≤ 1048576
/-- Its cells. -/
structure AAt (w : World) (b : Nat) (a : AA) : Prop where
  c0 : w.cell? ⟨b, 0, none⟩ = some (.string a.T)
  c1 : w.cell? ⟨b, 1, none⟩ = some (.string a.R)
  c2 : w.cell? ⟨b, 2, none⟩ = some (.string a.st)
  c3 : w.cell? ⟨b, 3, none⟩ = some (.string a.si)
  c4 : w.cell? ⟨b, 4, none⟩ = some (.string a.sr)
  c5 : w.cell? ⟨b, 5, none⟩ = some (.string a.ot)
  c6 : w.cell? ⟨b, 6, none⟩ = some (.string a.oi)
  c7 : w.cell? ⟨b, 7, none⟩ = some (.slice a.A a.xs.length a.c)
  c8 : w.cell? ⟨b, 8, none⟩ = some (.int .i64 a.bud)
theorem AAt.all {w w' : World} {b : Nat} {a : AA} (h : AAt w b a) (hc : ∀ j, w'.cell? ⟨b, j, none⟩ = w.cell? ⟨b, j, none⟩) : AAt w' b a :=
  ⟨(hc 0).trans h.c0, (hc 1).trans h.c1, (hc 2).trans h.c2, (hc 3).trans h.c3, (hc 4).trans h.c4, (hc 5).trans h.c5, (hc 6).trans h.c6, (hc 7).trans h.c7, (hc 8).trans h.c8⟩
theorem AAt.keep {w w' : World} {b B : Nat} {a : AA} (h : AAt w b a) (hb : Below B w w') (hB : b < B) : AAt w' b a := h.all fun j => hb.cell (p := ⟨b, j, none⟩) hB
theorem AAt.tch {w w' : World} {b : Nat} {S : Nat → Prop} {a : AA} (h : AAt w b a) (ht : Tch S w w') (hB : b < w.heap.size) (hS : ¬ S b) : AAt w' b a := h.all fun j => World.cell?_of_block (a := ⟨b, j, none⟩) (ht.block b hB hS)
theorem AAt.new (w : World) (a : AA) : AAt (w.alloc (.cells a.cells 80)) w.heap.size a := by
  have hnew := heap_alloc_new w (.cells a.cells 80)
  refine ⟨?_, ?_, ?_, ?_, ?_, ?_, ?_, ?_, ?_⟩ <;> (simp only [World.cell?, hnew]; rfl)
theorem tch_below {w w' : World} {B : Nat} (h : Tch (fun q => q = B) w w') (hB : B ≤ w.heap.size) : Below B w w' :=
  ⟨h.os, h.tape, h.output, h.size, fun k hk => h.block k (by omega) (by omega)⟩
/-- The heads of the keys. -/
def headO (a : AA) : List Nat := [1] ++ textB (nums a.T) ++ textB (nums a.R) ++ textB (nums a.st) ++ textB (nums a.si) ++ textB (nums a.sr)
def headS (a : AA) : List Nat := [2] ++ textB (nums a.T) ++ textB (nums a.R) ++ textB (nums a.ot) ++ textB (nums a.oi)
theorem tlen {s : ByteArray} (h : s.size ≤ 1048576) : (textB (nums s)).length ≤ 1048586 := by
  unfold textB
  rw [List.length_append, nums_len]
  have := (uintB_64 (show s.size < 18446744073709551616 by omega)).2
  omega
set_option maxHeartbeats 1000000 in
set_option maxRecDepth 100000 in
theorem put0_calls (w : World) (wb : Nat) (ys : List Nat) (A : Option Addr) (m c : Nat) (h : WS w wb []) (h1 : w.cell? ⟨wb, 0, none⟩ = some (.slice none 0 0)) (hs : Sl w A m c (bvs ys)) (hl : ys.length ≤ 140737488355328) :
    Calls Try.prog 113 #[.pointer (some ⟨wb, 0, none⟩), .slice A m c] w fun e w' => e = .returned (.tuple #[]) ∧ WS w' wb ys ∧ Tch (fun q => q = wb) w w' := by
  have hfz := h.fz
  have hlt := h.lt
  have hm : m = ys.length := by rw [hs.1, bvs_len]
  have hown := World.ownsRow_nil w (wb + 1) 5 1
  have HN := Lib.hid (World.ownsRow_nil w (wb + 1) 5 1)
  clear h hown
  go_enter Try.func113, Try.ntmps113
  have hne : some wb ≠ (Value.slice none 0 0).ownBlock := fun e => by cases e
  go_wp2_with (at_builtin; go_loud (refine app_sl HN.out hs (.tmp 8) (.tmp 9) 141 _ _ Try.underlying141 info5 (by rw [hm]; omega) (by decide) (by omega) rfl rfl rfl rfl rfl (bvs_one ys) ?_); intro v1 w1 ho1 hg hat; have q1 := (hg.block wb hlt hne); have q2 : w1.cell? ⟨wb, 0, none⟩ = some (.slice none 0 0) := (World.cell?_of_block (a := ⟨wb, 0, none⟩) q1).trans h1; have q3 := (World.frozen?_of_block (a := ⟨wb, 0, none⟩) q1).trans hfz; obtain ⟨A1, c1, rfl, _, _⟩ := own_form ho1; have hk := Lib.hid (And.intro ho1 (And.intro hg hat)); clear ho1 hg hat)
  go_end0
  obtain ⟨ho1, hg, hat⟩ := hk.out
  subst hm
  simp only [Nat.zero_add] at *
  have hset := Ap.setCell_tch w1 ⟨wb, 0, none⟩ (.slice A1 ys.length c1) (fun q => q = wb) rfl
  refine ⟨trivial, ⟨⟨_, World.cell?_setCell_same w1 _ _ q2, ?_⟩, (World.frozen?_setCell _ _ _ _).trans q3⟩, ?_⟩
  · have := Ap.own_tchS ho1 hset (fun g hg e => by have := own_base ho1 g hg; omega)
    simpa using this
  · exact ⟨hset.os.trans hg.os, hset.tape.trans hg.tape, hset.output.trans hg.output, Nat.le_trans hg.size hset.size, fun k hk hn => (hset.block k (by have := hg.size; omega) hn).trans (hg.block k hk (by intro e; cases e))⟩
set_option maxHeartbeats 1000000 in
set_option maxRecDepth 100000 in
theorem byte0_calls (w : World) (wb : Nat) (x : Nat) (hx : x < 256) (h : WS w wb []) (hz : w.cell? ⟨wb, 0, none⟩ = some (.slice none 0 0)) :
    Calls Try.prog 90 #[.pointer (some ⟨wb, 0, none⟩), .int .u8 (x : Int)] w fun e w' => e = .returned (.tuple #[]) ∧ WS w' wb [x] ∧ Tch (fun q => q = wb) w w' := by
  have hb0 := below_alloc (Below.refl w.heap.size w) (.cells #[.int .u8 (x : Int)] 5)
  have hlt := h.lt
  have HH := Lib.hid (And.intro h (And.intro hb0 hz))
  clear h hb0 hz
  go_enter Try.func90, Try.ntmps90
  go_wp2_with fail
  refine (put0_calls _ wb [x] _ 1 1 (HH.out.1.keep HH.out.2.1) ((HH.out.2.1.cell (p := ⟨wb, 0, none⟩) hlt).trans HH.out.2.2) (sl_one w x) (by simp)).mono ?_
  rintro e w1 ⟨rfl, h1, ht⟩
  have H1 := Lib.hid (And.intro h1 ht)
  clear h1 ht
  go_wp2_with fail
  go_end0
  refine ⟨rfl, H1.out.1, ?_⟩
  have ht := H1.out.2
  have hb := HH.out.2.1
  exact ⟨ht.os.trans hb.os, ht.tape.trans hb.tape, ht.output.trans hb.output, Nat.le_trans hb.size ht.size, fun k hk hn => (ht.block k (by have := hb.size; omega) hn).trans (hb.block k hk)⟩
theorem idx223_0 (s0 s1 s2 s3 s4 : ByteArray) (w : World) : (Instr.index 223 (.agg #[.string s0, .string s1, .string s2, .string s3, .string s4]) (.int .i64 0)).run Try.prog w = .ok (.string s0) w := by kernel_rfl
theorem idx223_1 (s0 s1 s2 s3 s4 : ByteArray) (w : World) : (Instr.index 223 (.agg #[.string s0, .string s1, .string s2, .string s3, .string s4]) (.int .i64 1)).run Try.prog w = .ok (.string s1) w := by kernel_rfl
theorem idx223_2 (s0 s1 s2 s3 s4 : ByteArray) (w : World) : (Instr.index 223 (.agg #[.string s0, .string s1, .string s2, .string s3, .string s4]) (.int .i64 2)).run Try.prog w = .ok (.string s2) w := by kernel_rfl
theorem idx223_3 (s0 s1 s2 s3 s4 : ByteArray) (w : World) : (Instr.index 223 (.agg #[.string s0, .string s1, .string s2, .string s3, .string s4]) (.int .i64 3)).run Try.prog w = .ok (.string s3) w := by kernel_rfl
theorem idx223_4 (s0 s1 s2 s3 s4 : ByteArray) (w : World) : (Instr.index 223 (.agg #[.string s0, .string s1, .string s2, .string s3, .string s4]) (.int .i64 4)).run Try.prog w = .ok (.string s4) w := by kernel_rfl
set_option maxHeartbeats 4000000 in
set_option maxRecDepth 100000 in
theorem heado_calls (w : World) (wb : Nat) (a : AA) (h : WS w wb []) (hz : w.cell? ⟨wb, 0, none⟩ = some (.slice none 0 0)) (hs : a.small) :
    Calls Try.prog 154 #[.agg #[], .pointer (some ⟨wb, 0, none⟩), a.agg] w fun e w' => e = .returned (.tuple #[]) ∧ WS w' wb (headO a) ∧ Below wb w w' := by
  obtain ⟨T, R, st, si, sr, ot, oi, A, c, xs, bud⟩ := a
  obtain ⟨s1, s2, s3, s4, s5, s6, s7⟩ := hs
  simp only [AA.agg] at *
  have m1 := tlen s1
  have m2 := tlen s2
  have m3 := tlen s3
  have m4 := tlen s4
  have m5 := tlen s5
  have HM := Lib.hid (And.intro m1 (And.intro m2 (And.intro m3 (And.intro m4 m5))))
  clear m1 m2 m3 m4 m5
  have hlt := h.lt
  have hb0 := below_alloc (below_alloc (Below.refl w.heap.size w) (.cells #[] 139)) (.cells #[.string T, .string R, .string st, .string si, .string sr, .string ot, .string oi, .slice A xs.length c, .int .i64 bud] 80)
  have hsz : ((w.alloc (.cells #[] 139)).alloc (.cells #[.string T, .string R, .string st, .string si, .string sr, .string ot, .string oi, .slice A xs.length c, .int .i64 bud] 80)).heap.size = w.heap.size + 2 := by simp
  have hS0 := h.keep hb0
  have hz0 := (hb0.cell (p := ⟨wb, 0, none⟩) hlt).trans hz
  have hat := AAt.new (w.alloc (.cells #[] 139)) ⟨T, R, st, si, sr, ot, oi, A, c, xs, bud⟩
  have hab : (w.alloc (.cells #[] 139)).heap.size = w.heap.size + 1 := by simp
  rw [hab] at hat
  have HH := Lib.hid (And.intro hS0 (And.intro hz0 (And.intro hat (And.intro hb0 hsz))))
  clear h hb0 hS0 hz0 hat hsz hz hab
  go_enter Try.func154, Try.ntmps154
  go_wp2_with fail
  obtain ⟨W0, hW0⟩ : ∃ W0, W0 = (w.alloc (.cells #[] 139)).alloc (.cells #[.string T, .string R, .string st, .string si, .string sr, .string ot, .string oi, .slice A xs.length c, .int .i64 bud] 80) := ⟨_, rfl⟩
  have HH2 := HH.out
  simp only [AA.agg, AA.cells] at HH2
  rw [← hW0] at HH2 ⊢
  have HH := Lib.hid HH2
  clear HH2 hW0
  refine (byte0_calls W0 wb 1 (by omega) HH.out.1 HH.out.2.1).mono ?_
  rintro e w1 ⟨rfl, hS1, ht1⟩
  have hat1 := HH.out.2.2.1.tch ht1 (by have := HH.out.2.2.2.2; omega) (by omega)
  have hB1 := HH.out.2.2.2.1.mono (Nat.le_of_lt hlt) |>.trans (tch_below ht1 (by have := HH.out.2.2.2.2; omega))
  have p0 := hat1.c0
  have p1 := hat1.c1
  have p2 := hat1.c2
  have p3 := hat1.c3
  have p4 := hat1.c4
  simp only [AA.T, AA.R, AA.st, AA.si, AA.sr, AA.ot, AA.oi] at p0 p1 p2 p3 p4
  have H1 := Lib.hid (And.intro hS1 hB1)
  clear HH hS1 hB1 ht1 hat1
  go_wp2_with fail
  go_loopw [24] (fun s wr => ((s = .int .i64 0 ∧ WS wr wb ([1])) ∨ (s = .int .i64 1 ∧ WS wr wb ([1] ++ textB (nums T))) ∨ (s = .int .i64 2 ∧ WS wr wb ([1] ++ textB (nums T) ++ textB (nums R))) ∨ (s = .int .i64 3 ∧ WS wr wb ([1] ++ textB (nums T) ++ textB (nums R) ++ textB (nums st))) ∨ (s = .int .i64 4 ∧ WS wr wb ([1] ++ textB (nums T) ++ textB (nums R) ++ textB (nums st) ++ textB (nums si))) ∨ (s = .int .i64 5 ∧ WS wr wb ([1] ++ textB (nums T) ++ textB (nums R) ++ textB (nums st) ++ textB (nums si) ++ textB (nums sr)))) ∧ Below wb w wr) (fun s _ => (5 - intOf s).toNat)
  case atStart => exact ⟨.inl ⟨rfl, H1.out.1⟩, H1.out.2⟩
  case round =>
    clear H1 p0 p1 p2 p3 p4
    obtain ⟨h, hb⟩ := hrel
    rcases h with ⟨rfl, hS⟩ | ⟨rfl, hS⟩ | ⟨rfl, hS⟩ | ⟨rfl, hS⟩ | ⟨rfl, hS⟩ | ⟨rfl, hS⟩
    · have HS := Lib.hid (And.intro hS hb)
      clear hS hb
      have ix := idx223_0 T R st si sr wr
      go_wp2_with fail
      clear ix
      refine (text_calls wr wb _ T (by unfold maxLen; omega) HS.out.1 (by have hm := HM.out; simp only [List.length_append, List.length_cons, List.length_nil]; omega)).mono ?_
      rintro e w2 ⟨rfl, hS2, hb2⟩
      have H2 := Lib.hid (And.intro hS2 (HS.out.2.trans hb2))
      clear hS2 hb2
      go_wp2_with fail
      go_roundw
      case rel => exact ⟨.inr (.inl ⟨rfl, H2.out.1⟩), H2.out.2⟩
      case measure => simp [intOf]
    · have HS := Lib.hid (And.intro hS hb)
      clear hS hb
      have ix := idx223_1 T R st si sr wr
      go_wp2_with fail
      clear ix
      refine (text_calls wr wb _ R (by unfold maxLen; omega) HS.out.1 (by have hm := HM.out; simp only [List.length_append, List.length_cons, List.length_nil]; omega)).mono ?_
      rintro e w2 ⟨rfl, hS2, hb2⟩
      have H2 := Lib.hid (And.intro hS2 (HS.out.2.trans hb2))
      clear hS2 hb2
      go_wp2_with fail
      go_roundw
      case rel => exact ⟨.inr (.inr (.inl ⟨rfl, H2.out.1⟩)), H2.out.2⟩
      case measure => simp [intOf]
    · have HS := Lib.hid (And.intro hS hb)
      clear hS hb
      have ix := idx223_2 T R st si sr wr
      go_wp2_with fail
      clear ix
      refine (text_calls wr wb _ st (by unfold maxLen; omega) HS.out.1 (by have hm := HM.out; simp only [List.length_append, List.length_cons, List.length_nil]; omega)).mono ?_
      rintro e w2 ⟨rfl, hS2, hb2⟩
      have H2 := Lib.hid (And.intro hS2 (HS.out.2.trans hb2))
      clear hS2 hb2
      go_wp2_with fail
      go_roundw
      case rel => exact ⟨.inr (.inr (.inr (.inl ⟨rfl, H2.out.1⟩))), H2.out.2⟩
      case measure => simp [intOf]
    · have HS := Lib.hid (And.intro hS hb)
      clear hS hb
      have ix := idx223_3 T R st si sr wr
      go_wp2_with fail
      clear ix
      refine (text_calls wr wb _ si (by unfold maxLen; omega) HS.out.1 (by have hm := HM.out; simp only [List.length_append, List.length_cons, List.length_nil]; omega)).mono ?_
      rintro e w2 ⟨rfl, hS2, hb2⟩
      have H2 := Lib.hid (And.intro hS2 (HS.out.2.trans hb2))
      clear hS2 hb2
      go_wp2_with fail
      go_roundw
      case rel => exact ⟨.inr (.inr (.inr (.inr (.inl ⟨rfl, H2.out.1⟩)))), H2.out.2⟩
      case measure => simp [intOf]
    · have HS := Lib.hid (And.intro hS hb)
      clear hS hb
      have ix := idx223_4 T R st si sr wr
      go_wp2_with fail
      clear ix
      refine (text_calls wr wb _ sr (by unfold maxLen; omega) HS.out.1 (by have hm := HM.out; simp only [List.length_append, List.length_cons, List.length_nil]; omega)).mono ?_
      rintro e w2 ⟨rfl, hS2, hb2⟩
      have H2 := Lib.hid (And.intro hS2 (HS.out.2.trans hb2))
      clear hS2 hb2
      go_wp2_with fail
      go_roundw
      case rel => exact ⟨.inr (.inr (.inr (.inr (.inr (⟨rfl, H2.out.1⟩))))), H2.out.2⟩
      case measure => simp [intOf]
    · have HS := Lib.hid (And.intro hS hb)
      clear hS hb
      go_wp2_with fail
      go_end0
      exact ⟨rfl, HS.out.1, HS.out.2⟩
theorem idx224_0 (s0 s1 s2 s3 : ByteArray) (w : World) : (Instr.index 224 (.agg #[.string s0, .string s1, .string s2, .string s3]) (.int .i64 0)).run Try.prog w = .ok (.string s0) w := by kernel_rfl
theorem idx224_1 (s0 s1 s2 s3 : ByteArray) (w : World) : (Instr.index 224 (.agg #[.string s0, .string s1, .string s2, .string s3]) (.int .i64 1)).run Try.prog w = .ok (.string s1) w := by kernel_rfl
theorem idx224_2 (s0 s1 s2 s3 : ByteArray) (w : World) : (Instr.index 224 (.agg #[.string s0, .string s1, .string s2, .string s3]) (.int .i64 2)).run Try.prog w = .ok (.string s2) w := by kernel_rfl
theorem idx224_3 (s0 s1 s2 s3 : ByteArray) (w : World) : (Instr.index 224 (.agg #[.string s0, .string s1, .string s2, .string s3]) (.int .i64 3)).run Try.prog w = .ok (.string s3) w := by kernel_rfl
set_option maxHeartbeats 4000000 in
set_option maxRecDepth 100000 in
theorem heads_calls (w : World) (wb : Nat) (a : AA) (h : WS w wb []) (hz : w.cell? ⟨wb, 0, none⟩ = some (.slice none 0 0)) (hs : a.small) :
    Calls Try.prog 155 #[.agg #[], .pointer (some ⟨wb, 0, none⟩), a.agg] w fun e w' => e = .returned (.tuple #[]) ∧ WS w' wb (headS a) ∧ Below wb w w' := by
  obtain ⟨T, R, st, si, sr, ot, oi, A, c, xs, bud⟩ := a
  obtain ⟨s1, s2, s3, s4, s5, s6, s7⟩ := hs
  simp only [AA.agg] at *
  have m1 := tlen s1
  have m2 := tlen s2
  have m6 := tlen s6
  have m7 := tlen s7
  have HM := Lib.hid (And.intro m1 (And.intro m2 (And.intro m6 m7)))
  clear m1 m2 m6 m7
  have hlt := h.lt
  have hb0 := below_alloc (below_alloc (Below.refl w.heap.size w) (.cells #[] 140)) (.cells #[.string T, .string R, .string st, .string si, .string sr, .string ot, .string oi, .slice A xs.length c, .int .i64 bud] 80)
  have hsz : ((w.alloc (.cells #[] 140)).alloc (.cells #[.string T, .string R, .string st, .string si, .string sr, .string ot, .string oi, .slice A xs.length c, .int .i64 bud] 80)).heap.size = w.heap.size + 2 := by simp
  have hS0 := h.keep hb0
  have hz0 := (hb0.cell (p := ⟨wb, 0, none⟩) hlt).trans hz
  have hat := AAt.new (w.alloc (.cells #[] 140)) ⟨T, R, st, si, sr, ot, oi, A, c, xs, bud⟩
  have hab : (w.alloc (.cells #[] 140)).heap.size = w.heap.size + 1 := by simp
  rw [hab] at hat
  have HH := Lib.hid (And.intro hS0 (And.intro hz0 (And.intro hat (And.intro hb0 hsz))))
  clear h hb0 hS0 hz0 hat hsz hz hab
  go_enter Try.func155, Try.ntmps155
  go_wp2_with fail
  obtain ⟨W0, hW0⟩ : ∃ W0, W0 = (w.alloc (.cells #[] 140)).alloc (.cells #[.string T, .string R, .string st, .string si, .string sr, .string ot, .string oi, .slice A xs.length c, .int .i64 bud] 80) := ⟨_, rfl⟩
  have HH2 := HH.out
  simp only [AA.agg, AA.cells] at HH2
  rw [← hW0] at HH2 ⊢
  have HH := Lib.hid HH2
  clear HH2 hW0
  refine (byte0_calls W0 wb 2 (by omega) HH.out.1 HH.out.2.1).mono ?_
  rintro e w1 ⟨rfl, hS1, ht1⟩
  have hat1 := HH.out.2.2.1.tch ht1 (by have := HH.out.2.2.2.2; omega) (by omega)
  have hB1 := HH.out.2.2.2.1.mono (Nat.le_of_lt hlt) |>.trans (tch_below ht1 (by have := HH.out.2.2.2.2; omega))
  have p0 := hat1.c0
  have p1 := hat1.c1
  have p5 := hat1.c5
  have p6 := hat1.c6
  simp only [AA.T, AA.R, AA.st, AA.si, AA.sr, AA.ot, AA.oi] at p0 p1 p5 p6
  have H1 := Lib.hid (And.intro hS1 hB1)
  clear HH hS1 hB1 ht1 hat1
  go_wp2_with fail
  go_loopw [21] (fun s wr => ((s = .int .i64 0 ∧ WS wr wb ([2])) ∨ (s = .int .i64 1 ∧ WS wr wb ([2] ++ textB (nums T))) ∨ (s = .int .i64 2 ∧ WS wr wb ([2] ++ textB (nums T) ++ textB (nums R))) ∨ (s = .int .i64 3 ∧ WS wr wb ([2] ++ textB (nums T) ++ textB (nums R) ++ textB (nums ot))) ∨ (s = .int .i64 4 ∧ WS wr wb ([2] ++ textB (nums T) ++ textB (nums R) ++ textB (nums ot) ++ textB (nums oi)))) ∧ Below wb w wr) (fun s _ => (4 - intOf s).toNat)
  case atStart => exact ⟨.inl ⟨rfl, H1.out.1⟩, H1.out.2⟩
  case round =>
    clear H1 p0 p1 p5 p6
    obtain ⟨h, hb⟩ := hrel
    rcases h with ⟨rfl, hS⟩ | ⟨rfl, hS⟩ | ⟨rfl, hS⟩ | ⟨rfl, hS⟩ | ⟨rfl, hS⟩
    · have HS := Lib.hid (And.intro hS hb)
      clear hS hb
      have ix := idx224_0 T R ot oi wr
      go_wp2_with fail
      clear ix
      refine (text_calls wr wb _ T (by unfold maxLen; omega) HS.out.1 (by have hm := HM.out; simp only [List.length_append, List.length_cons, List.length_nil]; omega)).mono ?_
      rintro e w2 ⟨rfl, hS2, hb2⟩
      have H2 := Lib.hid (And.intro hS2 (HS.out.2.trans hb2))
      clear hS2 hb2
      go_wp2_with fail
      go_roundw
      case rel => exact ⟨.inr (.inl ⟨rfl, H2.out.1⟩), H2.out.2⟩
      case measure => simp [intOf]
    · have HS := Lib.hid (And.intro hS hb)
      clear hS hb
      have ix := idx224_1 T R ot oi wr
      go_wp2_with fail
      clear ix
      refine (text_calls wr wb _ R (by unfold maxLen; omega) HS.out.1 (by have hm := HM.out; simp only [List.length_append, List.length_cons, List.length_nil]; omega)).mono ?_
      rintro e w2 ⟨rfl, hS2, hb2⟩
      have H2 := Lib.hid (And.intro hS2 (HS.out.2.trans hb2))
      clear hS2 hb2
      go_wp2_with fail
      go_roundw
      case rel => exact ⟨.inr (.inr (.inl ⟨rfl, H2.out.1⟩)), H2.out.2⟩
      case measure => simp [intOf]
    · have HS := Lib.hid (And.intro hS hb)
      clear hS hb
      have ix := idx224_2 T R ot oi wr
      go_wp2_with fail
      clear ix
      refine (text_calls wr wb _ ot (by unfold maxLen; omega) HS.out.1 (by have hm := HM.out; simp only [List.length_append, List.length_cons, List.length_nil]; omega)).mono ?_
      rintro e w2 ⟨rfl, hS2, hb2⟩
      have H2 := Lib.hid (And.intro hS2 (HS.out.2.trans hb2))
      clear hS2 hb2
      go_wp2_with fail
      go_roundw
      case rel => exact ⟨.inr (.inr (.inr (.inl ⟨rfl, H2.out.1⟩))), H2.out.2⟩
      case measure => simp [intOf]
    · have HS := Lib.hid (And.intro hS hb)
      clear hS hb
      have ix := idx224_3 T R ot oi wr
      go_wp2_with fail
      clear ix
      refine (text_calls wr wb _ oi (by unfold maxLen; omega) HS.out.1 (by have hm := HM.out; simp only [List.length_append, List.length_cons, List.length_nil]; omega)).mono ?_
      rintro e w2 ⟨rfl, hS2, hb2⟩
      have H2 := Lib.hid (And.intro hS2 (HS.out.2.trans hb2))
      clear hS2 hb2
      go_wp2_with fail
      go_roundw
      case rel => exact ⟨.inr (.inr (.inr (.inr (⟨rfl, H2.out.1⟩)))), H2.out.2⟩
      case measure => simp [intOf]
    · have HS := Lib.hid (And.intro hS hb)
      clear hS hb
      go_wp2_with fail
      go_end0
      exact ⟨rfl, HS.out.1, HS.out.2⟩
end Go.Proofs.Ytdbccemllaehjaa.PK
