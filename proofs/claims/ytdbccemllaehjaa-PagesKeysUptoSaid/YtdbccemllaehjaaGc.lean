/- The Writer of octets, walked: put, Byte, Uint, Int, Text, Bytes; and Sum. -/
import Derived.Test.YtdbccemllaehjaaProg
import Derived.Test.YtdbccemllaehjaaKw
import Derived.Test.YtdbccemllaehjaaKwAp
import Derived.Test.YtdbccemllaehjaaGb
import Derived.Lib.ConvBytes
import Derived.Lib.Hide
import Derived.Laws.AppendOwnNone
import Derived.Laws.AppendOwn
namespace Go.Proofs.Ytdbccemllaehjaa.PG
open Go.RowKit Go.Proofs.YtdbccemllaehjaaKw Go.Proofs.YtdbccemllaehjaaGa
set_option linter.unusedVariables false
set_option linter.unusedSimpArgs false

/-- Bytes, as cells. -/
def bvs (l : List Nat) : List Value := l.map fun n : Nat => .int .u8 (n : Int)
theorem bvs_len (l : List Nat) : (bvs l).length = l.length := by simp [bvs]
theorem bvs_app (l m : List Nat) : bvs (l ++ m) = bvs l ++ bvs m := by simp [bvs]
theorem bvs_one (l : List Nat) : ∀ u ∈ bvs l, u.oneCell' = true := by
  intro u hu
  obtain ⟨n, _, rfl⟩ := List.mem_map.1 hu
  rfl
theorem bvs_at (l : List Nat) {j : Nat} (hj : j < l.length) : (bvs l)[j]? = some (.int .u8 (l[j] : Nat)) := by simp [bvs, hj]
/-- A slice that is read: its cells stand one behind the other. -/
def Sl (w : World) (A : Option Addr) (m c : Nat) (ys : List Value) : Prop :=
  m = ys.length ∧ ((A = none ∧ m = 0 ∧ c = 0) ∨ ∃ b off, A = some ⟨b, off, none⟩ ∧ b < w.heap.size ∧ ∀ j u, ys[j]? = some u → w.cell? ⟨b, off + j, none⟩ = some u)
theorem Sl.rd {w : World} {A : Option Addr} {m c : Nat} {ys : List Value} (h : Sl w A m c ys) : Rd w A ys := by
  obtain ⟨h1, ⟨_, h3, _⟩ | ⟨b, off, rfl, _, h3⟩⟩ := h
  · exact .inl (List.eq_nil_of_length_eq_zero (by omega))
  · exact .inr ⟨b, off, rfl, h3⟩
theorem Sl.keep {w w1 : World} {A : Option Addr} {m c : Nat} {ys : List Value} (h : Sl w A m c ys) (hb : Below w.heap.size w w1) : Sl w1 A m c ys := by
  obtain ⟨h1, h3 | ⟨b, off, rfl, hlt, h3⟩⟩ := h
  · exact ⟨h1, .inl h3⟩
  · exact ⟨h1, .inr ⟨b, off, rfl, Nat.lt_of_lt_of_le hlt hb.size, fun j u hu => (hb.cell (p := ⟨b, off + j, none⟩) hlt).trans (h3 j u hu)⟩⟩
theorem own_sl {w : World} {base : Nat} {e : TypeId} {v : Value} {n : Nat} {xs : List Value} (h : w.ownsRow base e 1 v n xs) : ∃ A c, v = .slice A n c ∧ Sl w A n c xs := by
  obtain ⟨A, c, rfl, h1, h2⟩ := own_form h
  have hl := h.1
  refine ⟨A, c, rfl, by omega, ?_⟩
  have hlt := h.lt
  rcases h.2 with ⟨hv, rfl⟩ | ⟨g, cap, cur, hv, _⟩
  · simp only [Value.slice.injEq] at hv
    exact .inl ⟨hv.1, rfl, hv.2.2⟩
  · simp only [Value.slice.injEq] at hv
    obtain ⟨rfl, _, _⟩ := hv
    refine .inr ⟨g, 0, rfl, (hlt g rfl).2, fun j u hu => ?_⟩
    have := h.cells (g := g) rfl j u hu
    rwa [add_plain] at this
theorem info5 : (Try.prog.info? 5).map (fun i => (i.zero, i.size, i.bytes)) = some (some (.int .u8 0), 1, 1) := by kernel_rfl
section
variable {P : Program} {ops : Array Oper} {rest : List Oper} {o : Oper} {a : Act} {Q : Exit → Act → World → Prop}
/-- append(v, s...) of a slice that is read. -/
theorem app_sl {w : World} {base : Nat} {v : Value} {n m c : Nat} {e : TypeId} {xs ys : List Value} {A : Option Addr} (hown : w.ownsRow base e 1 v n xs) (hsl : Sl w A m c ys) (s x : Operand) (t : TypeId) (z : Value) (bytes : Nat)
    (ht : P.underlying t = some (.slice e)) (hinfo : (P.info? e).map (fun i => (i.zero, i.size, i.bytes)) = some (some z, 1, bytes)) (hl : (n + m) * bytes ≤ 140737488355328) (hb0 : 0 < bytes) (hbase : base ≤ w.heap.size)
    (hgd : o.guard = none) (ho : o.op = .call { callee := .builtin .append, args := #[s, x], argTypes := #[t, t] }) (hz : z.cells.size = 1)
    (hs : a.eval s = v) (hx : a.eval x = .slice A m c) (h1 : ∀ u ∈ ys, u.oneCell' = true)
    (h : ∀ v1 w1, w1.ownsRow base e 1 v1 (n + m) (xs ++ ys) → w.grownBy w1 v.ownBlock → (v1.ownBlock = v.ownBlock ∨ v1.ownBlock = some w.heap.size) → wpList P ops Q rest (a.put o.dst v1) w1) :
    wpList P ops Q (o :: rest) a w := by
  obtain ⟨i0, hi, hzz⟩ := Option.map_eq_some_iff.1 hinfo
  simp only [Prod.mk.injEq] at hzz
  obtain ⟨hz0, hz1, hz2⟩ := hzz
  have hlen : n + m ≤ 140737488355328 := Nat.le_trans (Nat.le_mul_of_pos_right _ hb0) hl
  obtain ⟨hm, ⟨rfl, rfl, rfl⟩ | ⟨b, off, rfl, hlt, hc⟩⟩ := hsl
  · obtain rfl : ys = [] := List.eq_nil_of_length_eq_zero (by omega)
    refine wpList_append_own_none hgd s x t ho base e i0 1 ht hi v n xs hs hown hx ?_
    exact h v w (by simpa using hown) ⟨rfl, rfl, rfl, Nat.le_refl _, fun _ _ _ => rfl⟩ (.inl rfl)
  · exact wpList_append_own_at w hgd s x t ho base e i0 z 1 bytes ht hi hz0 hz1 hz2 hz (by omega) v n xs hs hown ⟨b, off, none⟩ m c ys hx (by omega)
      (fun j u hu => by rw [add_plain]; exact hc j u hu) h1 (by simp only [maxLen]; omega) hl hbase (fun v1 w1 ho1 hg _ hat => h v1 w1 ho1 hg hat)
end
/-- What the Writer at a place holds; all that it owns lies above it. -/
structure WS (w : World) (wb : Nat) (l : List Nat) : Prop where
  row : ∃ v, w.cell? ⟨wb, 0, none⟩ = some v ∧ w.ownsRow (wb + 1) 5 1 v l.length (bvs l)
  fz : w.frozen? ⟨wb, 0, none⟩ = false
theorem WS.lt {w : World} {wb : Nat} {l : List Nat} (h : WS w wb l) : wb < w.heap.size := by
  obtain ⟨v, h1, _⟩ := h.row
  exact World.block_lt_of_cell? w _ h1
theorem WS.keep {w w' : World} {wb : Nat} {l : List Nat} (h : WS w wb l) (hb : Below w.heap.size w w') : WS w' wb l := by
  obtain ⟨v, h1, h2⟩ := h.row
  exact ⟨⟨v, (hb.cell (p := ⟨wb, 0, none⟩) h.lt).trans h1, own_keep h2 hb⟩, (hb.frozen (p := ⟨wb, 0, none⟩) h.lt).trans h.fz⟩
theorem sl_one (w : World) (x : Nat) : Sl (w.alloc (.cells #[.int .u8 (x : Int)] 5)) (some ⟨w.heap.size, 0, none⟩) 1 1 (bvs [x]) := by
  refine ⟨by simp [bvs], .inr ⟨_, _, rfl, by simp, fun j u hu => ?_⟩⟩
  match j, hu with
  | 0, hu =>
    simp [bvs] at hu
    subst hu
    simp only [World.cell?, heap_alloc_new]
    rfl
  | j + 1, hu => simp [bvs] at hu
set_option maxHeartbeats 1000000 in
set_option maxRecDepth 100000 in
theorem put_calls (w : World) (wb : Nat) (l ys : List Nat) (A : Option Addr) (m c : Nat) (h : WS w wb l) (hs : Sl w A m c (bvs ys)) (hl : l.length + ys.length ≤ 140737488355328) :
    Calls Try.prog 113 #[.pointer (some ⟨wb, 0, none⟩), .slice A m c] w fun e w' => e = .returned (.tuple #[]) ∧ WS w' wb (l ++ ys) ∧ Below wb w w' := by
  obtain ⟨v, h1, hown⟩ := h.row
  have hfz := h.fz
  have hlt := h.lt
  have hm : m = ys.length := by rw [hs.1, bvs_len]
  obtain ⟨A0, c0, rfl, hc1, hc2⟩ := own_form hown
  go_enter Try.func113, Try.ntmps113
  have hne : some wb ≠ (Value.slice A0 l.length c0).ownBlock := fun e => by
    have := own_base hown wb e.symm
    omega
  go_wp2_with (at_builtin; go_loud (refine app_sl hown hs (.tmp 8) (.tmp 9) 141 _ _ Try.underlying141 info5 (by rw [hm]; omega) (by decide) (by omega) rfl rfl rfl rfl rfl (bvs_one ys) ?_); intro v1 w1 ho1 hg hat; have q1 := (hg.block wb hlt hne); have q2 : w1.cell? ⟨wb, 0, none⟩ = some (.slice A0 l.length c0) := (World.cell?_of_block (a := ⟨wb, 0, none⟩) q1).trans h1; have q3 := (World.frozen?_of_block (a := ⟨wb, 0, none⟩) q1).trans hfz; obtain ⟨A1, c1, rfl, _, _⟩ := own_form ho1; have hk := Lib.hid (And.intro ho1 (And.intro hg hat)); clear ho1 hg hat)
  go_end0
  obtain ⟨ho1, hg, hat⟩ := hk.out
  subst hm
  have hset := Ap.setCell_tch w1 ⟨wb, 0, none⟩ (.slice A1 (l.length + ys.length) c1) (fun q => q = wb) rfl
  refine ⟨rfl, ⟨⟨_, World.cell?_setCell_same w1 _ _ q2, ?_⟩, (World.frozen?_setCell _ _ _ _).trans q3⟩, ?_⟩
  · rw [bvs_app, List.length_append]
    exact Ap.own_tchS ho1 hset (fun g hg e => by have := own_base ho1 g hg; omega)
  · have hb : Below wb w w1 := ⟨hg.os, hg.tape, hg.output, hg.size, fun k hk => hg.block k (by omega) (fun e => by have := own_base hown k e.symm; omega)⟩
    exact ⟨hset.os.trans hb.os, hset.tape.trans hb.tape, hset.output.trans hb.output, Nat.le_trans hb.size hset.size, fun k hk => (hset.block k (by have := hb.size; omega) (by omega)).trans (hb.block k hk)⟩

set_option maxHeartbeats 1000000 in
set_option maxRecDepth 100000 in
theorem byte_calls (w : World) (wb : Nat) (l : List Nat) (x : Nat) (hx : x < 256) (h : WS w wb l) (hl : l.length + 1 ≤ 140737488355328) :
    Calls Try.prog 90 #[.pointer (some ⟨wb, 0, none⟩), .int .u8 (x : Int)] w fun e w' => e = .returned (.tuple #[]) ∧ WS w' wb (l ++ [x]) ∧ Below wb w w' := by
  go_enter Try.func90, Try.ntmps90
  have hb0 := below_alloc (Below.refl w.heap.size w) (.cells #[.int .u8 (x : Int)] 5)
  have hlt := h.lt
  go_wp2_with fail
  refine (put_calls _ wb l [x] _ 1 1 (h.keep hb0) (sl_one w x) (by simpa using hl)).mono ?_
  rintro e w1 ⟨rfl, h1, hb1⟩
  go_wp2_with fail
  go_end0
  exact ⟨rfl, h1, (hb0.mono (by omega)).trans hb1⟩
theorem wraps_u64 (n : Int) (h0 : 0 ≤ n) (h1 : n < 2 ^ 64) : IntKind.u64.wrap n = n := by simp [IntKind.wrap, IntKind.bits, IntKind.signed]; omega
theorem bxor64 (a b : Nat) (ha : a < 18446744073709551616) (hb : b < 18446744073709551616) : bits .xor .u64 a b = ((a ^^^ b : Nat) : Int) := by
  have ha' : a % 2 ^ 64 = a := Nat.mod_eq_of_lt ha
  have hb' : b % 2 ^ 64 = b := Nat.mod_eq_of_lt hb
  have hn : (BitVec.ofNat 64 a ^^^ BitVec.ofNat 64 b).toNat = a ^^^ b := by rw [BitVec.toNat_xor, BitVec.toNat_ofNat, BitVec.toNat_ofNat, ha', hb']
  show IntKind.u64.wrap (((BitVec.ofInt 64 (a : Int) ^^^ BitVec.ofInt 64 (b : Int)).toNat : Nat) : Int) = _
  rw [BitVec.ofInt_natCast, BitVec.ofInt_natCast, hn]
  exact wraps_u64 _ (Int.natCast_nonneg _) (by have := Nat.xor_lt_two_pow (n := 64) ha hb; exact_mod_cast this)
/-- A text, taken for bytes. -/
theorem conv_bytes (w : World) (s : ByteArray) : ∃ c w', (convert 9 141 (.string s)).run Try.prog w = .ok (.slice (some ⟨w.heap.size, 0, none⟩) s.size c) w' ∧ Sl w' (some ⟨w.heap.size, 0, none⟩) s.size c (bvs (nums s)) ∧ Below w.heap.size w w' ∧ w.heap.size < w'.heap.size := by
  refine ⟨_, _, Lib.run_convert_string_bytes w 9 141 5 s Try.underlying9 Try.underlying141 Try.underlying5, ⟨by rw [bvs_len, nums_len], .inr ⟨_, _, rfl, by rw [Lib.bytesWorld_size]; omega, fun j u hu => ?_⟩⟩, ⟨rfl, rfl, rfl, by rw [Lib.bytesWorld_size]; omega, fun k hk => Lib.bytesWorld_at_old w 5 s k hk⟩, by rw [Lib.bytesWorld_size]; omega⟩
  have hj : j < s.size := by
    have := (List.getElem?_eq_some_iff.1 hu).1
    rwa [bvs_len, nums_len] at this
  rw [bvs_at _ (by rw [nums_len]; exact hj)] at hu
  rw [Nat.zero_add, Lib.bytesWorld_cell w 5 s j hj, ← hu]
  have hj' : j < s.data.toList.length := by simpa using hj
  have hj2 : j < s.data.size := by simpa using hj
  simp [nums, List.getD, hj', Array.getElem?_eq_getElem hj2]
theorem or128 : ∀ z, z < 256 → z ||| 128 = z % 128 + 128 := by decide +kernel
theorem bor8 (y : Nat) : bits .or .u8 ((y : Int) % 256) 128 = ((y % 128 + 128 : Nat) : Int) := by
  have h := (bits_nat .u8 8 (by decide) wraps_u8 (y % 256) 128 (Nat.mod_lt _ (by omega)) (by omega)).2
  rw [or128 _ (Nat.mod_lt _ (by omega)), Nat.mod_mod_of_dvd _ (by decide : 128 ∣ 256)] at h
  rw [← h]
  simp
theorem uint_fst {x : Nat} {pre : List Nat} {y : Nat} (hx : x < 18446744073709551616) (h : uintB x = pre ++ uintB y) : pre.length + 1 ≤ 10 := by
  have h1 := (uintB_64 hx).2
  rw [h, List.length_append] at h1
  have h2 := List.length_pos_iff.2 (uintB_ne y)
  omega
set_option maxHeartbeats 1000000 in
set_option maxRecDepth 100000 in
theorem uint_calls (w : World) (wb : Nat) (l : List Nat) (x : Nat) (hx : x < 18446744073709551616) (h : WS w wb l) (hl : l.length + 10 ≤ 140737488355328) :
    Calls Try.prog 85 #[.pointer (some ⟨wb, 0, none⟩), .int .u64 (x : Int)] w fun e w' => e = .returned (.tuple #[]) ∧ WS w' wb (l ++ uintB x) ∧ Below wb w w' := by
  go_enter Try.func85, Try.ntmps85
  go_wp2_with fail
  go_loopw [1] (fun s wr => ∃ (y : Nat) (pre : List Nat), s = .int .u64 (y : Int) ∧ y < 18446744073709551616 ∧ WS wr wb (l ++ pre) ∧ uintB x = pre ++ uintB y ∧ Below wb w wr) (fun s _ => (intOf s).toNat)
  case atStart => exact ⟨x, [], rfl, hx, by simpa using h, by simp, Below.refl _ _⟩
  case round =>
    obtain ⟨y, pre, rfl, hy, hw, hu, hb⟩ := hrel
    have hp := uint_fst hx hu
    have H := Lib.hid (And.intro hw (And.intro hu hb))
    have hlt := hw.lt
    clear hw hu hb
    by_cases hbig : y < 128
    · go_wp2_with fail
      have hb0 := below_alloc (Below.refl wr.heap.size wr) (.cells #[.int .u8 (y : Int)] 5)
      refine (put_calls _ wb (l ++ pre) [y] _ 1 1 (H.out.1.keep hb0) (sl_one wr y) (by simp; omega)).mono ?_
      rintro e w1 ⟨rfl, h1, hb1⟩
      have H2 := Lib.hid (And.intro h1 ((hb0.mono (by omega)).trans hb1))
      clear h1 hb1 hb0
      go_wp2_with fail
      go_end0
      refine ⟨rfl, ?_, H.out.2.2.trans H2.out.2⟩
      have := H2.out.1
      rw [List.append_assoc, ← uintB_lo hbig, ← H.out.2.1] at this
      exact this
    · go_wp2_with fail
      rw [bor8]
      have hb0 := below_alloc (Below.refl wr.heap.size wr) (.cells #[.int .u8 ((y % 128 + 128 : Nat) : Int)] 5)
      refine (put_calls _ wb (l ++ pre) [y % 128 + 128] _ 1 1 (H.out.1.keep hb0) (sl_one wr _) (by simp; omega)).mono ?_
      rintro e w1 ⟨rfl, h1, hb1⟩
      have H2 := Lib.hid (And.intro h1 ((hb0.mono (by omega)).trans hb1))
      clear h1 hb1 hb0
      go_wp2_with fail
      go_roundw
      case rel => exact ⟨y / 128, pre ++ [y % 128 + 128], by go_num, by omega, by rw [← List.append_assoc]; exact H2.out.1, by rw [H.out.2.1, uintB_hi hbig]; simp, H.out.2.2.trans H2.out.2⟩
      case measure => simp [intOf]; omega
set_option maxHeartbeats 1000000 in
set_option maxRecDepth 100000 in
theorem int_calls (w : World) (wb : Nat) (l : List Nat) (x : Nat) (hx : x ≤ 4611686018427387904) (h : WS w wb l) (hl : l.length + 10 ≤ 140737488355328) :
    Calls Try.prog 86 #[.pointer (some ⟨wb, 0, none⟩), .int .i64 (x : Int)] w fun e w' => e = .returned (.tuple #[]) ∧ WS w' wb (l ++ uintB (2 * x)) ∧ Below wb w w' := by
  have e0 : (x : Int) / 9223372036854775808 = 0 := by omega
  have e1 : bits .xor .u64 ((x : Int) * 2) 0 = ((2 * x : Nat) : Int) := by
    have := bxor64 (2 * x) 0 (by omega) (by omega)
    rw [Nat.xor_zero] at this
    rw [← this]
    congr 1
    omega
  have HE := Lib.hid (And.intro e0 e1)
  clear e0 e1
  go_enter Try.func86, Try.ntmps86
  go_wp2_with fail
  rw [HE.out.1, HE.out.2]
  refine (uint_calls _ wb l (2 * x) (by omega) h hl).mono ?_
  rintro e w1 ⟨rfl, h1, hb1⟩
  go_wp2_with fail
  go_end0
  exact ⟨rfl, h1, hb1⟩
set_option maxHeartbeats 1000000 in
set_option maxRecDepth 100000 in
theorem text_calls (w : World) (wb : Nat) (l : List Nat) (s : ByteArray) (hs : s.size ≤ maxLen) (h : WS w wb l) (hl : l.length + 10 + s.size ≤ 140737488355328) :
    Calls Try.prog 87 #[.pointer (some ⟨wb, 0, none⟩), .string s] w fun e w' => e = .returned (.tuple #[]) ∧ WS w' wb (l ++ textB (nums s)) ∧ Below wb w w' := by
  go_enter Try.func87, Try.ntmps87
  go_wp2_with fail
  refine (uint_calls _ wb l s.size (by unfold maxLen at hs; omega) h (by omega)).mono ?_
  rintro e w1 ⟨rfl, h1, hb1⟩
  obtain ⟨cc, w2, kc, hsl, hb2, hlt2⟩ := conv_bytes w1 s
  have hlt := h1.lt
  have hul : (uintB s.size).length ≤ 10 := (uintB_64 (by unfold maxLen at hs; omega)).2
  have H := Lib.hid (And.intro h1 (And.intro hb1 (And.intro hsl (And.intro hb2 hul))))
  clear h1 hb1 hsl hb2 hlt2 h hul
  go_wp2_with fail
  refine (put_calls w2 wb (l ++ uintB s.size) (nums s) _ _ cc (H.out.1.keep H.out.2.2.2.1) H.out.2.2.1 (by have := H.out.2.2.2.2; simp [nums_len]; omega)).mono ?_
  rintro e w3 ⟨rfl, h3, hb3⟩
  have H3 := Lib.hid (And.intro h3 hb3)
  clear h3 hb3
  go_wp2_with fail
  go_end0
  refine ⟨rfl, ?_, (H.out.2.1.trans (H.out.2.2.2.1.mono (by omega))).trans H3.out.2⟩
  have := H3.out.1
  unfold textB
  rw [nums_len, ← List.append_assoc]
  exact this
set_option maxHeartbeats 1000000 in
set_option maxRecDepth 100000 in
theorem bytes_calls (w : World) (wb : Nat) (l : List Nat) (h : WS w wb l) (hl : l.length ≤ 140737488355328) :
    Calls Try.prog 89 #[.pointer (some ⟨wb, 0, none⟩)] w fun e w' => ∃ v, e = .returned v ∧ w'.ownsRow w.heap.size 5 1 v l.length (bvs l) ∧ Below w.heap.size w w' := by
  obtain ⟨v, h1, hown⟩ := h.row
  obtain ⟨A0, c0, rfl, hs⟩ := own_sl hown
  have hlt := h.lt
  have hnil : w.ownsRow w.heap.size 5 1 (.slice none 0 0) 0 [] := World.ownsRow_nil _ _ _ _
  have HX := Lib.hid (And.intro hown h)
  clear h hown
  go_enter Try.func89, Try.ntmps89
  go_wp2_with (at_builtin; go_loud (refine app_sl hnil hs (.const (.slice none 0 0)) (.tmp 9) 141 _ _ Try.underlying141 info5 (by omega) (by decide) (by omega) rfl rfl rfl rfl rfl (bvs_one l) ?_); intro v1 w1 ho1 hg hat; have hk := Lib.hid (And.intro ho1 (And.intro hg hat)); clear ho1 hg hat)
  go_ret
  obtain ⟨ho1, hg, hat⟩ := hk.out
  refine ⟨_, rfl, by simpa using ho1, ⟨hg.os, hg.tape, hg.output, hg.size, fun k hk => hg.block k hk (by simp [Value.ownBlock])⟩⟩
set_option maxHeartbeats 1000000 in
set_option maxRecDepth 100000 in
theorem sum_calls (w : World) (l : List Nat) (A : Option Addr) (c : Nat) (hr : Rd w A (bvs l)) (hl : l.length ≤ 140737488355328) (hd : Dig 256 l) :
    Calls Try.prog 88 #[.slice A l.length c] w fun e w' => e = .returned (.int .u64 (sumB l : Int)) ∧ w' = w := by
  go_enter Try.func88, Try.ntmps88
  go_wp2_with fail
  go_loopw [3, 8] (fun s i wr => ∃ (k : Nat), k ≤ l.length ∧ i = .int .i64 (k : Int) ∧ s = .int .u64 (sumB (l.take k) : Int) ∧ wr = w) (fun _ i _ => l.length - (intOf i).toNat)
  case atStart => exact ⟨0, Nat.zero_le _, rfl, rfl, rfl⟩
  case round =>
    obtain ⟨k, hk, rfl, rfl, rfl⟩ := hrel
    by_cases hlt : k < l.length
    · obtain ⟨b, off, rfl, hc⟩ := hr.at (j := k) (by rw [bvs_len]; exact hlt)
      simp only [bvs, List.getElem_map] at hc
      go_wp2_with fail
      have hdk : l[k] < 256 := hd _ (List.getElem_mem hlt)
      have e1 := bxor64 (sumB (l.take k)) l[k] (sumB_lt _) (by omega)
      have e2 : IntKind.u64.wrap (l[k] : Int) = (l[k] : Int) := wraps_u64 _ (by omega) (by omega)
      rw [e2, e1]
      go_roundw
      case rel =>
        refine ⟨k + 1, by omega, by go_num, ?_, trivial⟩
        rw [List.take_succ_eq_append_getElem hlt, sumB_snoc]
        simp [IntKind.wrap, IntKind.bits, IntKind.signed]
      case measure => simp [intOf]; omega
    · obtain rfl : l.length = k := by omega
      rw [List.take_length]
      go_wp2_with fail
      go_ret
      exact ⟨rfl, rfl⟩
end Go.Proofs.Ytdbccemllaehjaa.PG
