/- values.Encode, walked. -/
import Derived.Test.YtdbccemllaehjaaHi
namespace Go.Proofs.Ytdbccemllaehjaa.PK
open Go.RowKit Go.Proofs.YtdbccemllaehjaaKw Go.Proofs.YtdbccemllaehjaaHa Go.Proofs.YtdbccemllaehjaaGa Go.Proofs.Ytdbccemllaehjaa.PG
set_option linter.unusedVariables false
set_option linter.unusedSimpArgs false
/-- The turned form of a number. -/
def turnN (n : Int) : Nat := if 0 ≤ n then (2 * n).toNat else (-2 * n - 1).toNat
theorem turnN_lt {n : Int} (h : -9223372036854775808 ≤ n ∧ n ≤ 9223372036854775807) : turnN n < 18446744073709551616 := by unfold turnN; split <;> omega
theorem xor_all64 {x : Nat} (h : x < 18446744073709551616) : bits .xor .u64 (x : Int) 18446744073709551615 = ((18446744073709551615 - x : Nat) : Int) := by
  have h1 := bxor64 x 18446744073709551615 h (by omega)
  have h2 : x ^^^ 18446744073709551615 = 18446744073709551615 - x := by
    have e1 : (BitVec.ofNat 64 x ^^^ BitVec.allOnes 64).toNat = 18446744073709551615 - x := by
      rw [BitVec.xor_comm, BitVec.allOnes_xor, BitVec.toNat_not, BitVec.toNat_ofNat, Nat.mod_eq_of_lt h]
    rw [BitVec.toNat_xor, BitVec.toNat_allOnes, BitVec.toNat_ofNat, Nat.mod_eq_of_lt h] at e1
    exact e1
  rw [h2] at h1
  exact h1
set_option maxHeartbeats 1000000 in
set_option maxRecDepth 100000 in
theorem int_all (w : World) (wb : Nat) (l : List Nat) (n : Int) (hn : -9223372036854775808 ≤ n ∧ n ≤ 9223372036854775807) (h : WS w wb l) (hl : l.length + 10 ≤ 140737488355328) :
    Calls Try.prog 86 #[.pointer (some ⟨wb, 0, none⟩), .int .i64 n] w fun e w' => e = .returned (.tuple #[]) ∧ WS w' wb (l ++ uintB (turnN n)) ∧ Below wb w w' := by
  by_cases h0 : 0 ≤ n
  · have ht : ((turnN n : Nat) : Int) = 2 * n := by unfold turnN; rw [if_pos h0]; omega
    have hlt := turnN_lt hn
    have e0 : n / 9223372036854775808 = 0 := by omega
    have e1 : bits .xor .u64 (n * 2) 0 = ((turnN n : Nat) : Int) := by
      have := bxor64 (turnN n) 0 hlt (by omega)
      rw [Nat.xor_zero] at this
      rw [← this, ht]
      congr 1
      omega
    have HE := Lib.hid (And.intro e0 (And.intro e1 hlt))
    clear e0 e1 ht hlt
    go_enter Try.func86, Try.ntmps86
    go_wp2_with fail
    rw [HE.out.1, HE.out.2.1]
    refine (uint_calls _ wb l (turnN n) HE.out.2.2 h hl).mono ?_
    rintro e w1 ⟨rfl, h1, hb1⟩
    go_wp2_with fail
    go_end0
    exact ⟨rfl, h1, hb1⟩
  · have ht : ((turnN n : Nat) : Int) = -2 * n - 1 := by unfold turnN; rw [if_neg h0]; omega
    have hlt := turnN_lt hn
    obtain ⟨y, hy⟩ := Int.eq_ofNat_of_zero_le (show 0 ≤ 2 * n + 18446744073709551616 by omega)
    have hx := xor_all64 (x := y) (by omega)
    have hty : turnN n = 18446744073709551615 - y := by omega
    have hw : ∀ z : Int, IntKind.u64.wrap z = z % 18446744073709551616 := fun z => by simp [IntKind.wrap, IntKind.bits, IntKind.signed]
    have e1 : IntKind.u64.wrap (IntKind.u64.wrap n * 2) = (y : Int) := by rw [hw, hw]; omega
    have e2 : IntKind.u64.wrap (n / 9223372036854775808) = 18446744073709551615 := by rw [hw]; omega
    have HE := Lib.hid (And.intro e1 (And.intro e2 (And.intro hx (And.intro hty hlt))))
    clear ht hlt hx hty hy hw e1 e2
    go_enter Try.func86, Try.ntmps86
    go_wp2_with fail
    rw [HE.out.1, HE.out.2.1, HE.out.2.2.1, ← HE.out.2.2.2.1]
    refine (uint_calls _ wb l (turnN n) HE.out.2.2.2.2 h hl).mono ?_
    rintro e w1 ⟨rfl, h1, hb1⟩
    go_wp2_with fail
    go_end0
    exact ⟨rfl, h1, hb1⟩
theorem VOk.below {w w' : World} {v : VV} {B : Nat} (h : VOk w v) (hb : Below B w w') (hlo : ∀ b off, v.A = some ⟨b, off, none⟩ → PC.strs v.ss ≠ [] → b < B) : VOk w' v := ⟨h.kind, h.n, h.x, h.t, h.rd.below hb hlo, h.c, h.len, h.each⟩
theorem VOk.low {w : World} {v : VV} (h : VOk w v) : ∀ b off, v.A = some ⟨b, off, none⟩ → PC.strs v.ss ≠ [] → b < w.heap.size := fun b off e hx => by
  have := h.rd
  rw [e] at this
  exact this.lt (List.length_pos_iff.2 hx)
def bn (b : Bool) : Nat := match b with | true => 1 | false => 0
theorem bn_lt (b : Bool) : bn b < 256 := by cases b <;> decide
theorem num_calls (w : World) (b : Bool) : Calls Try.prog 121 #[.bool b] w fun e w' => e = .returned (.int .i64 (bn b : Int)) ∧ w' = w := by
  cases b
  · go_enter Try.func121, Try.ntmps121
    go_wp2_with fail
    go_ret
    exact ⟨rfl, rfl⟩
  · go_enter Try.func121, Try.ntmps121
    go_wp2_with fail
    go_ret
    exact ⟨rfl, rfl⟩
/-- The bytes of a value that may be; of any value. -/
def encB (v : VV) : List Nat := [(v.kind % 256).toNat] ++ (if v.kind = 1 then [bn v.b] else if v.kind = 2 then uintB (turnN v.n) else if v.kind = 3 then four (keyR v.x) else if v.kind = 4 then textB (nums v.t) else uintB v.ss.length ++ (v.ss.map fun s => textB (nums s)).flatten)
open Classical in
noncomputable def encV (v : VV) : List Nat := if okV v then encB v else []
theorem texts_len {ss : List ByteArray} (h : ∀ s ∈ ss, s.size ≤ 256) : ((ss.map fun s => textB (nums s)).flatten).length ≤ ss.length * 266 := by
  induction ss with
  | nil => simp
  | cons s l ih =>
    have h1 := ih fun x hx => h x (by simp [hx])
    have h2 := h s (by simp)
    simp only [List.map_cons, List.flatten_cons, List.length_append, List.length_cons]
    have h3 : (textB (nums s)).length ≤ 266 := by
      unfold textB
      rw [List.length_append, nums_len]
      have := (uintB_64 (show s.size < 18446744073709551616 by omega)).2
      omega
    omega
theorem encB_len {v : VV} (h : okV v) (hn : -9223372036854775808 ≤ v.n ∧ v.n ≤ 9223372036854775807) : (encB v).length ≤ 10000 := by
  obtain ⟨h1, h2, h3, h4, h5, _⟩ := h
  unfold encB
  rw [List.length_append]
  have hl : ([(v.kind % 256).toNat] : List Nat).length = 1 := rfl
  rw [hl]
  split
  · simp
  split
  · have := (uintB_64 (turnN_lt hn)).2
    omega
  split
  · simp [four]
  split
  · unfold textB
    rw [List.length_append, nums_len]
    have := (uintB_64 (show (nums v.t).length < 18446744073709551616 by rw [nums_len]; omega)).2
    rw [nums_len] at this
    omega
  · rw [List.length_append]
    have h6 := (uintB_64 (show v.ss.length < 18446744073709551616 by omega)).2
    have h7 := texts_len h3
    omega
set_option maxHeartbeats 8000000 in
set_option maxRecDepth 100000 in
theorem vencode_calls (w : World) (v : VV) (hv : VOk w v) : Calls Try.prog 104 #[.agg #[.int .i64 v.kind, .bool v.b, .int .i64 v.n, .float .f32 v.x, .string v.t, .slice v.A v.ss.length v.c]] w fun e w' => ∃ r er, e = .returned (.tuple #[r, .int .i64 er]) ∧ w'.ownsRow w.heap.size 5 1 r (encV v).length (bvs (encV v)) ∧ Below w.heap.size w w' := by
  have hAt := VAt.new w v
  have hal := below_alloc (Below.refl w.heap.size w) (.cells #[.int .i64 v.kind, .bool v.b, .int .i64 v.n, .float .f32 v.x, .string v.t, .slice v.A v.ss.length v.c] 147)
  have hsz : (w.alloc (.cells #[.int .i64 v.kind, .bool v.b, .int .i64 v.n, .float .f32 v.x, .string v.t, .slice v.A v.ss.length v.c] 147)).heap.size = w.heap.size + 1 := by simp
  have hvo := hv.keep hal
  obtain ⟨vb, hvb⟩ : ∃ vb, vb = w.heap.size := ⟨_, rfl⟩
  have HH := Lib.hid (And.intro hAt (And.intro hal (And.intro hvo (And.intro hsz hvb))))
  clear hAt hal hvo hsz
  have hfb : ∀ w', Below vb w w' → Below w.heap.size w w' := fun w' h => by rw [← hvb]; exact h
  have HFB := Lib.hid hfb
  have HVB := Lib.hid hvb
  clear hfb hvb hv
  go_enter Try.func104, Try.ntmps104
  go_wp2_with fail
  generalize w.alloc (.cells #[.int .i64 v.kind, .bool v.b, .int .i64 v.n, .float .f32 v.x, .string v.t, .slice v.A v.ss.length v.c] 147) = W0 at *
  have hvb := HH.out.2.2.2.2
  rw [← hvb] at HH ⊢
  clear hvb
  refine (check_calls W0 v HH.out.2.2.1).mono ?_
  rintro e w1 ⟨hz, hb1⟩
  have hz0 : vb < W0.heap.size := by have := HH.out.2.2.2.1; omega
  have hz1 : vb < w1.heap.size := Nat.lt_of_lt_of_le hz0 hb1.size
  have H1 := Lib.hid (And.intro (HH.out.1.keep hb1 hz0) (And.intro (HH.out.2.1.trans (hb1.mono (Nat.le_of_lt hz0))) (HH.out.2.2.1.keep hb1)))
  clear hb1 HH hz0
  rcases hz with ⟨hy, rfl⟩ | ⟨hno, rfl⟩
  · have he : encV v = encB v := by unfold encV; rw [if_pos hy]
    have HY := Lib.hid (And.intro hy he)
    clear hy he
    have p0 := H1.out.1.c0
    go_wp2_with fail
    obtain ⟨wb, hwb⟩ : ∃ wb, wb = w1.heap.size := ⟨_, rfl⟩
    have hS := WS.new w1
    have hal := below_alloc (Below.refl w1.heap.size w1) (.cells #[.slice none 0 0] 157)
    have hA2 := H1.out.1.keep hal (by omega)
    have hz2 : (w1.alloc (.cells #[.slice none 0 0] 157)).heap.size = wb + 1 := by rw [hwb]; simp
    have ek : v.kind % 256 = (((v.kind % 256).toNat : Nat) : Int) := by omega
    have H2 := Lib.hid (And.intro hA2 (And.intro (H1.out.2.1.trans (hal.mono (Nat.le_of_lt hz1))) (H1.out.2.2.keep hal)))
    rw [← hwb] at hS ⊢
    have hvw : vb < wb := by omega
    have hlow := H1.out.2.2.low
    rw [← hwb] at hlow
    have HLo := Lib.hid hlow
    clear hlow
    rw [ek]
    clear ek hwb hal hA2 hz1 p0
    generalize w1.alloc (.cells #[.slice none 0 0] 157) = W1 at *
    refine (byte_calls W1 wb [] (v.kind % 256).toNat (by omega) hS (by simp)).mono ?_
    rintro e w2 ⟨rfl, hS2, hb2⟩
    rw [List.nil_append] at hS2
    have HS := Lib.hid hS2
    have H3 := Lib.hid (And.intro (H2.out.1.keep hb2 hvw) (And.intro (H2.out.2.1.trans (hb2.mono (Nat.le_of_lt hvw))) (H2.out.2.2.below hb2 HLo.out)))
    have p0 := H3.out.1.c0
    have HWL := Lib.hid (show w.heap.size ≤ wb by have := HVB.out; omega)
    have HLen := Lib.hid (encB_len HY.out.1 H3.out.2.2.n)
    clear hS2 hb2 H1 H2 hz2
    refine kinds (kd := v.kind) ?_ ?_ ?_ ?_ ?_ ?_
    · intro hk
      have hB : encB v = [(v.kind % 256).toNat] ++ [bn v.b] := by unfold encB; rw [if_pos hk]
      have p1 := H3.out.1.c1
      simp only [Nat.zero_add] at p1
      go_wp2_with fail
      refine (num_calls w2 v.b).mono ?_
      rintro e w3 ⟨rfl, rfl⟩
      have hm := bn_lt v.b
      generalize bn v.b = m at *
      go_wp2_with fail
      refine (byte_calls w3 wb _ m hm HS.out (by simp)).mono ?_
      rintro e wN ⟨rfl, hN, hbN⟩
      have HW := Lib.hid (And.intro (show WS wN wb (encB v) by rw [hB]; exact hN) (And.intro (H3.out.2.1.trans (hbN.mono (Nat.le_of_lt hvw))) (show wb < wN.heap.size from hN.lt)))
      clear hN hbN hB
      go_wp2_with fail
      refine (bytes_calls wN wb (encB v) HW.out.1 (by have := HLen.out; omega)).mono ?_
      rintro e w9 ⟨r, rfl, ho, hb9⟩
      have HR := Lib.hid (And.intro ho hb9)
      clear ho hb9
      go_wp2_with fail
      go_ret2
      refine ⟨r, 0, rfl, ?_, HFB.out _ (HW.out.2.1.trans (HR.out.2.mono (by have := HW.out.2.2; omega)))⟩
      rw [HY.out.2]
      exact own_mono HR.out.1 (by have := HW.out.2.2; have := HWL.out; omega)
    · intro hk
      have hB : encB v = [(v.kind % 256).toNat] ++ uintB (turnN v.n) := by unfold encB; rw [if_neg (by omega)]; rw [if_pos hk]
      have p2 := H3.out.1.c2
      simp only [Nat.zero_add] at p2
      go_wp2_with fail
      refine (int_all w2 wb _ v.n H3.out.2.2.n HS.out (by simp)).mono ?_
      rintro e wN ⟨rfl, hN, hbN⟩
      have HW := Lib.hid (And.intro (show WS wN wb (encB v) by rw [hB]; exact hN) (And.intro (H3.out.2.1.trans (hbN.mono (Nat.le_of_lt hvw))) (show wb < wN.heap.size from hN.lt)))
      clear hN hbN hB
      go_wp2_with fail
      refine (bytes_calls wN wb (encB v) HW.out.1 (by have := HLen.out; omega)).mono ?_
      rintro e w9 ⟨r, rfl, ho, hb9⟩
      have HR := Lib.hid (And.intro ho hb9)
      clear ho hb9
      go_wp2_with fail
      go_ret2
      refine ⟨r, 0, rfl, ?_, HFB.out _ (HW.out.2.1.trans (HR.out.2.mono (by have := HW.out.2.2; omega)))⟩
      rw [HY.out.2]
      exact own_mono HR.out.1 (by have := HW.out.2.2; have := HWL.out; omega)
    · intro hk
      have hB : encB v = [(v.kind % 256).toNat] ++ four (keyR v.x) := by unfold encB; rw [if_neg (by omega)]; rw [if_neg (by omega)]; rw [if_pos hk]
      have p3 := H3.out.1.c3
      simp only [Nat.zero_add] at p3
      go_wp2_with fail
      refine (real_calls w2 wb _ v.x H3.out.2.2.x HS.out (by simp)).mono ?_
      rintro e wN ⟨rfl, hN, hbN⟩
      have HW := Lib.hid (And.intro (show WS wN wb (encB v) by rw [hB]; exact hN) (And.intro (H3.out.2.1.trans (hbN.mono (Nat.le_of_lt hvw))) (show wb < wN.heap.size from hN.lt)))
      clear hN hbN hB
      go_wp2_with fail
      refine (bytes_calls wN wb (encB v) HW.out.1 (by have := HLen.out; omega)).mono ?_
      rintro e w9 ⟨r, rfl, ho, hb9⟩
      have HR := Lib.hid (And.intro ho hb9)
      clear ho hb9
      go_wp2_with fail
      go_ret2
      refine ⟨r, 0, rfl, ?_, HFB.out _ (HW.out.2.1.trans (HR.out.2.mono (by have := HW.out.2.2; omega)))⟩
      rw [HY.out.2]
      exact own_mono HR.out.1 (by have := HW.out.2.2; have := HWL.out; omega)
    · intro hk
      have hB : encB v = [(v.kind % 256).toNat] ++ textB (nums v.t) := by unfold encB; rw [if_neg (by omega)]; rw [if_neg (by omega)]; rw [if_neg (by omega)]; rw [if_pos hk]
      have p4 := H3.out.1.c4
      simp only [Nat.zero_add] at p4
      go_wp2_with fail
      refine (text_calls w2 wb _ v.t H3.out.2.2.t HS.out (by have := HY.out.1.1; simp; omega)).mono ?_
      rintro e wN ⟨rfl, hN, hbN⟩
      have HW := Lib.hid (And.intro (show WS wN wb (encB v) by rw [hB]; exact hN) (And.intro (H3.out.2.1.trans (hbN.mono (Nat.le_of_lt hvw))) (show wb < wN.heap.size from hN.lt)))
      clear hN hbN hB
      go_wp2_with fail
      refine (bytes_calls wN wb (encB v) HW.out.1 (by have := HLen.out; omega)).mono ?_
      rintro e w9 ⟨r, rfl, ho, hb9⟩
      have HR := Lib.hid (And.intro ho hb9)
      clear ho hb9
      go_wp2_with fail
      go_ret2
      refine ⟨r, 0, rfl, ?_, HFB.out _ (HW.out.2.1.trans (HR.out.2.mono (by have := HW.out.2.2; omega)))⟩
      rw [HY.out.2]
      exact own_mono HR.out.1 (by have := HW.out.2.2; have := HWL.out; omega)
    · intro hk
      have hB : encB v = [(v.kind % 256).toNat] ++ (uintB v.ss.length ++ (v.ss.map fun s => textB (nums s)).flatten) := by unfold encB; rw [if_neg (by omega), if_neg (by omega), if_neg (by omega), if_neg (by omega)]
      have p5 := H3.out.1.c5
      simp only [Nat.zero_add] at p5
      have hl32 : v.ss.length ≤ 32 := HY.out.1.2.1
      go_wp2_with fail
      refine (uint_calls w2 wb _ v.ss.length (by omega) HS.out (by simp)).mono ?_
      rintro e w3 ⟨rfl, hN, hbN⟩
      have p5 := (H3.out.1.keep hbN hvw).c5
      simp only [Nat.zero_add] at p5
      have hul := (uintB_64 (show v.ss.length < 18446744073709551616 by omega)).2
      have H4 := Lib.hid (And.intro hN (And.intro hbN (And.intro hB hul)))
      clear hN hbN hB hul
      have hform : v.ss.length = 0 ∨ ∃ b off, v.A = some ⟨b, off, none⟩ := by
        by_cases h0 : v.ss.length = 0
        · exact .inl h0
        · obtain ⟨b, off, h, _⟩ := PC.rd_str (H3.out.2.2.below H4.out.2.1 HLo.out).rd (show 0 < v.ss.length by omega)
          exact .inr ⟨b, off, h⟩
      rcases hform with h00 | ⟨b0, off0, hA0⟩
      · go_wp2_with fail
        clear hk
        go_loopw [51] (fun s51 wr => ∃ k : Nat, k ≤ v.ss.length ∧ s51 = .int .i64 (k : Int) ∧ WS wr wb ([(v.kind % 256).toNat] ++ (uintB v.ss.length ++ ((v.ss.take k).map fun s => textB (nums s)).flatten)) ∧ Below wb w2 wr) (fun i _ => v.ss.length - (intOf i).toNat)
        case atStart => exact ⟨0, Nat.zero_le _, rfl, by simpa using H4.out.1, H4.out.2.1⟩
        case round =>
          obtain ⟨k, hk5, rfl, hW, hb⟩ := hrel
          by_cases hlt : k < v.ss.length
          · exfalso; omega
          · obtain rfl : v.ss.length = k := by omega
            rw [List.take_length, ← H4.out.2.2.1] at hW
            obtain ⟨wN, hwN⟩ : ∃ wN, wN = wr := ⟨_, rfl⟩
            subst hwN
            have HW := Lib.hid (And.intro hW (And.intro (H3.out.2.1.trans (hb.mono (Nat.le_of_lt hvw))) (show wb < wN.heap.size from hW.lt)))
            clear hW hb
            go_wp2_with fail
            refine (bytes_calls wN wb (encB v) HW.out.1 (by have := HLen.out; omega)).mono ?_
            rintro e w9 ⟨r, rfl, ho, hb9⟩
            have HR := Lib.hid (And.intro ho hb9)
            clear ho hb9
            go_wp2_with fail
            go_ret2
            refine ⟨r, 0, rfl, ?_, HFB.out _ (HW.out.2.1.trans (HR.out.2.mono (by have := HW.out.2.2; omega)))⟩
            rw [HY.out.2]
            exact own_mono HR.out.1 (by have := HW.out.2.2; have := HWL.out; omega)
      · go_wp2_with fail
        clear hk
        go_loopw [51] (fun s51 wr => ∃ k : Nat, k ≤ v.ss.length ∧ s51 = .int .i64 (k : Int) ∧ WS wr wb ([(v.kind % 256).toNat] ++ (uintB v.ss.length ++ ((v.ss.take k).map fun s => textB (nums s)).flatten)) ∧ Below wb w2 wr) (fun i _ => v.ss.length - (intOf i).toNat)
        case atStart => exact ⟨0, Nat.zero_le _, rfl, by simpa using H4.out.1, H4.out.2.1⟩
        case round =>
          obtain ⟨k, hk5, rfl, hW, hb⟩ := hrel
          by_cases hlt : k < v.ss.length
          · have hvk := H3.out.2.2.below hb HLo.out
            obtain ⟨b, off, hA, hc⟩ := PC.rd_str hvk.rd hlt
            rw [hA0] at hA
            cases hA
            have hsz : v.ss[k].size ≤ maxLen := hvk.each _ (List.getElem_mem hlt)
            have h256 : v.ss[k].size ≤ 256 := HY.out.1.2.2.1 _ (List.getElem_mem hlt)
            have htl := texts_len (ss := v.ss.take k) (fun s hs => HY.out.1.2.2.1 s (List.mem_of_mem_take hs))
            have H5 := Lib.hid (And.intro hW (And.intro hb (And.intro hsz (And.intro h256 htl))))
            have hsz2 : v.ss[k].size ≤ 9223372036854775807 := by omega
            clear hW hb hvk hsz htl h256
            go_wp2_with fail
            refine (text_calls wr wb _ v.ss[k] H5.out.2.2.1 H5.out.1 (by
              have h1 := H5.out.2.2.2.2
              have h2 := H5.out.2.2.2.1
              have h3 := H4.out.2.2.2
              rw [List.length_take] at h1
              simp only [List.length_append, List.length_cons, List.length_nil]
              omega)).mono ?_
            rintro e w5 ⟨rfl, hN, hbN⟩
            have H6 := Lib.hid (And.intro hN (H5.out.2.1.trans hbN))
            clear hN hbN
            go_wp2_with fail
            go_roundw
            case rel =>
              refine ⟨k + 1, by omega, by go_num, ?_, H6.out.2⟩
              have h := H6.out.1
              rw [List.take_succ_eq_append_getElem hlt, List.map_append, List.flatten_append]
              simp only [List.map_cons, List.map_nil, List.flatten_cons, List.flatten_nil, List.append_nil]
              simpa [List.append_assoc] using h
            case measure => simp [intOf]; omega
          · obtain rfl : v.ss.length = k := by omega
            rw [List.take_length, ← H4.out.2.2.1] at hW
            obtain ⟨wN, hwN⟩ : ∃ wN, wN = wr := ⟨_, rfl⟩
            subst hwN
            have HW := Lib.hid (And.intro hW (And.intro (H3.out.2.1.trans (hb.mono (Nat.le_of_lt hvw))) (show wb < wN.heap.size from hW.lt)))
            clear hW hb
            go_wp2_with fail
            refine (bytes_calls wN wb (encB v) HW.out.1 (by have := HLen.out; omega)).mono ?_
            rintro e w9 ⟨r, rfl, ho, hb9⟩
            have HR := Lib.hid (And.intro ho hb9)
            clear ho hb9
            go_wp2_with fail
            go_ret2
            refine ⟨r, 0, rfl, ?_, HFB.out _ (HW.out.2.1.trans (HR.out.2.mono (by have := HW.out.2.2; omega)))⟩
            rw [HY.out.2]
            exact own_mono HR.out.1 (by have := HW.out.2.2; have := HWL.out; omega)
    · intro a1 a2 a3 a4 a5
      exfalso
      have h := HY.out.1
      rw [beq_eq_false_iff_ne] at a1 a2 a3 a4 a5
      have := h.2.2.2.1
      have := h.2.2.2.2.1
      omega
  · have he : encV v = [] := by unfold encV; rw [if_neg hno]
    have HN := Lib.hid he
    clear hno he
    go_wp2_with fail
    go_ret2
    refine ⟨_, 40, rfl, ?_, HFB.out _ H1.out.2.1⟩
    rw [HN.out]
    exact World.ownsRow_nil _ _ _ _
end Go.Proofs.Ytdbccemllaehjaa.PK
