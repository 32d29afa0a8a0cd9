/- The reference's Uint and bytes, that append, and its Encode, walked. -/
import Derived.Test.YtdbccemllaehjaaHj
namespace Go.Proofs.Ytdbccemllaehjaa.PK
open Go.RowKit Go.Proofs.YtdbccemllaehjaaKw Go.Proofs.YtdbccemllaehjaaHa Go.Proofs.YtdbccemllaehjaaGa Go.Proofs.Ytdbccemllaehjaa.PG
set_option linter.unusedVariables false
set_option linter.unusedSimpArgs false
set_option maxHeartbeats 1000000 in
set_option maxRecDepth 100000 in
theorem auint_calls (w0 w : World) (base : Nat) (v : Value) (l : List Nat) (x : Nat) (hx : x < 18446744073709551616) (ho : w.ownsRow base 5 1 v l.length (bvs l)) (hb : Below base w0 w) (hbase : base ≤ w.heap.size) (hl : l.length + 11 ≤ 140737488355328) :
    Calls Try.prog 106 #[v, .int .u64 (x : Int)] w fun e w' => ∃ v', e = .returned v' ∧ w'.ownsRow base 5 1 v' (l ++ uintB x).length (bvs (l ++ uintB x)) ∧ Below base w0 w' ∧ base ≤ w'.heap.size := by
  have hH := Lib.hid (And.intro ho hb)
  clear ho hb
  go_enter Try.func106, Try.ntmps106
  go_wp2_with fail
  go_loopw [0, 1] (fun u s wr => ∃ (y : Nat) (pre : List Nat), s = .int .u64 (y : Int) ∧ y < 18446744073709551616 ∧ wr.ownsRow base 5 1 u (l.length + pre.length) (bvs (l ++ pre)) ∧ uintB x = pre ++ uintB y ∧ Below base w0 wr ∧ base ≤ wr.heap.size) (fun _ s _ => (intOf s).toNat)
  case atStart => exact ⟨x, [], rfl, hx, by simpa using hH.out.1, by simp, hH.out.2, hbase⟩
  case round =>
    clear hH hbase
    obtain ⟨y, pre, rfl, hy, ho, hu, hb, hbase⟩ := hrel
    have hp := uint_fst hx hu
    have H := Lib.hid hu
    clear hu
    by_cases hbig : y < 128
    · go_wp2_with (at_builtin; go_loud (refine app_own ho hb (.tmp 16) (.tmp 19) [.int .u8 (y : Int)] 141 _ _ Try.underlying141 info5 (by omega) (by decide) hbase rfl rfl rfl (by decide) rfl rfl rfl (by simp [Value.oneCell']) ?_); intro v1 w2 ho1 hb1 hg1 hat1)
      go_ret
      have hu := H.out
      rw [uintB_lo hbig] at hu
      refine ⟨_, rfl, ?_, hb1, Nat.le_trans hbase hg1.size⟩
      rw [hu, ← List.append_assoc, bvs_snoc, List.length_append, List.length_append]
      exact ho1
    · go_wp2_with (at_builtin; go_loud (refine app_own ho hb (.tmp 7) (.tmp 12) [_] 141 _ _ Try.underlying141 info5 (by omega) (by decide) hbase rfl rfl rfl (by decide) rfl rfl rfl (by simp [Value.oneCell']) ?_); intro v1 w2 ho1 hb1 hg1 hat1; have H1 := Lib.hid (And.intro ho1 hg1); clear ho1 hg1 hat1)
      go_roundw
      case rel =>
        refine ⟨y / 128, pre ++ [y % 128 + 128], by go_num, by omega, ?_, by rw [H.out, uintB_hi hbig]; simp, hb1, Nat.le_trans hbase H1.out.2.size⟩
        rw [List.length_append, ← List.append_assoc, bvs_snoc, ← Nat.add_assoc]
        exact H1.out.1
      case measure => simp [intOf]; omega
set_option maxHeartbeats 1000000 in
set_option maxRecDepth 100000 in
theorem abytes_calls (w0 w : World) (base : Nat) (v : Value) (l : List Nat) (s : ByteArray) (hs : s.size ≤ maxLen) (ho : w.ownsRow base 5 1 v l.length (bvs l)) (hb : Below base w0 w) (hbase : base ≤ w.heap.size) (hl : l.length + 11 + s.size ≤ 140737488355328) :
    Calls Try.prog 108 #[v, .string s] w fun e w' => ∃ v', e = .returned v' ∧ w'.ownsRow base 5 1 v' (l ++ textB (nums s)).length (bvs (l ++ textB (nums s))) ∧ Below base w0 w' ∧ base ≤ w'.heap.size := by
  have hul : (uintB s.size).length ≤ 10 := (uintB_64 (by unfold maxLen at hs; omega)).2
  have hH := Lib.hid (And.intro ho hb)
  have hs2 : s.size ≤ 9223372036854775807 := by unfold maxLen at hs; omega
  clear ho hb hs
  go_enter Try.func108, Try.ntmps108
  go_wp2_with fail
  refine (auint_calls w0 w base v l s.size (by omega) hH.out.1 hH.out.2 hbase (by omega)).mono ?_
  rintro e w1 ⟨v1, rfl, ho, hb, hbs⟩
  have hH := Lib.hid (And.intro ho hb)
  clear ho hb
  go_wp2_with fail
  go_loopw [0, 5] (fun u i wr => ∃ k : Nat, k ≤ s.size ∧ i = .int .i64 (k : Int) ∧ wr.ownsRow base 5 1 u ((l.length + (uintB s.size).length) + k) (bvs (l ++ uintB s.size ++ (nums s).take k)) ∧ Below base w0 wr ∧ base ≤ wr.heap.size) (fun _ i _ => s.size - (intOf i).toNat)
  case atStart => exact ⟨0, Nat.zero_le _, rfl, by simpa using hH.out.1, hH.out.2, hbs⟩
  case round =>
    clear hH hbs
    obtain ⟨k, hk, rfl, ho, hb, hbs⟩ := hrel
    by_cases hlt : k < s.size
    · have hat := nums_at s hlt
      have hkn : k < (nums s).length := by rw [nums_len]; exact hlt
      go_wp2_with (at_builtin; go_loud (refine app_own ho hb (.tmp 17) (.tmp 21) [.int .u8 ((s[k].toNat : Nat) : Int)] 141 _ _ Try.underlying141 info5 (by omega) (by decide) hbs rfl rfl rfl (by decide) rfl rfl rfl (by simp [Value.oneCell']) ?_); intro v1 w2 ho1 hb1 hg1 hat1; have H1 := Lib.hid (And.intro ho1 hg1); clear ho1 hg1 hat1)
      go_roundw
      case rel =>
        refine ⟨k + 1, by omega, by go_num, ?_, hb1, Nat.le_trans hbs H1.out.2.size⟩
        rw [List.take_succ_eq_append_getElem hkn, ← List.append_assoc, bvs_snoc, hat]
        exact H1.out.1
      case measure => simp [intOf]; omega
    · obtain rfl : k = s.size := by omega
      rw [List.take_of_length_le (by rw [nums_len]; omega)] at ho
      have H := Lib.hid ho
      clear ho
      go_wp2_with fail
      go_ret
      refine ⟨_, rfl, ?_, hb, hbs⟩
      unfold textB
      rw [← List.append_assoc, List.length_append, List.length_append, nums_len]
      exact H.out
theorem own_lit1 (w : World) (base n : Nat) (hb : base ≤ w.heap.size) : (w.alloc (.cells #[.int .u8 (n : Int)] 5)).ownsRow base 5 1 (.slice (some ⟨w.heap.size, 0, none⟩) 1 1) [n].length (bvs [n]) :=
  World.ownsRow_lit w #[.int .u8 (n : Int)] 1 hb (by decide) (by simp)
theorem own_two (W : World) (base gb : Nat) (x y : Value) (c : Nat) (hg : gb = W.heap.size) (hb : base ≤ gb) (h2 : 2 ≤ c) (hm : c ≤ maxLen) : ((W.alloc (.cells (#[x, y] ++ Builtin.zeroCells #[.int .u8 0] (c - 2)) 5)).drew).ownsRow base 5 1 (.slice (some ⟨gb, 0, none⟩) 2 c) 2 [x, y] :=
  ⟨by simp, .inr ⟨gb, c, _, rfl, hb, by subst hg; exact heap_alloc_new W _, h2, hm, by simp [size_zeroCells]; omega, by simp⟩⟩
theorem kinds2 {kd : Int} {Z : Prop} (h1 : kd = 1 → (kd == 1) = true → Z) (h2 : kd = 2 → (kd == 1) = false → (kd == 2) = true → Z) (h3 : kd = 3 → (kd == 1) = false → (kd == 2) = false → (kd == 3) = true → Z) (h4 : kd = 4 → (kd == 1) = false → (kd == 2) = false → (kd == 3) = false → (kd == 4) = true → Z) (h5 : kd = 5 → (kd == 1) = false → (kd == 2) = false → (kd == 3) = false → (kd == 4) = false → Z) (h6 : ¬ (1 ≤ kd ∧ kd ≤ 5) → Z) : Z := by
  by_cases a : 1 ≤ kd ∧ kd ≤ 5
  · refine kinds (kd := kd) ?_ ?_ ?_ ?_ ?_ ?_
    · intro h; exact h1 h (by subst h; rfl)
    · intro h; exact h2 h (by subst h; rfl) (by subst h; rfl)
    · intro h; exact h3 h (by subst h; rfl) (by subst h; rfl) (by subst h; rfl)
    · intro h; exact h4 h (by subst h; rfl) (by subst h; rfl) (by subst h; rfl) (by subst h; rfl)
    · intro h; exact h5 h (by subst h; rfl) (by subst h; rfl) (by subst h; rfl) (by subst h; rfl)
    · intro b1 b2 b3 b4 b5
      exfalso
      rw [beq_eq_false_iff_ne] at b1 b2 b3 b4 b5
      omega
  · exact h6 a
set_option maxHeartbeats 8000000 in
set_option maxRecDepth 100000 in
theorem rvencode_calls (w : World) (v : VV) (hv : VOk w v) : Calls Try.prog 80 #[.agg #[.int .i64 v.kind, .bool v.b, .int .i64 v.n, .float .f32 v.x, .string v.t, .slice v.A v.ss.length v.c]] w fun e w' => ∃ r er, e = .returned (.tuple #[r, .int .i64 er]) ∧ w'.ownsRow w.heap.size 5 1 r (encV v).length (bvs (encV v)) ∧ Below w.heap.size w w' := by
  have hAt := VAt.new w v
  have hal := below_alloc (Below.refl w.heap.size w) (.cells #[.int .i64 v.kind, .bool v.b, .int .i64 v.n, .float .f32 v.x, .string v.t, .slice v.A v.ss.length v.c] 147)
  have hsz : (w.alloc (.cells #[.int .i64 v.kind, .bool v.b, .int .i64 v.n, .float .f32 v.x, .string v.t, .slice v.A v.ss.length v.c] 147)).heap.size = w.heap.size + 1 := by simp
  have hvo := hv.keep hal
  have hlo := hv.low
  obtain ⟨vb, hvb⟩ : ∃ vb, vb = w.heap.size := ⟨_, rfl⟩
  have HH := Lib.hid (And.intro hAt (And.intro hal (And.intro hvo (And.intro hsz hvb))))
  have hfb : ∀ w', Below vb w w' → Below w.heap.size w w' := fun w' h => by rw [← hvb]; exact h
  rw [← hvb] at hlo
  have HFB := Lib.hid (And.intro hfb hlo)
  have HVB := Lib.hid hvb
  clear hfb hvb hv hlo hAt hal hvo hsz
  go_enter Try.func80, Try.ntmps80
  go_wp2_with fail
  generalize w.alloc (.cells #[.int .i64 v.kind, .bool v.b, .int .i64 v.n, .float .f32 v.x, .string v.t, .slice v.A v.ss.length v.c] 147) = W0 at *
  have hvb := HH.out.2.2.2.2
  rw [← hvb] at HH ⊢
  clear hvb
  refine (rmay_calls W0 v HH.out.2.2.1).mono ?_
  rintro e w1 ⟨hz, hb1⟩
  have hz0 : vb + 1 ≤ W0.heap.size := by have := HH.out.2.2.2.1; omega
  have hz1 : vb + 1 ≤ w1.heap.size := Nat.le_trans hz0 hb1.size
  have H1 := Lib.hid (And.intro (HH.out.1.keep hb1 (by omega)) (And.intro (HH.out.2.1.trans (hb1.mono (by omega))) (HH.out.2.2.1.keep hb1)))
  clear hb1 HH hz0
  rcases hz with ⟨hy, rfl⟩ | ⟨hno, rfl⟩
  · have he : encV v = encB v := by unfold encV; rw [if_pos hy]
    have HY := Lib.hid (And.intro hy he)
    clear hy he
    obtain ⟨kb, hkb⟩ : ∃ kb : Nat, kb = (v.kind % 256).toNat := ⟨_, rfl⟩
    have ek : v.kind % 256 = ((kb : Nat) : Int) := by omega
    have hkb2 : kb < 256 := by omega
    have HK := Lib.hid hkb
    obtain ⟨gb, hgb⟩ : ∃ gb, gb = w1.heap.size := ⟨_, rfl⟩
    have hal := below_alloc (Below.refl w1.heap.size w1) (.cells #[.int .u8 (v.kind % 256)] 5)
    have hown : (w1.alloc (.cells #[.int .u8 (v.kind % 256)] 5)).ownsRow (vb + 1) 5 1 (.slice (some ⟨w1.heap.size, 0, none⟩) 1 1) [kb].length (bvs [kb]) := by rw [ek]; exact own_lit1 w1 (vb + 1) kb hz1
    have hz2 : (w1.alloc (.cells #[.int .u8 (v.kind % 256)] 5)).heap.size = w1.heap.size + 1 := by simp
    have hA2 := H1.out.1.keep hal (by omega)
    have h1B := H1.out.2.1
    obtain ⟨W1, hW1⟩ : ∃ W1, W1 = w1.alloc (.cells #[.int .u8 (v.kind % 256)] 5) := ⟨_, rfl⟩
    have HW := Lib.hid (And.intro hgb (And.intro hW1 hown))
    have hk2 := H1.out.2.2.keep hal
    have hbA := H1.out.2.1.trans (hal.mono (by omega))
    rw [← hW1] at hk2 hbA hA2 hown hz2
    rw [← hgb] at hown hz2
    have H2 := Lib.hid (And.intro hA2 (And.intro hbA (And.intro hk2 (encB_len HY.out.1 H1.out.2.2.n))))
    have hvg : vb + 1 ≤ W1.heap.size := by omega
    have hlt : vb < w1.heap.size := by omega
    have HO := Lib.hid hown
    have p0 := H1.out.1.c0
    have p1 := H1.out.1.c1
    have p2 := H1.out.1.c2
    have p3 := H1.out.1.c3
    have p4 := H1.out.1.c4
    have p5 := H1.out.1.c5
    simp only [Nat.zero_add] at p1 p2 p3 p4 p5
    have hl1 : [kb].length = 1 := rfl
    have HEK := Lib.hid ek
    clear hkb hgb hal hown hA2 hW1 hk2 hbA ek hz2
    refine kinds2 (kd := v.kind) ?_ ?_ ?_ ?_ ?_ ?_
    · as_aux_lemma =>
      intro hk b1
      have hB : encB v = [kb] ++ [bn v.b] := by unfold encB; rw [if_pos hk, ← HK.out]
      have HKD := Lib.hid hk
      clear hk
      cases hbv : v.b
      · rw [hbv] at p1 hB
        have HBv := Lib.hid hB
        clear hB hbv
        go_wp2_with fail
        go_ret2
        refine ⟨_, 0, rfl, ?_, HFB.out.1 _ ?_⟩
        · rw [HY.out.2, HBv.out]
          show World.ownsRow _ _ _ _ _ 2 [.int .u8 ((kb : Nat) : Int), .int .u8 0]
          rw [← HEK.out]
          exact own_two _ _ _ _ _ _ (by simp) (by have := HVB.out; omega) (grownCap_ge w1 2 1 5) (grownCap_le_maxLen w1 2 1 5 (by decide))
        · exact (((h1B.alloc (by omega) _).alloc (by simp; omega) _).alloc (by simp; omega) _).drew
      · rw [hbv] at p1 hB
        have HBv := Lib.hid hB
        clear hB hbv
        go_wp2_with fail
        go_ret2
        refine ⟨_, 0, rfl, ?_, HFB.out.1 _ ?_⟩
        · rw [HY.out.2, HBv.out]
          show World.ownsRow _ _ _ _ _ 2 [.int .u8 ((kb : Nat) : Int), .int .u8 1]
          rw [← HEK.out]
          exact own_two _ _ _ _ _ _ (by simp) (by have := HVB.out; omega) (grownCap_ge w1 2 1 5) (grownCap_le_maxLen w1 2 1 5 (by decide))
        · exact (((h1B.alloc (by omega) _).alloc (by simp; omega) _).alloc (by simp; omega) _).drew
    · as_aux_lemma =>
      intro hk b1 b2
      have hB : encB v = [kb] ++ uintB (turnN v.n) := by unfold encB; rw [if_neg (by omega)]; rw [if_pos hk, ← HK.out]
      have HKD := Lib.hid hk
      clear hk
      have hn := H2.out.2.2.1.n
      have hlt := turnN_lt hn
      have hcalls := auint_calls W1 W1 (vb + 1) (.slice (some ⟨gb, 0, none⟩) 1 1) [kb] (turnN v.n) hlt HO.out (Below.refl _ _) hvg (by simp)
      have HBv := Lib.hid hB
      clear hB
      by_cases h0 : v.n < 0
      · have hT : ((turnN v.n : Nat) : Int) = -(v.n + 1) * 2 + 1 := by unfold turnN; rw [if_neg (by omega)]; omega
        rw [hT] at hcalls
        have HC := Lib.hid hcalls
        clear hcalls hT hlt
        go_wp2_with fail
        rw [← HW.out.1, ← HW.out.2.1]
        refine HC.out.mono ?_
        rintro e w2 ⟨v1, rfl, ho, hb, hs⟩
        have HA := Lib.hid (And.intro ho hb)
        clear ho hb hs
        go_wp2_with fail
        go_ret2
        refine ⟨v1, 0, rfl, ?_, HFB.out.1 _ (H2.out.2.1.trans (HA.out.2.mono (by omega)))⟩
        rw [HY.out.2, HBv.out]
        exact own_mono HA.out.1 (by have := HVB.out; omega)
      · have hT : ((turnN v.n : Nat) : Int) = v.n * 2 := by unfold turnN; rw [if_pos (by omega)]; omega
        rw [hT] at hcalls
        have HC := Lib.hid hcalls
        clear hcalls hT hlt
        go_wp2_with fail
        rw [← HW.out.1, ← HW.out.2.1]
        refine HC.out.mono ?_
        rintro e w2 ⟨v1, rfl, ho, hb, hs⟩
        have HA := Lib.hid (And.intro ho hb)
        clear ho hb hs
        go_wp2_with fail
        go_ret2
        refine ⟨v1, 0, rfl, ?_, HFB.out.1 _ (H2.out.2.1.trans (HA.out.2.mono (by omega)))⟩
        rw [HY.out.2, HBv.out]
        exact own_mono HA.out.1 (by have := HVB.out; omega)
    · as_aux_lemma =>
      intro hk b1 b2 b3
      have hB : encB v = [kb] ++ four (keyR v.x) := by unfold encB; rw [if_neg (by omega)]; rw [if_neg (by omega)]; rw [if_pos hk, ← HK.out]
      have HKD := Lib.hid hk
      clear hk
      have hx := H2.out.2.2.1.x
      have hkx := keyR_lt hx
      have hc := rkey_calls W1 v.x hx
      have HBv := Lib.hid hB
      generalize keyR v.x = K at *
      have hI : (K : Int) ≤ 4294967295 := by omega
      clear hB hx
      go_wp2_with fail
      rw [← HW.out.1, ← HW.out.2.1]
      refine hc.mono ?_
      rintro e w2 ⟨rfl, rfl⟩
      clear hc
      have hcell : (#[.int .u8 ((K : Int) / 16777216), .int .u8 ((K : Int) / 65536 % 256), .int .u8 ((K : Int) / 256 % 256), .int .u8 ((K : Int) % 256)] : Array Value) = (bvs (four K)).toArray := by
        have e1 : (K : Int) / 16777216 = ((K / 16777216 % 256 : Nat) : Int) := by omega
        have e2 : (K : Int) / 65536 % 256 = ((K / 65536 % 256 : Nat) : Int) := by omega
        have e3 : (K : Int) / 256 % 256 = ((K / 256 % 256 : Nat) : Int) := by omega
        have e4 : (K : Int) % 256 = ((K % 256 : Nat) : Int) := by omega
        rw [e1, e2, e3, e4]
        rfl
      have HC := Lib.hid hcell
      clear hcell
      have hbr := Below.refl (vb + 1) w2
      go_wp2_with (at_builtin; rw [HC.out]; go_loud (refine app_sl (HO.out.alloc _) (sl_cells w2 (four K)) (.tmp 51) (.tmp 63) 141 _ _ Try.underlying141 info5 (by simp [four]) (by decide) (by simp; omega) rfl rfl rfl rfl rfl (bvs_one _) ?_); intro v1 w3 ho1 hg1 hat1; have HA := Lib.hid (And.intro ho1 hg1); clear ho1 hg1 hat1)
      go_ret2
      have hbA : Below (vb + 1) w2 w3 := by
        have hg := HA.out.2
        refine ⟨hg.os, hg.tape, hg.output, Nat.le_trans (by simp) hg.size, fun k hk => ?_⟩
        have hkl : k < w2.heap.size := by omega
        rw [hg.block k (by simp; omega) (fun e => by have := own_base HO.out k e.symm; omega)]
        exact (below_alloc (Below.refl w2.heap.size w2) _).block k hkl
      refine ⟨v1, 0, rfl, ?_, HFB.out.1 _ (H2.out.2.1.trans (hbA.mono (by omega)))⟩
      rw [HY.out.2, HBv.out, bvs_app, List.length_append]
      exact own_mono HA.out.1 (by have := HVB.out; omega)
    · as_aux_lemma =>
      intro hk b1 b2 b3 b4
      have hB : encB v = [kb] ++ textB (nums v.t) := by unfold encB; rw [if_neg (by omega)]; rw [if_neg (by omega)]; rw [if_neg (by omega)]; rw [if_pos hk, ← HK.out]
      have HKD := Lib.hid hk
      clear hk
      have HBv := Lib.hid hB
      clear hB
      go_wp2_with fail
      rw [← HW.out.1, ← HW.out.2.1]
      refine (abytes_calls W1 W1 (vb + 1) _ [kb] v.t H2.out.2.2.1.t HO.out (Below.refl _ _) hvg (by have := HY.out.1.1; simp; omega)).mono ?_
      rintro e w2 ⟨v1, rfl, ho, hb, hs⟩
      have HA := Lib.hid (And.intro ho hb)
      clear ho hb hs
      go_wp2_with fail
      go_ret2
      refine ⟨v1, 0, rfl, ?_, HFB.out.1 _ (H2.out.2.1.trans (HA.out.2.mono (by omega)))⟩
      rw [HY.out.2, HBv.out]
      exact own_mono HA.out.1 (by have := HVB.out; omega)
    · as_aux_lemma =>
      intro hk b1 b2 b3 b4
      have hB : encB v = [kb] ++ (uintB v.ss.length ++ (v.ss.map fun s => textB (nums s)).flatten) := by unfold encB; rw [if_neg (by omega), if_neg (by omega), if_neg (by omega), if_neg (by omega), ← HK.out]
      have HKD := Lib.hid hk
      clear hk
      have hl32 : v.ss.length ≤ 32 := HY.out.1.2.1
      go_wp2_with fail
      rw [← HW.out.1, ← HW.out.2.1]
      refine (auint_calls W1 W1 (vb + 1) _ [kb] v.ss.length (by omega) HO.out (Below.refl _ _) hvg (by simp)).mono ?_
      rintro e w3 ⟨v1, rfl, hN, hbN, hs3⟩
      have hul := (uintB_64 (show v.ss.length < 18446744073709551616 by omega)).2
      have H4 := Lib.hid (And.intro hN (And.intro hbN (And.intro hB hul)))
      clear hN hbN hB hul
      have p5 := (H2.out.1.keep H4.out.2.1 (by omega)).c5
      simp only [Nat.zero_add] at p5
      go_wp2_with fail
      go_loopw [4, 6] (fun u s6 wr => ∃ k : Nat, k ≤ v.ss.length ∧ s6 = .int .i64 (k : Int) ∧ wr.ownsRow (vb + 1) 5 1 u ([kb] ++ uintB v.ss.length ++ ((v.ss.take k).map fun s => textB (nums s)).flatten).length (bvs ([kb] ++ uintB v.ss.length ++ ((v.ss.take k).map fun s => textB (nums s)).flatten)) ∧ Below (vb + 1) W1 wr ∧ vb + 1 ≤ wr.heap.size) (fun _ i _ => v.ss.length - (intOf i).toNat)
      case atStart => exact ⟨0, Nat.zero_le _, rfl, by simpa using H4.out.1, H4.out.2.1, hs3⟩
      case round =>
        clear hs3
        obtain ⟨k, hk5, rfl, hW, hb, hs⟩ := hrel
        have p5 := (H2.out.1.keep hb (by omega)).c5
        simp only [Nat.zero_add] at p5
        by_cases hlt : k < v.ss.length
        · have hvk := H2.out.2.2.1.below hb (fun b off e h => Nat.lt_succ_of_lt (HFB.out.2 b off e h))
          obtain ⟨b, off, hA, hc⟩ := PC.rd_str hvk.rd hlt
          have hsz : v.ss[k].size ≤ maxLen := hvk.each _ (List.getElem_mem hlt)
          have h256 : v.ss[k].size ≤ 256 := HY.out.1.2.2.1 _ (List.getElem_mem hlt)
          have htl := texts_len (ss := v.ss.take k) (fun s hs => HY.out.1.2.2.1 s (List.mem_of_mem_take hs))
          have H5 := Lib.hid (And.intro hW (And.intro hb (And.intro hsz (And.intro h256 htl))))
          have hsz2 : v.ss[k].size ≤ 9223372036854775807 := by omega
          clear hW hb hvk hsz htl h256
          rw [hA] at p5
          clear hA
          go_wp2_with fail
          refine (abytes_calls W1 wr (vb + 1) _ _ v.ss[k] H5.out.2.2.1 H5.out.1 H5.out.2.1 hs (by
            have h1 := H5.out.2.2.2.2
            have h2 := H5.out.2.2.2.1
            have h3 := H4.out.2.2.2
            rw [List.length_take] at h1
            simp only [List.length_append, List.length_cons, List.length_nil]
            omega)).mono ?_
          rintro e w5 ⟨v5, rfl, hN, hbN, hs5⟩
          have H6 := Lib.hid (And.intro hN (And.intro hbN hs5))
          clear hN hbN hs5
          go_wp2_with fail
          go_roundw
          case rel =>
            refine ⟨k + 1, by omega, by go_num, ?_, H6.out.2.1, H6.out.2.2⟩
            have h := H6.out.1
            rw [List.take_succ_eq_append_getElem hlt, List.map_append, List.flatten_append]
            simp only [List.map_cons, List.map_nil, List.flatten_cons, List.flatten_nil, List.append_nil]
            simpa [List.append_assoc] using h
          case measure => simp [intOf]; omega
        · obtain rfl : v.ss.length = k := by omega
          rw [List.take_length, List.append_assoc, ← H4.out.2.2.1] at hW
          have HA := Lib.hid (And.intro hW hb)
          clear hW hb
          go_wp2_with fail
          go_ret2
          refine ⟨_, 0, rfl, ?_, HFB.out.1 _ (H2.out.2.1.trans (HA.out.2.mono (by omega)))⟩
          rw [HY.out.2]
          exact own_mono HA.out.1 (by have := HVB.out; omega)
    · intro hno
      exact absurd ⟨HY.out.1.2.2.2.1, HY.out.1.2.2.2.2.1⟩ hno
  · have he : encV v = [] := by unfold encV; rw [if_neg hno]
    have HN := Lib.hid he
    clear hno he
    go_wp2_with fail
    go_ret2
    refine ⟨_, 40, rfl, ?_, HFB.out.1 _ H1.out.2.1⟩
    rw [HN.out]
    exact World.ownsRow_nil _ _ _ _
end Go.Proofs.Ytdbccemllaehjaa.PK
