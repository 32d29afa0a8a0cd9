/- The reference's bytes, walked: Uint, joined, Text, Sum. -/
import Derived.Test.YtdbccemllaehjaaGg
import Derived.Test.YtdbccemllaehjaaGh
namespace Go.Proofs.Ytdbccemllaehjaa.PG
open Go.RowKit Go.Proofs.YtdbccemllaehjaaKw Go.Proofs.YtdbccemllaehjaaGa
set_option linter.unusedVariables false
set_option linter.unusedSimpArgs false
theorem bvs_snoc (l : List Nat) (x : Nat) : bvs (l ++ [x]) = bvs l ++ [.int .u8 ((x : Nat) : Int)] := by simp [bvs]
set_option maxHeartbeats 1000000 in
set_option maxRecDepth 100000 in
theorem ruint_calls (w : World) (x : Nat) (hx : x < 18446744073709551616) :
    Calls Try.prog 79 #[.int .u64 (x : Int)] w fun e w' => ∃ v, e = .returned v ∧ w'.ownsRow w.heap.size 5 1 v (uintB x).length (bvs (uintB x)) ∧ Below w.heap.size w w' := by
  go_enter Try.func79, Try.ntmps79
  go_wp2_with fail
  go_loopw [0, 3] (fun s v wr => ∃ (y : Nat) (pre : List Nat), s = .int .u64 (y : Int) ∧ y < 18446744073709551616 ∧ wr.ownsRow w.heap.size 5 1 v pre.length (bvs pre) ∧ uintB x = pre ++ uintB y ∧ Below w.heap.size w wr) (fun s _ _ => (intOf s).toNat)
  case atStart => exact ⟨x, [], rfl, hx, World.ownsRow_nil _ _ _ _, by simp, Below.refl _ _⟩
  case round =>
    obtain ⟨y, pre, rfl, hy, ho, hu, hb⟩ := hrel
    have hp := uint_fst hx hu
    have H := Lib.hid hu
    clear hu
    by_cases hbig : y < 128
    · go_wp2_with (at_builtin; go_loud (refine app_own ho hb (.tmp 15) (.tmp 18) [.int .u8 (y : Int)] 141 _ _ Try.underlying141 info5 (by omega) (by decide) hb.size rfl rfl rfl (by decide) rfl rfl rfl (by simp [Value.oneCell']) ?_); intro v1 w2 ho1 hb1 hg1 hat1)
      go_ret
      have hu := H.out
      rw [uintB_lo hbig] at hu
      refine ⟨_, rfl, ?_, hb1⟩
      rw [hu, bvs_snoc, List.length_append]
      exact ho1
    · go_wp2_with (at_builtin; go_loud (refine app_own ho hb (.tmp 6) (.tmp 11) [_] 141 _ _ Try.underlying141 info5 (by omega) (by decide) hb.size rfl rfl rfl (by decide) rfl rfl rfl (by simp [Value.oneCell']) ?_); intro v1 w2 ho1 hb1 hg1 hat1; have H1 := Lib.hid ho1; clear ho1 hg1 hat1)
      go_roundw
      case rel =>
        refine ⟨y / 128, pre ++ [y % 128 + 128], by go_num, by omega, ?_, by rw [H.out, uintB_hi hbig]; simp, hb1⟩
        rw [List.length_append, bvs_snoc]
        exact H1.out
      case measure => simp [intOf]; omega
set_option maxHeartbeats 1000000 in
set_option maxRecDepth 100000 in
theorem joined_calls (w0 w : World) (base : Nat) (v : Value) (l m : List Nat) (A : Option Addr) (c : Nat) (ho : w.ownsRow base 5 1 v l.length (bvs l)) (hb : Below base w0 w) (hbase : base ≤ w.heap.size) (hs : Sl w A m.length c (bvs m)) (hne : ∀ b off, A = some ⟨b, off, none⟩ → v.ownBlock ≠ some b) (hl : l.length + m.length ≤ 140737488355328) :
    Calls Try.prog 77 #[v, .slice A m.length c] w fun e w' => ∃ v', e = .returned v' ∧ w'.ownsRow base 5 1 v' (l.length + m.length) (bvs (l ++ m)) ∧ Below base w0 w' ∧ w.heap.size ≤ w'.heap.size := by
  obtain ⟨wh, hwh⟩ : ∃ wh, wh = w.heap.size := ⟨_, rfl⟩
  rw [← hwh] at hbase ⊢
  have hH := Lib.hid (And.intro ho (And.intro hb (And.intro hs (And.intro hne hwh))))
  clear ho hb hs hne hwh
  go_enter Try.func77, Try.ntmps77
  go_wp2_with fail
  go_loopw [0, 5] (fun u s wr => ∃ k : Nat, k ≤ m.length ∧ s = .int .i64 (k : Int) ∧ wr.ownsRow base 5 1 u (l.length + k) (bvs (l ++ m.take k)) ∧ Below base w0 wr ∧ Sl wr A m.length c (bvs m) ∧ (∀ b off, A = some ⟨b, off, none⟩ → u.ownBlock ≠ some b) ∧ wh ≤ wr.heap.size) (fun _ s _ => m.length - (intOf s).toNat)
  case atStart => exact ⟨0, Nat.zero_le _, rfl, by simpa using hH.out.1, hH.out.2.1, hH.out.2.2.1, hH.out.2.2.2.1, by rw [hH.out.2.2.2.2]; exact Nat.le_refl _⟩
  case round =>
    clear hH
    obtain ⟨k, hk, rfl, ho, hb, hs, hne, hsz⟩ := hrel
    by_cases hlt : k < m.length
    · obtain ⟨b, off, rfl, hc⟩ := rd_byte hs.rd hlt
      have hcb : b < wr.heap.size := World.block_lt_of_cell? wr _ hc
      have HK := Lib.hid (And.intro hs (And.intro hne hsz))
      have hsz2 : base ≤ wr.heap.size := by omega
      clear hs hne
      go_wp2_with (at_builtin; go_loud (refine app_own ho hb (.tmp 12) (.tmp 17) [.int .u8 ((m[k] : Nat) : Int)] 141 _ _ Try.underlying141 info5 (by omega) (by decide) hsz2 rfl rfl rfl (by decide) rfl rfl rfl (by simp [Value.oneCell']) ?_); intro v1 w2 ho1 hb1 hg1 hat1; have H1 := Lib.hid (And.intro ho1 (And.intro hg1 hat1)); clear ho1 hg1 hat1)
      go_roundw
      case rel =>
        obtain ⟨ho1, hg1, hat1⟩ := H1.out
        obtain ⟨hs, hne, hsz⟩ := HK.out
        refine ⟨k + 1, by omega, by go_num, ?_, hb1, ?_, ?_, Nat.le_trans hsz hg1.size⟩
        · rw [List.take_succ_eq_append_getElem hlt, ← List.append_assoc, bvs_snoc]
          exact ho1
        · obtain ⟨hm, ⟨h0, _⟩ | ⟨b', off', e, hlt', hc'⟩⟩ := hs
          · cases h0
          · cases e
            exact ⟨hm, .inr ⟨b, off, rfl, Nat.lt_of_lt_of_le hlt' hg1.size, fun j u hu => (World.cell?_of_block (a := ⟨b, off + j, none⟩) (hg1.block b hlt' (fun e => hne b off rfl e.symm))).trans (hc' j u hu)⟩⟩
        · intro b' off' e
          cases e
          rcases hat1 with h | ⟨g, h, hge⟩
          · rw [h]; exact hne b off rfl
          · rw [h]; intro e; cases e; omega
      case measure => simp [intOf]; omega
    · obtain rfl : m.length = k := by omega
      rw [List.take_length] at ho
      go_wp2_with fail
      go_ret
      exact ⟨_, rfl, ho, hb, hsz⟩
set_option maxHeartbeats 1000000 in
set_option maxRecDepth 100000 in
theorem rtext_calls (w : World) (s : ByteArray) (hs : s.size ≤ 140737488351232) :
    Calls Try.prog 78 #[.string s] w fun e w' => ∃ v, e = .returned v ∧ w'.ownsRow w.heap.size 5 1 v (textB (nums s)).length (bvs (textB (nums s))) ∧ Below w.heap.size w w' := by
  have hul : (uintB s.size).length ≤ 10 := (uintB_64 (by omega)).2
  go_enter Try.func78, Try.ntmps78
  go_wp2_with fail
  refine (ruint_calls w s.size (by omega)).mono ?_
  rintro e w1 ⟨v, rfl, ho, hb⟩
  have hH := Lib.hid (And.intro ho hb)
  clear ho hb
  go_wp2_with fail
  go_loopw [3, 4] (fun u i wr => ∃ k : Nat, k ≤ s.size ∧ i = .int .i64 (k : Int) ∧ wr.ownsRow w.heap.size 5 1 u ((uintB s.size).length + k) (bvs (uintB s.size ++ (nums s).take k)) ∧ Below w.heap.size w wr) (fun _ i _ => s.size - (intOf i).toNat)
  case atStart => exact ⟨0, Nat.zero_le _, rfl, by simpa using hH.out.1, hH.out.2⟩
  case round =>
    clear hH
    obtain ⟨k, hk, rfl, ho, hb⟩ := hrel
    by_cases hlt : k < s.size
    · have hat := nums_at s hlt
      have hkn : k < (nums s).length := by rw [nums_len]; exact hlt
      go_wp2_with (at_builtin; go_loud (refine app_own ho hb (.tmp 15) (.tmp 19) [.int .u8 ((s[k].toNat : Nat) : Int)] 141 _ _ Try.underlying141 info5 (by omega) (by decide) hb.size rfl rfl rfl (by decide) rfl rfl rfl (by simp [Value.oneCell']) ?_); intro v1 w2 ho1 hb1 hg1 hat1; have H1 := Lib.hid ho1; clear ho1 hg1 hat1)
      go_roundw
      case rel =>
        refine ⟨k + 1, by omega, by go_num, ?_, hb1⟩
        rw [List.take_succ_eq_append_getElem hkn, ← List.append_assoc, bvs_snoc, hat]
        exact H1.out
      case measure => simp [intOf]; omega
    · obtain rfl : k = s.size := by omega
      rw [List.take_of_length_le (by rw [nums_len]; omega)] at ho
      have H := Lib.hid ho
      clear ho
      go_wp2_with fail
      go_ret
      refine ⟨_, rfl, ?_, hb⟩
      unfold textB
      rw [List.length_append, nums_len]
      exact H.out
set_option maxHeartbeats 1000000 in
set_option maxRecDepth 100000 in
theorem rsum_calls (w : World) (l : List Nat) (A : Option Addr) (c : Nat) (hr : Rd w A (bvs l)) (hl : l.length ≤ 140737488355328) (hd : Dig 256 l) :
    Calls Try.prog 81 #[.slice A l.length c] w fun e w' => e = .returned (.int .u64 (sumB l : Int)) ∧ w' = w := by
  go_enter Try.func81, Try.ntmps81
  go_wp2_with fail
  go_loopw [3, 4] (fun s i wr => ∃ (k : Nat), k ≤ l.length ∧ i = .int .i64 (k : Int) ∧ s = .int .u64 (sumB (l.take k) : Int) ∧ wr = w) (fun _ i _ => l.length - (intOf i).toNat)
  case atStart => exact ⟨0, Nat.zero_le _, rfl, rfl, rfl⟩
  case round =>
    obtain ⟨k, hk, rfl, rfl, rfl⟩ := hrel
    by_cases hlt : k < l.length
    · obtain ⟨b, off, rfl, hc⟩ := rd_byte hr hlt
      have hdk : l[k] < 256 := hd _ (List.getElem_mem hlt)
      go_wp2_with fail
      have e1 := bxor64 (sumB (l.take k)) l[k] (sumB_lt _) (by omega)
      have e2 : IntKind.u64.wrap (l[k] : Int) = (l[k] : Int) := wraps_u64 _ (by omega) (by omega)
      first | rw [e2, e1] | rw [e1]
      go_roundw
      case rel =>
        refine ⟨k + 1, by omega, by go_num, ?_, trivial⟩
        rw [List.take_succ_eq_append_getElem hlt, sumB_snoc]
        simp [IntKind.wrap, IntKind.bits, IntKind.signed]
      case measure => simp [intOf]; omega
    · obtain rfl : l.length = k := by omega
      rw [List.take_length]
      go_wp2_with fail
      go_ret
      exact ⟨rfl, rfl⟩
end Go.Proofs.Ytdbccemllaehjaa.PG
