/- The reference's Encode, walked. -/
import Derived.Test.YtdbccemllaehjaaGj
namespace Go.Proofs.Ytdbccemllaehjaa.PG
open Go.RowKit Go.Proofs.YtdbccemllaehjaaKw Go.Proofs.YtdbccemllaehjaaGa
set_option linter.unusedVariables false
set_option linter.unusedSimpArgs false
theorem own_sep {w1 w2 : World} {base n m c : Nat} {v : Value} {xs ys : List Value} {A : Option Addr} (h : w1.ownsRow base 5 1 v n xs) (h2 : w2.ownsRow w1.heap.size 5 1 (.slice A m c) m ys) : ∀ b off, A = some ⟨b, off, none⟩ → v.ownBlock ≠ some b := by
  intro b off e hv
  subst e
  have h1 := (h.lt b hv).2
  rcases h2.2 with ⟨hn, _⟩ | ⟨g, cap, cur, hg, hbg, _⟩
  · simp at hn
  · simp only [Value.slice.injEq, Option.some.injEq, Addr.mk.injEq] at hg
    omega
set_option maxHeartbeats 4000000 in
set_option maxRecDepth 100000 in
theorem rencode_calls (w : World) (key : Nat) (r : Int) (last : ByteArray) (hk : key < 18446744073709551616) (hr : -9223372036854775808 ≤ r ∧ r ≤ 9223372036854775807) (hls : last.size ≤ maxLen) :
    Calls Try.prog 48 #[.agg #[.int .u64 (key : Int), .int .i64 r, .string last]] w fun e w' => EncAns key r last e ∧ Below w.heap.size w w' := by
  have hP := PinAt.new w key r last
  have hA := below_alloc (Below.refl w.heap.size w) (.cells #[.int .u64 (key : Int), .int .i64 r, .string last] 87)
  have hsz : (w.alloc (.cells #[.int .u64 (key : Int), .int .i64 r, .string last] 87)).heap.size = w.heap.size + 1 := by simp
  have HH := Lib.hid (And.intro hP (And.intro hA hsz))
  clear hP hA hsz
  obtain ⟨pb, hpb⟩ : ∃ pb, pb = w.heap.size := ⟨_, rfl⟩
  go_enter Try.func48, Try.ntmps48
  go_wp2_with fail
  generalize w.alloc (.cells #[.int .u64 (key : Int), .int .i64 r, .string last] 87) = W0 at *
  have hP0 : PinAt W0 pb key r last := by rw [hpb]; exact HH.out.1
  have hs0 : W0.heap.size = pb + 1 := by rw [hpb]; exact HH.out.2.2
  have hA0 : Below w.heap.size w W0 := HH.out.2.1
  have hf : ∀ w', Below (pb + 1) W0 w' → Below w.heap.size w w' := fun w' h => hA0.trans (h.mono (by omega))
  rw [← hpb]
  clear HH
  refine (may_calls _ key r last hr hls).mono ?_
  rintro e w1 ⟨hm, hb1⟩
  rw [hs0] at hb1
  have H1 := Lib.hid (And.intro (hP0.keep hb1 (by omega)) (And.intro hb1 hf))
  have hz1 : pb + 1 ≤ w1.heap.size := by have := hb1.size; omega
  clear hb1 hP0 hA0 hf hpb hs0
  rcases hm with ⟨hno, rfl⟩ | ⟨hyes, rfl⟩
  · have HN := Lib.hid hno
    clear hno
    go_wp2_with fail
    go_ret2
    exact ⟨.inl ⟨HN.out, rfl⟩, H1.out.2.2 _ H1.out.2.1⟩
  obtain ⟨rn, rfl⟩ := Int.eq_ofNat_of_zero_le hyes.1
  have hok := enc_ok (key := key) (rev := rn) (last := nums last) hk (by have := hyes.2.1; omega) (nums_dig last) (by rw [nums_len]; exact hyes.2.2.2.1)
  have hrn : rn ≤ 4611686018427387904 := by have := hyes.2.1; omega
  have hls2 : last.size ≤ 64 := hyes.2.2.2.1
  have HN := Lib.hid (And.intro hyes (And.intro hok H1.out.2.2))
  have q0 := H1.out.1.c0
  clear hyes hok
  go_wp2_with fail
  refine (ruint_calls w1 key hk).mono ?_
  rintro e w2 ⟨v2, rfl, ho2, hb2⟩
  have hl2 := (uintB_64 hk).2
  have hP2 := H1.out.1.keep hb2 (by omega)
  have hz2 : pb + 1 ≤ w2.heap.size := by have := hb2.size; omega
  have q2 := hP2.c1
  have H2 := Lib.hid (And.intro hP2 (And.intro (H1.out.2.1.trans (hb2.mono hz1)) (own_mono ho2 hz1)))
  clear hb2 ho2 hP2 q0 H1 hz1
  go_wp2_with fail
  refine (turned_calls w2 rn hrn).mono ?_
  rintro e w2' ⟨rfl, rfl⟩
  go_wp2_with fail
  refine (ruint_calls w2' (2 * rn) (by omega)).mono ?_
  rintro e w3 ⟨v3, rfl, ho3, hb3⟩
  have hl3 := (uintB_64 (show 2 * rn < 18446744073709551616 by omega)).2
  obtain ⟨A3, c3, rfl, hs3⟩ := own_sl ho3
  have hz3 : pb + 1 ≤ w3.heap.size := by have := hb3.size; omega
  have H3 := Lib.hid (And.intro (H2.out.1.keep hb3 (by omega)) (And.intro (H2.out.2.1.trans (hb3.mono hz2)) (And.intro (own_keep H2.out.2.2 hb3) (And.intro hs3 (own_sep H2.out.2.2 ho3)))))
  clear hb3 ho3 q2 H2 hs3 hz2
  go_wp2_with fail
  refine (joined_calls w3 w3 (pb + 1) v2 (uintB key) (uintB (2 * rn)) A3 c3 H3.out.2.2.1 (Below.refl _ _) hz3 H3.out.2.2.2.1 H3.out.2.2.2.2 (by omega)).mono ?_
  rintro e w4 ⟨v4, rfl, ho4, hb4, hs4⟩
  have hz4 : pb + 1 ≤ w4.heap.size := by omega
  have hP4 := H3.out.1.keep hb4 (by omega)
  have q4 := hP4.c2
  have H4 := Lib.hid (And.intro hP4 (And.intro (H3.out.2.1.trans hb4) ho4))
  clear hb4 ho4 hP4 H3 hz3 hs4
  go_wp2_with fail
  refine (rtext_calls w4 last (by omega)).mono ?_
  rintro e w5 ⟨v5, rfl, ho5, hb5⟩
  obtain ⟨A5, c5, rfl, hs5⟩ := own_sl ho5
  have hz5 : pb + 1 ≤ w5.heap.size := by have := hb5.size; omega
  have ho5' := own_keep H4.out.2.2 hb5
  rw [← List.length_append] at ho5'
  have htl : (textB (nums last)).length ≤ 74 := by
    unfold textB
    rw [List.length_append, nums_len]
    have := (uintB_64 (show last.size < 18446744073709551616 by omega)).2
    omega
  have H5 := Lib.hid (And.intro (H4.out.2.1.trans (hb5.mono hz4)) (And.intro ho5' (And.intro hs5 (own_sep H4.out.2.2 ho5))))
  clear hb5 ho5 ho5' q4 H4 hs5 hz4
  go_wp2_with fail
  refine (joined_calls w5 w5 (pb + 1) v4 (uintB key ++ uintB (2 * rn)) (textB (nums last)) A5 c5 H5.out.2.1 (Below.refl _ _) hz5 H5.out.2.2.1 H5.out.2.2.2 (by rw [List.length_append]; omega)).mono ?_
  rintro e w6 ⟨v6, rfl, ho6, hb6, hs6⟩
  have hz6 : pb + 1 ≤ w6.heap.size := by omega
  rw [← List.length_append, List.append_assoc] at ho6
  have ho6 : w6.ownsRow (pb + 1) 5 1 v6 (headB key rn (nums last)).length (bvs (headB key rn (nums last))) := ho6
  have hhl := HN.out.2.1.2.1
  obtain ⟨A6, c6, rfl, hs6'⟩ := own_sl ho6
  have hr6 := hs6'.rd
  have hdg : Dig 256 (headB key rn (nums last)) := fun d hd => HN.out.2.1.1 d (by unfold encB; exact List.mem_append_left _ hd)
  have H6 := Lib.hid (And.intro (H5.out.1.trans hb6) ho6)
  clear hb6 ho6 H5 hz5 hs6 hs6'
  go_wp2_with fail
  refine (rsum_calls w6 _ A6 c6 hr6 (by omega) hdg).mono ?_
  rintro e w7 ⟨rfl, rfl⟩
  clear hr6 hdg htl hl2 hl3
  have hsum := sumB_lt (headB key rn (nums last))
  obtain ⟨sm, hsm⟩ : ∃ sm, sm = sumB (headB key rn (nums last)) := ⟨_, rfl⟩
  have hen : encB key rn (nums last) = headB key rn (nums last) ++ top8 sm 8 := by rw [hsm]; rfl
  have HE := Lib.hid hen
  rw [← hsm] at hsum ⊢
  clear hsm hen
  obtain ⟨hd, hhd⟩ : ∃ hd, hd = headB key rn (nums last) := ⟨_, rfl⟩
  rw [← hhd] at HE H6 hhl ⊢
  clear hhd
  go_wp2_with fail
  go_loopw [4, 6] (fun v s wr => ∃ j : Nat, j ≤ 8 ∧ s = .int .i64 (j : Int) ∧ wr.ownsRow (pb + 1) 5 1 v (hd.length + j) (bvs (hd ++ top8 sm j)) ∧ Below (pb + 1) W0 wr ∧ pb + 1 ≤ wr.heap.size) (fun _ s _ => (8 - intOf s).toNat)
  case atStart => exact ⟨0, by omega, by go_num, by simpa [top8] using H6.out.2, H6.out.1, hz6⟩
  case round =>
    clear H6 hz6
    obtain ⟨j, hj, rfl, ho, hb, hz⟩ := hrel
    by_cases hlt : j < 8
    · go_wp2_with (at_builtin; go_loud (refine app_own ho hb (.tmp 30) (.tmp 37) [_] 141 _ _ Try.underlying141 info5 (by omega) (by decide) hz rfl rfl rfl (by decide) rfl rfl rfl (by simp [Value.oneCell']) ?_); intro v1 w8 ho1 hb1 hg1 hat1; have hz8 : pb + 1 ≤ w8.heap.size := (Nat.le_trans hz hg1.size); have H8 := Lib.hid ho1; clear ho1 hg1 hat1)
      go_roundw
      case rel =>
        refine ⟨j + 1, by omega, by go_num, ?_, hb1, hz8⟩
        rw [top8_succ, ← List.append_assoc, bvs_snoc]
        have := H8.out
        simpa [Nat.add_assoc] using this
      case measure => simp [intOf]; omega
    · obtain rfl : j = 8 := by omega
      rw [← HE.out] at ho
      have hel := HN.out.2.1.2.2
      have hle : (encB key rn (nums last)).length = hd.length + 8 := by rw [HE.out]; simp [top8]
      rw [← hle] at ho
      clear hle
      obtain ⟨A9, c9, rfl, hs9⟩ := own_sl ho
      have hr9 := hs9.rd
      have H9 := Lib.hid hb
      clear ho hs9 hb
      go_wp2_with fail
      refine (rarmor_calls wr _ A9 c9 hr9 HN.out.2.1.1 (by omega)).mono ?_
      rintro e w10 ⟨t, ht, rfl, hb10⟩
      have H10 := Lib.hid (H9.out.trans (hb10.mono hz))
      clear hb10
      go_wp2_with fail
      go_ret2
      exact ⟨.inr ⟨HN.out.1, t, by simpa using ht, rfl⟩, HN.out.2.2 _ H10.out⟩
end Go.Proofs.Ytdbccemllaehjaa.PG
