/- The reference's Decode, walked; the law PagesCodes. -/
import Derived.Test.YtdbccemllaehjaaGu
import Derived.Test.YtdbccemllaehjaaGs
namespace Go.Proofs.Ytdbccemllaehjaa.PG
open Go.RowKit Go.Proofs.YtdbccemllaehjaaKw Go.Proofs.YtdbccemllaehjaaGa
set_option linter.unusedVariables false
set_option linter.unusedSimpArgs false
theorem Coded.size {key rn : Nat} {last s : ByteArray} (h : Coded key rn last s) : s.size ≤ 149 := by
  have := (enc_ok (key := key) (rev := rn) (last := nums last) h.hk (by have := h.may.2.1; omega) (nums_dig last) (by rw [nums_len]; exact h.may.2.2.2.1)).2.2
  rw [h.arm.size]
  omega
theorem first_coded {s : ByteArray} {out : List Nat} {x : Nat} {r : Int} {t : ByteArray} (hU : ∀ B, Dig 256 B → IsArm B s → out = B) (h : FOk out x r t) : ∀ key rn last, Coded key rn last s → x = key ∧ r = (rn : Int) ∧ t = last :=
  fun key rn last hc => h key rn last hc.hk (by have := hc.may.2.1; omega) hc.may.2.2.2.1 (hU _ hc.dig hc.arm)
set_option maxHeartbeats 8000000 in
set_option maxRecDepth 100000 in
theorem rdecode_calls (w : World) (s : ByteArray) (hs : s.size ≤ 140737488351232) : Calls Try.prog 50 #[.string s] w fun e w' => DecAns s e ∧ Below w.heap.size w w' := by
  have hP := PC.new w 0 0 ⟨#[]⟩
  have hA := below_alloc (Below.refl w.heap.size w) (.cells #[.int .u64 0, .int .i64 0, .string ⟨#[]⟩] 87)
  have hsz : (w.alloc (.cells #[.int .u64 0, .int .i64 0, .string ⟨#[]⟩] 87)).heap.size = w.heap.size + 1 := by simp
  obtain ⟨pb, hpb⟩ : ∃ pb, pb = w.heap.size := ⟨_, rfl⟩
  have HF := Lib.hid (show ∀ w', Below pb w w' → Below w.heap.size w w' from fun w' h => by rw [← hpb]; exact h)
  rw [← hpb] at hsz hA
  have hP0 : PC (w.alloc (.cells #[.int .u64 0, .int .i64 0, .string ⟨#[]⟩] 87)) pb 0 0 ⟨#[]⟩ := by rw [hpb]; exact hP
  obtain ⟨k1, k2⟩ := hP0.put 0 0 ⟨#[]⟩
  have HK0 := Lib.hid (And.intro k1 (hA.trans k2))
  have HH := Lib.hid (And.intro hP0 (And.intro hA (And.intro hsz hpb)))
  clear hP hP0 hA hsz k1 k2 hpb
  go_enter Try.func50, Try.ntmps50
  by_cases h1000 : 1000 < s.size
  · have HB := Lib.hid (show ∀ key rn last, ¬ Coded key rn last s from fun key rn last hc => by have := hc.size; omega)
    have hpb := HH.out.2.2.2
    go_wp2_with fail
    (try simp only [Exit.inBlock, Exit.then])
    rw [← hpb]
    exact bodyPost_ret (ret_pin rfl HH.out.1.at_ _ _ rfl rfl) rfl ⟨DecAns.bad HB.out rfl, HH.out.2.1⟩
  · go_wp2_with fail
    generalize w.alloc (.cells #[.int .u64 0, .int .i64 0, .string ⟨#[]⟩] 87) = W0 at *
    have hpb := HH.out.2.2.2
    rw [← hpb]
    clear hpb HK0
    have hs0 : W0.heap.size = pb + 1 := HH.out.2.2.1
    have hP0 := HH.out.1
    have hA0 : Below pb w W0 := HH.out.2.1
    clear HH
    refine (runarmor_calls W0 s (by omega)).mono ?_
    rintro e w1 ⟨v1, out, er, rfl, ho, hod, hol, her, her', hU, hb1⟩
    obtain ⟨A1, c1, rfl, hs1⟩ := own_sl ho
    have hcap : out.length ≤ c1 ∧ c1 ≤ 9223372036854775807 := by
      obtain ⟨A, c, e, h1, h2⟩ := own_form ho
      cases e
      exact ⟨h1, h2⟩
    have hz1 : pb + 1 ≤ w1.heap.size := by have := hb1.size; omega
    have H1 := Lib.hid (And.intro (hP0.keep hb1 (by omega)) (And.intro (hA0.trans (hb1.mono (by omega : pb ≤ W0.heap.size))) (And.intro hs1 hU)))
    clear hb1 hs1 ho hP0 hA0 hU hs0
    by_cases he0 : er = 0
    · subst he0
      have hU0 : ∀ B, Dig 256 B → IsArm B s → out = B := fun B h1 h2 => (H1.out.2.2.2 B h1 h2).1
      go_wp2_with fail
      refine (first_calls w1 out A1 c1 H1.out.2.2.1 hcap hod (by omega)).mono ?_
      rintro e w2 ⟨⟨⟨x, r, t, rfl, hx, hrr, htz, hfo⟩⟩, hb2⟩
      have hrc := first_coded hU0 hfo
      have hz2 : w1.heap.size ≤ w2.heap.size := hb2.size
      have H2 := Lib.hid (And.intro (H1.out.1.keep hb2 (by omega)) (And.intro (H1.out.2.1.trans (hb2.mono (by omega : pb ≤ w1.heap.size))) hrc))
      clear hb2 hU0 hfo hrc H1 hcap
      have hPn := PC.new w2 x r t
      have hAn := below_alloc (Below.refl w2.heap.size w2) (.cells #[.int .u64 (x : Int), .int .i64 r, .string t] 87)
      have hszn : (w2.alloc (.cells #[.int .u64 (x : Int), .int .i64 r, .string t] 87)).heap.size = w2.heap.size + 1 := by simp
      have H6 := Lib.hid (And.intro (H2.out.1.keep hAn (by omega)) (And.intro (H2.out.2.1.trans (hAn.mono (by omega : pb ≤ w2.heap.size))) (And.intro H2.out.2.2 (And.intro hPn hszn))))
      clear hPn hAn hszn H2
      go_wp2_with fail
      generalize w2.alloc (.cells #[.int .u64 (x : Int), .int .i64 r, .string t] 87) = W6 at *
      have hz6 : W6.heap.size = w2.heap.size + 1 := H6.out.2.2.2.2
      refine (rencode_calls W6 x r t hx hrr (by unfold maxLen; omega)).mono ?_
      rintro e w7 ⟨hE, hb7⟩
      have H7 := Lib.hid (And.intro (H6.out.1.keep hb7 (by omega)) (And.intro (H6.out.2.1.trans (hb7.mono (by omega : pb ≤ W6.heap.size))) (And.intro H6.out.2.2.1 (H6.out.2.2.2.1.keep hb7 (by omega)))))
      clear hb7 H6
      have p0 := H7.out.1.at_.c0
      have p1 := H7.out.1.at_.c1
      have p2 := H7.out.1.at_.c2
      have g0 := H7.out.1.f0
      have g1 := H7.out.1.f1
      have g2 := H7.out.1.f2
      have q0 := H7.out.2.2.2.at_.c0
      have q1 := H7.out.2.2.2.at_.c1
      have q2 := H7.out.2.2.2.at_.c2
      obtain ⟨k1, k2⟩ := H7.out.1.put 0 0 ⟨#[]⟩
      have HK := Lib.hid (And.intro k1 (HF.out _ (H7.out.2.1.trans k2)))
      clear k1 k2
      rcases hE with ⟨hno, rfl⟩ | ⟨hyes, s1, hs1, rfl⟩
      · have HB := Lib.hid (show ∀ key rn last, ¬ Coded key rn last s from fun key rn last hc => by
          obtain ⟨_, h2, h3⟩ := H7.out.2.2.1 key rn last hc
          rw [h2, h3] at hno
          exact hno hc.may)
        clear hno
        go_wp2_with fail
        (try simp only [Exit.inBlock, Exit.then])
        exact bodyPost_ret (ret_pin rfl HK.out.1 _ _ rfl rfl) rfl ⟨DecAns.bad HB.out rfl, HK.out.2⟩
      · have HY := Lib.hid (And.intro hyes hs1)
        clear hyes hs1
        by_cases hss : s1 = s
        · have HC : Coded x r.toNat t s := ⟨hx, by rw [Int.toNat_of_nonneg HY.out.1.1]; exact HY.out.1, by rw [← hss]; exact HY.out.2⟩
          have HD := Lib.hid (show DecAns s (.returned (.tuple #[.agg #[.int .u64 (x : Int), .int .i64 r, .string t], .int .i64 0])) from ⟨fun key rn last hc => by
            obtain ⟨m1, m2, m3⟩ := H7.out.2.2.1 key rn last hc
            rw [m1, m2, m3], fun hn => (hn _ _ _ HC).elim⟩)
          obtain ⟨j1, j2⟩ := H7.out.1.put x r t
          have HJ := Lib.hid (And.intro j1 (HF.out _ (H7.out.2.1.trans j2)))
          clear j1 j2 HC
          subst hss
          go_wp2_with fail
          (try simp only [Exit.inBlock, Exit.then])
          exact bodyPost_ret (ret_pin rfl HJ.out.1 _ _ rfl rfl) rfl ⟨HD.out, HJ.out.2⟩
        · have hse := str_ne hss
          have HB := Lib.hid (show ∀ key rn last, ¬ Coded key rn last s from fun key rn last hc => by
            obtain ⟨m1, m2, m3⟩ := H7.out.2.2.1 key rn last hc
            have ha := HY.out.2
            rw [m1, m2, m3] at ha
            exact hss (IsArm.unique ha (by simpa using hc.arm)))
          clear hss
          go_wp2_with fail
          (try simp only [Exit.inBlock, Exit.then])
          exact bodyPost_ret (ret_pin rfl HK.out.1 _ _ rfl rfl) rfl ⟨DecAns.bad HB.out rfl, HK.out.2⟩
    · have hne : (er != 0) = true := by simp [he0]
      have HB := Lib.hid (show ∀ key rn last, ¬ Coded key rn last s from fun key rn last hc => he0 (H1.out.2.2.2 _ hc.dig hc.arm).2)
      have p0 := H1.out.1.at_.c0
      have p1 := H1.out.1.at_.c1
      have p2 := H1.out.1.at_.c2
      have g0 := H1.out.1.f0
      have g1 := H1.out.1.f1
      have g2 := H1.out.1.f2
      clear he0 hcap
      go_wp2_with fail
      obtain ⟨k1, k2⟩ := H1.out.1.put 0 0 ⟨#[]⟩
      (try simp only [Exit.inBlock, Exit.then])
      exact bodyPost_ret (ret_pin rfl k1 _ _ rfl rfl) rfl ⟨DecAns.bad HB.out rfl, HF.out _ (H1.out.2.1.trans k2)⟩
end Go.Proofs.Ytdbccemllaehjaa.PG
