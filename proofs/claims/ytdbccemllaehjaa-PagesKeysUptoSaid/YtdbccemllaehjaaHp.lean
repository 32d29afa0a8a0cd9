/- The reference's Key, walked. -/
import Derived.Test.YtdbccemllaehjaaHo
import Derived.Test.YtdbccemllaehjaaGk
namespace Go.Proofs.Ytdbccemllaehjaa.PK
open Go.RowKit Go.Proofs.YtdbccemllaehjaaKw Go.Proofs.YtdbccemllaehjaaHa Go.Proofs.YtdbccemllaehjaaGa Go.Proofs.Ytdbccemllaehjaa.PG
set_option linter.unusedVariables false
set_option linter.unusedSimpArgs false
/-- The first texts of a head. -/
def nmB (kind : Nat) (ts : List ByteArray) (k : Nat) : List Nat := [kind] ++ ((ts.take k).map fun s => textB (nums s)).flatten
theorem nmB_succ (kind : Nat) {ts : List ByteArray} {k : Nat} {s : ByteArray} (h : ts[k]? = some s) : nmB kind ts (k + 1) = nmB kind ts k ++ textB (nums s) := by
  obtain ⟨hk, rfl⟩ := List.getElem?_eq_some_iff.1 h
  unfold nmB
  rw [List.take_succ_eq_append_getElem hk, List.map_append, List.flatten_append]
  simp
theorem nmB_len (kind : Nat) {ts : List ByteArray} (h : ∀ s ∈ ts, s.size ≤ 1048576) (hl : ts.length ≤ 5) (k : Nat) : (nmB kind ts k).length ≤ 8000000 := by
  unfold nmB
  rw [List.length_append]
  have h2 := flat_len (fun s => textB (nums s)) 1048586 (ts.take k) fun s hs => tlen (h s (List.mem_of_mem_take hs))
  rw [List.length_take] at h2
  have h3 : min k ts.length * 1048586 ≤ 5 * 1048586 := Nat.mul_le_mul_right _ (by omega)
  simp only [List.length_cons, List.length_nil]
  omega
theorem names5 (w : World) (x0 x1 x2 x3 x4 : ByteArray) : ∀ (k : Nat) s, ([x0, x1, x2, x3, x4] : List ByteArray)[k]? = some s → (w.alloc (.cells #[.string x0, .string x1, .string x2, .string x3, .string x4] 9)).cell? ⟨w.heap.size, k, none⟩ = some (.string s) := by
  intro k s h
  have hnew := heap_alloc_new w (.cells #[.string x0, .string x1, .string x2, .string x3, .string x4] 9)
  simp only [World.cell?, hnew]
  match k, h with
  | 0, h => simp at h; subst h; rfl
  | 1, h => simp at h; subst h; rfl
  | 2, h => simp at h; subst h; rfl
  | 3, h => simp at h; subst h; rfl
  | 4, h => simp at h; subst h; rfl
  | k + 5, h => simp at h
theorem headO_nmB (a : AA) : nmB 1 [a.T, a.R, a.st, a.si, a.sr] 5 = headO a := by simp [nmB, headO]
set_option maxHeartbeats 8000000 in
set_option maxRecDepth 100000 in
theorem rkeyo_calls (w : World) (a : AA) (ha : AOk w a) :
    Calls Try.prog 45 #[a.agg, .bool true] w fun e w' => e = .returned (.int .u64 (sumB (keyB (headO a) a.xs) : Int)) ∧ Below w.heap.size w w' := by
  obtain ⟨ab, hab⟩ : ∃ ab, ab = w.heap.size := ⟨_, rfl⟩
  have hsm := ha.small
  have hnl : ∀ s ∈ ([a.T, a.R, a.st, a.si, a.sr] : List ByteArray), s.size ≤ 1048576 := by
    obtain ⟨s1, s2, s3, s4, s5, s6, s7⟩ := hsm
    intro s hs
    simp at hs
    rcases hs with rfl | rfl | rfl | rfl | rfl <;> assumption
  have HSM := Lib.hid (And.intro hsm (And.intro (headO_len hsm) (And.intro hnl (And.intro (headO_nmB a) (headO_dig hsm)))))
  have hW : ∃ W1, W1 = ((((w.alloc (.cells #[.string a.T, .string a.R, .string a.st, .string a.si, .string a.sr, .string a.ot, .string a.oi, .slice a.A a.xs.length a.c, .int .i64 a.bud] 80)).alloc (.cells #[.int .u8 1] 5)).alloc (.cells #[.string a.T, .string a.R, .string a.ot, .string a.oi] 9)).alloc (.cells #[.string a.T, .string a.R, .string a.st, .string a.si, .string a.sr] 9)) ∧ AAt W1 ab a ∧ AOk W1 a ∧ ALo ab a ∧ Below w.heap.size w W1 ∧ W1.ownsRow 0 5 1 (.slice (some ⟨ab + 1, 0, none⟩) 1 1) (nmB 1 [a.T, a.R, a.st, a.si, a.sr] 0).length (bvs (nmB 1 [a.T, a.R, a.st, a.si, a.sr] 0)) ∧ (∀ (k : Nat) s, ([a.T, a.R, a.st, a.si, a.sr] : List ByteArray)[k]? = some s → W1.cell? ⟨ab + 3, k, none⟩ = some (.string s)) ∧ W1.heap.size = ab + 3 + 1 := by
    refine ⟨_, rfl, ?_, ?_, ?_, ?_, ?_, ?_, ?_⟩
    · have hat := AAt.new w a
      simp only [AA.cells] at hat
      rw [← hab] at hat
      have hb := below_alloc (Below.refl (w.alloc (.cells #[.string a.T, .string a.R, .string a.st, .string a.si, .string a.sr, .string a.ot, .string a.oi, .slice a.A a.xs.length a.c, .int .i64 a.bud] 80)).heap.size _) (.cells #[.int .u8 1] 5)
      exact hat.keep ((hb.alloc (by simp) _).alloc (by simp) _) (by simp [hab])
    · refine ha.below ?_ ha.low
      exact ((((Below.refl w.heap.size w).alloc (by first | (simp; done) | (simp; omega)) _).alloc (by first | (simp; done) | (simp; omega)) _).alloc (by first | (simp; done) | (simp; omega)) _).alloc (by first | (simp; done) | (simp; omega)) _
    · rw [hab]; exact ha.low
    · exact ((((Below.refl w.heap.size w).alloc (by first | (simp; done) | (simp; omega)) _).alloc (by first | (simp; done) | (simp; omega)) _).alloc (by first | (simp; done) | (simp; omega)) _).alloc (by first | (simp; done) | (simp; omega)) _
    · have := own_lit1 (w.alloc (.cells #[.string a.T, .string a.R, .string a.st, .string a.si, .string a.sr, .string a.ot, .string a.oi, .slice a.A a.xs.length a.c, .int .i64 a.bud] 80)) 0 1 (Nat.zero_le _)
      simpa [nmB, hab, bvs] using (this.alloc (.cells #[.string a.T, .string a.R, .string a.ot, .string a.oi] 9)).alloc (.cells #[.string a.T, .string a.R, .string a.st, .string a.si, .string a.sr] 9)
    · have := names5 (((w.alloc (.cells #[.string a.T, .string a.R, .string a.st, .string a.si, .string a.sr, .string a.ot, .string a.oi, .slice a.A a.xs.length a.c, .int .i64 a.bud] 80)).alloc (.cells #[.int .u8 1] 5)).alloc (.cells #[.string a.T, .string a.R, .string a.ot, .string a.oi] 9)) a.T a.R a.st a.si a.sr
      intro k s h
      have h2 := this k s h
      have e : (((w.alloc (.cells #[.string a.T, .string a.R, .string a.st, .string a.si, .string a.sr, .string a.ot, .string a.oi, .slice a.A a.xs.length a.c, .int .i64 a.bud] 80)).alloc (.cells #[.int .u8 1] 5)).alloc (.cells #[.string a.T, .string a.R, .string a.ot, .string a.oi] 9)).heap.size = ab + 3 := by rw [hab]; simp
      rw [e] at h2
      exact h2
    · rw [hab]; simp
  obtain ⟨W1, hW1, hat, hok, hlo, hB, how, hnm, hsz⟩ := hW
  have hw2 : ab + 2 ≤ W1.heap.size := by omega
  have hlen := hok.len
  have hlen2 := hok.c
  have HH := Lib.hid (And.intro hat (And.intro hok (And.intro hlo (And.intro hB (And.intro how (And.intro hnm (And.intro hsz hab)))))))
  have HW1 := Lib.hid hW1
  clear hat hok hlo hB how hnm hsz hsm hnl ha hab hW1
  simp only [AA.agg] at *
  go_enter Try.func45, Try.ntmps45
  go_wp2_with fail
  rw [← HW1.out, ← HH.out.2.2.2.2.2.2.2]
  clear HW1
  obtain ⟨V1, hV1⟩ : ∃ V1 : Value, V1 = .slice (some ⟨ab + 1, 0, none⟩) 1 1 := ⟨_, rfl⟩
  have hVq : ∀ q, V1.ownBlock = some q → q = ab + 1 := fun q h => by rw [hV1] at h; cases h; rfl
  have HV := Lib.hid (And.intro hV1 hVq)
  clear hV1 hVq
  go_loopw [5, 7] (fun u i wr => ∃ k : Nat, k ≤ 5 ∧ i = .int .i64 (k : Int) ∧ wr.ownsRow 0 5 1 u (nmB 1 [a.T, a.R, a.st, a.si, a.sr] k).length (bvs (nmB 1 [a.T, a.R, a.st, a.si, a.sr] k)) ∧ RF W1 V1 wr u) (fun _ i _ => 5 - (intOf i).toNat)
  case atStart => exact ⟨0, Nat.zero_le _, rfl, HH.out.2.2.2.2.1, by rw [HV.out.1]; exact RF.refl _ _⟩
  case round =>
    obtain ⟨k, hk, rfl, ho, hf⟩ := hrel
    by_cases hlt : k < 5
    · obtain ⟨s, hs⟩ : ∃ s, ([a.T, a.R, a.st, a.si, a.sr] : List ByteArray)[k]? = some s := ⟨_, List.getElem?_eq_getElem (by simpa using hlt)⟩
      have q0 : wr.cell? ⟨ab + 3, k, none⟩ = some (.string s) := (World.cell?_of_block (a := ⟨ab + 3, k, none⟩) (hf.block (q := ab + 3) (by have := HH.out.2.2.2.2.2.2.1; omega) (fun e => by have := HV.out.2 _ e; omega))).trans (HH.out.2.2.2.2.2.1 k s hs)
      have hss := HSM.out.2.2.1 s (List.mem_of_getElem? hs)
      have hnb := nmB_len 1 HSM.out.2.2.1 (by simp) k
      have H := Lib.hid (And.intro ho (And.intro hf (And.intro hs hnb)))
      clear ho hf hs hnb
      go_wp2_with fail
      refine (rtext_calls wr s (by omega)).mono ?_
      rintro e w5 ⟨v5, rfl, ho5, hb5⟩
      obtain ⟨A5, c5, rfl, hsl5⟩ := own_sl ho5
      have hu5 := own_keep H.out.1 hb5
      have hsep5 := own_sep H.out.1 ho5
      have H5 := Lib.hid (And.intro hu5 (And.intro hsl5 (And.intro hsep5 hb5)))
      clear hu5 hsl5 hsep5 hb5 ho5
      go_wp2_with fail
      refine (joinedF_calls w5 _ _ _ A5 c5 H5.out.1 H5.out.2.1 H5.out.2.2.1 (by have := H.out.2.2.2; have := tlen hss; omega)).mono ?_
      rintro e w6 ⟨v6, rfl, ho6, hf6⟩
      rw [← nmB_succ _ H.out.2.2.1] at ho6
      have H6 := Lib.hid (And.intro ho6 ((H.out.2.1.trans (RF.of_below _ H5.out.2.2.2)).trans hf6))
      clear ho6 hf6
      go_wp2_with fail
      go_roundw
      case rel => exact ⟨k + 1, by omega, by go_num, H6.out.1, H6.out.2⟩
      case measure => simp [intOf]; omega
    · have hke : k = 5 := by omega
      have HN := Lib.hid (show nmB 1 [a.T, a.R, a.st, a.si, a.sr] k = headO a by rw [hke]; exact HSM.out.2.2.2.1)
      rw [HN.out] at ho
      clear HN hke
      have hb1 := hf.below (B := ab + 1) (by omega) (fun q e => by have := HV.out.2 q e; omega)
      have hat1 := HH.out.1.keep hb1 (by omega)
      have p7 := hat1.c7
      obtain ⟨A', hA'⟩ : ∃ A', A' = a.A := ⟨_, rfl⟩
      rw [← hA'] at p7
      have HA := Lib.hid hA'
      have H := Lib.hid (And.intro ho (And.intro hf hb1))
      clear ho hf hb1 hat1 hA'
      go_wp2_with fail
      refine (ruint_calls wr a.xs.length (by omega)).mono ?_
      rintro e w5 ⟨v5, rfl, ho5, hb5⟩
      obtain ⟨A5, c5, rfl, hsl5⟩ := own_sl ho5
      have hu5 := own_keep H.out.1 hb5
      have hsep5 := own_sep H.out.1 ho5
      have H5 := Lib.hid (And.intro hu5 (And.intro hsl5 (And.intro hsep5 hb5)))
      clear hu5 hsl5 hsep5 hb5 ho5
      go_wp2_with fail
      refine (joinedF_calls w5 _ _ _ A5 c5 H5.out.1 H5.out.2.1 H5.out.2.2.1 (by have := HSM.out.2.1; have := (uintB_64 (show a.xs.length < 18446744073709551616 by omega)).2; omega)).mono ?_
      rintro e w6 ⟨v6, rfl, ho6, hf6⟩
      have hf60 := (H.out.2.1.trans (RF.of_below _ H5.out.2.2.2)).trans hf6
      have H6 := Lib.hid (And.intro ho6 hf60)
      clear ho6 hf6 hf60 p7 H H5
      go_wp2_with fail
      have hltk := hlt
      clear hlt
      go_loopw [5, 8] (fun u i wr => ∃ k : Nat, k ≤ a.xs.length ∧ i = .int .i64 (k : Int) ∧ wr.ownsRow 0 5 1 u (keyP (headO a) a.xs k).length (bvs (keyP (headO a) a.xs k)) ∧ RF W1 V1 wr u) (fun _ i _ => a.xs.length - (intOf i).toNat)
      case atStart => exact ⟨0, Nat.zero_le _, rfl, by simpa [keyP] using H6.out.1, H6.out.2⟩
      case round =>
        clear H6
        obtain ⟨j, hj, rfl, ho, hf⟩ := hrel
        have hb1 := hf.below (B := ab + 1) (by omega) (fun q e => by have := HV.out.2 q e; omega)
        have p7 := (HH.out.1.keep hb1 (by omega)).c7
        rw [← HA.out] at p7
        have hkl := keyP_len (headO a) HSM.out.2.1 a.xs (fun x hx => ⟨(HH.out.2.1.each x hx).1, (HH.out.2.1.each x hx).2.n⟩) hlen j
        by_cases hlt : j < a.xs.length
        · obtain ⟨x, hx⟩ : ∃ x, a.xs[j]? = some x := ⟨_, List.getElem?_eq_getElem hlt⟩
          rcases HH.out.2.1.rd with h0 | ⟨b, off, hA, hbl, hc⟩
          · rw [h0] at hlt
            simp at hlt
          have hbab : b < ab + 1 := by have := HH.out.2.2.1.A b off hA (fun e => by rw [e] at hlt; simp at hlt); omega
          have hg1 := (hc j x hx).keep hb1 hbab
          have hAe := HA.out.trans hA
          subst hAe
          have q0 := hg1.nm
          have hxs := (HH.out.2.1.each x (List.mem_of_getElem? hx)).1
          have H := Lib.hid (And.intro ho (And.intro hf (And.intro hb1 (And.intro hx (And.intro hkl (And.intro (hc j x hx) hA))))))
          clear ho hf hb1 hx hkl hc hg1 hA
          go_wp2_with fail
          refine (rtext_calls wr x.1 (by omega)).mono ?_
          rintro e w5 ⟨v5, rfl, ho5, hb5⟩
          obtain ⟨A5, c5, rfl, hsl5⟩ := own_sl ho5
          have hu5 := own_keep H.out.1 hb5
          have hsep5 := own_sep H.out.1 ho5
          have H5 := Lib.hid (And.intro hu5 (And.intro hsl5 (And.intro hsep5 hb5)))
          clear hu5 hsl5 hsep5 hb5 ho5
          go_wp2_with fail
          refine (joinedF_calls w5 _ _ _ A5 c5 H5.out.1 H5.out.2.1 H5.out.2.2.1 (by have := H.out.2.2.2.2.1; have := tlen hxs; omega)).mono ?_
          rintro e w6 ⟨v6, rfl, ho6, hf6⟩
          have hf60 := (H.out.2.1.trans (RF.of_below _ H5.out.2.2.2)).trans hf6
          have hb6 := hf60.below (B := ab + 1) (by omega) (fun q e => by have := HV.out.2 q e; omega)
          have p7 := (HH.out.1.keep hb6 (by omega)).c7
          rw [← HA.out] at p7
          have hg6 := H.out.2.2.2.2.2.1.keep hb6 hbab
          have hv6 := (HH.out.2.1.each x (List.mem_of_getElem? H.out.2.2.2.1)).2.below hb6 (fun b off e1 e2 => Nat.lt_succ_of_lt (HH.out.2.2.1.each x (List.mem_of_getElem? H.out.2.2.2.1) b off e1 e2))
          have q1 : w6.cell? ⟨b, off + j * 7 + 1, none⟩ = _ := hg6.v.c0
          have q2 : w6.cell? ⟨b, off + j * 7 + 2, none⟩ = _ := hg6.v.c1
          have q3 : w6.cell? ⟨b, off + j * 7 + 3, none⟩ = _ := hg6.v.c2
          have q4 : w6.cell? ⟨b, off + j * 7 + 4, none⟩ = _ := hg6.v.c3
          have q5 : w6.cell? ⟨b, off + j * 7 + 5, none⟩ = _ := hg6.v.c4
          have q6 : w6.cell? ⟨b, off + j * 7 + 6, none⟩ = _ := hg6.v.c5
          have H6 := Lib.hid (And.intro ho6 (And.intro hf60 hv6))
          clear ho6 hf6 hf60 hb6 hg6 hv6 H5 q0
          go_wp2_with fail
          refine (rvencode_calls w6 x.2 H6.out.2.2).mono ?_
          rintro e w7 ⟨r, er, rfl, ho7, hb7⟩
          obtain ⟨A7, c7, rfl, hsl⟩ := own_sl ho7
          have kc := conv_text hsl
          have hln := encV_len x.2 H6.out.2.2.n
          have hdg := encV_dig x.2 H6.out.2.2.n
          have hu7 := own_keep H6.out.1 hb7
          have H7 := Lib.hid (And.intro hu7 (And.intro (H6.out.2.1.trans (RF.of_below _ hb7)) (And.intro hdg hln)))
          clear ho7 hb7 hsl hln hdg hu7 q1 q2 q3 q4 q5 q6 p7
          go_wp2_with fail
          refine (rtext_calls w7 (strOf (encV x.2)) (by rw [strOf_size]; have := H7.out.2.2.2; omega)).mono ?_
          rintro e w8 ⟨v8, rfl, ho8, hb8⟩
          obtain ⟨A8, c8, rfl, hsl8⟩ := own_sl ho8
          have hu8 := own_keep H7.out.1 hb8
          have hsep8 := own_sep H7.out.1 ho8
          have hl8 : (textB (nums (strOf (encV x.2)))).length ≤ 1048586 := tlen (by rw [strOf_size]; have := H7.out.2.2.2; omega)
          have H8 := Lib.hid (And.intro hu8 (And.intro hsl8 (And.intro hsep8 (And.intro hb8 hl8))))
          clear hu8 hsl8 hsep8 hb8 ho8 kc hl8
          go_wp2_with fail
          refine (joinedF_calls w8 _ _ _ A8 c8 H8.out.1 H8.out.2.1 H8.out.2.2.1 (by rw [List.length_append]; have := H8.out.2.2.2.2; have := H.out.2.2.2.2.1; have := tlen hxs; omega)).mono ?_
          rintro e w9 ⟨v9, rfl, ho9, hf9⟩
          rw [nums_strOf H7.out.2.2.1, ← keyP_succ _ H.out.2.2.2.1] at ho9
          have H9 := Lib.hid (And.intro ho9 ((H7.out.2.1.trans (RF.of_below _ H8.out.2.2.2.1)).trans hf9))
          clear ho9 hf9
          go_wp2_with fail
          go_roundw
          case rel => exact ⟨j + 1, by omega, by go_num, H9.out.1, H9.out.2⟩
          case measure => simp [intOf]; omega
        · obtain rfl : a.xs.length = j := by omega
          rw [keyP_all] at ho hkl
          have hdg := keyB_dig HSM.out.2.2.2.2 (xs := a.xs) (by omega) (fun x hx => ⟨(HH.out.2.1.each x hx).1, (HH.out.2.1.each x hx).2.n⟩)
          obtain ⟨A5, c5, rfl, _, _⟩ := own_form ho
          have hrd := own_rd ho
          have H := Lib.hid (And.intro hrd (And.intro hb1 (And.intro hkl hdg)))
          clear ho hf hb1 hkl hdg hrd
          go_wp2_with fail
          refine (rsum_calls wr _ A5 c5 H.out.1 (by have := H.out.2.2.1; omega) H.out.2.2.2).mono ?_
          rintro e w6 ⟨rfl, rfl⟩
          go_wp2_with fail
          go_ret
          exact ⟨rfl, HH.out.2.2.2.1.trans (H.out.2.1.mono (by have := HH.out.2.2.2.2.2.2.2; omega))⟩

theorem names4 (w : World) (x0 x1 x2 x3 : ByteArray) : ∀ (k : Nat) s, ([x0, x1, x2, x3] : List ByteArray)[k]? = some s → (w.alloc (.cells #[.string x0, .string x1, .string x2, .string x3] 9)).cell? ⟨w.heap.size, k, none⟩ = some (.string s) := by
  intro k s h
  have hnew := heap_alloc_new w (.cells #[.string x0, .string x1, .string x2, .string x3] 9)
  simp only [World.cell?, hnew]
  match k, h with
  | 0, h => simp at h; subst h; rfl
  | 1, h => simp at h; subst h; rfl
  | 2, h => simp at h; subst h; rfl
  | 3, h => simp at h; subst h; rfl
  | k + 4, h => simp at h
theorem headS_nmB (a : AA) : nmB 2 [a.T, a.R, a.ot, a.oi] 4 = headS a := by simp [nmB, headS]
set_option maxHeartbeats 8000000 in
set_option maxRecDepth 100000 in
theorem rkeys_calls (w : World) (a : AA) (ha : AOk w a) :
    Calls Try.prog 45 #[a.agg, .bool false] w fun e w' => e = .returned (.int .u64 (sumB (keyB (headS a) a.xs) : Int)) ∧ Below w.heap.size w w' := by
  obtain ⟨ab, hab⟩ : ∃ ab, ab = w.heap.size := ⟨_, rfl⟩
  have hsm := ha.small
  have hnl : ∀ s ∈ ([a.T, a.R, a.ot, a.oi] : List ByteArray), s.size ≤ 1048576 := by
    obtain ⟨s1, s2, s3, s4, s5, s6, s7⟩ := hsm
    intro s hs
    simp at hs
    rcases hs with rfl | rfl | rfl | rfl <;> assumption
  have HSM := Lib.hid (And.intro hsm (And.intro (headS_len hsm) (And.intro hnl (And.intro (headS_nmB a) (headS_dig hsm)))))
  have hW : ∃ W1, W1 = (((w.alloc (.cells #[.string a.T, .string a.R, .string a.st, .string a.si, .string a.sr, .string a.ot, .string a.oi, .slice a.A a.xs.length a.c, .int .i64 a.bud] 80)).alloc (.cells #[.int .u8 2] 5)).alloc (.cells #[.string a.T, .string a.R, .string a.ot, .string a.oi] 9)) ∧ AAt W1 ab a ∧ AOk W1 a ∧ ALo ab a ∧ Below w.heap.size w W1 ∧ W1.ownsRow 0 5 1 (.slice (some ⟨ab + 1, 0, none⟩) 1 1) (nmB 2 [a.T, a.R, a.ot, a.oi] 0).length (bvs (nmB 2 [a.T, a.R, a.ot, a.oi] 0)) ∧ (∀ (k : Nat) s, ([a.T, a.R, a.ot, a.oi] : List ByteArray)[k]? = some s → W1.cell? ⟨ab + 2, k, none⟩ = some (.string s)) ∧ W1.heap.size = ab + 2 + 1 := by
    refine ⟨_, rfl, ?_, ?_, ?_, ?_, ?_, ?_, ?_⟩
    · have hat := AAt.new w a
      simp only [AA.cells] at hat
      rw [← hab] at hat
      have hb := below_alloc (Below.refl (w.alloc (.cells #[.string a.T, .string a.R, .string a.st, .string a.si, .string a.sr, .string a.ot, .string a.oi, .slice a.A a.xs.length a.c, .int .i64 a.bud] 80)).heap.size _) (.cells #[.int .u8 2] 5)
      exact hat.keep (hb.alloc (by simp) _) (by simp [hab])
    · refine ha.below ?_ ha.low
      exact (((Below.refl w.heap.size w).alloc (by first | (simp; done) | (simp; omega)) _).alloc (by first | (simp; done) | (simp; omega)) _).alloc (by first | (simp; done) | (simp; omega)) _
    · rw [hab]; exact ha.low
    · exact (((Below.refl w.heap.size w).alloc (by first | (simp; done) | (simp; omega)) _).alloc (by first | (simp; done) | (simp; omega)) _).alloc (by first | (simp; done) | (simp; omega)) _
    · have := own_lit1 (w.alloc (.cells #[.string a.T, .string a.R, .string a.st, .string a.si, .string a.sr, .string a.ot, .string a.oi, .slice a.A a.xs.length a.c, .int .i64 a.bud] 80)) 0 2 (Nat.zero_le _)
      simpa [nmB, hab, bvs] using this.alloc (.cells #[.string a.T, .string a.R, .string a.ot, .string a.oi] 9)
    · have := names4 ((w.alloc (.cells #[.string a.T, .string a.R, .string a.st, .string a.si, .string a.sr, .string a.ot, .string a.oi, .slice a.A a.xs.length a.c, .int .i64 a.bud] 80)).alloc (.cells #[.int .u8 2] 5)) a.T a.R a.ot a.oi
      intro k s h
      have h2 := this k s h
      have e : ((w.alloc (.cells #[.string a.T, .string a.R, .string a.st, .string a.si, .string a.sr, .string a.ot, .string a.oi, .slice a.A a.xs.length a.c, .int .i64 a.bud] 80)).alloc (.cells #[.int .u8 2] 5)).heap.size = ab + 2 := by rw [hab]; simp
      rw [e] at h2
      exact h2
    · rw [hab]; simp
  obtain ⟨W1, hW1, hat, hok, hlo, hB, how, hnm, hsz⟩ := hW
  have hw2 : ab + 2 ≤ W1.heap.size := by omega
  have hlen := hok.len
  have hlen2 := hok.c
  have HH := Lib.hid (And.intro hat (And.intro hok (And.intro hlo (And.intro hB (And.intro how (And.intro hnm (And.intro hsz hab)))))))
  have HW1 := Lib.hid hW1
  clear hat hok hlo hB how hnm hsz hsm hnl ha hab hW1
  simp only [AA.agg] at *
  go_enter Try.func45, Try.ntmps45
  go_wp2_with fail
  rw [← HW1.out, ← HH.out.2.2.2.2.2.2.2]
  clear HW1
  obtain ⟨V1, hV1⟩ : ∃ V1 : Value, V1 = .slice (some ⟨ab + 1, 0, none⟩) 1 1 := ⟨_, rfl⟩
  have hVq : ∀ q, V1.ownBlock = some q → q = ab + 1 := fun q h => by rw [hV1] at h; cases h; rfl
  have HV := Lib.hid (And.intro hV1 hVq)
  clear hV1 hVq
  go_loopw [5, 7] (fun u i wr => ∃ k : Nat, k ≤ 4 ∧ i = .int .i64 (k : Int) ∧ wr.ownsRow 0 5 1 u (nmB 2 [a.T, a.R, a.ot, a.oi] k).length (bvs (nmB 2 [a.T, a.R, a.ot, a.oi] k)) ∧ RF W1 V1 wr u) (fun _ i _ => 4 - (intOf i).toNat)
  case atStart => exact ⟨0, Nat.zero_le _, rfl, HH.out.2.2.2.2.1, by rw [HV.out.1]; exact RF.refl _ _⟩
  case round =>
    obtain ⟨k, hk, rfl, ho, hf⟩ := hrel
    by_cases hlt : k < 4
    · obtain ⟨s, hs⟩ : ∃ s, ([a.T, a.R, a.ot, a.oi] : List ByteArray)[k]? = some s := ⟨_, List.getElem?_eq_getElem (by simpa using hlt)⟩
      have q0 : wr.cell? ⟨ab + 2, k, none⟩ = some (.string s) := (World.cell?_of_block (a := ⟨ab + 2, k, none⟩) (hf.block (q := ab + 2) (by have := HH.out.2.2.2.2.2.2.1; omega) (fun e => by have := HV.out.2 _ e; omega))).trans (HH.out.2.2.2.2.2.1 k s hs)
      have hss := HSM.out.2.2.1 s (List.mem_of_getElem? hs)
      have hnb := nmB_len 2 HSM.out.2.2.1 (by simp) k
      have H := Lib.hid (And.intro ho (And.intro hf (And.intro hs hnb)))
      clear ho hf hs hnb
      go_wp2_with fail
      refine (rtext_calls wr s (by omega)).mono ?_
      rintro e w5 ⟨v5, rfl, ho5, hb5⟩
      obtain ⟨A5, c5, rfl, hsl5⟩ := own_sl ho5
      have hu5 := own_keep H.out.1 hb5
      have hsep5 := own_sep H.out.1 ho5
      have H5 := Lib.hid (And.intro hu5 (And.intro hsl5 (And.intro hsep5 hb5)))
      clear hu5 hsl5 hsep5 hb5 ho5
      go_wp2_with fail
      refine (joinedF_calls w5 _ _ _ A5 c5 H5.out.1 H5.out.2.1 H5.out.2.2.1 (by have := H.out.2.2.2; have := tlen hss; omega)).mono ?_
      rintro e w6 ⟨v6, rfl, ho6, hf6⟩
      rw [← nmB_succ _ H.out.2.2.1] at ho6
      have H6 := Lib.hid (And.intro ho6 ((H.out.2.1.trans (RF.of_below _ H5.out.2.2.2)).trans hf6))
      clear ho6 hf6
      go_wp2_with fail
      go_roundw
      case rel => exact ⟨k + 1, by omega, by go_num, H6.out.1, H6.out.2⟩
      case measure => simp [intOf]; omega
    · have hke : k = 4 := by omega
      have HN := Lib.hid (show nmB 2 [a.T, a.R, a.ot, a.oi] k = headS a by rw [hke]; exact HSM.out.2.2.2.1)
      rw [HN.out] at ho
      clear HN hke
      have hb1 := hf.below (B := ab + 1) (by omega) (fun q e => by have := HV.out.2 q e; omega)
      have hat1 := HH.out.1.keep hb1 (by omega)
      have p7 := hat1.c7
      obtain ⟨A', hA'⟩ : ∃ A', A' = a.A := ⟨_, rfl⟩
      rw [← hA'] at p7
      have HA := Lib.hid hA'
      have H := Lib.hid (And.intro ho (And.intro hf hb1))
      clear ho hf hb1 hat1 hA'
      go_wp2_with fail
      refine (ruint_calls wr a.xs.length (by omega)).mono ?_
      rintro e w5 ⟨v5, rfl, ho5, hb5⟩
      obtain ⟨A5, c5, rfl, hsl5⟩ := own_sl ho5
      have hu5 := own_keep H.out.1 hb5
      have hsep5 := own_sep H.out.1 ho5
      have H5 := Lib.hid (And.intro hu5 (And.intro hsl5 (And.intro hsep5 hb5)))
      clear hu5 hsl5 hsep5 hb5 ho5
      go_wp2_with fail
      refine (joinedF_calls w5 _ _ _ A5 c5 H5.out.1 H5.out.2.1 H5.out.2.2.1 (by have := HSM.out.2.1; have := (uintB_64 (show a.xs.length < 18446744073709551616 by omega)).2; omega)).mono ?_
      rintro e w6 ⟨v6, rfl, ho6, hf6⟩
      have hf60 := (H.out.2.1.trans (RF.of_below _ H5.out.2.2.2)).trans hf6
      have H6 := Lib.hid (And.intro ho6 hf60)
      clear ho6 hf6 hf60 p7 H H5
      go_wp2_with fail
      have hltk := hlt
      clear hlt
      go_loopw [5, 8] (fun u i wr => ∃ k : Nat, k ≤ a.xs.length ∧ i = .int .i64 (k : Int) ∧ wr.ownsRow 0 5 1 u (keyP (headS a) a.xs k).length (bvs (keyP (headS a) a.xs k)) ∧ RF W1 V1 wr u) (fun _ i _ => a.xs.length - (intOf i).toNat)
      case atStart => exact ⟨0, Nat.zero_le _, rfl, by simpa [keyP] using H6.out.1, H6.out.2⟩
      case round =>
        clear H6
        obtain ⟨j, hj, rfl, ho, hf⟩ := hrel
        have hb1 := hf.below (B := ab + 1) (by omega) (fun q e => by have := HV.out.2 q e; omega)
        have p7 := (HH.out.1.keep hb1 (by omega)).c7
        rw [← HA.out] at p7
        have hkl := keyP_len (headS a) HSM.out.2.1 a.xs (fun x hx => ⟨(HH.out.2.1.each x hx).1, (HH.out.2.1.each x hx).2.n⟩) hlen j
        by_cases hlt : j < a.xs.length
        · obtain ⟨x, hx⟩ : ∃ x, a.xs[j]? = some x := ⟨_, List.getElem?_eq_getElem hlt⟩
          rcases HH.out.2.1.rd with h0 | ⟨b, off, hA, hbl, hc⟩
          · rw [h0] at hlt
            simp at hlt
          have hbab : b < ab + 1 := by have := HH.out.2.2.1.A b off hA (fun e => by rw [e] at hlt; simp at hlt); omega
          have hg1 := (hc j x hx).keep hb1 hbab
          have hAe := HA.out.trans hA
          subst hAe
          have q0 := hg1.nm
          have hxs := (HH.out.2.1.each x (List.mem_of_getElem? hx)).1
          have H := Lib.hid (And.intro ho (And.intro hf (And.intro hb1 (And.intro hx (And.intro hkl (And.intro (hc j x hx) hA))))))
          clear ho hf hb1 hx hkl hc hg1 hA
          go_wp2_with fail
          refine (rtext_calls wr x.1 (by omega)).mono ?_
          rintro e w5 ⟨v5, rfl, ho5, hb5⟩
          obtain ⟨A5, c5, rfl, hsl5⟩ := own_sl ho5
          have hu5 := own_keep H.out.1 hb5
          have hsep5 := own_sep H.out.1 ho5
          have H5 := Lib.hid (And.intro hu5 (And.intro hsl5 (And.intro hsep5 hb5)))
          clear hu5 hsl5 hsep5 hb5 ho5
          go_wp2_with fail
          refine (joinedF_calls w5 _ _ _ A5 c5 H5.out.1 H5.out.2.1 H5.out.2.2.1 (by have := H.out.2.2.2.2.1; have := tlen hxs; omega)).mono ?_
          rintro e w6 ⟨v6, rfl, ho6, hf6⟩
          have hf60 := (H.out.2.1.trans (RF.of_below _ H5.out.2.2.2)).trans hf6
          have hb6 := hf60.below (B := ab + 1) (by omega) (fun q e => by have := HV.out.2 q e; omega)
          have p7 := (HH.out.1.keep hb6 (by omega)).c7
          rw [← HA.out] at p7
          have hg6 := H.out.2.2.2.2.2.1.keep hb6 hbab
          have hv6 := (HH.out.2.1.each x (List.mem_of_getElem? H.out.2.2.2.1)).2.below hb6 (fun b off e1 e2 => Nat.lt_succ_of_lt (HH.out.2.2.1.each x (List.mem_of_getElem? H.out.2.2.2.1) b off e1 e2))
          have q1 : w6.cell? ⟨b, off + j * 7 + 1, none⟩ = _ := hg6.v.c0
          have q2 : w6.cell? ⟨b, off + j * 7 + 2, none⟩ = _ := hg6.v.c1
          have q3 : w6.cell? ⟨b, off + j * 7 + 3, none⟩ = _ := hg6.v.c2
          have q4 : w6.cell? ⟨b, off + j * 7 + 4, none⟩ = _ := hg6.v.c3
          have q5 : w6.cell? ⟨b, off + j * 7 + 5, none⟩ = _ := hg6.v.c4
          have q6 : w6.cell? ⟨b, off + j * 7 + 6, none⟩ = _ := hg6.v.c5
          have H6 := Lib.hid (And.intro ho6 (And.intro hf60 hv6))
          clear ho6 hf6 hf60 hb6 hg6 hv6 H5 q0
          go_wp2_with fail
          refine (rvencode_calls w6 x.2 H6.out.2.2).mono ?_
          rintro e w7 ⟨r, er, rfl, ho7, hb7⟩
          obtain ⟨A7, c7, rfl, hsl⟩ := own_sl ho7
          have kc := conv_text hsl
          have hln := encV_len x.2 H6.out.2.2.n
          have hdg := encV_dig x.2 H6.out.2.2.n
          have hu7 := own_keep H6.out.1 hb7
          have H7 := Lib.hid (And.intro hu7 (And.intro (H6.out.2.1.trans (RF.of_below _ hb7)) (And.intro hdg hln)))
          clear ho7 hb7 hsl hln hdg hu7 q1 q2 q3 q4 q5 q6 p7
          go_wp2_with fail
          refine (rtext_calls w7 (strOf (encV x.2)) (by rw [strOf_size]; have := H7.out.2.2.2; omega)).mono ?_
          rintro e w8 ⟨v8, rfl, ho8, hb8⟩
          obtain ⟨A8, c8, rfl, hsl8⟩ := own_sl ho8
          have hu8 := own_keep H7.out.1 hb8
          have hsep8 := own_sep H7.out.1 ho8
          have hl8 : (textB (nums (strOf (encV x.2)))).length ≤ 1048586 := tlen (by rw [strOf_size]; have := H7.out.2.2.2; omega)
          have H8 := Lib.hid (And.intro hu8 (And.intro hsl8 (And.intro hsep8 (And.intro hb8 hl8))))
          clear hu8 hsl8 hsep8 hb8 ho8 kc hl8
          go_wp2_with fail
          refine (joinedF_calls w8 _ _ _ A8 c8 H8.out.1 H8.out.2.1 H8.out.2.2.1 (by rw [List.length_append]; have := H8.out.2.2.2.2; have := H.out.2.2.2.2.1; have := tlen hxs; omega)).mono ?_
          rintro e w9 ⟨v9, rfl, ho9, hf9⟩
          rw [nums_strOf H7.out.2.2.1, ← keyP_succ _ H.out.2.2.2.1] at ho9
          have H9 := Lib.hid (And.intro ho9 ((H7.out.2.1.trans (RF.of_below _ H8.out.2.2.2.1)).trans hf9))
          clear ho9 hf9
          go_wp2_with fail
          go_roundw
          case rel => exact ⟨j + 1, by omega, by go_num, H9.out.1, H9.out.2⟩
          case measure => simp [intOf]; omega
        · obtain rfl : a.xs.length = j := by omega
          rw [keyP_all] at ho hkl
          have hdg := keyB_dig HSM.out.2.2.2.2 (xs := a.xs) (by omega) (fun x hx => ⟨(HH.out.2.1.each x hx).1, (HH.out.2.1.each x hx).2.n⟩)
          obtain ⟨A5, c5, rfl, _, _⟩ := own_form ho
          have hrd := own_rd ho
          have H := Lib.hid (And.intro hrd (And.intro hb1 (And.intro hkl hdg)))
          clear ho hf hb1 hkl hdg hrd
          go_wp2_with fail
          refine (rsum_calls wr _ A5 c5 H.out.1 (by have := H.out.2.2.1; omega) H.out.2.2.2).mono ?_
          rintro e w6 ⟨rfl, rfl⟩
          go_wp2_with fail
          go_ret
          exact ⟨rfl, HH.out.2.2.2.1.trans (H.out.2.1.mono (by have := HH.out.2.2.2.2.2.2.2; omega))⟩

end Go.Proofs.Ytdbccemllaehjaa.PK
