/- The reference's first, walked: what bytes can say at most. -/
import Derived.Test.YtdbccemllaehjaaGt
import Derived.Test.YtdbccemllaehjaaGq
import Derived.StillTailTactics
namespace Go.Proofs.Ytdbccemllaehjaa.PG
open Go.RowKit Go.Proofs.YtdbccemllaehjaaKw Go.Proofs.YtdbccemllaehjaaGa
set_option linter.unusedVariables false
set_option linter.unusedSimpArgs false
def backV (u : Nat) : Int := if u % 2 = 0 then (u : Int) / 2 else -((u : Int) / 2) - 1
theorem backV_range (u : Nat) (hu : u < 18446744073709551616) : -9223372036854775808 ≤ backV u ∧ backV u ≤ 9223372036854775807 := by
  unfold backV
  split <;> omega
theorem backV_even (y : Nat) : backV (2 * y) = y := by unfold backV; rw [if_pos (by omega)]; omega
theorem back_is (w : World) (u : Nat) (hu : u < 18446744073709551616) : Calls Try.prog 119 #[.int .u64 (u : Int)] w fun e w' => e = .returned (.int .i64 (backV u)) ∧ w' = w := by
  by_cases h : u % 2 = 0
  · have hv : backV u = (u : Int) / 2 := by unfold backV; rw [if_pos h]
    rw [hv]
    go_enter Try.func119, Try.ntmps119
    go_wp2_with fail
    go_ret
    exact ⟨rfl, rfl⟩
  · have hv : backV u = -((u : Int) / 2) - 1 := by unfold backV; rw [if_neg h]
    rw [hv]
    go_enter Try.func119, Try.ntmps119
    go_wp2_with fail
    go_ret
    exact ⟨rfl, rfl⟩
/-- What first says of a cursor's bytes. -/
def FOk (l : List Nat) (x : Nat) (r : Int) (t : ByteArray) : Prop := ∀ (key rn : Nat) (last : ByteArray), key < 18446744073709551616 → rn ≤ 4611686018427387904 → last.size ≤ 64 → l = encB key rn (nums last) → x = key ∧ r = rn ∧ t = last
structure FAns (l : List Nat) (e : Ending) : Prop where
  mk :: (out : ∃ (x : Nat) (r : Int) (t : ByteArray), e = .returned (.agg #[.int .u64 (x : Int), .int .i64 r, .string t]) ∧ x < 18446744073709551616 ∧ (-9223372036854775808 ≤ r ∧ r ≤ 9223372036854775807) ∧ t.size ≤ 255 ∧ FOk l x r t)
theorem enc_parts {l : List Nat} {key rn : Nat} {last : ByteArray} (h : l = encB key rn (nums last)) (hl : last.size ≤ 64) : ∃ tl, l = uintB key ++ (uintB (2 * rn) ++ (last.size :: (nums last ++ tl))) ∧ 8 = tl.length := by
  refine ⟨top8 (sumB (headB key rn (nums last))) 8, ?_, by simp [top8]⟩
  have hu : uintB (nums last).length = [last.size] := by rw [nums_len]; exact uintB_lo (by omega)
  rw [h]
  simp [encB, headB, textB, hu]
set_option maxRecDepth 100000 in
theorem ret_pin1 {fn : Func} (hf : fn.results = #[.cell 2 87]) {w : World} {pb key : Nat} {r : Int} {last : ByteArray} (h : PinAt w pb key r last) (tmps : Array Value) (ht : tmps.getD 2 undef = .pointer (some ⟨pb, 0, none⟩)) :
    (results fn tmps).run Try.prog w = .ok (.agg #[.int .u64 (key : Int), .int .i64 r, .string last]) w := by
  have p0 := h.c0
  have p1 := h.c1
  have p2 := h.c2
  have ht' : tmps[2]?.getD undef = .pointer (some ⟨pb, 0, none⟩) := by simpa using ht
  simp only [results, hf]
  simp [ht', asAddr]
  go_simp
set_option maxHeartbeats 8000000 in
set_option maxRecDepth 100000 in
theorem first_calls (w : World) (l : List Nat) (A : Option Addr) (c : Nat) (hs : Sl w A l.length c (bvs l)) (hcap : l.length ≤ c ∧ c ≤ 9223372036854775807) (hd : Dig 256 l) (hl : l.length ≤ 1000) :
    Calls Try.prog 102 #[.slice A l.length c] w fun e w' => FAns l e ∧ Below w.heap.size w w' := by
  have hP := PC.new w 0 0 ⟨#[]⟩
  have hA := below_alloc (Below.refl w.heap.size w) (.cells #[.int .u64 0, .int .i64 0, .string ⟨#[]⟩] 87)
  have hsn := hs.keep hA
  have hlow : ∀ b off, A = some ⟨b, off, none⟩ → b < w.heap.size := fun b off e => by
    obtain ⟨_, ⟨h0, _⟩ | ⟨b', off', h1, h2, _⟩⟩ := hs
    · rw [h0] at e; cases e
    · rw [h1] at e; cases e; exact h2
  have hsz : (w.alloc (.cells #[.int .u64 0, .int .i64 0, .string ⟨#[]⟩] 87)).heap.size = w.heap.size + 1 := by simp
  have HH := Lib.hid (And.intro hP (And.intro hA (And.intro hsn (And.intro hlow hsz))))
  clear hP hA hsn hlow hsz hs
  obtain ⟨pb, hpb⟩ : ∃ pb, pb = w.heap.size := ⟨_, rfl⟩
  go_enter Try.func102, Try.ntmps102
  go_wp2_with fail
  simp only [Int.natCast_zero] at HH
  generalize w.alloc (.cells #[.int .u64 0, .int .i64 0, .string ⟨#[]⟩] 87) = W0 at *
  rw [← hpb] at HH ⊢
  have HF := Lib.hid (show ∀ w', Below pb w w' → Below w.heap.size w w' from fun w' h => by rw [← hpb]; exact h)
  have hz : pb < W0.heap.size := by have := HH.out.2.2.2.2; omega
  have hlow : ∀ b off, A = some ⟨b, off, none⟩ → b < pb := HH.out.2.2.2.1
  have HLO := Lib.hid hlow
  clear hpb hlow
  refine (number_calls W0 l A c 0 HH.out.2.2.1.rd hd hl (by omega)).mono ?_
  rintro e w1 ⟨hn, rfl⟩
  have p0 := HH.out.1.at_.c0
  have p1 := HH.out.1.at_.c1
  have p2 := HH.out.1.at_.c2
  have g0 := HH.out.1.f0
  have g1 := HH.out.1.f1
  have g2 := HH.out.1.f2
  obtain ⟨k1, k2⟩ := HH.out.1.put 0 0 ⟨#[]⟩
  have HK := Lib.hid (And.intro k1 (HH.out.2.1.trans (k2.mono (Nat.le_refl _))))
  clear k1 k2
  rcases hn with ⟨x, n, rfl, hx, hn, hok⟩ | ⟨rfl, hno⟩
  · have HO := Lib.hid hok
    clear hok
    go_wp2_with fail
    refine (number_calls w1 l A c n HH.out.2.2.1.rd hd hl hn).mono ?_
    rintro e w2 ⟨hn2, rfl⟩
    rcases hn2 with ⟨u, n2, rfl, hu, hn2, hok2⟩ | ⟨rfl, hno⟩
    · have HO2 := Lib.hid (And.intro HO.out hok2)
      clear hok2 HO
      by_cases hge : l.length ≤ n2
      · have HN := Lib.hid (show FOk l 0 0 ⟨#[]⟩ from fun key rn last hk hr hz h => by
          obtain ⟨tl, e, _⟩ := enc_parts h hz
          obtain ⟨m1, m2⟩ := HO2.out.1 key _ hk (by rw [List.drop_zero]; exact e)
          obtain ⟨m3, m4⟩ := HO2.out.2 (2 * rn) (last.size :: (nums last ++ tl)) (by omega) (by rw [m2, e, Nat.zero_add, List.drop_left])
          have := congrArg List.length e
          simp only [List.length_append, List.length_cons] at this
          omega)
        go_wp2_with fail
        (try simp only [Exit.inBlock, Exit.then])
        exact bodyPost_ret (ret_pin1 rfl HK.out.1 _ rfl) rfl ⟨⟨0, 0, ⟨#[]⟩, rfl, by omega, by omega, by decide, HN.out⟩, HF.out _ HK.out.2⟩
      · obtain ⟨b, off, rfl, hc⟩ := rd_byte HH.out.2.2.1.rd (show n2 < l.length by omega)
        have hy256 : l[n2] < 256 := hd _ (List.getElem_mem (by omega))
        have hparts : ∀ key rn last, key < 18446744073709551616 → rn ≤ 4611686018427387904 → last.size ≤ 64 → l = encB key rn (nums last) → x = key ∧ u = 2 * rn ∧ l[n2] = last.size ∧ (∃ tl, l.drop (n2 + 1) = nums last ++ tl) ∧ n2 + 1 + last.size ≤ l.length := fun key rn last hk hr hz h => by
          obtain ⟨tl, e, _⟩ := enc_parts h hz
          obtain ⟨m1, m2⟩ := HO2.out.1 key _ hk (by rw [List.drop_zero]; exact e)
          obtain ⟨m3, m4⟩ := HO2.out.2 (2 * rn) (last.size :: (nums last ++ tl)) (by omega) (by rw [m2, e, Nat.zero_add, List.drop_left])
          have hdr : l.drop n2 = last.size :: (nums last ++ tl) := by
            rw [m4, m2, e, Nat.zero_add, ← List.length_append, ← List.append_assoc, List.drop_left]
          have hcons := List.drop_eq_getElem_cons (show n2 < l.length by omega)
          rw [hdr] at hcons
          simp only [List.cons.injEq] at hcons
          refine ⟨m1, m3, hcons.1.symm, ⟨tl, hcons.2.symm⟩, ?_⟩
          have := congrArg List.length hcons.2
          rw [List.length_append, nums_len, List.length_drop] at this
          omega
        have HP := Lib.hid hparts
        clear hparts HO2
        obtain ⟨y, hy⟩ : ∃ y, y = l[n2] := ⟨_, rfl⟩
        rw [← hy] at HP hc hy256
        have HY := Lib.hid hy
        clear hy
        by_cases hgt : l.length < n2 + 1 + y
        · have HN := Lib.hid (show FOk l 0 0 ⟨#[]⟩ from fun key rn last hk hr hz h => by
            obtain ⟨_, _, m3, _, m5⟩ := HP.out key rn last hk hr hz h
            omega)
          go_wp2_with fail
          (try simp only [Exit.inBlock, Exit.then])
          exact bodyPost_ret (ret_pin1 rfl HK.out.1 _ rfl) rfl ⟨⟨0, 0, ⟨#[]⟩, rfl, by omega, by omega, by decide, HN.out⟩, HF.out _ HK.out.2⟩
        · go_upto_region 7 with fail
          have hdrew : Below w2.heap.size w2 { w2 with drawn := w2.drawn + 1 } := ⟨rfl, rfl, rfl, Nat.le_refl _, fun _ _ => rfl⟩
          have hlow := HLO.out b off rfl
          have hPD := HH.out.1.keep hdrew hz
          have hBD : Below pb w { w2 with drawn := w2.drawn + 1 } := HH.out.2.1.trans (hdrew.mono (by omega))
          have hrD : Rd { w2 with drawn := w2.drawn + 1 } (some ⟨b, off, none⟩) (bvs l) := HH.out.2.2.1.rd.keep hdrew
          refine wp_region_still_tail 17 (by kernel_rfl) (by kernel_rfl) ?_
          simp only [List.take_succ_cons, List.take_zero, List.drop_succ_cons, List.drop_zero]
          generalize ({ w2 with drawn := w2.drawn + 1 } : World) = WD at *
          have hzD : pb < WD.heap.size := World.block_lt_of_cell? _ _ hPD.at_.c0
          clear p0 p1 p2 g0 g1 g2 hc
          obtain ⟨b', off', e', hc⟩ := rd_byte hrD (show n2 < l.length by omega)
          cases e'
          rw [← HY.out] at hc
          have p0 := hPD.at_.c0
          have p1 := hPD.at_.c1
          have p2 := hPD.at_.c2
          have g0 := hPD.f0
          have g1 := hPD.f1
          have g2 := hPD.f2
          have hbr := backV_range u hu
          have hbk := fun W' => back_is W' u hu
          have hfok : ∀ t, t = strOf ((l.drop (n2 + 1)).take y) → FOk l x (backV u) t := fun t ht key rn last hk hr hz h => by
            obtain ⟨m1, m2, m3, ⟨tl, m4⟩, m5⟩ := HP.out key rn last hk hr hz h
            refine ⟨m1, by rw [m2, backV_even], ?_⟩
            rw [ht, m4, m3, ← nums_len, List.take_left, strOf_nums]
          obtain ⟨bk, hbkd⟩ : ∃ bk, bk = backV u := ⟨_, rfl⟩
          rw [← hbkd] at hbr hbk hfok
          have HFK := Lib.hid (And.intro hPD (And.intro hBD (And.intro hrD hfok)))
          clear hPD hBD hrD hfok hbkd HP HK HH
          have hrd := rd_drop HFK.out.2.2.1 (show n2 + 1 ≤ l.length by omega)
          have hsl : Sl WD (some ⟨b, off + (n2 + 1), none⟩) y (c - (n2 + 1)) (bvs ((l.drop (n2 + 1)).take y)) := by
            refine ⟨by rw [bvs_len, List.length_take, List.length_drop]; omega, .inr ⟨b, off + (n2 + 1), rfl, by omega, fun j u hu => ?_⟩⟩
            have hj : j < ((l.drop (n2 + 1)).take y).length := by
              have := (List.getElem?_eq_some_iff.1 hu).1
              rwa [bvs_len] at this
            rw [List.length_take, List.length_drop] at hj
            obtain ⟨b', off', e, hc⟩ := rd_byte hrd (k := j) (by rw [List.length_drop]; omega)
            cases e
            rw [bvs_at _ (by rw [List.length_take, List.length_drop]; omega)] at hu
            rw [hc, ← hu]
            simp
          have kc := conv_text hsl
          clear hrd hsl
          have hn2l : n2 < l.length := by omega
          have hn3l : n2 + 1 ≤ l.length := by omega
          have hn4l : n2 + 1 + y ≤ l.length := by omega
          obtain ⟨hc1, hc2⟩ := hcap
          have hn5 : n2 + 1 + y ≤ c := by omega
          have hn6 : n2 + 1 ≤ c := by omega
          have i0 : IntKind.i64.wrap ((n2 : Int) + 1) = (n2 : Int) + 1 := IntWalk.i64_in _ (by omega)
          have i1 : IntKind.i64.wrap (y : Int) = (y : Int) := IntWalk.i64_in _ (by omega)
          have i2 : IntKind.i64.wrap ((n2 : Int) + 1 + y) = (n2 : Int) + 1 + y := IntWalk.i64_in _ (by omega)
          have i3 : 0 ≤ (n2 : Int) + 1 + y := by omega
          have i4 : (n2 : Int) + 1 + y ≤ (c : Int) := by omega
          have i5 : 0 ≤ (n2 : Int) + 1 := by omega
          have i6 : (n2 : Int) + 1 ≤ (n2 : Int) + 1 + y := by omega
          have i7 : max ((n2 : Int) + 1 + y) 0 = (n2 : Int) + 1 + y := by omega
          have i8 : ((n2 : Int) + 1 + y).toNat = n2 + 1 + y := by omega
          have i9 : ((n2 : Int) + 1).toNat = n2 + 1 := by omega
          have i10 : n2 + 1 + y - (n2 + 1) = y := by omega
          have kcI : (convert 141 9 (.slice (if c = n2 + 1 then some ⟨b, off, none⟩ else some ⟨b, off + (n2 + 1), none⟩) y (c - (n2 + 1)))).run Try.prog WD = .ok (.string (strOf ((l.drop (n2 + 1)).take y))) WD := by
            split
            · have hy0 : y = 0 := by omega
              have kc0 := conv_text (w := WD) (A := some ⟨b, off, none⟩) (m := y) (c := c - (n2 + 1)) (l := []) ⟨by simp [bvs]; omega, .inr ⟨b, off, rfl, by omega, fun j u hu => by simp [bvs] at hu⟩⟩
              rw [kc0, hy0]
              rfl
            · exact kc
          obtain ⟨t, ht⟩ : ∃ t, t = strOf ((l.drop (n2 + 1)).take y) := ⟨_, rfl⟩
          rw [← ht] at kcI
          have htz : t.size ≤ 255 := by rw [ht, strOf_size, List.length_take]; omega
          have HT := Lib.hid (HFK.out.2.2.2 t ht)
          obtain ⟨j1, j2⟩ := HFK.out.1.put x bk t
          have HJ := Lib.hid (And.intro j1 (HFK.out.2.1.trans j2))
          clear ht kc j1 j2
          still_step
          still_step
          still_call (hbk _)
          repeat still_step
          try refine wpStill_nil ?_
          go_wp2_with fail
          all_goals
            (try simp only [Exit.inBlock, Exit.then])
            exact bodyPost_ret (ret_pin1 rfl HJ.out.1 _ rfl) rfl ⟨⟨x, bk, t, rfl, hx, hbr, htz, HT.out⟩, HF.out _ HJ.out.2⟩
    · have HN := Lib.hid (show FOk l 0 0 ⟨#[]⟩ from fun key rn last hk hr hz h => by
        obtain ⟨tl, e, _⟩ := enc_parts h hz
        obtain ⟨m1, m2⟩ := HO.out key _ hk (by rw [List.drop_zero]; exact e)
        refine (hno (2 * rn) (last.size :: (nums last ++ tl)) (by omega) ?_).elim
        rw [m2, e, Nat.zero_add, List.drop_left])
      clear hno
      go_wp2_with fail
      (try simp only [Exit.inBlock, Exit.then])
      exact bodyPost_ret (ret_pin1 rfl HK.out.1 _ rfl) rfl ⟨⟨0, 0, ⟨#[]⟩, rfl, by omega, by omega, by decide, HN.out⟩, HF.out _ HK.out.2⟩
  · have HN := Lib.hid (show FOk l 0 0 ⟨#[]⟩ from fun key rn last hk hr hz h => by
      obtain ⟨tl, e, _⟩ := enc_parts h hz
      exact (hno key _ hk (by rw [List.drop_zero]; exact e)).elim)
    clear hno
    go_wp2_with fail
    (try simp only [Exit.inBlock, Exit.then])
    exact bodyPost_ret (ret_pin1 rfl HK.out.1 _ rfl) rfl ⟨⟨0, 0, ⟨#[]⟩, rfl, by omega, by omega, by decide, HN.out⟩, HF.out _ HK.out.2⟩
end Go.Proofs.Ytdbccemllaehjaa.PG
