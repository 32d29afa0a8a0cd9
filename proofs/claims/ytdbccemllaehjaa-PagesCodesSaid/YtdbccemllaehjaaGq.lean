/- pages.Decode, walked. -/
import Derived.Test.YtdbccemllaehjaaGp
import Derived.Test.YtdbccemllaehjaaGk
import Derived.Test.YtdbccemllaehjaaGl
import Derived.Laws.ResultCell
namespace Go.Proofs.Ytdbccemllaehjaa.PG
open Go.RowKit Go.Proofs.YtdbccemllaehjaaKw Go.Proofs.YtdbccemllaehjaaGa
set_option linter.unusedVariables false
set_option linter.unusedSimpArgs false
/-- The text is the cursor of the pin. -/
structure Coded (key rn : Nat) (last s : ByteArray) : Prop where
  hk : key < 18446744073709551616
  may : MayP (rn : Int) last
  arm : IsArm (encB key rn (nums last)) s
theorem Coded.dig {key rn : Nat} {last s : ByteArray} (h : Coded key rn last s) : Dig 256 (encB key rn (nums last)) :=
  (enc_ok h.hk (by have := h.may.2.1; omega) (nums_dig last) (by rw [nums_len]; exact h.may.2.2.2.1)).1
def pinV (key : Nat) (r : Int) (last : ByteArray) : Value := .agg #[.int .u64 (key : Int), .int .i64 r, .string last]
/-- What a Decode answers. -/
structure DecAns (s : ByteArray) (e : Ending) : Prop where
  yes : ∀ key rn last, Coded key rn last s → e = .returned (.tuple #[.agg #[.int .u64 (key : Int), .int .i64 (rn : Int), .string last], .int .i64 0])
  no : (∀ key rn last, ¬ Coded key rn last s) → e = .returned (.tuple #[.agg #[.int .u64 0, .int .i64 0, .string ⟨#[]⟩], .int .i64 250])
theorem DecAns.bad {s : ByteArray} {e : Ending} (h : ∀ key rn last, ¬ Coded key rn last s) (he : e = .returned (.tuple #[.agg #[.int .u64 0, .int .i64 0, .string ⟨#[]⟩], .int .i64 250])) : DecAns s e :=
  ⟨fun k r l hc => (h k r l hc).elim, fun _ => he⟩
theorem str_ne {a b : ByteArray} (h : ¬ a = b) : (a.toList == b.toList) = false := by
  refine beq_eq_false_iff_ne.2 fun e => h ?_
  rw [ByteArray.toList_eq, ByteArray.toList_eq] at e
  cases a; cases b
  exact congrArg _ (Array.toList_inj.1 e)
/-- What the readings say of a cursor. -/
theorem read_coded {s : ByteArray} {out l1 l2 l3 : List Nat} {e1 e2 e3 r : Int} {x : Nat} {t : ByteArray} (hU : ∀ B, Dig 256 B → IsArm B s → out = B) (h1 : UOk out 0 x l1 e1) (h2 : IOk l1 e1 r l2 e2) (h3 : TOk l2 e2 t l3 e3) :
    ∀ key rn last, Coded key rn last s → x = key ∧ r = (rn : Int) ∧ t = last ∧ e3 = 0 := by
  intro key rn last hc
  have ho := hU _ hc.dig hc.arm
  obtain ⟨a1, a2, a3⟩ := h1 rfl key (uintB (2 * rn) ++ (textB (nums last) ++ top8 (sumB (headB key rn (nums last))) 8)) hc.hk (by rw [ho]; simp [encB, headB])
  obtain ⟨b1, b2, b3⟩ := h2 a3 rn _ (by have := hc.may.2.1; omega) a2
  obtain ⟨c1, c2, c3⟩ := h3 b3 (nums last) _ (by rw [nums_len]; exact hc.may.2.2.2.1) b2
  exact ⟨a1, b1, by rw [c1, strOf_nums], c3⟩
/-- A pin's cells, that may be written. -/
structure PC (w : World) (pb : Nat) (key : Nat) (r : Int) (last : ByteArray) : Prop where
  at_ : PinAt w pb key r last
  f0 : w.frozen? ⟨pb, 0, none⟩ = false
  f1 : w.frozen? ⟨pb, 1, none⟩ = false
  f2 : w.frozen? ⟨pb, 2, none⟩ = false
theorem PC.keep {w w' : World} {pb key B : Nat} {r : Int} {last : ByteArray} (h : PC w pb key r last) (hb : Below B w w') (hB : pb < B) : PC w' pb key r last :=
  ⟨h.at_.keep hb hB, (hb.frozen (p := ⟨pb, 0, none⟩) hB).trans h.f0, (hb.frozen (p := ⟨pb, 1, none⟩) hB).trans h.f1, (hb.frozen (p := ⟨pb, 2, none⟩) hB).trans h.f2⟩
theorem PC.new (w : World) (key : Nat) (r : Int) (last : ByteArray) : PC (w.alloc (.cells #[.int .u64 (key : Int), .int .i64 r, .string last] 87)) w.heap.size key r last := by
  have hnew := heap_alloc_new w (.cells #[.int .u64 (key : Int), .int .i64 r, .string last] 87)
  exact ⟨PinAt.new w key r last, by unfold World.frozen?; simp only [hnew]; rfl, by unfold World.frozen?; simp only [hnew]; rfl, by unfold World.frozen?; simp only [hnew]; rfl⟩
theorem ne_off {pb i j : Nat} (h : i ≠ j) : (⟨pb, i, none⟩ : Addr) ≠ ⟨pb, j, none⟩ := fun e => h (congrArg Addr.off e)
theorem PC.put {w : World} {pb key : Nat} {r : Int} {last : ByteArray} (h : PC w pb key r last) (key' : Nat) (r' : Int) (last' : ByteArray) :
    PinAt (((w.setCell ⟨pb, 0, none⟩ (.int .u64 (key' : Int))).setCell ⟨pb, 1, none⟩ (.int .i64 r')).setCell ⟨pb, 2, none⟩ (.string last')) pb key' r' last' ∧
    Below pb w (((w.setCell ⟨pb, 0, none⟩ (.int .u64 (key' : Int))).setCell ⟨pb, 1, none⟩ (.int .i64 r')).setCell ⟨pb, 2, none⟩ (.string last')) := by
  refine ⟨⟨?_, ?_, ?_⟩, (below_set.trans below_set).trans below_set⟩
  · rw [World.cell?_setCell_other _ _ _ _ (ne_off (by omega)), World.cell?_setCell_other _ _ _ _ (ne_off (by omega))]
    exact World.cell?_setCell_same w _ _ h.at_.c0
  · rw [World.cell?_setCell_other _ _ _ _ (ne_off (by omega))]
    exact World.cell?_setCell_same _ _ _ ((World.cell?_setCell_other w _ _ _ (ne_off (by omega))).trans h.at_.c1)
  · exact World.cell?_setCell_same _ _ _ (((World.cell?_setCell_other _ _ _ _ (ne_off (by omega))).trans (World.cell?_setCell_other w _ _ _ (ne_off (by omega)))).trans h.at_.c2)
set_option maxRecDepth 100000 in
theorem ret_pin {fn : Func} (hf : fn.results = #[.cell 2 87, .tmp 3]) {w : World} {pb key : Nat} {r : Int} {last : ByteArray} (h : PinAt w pb key r last) (tmps : Array Value) (u : Value) (ht : tmps.getD 2 undef = .pointer (some ⟨pb, 0, none⟩)) (hu : tmps.getD 3 undef = u) :
    (results fn tmps).run Try.prog w = .ok (.tuple #[.agg #[.int .u64 (key : Int), .int .i64 r, .string last], u]) w := by
  have p0 := h.c0
  have p1 := h.c1
  have p2 := h.c2
  rw [results_cell_tmp hf, ht, hu]
  go_simp
set_option maxHeartbeats 8000000 in
set_option maxRecDepth 100000 in
theorem decode_calls (w : World) (s : ByteArray) (hs : s.size ≤ 140737488351232) : Calls Try.prog 49 #[.string s] w fun e w' => DecAns s e ∧ Below w.heap.size w w' := by
  have hP := PC.new w 0 0 ⟨#[]⟩
  have hA := below_alloc (Below.refl w.heap.size w) (.cells #[.int .u64 0, .int .i64 0, .string ⟨#[]⟩] 87)
  have hsz : (w.alloc (.cells #[.int .u64 0, .int .i64 0, .string ⟨#[]⟩] 87)).heap.size = w.heap.size + 1 := by simp
  obtain ⟨pb, hpb⟩ : ∃ pb, pb = w.heap.size := ⟨_, rfl⟩
  have HH := Lib.hid (And.intro hP (And.intro hA (And.intro hsz hpb)))
  clear hP hA hsz hpb
  go_enter Try.func49, Try.ntmps49
  go_wp2_with fail
  simp only [Int.natCast_zero] at HH
  generalize w.alloc (.cells #[.int .u64 0, .int .i64 0, .string ⟨#[]⟩] 87) = W0 at *
  have hpb := HH.out.2.2.2
  rw [← hpb]
  have hP0 : PC W0 pb 0 0 ⟨#[]⟩ := by rw [hpb]; exact HH.out.1
  have hs0 : W0.heap.size = pb + 1 := by rw [hpb]; exact HH.out.2.2.1
  have hA0 : Below w.heap.size w W0 := HH.out.2.1
  have hf : ∀ w', Below pb W0 w' → Below w.heap.size w w' := fun w' h => hA0.trans (h.mono (by omega))
  clear HH hpb
  refine (unarmor_calls W0 s hs).mono ?_
  rintro e w1 ⟨v1, out, er, rfl, ho, hod, hol, her, her', hU, hb1⟩
  obtain ⟨A1, c1, rfl, hs1⟩ := own_sl ho
  have hz1 : pb + 1 ≤ w1.heap.size := by have := hb1.size; omega
  have H1 := Lib.hid (And.intro (hP0.keep hb1 (by omega)) (And.intro (hb1.mono (by omega : pb ≤ W0.heap.size)) (And.intro hs1 (And.intro hU hf))))
  clear hb1 hs1 ho hP0 hA0 hf hU hs0
  by_cases he0 : er = 0
  · subst he0
    have hU0 : ∀ B, Dig 256 B → IsArm B s → out = B := fun B h1 h2 => (H1.out.2.2.2.1 B h1 h2).1
    go_wp2_with fail
    refine (read_calls w1 out A1 c1 H1.out.2.2.1 hod (by omega)).mono ?_
    rintro e w2 ⟨rb, rfl, hrb, hR2, hb2⟩
    have hz2 : w1.heap.size ≤ w2.heap.size := hb2.size
    have H2 := Lib.hid (And.intro (H1.out.1.keep hb2 (by omega)) (And.intro (H1.out.2.1.trans (hb2.mono (by omega : pb ≤ w1.heap.size))) (And.intro hU0 H1.out.2.2.2.2)))
    clear hb2 hU0 H1
    go_wp2_with fail
    refine (rduint_calls w2 rb out 0 hR2 (by omega)).mono ?_
    rintro e w3 ⟨x, rfl, hx, ⟨⟨l1, e1, hR3, hl1, hok1, hb3⟩⟩⟩
    have H3 := Lib.hid (And.intro (H2.out.1.keep hb3 (by omega)) (And.intro (H2.out.2.1.trans (hb3.mono (by omega : pb ≤ rb))) (And.intro H2.out.2.2 hok1)))
    have hz3 := hb3.size
    clear hb3 hR2 H2 hok1
    go_wp2_with fail
    refine (rdint_calls w3 rb l1 e1 hR3 (by omega)).mono ?_
    rintro e w4 ⟨r, rfl, hrr, ⟨⟨l2, e2, hR4, hl2, hok2, hb4⟩⟩⟩
    have H4 := Lib.hid (And.intro (H3.out.1.keep hb4 (by omega)) (And.intro (H3.out.2.1.trans (hb4.mono (by omega : pb ≤ rb))) (And.intro H3.out.2.2 hok2)))
    have hz4 := hb4.size
    clear hb4 hR3 H3 hok2
    go_wp2_with fail
    refine (rdtext_calls w4 rb l2 e2 hR4 (by omega)).mono ?_
    rintro e w5 ⟨t, rfl, htz, ⟨⟨l3, e3, hR5, hl3, hok3, hb5⟩⟩⟩
    have hrc := read_coded H4.out.2.2.1.1.1 H4.out.2.2.1.2 H4.out.2.2.2 hok3
    have H5 := Lib.hid (And.intro (H4.out.1.keep hb5 (by omega)) (And.intro (H4.out.2.1.trans (hb5.mono (by omega : pb ≤ rb))) (And.intro H4.out.2.2.1.1.2 hrc)))
    have hz5 := hb5.size
    clear hb5 hR4 H4 hok3 hrc
    have hPn := PC.new w5 x r t
    have hAn := below_alloc (Below.refl w5.heap.size w5) (.cells #[.int .u64 (x : Int), .int .i64 r, .string t] 87)
    have hRn := hR5.keep hAn
    have hszn : (w5.alloc (.cells #[.int .u64 (x : Int), .int .i64 r, .string t] 87)).heap.size = w5.heap.size + 1 := by simp
    have H6 := Lib.hid (And.intro (H5.out.1.keep hAn (by omega)) (And.intro (H5.out.2.1.trans (hAn.mono (by omega : pb ≤ w5.heap.size))) (And.intro H5.out.2.2 (And.intro hPn (And.intro hRn hszn)))))
    clear hPn hAn hRn hszn hR5 H5
    go_wp2_with fail
    generalize w5.alloc (.cells #[.int .u64 (x : Int), .int .i64 r, .string t] 87) = W6 at *
    have hz6 : W6.heap.size = w5.heap.size + 1 := H6.out.2.2.2.2.2
    refine (encode_calls W6 x r t hx hrr (by unfold maxLen; omega)).mono ?_
    rintro e w7 ⟨hE, hb7⟩
    have H7 := Lib.hid (And.intro (H6.out.1.keep hb7 (by omega)) (And.intro (H6.out.2.1.trans (hb7.mono (by omega : pb ≤ W6.heap.size))) (And.intro H6.out.2.2.1 (And.intro (H6.out.2.2.2.1.keep hb7 (by omega)) (H6.out.2.2.2.2.1.keep hb7)))))
    clear hb7 H6
    have p0 := H7.out.1.at_.c0
    have p1 := H7.out.1.at_.c1
    have p2 := H7.out.1.at_.c2
    have g0 := H7.out.1.f0
    have g1 := H7.out.1.f1
    have g2 := H7.out.1.f2
    have q0 := H7.out.2.2.2.1.at_.c0
    have q1 := H7.out.2.2.2.1.at_.c1
    have q2 := H7.out.2.2.2.1.at_.c2
    obtain ⟨k1, k2⟩ := H7.out.1.put 0 0 ⟨#[]⟩
    have HK := Lib.hid (And.intro k1 (H7.out.2.2.1.1 _ (H7.out.2.1.trans k2)))
    clear k1 k2
    rcases hE with ⟨hno, rfl⟩ | ⟨hyes, s1, hs1, rfl⟩
    · have HB := Lib.hid (show ∀ key rn last, ¬ Coded key rn last s from fun key rn last hc => by
        obtain ⟨_, h2, h3, _⟩ := H7.out.2.2.1.2 key rn last hc
        rw [h2, h3] at hno
        exact hno hc.may)
      clear hno
      go_wp2_with fail
      (try simp only [Exit.inBlock, Exit.then])
      exact bodyPost_ret (ret_pin rfl HK.out.1 _ _ rfl rfl) rfl ⟨DecAns.bad HB.out rfl, HK.out.2⟩
    · have HY := Lib.hid (And.intro hyes hs1)
      clear hyes hs1
      go_wp2_with fail
      refine (err_calls w7 rb l3 e3 H7.out.2.2.2.2).mono ?_
      rintro e w8 ⟨rfl, rfl⟩
      by_cases h3 : e3 = 0
      · by_cases hss : s1 = s
        · have HC : Coded x r.toNat t s := ⟨hx, by rw [Int.toNat_of_nonneg HY.out.1.1]; exact HY.out.1, by rw [← hss]; exact HY.out.2⟩
          have hr0 := HY.out.1.1
          have HD := Lib.hid (show DecAns s (.returned (.tuple #[.agg #[.int .u64 (x : Int), .int .i64 r, .string t], .int .i64 0])) from ⟨fun key rn last hc => by
            obtain ⟨m1, m2, m3, _⟩ := H7.out.2.2.1.2 key rn last hc
            rw [m1, m2, m3], fun hn => (hn _ _ _ HC).elim⟩)
          obtain ⟨j1, j2⟩ := H7.out.1.put x r t
          have HJ := Lib.hid (And.intro j1 (H7.out.2.2.1.1 _ (H7.out.2.1.trans j2)))
          clear j1 j2 HC
          subst h3
          subst hss
          go_wp2_with fail
          (try simp only [Exit.inBlock, Exit.then])
          exact bodyPost_ret (ret_pin rfl HJ.out.1 _ _ rfl rfl) rfl ⟨HD.out, HJ.out.2⟩
        · have hse := str_ne hss
          have HB := Lib.hid (show ∀ key rn last, ¬ Coded key rn last s from fun key rn last hc => by
            obtain ⟨m1, m2, m3, _⟩ := H7.out.2.2.1.2 key rn last hc
            have ha := HY.out.2
            rw [m1, m2, m3] at ha
            exact hss (IsArm.unique ha (by simpa using hc.arm)))
          subst h3
          clear hss
          go_wp2_with fail
          (try simp only [Exit.inBlock, Exit.then])
          exact bodyPost_ret (ret_pin rfl HK.out.1 _ _ rfl rfl) rfl ⟨DecAns.bad HB.out rfl, HK.out.2⟩
      · have hne : (e3 != 0) = true := by simp [h3]
        have HB := Lib.hid (show ∀ key rn last, ¬ Coded key rn last s from fun key rn last hc => h3 (H7.out.2.2.1.2 key rn last hc).2.2.2)
        clear h3
        go_wp2_with fail
        (try simp only [Exit.inBlock, Exit.then])
        exact bodyPost_ret (ret_pin rfl HK.out.1 _ _ rfl rfl) rfl ⟨DecAns.bad HB.out rfl, HK.out.2⟩
  · have hne : (er != 0) = true := by simp [he0]
    have HB := Lib.hid (show ∀ key rn last, ¬ Coded key rn last s from fun key rn last hc => he0 (H1.out.2.2.2.1 _ hc.dig hc.arm).2)
    have p0 := H1.out.1.at_.c0
    have p1 := H1.out.1.at_.c1
    have p2 := H1.out.1.at_.c2
    have g0 := H1.out.1.f0
    have g1 := H1.out.1.f1
    have g2 := H1.out.1.f2
    clear he0
    go_wp2_with fail
    obtain ⟨k1, k2⟩ := H1.out.1.put 0 0 ⟨#[]⟩
    (try simp only [Exit.inBlock, Exit.then])
    refine bodyPost_ret (ret_pin rfl k1 _ _ rfl rfl) rfl ⟨DecAns.bad HB.out rfl, H1.out.2.2.2.2 _ (H1.out.2.1.trans k2)⟩
end Go.Proofs.Ytdbccemllaehjaa.PG
