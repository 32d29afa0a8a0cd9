/- The Reader of octets, walked: Read, ask, Uint, Int, Text, Err. -/
import Derived.Test.YtdbccemllaehjaaGm
import Derived.Test.YtdbccemllaehjaaGh
namespace Go.Proofs.Ytdbccemllaehjaa.PG
open Go.RowKit Go.Proofs.YtdbccemllaehjaaKw Go.Proofs.YtdbccemllaehjaaGa
set_option linter.unusedVariables false
set_option linter.unusedSimpArgs false
/-- What the Reader at a place holds. -/
structure RS (w : World) (rb : Nat) (l : List Nat) (er : Int) : Prop where
  left : ∃ A c, w.cell? ⟨rb, 0, none⟩ = some (.slice A l.length c) ∧ l.length ≤ c ∧ c ≤ 9223372036854775807 ∧ Rd w A (bvs l) ∧ ((A = none ∧ l = [] ∧ c = 0) ∨ ∃ b off, A = some ⟨b, off, none⟩ ∧ b < rb)
  err : w.cell? ⟨rb, 1, none⟩ = some (.int .i64 er)
  f0 : w.frozen? ⟨rb, 0, none⟩ = false
  f1 : w.frozen? ⟨rb, 1, none⟩ = false
  dig : Dig 256 l
  er0 : 0 ≤ er ∧ er < 100
theorem RS.lt {w : World} {rb : Nat} {l : List Nat} {er : Int} (h : RS w rb l er) : rb < w.heap.size := World.block_lt_of_cell? w _ h.err
theorem rd_drop {w : World} {b off n : Nat} {l : List Nat} (h : Rd w (some ⟨b, off, none⟩) (bvs l)) (hn : n ≤ l.length) : Rd w (some ⟨b, off + n, none⟩) (bvs (l.drop n)) := by
  by_cases hl : l.drop n = []
  · rw [hl]; exact .inl rfl
  · refine .inr ⟨b, off + n, rfl, fun j u hu => ?_⟩
    have hj : j < (l.drop n).length := by
      have := (List.getElem?_eq_some_iff.1 hu).1
      rwa [bvs_len] at this
    rw [List.length_drop] at hj
    obtain ⟨b', off', e, hc⟩ := rd_byte h (k := n + j) (by omega)
    cases e
    rw [bvs_at _ (by rw [List.length_drop]; omega)] at hu
    rw [Nat.add_assoc, hc, ← hu]
    simp
theorem below_set {w : World} {rb o : Nat} {v : Value} : Below rb w (w.setCell ⟨rb, o, none⟩ v) := by
  have hset := Ap.setCell_tch w ⟨rb, o, none⟩ v (fun q => q = rb) rfl
  exact ⟨hset.os, hset.tape, hset.output, hset.size, fun k hk => by
    by_cases hs : k < w.heap.size
    · exact hset.block k hs (by omega)
    · rw [Array.getElem?_eq_none (by simp [World.setCell]; omega), Array.getElem?_eq_none (by omega)]⟩
theorem ne01 (rb : Nat) : (⟨rb, 0, none⟩ : Addr) ≠ ⟨rb, 1, none⟩ := by intro e; cases e
theorem RS.keep {w w' : World} {rb : Nat} {l : List Nat} {er : Int} (h : RS w rb l er) (hb : Below w.heap.size w w') : RS w' rb l er := by
  obtain ⟨A, c, h0, h1, h2, h3, h4⟩ := h.left
  have hlt := h.lt
  exact ⟨⟨A, c, (hb.cell (p := ⟨rb, 0, none⟩) hlt).trans h0, h1, h2, h3.keep hb, h4⟩, (hb.cell (p := ⟨rb, 1, none⟩) hlt).trans h.err, (hb.frozen (p := ⟨rb, 0, none⟩) hlt).trans h.f0, (hb.frozen (p := ⟨rb, 1, none⟩) hlt).trans h.f1, h.dig, h.er0⟩
theorem RS.setErr {w : World} {rb : Nat} {l : List Nat} {er : Int} (h : RS w rb l er) (e : Int) (he : 0 ≤ e ∧ e < 100) : RS (w.setCell ⟨rb, 1, none⟩ (.int .i64 e)) rb l e ∧ Below rb w (w.setCell ⟨rb, 1, none⟩ (.int .i64 e)) := by
  obtain ⟨A, c, h0, h1, h2, h3, h4⟩ := h.left
  have hb : Below rb w (w.setCell ⟨rb, 1, none⟩ (.int .i64 e)) := below_set
  refine ⟨⟨⟨A, c, (World.cell?_setCell_other w _ _ _ (ne01 rb).symm).trans h0, h1, h2, ?_, h4⟩, World.cell?_setCell_same w _ _ h.err, (World.frozen?_setCell _ _ _ _).trans h.f0, (World.frozen?_setCell _ _ _ _).trans h.f1, h.dig, he⟩, hb⟩
  rcases h4 with ⟨_, rfl, _⟩ | ⟨b, off, rfl, hlt⟩
  · exact .inl rfl
  · exact h3.below hb fun b' off' e _ => by cases e; exact hlt
theorem RS.setLeft {w : World} {rb b off c n off' c' : Nat} {l : List Nat} {er : Int} (h : RS w rb l er) (h0 : w.cell? ⟨rb, 0, none⟩ = some (.slice (some ⟨b, off, none⟩) l.length c)) (hlt : b < rb) (hr : Rd w (some ⟨b, off, none⟩) (bvs l)) (hn : n ≤ l.length) (ho : off' = off + n ∨ l.length = n) (hc : l.length - n ≤ c' ∧ c' ≤ 9223372036854775807) :
    RS (w.setCell ⟨rb, 0, none⟩ (.slice (some ⟨b, off', none⟩) (l.length - n) c')) rb (l.drop n) er ∧ Below rb w (w.setCell ⟨rb, 0, none⟩ (.slice (some ⟨b, off', none⟩) (l.length - n) c')) := by
  have hb : Below rb w (w.setCell ⟨rb, 0, none⟩ (.slice (some ⟨b, off', none⟩) (l.length - n) c')) := below_set
  have hr' : Rd w (some ⟨b, off', none⟩) (bvs (l.drop n)) := by
    rcases ho with rfl | hz
    · exact rd_drop hr hn
    · rw [List.drop_of_length_le (by omega)]
      exact .inl rfl
  refine ⟨⟨⟨some ⟨b, off', none⟩, c', ?_, by rw [List.length_drop]; omega, hc.2, ?_, .inr ⟨b, off', rfl, hlt⟩⟩, (World.cell?_setCell_other w _ _ _ (ne01 rb)).trans h.err, (World.frozen?_setCell _ _ _ _).trans h.f0, (World.frozen?_setCell _ _ _ _).trans h.f1, h.dig.drop n, h.er0⟩, hb⟩
  · rw [List.length_drop]
    exact World.cell?_setCell_same w _ _ h0
  · exact hr'.below hb fun b' off' e _ => by cases e; exact hlt
theorem RS.setNil {w : World} {rb : Nat} {er : Int} (h : RS w rb [] er) (h0 : w.cell? ⟨rb, 0, none⟩ = some (.slice none 0 0)) :
    RS (w.setCell ⟨rb, 0, none⟩ (.slice none 0 0)) rb [] er ∧ Below rb w (w.setCell ⟨rb, 0, none⟩ (.slice none 0 0)) :=
  ⟨⟨⟨none, 0, World.cell?_setCell_same w _ _ h0, Nat.le_refl _, by omega, .inl rfl, .inl ⟨rfl, rfl, rfl⟩⟩, (World.cell?_setCell_other w _ _ _ (ne01 rb)).trans h.err, (World.frozen?_setCell _ _ _ _).trans h.f0, (World.frozen?_setCell _ _ _ _).trans h.f1, h.dig, h.er0⟩, below_set⟩
set_option maxHeartbeats 4000000 in
set_option maxRecDepth 100000 in
theorem ask_yes (w : World) (rb : Nat) (l : List Nat) (h : RS w rb l 0) (hl : l.length ≤ 140737488355328) :
    Calls Try.prog 115 #[.pointer (some ⟨rb, 0, none⟩), .int .i64 0] w fun e w' => ∃ v, e = .returned (.tuple #[v, .bool true]) ∧ w' = w := by
  obtain ⟨A, c, h0, hc1, hc2, hr, hb⟩ := h.left
  have h1 := h.err
  clear hb hr h
  go_enter Try.func115, Try.ntmps115
  go_wp2_with fail
  go_ret2
  exact ⟨_, rfl, rfl⟩
set_option maxHeartbeats 4000000 in
set_option maxRecDepth 100000 in
theorem ask_no (w : World) (rb : Nat) (l : List Nat) (er : Int) (h : RS w rb l er) (he : ¬ er = 0) :
    Calls Try.prog 115 #[.pointer (some ⟨rb, 0, none⟩), .int .i64 0] w fun e w' => ∃ v, e = .returned (.tuple #[v, .bool false]) ∧ w' = w := by
  have h1 := h.err
  have hd2 : (er != 0) = true := by simp [he]
  clear h
  go_enter Try.func115, Try.ntmps115
  go_wp2_with fail
  go_ret2
  exact ⟨_, rfl, rfl⟩
set_option maxHeartbeats 4000000 in
set_option maxRecDepth 100000 in
theorem err_calls (w : World) (rb : Nat) (l : List Nat) (er : Int) (h : RS w rb l er) :
    Calls Try.prog 100 #[.pointer (some ⟨rb, 0, none⟩)] w fun e w' => e = .returned (.int .i64 er) ∧ w' = w := by
  have h1 := h.err
  go_enter Try.func100, Try.ntmps100
  go_wp2_with fail
  go_ret
  exact ⟨rfl, rfl⟩
/-- What a reading leaves. -/
structure RdAns (rb : Nat) (w : World) (l : List Nat) (w' : World) (ok : List Nat → Int → Prop) : Prop where
  mk :: (out : ∃ (l' : List Nat) (er' : Int), RS w' rb l' er' ∧ l'.length ≤ l.length ∧ ok l' er' ∧ Below rb w w')
def UOk (l : List Nat) (er : Int) (x : Nat) (l' : List Nat) (er' : Int) : Prop := er = 0 → ∀ y rest, y < 18446744073709551616 → l = uintB y ++ rest → x = y ∧ l' = rest ∧ er' = 0
set_option maxHeartbeats 4000000 in
set_option maxRecDepth 100000 in
theorem rduint_calls (w : World) (rb : Nat) (l : List Nat) (er : Int) (h : RS w rb l er) (hl : l.length ≤ 140737488355328) :
    Calls Try.prog 97 #[.pointer (some ⟨rb, 0, none⟩)] w fun e w' => ∃ x : Nat, e = .returned (.int .u64 (x : Int)) ∧ x < 18446744073709551616 ∧ RdAns rb w l w' (UOk l er x) := by
  by_cases he : er = 0
  · subst he
    have hask := ask_yes w rb l h hl
    go_enter Try.func97, Try.ntmps97
    go_wp2_with fail
    refine hask.mono ?_
    rintro e w1 ⟨v, rfl, rfl⟩
    clear hask
    obtain ⟨A, c, h0, hc1, hc2, hr, hb⟩ := h.left
    go_wp2_with fail
    refine (short_calls w1 l A c hr h.dig hl).mono ?_
    rintro e w2 ⟨x, n, ee, rfl, hx, hn, hee, hok, rfl⟩
    have hOK : ∀ l', l' = l.drop n → UOk l 0 x l' ee := fun l' hl' _ y rest hy e => by
      obtain ⟨m1, m2, m3⟩ := hok y rest hy e
      exact ⟨m1, by rw [hl', m2, e, List.drop_left], m3⟩
    have HO := Lib.hid (And.intro hOK h)
    clear hok hOK
    have h1 := h.err
    have hf0 := h.f0
    have hf1 := h.f1
    clear h
    obtain ⟨hE, hEb⟩ := HO.out.2.setErr ee hee
    rcases hb with ⟨rfl, rfl, rfl⟩ | ⟨b, off, rfl, hlt⟩
    · have hn0 : n = 0 := by simpa using hn
      subst hn0
      have h01 : (w2.setCell ⟨rb, 1, none⟩ (.int .i64 ee)).cell? ⟨rb, 0, none⟩ = some (.slice none 0 0) := (World.cell?_setCell_other w2 _ _ _ (ne01 rb).symm).trans h0
      have HE := Lib.hid (And.intro hE (And.intro hEb h01))
      clear hE hEb h01 hr
      go_wp2_with fail
      go_ret
      obtain ⟨k1, k2⟩ := HE.out.1.setNil HE.out.2.2
      exact ⟨x, rfl, hx, ⟨[], ee, k1, Nat.le_refl _, HO.out.1 _ rfl, HE.out.2.1.trans k2⟩⟩
    · have hr1 : Rd (w2.setCell ⟨rb, 1, none⟩ (.int .i64 ee)) (some ⟨b, off, none⟩) (bvs l) := hr.below hEb fun b' off' e _ => by cases e; exact hlt
      have h01 : (w2.setCell ⟨rb, 1, none⟩ (.int .i64 ee)).cell? ⟨rb, 0, none⟩ = some (.slice (some ⟨b, off, none⟩) l.length c) := (World.cell?_setCell_other w2 _ _ _ (ne01 rb).symm).trans h0
      have HE := Lib.hid (And.intro hE (And.intro hEb (And.intro hr1 h01)))
      clear hE hEb hr1 h01 hr
      go_wp2_with fail
      · go_ret
        obtain ⟨k1, k2⟩ := HE.out.1.setLeft (n := n) (off' := off) (c' := 0) HE.out.2.2.2 hlt HE.out.2.2.1 hn (.inr (by omega)) (by omega)
        exact ⟨x, rfl, hx, ⟨l.drop n, ee, k1, by rw [List.length_drop]; omega, HO.out.1 _ rfl, HE.out.2.1.trans k2⟩⟩
      · go_ret
        obtain ⟨k1, k2⟩ := HE.out.1.setLeft (n := n) (off' := off + n) (c' := c - n) HE.out.2.2.2 hlt HE.out.2.2.1 hn (.inl rfl) (by omega)
        exact ⟨x, rfl, hx, ⟨l.drop n, ee, k1, by rw [List.length_drop]; omega, HO.out.1 _ rfl, HE.out.2.1.trans k2⟩⟩
  · have hask := ask_no w rb l er h he
    have H := Lib.hid (And.intro h he)
    clear h he
    go_enter Try.func97, Try.ntmps97
    go_wp2_with fail
    refine hask.mono ?_
    rintro e w1 ⟨v, rfl, rfl⟩
    clear hask
    go_wp2_with fail
    go_ret
    exact ⟨0, rfl, by omega, ⟨l, er, H.out.1, Nat.le_refl _, fun h => (H.out.2 h).elim, Below.refl _ _⟩⟩
end Go.Proofs.Ytdbccemllaehjaa.PG
