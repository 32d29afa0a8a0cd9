/- The Reader of octets: Text, walked. -/
import Derived.Test.YtdbccemllaehjaaGo
namespace Go.Proofs.Ytdbccemllaehjaa.PG
open Go.RowKit Go.Proofs.YtdbccemllaehjaaKw Go.Proofs.YtdbccemllaehjaaGa
set_option linter.unusedVariables false
set_option linter.unusedSimpArgs false
def TOk (l : List Nat) (er : Int) (t : ByteArray) (l' : List Nat) (er' : Int) : Prop := er = 0 → ∀ s rest, s.length ≤ 64 → l = textB s ++ rest → t = strOf s ∧ l' = rest ∧ er' = 0
theorem text_split {l : List Nat} {x n : Nat} {ee : Int} (h : ∀ y rest, y < 18446744073709551616 → l = uintB y ++ rest → x = y ∧ n = (uintB y).length ∧ ee = 0) {s rest : List Nat} (hs : s.length ≤ 64) (e : l = textB s ++ rest) :
    x = s.length ∧ ee = 0 ∧ l.drop n = s ++ rest ∧ l.length = n + s.length + rest.length := by
  unfold textB at e
  rw [List.append_assoc] at e
  obtain ⟨h1, h2, h3⟩ := h s.length (s ++ rest) (by omega) e
  refine ⟨h1, h3, by rw [e, h2, List.drop_left], ?_⟩
  rw [e, h2]
  simp [List.length_append]
  omega
set_option maxHeartbeats 8000000 in
set_option maxRecDepth 100000 in
theorem rdtext_calls (w : World) (rb : Nat) (l : List Nat) (er : Int) (h : RS w rb l er) (hl : l.length ≤ 140737488355328) :
    Calls Try.prog 99 #[.pointer (some ⟨rb, 0, none⟩), .int .i64 64] w fun e w' => ∃ t : ByteArray, e = .returned (.string t) ∧ t.size ≤ 64 ∧ RdAns rb w l w' (TOk l er t) := by
  by_cases he : er = 0
  · subst he
    have hask := ask_yes w rb l h hl
    go_enter Try.func99, Try.ntmps99
    go_wp2_with fail
    refine hask.mono ?_
    rintro e w1 ⟨v, rfl, rfl⟩
    clear hask
    obtain ⟨A, c, h0, hc1, hc2, hr, hb⟩ := h.left
    go_wp2_with fail
    refine (short_calls w1 l A c hr h.dig hl).mono ?_
    rintro e w2 ⟨x, n, ee, rfl, hx, hn, hee, hok, rfl⟩
    have hsp := fun s rest hs e => text_split (s := s) (rest := rest) hok hs e
    have HO := Lib.hid (And.intro hsp h)
    have h1 := h.err
    have hf0 := h.f0
    have hf1 := h.f1
    have hdg := Lib.hid h.dig
    clear h hok hsp
    by_cases hee0 : ee = 0
    · subst hee0
      by_cases hx64 : 64 < x
      · obtain ⟨hE, hEb⟩ := HO.out.2.setErr 3 (by omega)
        have HE := Lib.hid (And.intro hE hEb)
        clear hE hEb hb hr
        go_wp2_with fail
        go_ret
        exact ⟨⟨#[]⟩, rfl, by decide, ⟨l, 3, HE.out.1, Nat.le_refl _, fun _ s rest hs e => by have := (HO.out.1 s rest hs e).1; omega, HE.out.2⟩⟩
      · by_cases hlen : l.length < n + x
        · obtain ⟨hE, hEb⟩ := HO.out.2.setErr 20 (by omega)
          have HE := Lib.hid (And.intro hE hEb)
          clear hE hEb hb hr
          go_wp2_with fail
          go_ret
          exact ⟨⟨#[]⟩, rfl, by decide, ⟨l, 20, HE.out.1, Nat.le_refl _, fun _ s rest hs e => by have := HO.out.1 s rest hs e; omega, HE.out.2⟩⟩
        · rcases hb with ⟨rfl, rfl, rfl⟩ | ⟨b, off, rfl, hlt⟩
          · have hn0 : n = 0 := by simpa using hn
            have hx0 : x = 0 := by simp at hlen; omega
            subst hn0
            subst hx0
            have kc := conv_text (w := w2) (A := none) (m := 0) (c := 0) (l := []) ⟨rfl, .inl ⟨rfl, rfl, rfl⟩⟩
            clear hr
            go_wp2_with fail
            go_ret
            obtain ⟨k1, k2⟩ := HO.out.2.setNil h0
            exact ⟨strOf [], rfl, by rw [strOf_size]; simp, ⟨[], 0, k1, Nat.le_refl _, fun _ s rest hs e => by
              obtain ⟨m1, m2, m3, m4⟩ := HO.out.1 s rest hs e
              have e1 : s = [] := List.eq_nil_of_length_eq_zero m1.symm
              have e2 : rest = [] := List.eq_nil_of_length_eq_zero (by simp at m4; omega)
              exact ⟨by rw [e1], e2.symm, rfl⟩, k2⟩⟩
          · by_cases hcn : c = n
            · have hx0 : x = 0 := by omega
              subst hx0
              subst hcn
              have hln : l.length = c := by omega
              have HL := Lib.hid (And.intro hr hln)
              clear hr hln
              have kc0 := fun c' => conv_text (w := w2) (A := some ⟨b, off, none⟩) (m := 0) (c := c') (l := []) ⟨rfl, .inr ⟨b, off, rfl, by
                have : rb < w2.heap.size := World.block_lt_of_cell? w2 _ h1
                omega, fun j u hu => by simp [bvs] at hu⟩⟩
              go_wp2_with fail
              go_ret
              obtain ⟨k1, k2⟩ := HO.out.2.setLeft (n := c) (off' := off) (c' := 0) h0 hlt HL.out.1 hn (.inr HL.out.2) (by have := HL.out.2; omega)
              rw [show l.length - c = 0 by have := HL.out.2; omega] at k1 k2
              exact ⟨strOf [], rfl, by rw [strOf_size]; simp, ⟨l.drop c, 0, k1, by rw [List.length_drop]; omega, fun _ s rest hs e => by
                obtain ⟨m1, m2, m3, m4⟩ := HO.out.1 s rest hs e
                have e1 : s = [] := List.eq_nil_of_length_eq_zero m1.symm
                rw [m3, e1]
                exact ⟨rfl, rfl, rfl⟩, k2⟩⟩
            have hsl : Sl w2 (some ⟨b, off + n, none⟩) x (c - n) (bvs ((l.drop n).take x)) := by
              have hrd := rd_drop hr hn
              refine ⟨by rw [bvs_len, List.length_take, List.length_drop]; omega, .inr ⟨b, off + n, rfl, ?_, fun j u hu => ?_⟩⟩
              · have : rb < w2.heap.size := World.block_lt_of_cell? w2 _ h1
                omega
              · have hj : j < ((l.drop n).take x).length := by
                  have := (List.getElem?_eq_some_iff.1 hu).1
                  rwa [bvs_len] at this
                rw [List.length_take, List.length_drop] at hj
                obtain ⟨b', off', e, hc⟩ := rd_byte hrd (k := j) (by rw [List.length_drop]; omega)
                cases e
                rw [bvs_at _ (by rw [List.length_take, List.length_drop]; omega)] at hu
                rw [hc, ← hu]
                simp
            have kc := conv_text hsl
            have HR := Lib.hid (And.intro hr hsl)
            clear hsl hr
            go_wp2_with fail
            · go_ret
              obtain ⟨k1, k2⟩ := HO.out.2.setLeft (n := n + x) (off' := off) (c' := 0) h0 hlt HR.out.1 (by omega) (.inr (by omega)) (by omega)
              exact ⟨strOf ((l.drop n).take x), rfl, by rw [strOf_size, List.length_take]; omega, ⟨l.drop (n + x), 0, k1, by rw [List.length_drop]; omega, fun _ s rest hs e => by
                obtain ⟨m1, m2, m3, m4⟩ := HO.out.1 s rest hs e
                rw [← List.drop_drop, m3, m1]
                exact ⟨by rw [List.take_left], List.drop_left, rfl⟩, k2⟩⟩
            · go_ret
              obtain ⟨k1, k2⟩ := HO.out.2.setLeft (n := n + x) (off' := off + (n + x)) (c' := c - (n + x)) h0 hlt HR.out.1 (by omega) (.inl rfl) (by omega)
              exact ⟨strOf ((l.drop n).take x), rfl, by rw [strOf_size, List.length_take]; omega, ⟨l.drop (n + x), 0, k1, by rw [List.length_drop]; omega, fun _ s rest hs e => by
                obtain ⟨m1, m2, m3, m4⟩ := HO.out.1 s rest hs e
                rw [← List.drop_drop, m3, m1]
                exact ⟨by rw [List.take_left], List.drop_left, rfl⟩, k2⟩⟩
    · have hne : (ee != 0) = true := by simp [hee0]
      obtain ⟨hE, hEb⟩ := HO.out.2.setErr ee hee
      have HE := Lib.hid (And.intro hE (And.intro hEb hee0))
      clear hE hEb hb hr hee0
      go_wp2_with fail
      go_ret
      exact ⟨⟨#[]⟩, rfl, by decide, ⟨l, ee, HE.out.1, Nat.le_refl _, fun _ s rest hs e => (HE.out.2.2 (HO.out.1 s rest hs e).2.1).elim, HE.out.2.1⟩⟩
  · have hask := ask_no w rb l er h he
    have H := Lib.hid (And.intro h he)
    clear h he
    go_enter Try.func99, Try.ntmps99
    go_wp2_with fail
    refine hask.mono ?_
    rintro e w1 ⟨v, rfl, rfl⟩
    clear hask
    go_wp2_with fail
    go_ret
    exact ⟨⟨#[]⟩, rfl, by decide, ⟨l, er, H.out.1, Nat.le_refl _, fun h => (H.out.2 h).elim, Below.refl _ _⟩⟩
end Go.Proofs.Ytdbccemllaehjaa.PG
