/- The arguments of a question, as they lie in memory; its key, walked. -/
import Derived.Test.YtdbccemllaehjaaHm
namespace Go.Proofs.Ytdbccemllaehjaa.PK
open Go.RowKit Go.Proofs.YtdbccemllaehjaaKw Go.Proofs.YtdbccemllaehjaaHa Go.Proofs.YtdbccemllaehjaaGa Go.Proofs.Ytdbccemllaehjaa.PG
set_option linter.unusedVariables false
set_option linter.unusedSimpArgs false
@[go_sem] theorem run_store_float {P : Program} {w : World} {a : Addr} {m : Mode} (k : FloatKind) (x : Nat) : (store a (.float k x) m).run P w = stored P w a (.float k x) m := run_store P w a _ m rfl
theorem WF.below {w w' : World} {wb : Nat} {l : List Nat} (h : WF w wb w') (hS : WS w wb l) : Below wb w w' :=
  ⟨h.tch.os, h.tch.tape, h.tch.output, h.tch.size, fun k hk => h.block (by have := hS.lt; omega) (by omega) (fun e => by have := WS.row_lt hS e; omega)⟩
/-- An argument's cells. -/
structure GAt (w : World) (b o : Nat) (x : ByteArray × VV) : Prop where
  nm : w.cell? ⟨b, o, none⟩ = some (.string x.1)
  v : VAt w b (o + 1) x.2
theorem GAt.keep {w w' : World} {b o B : Nat} {x : ByteArray × VV} (h : GAt w b o x) (hb : Below B w w') (hB : b < B) : GAt w' b o x :=
  ⟨(hb.cell (p := ⟨b, o, none⟩) hB).trans h.nm, h.v.keep hb hB⟩
/-- The arguments stand one behind the other. -/
def GsAt (w : World) (A : Option Addr) (xs : List (ByteArray × VV)) : Prop :=
  xs = [] ∨ ∃ b off, A = some ⟨b, off, none⟩ ∧ b < w.heap.size ∧ ∀ (k : Nat) x, xs[k]? = some x → GAt w b (off + k * 7) x
theorem GsAt.below {w w' : World} {B : Nat} {A : Option Addr} {xs : List (ByteArray × VV)} (h : GsAt w A xs) (hb : Below B w w') (hlo : ∀ b off, A = some ⟨b, off, none⟩ → xs ≠ [] → b < B) : GsAt w' A xs := by
  rcases h with h | ⟨b, off, hA, hlt, hc⟩
  · exact .inl h
  · by_cases hx : xs = []
    · exact .inl hx
    · exact .inr ⟨b, off, hA, Nat.lt_of_lt_of_le hlt hb.size, fun k x hk => (hc k x hk).keep hb (hlo b off hA hx)⟩
/-- The value's texts lie below. -/
def VLo (B : Nat) (v : VV) : Prop := ∀ b off, v.A = some ⟨b, off, none⟩ → PC.strs v.ss ≠ [] → b < B
structure ALo (B : Nat) (a : AA) : Prop where
  A : ∀ b off, a.A = some ⟨b, off, none⟩ → a.xs ≠ [] → b < B
  each : ∀ x ∈ a.xs, VLo B x.2
/-- The question is of its types, and can be read. -/
structure AOk (w : World) (a : AA) : Prop where
  small : a.small
  bud : -9223372036854775808 ≤ a.bud ∧ a.bud ≤ 9223372036854775807
  c : a.xs.length ≤ a.c ∧ a.c ≤ 9223372036854775807
  len : a.xs.length ≤ 1048576
  rd : GsAt w a.A a.xs
  each : ∀ x ∈ a.xs, x.1.size ≤ 1048576 ∧ VOk w x.2
theorem AOk.below {w w' : World} {B : Nat} {a : AA} (h : AOk w a) (hb : Below B w w') (hlo : ALo B a) : AOk w' a :=
  ⟨h.small, h.bud, h.c, h.len, h.rd.below hb hlo.A, fun x hx => ⟨(h.each x hx).1, (h.each x hx).2.below hb (hlo.each x hx)⟩⟩
theorem AOk.low {w : World} {a : AA} (h : AOk w a) : ALo w.heap.size a := by
  refine ⟨fun b off hA hne => ?_, fun x hx => (h.each x hx).2.low⟩
  rcases h.rd with e | ⟨b', off', e, hlt, _⟩
  · exact absurd e hne
  · rw [hA] at e
    cases e
    exact hlt
theorem ALo.mono {B B' : Nat} {a : AA} (h : ALo B a) (hB : B ≤ B') : ALo B' a :=
  ⟨fun b off e1 e2 => Nat.lt_of_lt_of_le (h.A b off e1 e2) hB, fun x hx b off e1 e2 => Nat.lt_of_lt_of_le (h.each x hx b off e1 e2) hB⟩
/-- The bytes of an argument; of a question. -/
noncomputable def argB (x : ByteArray × VV) : List Nat := textB (nums x.1) ++ textB (encV x.2)
noncomputable def keyB (hd : List Nat) (xs : List (ByteArray × VV)) : List Nat := hd ++ uintB xs.length ++ (xs.map argB).flatten
theorem headO_len {a : AA} (h : a.small) : (headO a).length ≤ 8000000 := by
  obtain ⟨s1, s2, s3, s4, s5, s6, s7⟩ := h
  have m1 := tlen s1
  have m2 := tlen s2
  have m3 := tlen s3
  have m4 := tlen s4
  have m5 := tlen s5
  unfold headO
  simp only [List.length_append, List.length_cons, List.length_nil]
  omega
theorem headS_len {a : AA} (h : a.small) : (headS a).length ≤ 8000000 := by
  obtain ⟨s1, s2, s3, s4, s5, s6, s7⟩ := h
  have m1 := tlen s1
  have m2 := tlen s2
  have m3 := tlen s6
  have m4 := tlen s7
  unfold headS
  simp only [List.length_append, List.length_cons, List.length_nil]
  omega
/-- The bytes of the first arguments. -/
noncomputable def keyP (hd : List Nat) (xs : List (ByteArray × VV)) (k : Nat) : List Nat := hd ++ uintB xs.length ++ ((xs.take k).map argB).flatten
theorem keyP_all (hd : List Nat) (xs : List (ByteArray × VV)) : keyP hd xs xs.length = keyB hd xs := by unfold keyP keyB; rw [List.take_length]
theorem keyP_succ (hd : List Nat) {xs : List (ByteArray × VV)} {k : Nat} {x : ByteArray × VV} (h : xs[k]? = some x) : keyP hd xs (k + 1) = keyP hd xs k ++ textB (nums x.1) ++ textB (encV x.2) := by
  obtain ⟨hk, rfl⟩ := List.getElem?_eq_some_iff.1 h
  unfold keyP
  rw [List.take_succ_eq_append_getElem hk, List.map_append, List.flatten_append]
  simp [argB]
theorem GAt.new (w : World) (x : ByteArray × VV) : GAt (w.alloc (.cells #[.string x.1, .int .i64 x.2.kind, .bool x.2.b, .int .i64 x.2.n, .float .f32 x.2.x, .string x.2.t, .slice x.2.A x.2.ss.length x.2.c] 149)) w.heap.size 0 x := by
  have hnew := heap_alloc_new w (.cells #[.string x.1, .int .i64 x.2.kind, .bool x.2.b, .int .i64 x.2.n, .float .f32 x.2.x, .string x.2.t, .slice x.2.A x.2.ss.length x.2.c] 149)
  exact ⟨by simp only [World.cell?, hnew]; rfl, by simp only [World.cell?, hnew]; rfl, by simp only [World.cell?, hnew]; rfl, by simp only [World.cell?, hnew]; rfl, by simp only [World.cell?, hnew]; rfl, by simp only [World.cell?, hnew]; rfl, by simp only [World.cell?, hnew]; rfl⟩
theorem GAt.of_block {w w' : World} {b o : Nat} {x : ByteArray × VV} (h : GAt w b o x) (hb : w'.heap[b]? = w.heap[b]?) : GAt w' b o x :=
  ⟨(World.cell?_of_block (a := ⟨b, o, none⟩) hb).trans h.nm, (World.cell?_of_block (a := ⟨b, o + 1, none⟩) hb).trans h.v.c0, (World.cell?_of_block (a := ⟨b, o + 1 + 1, none⟩) hb).trans h.v.c1, (World.cell?_of_block (a := ⟨b, o + 1 + 2, none⟩) hb).trans h.v.c2, (World.cell?_of_block (a := ⟨b, o + 1 + 3, none⟩) hb).trans h.v.c3, (World.cell?_of_block (a := ⟨b, o + 1 + 4, none⟩) hb).trans h.v.c4, (World.cell?_of_block (a := ⟨b, o + 1 + 5, none⟩) hb).trans h.v.c5⟩
theorem new_no_row {w : World} {wb : Nat} {l : List Nat} (hS : WS w wb l) (o : Obj) : ¬ RowB (w.alloc o) wb w.heap.size := by
  rintro ⟨v, h1, h2⟩
  have h3 : w.cell? ⟨wb, 0, none⟩ = some v := by rw [← h1]; exact ((below_alloc (Below.refl w.heap.size w) o).cell (p := ⟨wb, 0, none⟩) hS.lt).symm
  have := WS.row_lt hS ⟨v, h3, h2⟩
  omega
theorem encV_len (v : VV) (hn : -9223372036854775808 ≤ v.n ∧ v.n ≤ 9223372036854775807) : (encV v).length ≤ 10000 := by
  unfold encV
  split
  · exact encB_len (by assumption) hn
  · simp
theorem dig_app {l m : List Nat} (h1 : Dig 256 l) (h2 : Dig 256 m) : Dig 256 (l ++ m) := fun d hd => (List.mem_append.1 hd).elim (h1 d) (h2 d)
theorem dig_flat {l : List (List Nat)} (h : ∀ m ∈ l, Dig 256 m) : Dig 256 l.flatten := fun d hd => by
  obtain ⟨m, hm, hdm⟩ := List.mem_flatten.1 hd
  exact h m hm d hdm
theorem textB_dig {l : List Nat} (h : Dig 256 l) (hl : l.length < 18446744073709551616) : Dig 256 (textB l) := dig_app (uintB_64 hl).1 h
theorem text_dig {s : ByteArray} (h : s.size ≤ 1048576) : Dig 256 (textB (nums s)) := textB_dig (nums_dig s) (by rw [nums_len]; omega)
theorem four_dig (k : Nat) : Dig 256 (four k) := by
  intro d hd
  simp [four] at hd
  omega
theorem encV_dig (v : VV) (hn : -9223372036854775808 ≤ v.n ∧ v.n ≤ 9223372036854775807) : Dig 256 (encV v) := by
  unfold encV
  split
  case isFalse => intro d hd; simp at hd
  case isTrue h =>
    obtain ⟨h1, h2, h3, h4, h5, _⟩ := h
    unfold encB
    refine dig_app (fun d hd => by simp at hd; omega) ?_
    split
    · intro d hd
      simp at hd
      subst hd
      exact bn_lt v.b
    split
    · exact (uintB_64 (turnN_lt hn)).1
    split
    · exact four_dig _
    split
    · exact text_dig (by omega)
    · refine dig_app (uintB_64 (by omega)).1 (dig_flat fun m hm => ?_)
      obtain ⟨s, hs, rfl⟩ := List.mem_map.1 hm
      exact text_dig (by have := h3 s hs; omega)
theorem argB_len {x : ByteArray × VV} (h : x.1.size ≤ 1048576 ∧ (-9223372036854775808 ≤ x.2.n ∧ x.2.n ≤ 9223372036854775807)) : (argB x).length ≤ 1058600 := by
  unfold argB
  rw [List.length_append]
  have h1 := tlen h.1
  have h2 := encV_len x.2 h.2
  have h3 : (textB (encV x.2)).length ≤ 10010 := by
    unfold textB
    rw [List.length_append]
    have := (uintB_64 (show (encV x.2).length < 18446744073709551616 by omega)).2
    omega
  omega
theorem flat_len {α : Type} (f : α → List Nat) (c : Nat) : ∀ l : List α, (∀ x ∈ l, (f x).length ≤ c) → ((l.map f).flatten).length ≤ l.length * c
  | [], _ => by simp
  | x :: l, h => by
    have h1 := flat_len f c l fun y hy => h y (by simp [hy])
    have h2 := h x (by simp)
    simp only [List.map_cons, List.flatten_cons, List.length_append, List.length_cons, Nat.add_mul, Nat.one_mul]
    omega
theorem keyP_len (hd : List Nat) (hh : hd.length ≤ 8000000) (xs : List (ByteArray × VV)) (h : ∀ x ∈ xs, x.1.size ≤ 1048576 ∧ (-9223372036854775808 ≤ x.2.n ∧ x.2.n ≤ 9223372036854775807)) (hl : xs.length ≤ 1048576) (k : Nat) : (keyP hd xs k).length ≤ 2000000000000 := by
  unfold keyP
  rw [List.length_append, List.length_append]
  have h1 := (uintB_64 (show xs.length < 18446744073709551616 by omega)).2
  have h2 := flat_len argB 1058600 (xs.take k) fun x hx => argB_len (h x (List.mem_of_mem_take hx))
  rw [List.length_take] at h2
  have h3 : min k xs.length * 1058600 ≤ 1048576 * 1058600 := Nat.mul_le_mul_right _ (by omega)
  omega
theorem headO_dig {a : AA} (h : a.small) : Dig 256 (headO a) := by
  obtain ⟨s1, s2, s3, s4, s5, s6, s7⟩ := h
  unfold headO
  exact dig_app (dig_app (dig_app (dig_app (dig_app (fun d hd => by simp at hd; omega) (text_dig s1)) (text_dig s2)) (text_dig s3)) (text_dig s4)) (text_dig s5)
theorem headS_dig {a : AA} (h : a.small) : Dig 256 (headS a) := by
  obtain ⟨s1, s2, s3, s4, s5, s6, s7⟩ := h
  unfold headS
  exact dig_app (dig_app (dig_app (dig_app (fun d hd => by simp at hd; omega) (text_dig s1)) (text_dig s2)) (text_dig s6)) (text_dig s7)
theorem keyB_dig {hd : List Nat} (hh : Dig 256 hd) {xs : List (ByteArray × VV)} (hl : xs.length < 18446744073709551616) (h : ∀ x ∈ xs, x.1.size ≤ 1048576 ∧ (-9223372036854775808 ≤ x.2.n ∧ x.2.n ≤ 9223372036854775807)) : Dig 256 (keyB hd xs) := by
  unfold keyB
  refine dig_app (dig_app hh (uintB_64 hl).1) (dig_flat fun m hm => ?_)
  obtain ⟨x, hx, rfl⟩ := List.mem_map.1 hm
  exact dig_app (text_dig (h x hx).1) (textB_dig (encV_dig x.2 (h x hx).2) (by have := encV_len x.2 (h x hx).2; omega))
set_option maxHeartbeats 4000000 in
set_option maxRecDepth 100000 in
theorem keyo_calls (w : World) (a : AA) (ha : AOk w a) :
    Calls Try.prog 76 #[.iface 139 (.agg #[]), a.agg] w fun e w' => e = .returned (.int .u64 (sumB (keyB (headO a) a.xs) : Int)) ∧ Below w.heap.size w w' := by
  obtain ⟨ab, hab⟩ : ∃ ab, ab = w.heap.size := ⟨_, rfl⟩
  have hat := AAt.new w a
  have hal := below_alloc (Below.refl w.heap.size w) (.cells a.cells 80)
  have hsz : (w.alloc (.cells a.cells 80)).heap.size = ab + 1 := by rw [hab]; simp
  obtain ⟨W0, hW0⟩ : ∃ W0, W0 = w.alloc (.cells a.cells 80) := ⟨_, rfl⟩
  have hS := WS.new W0
  have hz : (W0.alloc (.cells #[.slice none 0 0] 157)).cell? ⟨W0.heap.size, 0, none⟩ = some (.slice none 0 0) := by simp only [World.cell?, heap_alloc_new]; rfl
  have hal1 := below_alloc (Below.refl W0.heap.size W0) (.cells #[.slice none 0 0] 157)
  have hsz1 : (W0.alloc (.cells #[.slice none 0 0] 157)).heap.size = ab + 2 := by simp [hW0, hab]
  rw [← hW0] at hat hal hsz
  rw [← hab] at hat
  rw [hsz] at hS hz hal1
  have hat1 := hat.keep hal1 (by omega)
  have hB1 := hal.trans (hal1.mono (by omega))
  have hok1 := (ha.below hB1 ha.low)
  have hlo := ha.low
  rw [← hab] at hlo
  obtain ⟨W1, hW1⟩ : ∃ W1, W1 = W0.alloc (.cells #[.slice none 0 0] 157) := ⟨_, rfl⟩
  rw [← hW1] at hS hz hal1 hsz1 hat1 hB1 hok1
  have HW := Lib.hid (And.intro hab (And.intro hW0 (And.intro hW1 hB1)))
  have H := Lib.hid (And.intro hS (And.intro hz (And.intro hat1 (And.intro hok1 hlo))))
  have hsm := ha.small
  have HSM := Lib.hid (And.intro hsm (headO_len hsm))
  clear ha hS hz hal1 hat1 hB1 hok1 hlo hsm hat hal hsz
  clear hab hW1
  simp only [AA.cells] at hW0
  simp only [AA.agg]
  clear hW0
  go_enter Try.func76, Try.ntmps76
  go_wp2_with fail
  rw [← HW.out.1]
  have hWW : W1 = (w.alloc (.cells #[.string a.T, .string a.R, .string a.st, .string a.si, .string a.sr, .string a.ot, .string a.oi, .slice a.A a.xs.length a.c, .int .i64 a.bud] 80)).alloc (.cells #[.slice none 0 0] 157) := by rw [HW.out.2.2.1, HW.out.2.1]; rfl
  rw [← hWW]
  clear hWW
  refine (heado_calls W1 (ab + 1) a H.out.1 H.out.2.1 HSM.out.1).mono ?_
  rintro e w2 ⟨rfl, hS2, hb2⟩
  have hat2 := H.out.2.2.1.keep hb2 (by omega)
  have hok2 := H.out.2.2.2.1.below hb2 (H.out.2.2.2.2.mono (by omega))
  have hB2 := HW.out.2.2.2.trans (hb2.mono (by have := HW.out.1; omega))
  have p7 := hat2.c7
  have hsz2 : ab + 1 < w2.heap.size := hS2.lt
  have hlen := hok2.len
  have hlen2 := hok2.c
  have H2 := Lib.hid (And.intro hS2 (And.intro hat2 (And.intro hok2 (And.intro hB2 H.out.2.2.2.2))))
  clear hS2 hat2 hok2 hB2 hb2 H hsz1
  go_wp2_with fail
  refine (uintF_calls w2 (ab + 1) (headO a) a.xs.length (by omega) H2.out.1 (by have := HSM.out.2; omega)).mono ?_
  rintro e w3 ⟨rfl, hS3, hf3⟩
  have hb3 := hf3.below H2.out.1
  have hat3 := H2.out.2.1.keep hb3 (by omega)
  have hok3 := H2.out.2.2.1.below hb3 (H2.out.2.2.2.2.mono (by omega))
  have hB3 := H2.out.2.2.2.1.trans (hb3.mono (by have := HW.out.1; omega))
  have p7 := hat3.c7
  obtain ⟨A', hA'⟩ : ∃ A', A' = a.A := ⟨_, rfl⟩
  rw [← hA'] at p7
  have HA := Lib.hid hA'
  clear hA'
  have hlo := H2.out.2.2.2.2
  have H3 := Lib.hid (And.intro hS3 (And.intro hat3 (And.intro hok3 (And.intro hB3 hlo))))
  clear hS3 hat3 hok3 hB3 hb3 H2 hf3 hsz2 hlo
  go_wp2_with fail
  go_loopw [21] (fun s wr => ∃ k : Nat, k ≤ a.xs.length ∧ s = .int .i64 (k : Int) ∧ WS wr (ab + 1) (keyP (headO a) a.xs k) ∧ Below (ab + 1) w3 wr) (fun s _ => a.xs.length - (intOf s).toNat)
  case atStart => exact ⟨0, Nat.zero_le _, rfl, by simpa [keyP] using H3.out.1, Below.refl _ _⟩
  case round =>
    clear p7
    obtain ⟨k, hk, rfl, hS, hb⟩ := hrel
    by_cases hlt : k < a.xs.length
    · obtain ⟨x, hx⟩ : ∃ x, a.xs[k]? = some x := ⟨_, List.getElem?_eq_getElem hlt⟩
      have hok4 := H3.out.2.2.1.below hb (H3.out.2.2.2.2.mono (by omega))
      rcases hok4.rd with h0 | ⟨b, off, hA, hbl, hc⟩
      · rw [h0] at hlt
        simp at hlt
      have hg := hc k x hx
      have hAe := HA.out.trans hA
      subst hAe
      have q0 := hg.nm
      have q1 : wr.cell? ⟨b, off + k * 7 + 1, none⟩ = _ := hg.v.c0
      have q2 : wr.cell? ⟨b, off + k * 7 + 2, none⟩ = _ := hg.v.c1
      have q3 : wr.cell? ⟨b, off + k * 7 + 3, none⟩ = _ := hg.v.c2
      have q4 : wr.cell? ⟨b, off + k * 7 + 4, none⟩ = _ := hg.v.c3
      have q5 : wr.cell? ⟨b, off + k * 7 + 5, none⟩ = _ := hg.v.c4
      have q6 : wr.cell? ⟨b, off + k * 7 + 6, none⟩ = _ := hg.v.c5
      have hxe := hok4.each x (List.mem_of_getElem? hx)
      have hS4lt := hS.lt
      have H4 := Lib.hid (And.intro hS (And.intro hb (And.intro hok4 (And.intro hxe hA))))
      clear hS hb hok4 hxe hA hg hc
      have hltw := hS4lt
      go_wp2_with fail
      obtain ⟨tb, htb⟩ : ∃ tb, tb = wr.heap.size := ⟨_, rfl⟩
      have hg4 := GAt.new wr x
      have hal4 := below_alloc (Below.refl wr.heap.size wr) (.cells #[.string x.1, .int .i64 x.2.kind, .bool x.2.b, .int .i64 x.2.n, .float .f32 x.2.x, .string x.2.t, .slice x.2.A x.2.ss.length x.2.c] 149)
      have hnr := new_no_row H4.out.1 (.cells #[.string x.1, .int .i64 x.2.kind, .bool x.2.b, .int .i64 x.2.n, .float .f32 x.2.x, .string x.2.t, .slice x.2.A x.2.ss.length x.2.c] 149)
      have hsz4 : (wr.alloc (.cells #[.string x.1, .int .i64 x.2.kind, .bool x.2.b, .int .i64 x.2.n, .float .f32 x.2.x, .string x.2.t, .slice x.2.A x.2.ss.length x.2.c] 149)).heap.size = tb + 1 := by rw [htb]; simp
      have hS5 := H4.out.1.keep hal4
      have hF5 := WF.of_below hal4 hltw
      rw [← htb] at hg4 hnr ⊢
      have hltb : ab + 1 < tb := by rw [htb]; exact hltw
      have H5 := Lib.hid (And.intro hg4 (And.intro hnr (And.intro hS5 (And.intro hF5 hsz4))))
      clear hg4 hnr hS5 hF5 hal4 htb q0 q1 q2 q3 q4 q5 q6 hsz4
      generalize wr.alloc (.cells #[.string x.1, .int .i64 x.2.kind, .bool x.2.b, .int .i64 x.2.n, .float .f32 x.2.x, .string x.2.t, .slice x.2.A x.2.ss.length x.2.c] 149) = W5 at *
      have hx1 := H4.out.2.2.2.1.1
      have hkl := keyP_len (headO a) HSM.out.2 a.xs (fun x hx => ⟨(H4.out.2.2.1.each x hx).1, (H4.out.2.2.1.each x hx).2.n⟩) hlen k
      have HKL := Lib.hid hkl
      clear hkl
      refine (textF_calls W5 (ab + 1) _ x.1 (by unfold maxLen; omega) H5.out.2.2.1 (by have := HKL.out; omega)).mono ?_
      rintro e w6 ⟨rfl, hS6, hF6⟩
      have hg6 := H5.out.1.of_block (hF6.block (q := tb) (by have := H5.out.2.2.2.2; omega) (by omega) H5.out.2.1)
      have hF06 := H5.out.2.2.2.1.trans hF6
      have hb6 := hF06.below H4.out.1
      have hok6 := H4.out.2.2.1.below hb6 (H3.out.2.2.2.2.mono (by omega))
      have hxe6 := hok6.each x (List.mem_of_getElem? hx)
      have q1 : w6.cell? ⟨tb, 1, none⟩ = _ := hg6.v.c0
      have q2 : w6.cell? ⟨tb, 2, none⟩ = _ := hg6.v.c1
      have q3 : w6.cell? ⟨tb, 3, none⟩ = _ := hg6.v.c2
      have q4 : w6.cell? ⟨tb, 4, none⟩ = _ := hg6.v.c3
      have q5 : w6.cell? ⟨tb, 5, none⟩ = _ := hg6.v.c4
      have q6 : w6.cell? ⟨tb, 6, none⟩ = _ := hg6.v.c5
      have H6 := Lib.hid (And.intro hS6 (And.intro (H4.out.2.1.trans hb6) (And.intro hok6 hxe6)))
      clear hS6 hF6 hg6 hF06 hb6 hok6 hxe6 H5
      go_wp2_with fail
      refine (vencode_calls w6 x.2 H6.out.2.2.2.2).mono ?_
      rintro e w7 ⟨r, er, rfl, ho7, hb7⟩
      obtain ⟨A7, c7, rfl, hsl⟩ := own_sl ho7
      have kc := conv_text hsl
      have hln := encV_len x.2 H6.out.2.2.2.2.n
      have hdg := encV_dig x.2 H6.out.2.2.2.2.n
      have hS7 := H6.out.1.keep hb7
      have hB7 := H6.out.2.1.trans (hb7.mono (by have := H6.out.1.lt; omega))
      have H7 := Lib.hid (And.intro hS7 (And.intro hB7 (And.intro hdg hln)))
      clear ho7 hb7 hsl hln hdg hS7 hB7 q1 q2 q3 q4 q5 q6
      go_wp2_with fail
      refine (textF_calls w7 (ab + 1) _ (strOf (encV x.2)) (by rw [strOf_size]; have := H7.out.2.2.2; unfold maxLen; omega) H7.out.1 (by rw [strOf_size, List.length_append]; have := H7.out.2.2.2; have := HKL.out; have := tlen hx1; omega)).mono ?_
      rintro e w8 ⟨rfl, hS8, hF8⟩
      have hB8 := H7.out.2.1.trans (hF8.below H7.out.1)
      rw [nums_strOf H7.out.2.2.1, ← keyP_succ _ hx] at hS8
      have H8 := Lib.hid (And.intro hS8 hB8)
      clear hS8 hB8 hF8 kc
      go_wp2_with fail
      go_roundw
      case rel => exact ⟨k + 1, by omega, by go_num, H8.out.1, H8.out.2⟩
      case measure => simp [intOf]; omega
    · obtain rfl : a.xs.length = k := by omega
      rw [keyP_all] at hS
      have hkl := keyP_len (headO a) HSM.out.2 a.xs (fun x hx => ⟨(H3.out.2.2.1.each x hx).1, (H3.out.2.2.1.each x hx).2.n⟩) hlen a.xs.length
      rw [keyP_all] at hkl
      have hdg := keyB_dig (headO_dig HSM.out.1) (xs := a.xs) (by omega) (fun x hx => ⟨(H3.out.2.2.1.each x hx).1, (H3.out.2.2.1.each x hx).2.n⟩)
      have H4 := Lib.hid (And.intro hS (And.intro hb (And.intro hkl hdg)))
      clear hS hb hkl hdg
      go_wp2_with fail
      refine (bytes_calls wr (ab + 1) _ H4.out.1 (by have := H4.out.2.2.1; omega)).mono ?_
      rintro e w5 ⟨r, rfl, ho5, hb5⟩
      obtain ⟨A5, c5, rfl, _, _⟩ := own_form ho5
      have hrd := own_rd ho5
      have H5 := Lib.hid (And.intro hrd hb5)
      clear ho5 hb5 hrd
      go_wp2_with fail
      refine (sum_calls w5 _ A5 c5 H5.out.1 (by have := H4.out.2.2.1; omega) H4.out.2.2.2).mono ?_
      rintro e w6 ⟨rfl, rfl⟩
      go_wp2_with fail
      go_ret
      exact ⟨rfl, (H3.out.2.2.2.1.trans (H4.out.2.1.mono (by have := HW.out.1; omega))).trans (H5.out.2.mono (by have := H4.out.1.lt; have := HW.out.1; omega))⟩

set_option maxHeartbeats 4000000 in
set_option maxRecDepth 100000 in
theorem keys_calls (w : World) (a : AA) (ha : AOk w a) :
    Calls Try.prog 76 #[.iface 140 (.agg #[]), a.agg] w fun e w' => e = .returned (.int .u64 (sumB (keyB (headS a) a.xs) : Int)) ∧ Below w.heap.size w w' := by
  obtain ⟨ab, hab⟩ : ∃ ab, ab = w.heap.size := ⟨_, rfl⟩
  have hat := AAt.new w a
  have hal := below_alloc (Below.refl w.heap.size w) (.cells a.cells 80)
  have hsz : (w.alloc (.cells a.cells 80)).heap.size = ab + 1 := by rw [hab]; simp
  obtain ⟨W0, hW0⟩ : ∃ W0, W0 = w.alloc (.cells a.cells 80) := ⟨_, rfl⟩
  have hS := WS.new W0
  have hz : (W0.alloc (.cells #[.slice none 0 0] 157)).cell? ⟨W0.heap.size, 0, none⟩ = some (.slice none 0 0) := by simp only [World.cell?, heap_alloc_new]; rfl
  have hal1 := below_alloc (Below.refl W0.heap.size W0) (.cells #[.slice none 0 0] 157)
  have hsz1 : (W0.alloc (.cells #[.slice none 0 0] 157)).heap.size = ab + 2 := by simp [hW0, hab]
  rw [← hW0] at hat hal hsz
  rw [← hab] at hat
  rw [hsz] at hS hz hal1
  have hat1 := hat.keep hal1 (by omega)
  have hB1 := hal.trans (hal1.mono (by omega))
  have hok1 := (ha.below hB1 ha.low)
  have hlo := ha.low
  rw [← hab] at hlo
  obtain ⟨W1, hW1⟩ : ∃ W1, W1 = W0.alloc (.cells #[.slice none 0 0] 157) := ⟨_, rfl⟩
  rw [← hW1] at hS hz hal1 hsz1 hat1 hB1 hok1
  have HW := Lib.hid (And.intro hab (And.intro hW0 (And.intro hW1 hB1)))
  have H := Lib.hid (And.intro hS (And.intro hz (And.intro hat1 (And.intro hok1 hlo))))
  have hsm := ha.small
  have HSM := Lib.hid (And.intro hsm (headS_len hsm))
  clear ha hS hz hal1 hat1 hB1 hok1 hlo hsm hat hal hsz
  clear hab hW1
  simp only [AA.cells] at hW0
  simp only [AA.agg]
  clear hW0
  go_enter Try.func76, Try.ntmps76
  go_wp2_with fail
  rw [← HW.out.1]
  have hWW : W1 = (w.alloc (.cells #[.string a.T, .string a.R, .string a.st, .string a.si, .string a.sr, .string a.ot, .string a.oi, .slice a.A a.xs.length a.c, .int .i64 a.bud] 80)).alloc (.cells #[.slice none 0 0] 157) := by rw [HW.out.2.2.1, HW.out.2.1]; rfl
  rw [← hWW]
  clear hWW
  refine (heads_calls W1 (ab + 1) a H.out.1 H.out.2.1 HSM.out.1).mono ?_
  rintro e w2 ⟨rfl, hS2, hb2⟩
  have hat2 := H.out.2.2.1.keep hb2 (by omega)
  have hok2 := H.out.2.2.2.1.below hb2 (H.out.2.2.2.2.mono (by omega))
  have hB2 := HW.out.2.2.2.trans (hb2.mono (by have := HW.out.1; omega))
  have p7 := hat2.c7
  have hsz2 : ab + 1 < w2.heap.size := hS2.lt
  have hlen := hok2.len
  have hlen2 := hok2.c
  have H2 := Lib.hid (And.intro hS2 (And.intro hat2 (And.intro hok2 (And.intro hB2 H.out.2.2.2.2))))
  clear hS2 hat2 hok2 hB2 hb2 H hsz1
  go_wp2_with fail
  refine (uintF_calls w2 (ab + 1) (headS a) a.xs.length (by omega) H2.out.1 (by have := HSM.out.2; omega)).mono ?_
  rintro e w3 ⟨rfl, hS3, hf3⟩
  have hb3 := hf3.below H2.out.1
  have hat3 := H2.out.2.1.keep hb3 (by omega)
  have hok3 := H2.out.2.2.1.below hb3 (H2.out.2.2.2.2.mono (by omega))
  have hB3 := H2.out.2.2.2.1.trans (hb3.mono (by have := HW.out.1; omega))
  have p7 := hat3.c7
  obtain ⟨A', hA'⟩ : ∃ A', A' = a.A := ⟨_, rfl⟩
  rw [← hA'] at p7
  have HA := Lib.hid hA'
  clear hA'
  have hlo := H2.out.2.2.2.2
  have H3 := Lib.hid (And.intro hS3 (And.intro hat3 (And.intro hok3 (And.intro hB3 hlo))))
  clear hS3 hat3 hok3 hB3 hb3 H2 hf3 hsz2 hlo
  go_wp2_with fail
  go_loopw [21] (fun s wr => ∃ k : Nat, k ≤ a.xs.length ∧ s = .int .i64 (k : Int) ∧ WS wr (ab + 1) (keyP (headS a) a.xs k) ∧ Below (ab + 1) w3 wr) (fun s _ => a.xs.length - (intOf s).toNat)
  case atStart => exact ⟨0, Nat.zero_le _, rfl, by simpa [keyP] using H3.out.1, Below.refl _ _⟩
  case round =>
    clear p7
    obtain ⟨k, hk, rfl, hS, hb⟩ := hrel
    by_cases hlt : k < a.xs.length
    · obtain ⟨x, hx⟩ : ∃ x, a.xs[k]? = some x := ⟨_, List.getElem?_eq_getElem hlt⟩
      have hok4 := H3.out.2.2.1.below hb (H3.out.2.2.2.2.mono (by omega))
      rcases hok4.rd with h0 | ⟨b, off, hA, hbl, hc⟩
      · rw [h0] at hlt
        simp at hlt
      have hg := hc k x hx
      have hAe := HA.out.trans hA
      subst hAe
      have q0 := hg.nm
      have q1 : wr.cell? ⟨b, off + k * 7 + 1, none⟩ = _ := hg.v.c0
      have q2 : wr.cell? ⟨b, off + k * 7 + 2, none⟩ = _ := hg.v.c1
      have q3 : wr.cell? ⟨b, off + k * 7 + 3, none⟩ = _ := hg.v.c2
      have q4 : wr.cell? ⟨b, off + k * 7 + 4, none⟩ = _ := hg.v.c3
      have q5 : wr.cell? ⟨b, off + k * 7 + 5, none⟩ = _ := hg.v.c4
      have q6 : wr.cell? ⟨b, off + k * 7 + 6, none⟩ = _ := hg.v.c5
      have hxe := hok4.each x (List.mem_of_getElem? hx)
      have hS4lt := hS.lt
      have H4 := Lib.hid (And.intro hS (And.intro hb (And.intro hok4 (And.intro hxe hA))))
      clear hS hb hok4 hxe hA hg hc
      have hltw := hS4lt
      go_wp2_with fail
      obtain ⟨tb, htb⟩ : ∃ tb, tb = wr.heap.size := ⟨_, rfl⟩
      have hg4 := GAt.new wr x
      have hal4 := below_alloc (Below.refl wr.heap.size wr) (.cells #[.string x.1, .int .i64 x.2.kind, .bool x.2.b, .int .i64 x.2.n, .float .f32 x.2.x, .string x.2.t, .slice x.2.A x.2.ss.length x.2.c] 149)
      have hnr := new_no_row H4.out.1 (.cells #[.string x.1, .int .i64 x.2.kind, .bool x.2.b, .int .i64 x.2.n, .float .f32 x.2.x, .string x.2.t, .slice x.2.A x.2.ss.length x.2.c] 149)
      have hsz4 : (wr.alloc (.cells #[.string x.1, .int .i64 x.2.kind, .bool x.2.b, .int .i64 x.2.n, .float .f32 x.2.x, .string x.2.t, .slice x.2.A x.2.ss.length x.2.c] 149)).heap.size = tb + 1 := by rw [htb]; simp
      have hS5 := H4.out.1.keep hal4
      have hF5 := WF.of_below hal4 hltw
      rw [← htb] at hg4 hnr ⊢
      have hltb : ab + 1 < tb := by rw [htb]; exact hltw
      have H5 := Lib.hid (And.intro hg4 (And.intro hnr (And.intro hS5 (And.intro hF5 hsz4))))
      clear hg4 hnr hS5 hF5 hal4 htb q0 q1 q2 q3 q4 q5 q6 hsz4
      generalize wr.alloc (.cells #[.string x.1, .int .i64 x.2.kind, .bool x.2.b, .int .i64 x.2.n, .float .f32 x.2.x, .string x.2.t, .slice x.2.A x.2.ss.length x.2.c] 149) = W5 at *
      have hx1 := H4.out.2.2.2.1.1
      have hkl := keyP_len (headS a) HSM.out.2 a.xs (fun x hx => ⟨(H4.out.2.2.1.each x hx).1, (H4.out.2.2.1.each x hx).2.n⟩) hlen k
      have HKL := Lib.hid hkl
      clear hkl
      refine (textF_calls W5 (ab + 1) _ x.1 (by unfold maxLen; omega) H5.out.2.2.1 (by have := HKL.out; omega)).mono ?_
      rintro e w6 ⟨rfl, hS6, hF6⟩
      have hg6 := H5.out.1.of_block (hF6.block (q := tb) (by have := H5.out.2.2.2.2; omega) (by omega) H5.out.2.1)
      have hF06 := H5.out.2.2.2.1.trans hF6
      have hb6 := hF06.below H4.out.1
      have hok6 := H4.out.2.2.1.below hb6 (H3.out.2.2.2.2.mono (by omega))
      have hxe6 := hok6.each x (List.mem_of_getElem? hx)
      have q1 : w6.cell? ⟨tb, 1, none⟩ = _ := hg6.v.c0
      have q2 : w6.cell? ⟨tb, 2, none⟩ = _ := hg6.v.c1
      have q3 : w6.cell? ⟨tb, 3, none⟩ = _ := hg6.v.c2
      have q4 : w6.cell? ⟨tb, 4, none⟩ = _ := hg6.v.c3
      have q5 : w6.cell? ⟨tb, 5, none⟩ = _ := hg6.v.c4
      have q6 : w6.cell? ⟨tb, 6, none⟩ = _ := hg6.v.c5
      have H6 := Lib.hid (And.intro hS6 (And.intro (H4.out.2.1.trans hb6) (And.intro hok6 hxe6)))
      clear hS6 hF6 hg6 hF06 hb6 hok6 hxe6 H5
      go_wp2_with fail
      refine (vencode_calls w6 x.2 H6.out.2.2.2.2).mono ?_
      rintro e w7 ⟨r, er, rfl, ho7, hb7⟩
      obtain ⟨A7, c7, rfl, hsl⟩ := own_sl ho7
      have kc := conv_text hsl
      have hln := encV_len x.2 H6.out.2.2.2.2.n
      have hdg := encV_dig x.2 H6.out.2.2.2.2.n
      have hS7 := H6.out.1.keep hb7
      have hB7 := H6.out.2.1.trans (hb7.mono (by have := H6.out.1.lt; omega))
      have H7 := Lib.hid (And.intro hS7 (And.intro hB7 (And.intro hdg hln)))
      clear ho7 hb7 hsl hln hdg hS7 hB7 q1 q2 q3 q4 q5 q6
      go_wp2_with fail
      refine (textF_calls w7 (ab + 1) _ (strOf (encV x.2)) (by rw [strOf_size]; have := H7.out.2.2.2; unfold maxLen; omega) H7.out.1 (by rw [strOf_size, List.length_append]; have := H7.out.2.2.2; have := HKL.out; have := tlen hx1; omega)).mono ?_
      rintro e w8 ⟨rfl, hS8, hF8⟩
      have hB8 := H7.out.2.1.trans (hF8.below H7.out.1)
      rw [nums_strOf H7.out.2.2.1, ← keyP_succ _ hx] at hS8
      have H8 := Lib.hid (And.intro hS8 hB8)
      clear hS8 hB8 hF8 kc
      go_wp2_with fail
      go_roundw
      case rel => exact ⟨k + 1, by omega, by go_num, H8.out.1, H8.out.2⟩
      case measure => simp [intOf]; omega
    · obtain rfl : a.xs.length = k := by omega
      rw [keyP_all] at hS
      have hkl := keyP_len (headS a) HSM.out.2 a.xs (fun x hx => ⟨(H3.out.2.2.1.each x hx).1, (H3.out.2.2.1.each x hx).2.n⟩) hlen a.xs.length
      rw [keyP_all] at hkl
      have hdg := keyB_dig (headS_dig HSM.out.1) (xs := a.xs) (by omega) (fun x hx => ⟨(H3.out.2.2.1.each x hx).1, (H3.out.2.2.1.each x hx).2.n⟩)
      have H4 := Lib.hid (And.intro hS (And.intro hb (And.intro hkl hdg)))
      clear hS hb hkl hdg
      go_wp2_with fail
      refine (bytes_calls wr (ab + 1) _ H4.out.1 (by have := H4.out.2.2.1; omega)).mono ?_
      rintro e w5 ⟨r, rfl, ho5, hb5⟩
      obtain ⟨A5, c5, rfl, _, _⟩ := own_form ho5
      have hrd := own_rd ho5
      have H5 := Lib.hid (And.intro hrd hb5)
      clear ho5 hb5 hrd
      go_wp2_with fail
      refine (sum_calls w5 _ A5 c5 H5.out.1 (by have := H4.out.2.2.1; omega) H4.out.2.2.2).mono ?_
      rintro e w6 ⟨rfl, rfl⟩
      go_wp2_with fail
      go_ret
      exact ⟨rfl, (H3.out.2.2.2.1.trans (H4.out.2.1.mono (by have := HW.out.1; omega))).trans (H5.out.2.mono (by have := H4.out.1.lt; have := HW.out.1; omega))⟩

end Go.Proofs.Ytdbccemllaehjaa.PK
