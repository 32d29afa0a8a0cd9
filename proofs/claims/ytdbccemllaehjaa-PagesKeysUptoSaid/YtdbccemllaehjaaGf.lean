/- pages.Encode, walked: a pin's cursor. -/
import Derived.Test.YtdbccemllaehjaaGd
import Derived.Test.YtdbccemllaehjaaGe
namespace Go.Proofs.Ytdbccemllaehjaa.PG
open Go.RowKit Go.Proofs.YtdbccemllaehjaaKw Go.Proofs.YtdbccemllaehjaaGa
set_option linter.unusedVariables false
set_option linter.unusedSimpArgs false
/-- What an Encode answers. -/
def EncAns (key : Nat) (r : Int) (last : ByteArray) (e : Ending) : Prop :=
  (¬ MayP r last ∧ e = .returned (.tuple #[.string ⟨#[]⟩, .int .i64 250])) ∨ (MayP r last ∧ ∃ s, IsArm (encB key r.toNat (nums last)) s ∧ e = .returned (.tuple #[.string s, .int .i64 0]))
def b64 (x : Int) : Prop := -9223372036854775808 ≤ x ∧ x ≤ 9223372036854775807
/-- A pin's cells. -/
structure PinAt (w : World) (pb key : Nat) (r : Int) (last : ByteArray) : Prop where
  c0 : w.cell? ⟨pb, 0, none⟩ = some (.int .u64 (key : Int))
  c1 : w.cell? ⟨pb, 1, none⟩ = some (.int .i64 r)
  c2 : w.cell? ⟨pb, 2, none⟩ = some (.string last)
theorem PinAt.keep {w w' : World} {pb key B : Nat} {r : Int} {last : ByteArray} (h : PinAt w pb key r last) (hb : Below B w w') (hB : pb < B) : PinAt w' pb key r last :=
  ⟨(hb.cell (p := ⟨pb, 0, none⟩) hB).trans h.c0, (hb.cell (p := ⟨pb, 1, none⟩) hB).trans h.c1, (hb.cell (p := ⟨pb, 2, none⟩) hB).trans h.c2⟩
theorem PinAt.new (w : World) (key : Nat) (r : Int) (last : ByteArray) : PinAt (w.alloc (.cells #[.int .u64 (key : Int), .int .i64 r, .string last] 87)) w.heap.size key r last := by
  have hnew := heap_alloc_new w (.cells #[.int .u64 (key : Int), .int .i64 r, .string last] 87)
  exact ⟨by simp only [World.cell?, hnew]; rfl, by simp only [World.cell?, hnew]; rfl, by simp only [World.cell?, hnew]; rfl⟩
theorem WS.new (w : World) : WS (w.alloc (.cells #[.slice none 0 0] 157)) w.heap.size [] := by
  have hnew := heap_alloc_new w (.cells #[.slice none 0 0] 157)
  exact ⟨⟨.slice none 0 0, by simp only [World.cell?, hnew]; rfl, World.ownsRow_nil _ _ _ _⟩, by unfold World.frozen?; simp only [hnew]; rfl⟩
set_option maxHeartbeats 4000000 in
set_option maxRecDepth 100000 in
theorem encode_calls (w : World) (key : Nat) (r : Int) (last : ByteArray) (hk : key < 18446744073709551616) (hr : -9223372036854775808 ≤ r ∧ r ≤ 9223372036854775807) (hls : last.size ≤ maxLen) :
    Calls Try.prog 47 #[.agg #[.int .u64 (key : Int), .int .i64 r, .string last]] w fun e w' => EncAns key r last e ∧ Below w.heap.size w w' := by
  go_enter Try.func47, Try.ntmps47
  by_cases h1 : r < 0
  · go_wp2_with fail
    go_ret2
    exact ⟨.inl ⟨fun h => by have := h.1; omega, rfl⟩, below_alloc (Below.refl _ _) _⟩
  by_cases h2 : 4611686018427387904 < r
  · go_wp2_with fail
    go_ret2
    exact ⟨.inl ⟨fun h => by have := h.2.1; omega, rfl⟩, below_alloc (Below.refl _ _) _⟩
  obtain ⟨rn, rfl⟩ := Int.eq_ofNat_of_zero_le (show 0 ≤ r by omega)
  go_wp2_with fail
  refine (id_calls _ last hls).mono ?_
  rintro e w1 ⟨rfl, rfl⟩
  by_cases hid : idB last = true
  · rw [hid]
    go_wp2_with fail
    have hP := PinAt.new w key (rn : Int) last
    have hA := below_alloc (Below.refl w.heap.size w) (.cells #[.int .u64 (key : Int), .int .i64 (rn : Int), .string last] 87)
    have hsz : (w.alloc (.cells #[.int .u64 (key : Int), .int .i64 (rn : Int), .string last] 87)).heap.size = w.heap.size + 1 := by simp
    have hidx := (idB_iff last).1 hid
    have hok := enc_ok (key := key) (rev := rn) (last := nums last) hk (by omega) (nums_dig last) (by rw [nums_len]; exact hidx.2.1)
    have HN := Lib.hid (And.intro (show MayP rn last from ⟨by omega, by omega, hidx⟩) hok)
    clear hid hidx hok
    generalize w.alloc (.cells #[.int .u64 (key : Int), .int .i64 (rn : Int), .string last] 87) = W0 at *
    have hS := WS.new W0
    have hP1 := hP.keep (below_alloc (Below.refl W0.heap.size W0) (.cells #[.slice none 0 0] 157)) (by omega)
    have hA1 := below_then hA hA.size (below_alloc (Below.refl W0.heap.size W0) (.cells #[.slice none 0 0] 157))
    rw [hsz] at hS
    obtain ⟨pb, hpb⟩ : ∃ pb, pb = w.heap.size := ⟨_, rfl⟩
    rw [← hpb] at hS hP1 hsz ⊢
    have hpb2 : w.heap.size ≤ pb + 1 := by omega
    have hpb3 : w.heap.size ≤ pb := by omega
    clear hpb
    generalize W0.alloc (.cells #[.slice none 0 0] 157) = W1 at *
    clear hP hA hsz
    refine (uint_calls W1 (pb + 1) [] key hk hS (by simp)).mono ?_
    rintro e w2 ⟨rfl, hS2, hb2⟩
    have hP2 := hP1.keep hb2 (by omega)
    have q2 := hP2.c1
    have H2 := Lib.hid (And.intro hP2 (hA1.trans (hb2.mono hpb2)))
    clear hb2 hS hP1 hA1 hP2
    rw [List.nil_append] at hS2
    go_wp2_with fail
    have hl2 := (uintB_64 hk).2
    refine (int_calls w2 (pb + 1) (uintB key) rn (by omega) hS2 (by omega)).mono ?_
    rintro e w3 ⟨rfl, hS3, hb3⟩
    have hP3 := H2.out.1.keep hb3 (by omega)
    have q3 := hP3.c2
    have H3 := Lib.hid (And.intro hP3 (H2.out.2.trans (hb3.mono hpb2)))
    clear hb3 hS2 q2 hP3 H2
    have hl3 := (uintB_64 (show 2 * rn < 18446744073709551616 by omega)).2
    go_wp2_with fail
    refine (text_calls w3 (pb + 1) (uintB key ++ uintB (2 * rn)) last hls hS3 (by rw [List.length_append]; have := HN.out.1.2.2.2.1; omega)).mono ?_
    rintro e w4 ⟨rfl, hS4, hb4⟩
    have H4 := Lib.hid (H3.out.2.trans (hb4.mono hpb2))
    rw [List.append_assoc] at hS4
    have hS4 : WS w4 (pb + 1) (headB key rn (nums last)) := hS4
    clear hb4 hS3 q3 H3 hl3 hl2
    go_wp2_with fail
    have hhl := HN.out.2.2.1
    refine (bytes_calls w4 (pb + 1) _ hS4 (by omega)).mono ?_
    rintro e w5 ⟨v5, rfl, ho5, hb5⟩
    obtain ⟨A5, c5, rfl, hs5⟩ := own_sl ho5
    have H5 := Lib.hid (And.intro (hS4.keep hb5) (below_then H4.out H4.out.size hb5))
    have hr5 := hs5.rd
    have hdg : Dig 256 (headB key rn (nums last)) := fun d hd => HN.out.2.1 d (by unfold encB; exact List.mem_append_left _ hd)
    clear hb5 hS4 H4 hs5 ho5
    go_wp2_with fail
    refine (sum_calls w5 _ A5 c5 hr5 (by omega) hdg).mono ?_
    rintro e w6 ⟨rfl, rfl⟩
    clear hr5 hdg
    have hsum := sumB_lt (headB key rn (nums last))
    obtain ⟨sm, hsm⟩ : ∃ sm, sm = sumB (headB key rn (nums last)) := ⟨_, rfl⟩
    have hen : encB key rn (nums last) = headB key rn (nums last) ++ top8 sm 8 := by rw [hsm]; rfl
    have HE := Lib.hid hen
    rw [← hsm] at hsum ⊢
    clear hsm hen
    go_wp2_with fail
    go_loopw [6] (fun s wr => ∃ j : Nat, j ≤ 8 ∧ s = .int .i64 (56 - 8 * (j : Int)) ∧ WS wr (pb + 1) (headB key rn (nums last) ++ top8 sm j) ∧ Below w.heap.size w wr) (fun s _ => (intOf s + 8).toNat)
    case atStart => exact ⟨0, by omega, by go_num, by simpa [top8] using H5.out.1, H5.out.2⟩
    case round =>
      clear H5
      obtain ⟨j, hj, rfl, hS, hb⟩ := hrel
      by_cases hlt : j < 8
      · have H := Lib.hid (And.intro hS hb)
        clear hS hb
        have htl : (top8 sm j).length = j := by simp [top8]
        have hhl := HN.out.2.2.1
        go_wp2_with fail
        have ex : ((sm : Int) / 2 ^ (56 - 8 * j) % 256) = ((sm / 2 ^ (56 - 8 * j) % 256 : Nat) : Int) := by simp
        rw [ex]
        refine (byte_calls wr (pb + 1) _ (sm / 2 ^ (56 - 8 * j) % 256) (Nat.mod_lt _ (by omega)) H.out.1 (by rw [List.length_append]; omega)).mono ?_
        rintro e w7 ⟨rfl, hS7, hb7⟩
        have H7 := Lib.hid (And.intro hS7 (H.out.2.trans (hb7.mono hpb2)))
        clear hS7 hb7 ex
        go_wp2_with fail
        go_roundw
        case rel => exact ⟨j + 1, by omega, by go_num, by rw [top8_succ, ← List.append_assoc]; exact H7.out.1, H7.out.2⟩
        case measure => simp [intOf]; omega
      · obtain rfl : j = 8 := by omega
        rw [← HE.out] at hS
        have hel := HN.out.2.2.2
        have H := Lib.hid (And.intro hS hb)
        clear hS hb
        go_wp2_with fail
        refine (bytes_calls wr (pb + 1) _ H.out.1 (by omega)).mono ?_
        rintro e w8 ⟨v8, rfl, ho8, hb8⟩
        obtain ⟨A8, c8, rfl, hs8⟩ := own_sl ho8
        have H8 := Lib.hid (below_then H.out.2 H.out.2.size hb8)
        have hr8 := hs8.rd
        clear hb8 hs8 ho8
        go_wp2_with fail
        refine (armor_calls w8 _ A8 c8 hr8 HN.out.2.1 (by omega)).mono ?_
        rintro e w9 ⟨t, ht, rfl, hb9⟩
        have H9 := Lib.hid (below_then H8.out H8.out.size hb9)
        clear hb9
        go_wp2_with fail
        go_ret2
        exact ⟨.inr ⟨HN.out.1, t, by simpa using ht, rfl⟩, H9.out⟩
  · have hid' : idB last = false := Bool.eq_false_iff.2 hid
    rw [hid']
    have HN := Lib.hid (fun h : MayP rn last => hid ((idB_iff last).2 h.2.2))
    go_wp2_with fail
    go_ret2
    exact ⟨.inl ⟨HN.out, rfl⟩, below_alloc (Below.refl _ _) _⟩
end Go.Proofs.Ytdbccemllaehjaa.PG
