/- The reference's Cache: Put. -/
import Derived.Test.YtdbccemllaehjaaRDc
namespace Go.Proofs.Ytdbccemllaehjaa.RD2
open Go.RowKit Go.Proofs.YtdbccemllaehjaaKw
set_option linter.unusedVariables false
set_option linter.unusedSimpArgs false

theorem RefR.set1 {w wr : World} {qc c : Nat} {most : Int} {A : Option Addr} {l : List (Int × ByteArray)} (h : RefR wr qc most A c l) (hb : Below w.heap.size w wr) (hq : qc < w.heap.size) {B : Option Addr} {d : Nat} {l' : List (Int × ByteArray)}
    (hown : wr.ownsRow w.heap.size 110 2 (.slice B l'.length d) l'.length (itv l')) : RefR (wr.setCell ⟨qc, 1, none⟩ (.slice B l'.length d)) qc most B d l' ∧ Tch (fun q => q = qc) w (wr.setCell ⟨qc, 1, none⟩ (.slice B l'.length d)) ∧ ∀ b off, B = some ⟨b, off, none⟩ → w.heap.size ≤ b := by
  obtain ⟨B', d', h1, h2, h3⟩ := h.set hb hq hown
  have hx := World.cell?_setCell_same wr ⟨qc, 1, none⟩ (.slice B l'.length d) h.lst
  have hy := h1.lst
  rw [hx] at hy
  simp only [Option.some.injEq, Value.slice.injEq, true_and] at hy
  obtain ⟨rfl, rfl⟩ := hy
  exact ⟨h1, h2, h3⟩
theorem RefR.cut {w : World} {qc d : Nat} {most : Int} {B : Option Addr} {l : List (Int × ByteArray)} (h : RefR w qc most B d l) (m : Nat) (hm : m ≤ l.length) : RefR (w.setCell ⟨qc, 1, none⟩ (.slice B m d)) qc most B d (l.take m) := by
  have hlen : (l.take m).length = m := by rw [List.length_take]; omega
  have hcap := h.cap
  have htch := Ap.setCell_tch w ⟨qc, 1, none⟩ (.slice B m d) (fun q => q = qc) rfl
  have hit : itv (l.take m) = (itv l).take (m * 2) := by
    clear h hm hlen hcap htch
    induction l generalizing m with
    | nil => simp [itv]
    | cons p l ih =>
      rcases m with _ | m
      · simp [itv]
      · have e : itv (p :: l) = .int .i64 p.1 :: .string p.2 :: itv l := rfl
        have e2 : itv ((p :: l).take (m + 1)) = .int .i64 p.1 :: .string p.2 :: itv (l.take m) := rfl
        rw [e, e2, ih m, show (m + 1) * 2 = m * 2 + 1 + 1 by omega]
        rfl
  refine ⟨?_, ?_, (World.frozen?_setCell ..).trans h.fz, ?_, by omega, h.ne, ?_⟩
  · rw [World.cell?_setCell_other w _ _ _ (fun e => by have := congrArg Addr.off e; simp at this)]
    exact h.most0
  · rw [hlen]; exact World.cell?_setCell_same w _ _ h.lst
  · rw [hit]
    rcases (h.rd.take (m * 2)) with h0 | ⟨b, off, rfl, hc⟩
    · exact .inl h0
    · exact .inr ⟨b, off, rfl, fun j u hu => by
        rw [World.cell?_setCell_other w _ _ _ (fun e => by have := h.ne b off rfl; have := congrArg Addr.block e; simp at this; omega)]
        exact hc j u hu⟩
  · rcases h.pl with e | ⟨b, e, hb⟩
    · exact .inl e
    · exact .inr ⟨b, e, Nat.lt_of_lt_of_le hb htch.size⟩
theorem RefR.drewN {w : World} {qc d : Nat} {most : Int} {B : Option Addr} {l : List (Int × ByteArray)} (h : RefR w qc most B d l) (n : Nat) : RefR (w.drewN n) qc most B d l := ⟨h.most0, h.lst, h.fz, h.rd, h.cap, h.ne, h.pl⟩

set_option maxHeartbeats 2000000 in
set_option maxRecDepth 100000 in
theorem put_calls (qc : Nat) (most : Nat) (A : Option Addr) (c : Nat) (l : List (Int × ByteArray)) (key : Int) (v : ByteArray) (w : World) (h : RefR w qc most A c l) (hl : l.length ≤ 5000) (hm : most ≤ 5000) :
    Calls Try.prog 59 #[.pointer (some ⟨qc, 0, none⟩), .int .i64 key, .string v] w fun e w' => e = .returned (.tuple #[]) ∧ RefPost w qc most (((key, v) :: wo l key).take most) w' := by
  have hlst := h.lst
  have hfl := List.length_filter_le (fun p : Int × ByteArray => !decide (p.1 = key)) l
  have hqc := World.block_lt_of_cell? w _ h.most0
  have H := Lib.hid h
  clear h
  go_enter Try.func59, Try.ntmps59
  go_wp2_with fail
  refine (without_calls A c l key w H.out.rd hl).mono ?_
  rintro e w4 ⟨B, d, rfl, hwo, hwb⟩
  go_wp2_with fail
  refine (first_calls B d _ key v w4 (own_rd hwo) (by omega)).mono ?_
  rintro e w5 ⟨B2, d2, rfl, hfo, hfb⟩
  have hb5 := below_then hwb hwb.size hfb
  have hR5 := H.out.other hb5
  have hlst5 := hR5.lst
  have hfz5 := hR5.fz
  have hset := hR5.set1 hb5 (by simpa using hqc) (own_mono hfo hwb.size)
  have hcap2 : ((key, v) :: wo l key).length ≤ d2 := by
    obtain ⟨_, _, e, h1, _⟩ := own_form hfo
    cases e
    exact h1
  have hset2 : RefR (w5.setCell ⟨qc, 1, none⟩ (.slice B2 ((List.filter (fun p => !decide (p.1 = key)) l).length + 1) d2)) qc most B2 d2 ((key, v) :: wo l key) ∧ Tch (fun q => q = qc) w (w5.setCell ⟨qc, 1, none⟩ (.slice B2 ((List.filter (fun p => !decide (p.1 = key)) l).length + 1) d2)) ∧ ∀ b off, B2 = some ⟨b, off, none⟩ → w.heap.size ≤ b := hset
  clear hset hR5 hfo hwo hfb hwb hlst
  go_wp2_with fail
  have hn : ((key, v) :: wo l key).length = (List.filter (fun p => !decide (p.1 = key)) l).length + 1 := rfl
  generalize (List.filter (fun p => !decide (p.1 = key)) l).length = n at *
  generalize w5.setCell ⟨qc, 1, none⟩ (.slice B2 (n + 1) d2) = W at *
  have HS := Lib.hid hset2
  clear hset2 hlst5 hfz5
  have hlW := HS.out.1.lst
  have hmW := HS.out.1.most0
  have hfW := HS.out.1.fz
  rw [hn] at hlW hcap2
  have HN := Lib.hid hn
  clear hn
  by_cases hgt : most < n + 1
  · have hgt' : (most : Int) < (n : Int) + 1 := by omega
    have hmd : most ≤ d2 := by omega
    have hcut := (HS.out.1.cut most (by rw [HN.out]; omega))
    have hpost : RefPost w qc most (((key, v) :: wo l key).take most) (W.setCell ⟨qc, 1, none⟩ (.slice B2 most d2)) := ⟨B2, d2, hcut, HS.out.2.1.setCell (a := ⟨qc, 1, none⟩) rfl _, HS.out.2.2⟩
    have HP := Lib.hid hpost
    clear hpost hcut
    go_quiet (fail)
    go_wp2_with fail
    go_region
    all_goals (go_end0; exact ⟨rfl, (HP.out.drewN nq).drewN 1⟩)
  · have hgt' : ¬ (most : Int) < (n : Int) + 1 := by omega
    have hpost : RefPost w qc most (((key, v) :: wo l key).take most) W := ⟨B2, d2, by rw [List.take_of_length_le (by rw [HN.out]; omega)]; exact HS.out.1, HS.out.2.1, HS.out.2.2⟩
    have HP := Lib.hid hpost
    clear hpost
    go_quiet (fail)
    go_wp2_with fail
    go_end0
    exact ⟨rfl, HP.out.drewN nq⟩
end Go.Proofs.Ytdbccemllaehjaa.RD2
