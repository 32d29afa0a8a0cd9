/- The reference's Cache: its methods. -/
import Derived.Test.YtdbccemllaehjaaRDa
import Derived.Test.YtdbccemllaehjaaKwAp
namespace Go.Proofs.Ytdbccemllaehjaa.RD2
open Go.RowKit Go.Proofs.YtdbccemllaehjaaKw
open RK (ivs ivs_len rd_int rd_intc ivs_snoc info3)
set_option linter.unusedVariables false
set_option linter.unusedSimpArgs false

set_option maxHeartbeats 1000000 in
set_option maxRecDepth 100000 in
theorem keys_calls (qc : Nat) (most : Int) (A : Option Addr) (c : Nat) (l : List (Int × ByteArray)) (w : World) (h : RefR w qc most A c l) (hl : l.length ≤ 5000) :
    Calls Try.prog 23 #[.pointer (some ⟨qc, 0, none⟩)] w fun e w' => ∃ B d, e = .returned (.slice B l.length d) ∧ w'.ownsRow w.heap.size 3 1 (.slice B l.length d) l.length (ivs (l.map (·.1))) ∧ Below w.heap.size w w' := by
  go_enter Try.func23, Try.ntmps23
  go_wp2
  go_loopw [3, 4] (fun v i wr => ∃ k : Nat, k ≤ l.length ∧ i = .int .i64 k ∧ wr.ownsRow w.heap.size 3 1 v k (ivs ((l.take k).map (·.1))) ∧ Below w.heap.size w wr) (fun _ i _ => l.length - (intOf i).toNat)
  case atStart => exact ⟨0, Nat.zero_le _, rfl, World.ownsRow_nil _ _ _ _, Below.refl _ _⟩
  case round =>
    obtain ⟨k, hk, rfl, hown, hb⟩ := hrel
    have hR := h.other hb
    have hlst := hR.lst
    by_cases hlt : k < l.length
    · obtain ⟨b, off, rfl, hcell, hcell2⟩ := rd_item hR.rd hlt
      clear hR
      go_wp2_with (at_builtin; go_loud (refine app_own hown hb (.tmp 14) (.tmp 23) [.int .i64 l[k].1] 44 _ _ Try.underlying44 info3 (by omega) (by decide) hb.size rfl rfl rfl (by decide) rfl rfl rfl (by simp [Value.oneCell']) ?_); intro v1 w1 ho1 hb1 _ _)
      go_roundw
      case rel => exact ⟨k + 1, by omega, by go_num, by rw [List.take_succ_eq_append_getElem hlt, List.map_append, List.map_singleton, ivs_snoc]; exact ho1, hb1⟩
      case measure => simp [intOf]; omega
    · obtain rfl : k = l.length := by omega
      rw [List.take_length] at hown
      obtain ⟨B, d, rfl, _, _⟩ := own_form hown
      clear hR
      go_wp2
      go_ret
      exact ⟨_, _, rfl, hown, hb⟩
theorem new_bad (most : Int) (h : most < 1 ∨ 4096 < most) (w : World) :
    Calls Try.prog 20 #[.int .i64 most] w fun e w' => e = .returned (.tuple #[.pointer none, .int .i64 2]) ∧ w = w' := by
  go_enter Try.func20, Try.ntmps20
  by_cases h1 : most < 1
  · go_wp2
    go_ret2
    exact ⟨rfl, rfl⟩
  · have h2 : 4096 < most := by omega
    go_wp2
    go_ret2
    exact ⟨rfl, rfl⟩
theorem new_ok (most : Int) (h1 : 1 ≤ most) (h2 : most ≤ 4096) (w : World) :
    Calls Try.prog 20 #[.int .i64 most] w fun e w' => e = .returned (.tuple #[.pointer (some ⟨w.heap.size, 0, none⟩), .int .i64 0]) ∧ RefR w' w.heap.size most none 0 [] ∧ Below w.heap.size w w' := by
  have h3 : ¬ most < 1 := by omega
  have h4 : ¬ 4096 < most := by omega
  go_enter Try.func20, Try.ntmps20
  go_wp2
  go_ret2
  refine ⟨rfl, ⟨?_, ?_, ?_, .inl rfl, Nat.le_refl _, by simp, .inl rfl⟩, below_alloc (Below.refl _ _) _⟩
  · have := heap_alloc_new w (.cells #[.int .i64 most, .slice none 0 0] 104)
    simp only [World.cell?, this]; rfl
  · have := heap_alloc_new w (.cells #[.int .i64 most, .slice none 0 0] 104)
    simp only [World.cell?, this]; rfl
  · have := heap_alloc_new w (.cells #[.int .i64 most, .slice none 0 0] 104)
    simp only [World.frozen?, this]; rfl
theorem gone_calls (k by' rest : Int) (hb : 0 ≤ by' ∧ by' < 4) (w : World) :
    Calls Try.prog 62 #[.int .i64 k, .int .i64 by', .int .i64 rest] w fun e w' => e = .returned (.bool (decide (k.tmod (1 + by') = rest))) ∧ w = w' := by
  have h0 : (1 + by' == 0) = false := by simp; omega
  go_enter Try.func62, Try.ntmps62
  go_wp2
  go_ret
  exact ⟨rfl, rfl⟩

def RefPost (w : World) (qc : Nat) (most : Int) (l' : List (Int × ByteArray)) (w' : World) : Prop :=
  ∃ B d, RefR w' qc most B d l' ∧ Tch (fun q => q = qc) w w' ∧ ∀ b off, B = some ⟨b, off, none⟩ → w.heap.size ≤ b
theorem RefR.set {w wr : World} {qc c : Nat} {most : Int} {A : Option Addr} {l : List (Int × ByteArray)} (h : RefR wr qc most A c l) (hb : Below w.heap.size w wr) (hq : qc < w.heap.size) {B : Option Addr} {d : Nat} {l' : List (Int × ByteArray)}
    (hown : wr.ownsRow w.heap.size 110 2 (.slice B l'.length d) l'.length (itv l')) : RefPost w qc most l' (wr.setCell ⟨qc, 1, none⟩ (.slice B l'.length d)) := by
  have hqc := World.block_lt_of_cell? wr _ h.most0
  have hbl : ∀ b off, B = some ⟨b, off, none⟩ → w.heap.size ≤ b := fun b off e => own_base hown b (by rw [e]; rfl)
  have hcap : l'.length ≤ d := by
    obtain ⟨_, _, e, h1, _⟩ := own_form hown
    cases e
    exact h1
  have htch := Ap.setCell_tch wr ⟨qc, 1, none⟩ (.slice B l'.length d) (fun q => q = qc) rfl
  have hrd : Rd (wr.setCell ⟨qc, 1, none⟩ (.slice B l'.length d)) B (itv l') := by
    rcases own_rd hown with h0 | ⟨b, off, rfl, hc⟩
    · exact .inl h0
    · refine .inr ⟨b, off, rfl, fun j u hu => ?_⟩
      rw [World.cell?_setCell_other wr _ _ _ (fun e => by have := hbl b off rfl; have := congrArg Addr.block e; simp at this; omega)]
      exact hc j u hu
  refine ⟨B, d, ⟨?_, ?_, ?_, hrd, hcap, fun b off e => by have := hbl b off e; omega, ?_⟩, (Tch.of_below (S := fun q => q = qc) hb (fun k h1 h2 => by omega)).setCell (a := ⟨qc, 1, none⟩) rfl _, hbl⟩
  · rw [World.cell?_setCell_other wr _ _ _ (fun e => by have := congrArg Addr.off e; simp at this)]
    exact h.most0
  · exact World.cell?_setCell_same wr _ _ h.lst
  · exact (World.frozen?_setCell wr _ _ _).trans h.fz
  · rcases hown.2 with ⟨e, _⟩ | ⟨g, cap, cur, e, _, hg, _⟩
    · exact .inl (Value.slice.inj e).1
    · exact .inr ⟨g, (Value.slice.inj e).1, Nat.lt_of_lt_of_le (Array.getElem?_eq_some_iff.1 hg).1 htch.size⟩
theorem RefPost.drewN {w w' : World} {qc : Nat} {most : Int} {l' : List (Int × ByteArray)} (h : RefPost w qc most l' w') (n : Nat) : RefPost w qc most l' (w'.drewN n) := by
  obtain ⟨B, d, h1, h2, h3⟩ := h
  exact ⟨B, d, ⟨h1.most0, h1.lst, h1.fz, h1.rd, h1.cap, h1.ne, h1.pl⟩, h2.drewN n, h3⟩

set_option maxHeartbeats 2000000 in
set_option maxRecDepth 100000 in
theorem drop_calls (qc : Nat) (most : Int) (A : Option Addr) (c : Nat) (l : List (Int × ByteArray)) (by' rest : Int) (hby : 0 ≤ by' ∧ by' < 4) (w : World) (h : RefR w qc most A c l) (hl : l.length ≤ 5000) :
    Calls Try.prog 63 #[.pointer (some ⟨qc, 0, none⟩), .int .i64 by', .int .i64 rest] w fun e w' => e = .returned (.int .i64 ((l.length : Int) - (l.filter fun p => !decide (p.1.tmod (1 + by') = rest)).length)) ∧ RefPost w qc most (l.filter fun p => !decide (p.1.tmod (1 + by') = rest)) w' := by
  have hqc := World.block_lt_of_cell? w _ h.most0
  have hfl := List.length_filter_le (fun p : Int × ByteArray => !decide (p.1.tmod (1 + by') = rest)) l
  have hwr : IntKind.i64.wrap ((l.length : Int) - (l.filter fun p => !decide (p.1.tmod (1 + by') = rest)).length) = (l.length : Int) - (l.filter fun p => !decide (p.1.tmod (1 + by') = rest)).length := IntWalk.i64_in _ (by omega)
  have HWr := Lib.hid hwr
  clear hwr
  go_enter Try.func63, Try.ntmps63
  go_wp2
  go_loopw [7, 8] (fun v i wr => ∃ (k : Nat) (out : List (Int × ByteArray)), k ≤ l.length ∧ out.length ≤ k ∧ i = .int .i64 k ∧ wr.ownsRow w.heap.size 110 2 v out.length (itv out) ∧ Below w.heap.size w wr ∧ Hid (l.filter (fun p => !decide (p.1.tmod (1 + by') = rest)) = out ++ (l.drop k).filter (fun p => !decide (p.1.tmod (1 + by') = rest)))) (fun _ i _ => l.length - (intOf i).toNat)
  case atStart => exact ⟨0, [], Nat.zero_le _, Nat.le_refl _, rfl, World.ownsRow_nil _ _ _ _, Below.refl _ _, rfl⟩
  case round =>
    obtain ⟨k, out, hk, hk2, rfl, hown, hb, H⟩ := hrel
    have hR := h.other hb
    have hlst := hR.lst
    by_cases hlt : k < l.length
    · obtain ⟨b, off, rfl, hcell, hcell2⟩ := rd_item hR.rd hlt
      have HR := Lib.hid hR
      clear hR
      rw [List.drop_eq_getElem_cons hlt, List.filter_cons] at H
      by_cases hkey : l[k].1.tmod (1 + by') = rest
      · rw [if_neg (by simp [hkey])] at H
        have hd : decide (l[k].1.tmod (1 + by') = rest) = true := decide_eq_true hkey
        go_wp2_with fail
        refine (gone_calls _ _ _ hby _).mono ?_
        rintro e w5 ⟨rfl, rfl⟩
        rw [hd]
        clear hd hkey
        go_wp2_with fail
        go_roundw
        case rel => exact ⟨k + 1, out, by omega, by omega, by go_num, hown, hb, H⟩
        case measure => simp [intOf]; omega
      · rw [if_pos (by simp [hkey])] at H
        have hd : decide (l[k].1.tmod (1 + by') = rest) = false := decide_eq_false hkey
        go_wp2_with fail
        refine (gone_calls _ _ _ hby _).mono ?_
        rintro e w5 ⟨rfl, rfl⟩
        rw [hd]
        clear hd hkey
        go_wp2_with (at_builtin; go_loud (refine app_own hown hb (.tmp 31) (.tmp 39) [.int .i64 l[k].1, .string l[k].2] 102 _ _ Try.underlying102 info110 (by omega) (by decide) hb.size rfl rfl rfl (by decide) rfl rfl rfl (by simp [Value.oneCell']) ?_); intro v1 w1 ho1 hb1 _ _)
        go_roundw
        case rel => exact ⟨k + 1, out ++ [l[k]], by omega, by simp; omega, by go_num, by rw [itv_snoc]; simpa using ho1, hb1, Lib.hid (H.out.trans (by simp))⟩
        case measure => simp [intOf]; omega
    · obtain rfl : k = l.length := by omega
      rw [List.drop_length] at H
      simp only [List.filter_nil, List.append_nil] at H
      obtain ⟨B, d, rfl, _, _⟩ := own_form hown
      rw [H.out] at HWr
      have hwr := HWr.out
      have hfz := hR.fz
      have hpost := hR.set hb hqc hown
      have HP := Lib.hid hpost
      clear hpost hR HWr
      go_wp2
      go_ret
      rw [H.out]
      exact ⟨rfl, HP.out⟩
end Go.Proofs.Ytdbccemllaehjaa.RD2
