/- The reference's Cache: lists of items. -/
import Derived.Test.YtdbccemllaehjaaRCa
import Derived.Test.YtdbccemllaehjaaRKa
namespace Go.Proofs.Ytdbccemllaehjaa.RD2
open Go.RowKit Go.Proofs.YtdbccemllaehjaaKw
set_option linter.unusedVariables false
set_option linter.unusedSimpArgs false

def itv (l : List (Int × ByteArray)) : List Value := l.flatMap fun p => [.int .i64 p.1, .string p.2]
theorem itv_len (l : List (Int × ByteArray)) : (itv l).length = l.length * 2 := by
  induction l with
  | nil => rfl
  | cons p l ih => simp only [itv, List.flatMap_cons, List.length_append, List.length_cons, List.length_nil] at ih ⊢; omega
theorem itv_snoc (l : List (Int × ByteArray)) (p : Int × ByteArray) : itv (l ++ [p]) = itv l ++ [.int .i64 p.1, .string p.2] := by simp [itv]
theorem itv_at (l : List (Int × ByteArray)) : ∀ i, (h : i < l.length) → (itv l)[i * 2]? = some (.int .i64 l[i].1) ∧ (itv l)[i * 2 + 1]? = some (.string l[i].2) := by
  induction l with
  | nil => intro i h; simp at h
  | cons p l ih =>
    intro i h
    rcases i with _ | i
    · exact ⟨rfl, rfl⟩
    · have := ih i (by simpa using h)
      have e : itv (p :: l) = .int .i64 p.1 :: .string p.2 :: itv l := rfl
      rw [e, show (i + 1) * 2 = i * 2 + 1 + 1 by omega]
      simpa using this
theorem rd_item {w : World} {A : Option Addr} {l : List (Int × ByteArray)} (h : Rd w A (itv l)) {i : Nat} (hi : i < l.length) :
    ∃ b off, A = some ⟨b, off, none⟩ ∧ w.cell? ⟨b, off + i * 2, none⟩ = some (.int .i64 l[i].1) ∧ w.cell? ⟨b, off + i * 2 + 1, none⟩ = some (.string l[i].2) := by
  obtain ⟨h1, h2⟩ := itv_at l i hi
  rcases h with h | ⟨b, off, e, hc⟩
  · have := itv_len l
    rw [h] at this
    simp at this
    omega
  · exact ⟨b, off, e, hc _ _ h1, by rw [Nat.add_assoc]; exact hc _ _ h2⟩
theorem rd_itemc {w : World} {b off : Nat} {l : List (Int × ByteArray)} (h : Rd w (some ⟨b, off, none⟩) (itv l)) {i : Nat} (hi : i < l.length) :
    w.cell? ⟨b, off + i * 2, none⟩ = some (.int .i64 l[i].1) ∧ w.cell? ⟨b, off + i * 2 + 1, none⟩ = some (.string l[i].2) := by
  obtain ⟨b', off', e, hc⟩ := rd_item h hi
  cases e
  exact hc
def strZ : Value := .string ⟨#[]⟩
theorem info110 : (Try.prog.info? 110).map (fun i => (i.zero, i.size, i.bytes)) = some (some (.agg #[.int .i64 0, .string ⟨#[]⟩]), 2, 24) := by kernel_rfl
set_option maxHeartbeats 1000000 in
set_option maxRecDepth 100000 in
theorem without_calls (A : Option Addr) (c : Nat) (l : List (Int × ByteArray)) (key : Int) (w : World) (hr : Rd w A (itv l)) (hl : l.length ≤ 5000) :
    Calls Try.prog 67 #[.slice A l.length c, .int .i64 key] w fun e w' => ∃ B d, e = .returned (.slice B (l.filter fun p => !decide (p.1 = key)).length d) ∧ w'.ownsRow w.heap.size 110 2 (.slice B (l.filter fun p => !decide (p.1 = key)).length d) (l.filter fun p => !decide (p.1 = key)).length (itv (l.filter fun p => !decide (p.1 = key))) ∧ Below w.heap.size w w' := by
  go_enter Try.func67, Try.ntmps67
  go_wp2
  go_loopw [5, 6] (fun v i wr => ∃ (k : Nat) (out : List (Int × ByteArray)), k ≤ l.length ∧ out.length ≤ k ∧ i = .int .i64 k ∧ wr.ownsRow w.heap.size 110 2 v out.length (itv out) ∧ Below w.heap.size w wr ∧ Hid (l.filter (fun p => !decide (p.1 = key)) = out ++ (l.drop k).filter (fun p => !decide (p.1 = key)))) (fun _ i _ => l.length - (intOf i).toNat)
  case atStart => exact ⟨0, [], Nat.zero_le _, Nat.le_refl _, rfl, World.ownsRow_nil _ _ _ _, Below.refl _ _, rfl⟩
  case round =>
    obtain ⟨k, out, hk, hk2, rfl, hown, hb, H⟩ := hrel
    by_cases hlt : k < l.length
    · obtain ⟨b, off, rfl, hcell, hcell2⟩ := rd_item (hr.keep hb) hlt
      rw [List.drop_eq_getElem_cons hlt, List.filter_cons] at H
      by_cases hkey : l[k].1 = key
      · rw [if_neg (by simp [hkey])] at H
        go_wp2_with fail
        go_roundw
        case rel => exact ⟨k + 1, out, by omega, by omega, by go_num, hown, hb, H⟩
        case measure => simp [intOf]; omega
      · rw [if_pos (by simp [hkey])] at H
        go_wp2_with (at_builtin; go_loud (refine app_own hown hb (.tmp 20) (.tmp 25) [.int .i64 l[k].1, .string l[k].2] 102 _ _ Try.underlying102 info110 (by omega) (by decide) hb.size rfl rfl rfl (by decide) rfl rfl rfl (by simp [Value.oneCell']) ?_); intro v1 w1 ho1 hb1 _ _)
        go_roundw
        case rel => exact ⟨k + 1, out ++ [l[k]], by omega, by simp; omega, by go_num, by rw [itv_snoc]; simpa using ho1, hb1, Lib.hid (H.out.trans (by simp))⟩
        case measure => simp [intOf]; omega
    · obtain rfl : k = l.length := by omega
      rw [List.drop_length] at H
      simp only [List.filter_nil, List.append_nil] at H
      obtain ⟨B, d, rfl, _, _⟩ := own_form hown
      go_wp2
      go_ret
      rw [H.out]
      exact ⟨_, _, rfl, hown, hb⟩
theorem alloc2 (w : World) (o o2 : Obj) : ((w.alloc o).alloc o2).heap[w.heap.size + 1]? = some o2 := by
  have := heap_alloc_new (w.alloc o) o2
  rwa [show (w.alloc o).heap.size = w.heap.size + 1 from by simp] at this
set_option maxHeartbeats 1000000 in
set_option maxRecDepth 100000 in
theorem first_calls (A : Option Addr) (c : Nat) (l : List (Int × ByteArray)) (x : Int) (s : ByteArray) (w : World) (hr : Rd w A (itv l)) (hl : l.length ≤ 5000) :
    Calls Try.prog 66 #[.agg #[.int .i64 x, .string s], .slice A l.length c] w fun e w' => ∃ B d, e = .returned (.slice B (((x, s) :: l).length) d) ∧ w'.ownsRow w.heap.size 110 2 (.slice B ((x, s) :: l).length d) ((x, s) :: l).length (itv ((x, s) :: l)) ∧ Below w.heap.size w w' := by
  go_enter Try.func66, Try.ntmps66
  go_wp2
  go_loopw [5, 6] (fun v i wr => ∃ k : Nat, k ≤ l.length ∧ i = .int .i64 k ∧ wr.ownsRow w.heap.size 110 2 v (k + 1) (itv ((x, s) :: l.take k)) ∧ Below w.heap.size w wr) (fun _ i _ => l.length - (intOf i).toNat)
  case atStart => exact ⟨0, Nat.zero_le _, rfl, ⟨rfl, .inr ⟨_, 1, #[.int .i64 x, .string s], rfl, by omega, alloc2 w _ _, by omega, by simp [maxLen], rfl, rfl⟩⟩, below_alloc (below_alloc (Below.refl _ _) _) _⟩
  case round =>
    obtain ⟨k, hk, rfl, hown, hb⟩ := hrel
    by_cases hlt : k < l.length
    · obtain ⟨b, off, rfl, hcell, hcell2⟩ := rd_item (hr.keep hb) hlt
      go_wp2_with (at_builtin; go_loud (refine app_own hown hb (.tmp 15) (.tmp 20) [.int .i64 l[k].1, .string l[k].2] 102 _ _ Try.underlying102 info110 (by omega) (by decide) hb.size rfl rfl rfl (by decide) rfl rfl rfl (by simp [Value.oneCell']) ?_); intro v1 w1 ho1 hb1 _ _)
      go_roundw
      case rel => exact ⟨k + 1, by omega, by go_num, by rw [List.take_succ_eq_append_getElem hlt, ← List.cons_append, itv_snoc]; exact ho1, hb1⟩
      case measure => simp [intOf]; omega
    · obtain rfl : k = l.length := by omega
      rw [List.take_length] at hown
      obtain ⟨B, d, rfl, _, _⟩ := own_form hown
      go_wp2
      go_ret
      exact ⟨_, _, rfl, hown, hb⟩

/-- The reference's Cache in memory. -/
structure RefR (w : World) (qc : Nat) (most : Int) (A : Option Addr) (c : Nat) (l : List (Int × ByteArray)) : Prop where
  most0 : w.cell? ⟨qc, 0, none⟩ = some (.int .i64 most)
  lst : w.cell? ⟨qc, 1, none⟩ = some (.slice A l.length c)
  fz : w.frozen? ⟨qc, 1, none⟩ = false
  rd : Rd w A (itv l)
  cap : l.length ≤ c
  ne : ∀ b off, A = some ⟨b, off, none⟩ → b ≠ qc
  pl : A = none ∨ ∃ b, A = some ⟨b, 0, none⟩ ∧ b < w.heap.size
theorem RefR.tch {w w' : World} {qc c : Nat} {most : Int} {A : Option Addr} {l : List (Int × ByteArray)} (h : RefR w qc most A c l) {S : Nat → Prop} (ht : Tch S w w') (hq : ¬ S qc) (hA : ∀ b off, A = some ⟨b, off, none⟩ → ¬ S b) : RefR w' qc most A c l := by
  have hqc := World.block_lt_of_cell? w _ h.most0
  refine ⟨(ht.cell (p := ⟨qc, 0, none⟩) hqc hq).trans h.most0, (ht.cell (p := ⟨qc, 1, none⟩) hqc hq).trans h.lst, (ht.frozen (p := ⟨qc, 1, none⟩) hqc hq).trans h.fz, ?_, h.cap, h.ne, ?_⟩
  · rcases h.rd with h0 | ⟨b, off, rfl, hc⟩
    · exact .inl h0
    · by_cases hx : itv l = []
      · exact .inl hx
      · have hlt : b < w.heap.size := Rd.lt h.rd (List.length_pos_iff.2 hx)
        exact .inr ⟨b, off, rfl, fun j u hu => (ht.cell (p := ⟨b, off + j, none⟩) hlt (hA b off rfl)).trans (hc j u hu)⟩
  · rcases h.pl with h | ⟨b, h, hb⟩
    · exact .inl h
    · exact .inr ⟨b, h, Nat.lt_of_lt_of_le hb ht.size⟩
theorem RefR.other {w w' : World} {qc c : Nat} {most : Int} {A : Option Addr} {l : List (Int × ByteArray)} (h : RefR w qc most A c l) (hb : Below w.heap.size w w') : RefR w' qc most A c l := by
  have hqc := World.block_lt_of_cell? w _ h.most0
  refine h.tch (RL.tch_new hb) (by simp at hqc; omega) (fun b off e hs => ?_)
  rcases h.pl with h | ⟨b', h, hb⟩
  · rw [h] at e; cases e
  · rw [h] at e; cases e; omega
end Go.Proofs.Ytdbccemllaehjaa.RD2
