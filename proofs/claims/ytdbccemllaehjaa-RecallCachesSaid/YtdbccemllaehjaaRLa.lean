/- 'has' and 'late' of the statements on recall; what they come to, in plain lists. -/
import Derived.Test.YtdbccemllaehjaaRAw
namespace Go.Proofs.Ytdbccemllaehjaa.RL
open Go.RowKit Go.Proofs.YtdbccemllaehjaaKw
open PC (strs strs_len strs_at rd_str strs_take info9)
set_option linter.unusedVariables false
set_option linter.unusedSimpArgs false

instance memDec (x : ByteArray) (l : List ByteArray) : Decidable (x ∈ l) := decidable_of_iff ((l.any fun y => decide (y = x)) = true) (by simp)
/-- The keys that were used last: r is what was used, the last one first. -/
def lateF (most : Nat) : List ByteArray → List ByteArray → List ByteArray
  | out, [] => out
  | out, x :: r => if out.length < most then lateF most (if x ∈ out then out else out ++ [x]) r else out
def newOf : List ByteArray → List ByteArray → List ByteArray
  | _, [] => []
  | out, x :: r => if x ∈ out then newOf out r else x :: newOf (out ++ [x]) r
theorem lateF_eq (most : Nat) : ∀ (r out : List ByteArray), out.length ≤ most → lateF most out r = out ++ (newOf out r).take (most - out.length)
  | [], out, h => by simp [lateF, newOf]
  | x :: r, out, h => by
    unfold lateF newOf
    by_cases h1 : out.length < most
    · rw [if_pos h1]
      by_cases h2 : x ∈ out
      · rw [if_pos h2, if_pos h2, lateF_eq most r out h]
      · rw [if_neg h2, if_neg h2, lateF_eq most r (out ++ [x]) (by simp; omega)]
        have : most - out.length = (most - (out ++ [x]).length) + 1 := by simp; omega
        rw [this, List.take_succ_cons]
        simp
    · rw [if_neg h1]
      have : most - out.length = 0 := by omega
      rw [this]; simp
theorem newOf_notin : ∀ (r out : List ByteArray), ∀ x ∈ newOf out r, x ∉ out
  | [], out, x, hx => by simp [newOf] at hx
  | y :: r, out, x, hx => by
    unfold newOf at hx
    by_cases h : y ∈ out
    · rw [if_pos h] at hx; exact newOf_notin r out x hx
    · rw [if_neg h] at hx
      rcases List.mem_cons.1 hx with rfl | hx
      · exact h
      · intro hm
        exact newOf_notin r _ x hx (by simp [hm])
theorem newOf_nodup : ∀ (r out : List ByteArray), (newOf out r).Nodup
  | [], out => by simp [newOf]
  | y :: r, out => by
    unfold newOf
    by_cases h : y ∈ out
    · rw [if_pos h]; exact newOf_nodup r out
    · rw [if_neg h, List.nodup_cons]
      exact ⟨fun hm => newOf_notin r _ y hm (by simp), newOf_nodup r _⟩
/-- More is out already: it falls away. -/
theorem newOf_more : ∀ (r out : List ByteArray) (k : ByteArray), newOf (k :: out) r = (newOf out r).filter fun x => !decide (x = k)
  | [], out, k => by simp [newOf]
  | y :: r, out, k => by
    unfold newOf
    by_cases hy : y = k
    · subst hy
      rw [if_pos (by simp)]
      by_cases h : y ∈ out
      · rw [if_pos h]; exact newOf_more r out y
      · rw [if_neg h, List.filter_cons]
        simp only [decide_true, Bool.not_true, Bool.false_eq_true, if_false]
        rw [newOf_more r out y]
        have key : ∀ (r a b : List ByteArray), (∀ x, x ∈ a ↔ x ∈ b) → newOf a r = newOf b r := by
          intro r
          induction r with
          | nil => intro a b _; rfl
          | cons z r ih =>
            intro a b hab
            unfold newOf
            by_cases hz : z ∈ a
            · rw [if_pos hz, if_pos ((hab z).1 hz)]; exact ih a b hab
            · rw [if_neg hz, if_neg (fun h => hz ((hab z).2 h))]
              rw [ih (a ++ [z]) (b ++ [z]) (fun x => by simp [hab x])]
        have e : newOf (out ++ [y]) r = newOf (y :: out) r := key r _ _ (fun x => by simp [or_comm])
        rw [e, newOf_more r out y, List.filter_filter]
        simp
    · by_cases h : y ∈ out
      · rw [if_pos (by simp [h]), if_pos h]; exact newOf_more r out k
      · rw [if_neg (by simp [h, hy]), if_neg h, List.filter_cons]
        simp only [hy, decide_false, Bool.not_false, if_true]
        rw [← newOf_more r (out ++ [y]) k]
        rfl
theorem filter_take {l : List ByteArray} (hn : l.Nodup) (k : ByteArray) : ∀ (m : Nat), ((l.take (m + 1)).filter fun x => !decide (x = k)).take m = (l.filter fun x => !decide (x = k)).take m := by
  induction l with
  | nil => intro m; simp
  | cons y l ih =>
    intro m
    have hn' := (List.nodup_cons.1 hn).2
    rw [List.take_succ_cons]
    by_cases hy : y = k
    · subst hy
      have hno : ∀ x ∈ l, x ≠ y := fun x hx e => (List.nodup_cons.1 hn).1 (e ▸ hx)
      have e1 : l.filter (fun x => !decide (x = y)) = l := List.filter_eq_self.2 fun x hx => by simp [hno x hx]
      have e2 : (l.take m).filter (fun x => !decide (x = y)) = l.take m := List.filter_eq_self.2 fun x hx => by simp [hno x (List.mem_of_mem_take hx)]
      rw [List.filter_cons, List.filter_cons]
      simp only [decide_true, Bool.not_true, Bool.false_eq_true, if_false]
      rw [e1, e2, List.take_take, Nat.min_self]
    · cases m with
      | zero => simp
      | succ m =>
        rw [List.filter_cons, List.filter_cons]
        simp only [hy, decide_false, Bool.not_false, if_true]
        rw [List.take_succ_cons, List.take_succ_cons, ih hn' m]
/-- What is used now comes first. -/
theorem late_cons (most : Nat) (h : 1 ≤ most) (k : ByteArray) (r : List ByteArray) : lateF most [] (k :: r) = (k :: (lateF most [] r).filter fun x => !decide (x = k)).take most := by
  have e1 : lateF most [] (k :: r) = lateF most [k] r := by
    conv => lhs; unfold lateF
    rw [if_pos (by simp; omega)]
    simp
  rw [e1, lateF_eq most r [k] (by simpa using h), lateF_eq most r [] (by simp), newOf_more r [] k]
  obtain ⟨m, rfl⟩ : ∃ m, most = m + 1 := ⟨most - 1, by omega⟩
  simp only [List.length_cons, List.length_nil, Nat.zero_add, Nat.add_sub_cancel, Nat.sub_zero, List.nil_append, List.singleton_append, List.take_succ_cons]
  rw [filter_take (newOf_nodup r []) k m]
theorem lateF_nodup (most : Nat) (r : List ByteArray) : (lateF most [] r).Nodup := by
  rw [lateF_eq most r [] (by simp)]
  simp only [List.nil_append]
  exact (List.take_sublist _ _).nodup (newOf_nodup r [])
theorem lateF_len (most : Nat) (r : List ByteArray) : (lateF most [] r).length ≤ most := by
  rw [lateF_eq most r [] (by simp)]
  simp; omega

theorem beq_toList (a b : ByteArray) : (a.toList == b.toList) = decide (a = b) := by
  rw [Bool.eq_iff_iff, beq_iff_eq, decide_eq_true_iff, ByteArray.toList_eq, ByteArray.toList_eq]
  constructor
  · intro h
    cases a; cases b
    simp only [ByteArray.mk.injEq] at h ⊢
    exact Array.toList_inj.1 h
  · rintro rfl; rfl

set_option maxHeartbeats 1000000 in
set_option maxRecDepth 100000 in
theorem has_calls (A : Option Addr) (c : Nat) (ss : List ByteArray) (s : ByteArray) (w : World) (hr : Rd w A (strs ss)) (hl : ss.length ≤ 140737488355328) :
    Calls Try.prog 32 #[.slice A ss.length c, .string s] w fun e w' => e = .returned (.bool (decide (s ∈ ss))) ∧ w = w' := by
  go_enter Try.func32, Try.ntmps32
  go_wp2
  go_loop [5] (fun i => ∃ k : Nat, k ≤ ss.length ∧ i = .int .i64 k ∧ Hid (decide (s ∈ ss) = decide (s ∈ ss.drop k))) (fun i => ss.length - (intOf i).toNat)
  case atStart => exact ⟨0, Nat.zero_le _, rfl, rfl⟩
  case round =>
    obtain ⟨k, hk, rfl, H⟩ := hrel
    by_cases hlt : k < ss.length
    · obtain ⟨b, off, rfl, hcell⟩ := rd_str hr hlt
      have hbq := beq_toList ss[k] s
      rw [PC.drop_cons _ _ hlt] at H
      by_cases he : ss[k] = s
      · have hd : (ss[k].toList == s.toList) = true := by rw [hbq]; simpa using he
        have hfin : Hid (decide (s ∈ ss) = true) := by rw [H.out]; simp [Hid, he]
        clear hbq he H
        go_wp2
        go_ret
        exact ⟨ret_bool hfin.out.symm, rfl⟩
      · have hd : (ss[k].toList == s.toList) = false := by rw [hbq]; simpa using he
        have hfin : Hid (decide (s ∈ ss) = decide (s ∈ ss.drop (k + 1))) := by
          show decide _ = decide _
          rw [H.out, decide_eq_decide, List.mem_cons]
          exact ⟨fun h => h.resolve_left (fun e => he e.symm), .inr⟩
        clear hbq he H
        go_wp2
        go_round
        case rel => exact ⟨k + 1, by omega, by go_num, hfin⟩
        case measure => simp [intOf]; omega
    · obtain rfl : ss.length = k := by omega
      have hfin : Hid (decide (s ∈ ss) = false) := by rw [H.out]; simp [Hid]
      clear H
      go_wp2
      go_ret
      exact ⟨ret_bool hfin.out.symm, rfl⟩

def LatePost (w : World) (out : List ByteArray) (e : Ending) (w' : World) : Prop := ∃ A c, e = .returned (.slice A out.length c) ∧ w'.ownsRow w.heap.size 9 1 (.slice A out.length c) out.length (strs out) ∧ Below w.heap.size w w'
theorem rev_take (ss : List ByteArray) (k : Nat) (h : k < ss.length) : (ss.take (k + 1)).reverse = ss[k] :: (ss.take k).reverse := by
  rw [List.take_succ_eq_append_getElem h]; simp
set_option maxHeartbeats 2000000 in
set_option maxRecDepth 100000 in
theorem late_calls (A : Option Addr) (c : Nat) (ss : List ByteArray) (most : Nat) (hm : most ≤ 12) (w : World) (hr : Rd w A (strs ss)) (hl : ss.length ≤ 140737488355328) :
    Calls Try.prog 33 #[.slice A ss.length c, .int .i64 most] w (LatePost w (lateF most [] ss.reverse)) := by
  go_enter Try.func33, Try.ntmps33
  go_wp2
  go_loopw [5, 6] (fun v i wr => ∃ (k : Nat) (out : List ByteArray), k ≤ ss.length ∧ i = .int .i64 ((k : Int) - 1) ∧ out.length ≤ most ∧ wr.ownsRow w.heap.size 9 1 v out.length (strs out) ∧ Below w.heap.size w wr ∧ Hid (lateF most [] ss.reverse = lateF most out (ss.take k).reverse)) (fun _ i _ => (intOf i + 1).toNat)
  case atStart => exact ⟨ss.length, [], Nat.le_refl _, rfl, by simp, World.ownsRow_nil _ _ _ _, Below.refl _ _, by rw [List.take_length]; rfl⟩
  case round =>
    obtain ⟨k, out, hk, rfl, hol, hown, hb, H⟩ := hrel
    obtain ⟨A', c', rfl, hc1, hc2⟩ := own_form hown
    cases k with
    | zero =>
      have hfin : Hid (lateF most [] ss.reverse = out) := by rw [H.out]; simp [Hid, lateF]
      clear H
      go_wp2
      go_ret
      rw [hfin.out]
      exact ⟨_, _, rfl, hown, hb⟩
    | succ k =>
      have e0 : (((k + 1 : Nat) : Int) - 1) = (k : Int) := by omega
      rw [e0]
      clear e0
      have hlt : k < ss.length := by omega
      rw [rev_take ss k hlt, lateF] at H
      by_cases hroom : out.length < most
      · rw [if_pos hroom] at H
        obtain ⟨b, off, rfl, hcell⟩ := rd_str (hr.keep hb) hlt
        have hro := own_rd hown
        have hhas := has_calls A' c' out ss[k] wr hro (by omega)
        go_wp2_with fail
        refine hhas.mono ?_
        rintro e w1 ⟨rfl, rfl⟩
        clear hhas
        by_cases hin : ss[k] ∈ out
        · rw [if_pos hin] at H
          have hd : decide (ss[k] ∈ out) = true := by simpa using hin
          clear hin
          go_wp2_with fail
          go_roundw
          case rel => exact ⟨k, out, by omega, rfl, hol, hown, hb, H⟩
          case measure => simp [intOf]
        · rw [if_neg hin] at H
          have hd : decide (ss[k] ∈ out) = false := by simpa using hin
          clear hin
          go_wp2_with (at_builtin; go_loud (refine app_own hown hb (.tmp 27) (.tmp 32) [.string ss[k]] 22 _ _ Try.underlying22 info9 (by omega) (by decide) hb.size rfl rfl rfl (by decide) rfl rfl rfl (by simp [Value.oneCell']) ?_); intro v1 w1 ho1 hb1 _ _)
          go_roundw
          case rel => exact ⟨k, out ++ [ss[k]], by omega, rfl, by simp; omega, by simpa [strs] using ho1, hb1, H⟩
          case measure => simp [intOf]
      · rw [if_neg hroom] at H
        have hd : decide (out.length < most) = false := by simpa using hroom
        go_wp2
        go_ret
        rw [H.out]
        exact ⟨_, _, rfl, hown, hb⟩
end Go.Proofs.Ytdbccemllaehjaa.RL
