/- The first walks for PagesCuts: markText, LentTexts, pages.Cut, the reference's Texts, SameTexts. -/
import Derived.Test.YtdbccemllaehjaaProg
import Derived.Test.YtdbccemllaehjaaKw
namespace Go.Proofs.Ytdbccemllaehjaa.PC
open Go.RowKit Go.Proofs.YtdbccemllaehjaaKw
set_option linter.unusedVariables false
set_option linter.unusedSimpArgs false
/-- string([]byte{..}) of eight bytes just made. -/
theorem conv8 (w : World) (x0 x1 x2 x3 x4 x5 x6 x7 : Int) :
    (convert 141 9 (.slice (some ⟨w.heap.size, 0, none⟩) 8 8)).run Try.prog (w.alloc (.cells #[.int .u8 x0, .int .u8 x1, .int .u8 x2, .int .u8 x3, .int .u8 x4, .int .u8 x5, .int .u8 x6, .int .u8 x7] 5)) =
      .ok (.string (strOfNums [x0, x1, x2, x3, x4, x5, x6, x7])) (w.alloc (.cells #[.int .u8 x0, .int .u8 x1, .int .u8 x2, .int .u8 x3, .int .u8 x4, .int .u8 x5, .int .u8 x6, .int .u8 x7] 5)) := by
  refine run_convert_bytes_arg _ 141 5 Try.underlying141 Try.underlying5 w.heap.size 0 8 8 [x0, x1, x2, x3, x4, x5, x6, x7] rfl ?_ 9 Try.underlying9
  intro i hi
  match i, hi with
  | 0, _ => simp [go_sem]
  | 1, _ => simp [go_sem]
  | 2, _ => simp [go_sem]
  | 3, _ => simp [go_sem]
  | 4, _ => simp [go_sem]
  | 5, _ => simp [go_sem]
  | 6, _ => simp [go_sem]
  | 7, _ => simp [go_sem]

def mkT (i : Int) : ByteArray := strOfNums [35, 1, 0, 0, 47, i, i / 256, i / 65536]
set_option maxRecDepth 100000 in
theorem mark_calls (i : Int) (h0 : 0 ≤ i) (h1 : i < 24) (w : World) :
    Calls Try.prog 51 #[.int .i64 1, .int .i64 i] w fun e w' => e = .returned (.string (mkT i)) ∧ Below w.heap.size w w' := by
  have kc := conv8 w
  go_enter Try.func51, Try.ntmps51
  go_wp2
  go_ret
  exact ⟨rfl, below_alloc (Below.refl _ _) _⟩

theorem info9 : (Try.prog.info? 9).map (fun i => (i.zero, i.size, i.bytes)) = some (some (.string ⟨#[]⟩), 1, 16) := by kernel_rfl
def strs (ss : List ByteArray) : List Value := ss.map .string
theorem strs_len (ss : List ByteArray) : (strs ss).length = ss.length := by simp [strs]
theorem strs_at (ss : List ByteArray) (j : Nat) (h : j < ss.length) : (strs ss)[j]'(by rw [strs_len]; exact h) = .string ss[j] := by simp [strs]
theorem rd_str {w : World} {A : Option Addr} {ss : List ByteArray} (h : Rd w A (strs ss)) {j : Nat} (hj : j < ss.length) :
    ∃ b off, A = some ⟨b, off, none⟩ ∧ w.cell? ⟨b, off + j, none⟩ = some (.string ss[j]) := by
  obtain ⟨b, off, e, hc⟩ := h.at (j := j) (by rw [strs_len]; exact hj)
  rw [strs_at ss j hj] at hc
  exact ⟨b, off, e, hc⟩
theorem strs_take (ss : List ByteArray) (k : Nat) (h : k < ss.length) : strs (ss.take (k + 1)) = strs (ss.take k) ++ [.string ss[k]] := by
  rw [List.take_succ_eq_append_getElem h, strs, List.map_append]; rfl
def marks (k : Nat) : List ByteArray := (List.range k).map fun (i : Nat) => mkT (i : Int)
theorem marks_len (k : Nat) : (marks k).length = k := by simp [marks]
theorem marks_succ (k : Nat) : marks (k + 1) = marks k ++ [mkT (k : Int)] := by simp [marks, List.range_succ]

set_option maxHeartbeats 1000000 in
set_option maxRecDepth 100000 in
theorem lent_calls (A : Option Addr) (c : Nat) (ss : List ByteArray) (w : World) (hr : Rd w A (strs ss)) (hl : ss.length * 16 ≤ 140737488351232) (hc : ss.length ≤ c) :
    Calls Try.prog 10 #[.slice A ss.length c] w fun e w' => ∃ A' c', e = .returned (.slice A' ss.length c') ∧ w'.ownsRow w.heap.size 9 1 (.slice A' (ss.length + 24) c') (ss.length + 24) (strs (ss ++ marks 24)) ∧ Below w.heap.size w w' := by
  go_enter Try.func10, Try.ntmps10
  go_wp2
  go_loopw [3, 4] (fun v i wr => ∃ k : Nat, k ≤ ss.length ∧ i = .int .i64 k ∧ wr.ownsRow w.heap.size 9 1 v k (strs (ss.take k)) ∧ Below w.heap.size w wr) (fun _ i _ => ss.length - (intOf i).toNat)
  case atStart => exact ⟨0, Nat.zero_le _, rfl, World.ownsRow_nil _ _ _ _, Below.refl _ _⟩
  case round =>
    obtain ⟨k, hk, rfl, hown, hb⟩ := hrel
    by_cases hlt : k < ss.length
    · obtain ⟨b, off, rfl, hcell⟩ := rd_str (hr.keep hb) hlt
      go_wp2_with (at_builtin; go_loud (refine app_own hown hb (.tmp 12) (.tmp 17) [.string ss[k]] 22 _ _ Try.underlying22 info9 (by omega) (by decide) hb.size rfl rfl rfl (by decide) rfl rfl rfl (by simp [Value.oneCell']) ?_); intro v1 w1 ho1 hb1 _ _)
      go_roundw
      case rel => exact ⟨k + 1, by omega, by go_num, by rw [strs_take ss k hlt]; exact ho1, hb1⟩
      case measure => simp [intOf]; omega
    · obtain rfl : ss.length = k := by omega
      rw [List.take_length] at hown
      go_wp2
      go_loopw [3, 5] (fun v i wr => ∃ k : Nat, k ≤ 24 ∧ i = .int .i64 k ∧ wr.ownsRow w.heap.size 9 1 v (ss.length + k) (strs (ss ++ marks k)) ∧ Below w.heap.size w wr) (fun _ i _ => 24 - (intOf i).toNat)
      case atStart => exact ⟨0, Nat.zero_le _, rfl, by simpa [marks] using hown, hb⟩
      case round =>
        clear hb hown
        obtain ⟨k, hk, rfl, hown, hb⟩ := hrel
        by_cases hlt : k < 24
        · go_wp2_with (first
            | (go_at_call 51; refine (mark_calls _ (by omega) (by omega) _).mono ?_; rintro e w1 ⟨rfl, hb1⟩; have hown1 := own_keep hown hb1; have hb2 := below_then hb hb.size hb1)
            | (at_builtin; go_loud (refine app_own hown1 hb2 (.tmp 23) (.tmp 26) [.string (mkT k)] 22 _ _ Try.underlying22 info9 (by omega) (by decide) hb2.size rfl rfl rfl (by decide) rfl rfl rfl (by simp [Value.oneCell']) ?_); intro v2 w2 ho2 hb3 _ _))
          go_roundw
          case rel => exact ⟨k + 1, by omega, by go_num, by rw [marks_succ, ← List.append_assoc, strs, List.map_append]; exact ho2, hb3⟩
          case measure => simp [intOf]; omega
        · obtain rfl : k = 24 := by omega
          obtain ⟨A', c', rfl, hc1, hc2⟩ := own_form hown
          go_wp2
          go_ret
          exact ⟨_, _, rfl, hown, hb⟩

/-- 'a <= b' of texts. -/
def leB (a b : ByteArray) : Bool := Op.bytesLess a.toList b.toList || a.toList == b.toList
/-- Cut: what is behind 'after', at most size of it; is there more? -/
def cutS (size : Int) : List ByteArray → List ByteArray → ByteArray → List ByteArray × Bool
  | out, [], _ => (out, false)
  | out, s :: l, after =>
    if leB s after then cutS size out l after else if (out.length : Int) ≥ size then (out, true) else cutS size (out ++ [s]) l after
theorem cutS_len (size : Int) (after : ByteArray) : ∀ (l out : List ByteArray), (cutS size out l after).1.length ≤ out.length + l.length
  | [], out => by simp [cutS]
  | s :: l, out => by
    unfold cutS
    split
    · have := cutS_len size after l out; simp at this ⊢; omega
    · split
      · simp
      · have := cutS_len size after l (out ++ [s]); simp at this ⊢; omega

structure CutPost (w : World) (r : List ByteArray × Bool) (e : Ending) (w' : World) : Prop where
  mk :: (out : ∃ v, e = .returned (.tuple #[v, .bool r.2]) ∧ w'.ownsRow w.heap.size 9 1 v r.1.length (strs r.1) ∧ Below w.heap.size w w')
theorem cut_post {w w' : World} {r : List ByteArray × Bool} {out : List ByteArray} {m : Bool} {v : Value} (h : Hid (r = (out, m))) (ho : w'.ownsRow w.heap.size 9 1 v out.length (strs out)) (hb : Below w.heap.size w w') :
    CutPost w r (.returned (.tuple #[v, .bool m])) w' := by
  have h' := h.out; subst h'; exact ⟨v, rfl, ho, hb⟩
theorem drop_cons {α : Type} (l : List α) (k : Nat) (h : k < l.length) : l.drop k = l[k] :: l.drop (k + 1) := List.drop_eq_getElem_cons h
set_option maxHeartbeats 1000000 in
set_option maxRecDepth 100000 in
theorem cut_calls (A : Option Addr) (c : Nat) (ss : List ByteArray) (after : ByteArray) (size : Int) (w : World) (hr : Rd w A (strs ss)) (hl : ss.length * 16 ≤ 140737488351232) :
    Calls Try.prog 11 #[.slice A ss.length c, .string after, .int .i64 size] w (CutPost w (cutS size [] ss after)) := by
  go_enter Try.func11, Try.ntmps11
  go_wp2
  go_loopw [8, 13] (fun v i wr => ∃ (k : Nat) (out : List ByteArray), k ≤ ss.length ∧ out.length ≤ k ∧ i = .int .i64 k ∧ wr.ownsRow w.heap.size 9 1 v out.length (strs out) ∧ Below w.heap.size w wr ∧ Hid (cutS size [] ss after = cutS size out (ss.drop k) after)) (fun _ i _ => ss.length - (intOf i).toNat)
  case atStart => exact ⟨0, [], Nat.zero_le _, Nat.le_refl _, rfl, World.ownsRow_nil _ _ _ _, Below.refl _ _, rfl⟩
  case round =>
    obtain ⟨k, out, hk, hk2, rfl, hown, hb, H⟩ := hrel
    by_cases hlt : k < ss.length
    · obtain ⟨b, off, rfl, hcell⟩ := rd_str (hr.keep hb) hlt
      rw [drop_cons _ _ hlt, cutS] at H
      by_cases hle : leB ss[k] after = true
      · rw [if_pos hle] at H
        unfold leB at hle
        go_wp2
        all_goals
          go_roundw
          case rel => exact ⟨k + 1, out, by omega, by omega, by go_num, hown, hb, H⟩
          case measure => simp [intOf]; omega
      · rw [if_neg hle] at H
        have hle' : leB ss[k] after = false := by simpa using hle
        clear hle
        unfold leB at hle'
        obtain ⟨A', c', rfl, hc1, hc2⟩ := own_form hown
        by_cases hsz : (out.length : Int) ≥ size
        · rw [if_pos hsz] at H
          go_wp2
          go_ret2
          exact cut_post H hown hb
        · rw [if_neg hsz] at H
          go_wp2_with (at_builtin; go_loud (refine app_own hown hb (.tmp 25) (.tmp 27) [.string ss[k]] 22 _ _ Try.underlying22 info9 (by omega) (by decide) hb.size rfl rfl rfl (by decide) rfl rfl rfl (by simp [Value.oneCell']) ?_); intro v1 w1 ho1 hb1 _ _)
          go_roundw
          case rel => exact ⟨k + 1, out ++ [ss[k]], by omega, by simp; omega, by go_num, by simpa [strs] using ho1, hb1, H⟩
          case measure => simp [intOf]; omega
    · obtain rfl : ss.length = k := by omega
      rw [List.drop_length, cutS] at H
      go_wp2
      go_ret2
      exact cut_post H hown hb

def textsS : List UInt8 → List UInt8 → Int
  | [], [] => 0
  | [], _ :: _ => -1
  | _ :: _, [] => 1
  | x :: xs, y :: ys => if x < y then -1 else if y < x then 1 else textsS xs ys

set_option maxHeartbeats 1000000 in
set_option maxRecDepth 100000 in
theorem texts_calls (a b : ByteArray) (ha : a.size ≤ maxLen) (hb : b.size ≤ maxLen) (w : World) :
    Calls Try.prog 52 #[.string a, .string b] w fun e w' => e = .returned (.int .i64 (textsS a.data.toList b.data.toList)) ∧ Below w.heap.size w w' := by
  unfold maxLen at ha hb
  go_enter Try.func52, Try.ntmps52
  go_wp2
  go_loopw [5] (fun i wr => ∃ k : Nat, k ≤ a.size ∧ k ≤ b.size ∧ i = .int .i64 k ∧ Below w.heap.size w wr ∧ Hid (textsS a.data.toList b.data.toList = textsS (a.data.toList.drop k) (b.data.toList.drop k))) (fun i _ => a.size - (intOf i).toNat)
  case atStart => exact ⟨0, Nat.zero_le _, Nat.zero_le _, rfl, Below.refl _ _, rfl⟩
  case round =>
    obtain ⟨k, hk1, hk2, rfl, hbel, H⟩ := hrel
    by_cases h1 : k < a.size
    · by_cases h2 : k < b.size
      · have ea : a.data.toList.drop k = a[k] :: a.data.toList.drop (k + 1) := List.drop_eq_getElem_cons (by simpa using h1)
        have eb : b.data.toList.drop k = b[k] :: b.data.toList.drop (k + 1) := List.drop_eq_getElem_cons (by simpa using h2)
        rw [ea, eb, textsS] at H
        clear ea eb
        by_cases h3 : a[k] < b[k]
        · rw [if_pos h3] at H
          have h3' : (a[k].toNat : Int) < b[k].toNat := by rw [UInt8.lt_iff_toNat_lt] at h3; omega
          clear h3
          go_wp2_with fail
          go_quiet (fail)
          go_wp2
          go_ret
          exact ⟨ret_int H.out.symm, below_drewN hbel _⟩
        · rw [if_neg h3] at H
          have h3' : (b[k].toNat : Int) ≤ a[k].toNat := by rw [UInt8.lt_iff_toNat_lt] at h3; omega
          clear h3
          by_cases h4 : b[k] < a[k]
          · rw [if_pos h4] at H
            have h4' : (b[k].toNat : Int) < a[k].toNat := by rw [UInt8.lt_iff_toNat_lt] at h4; omega
            clear h4
            go_wp2_with fail
            go_quiet (fail)
            go_wp2_with fail
            go_quiet (fail)
            go_wp2
            go_ret
            exact ⟨ret_int H.out.symm, by first | exact below_drewN hbel _ | exact below_drewN (below_drewN hbel _) _⟩
          · rw [if_neg h4] at H
            have h4' : (a[k].toNat : Int) ≤ b[k].toNat := by rw [UInt8.lt_iff_toNat_lt] at h4; omega
            clear h4
            go_wp2_with fail
            go_quiet (fail)
            go_wp2_with fail
            go_quiet (fail)
            go_wp2
            go_roundw
            case rel => exact ⟨k + 1, by omega, by omega, by go_num, by first | exact below_drewN hbel _ | exact below_drewN (below_drewN hbel _) _, H⟩
            case measure => simp [intOf]; omega
      · obtain rfl : b.size = k := by omega
        have ea : a.data.toList.drop b.size = a[b.size] :: a.data.toList.drop (b.size + 1) := List.drop_eq_getElem_cons (by simpa using h1)
        have eb : b.data.toList.drop b.size = [] := List.drop_eq_nil_of_le (by simp)
        rw [ea, eb, textsS] at H
        clear ea eb
        go_wp2
        go_ret
        exact ⟨ret_int H.out.symm, hbel⟩
    · obtain rfl : a.size = k := by omega
      have ea : a.data.toList.drop a.size = [] := List.drop_eq_nil_of_le (by simp)
      rw [ea] at H
      clear ea
      by_cases h2 : a.size < b.size
      · have eb : b.data.toList.drop a.size = b[a.size] :: b.data.toList.drop (a.size + 1) := List.drop_eq_getElem_cons (by simpa using h2)
        rw [eb, textsS] at H
        clear eb
        go_wp2
        go_ret
        exact ⟨ret_int H.out.symm, hbel⟩
      · have eb : b.data.toList.drop a.size = [] := List.drop_eq_nil_of_le (by simp; omega)
        rw [eb, textsS] at H
        clear eb
        go_wp2
        go_ret
        exact ⟨ret_int H.out.symm, hbel⟩

theorem toList_data (s : ByteArray) : s.toList = s.data.toList := ByteArray.toList_eq s
theorem texts_le : ∀ a b : List UInt8, textsS a b ≤ 0 ↔ (Op.bytesLess a b || a == b) = true
  | [], [] => by simp [textsS]
  | [], _ :: _ => by simp [textsS, Op.bytesLess]
  | _ :: _, [] => by simp [textsS, Op.bytesLess]
  | x :: xs, y :: ys => by
    unfold textsS Op.bytesLess
    have ih := texts_le xs ys
    by_cases h1 : x < y
    · simp [h1]
    · by_cases h2 : y < x
      · have h3 : x ≠ y := by rintro rfl; exact h1 h2
        simp [h1, h2, h3]
      · have h3 : x = y := by rw [UInt8.lt_iff_toNat_lt] at h1 h2; exact UInt8.toNat_inj.1 (by omega)
        subst h3
        simp only [h1, if_false]
        rw [ih]
        simp
theorem texts_leB (a b : ByteArray) : decide (textsS a.data.toList b.data.toList ≤ 0) = leB a b := by
  unfold leB
  rw [toList_data, toList_data, Bool.eq_iff_iff, decide_eq_true_iff]
  exact texts_le _ _

structure SamePost (w : World) (r : Bool) (e : Ending) (w' : World) : Prop where
  mk :: (out : e = .returned (.bool r) ∧ Below w.heap.size w w')
set_option maxHeartbeats 1000000 in
set_option maxRecDepth 100000 in
theorem same_calls (A B : Option Addr) (c d : Nat) (ss : List ByteArray) (w : World) (hr : Rd w A (strs ss)) (hr2 : Rd w B (strs ss)) (hl : ss.length ≤ 140737488351232) :
    Calls Try.prog 13 #[.slice A ss.length c, .slice B ss.length d] w fun e w' => e = .returned (.bool true) ∧ Below w.heap.size w w' := by
  go_enter Try.func13, Try.ntmps13
  go_wp2
  go_loopw [5] (fun i wr => ∃ k : Nat, k ≤ ss.length ∧ i = .int .i64 k ∧ Below w.heap.size w wr) (fun i _ => ss.length - (intOf i).toNat)
  case atStart => exact ⟨0, Nat.zero_le _, rfl, Below.refl _ _⟩
  case round =>
    obtain ⟨k, hk, rfl, hb⟩ := hrel
    by_cases hlt : k < ss.length
    · obtain ⟨b, off, rfl, hcell⟩ := rd_str (hr.keep hb) hlt
      obtain ⟨b2, off2, rfl, hcell2⟩ := rd_str (hr2.keep hb) hlt
      have hlt' : (k : Int) < (ss.length : Int) := by omega
      go_wp2_with fail
      go_quiet (fail)
      go_wp2
      go_roundw
      case rel => exact ⟨k + 1, by omega, by go_num, below_drewN hb _⟩
      case measure => simp [intOf]; omega
    · go_wp2
      go_ret
      exact ⟨rfl, hb⟩

end Go.Proofs.Ytdbccemllaehjaa.PC
