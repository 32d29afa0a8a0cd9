/- Plain words for PagesCodes: texts as numbers, short forms, sums, what a cursor is. No program is in sight here. -/
import Derived.Test.YtdbccemllaehjaaGa
import Derived.Laws.BytesArg
namespace Go.Proofs.YtdbccemllaehjaaGa
open Go.RowKit
set_option linter.unusedVariables false
set_option linter.unusedSimpArgs false

/-- The bytes of a text, as numbers; the text of numbers. -/
def nums (s : ByteArray) : List Nat := s.data.toList.map UInt8.toNat
def strOf (l : List Nat) : ByteArray := strOfNums (l.map fun n : Nat => (n : Int))
theorem nums_len (s : ByteArray) : (nums s).length = s.size := by unfold nums; rw [List.length_map]; rfl
theorem nums_dig (s : ByteArray) : Dig 256 (nums s) := by
  intro d hd
  obtain ⟨x, _, rfl⟩ := List.mem_map.1 hd
  exact x.toNat_lt
theorem nums_at (s : ByteArray) {k : Nat} (hk : k < s.size) : (nums s)[k]'(by rw [nums_len]; exact hk) = s[k].toNat := by
  simp [nums]
  rfl
theorem strOf_size (l : List Nat) : (strOf l).size = l.length := by simp [strOf, strOfNums_size]
theorem nums_strOf {l : List Nat} (h : Dig 256 l) : nums (strOf l) = l := by
  unfold nums strOf
  rw [strOfNums_data, List.map_map, List.map_map]
  conv => rhs; rw [← List.map_id l]
  refine List.map_congr_left fun n hn => ?_
  have := h n hn
  simp [Function.comp, UInt8.toNat_ofNat']
  omega
theorem strOf_nums (s : ByteArray) : strOf (nums s) = s := by
  have : (strOf (nums s)).data = s.data := by
    apply Array.toList_inj.1
    unfold strOf nums
    rw [strOfNums_data, List.map_map, List.map_map]
    conv => rhs; rw [← List.map_id s.data.toList]
    refine List.map_congr_left fun n hn => ?_
    simp [Function.comp]
  cases s
  cases h : strOf (nums _)
  rw [h] at this
  simp only at this
  rw [this]
theorem strOf_inj {l m : List Nat} (hl : Dig 256 l) (hm : Dig 256 m) (h : strOf l = strOf m) : l = m := by
  rw [← nums_strOf hl, ← nums_strOf hm, h]

/-- A letter's byte. -/
def lt (d : Nat) : Nat := if d < 26 then 97 + d else 24 + d
theorem lt_lt {d : Nat} (h : d < 32) : lt d < 256 := by unfold lt; split <;> omega
theorem lt_inj {d e : Nat} (hd : d < 32) (he : e < 32) (h : lt d = lt e) : d = e := by
  unfold lt at h
  split at h <;> split at h <;> omega
theorem lt_dig {D : List Nat} (h : Dig 32 D) : Dig 256 (D.map lt) := by
  intro x hx
  obtain ⟨d, hd, rfl⟩ := List.mem_map.1 hx
  exact lt_lt (h d hd)
theorem map_lt_inj : ∀ {D E : List Nat}, Dig 32 D → Dig 32 E → D.map lt = E.map lt → D = E
  | [], [], _, _, _ => rfl
  | [], _ :: _, _, _, h => by simp at h
  | _ :: _, [], _, _, h => by simp at h
  | d :: D, e :: E, hd, he, h => by
    simp only [List.map_cons, List.cons.injEq] at h
    rw [lt_inj (hd d (by simp)) (he e (by simp)) h.1, map_lt_inj (fun x hx => hd x (by simp [hx])) (fun x hx => he x (by simp [hx])) h.2]
/-- The text is the armor of the bytes. -/
def IsArm (B : List Nat) (s : ByteArray) : Prop := ∃ D, ArmD B D ∧ s = strOf (D.map lt)
theorem IsArm.unique {B : List Nat} {s t : ByteArray} (h : IsArm B s) (k : IsArm B t) : s = t := by
  obtain ⟨D, hD, rfl⟩ := h
  obtain ⟨E, hE, rfl⟩ := k
  rw [hD.unique hE]
theorem IsArm.size {B : List Nat} {s : ByteArray} (h : IsArm B s) : s.size = (8 * B.length + 4) / 5 := by
  obtain ⟨D, hD, rfl⟩ := h
  rw [strOf_size, List.length_map, hD.len]

/-- The short form of a number. -/
def uintB (x : Nat) : List Nat := if h : x < 128 then [x] else (x % 128 + 128) :: uintB (x / 128)
  termination_by x
  decreasing_by omega
theorem uintB_lo {x : Nat} (h : x < 128) : uintB x = [x] := by rw [uintB]; simp [h]
theorem uintB_hi {x : Nat} (h : ¬ x < 128) : uintB x = (x % 128 + 128) :: uintB (x / 128) := by rw [uintB]; simp [h]
theorem uintB_ne (x : Nat) : uintB x ≠ [] := by
  by_cases h : x < 128
  · rw [uintB_lo h]; simp
  · rw [uintB_hi h]; simp
theorem uintB_dig : ∀ (n x : Nat), x < 128 ^ (n + 1) → Dig 256 (uintB x) ∧ (uintB x).length ≤ n + 1
  | 0, x, h => by
    have h' : x < 128 := by omega
    rw [uintB_lo h']
    exact ⟨by intro d hd; simp at hd; omega, by simp⟩
  | n + 1, x, h => by
    by_cases hx : x < 128
    · rw [uintB_lo hx]
      exact ⟨by intro d hd; simp at hd; omega, by simp⟩
    · rw [uintB_hi hx]
      have h2 : x / 128 < 128 ^ (n + 1) := by
        rw [Nat.pow_succ, Nat.mul_comm] at h
        exact Nat.div_lt_of_lt_mul h
      obtain ⟨i1, i2⟩ := uintB_dig n (x / 128) h2
      refine ⟨fun d hd => ?_, by simp; omega⟩
      rcases List.mem_cons.1 hd with rfl | hd
      · omega
      · exact i1 d hd
theorem uintB_64 {x : Nat} (h : x < 18446744073709551616) : Dig 256 (uintB x) ∧ (uintB x).length ≤ 10 :=
  uintB_dig 9 x (by have : 18446744073709551616 ≤ 128 ^ (9 + 1) := by decide
                    omega)
def textB (t : List Nat) : List Nat := uintB t.length ++ t
/-- The sum over bytes. -/
def sumB (B : List Nat) : Nat := B.foldl (fun x c => (x ^^^ c) * 1099511628211 % 18446744073709551616) 14695981039346656037
theorem sumB_snoc (B : List Nat) (c : Nat) : sumB (B ++ [c]) = (sumB B ^^^ c) * 1099511628211 % 18446744073709551616 := by unfold sumB; rw [List.foldl_append, List.foldl_cons, List.foldl_nil]
theorem sumB_lt (B : List Nat) : sumB B < 18446744073709551616 := by
  rcases snoc_cases B with rfl | ⟨l, x, rfl⟩
  · decide
  · rw [sumB_snoc]; exact Nat.mod_lt _ (by omega)
/-- The first n of the eight bytes of a number, the highest first. -/
def top8 (x n : Nat) : List Nat := (List.range n).map fun i => x / 2 ^ (56 - 8 * i) % 256
theorem top8_succ (x n : Nat) : top8 x (n + 1) = top8 x n ++ [x / 2 ^ (56 - 8 * n) % 256] := by simp [top8, List.range_succ]
theorem top8_dig (x n : Nat) : Dig 256 (top8 x n) := by
  intro d hd
  obtain ⟨i, _, rfl⟩ := List.mem_map.1 hd
  exact Nat.mod_lt _ (by omega)
theorem Dig.append {b : Nat} {l m : List Nat} (hl : Dig b l) (hm : Dig b m) : Dig b (l ++ m) := by
  intro d hd
  rcases List.mem_append.1 hd with h | h
  · exact hl d h
  · exact hm d h
/-- The bytes of a pin, ahead of the sum; all of them. -/
def headB (key rev : Nat) (last : List Nat) : List Nat := uintB key ++ (uintB (2 * rev) ++ textB last)
def encB (key rev : Nat) (last : List Nat) : List Nat := headB key rev last ++ top8 (sumB (headB key rev last)) 8
/-- An id's bytes. -/
def idc (c : Nat) : Bool := (97 ≤ c && c ≤ 122) || (48 ≤ c && c ≤ 57) || (65 ≤ c && c ≤ 90) || c == 45 || c == 95 || c == 46 || c == 61 || c == 43 || c == 47 || c == 124 || c == 126
def IsId (s : ByteArray) : Prop := 1 ≤ s.size ∧ s.size ≤ 64 ∧ ∀ c ∈ nums s, idc c = true
/-- The pin may be. -/
def MayP (rev : Int) (s : ByteArray) : Prop := 0 ≤ rev ∧ rev ≤ 4611686018427387904 ∧ IsId s
/-- The text is the pin's cursor. -/
def IsCode (key rev : Int) (last s : ByteArray) : Prop := MayP rev last ∧ IsArm (encB key.toNat rev.toNat (nums last)) s
theorem enc_ok {key rev : Nat} {last : List Nat} (hk : key < 18446744073709551616) (hr : rev ≤ 4611686018427387904) (hl : Dig 256 last) (hn : last.length ≤ 64) : Dig 256 (encB key rev last) ∧ (headB key rev last).length ≤ 85 ∧ (encB key rev last).length ≤ 93 := by
  obtain ⟨a1, a2⟩ := uintB_64 hk
  obtain ⟨b1, b2⟩ := uintB_64 (show 2 * rev < 18446744073709551616 by omega)
  have hu : uintB last.length = [last.length] := uintB_lo (by omega)
  have h1 : Dig 256 (headB key rev last) := a1.append (b1.append (Dig.append (by rw [hu]; intro d hd; simp at hd; omega) hl))
  have h2 : (headB key rev last).length ≤ 85 := by
    simp only [headB, textB, hu, List.length_append, List.length_cons, List.length_nil]
    omega
  refine ⟨h1.append (top8_dig _ _), h2, ?_⟩
  simp only [encB, List.length_append]
  have : (top8 (sumB (headB key rev last)) 8).length = 8 := by simp [top8]
  omega
theorem IsCode.size {key rev : Int} {last s : ByteArray} (h : IsCode key rev last s) (hk : key < 18446744073709551616) : s.size ≤ 149 := by
  obtain ⟨⟨h1, h2, h3, h4, h5⟩, ha⟩ := h
  have := (enc_ok (key := key.toNat) (rev := rev.toNat) (by omega) (by omega) (nums_dig last) (by rw [nums_len]; exact h4)).2.2
  rw [ha.size]
  omega
end Go.Proofs.YtdbccemllaehjaaGa
