/- Plain words for PagesCodes: digits, letters of bytes, short forms of numbers. No program is in sight here. -/
import Derived.WalkKit
namespace Go.Proofs.YtdbccemllaehjaaGa
open Go.RowKit
set_option linter.unusedVariables false
set_option linter.unusedSimpArgs false

/-- The value of digits, the greatest first. -/
def val (b : Nat) (l : List Nat) : Nat := l.foldl (fun v d => v * b + d) 0
def Dig (b : Nat) (l : List Nat) : Prop := ∀ d ∈ l, d < b
theorem val_nil (b : Nat) : val b [] = 0 := rfl
theorem val_snoc (b : Nat) (l : List Nat) (d : Nat) : val b (l ++ [d]) = val b l * b + d := by simp [val, List.foldl_append]
theorem Dig.snoc {b : Nat} {l : List Nat} {d : Nat} (h : Dig b l) (hd : d < b) : Dig b (l ++ [d]) := by
  intro x hx
  rcases List.mem_append.1 hx with hx | hx
  · exact h x hx
  · simp at hx; omega
theorem Dig.init {b : Nat} {l : List Nat} {d : Nat} (h : Dig b (l ++ [d])) : Dig b l ∧ d < b :=
  ⟨fun x hx => h x (by simp [hx]), h d (by simp)⟩
theorem snoc_cases {α : Type} (l : List α) : l = [] ∨ ∃ l' x, l = l' ++ [x] := by
  rcases List.eq_nil_or_concat l with h | ⟨l', x, h⟩
  · exact .inl h
  · exact .inr ⟨l', x, by rw [h]; simp⟩
theorem val_lt {b : Nat} : ∀ (n : Nat) (l : List Nat), l.length = n → Dig b l → val b l < b ^ n
  | 0, l, hn, _ => by
    obtain rfl := List.eq_nil_of_length_eq_zero hn
    simp [val]
  | n + 1, l, hn, h => by
    rcases snoc_cases l with rfl | ⟨l', x, rfl⟩
    · simp at hn
    · have hn' : l'.length = n := by simpa using hn
      obtain ⟨h1, h2⟩ := h.init
      have := val_lt n l' hn' h1
      rw [val_snoc, Nat.pow_succ]
      have h3 : (val b l' + 1) * b ≤ b ^ n * b := Nat.mul_le_mul_right _ this
      rw [Nat.add_mul] at h3
      omega
theorem val_inj {b : Nat} : ∀ (n : Nat) (l m : List Nat), l.length = n → m.length = n → Dig b l → Dig b m → val b l = val b m → l = m
  | 0, l, m, hl, hm, _, _, _ => by rw [List.eq_nil_of_length_eq_zero hl, List.eq_nil_of_length_eq_zero hm]
  | n + 1, l, m, hl, hm, dl, dm, h => by
    rcases snoc_cases l with rfl | ⟨l', x, rfl⟩
    · simp at hl
    rcases snoc_cases m with rfl | ⟨m', y, rfl⟩
    · simp at hm
    obtain ⟨d1, hx⟩ := dl.init
    obtain ⟨d2, hy⟩ := dm.init
    rw [val_snoc, val_snoc] at h
    have hb : 0 < b := by omega
    have e1 : (val b l' * b + x) % b = x := by rw [Nat.mul_comm, Nat.mul_add_mod]; exact Nat.mod_eq_of_lt hx
    have e2 : (val b m' * b + y) % b = y := by rw [Nat.mul_comm, Nat.mul_add_mod]; exact Nat.mod_eq_of_lt hy
    have e3 : (val b l' * b + x) / b = val b l' := by rw [Nat.mul_comm, Nat.mul_add_div hb, Nat.div_eq_of_lt hx, Nat.add_zero]
    have e4 : (val b m' * b + y) / b = val b m' := by rw [Nat.mul_comm, Nat.mul_add_div hb, Nat.div_eq_of_lt hy, Nat.add_zero]
    have hxy : x = y := by rw [← e1, ← e2, h]
    have hv : val b l' = val b m' := by rw [← e3, ← e4, h]
    rw [hxy, val_inj n l' m' (by simpa using hl) (by simpa using hm) d1 d2 hv]
theorem val_append (b : Nat) (l m : List Nat) : val b (l ++ m) = val b l * b ^ m.length + val b m := by
  suffices H : ∀ n (m : List Nat), m.length = n → val b (l ++ m) = val b l * b ^ n + val b m from H _ m rfl
  intro n
  induction n with
  | zero => intro m hm; obtain rfl := List.eq_nil_of_length_eq_zero hm; simp [val_nil]
  | succ n ih =>
    intro m hm
    rcases snoc_cases m with rfl | ⟨m', y, rfl⟩
    · simp at hm
    · rw [← List.append_assoc, val_snoc, val_snoc, ih m' (by simpa using hm), Nat.pow_succ, Nat.add_mul, Nat.mul_assoc, Nat.add_assoc]

/-- The letters' numbers of bytes. -/
structure ArmD (B D : List Nat) : Prop where
  dig : Dig 32 D
  len : D.length = (8 * B.length + 4) / 5
  val : val 32 D = val 256 B * 2 ^ (5 * D.length - 8 * B.length)
theorem ArmD.unique {B D D' : List Nat} (h : ArmD B D) (h' : ArmD B D') : D = D' := by
  refine val_inj D.length D D' rfl (by rw [h.len, h'.len]) h.dig h'.dig ?_
  rw [h.val, h'.val, h.len, h'.len]

/-- Armor, while it writes: V is the value of the L bits that were taken in. -/
structure AS (V L : Nat) (out : List Nat) (held n : Nat) : Prop where
  dig : Dig 32 out
  len : L = 5 * out.length + n
  val : V = val 32 out * 2 ^ n + held % 2 ^ n
theorem AS.start : AS 0 0 [] 0 0 := ⟨by intro d hd; simp at hd, by simp, by simp [val_nil, Nat.mod_one]⟩
theorem AS.byte {V L : Nat} {out : List Nat} {held n c : Nat} (h : AS V L out held n) (hh : held < 2 ^ n) (hc : c < 256) : AS (V * 256 + c) (L + 8) out (held * 256 + c) (n + 8) ∧ held * 256 + c < 2 ^ (n + 8) := by
  have hlt : held * 256 + c < 2 ^ (n + 8) := by
    rw [Nat.pow_add]
    have : (held + 1) * 256 ≤ 2 ^ n * 256 := Nat.mul_le_mul_right _ hh
    omega
  refine ⟨⟨h.dig, by rw [h.len]; omega, ?_⟩, hlt⟩
  rw [Nat.mod_eq_of_lt hlt, h.val, Nat.mod_eq_of_lt hh, Nat.pow_add, Nat.add_mul, ← Nat.mul_assoc, Nat.add_assoc]
theorem AS.letter {V L : Nat} {out : List Nat} {held m : Nat} (h : AS V L out held (m + 5)) : AS V L (out ++ [held / 2 ^ m % 32]) held m := by
  refine ⟨h.dig.snoc (Nat.mod_lt _ (by omega)), by rw [h.len]; simp; omega, ?_⟩
  rw [val_snoc, h.val, Nat.pow_add, Nat.mod_mul, Nat.add_mul]
  have e1 : YtdbccemllaehjaaGa.val 32 out * (2 ^ m * 2 ^ 5) = YtdbccemllaehjaaGa.val 32 out * 32 * 2 ^ m := by rw [Nat.mul_comm (2 ^ m), ← Nat.mul_assoc]
  have e2 : 2 ^ m * (held / 2 ^ m % 2 ^ 5) = held / 2 ^ m % 32 * 2 ^ m := Nat.mul_comm _ _
  rw [e1, e2]
  omega
theorem AS.mask {V L : Nat} {out : List Nat} {held n : Nat} (h : AS V L out held n) : AS V L out (held % 2 ^ n) n :=
  ⟨h.dig, h.len, by rw [Nat.mod_mod]; exact h.val⟩
theorem AS.done {B : List Nat} {out : List Nat} {held : Nat} (h : AS (YtdbccemllaehjaaGa.val 256 B) (8 * B.length) out held 0) : ArmD B out := by
  have hl := h.len
  refine ⟨h.dig, by omega, ?_⟩
  have := h.val
  rw [this, show 5 * out.length - 8 * B.length = 0 by omega]
  simp [Nat.mod_one]
theorem AS.last {B : List Nat} {out : List Nat} {held n : Nat} (h : AS (YtdbccemllaehjaaGa.val 256 B) (8 * B.length) out held n) (hh : held < 2 ^ n) (h0 : 0 < n) (h5 : n < 5) : ArmD B (out ++ [held * 2 ^ (5 - n) % 32]) := by
  have hl := h.len
  have e32 : 2 ^ n * 2 ^ (5 - n) = 32 := by rw [← Nat.pow_add, show n + (5 - n) = 5 by omega]
  have hlt : held * 2 ^ (5 - n) < 32 := by
    rw [← e32]
    exact Nat.mul_lt_mul_of_pos_right hh (Nat.pow_pos (by omega))
  refine ⟨h.dig.snoc (Nat.mod_lt _ (by omega)), by simp; omega, ?_⟩
  have := h.val
  rw [val_snoc, this, Nat.mod_eq_of_lt hlt, Nat.mod_eq_of_lt hh]
  simp only [List.length_append, List.length_cons, List.length_nil]
  rw [show 5 * (out.length + (0 + 1)) - 8 * B.length = 5 - n by omega, Nat.add_mul, Nat.mul_assoc, e32]

/-- Unarmor, while it reads. -/
structure US (V L : Nat) (out : List Nat) (held n : Nat) : Prop where
  dig : Dig 256 out
  len : L = 8 * out.length + n
  val : V = YtdbccemllaehjaaGa.val 256 out * 2 ^ n + held
  lt : held < 2 ^ n
theorem US.start : US 0 0 [] 0 0 := ⟨by intro d hd; simp at hd, by simp, by simp [val_nil], by simp⟩
theorem US.letter {V L : Nat} {out : List Nat} {held n x : Nat} (h : US V L out held n) (hx : x < 32) : US (V * 32 + x) (L + 5) out (held * 32 + x) (n + 5) := by
  have hh := h.lt
  have hlt : held * 32 + x < 2 ^ (n + 5) := by
    rw [Nat.pow_add]
    have : (held + 1) * 32 ≤ 2 ^ n * 32 := Nat.mul_le_mul_right _ hh
    omega
  refine ⟨h.dig, by rw [h.len]; omega, ?_, hlt⟩
  have hv := h.val
  rw [hv, Nat.pow_add, Nat.add_mul, ← Nat.mul_assoc, Nat.add_assoc]
theorem US.byte {V L : Nat} {out : List Nat} {held m : Nat} (h : US V L out held (m + 8)) : US V L (out ++ [held / 2 ^ m]) (held % 2 ^ m) m ∧ held / 2 ^ m < 256 := by
  have hh := h.lt
  have hd : held / 2 ^ m < 256 := by
    rw [Nat.pow_add] at hh
    exact Nat.div_lt_of_lt_mul hh
  refine ⟨⟨h.dig.snoc hd, by rw [h.len]; simp; omega, ?_, Nat.mod_lt _ (Nat.pow_pos (by omega))⟩, hd⟩
  have hv := h.val
  rw [val_snoc, hv, Nat.pow_add, Nat.add_mul, Nat.add_assoc, Nat.mul_comm (held / 2 ^ m), Nat.div_add_mod]
  rw [Nat.mul_comm (2 ^ m), ← Nat.mul_assoc]
theorem US.done {B D out : List Nat} {held n : Nat} (hA : ArmD B D) (hB : Dig 256 B) (h : US (YtdbccemllaehjaaGa.val 32 D) (5 * D.length) out held n) (h8 : n < 8) : out = B ∧ n < 5 ∧ held = 0 := by
  have hl := h.len
  have hl2 := hA.len
  have ho : out.length = B.length := by omega
  have hn : 5 * D.length - 8 * B.length = n := by omega
  have hv := h.val
  have hv2 := hA.val
  rw [hn] at hv2
  have hpos : 0 < 2 ^ n := Nat.pow_pos (by omega)
  have hlt := h.lt
  rw [hv2] at hv
  have hmod : held = 0 := by
    have := congrArg (· % 2 ^ n) hv
    simp only [Nat.mul_mod_left] at this
    rw [Nat.mul_comm, Nat.mul_add_mod, Nat.mod_eq_of_lt hlt] at this
    exact this.symm
  subst hmod
  have heq : YtdbccemllaehjaaGa.val 256 B = YtdbccemllaehjaaGa.val 256 out := Nat.eq_of_mul_eq_mul_right hpos (by omega)
  exact ⟨val_inj _ out B rfl ho.symm h.dig hB heq.symm, by omega, rfl⟩
end Go.Proofs.YtdbccemllaehjaaGa
