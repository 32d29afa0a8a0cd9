/- The walks and the plain arithmetic for CheckBounds: both bounds of the program and both of the reference are the same numbers, for all numbers n and m of the kind int. No condition. -/
import Derived.Test.YtdbccemllaehjaaProg
import Derived.WalkKit
import Derived.Lib.Hide
import Derived.Deep.Draws
import Derived.Deep.QuietTactic
import Derived.BigQuiet
namespace Go.Proofs.Ytdbccemllaehjaa.CB
open Go.RowKit
set_option linter.unusedVariables false
def capd (a b : Int) : Int := if a > 4611686018427387904 / b then 4611686018427387904 else a * b
theorem capd_le {a b : Int} (hb : 1 ≤ b) (ha : 1 ≤ a) : 1 ≤ capd a b ∧ capd a b ≤ 4611686018427387904 := by
  unfold capd
  split
  · omega
  · rename_i h
    have h1 : a ≤ 4611686018427387904 / b := by omega
    have h2 : a * b ≤ 4611686018427387904 := by
      have := Int.mul_le_mul_of_nonneg_right h1 (by omega : 0 ≤ b)
      have h3 := Int.ediv_mul_le 4611686018427387904 (by omega : b ≠ 0)
      omega
    have h3 : 1 * 1 ≤ a * b := Int.mul_le_mul ha hb (by omega) (by omega)
    omega
theorem capd_big {a b : Int} (hb : 1 ≤ b) (h : 4611686018427387904 < a * b) : capd a b = 4611686018427387904 := by
  unfold capd
  rw [if_pos]
  have : 4611686018427387904 / b < a := Int.ediv_lt_of_lt_mul (by omega) h
  omega
theorem capd_small {a b : Int} (hb : 1 ≤ b) (h : a * b ≤ 4611686018427387904) : capd a b = a * b := by
  unfold capd
  rw [if_neg]
  have := Int.le_ediv_of_mul_le (by omega : 0 < b) h
  omega
/-- third power -/
theorem third_eq (n : Int) (hn : 0 ≤ n) :
    capd (capd (min n 1073741824 + 2) (min n 1073741824 + 2)) (min n 1073741824 + 2) =
    if min n 8388608 + 2 > 4194304 then 4611686018427387904 else capd (capd (min n 8388608 + 2) (min n 8388608 + 2)) (min n 8388608 + 2) := by
  split
  · rename_i h
    generalize hp : min n 1073741824 + 2 = p
    have h1 : 4194305 ≤ p := by omega
    have h2 : p ≤ 1073741826 := by omega
    have h3 : p * p ≤ 1073741826 * 1073741826 := Int.mul_le_mul h2 h2 (by omega) (by omega)
    have h4 : 4194305 * 4194305 ≤ p * p := Int.mul_le_mul h1 h1 (by omega) (by omega)
    rw [capd_small (a := p) (b := p) (by omega) (by omega)]
    apply capd_big (by omega)
    have h5 : 4194305 * 4194305 * 4194305 ≤ p * p * p := Int.mul_le_mul h4 h1 (by omega) (by omega)
    omega
  · rename_i h
    have : min n 1073741824 = min n 8388608 := by omega
    rw [this]
theorem capd_top {a : Int} (h : 2 ≤ a) : capd a 4611686018427387904 = 4611686018427387904 := by
  unfold capd; rw [if_pos]; omega
theorem capd_top' {b : Int} (h : 2 ≤ b) : capd 4611686018427387904 b = 4611686018427387904 := capd_big (by omega) (by omega)
theorem third_big (n : Int) (hn : 0 ≤ n) : 2 ≤ capd (capd (min n 1073741824 + 2) (min n 1073741824 + 2)) (min n 1073741824 + 2) := by
  rw [third_eq n hn]
  split
  · omega
  · rename_i h
    generalize hp : min n 8388608 + 2 = p
    have h1 : 2 ≤ p := by omega
    have h2 : p ≤ 4194304 := by omega
    have h3 : p * p ≤ 4194304 * 4194304 := Int.mul_le_mul h2 h2 (by omega) (by omega)
    have h4 : 2 * 2 ≤ p * p := Int.mul_le_mul h1 h1 (by omega) (by omega)
    rw [capd_small (a := p) (b := p) (by omega) (by omega)]
    have h5 : p * p * p ≤ 4194304 * 4194304 * 4194304 := Int.mul_le_mul h3 h2 (by omega) (by omega)
    have h6 : 2 * 2 * 2 ≤ p * p * p := Int.mul_le_mul h4 h1 (by omega) (by omega)
    unfold capd; split <;> omega

def pw (n : Int) : Int := capd (capd (min n 1073741824 + 2) (min n 1073741824 + 2)) (min n 1073741824 + 2)
theorem pw_le (n : Int) (h : 0 ≤ n) : 2 ≤ pw n ∧ pw n ≤ 4611686018427387904 := by
  refine ⟨third_big n h, ?_⟩
  have h1 := capd_le (a := min n 1073741824 + 2) (b := min n 1073741824 + 2) (by omega) (by omega)
  exact (capd_le (by omega) h1.1).2
theorem pw_top (m : Int) (h : 8388608 < m) : pw m = 4611686018427387904 := by
  unfold pw; rw [third_eq m (by omega), if_pos (by omega)]
def bd (n m : Int) : Int := if n < 0 ∨ m < 0 then 0 else capd (capd 16 (pw n)) (pw m)
def lbd (n m : Int) : Int := if n < 0 ∨ m < 0 then 0 else capd (bd n m) (min m 1099511627776 + 2)
theorem ret_int {k : IntKind} {a b : Int} (h : a = b) : Ending.returned (.int k a) = .returned (.int k b) := by rw [h]

theorem capped_calls (a b : Int) (ha : 1 ≤ a) (ha2 : a ≤ 4611686018427387904) (hb : 1 ≤ b) (hb2 : b ≤ 4611686018427387904) (w : World) :
    Calls Try.prog 53 #[.int .i64 a, .int .i64 b] w fun e w' => e = .returned (.int .i64 (capd a b)) ∧ w = w' := by
  have h0 : 0 ≤ 4611686018427387904 / b := Int.ediv_nonneg (by omega) (by omega)
  have h1 : 4611686018427387904 / b ≤ 4611686018427387904 := Int.ediv_le_self _ (by omega)
  have h2 : (b == 0) = false := by simp; omega
  have hc := capd_le hb ha
  by_cases h : a > 4611686018427387904 / b
  · have e : capd a b = 4611686018427387904 := if_pos h
    have E := Lib.hid e
    clear e
    go_enter Try.func53, Try.ntmps53
    go_wp2
    go_ret
    exact ⟨ret_int E.out.symm, rfl⟩
  · have e : capd a b = a * b := if_neg h
    have hlo : 0 ≤ a * b := by omega
    have hhi : a * b ≤ 4611686018427387904 := by omega
    have E := Lib.hid e
    clear e
    go_enter Try.func53, Try.ntmps53
    go_wp2
    go_ret
    exact ⟨ret_int E.out.symm, rfl⟩

theorem capped_r (a b : Int) (ha : 1 ≤ a) (ha2 : a ≤ 4611686018427387904) (hb : 1 ≤ b) (hb2 : b ≤ 4611686018427387904) (w : World) :
    Calls Try.prog 55 #[.int .i64 a, .int .i64 b] w fun e w' => e = .returned (.int .i64 (capd a b)) ∧ w = w' := by
  have h0 : 0 ≤ 4611686018427387904 / b := Int.ediv_nonneg (by omega) (by omega)
  have h1 : 4611686018427387904 / b ≤ 4611686018427387904 := Int.ediv_le_self _ (by omega)
  have h2 : (b == 0) = false := by simp; omega
  have hc := capd_le hb ha
  by_cases h : a > 4611686018427387904 / b
  · have e : capd a b = 4611686018427387904 := if_pos h
    have E := Lib.hid e
    clear e
    go_enter Try.func55, Try.ntmps55
    go_wp2
    go_ret
    exact ⟨ret_int E.out.symm, rfl⟩
  · have e : capd a b = a * b := if_neg h
    have hlo : 0 ≤ a * b := by omega
    have hhi : a * b ≤ 4611686018427387904 := by omega
    have E := Lib.hid e
    clear e
    go_enter Try.func55, Try.ntmps55
    go_wp2
    go_ret
    exact ⟨ret_int E.out.symm, rfl⟩


theorem capped_any (a b : Int) (ha : 1 ≤ a ∧ a ≤ 4611686018427387904) (hb : 1 ≤ b ∧ b ≤ 4611686018427387904) (w : World) :
    Calls Try.prog 53 #[.int .i64 a, .int .i64 b] w fun e w' => e = .returned (.int .i64 (capd a b)) ∧ w = w' := capped_calls a b ha.1 ha.2 hb.1 hb.2 w
theorem capped_anyr (a b : Int) (ha : 1 ≤ a ∧ a ≤ 4611686018427387904) (hb : 1 ≤ b ∧ b ≤ 4611686018427387904) (w : World) :
    Calls Try.prog 55 #[.int .i64 a, .int .i64 b] w fun e w' => e = .returned (.int .i64 (capd a b)) ∧ w = w' := capped_r a b ha.1 ha.2 hb.1 hb.2 w
theorem capd_in {a b : Int} (ha : 1 ≤ a ∧ a ≤ 4611686018427387904) (hb : 1 ≤ b ∧ b ≤ 4611686018427387904) : 1 ≤ capd a b ∧ capd a b ≤ 4611686018427387904 := capd_le hb.1 ha.1
theorem pw_in (n : Int) (h : 0 ≤ n) : 1 ≤ pw n ∧ pw n ≤ 4611686018427387904 := by have := pw_le n h; omega

theorem power_calls (n : Int) (hn : 0 ≤ n) (hn2 : n ≤ 9223372036854775807) (w : World) :
    Calls Try.prog 54 #[.int .i64 n] w fun e w' => e = .returned (.int .i64 (pw n)) ∧ w = w' := by
  have E : Hid (pw n = capd (capd (min n 1073741824 + 2) (min n 1073741824 + 2)) (min n 1073741824 + 2)) := rfl
  by_cases h : n ≤ 1073741824
  · rw [show min n 1073741824 = n from by omega] at E
    have h0 : 1 ≤ n + 2 ∧ n + 2 ≤ 4611686018427387904 := by omega
    go_enter Try.func54, Try.ntmps54
    go_wp2_with fail
    refine (capped_any _ _ h0 h0 _).mono ?_
    rintro e w' ⟨rfl, rfl⟩
    go_wp2_with fail
    refine (capped_any _ _ (capd_in h0 h0) h0 _).mono ?_
    rintro e w' ⟨rfl, rfl⟩
    go_wp2_with fail
    go_ret
    exact ⟨ret_int E.out.symm, rfl⟩
  · rw [show min n 1073741824 = 1073741824 from by omega] at E
    have h0 : (1 : Int) ≤ 1073741826 ∧ (1073741826 : Int) ≤ 4611686018427387904 := by omega
    go_enter Try.func54, Try.ntmps54
    go_wp2_with fail
    refine (capped_any _ _ h0 h0 _).mono ?_
    rintro e w' ⟨rfl, rfl⟩
    go_wp2_with fail
    refine (capped_any _ _ (capd_in h0 h0) h0 _).mono ?_
    rintro e w' ⟨rfl, rfl⟩
    go_wp2_with fail
    go_ret
    exact ⟨ret_int E.out.symm, rfl⟩

def mor (n : Int) : Int := min n 8388608 + 2
def thr (q : Int) : Int := if q > 4194304 then 4611686018427387904 else capd (capd q q) q
theorem thr_pw (n : Int) (h : 0 ≤ n) : thr (mor n) = pw n := (third_eq n h).symm

theorem more_calls (n : Int) (hn : 0 ≤ n) (hn2 : n ≤ 9223372036854775807) (w : World) :
    Calls Try.prog 57 #[.int .i64 n] w fun e w' => e = .returned (.int .i64 (mor n)) ∧ w = w' := by
  have E : Hid (mor n = min n 8388608 + 2) := rfl
  by_cases h : n ≤ 8388608
  · rw [show min n 8388608 = n from by omega] at E
    go_enter Try.func57, Try.ntmps57
    go_wp2
    go_ret
    exact ⟨ret_int E.out.symm, rfl⟩
  · rw [show min n 8388608 = 8388608 from by omega] at E
    go_enter Try.func57, Try.ntmps57
    go_wp2
    go_ret
    exact ⟨ret_int E.out.symm, rfl⟩

theorem third_calls (q : Int) (hn : 1 ≤ q ∧ q ≤ 4611686018427387904) (w : World) :
    Calls Try.prog 56 #[.int .i64 q] w fun e w' => e = .returned (.int .i64 (thr q)) ∧ w = w' := by
  by_cases h : q > 4194304
  · have E : Hid (thr q = 4611686018427387904) := if_pos h
    go_enter Try.func56, Try.ntmps56
    go_wp2
    go_ret
    exact ⟨ret_int E.out.symm, rfl⟩
  · have E : Hid (thr q = capd (capd q q) q) := if_neg h
    go_enter Try.func56, Try.ntmps56
    go_wp2_with fail
    refine (capped_anyr _ _ hn hn _).mono ?_
    rintro e w' ⟨rfl, rfl⟩
    go_wp2_with fail
    refine (capped_anyr _ _ (capd_in hn hn) hn _).mono ?_
    rintro e w' ⟨rfl, rfl⟩
    go_wp2_with fail
    go_ret
    exact ⟨ret_int E.out.symm, rfl⟩

theorem bound_calls (n m : Int) (hn1 : -9223372036854775808 ≤ n) (hn2 : n ≤ 9223372036854775807) (hm1 : -9223372036854775808 ≤ m) (hm2 : m ≤ 9223372036854775807) (w : World) :
    Calls Try.prog 15 #[.int .i64 n, .int .i64 m] w fun e w' => e = .returned (.int .i64 (bd n m)) ∧ w = w' := by
  by_cases h1 : n < 0
  · have E : Hid (bd n m = 0) := if_pos (.inl h1)
    go_enter Try.func15, Try.ntmps15
    go_wp2
    go_ret
    exact ⟨ret_int E.out.symm, rfl⟩
  by_cases h2 : m < 0
  · have E : Hid (bd n m = 0) := if_pos (.inr h2)
    go_enter Try.func15, Try.ntmps15
    go_wp2
    go_ret
    exact ⟨ret_int E.out.symm, rfl⟩
  have E : Hid (bd n m = capd (capd 16 (pw n)) (pw m)) := if_neg (by omega)
  have h3 : (1 : Int) ≤ 16 ∧ (16 : Int) ≤ 4611686018427387904 := by omega
  have h4 := pw_in n (by omega)
  have h5 := pw_in m (by omega)
  go_enter Try.func15, Try.ntmps15
  go_wp2_with fail
  refine (power_calls _ (by omega) (by omega) _).mono ?_
  rintro e w' ⟨rfl, rfl⟩
  go_wp2_with fail
  refine (capped_any _ _ h3 h4 _).mono ?_
  rintro e w' ⟨rfl, rfl⟩
  go_wp2_with fail
  refine (power_calls _ (by omega) (by omega) _).mono ?_
  rintro e w' ⟨rfl, rfl⟩
  go_wp2_with fail
  refine (capped_any _ _ (capd_in h3 h4) h5 _).mono ?_
  rintro e w' ⟨rfl, rfl⟩
  go_wp2_with fail
  go_ret
  exact ⟨ret_int E.out.symm, rfl⟩

theorem mor_in (n : Int) (h : 0 ≤ n) : 1 ≤ mor n ∧ mor n ≤ 4611686018427387904 := by unfold mor; omega
theorem thr_in (n : Int) (h : 0 ≤ n) : 1 ≤ thr (mor n) ∧ thr (mor n) ≤ 4611686018427387904 := by rw [thr_pw n h]; exact pw_in n h
theorem bound_callsr (n m : Int) (hn1 : -9223372036854775808 ≤ n) (hn2 : n ≤ 9223372036854775807) (hm1 : -9223372036854775808 ≤ m) (hm2 : m ≤ 9223372036854775807) (w : World) :
    Calls Try.prog 16 #[.int .i64 n, .int .i64 m] w fun e w' => e = .returned (.int .i64 (bd n m)) ∧ w = w' := by
  by_cases h1 : n < 0
  · have E : Hid (bd n m = 0) := if_pos (.inl h1)
    go_enter Try.func16, Try.ntmps16
    go_wp2
    go_ret
    exact ⟨ret_int E.out.symm, rfl⟩
  by_cases h2 : m < 0
  · have E : Hid (bd n m = 0) := if_pos (.inr h2)
    go_enter Try.func16, Try.ntmps16
    go_wp2
    go_ret
    exact ⟨ret_int E.out.symm, rfl⟩
  have E : Hid (bd n m = capd (capd 16 (thr (mor n))) (thr (mor m))) := by
    show bd n m = _
    rw [thr_pw n (by omega), thr_pw m (by omega)]
    exact if_neg (by omega)
  have h3 : (1 : Int) ≤ 16 ∧ (16 : Int) ≤ 4611686018427387904 := by omega
  have h4 := thr_in n (by omega)
  have h5 := thr_in m (by omega)
  have h6 := mor_in n (by omega)
  have h7 := mor_in m (by omega)
  go_enter Try.func16, Try.ntmps16
  go_wp2_with fail
  refine (more_calls _ (by omega) (by omega) _).mono ?_
  rintro e w' ⟨rfl, rfl⟩
  go_wp2_with fail
  refine (third_calls _ h6 _).mono ?_
  rintro e w' ⟨rfl, rfl⟩
  go_wp2_with fail
  refine (capped_anyr _ _ h3 h4 _).mono ?_
  rintro e w' ⟨rfl, rfl⟩
  go_wp2_with fail
  refine (more_calls _ (by omega) (by omega) _).mono ?_
  rintro e w' ⟨rfl, rfl⟩
  go_wp2_with fail
  refine (third_calls _ h7 _).mono ?_
  rintro e w' ⟨rfl, rfl⟩
  go_wp2_with fail
  refine (capped_anyr _ _ (capd_in h3 h4) h5 _).mono ?_
  rintro e w' ⟨rfl, rfl⟩
  go_wp2_with fail
  go_ret
  exact ⟨ret_int E.out.symm, rfl⟩

theorem bd_in (n m : Int) (hn : ¬ n < 0) (hm : ¬ m < 0) : 1 ≤ bd n m ∧ bd n m ≤ 4611686018427387904 := by
  unfold bd
  rw [if_neg (by omega)]
  exact capd_in (capd_in (by omega) (pw_in n (by omega))) (pw_in m (by omega))
theorem lbound_calls (n m : Int) (hn1 : -9223372036854775808 ≤ n) (hn2 : n ≤ 9223372036854775807) (hm1 : -9223372036854775808 ≤ m) (hm2 : m ≤ 9223372036854775807) (w : World) :
    Calls Try.prog 17 #[.int .i64 n, .int .i64 m] w fun e w' => e = .returned (.int .i64 (lbd n m)) ∧ w = w' := by
  by_cases h1 : n < 0
  · have E : Hid (lbd n m = 0) := if_pos (.inl h1)
    go_enter Try.func17, Try.ntmps17
    go_wp2
    go_ret
    exact ⟨ret_int E.out.symm, rfl⟩
  by_cases h2 : m < 0
  · have E : Hid (lbd n m = 0) := if_pos (.inr h2)
    go_enter Try.func17, Try.ntmps17
    go_wp2
    go_ret
    exact ⟨ret_int E.out.symm, rfl⟩
  have hb := bd_in n m h1 h2
  have E : Hid (lbd n m = capd (bd n m) (min m 1099511627776 + 2)) := if_neg (by omega)
  by_cases h3 : m ≤ 1099511627776
  · rw [show min m 1099511627776 = m from by omega] at E
    have h0 : 1 ≤ m + 2 ∧ m + 2 ≤ 4611686018427387904 := by omega
    go_enter Try.func17, Try.ntmps17
    go_wp2_with fail
    refine (bound_calls _ _ hn1 hn2 hm1 hm2 _).mono ?_
    rintro e w' ⟨rfl, rfl⟩
    go_wp2_with fail
    refine (capped_any _ _ hb h0 _).mono ?_
    rintro e w' ⟨rfl, rfl⟩
    go_wp2_with fail
    go_ret
    exact ⟨ret_int E.out.symm, rfl⟩
  · rw [show min m 1099511627776 = 1099511627776 from by omega] at E
    have h0 : (1 : Int) ≤ 1099511627778 ∧ (1099511627778 : Int) ≤ 4611686018427387904 := by omega
    go_enter Try.func17, Try.ntmps17
    go_wp2_with fail
    refine (bound_calls _ _ hn1 hn2 hm1 hm2 _).mono ?_
    rintro e w' ⟨rfl, rfl⟩
    go_wp2_with fail
    refine (capped_any _ _ hb h0 _).mono ?_
    rintro e w' ⟨rfl, rfl⟩
    go_wp2_with fail
    go_ret
    exact ⟨ret_int E.out.symm, rfl⟩

theorem lbd_top (n m : Int) (hn : 0 ≤ n) (h : 8388608 < m) : lbd n m = 4611686018427387904 := by
  have a1 := pw_le n hn
  have a5 : 2 ≤ capd 16 (pw n) := by unfold capd; split <;> omega
  unfold lbd bd
  rw [if_neg (by omega), if_neg (by omega), pw_top m h, capd_top a5, capd_top' (by omega)]
theorem lbound_callsr (n m : Int) (hn1 : -9223372036854775808 ≤ n) (hn2 : n ≤ 9223372036854775807) (hm1 : -9223372036854775808 ≤ m) (hm2 : m ≤ 9223372036854775807) (w : World) :
    Calls Try.prog 18 #[.int .i64 n, .int .i64 m] w fun e w' => e = .returned (.int .i64 (lbd n m)) ∧ w = w' := by
  by_cases h1 : n < 0
  · have E : Hid (lbd n m = 0) := if_pos (.inl h1)
    go_enter Try.func18, Try.ntmps18
    go_wp2
    go_ret
    exact ⟨ret_int E.out.symm, rfl⟩
  by_cases h2 : m < 0
  · have E : Hid (lbd n m = 0) := if_pos (.inr h2)
    go_enter Try.func18, Try.ntmps18
    go_wp2
    go_ret
    exact ⟨ret_int E.out.symm, rfl⟩
  by_cases h3 : m > 8388608
  · have E : Hid (lbd n m = 4611686018427387904) := lbd_top n m (by omega) h3
    go_enter Try.func18, Try.ntmps18
    go_wp2
    go_ret
    exact ⟨ret_int E.out.symm, rfl⟩
  have hb := bd_in n m h1 h2
  have E : Hid (lbd n m = capd (bd n m) (min m 1099511627776 + 2)) := if_neg (by omega)
  rw [show min m 1099511627776 = m from by omega] at E
  have h0 : 1 ≤ m + 2 ∧ m + 2 ≤ 4611686018427387904 := by omega
  go_enter Try.func18, Try.ntmps18
  go_wp2_with fail
  refine (bound_callsr _ _ hn1 hn2 hm1 hm2 _).mono ?_
  rintro e w' ⟨rfl, rfl⟩
  go_wp2_with fail
  refine (capped_anyr _ _ hb h0 _).mono ?_
  rintro e w' ⟨rfl, rfl⟩
  go_wp2_with fail
  go_ret
  exact ⟨ret_int E.out.symm, rfl⟩

theorem at00 : bd 0 0 = 1024 := by decide +kernel
theorem at12 : lbd 1 2 = 110592 := by decide +kernel
theorem law_calls (n m : Int) (hn1 : -9223372036854775808 ≤ n) (hn2 : n ≤ 9223372036854775807) (hm1 : -9223372036854775808 ≤ m) (hm2 : m ≤ 9223372036854775807) (w : World) :
    Calls Try.prog 4 #[.int .i64 n, .int .i64 m] w fun e w' => e = .returned (.bool true) ∧ w = w' := by
  go_enter Try.func4, Try.ntmps4
  go_wp2_with fail
  refine (bound_calls _ _ hn1 hn2 hm1 hm2 _).mono ?_
  rintro e w' ⟨rfl, rfl⟩
  go_wp2_with fail
  refine (bound_callsr _ _ hn1 hn2 hm1 hm2 _).mono ?_
  rintro e w' ⟨rfl, rfl⟩
  go_wp2_with fail
  refine (lbound_calls _ _ hn1 hn2 hm1 hm2 _).mono ?_
  rintro e w' ⟨rfl, rfl⟩
  go_wp2_with fail
  refine (lbound_callsr _ _ hn1 hn2 hm1 hm2 _).mono ?_
  rintro e w' ⟨rfl, rfl⟩
  go_wp2_with fail
  refine (bound_calls _ _ (by omega) (by omega) (by omega) (by omega) _).mono ?_
  rintro e w' ⟨rfl, rfl⟩
  rw [at00]
  go_wp2_with fail
  refine (lbound_calls _ _ (by omega) (by omega) (by omega) (by omega) _).mono ?_
  rintro e w' ⟨rfl, rfl⟩
  rw [at12]
  go_wp2_with fail
  go_ret
  exact ⟨rfl, rfl⟩
end Go.Proofs.Ytdbccemllaehjaa.CB
