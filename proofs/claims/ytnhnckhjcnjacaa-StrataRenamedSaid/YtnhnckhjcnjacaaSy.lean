/- Strata: the walk of the rings. -/
import Derived.Test.YtnhnckhjcnjacaaSr
import Derived.Laws.EntriesVeiled
namespace Go.Proofs.Ytnhnckhjcnjacaa.ST
open Go.RowKit Go.Proofs.YtnhnckhjcnjacaaKw Go.Proofs.YtnhnckhjcnjacaaSg Go.Proofs.YtnhnckhjcnjacaaSw
set_option linter.unusedVariables false
set_option linter.unusedSimpArgs false

theorem cell_al {X : World} {o : Obj} {a : Addr} {v : Value} (h : a.block < X.heap.size) (hc : X.cell? a = some v) : (X.alloc o).cell? a = some v := (World.cell?_alloc_lt X o a h).trans hc
theorem cell_st {X : World} {b : Addr} {u : Value} {a : Addr} {v : Value} (h : a.block ≠ b.block) (hc : X.cell? a = some v) : (X.setCell b u).cell? a = some v := (World.cell?_setCell_other X _ _ _ (fun e => h (by rw [e]))).trans hc
theorem cell_dr {X : World} {a : Addr} {v : Value} (hc : X.cell? a = some v) : X.drew.cell? a = some v := hc
/-- What the rings leave. -/
def RingsPost (w0 : World) (g : Nat → List AI) (n : Nat) (e : Ending) (w' : World) : Prop :=
  ∃ hb, e = .returned (.slice (some ⟨hb, 0, none⟩) n n) ∧ w0.heap.size ≤ hb ∧ Arr (Value.int .i64) 3 w' hb n (ringsF (tos g) n n).head ∧ Below w0.heap.size w0 w'
set_option maxHeartbeats 16000000 in
set_option maxRecDepth 100000 in
theorem rings_calls (ob base n gb : Nat) (g : Nat → List AI) (w0 : World) (hG : GraphI w0 gb ob base n g) :
    Calls Try.prog 41 #[ptr gb] w0 (RingsPost w0 g n) := by
  have hc0 := hG.rep.c0
  have hsm := hG.small
  have hgl := World.block_lt_of_cell? w0 _ hc0
  have HG := Lib.hid hG
  clear hG
  go_enter Try.func41, Try.ntmps41
  go_wp2_with fail
  have hnew := heap_alloc_new w0 (.cells #[ptr gb] 49)
  have hx0 : (w0.alloc (.cells #[ptr gb] 49)).cell? ⟨w0.heap.size, 0, none⟩ = some (ptr gb) := by simp only [World.cell?, hnew]; rfl
  have hx1 : (w0.alloc (.cells #[ptr gb] 49)).cell? ⟨gb, 0, none⟩ = some (.int .i64 n) := (World.cell?_alloc_lt w0 _ _ hgl).trans hc0
  clear hnew
  have hWs : (w0.alloc (.cells #[ptr gb] 49)).heap.size = w0.heap.size + 1 := by simp
  generalize hW : w0.alloc (.cells #[ptr gb] 49) = W at *
  have HW := Lib.hid hW
  clear hW
  have hmk := run_mk n (by omega)
  generalize hzo : zrow n = zo at *
  have HZ := Lib.hid hzo
  clear hzo
  go_upto_region 1 with fail
  go_cut [3, 4] (fun s3 s4 wx => TwoArr W n s3 s4 wx)
  case first =>
    go_region_held3 (fun w' => w'.cell? ⟨w0.heap.size, 0, none⟩ = some (ptr gb) ∧ w'.cell? ⟨gb, 0, none⟩ = some (.int .i64 n)) (refine ⟨?_, ?_⟩ <;> repeat (first | exact hx0 | exact hx1 | refine cell_dr ?_ | refine cell_al (by simp; omega) ?_ | refine cell_st (by simp; omega) ?_)) (fail)
    all_goals
      go_wp2_with fail
      go_meet
      first | exact two_arr HZ.out hWs 0 1 2 3 (by decide) (by decide) (by decide) (by decide) (by decide) rfl rfl rfl rfl | exact two_arr HZ.out hWs 0 1 3 2 (by decide) (by decide) (by decide) (by decide) (by decide) rfl rfl rfl rfl | exact two_arr HZ.out hWs 0 2 1 3 (by decide) (by decide) (by decide) (by decide) (by decide) rfl rfl rfl rfl | exact two_arr HZ.out hWs 0 2 3 1 (by decide) (by decide) (by decide) (by decide) (by decide) rfl rfl rfl rfl | exact two_arr HZ.out hWs 0 3 1 2 (by decide) (by decide) (by decide) (by decide) (by decide) rfl rfl rfl rfl | exact two_arr HZ.out hWs 0 3 2 1 (by decide) (by decide) (by decide) (by decide) (by decide) rfl rfl rfl rfl | exact two_arr HZ.out hWs 1 0 2 3 (by decide) (by decide) (by decide) (by decide) (by decide) rfl rfl rfl rfl | exact two_arr HZ.out hWs 1 0 3 2 (by decide) (by decide) (by decide) (by decide) (by decide) rfl rfl rfl rfl | exact two_arr HZ.out hWs 1 2 0 3 (by decide) (by decide) (by decide) (by decide) (by decide) rfl rfl rfl rfl | exact two_arr HZ.out hWs 1 2 3 0 (by decide) (by decide) (by decide) (by decide) (by decide) rfl rfl rfl rfl | exact two_arr HZ.out hWs 1 3 0 2 (by decide) (by decide) (by decide) (by decide) (by decide) rfl rfl rfl rfl | exact two_arr HZ.out hWs 1 3 2 0 (by decide) (by decide) (by decide) (by decide) (by decide) rfl rfl rfl rfl | exact two_arr HZ.out hWs 2 0 1 3 (by decide) (by decide) (by decide) (by decide) (by decide) rfl rfl rfl rfl | exact two_arr HZ.out hWs 2 0 3 1 (by decide) (by decide) (by decide) (by decide) (by decide) rfl rfl rfl rfl | exact two_arr HZ.out hWs 2 1 0 3 (by decide) (by decide) (by decide) (by decide) (by decide) rfl rfl rfl rfl | exact two_arr HZ.out hWs 2 1 3 0 (by decide) (by decide) (by decide) (by decide) (by decide) rfl rfl rfl rfl | exact two_arr HZ.out hWs 2 3 0 1 (by decide) (by decide) (by decide) (by decide) (by decide) rfl rfl rfl rfl | exact two_arr HZ.out hWs 2 3 1 0 (by decide) (by decide) (by decide) (by decide) (by decide) rfl rfl rfl rfl | exact two_arr HZ.out hWs 3 0 1 2 (by decide) (by decide) (by decide) (by decide) (by decide) rfl rfl rfl rfl | exact two_arr HZ.out hWs 3 0 2 1 (by decide) (by decide) (by decide) (by decide) (by decide) rfl rfl rfl rfl | exact two_arr HZ.out hWs 3 1 0 2 (by decide) (by decide) (by decide) (by decide) (by decide) rfl rfl rfl rfl | exact two_arr HZ.out hWs 3 1 2 0 (by decide) (by decide) (by decide) (by decide) (by decide) rfl rfl rfl rfl | exact two_arr HZ.out hWs 3 2 0 1 (by decide) (by decide) (by decide) (by decide) (by decide) rfl rfl rfl rfl | exact two_arr HZ.out hWs 3 2 1 0 (by decide) (by decide) (by decide) (by decide) (by decide) rfl rfl rfl rfl
  case rest =>
    obtain ⟨xl, xs, lb, sb, rfl, rfl, hnd, hlo, hc3, hc4, hz1, hz2, hb⟩ := hcut
    have hst := start_rep (w0 := w0) (n := n) (gb := gb) (by omega) HW.out.symm hnd hlo hc3 hc4 hz1 hz2 hb
    have hy0 := (hb.cell (p := ⟨w0.heap.size, 0, none⟩) (by simp; omega)).trans hx0
    have hy1 := (hb.cell (p := ⟨gb, 0, none⟩) (by simp; omega)).trans hx1
    have hbs := hb.size
    have HS := Lib.hid hst
    clear hst hnd hlo hc3 hc4 hz1 hz2 hb hx0 hx1
    go_upto_region 9 with fail
    generalize hWf : ((((((wc.alloc zo).alloc (.cells #[.slice (some ⟨wc.heap.size, 0, none⟩) n n] 26)).alloc (.cells #[.slice none 0 0] 26)).alloc (.cells #[.int .i64 0] 3)).alloc (.cells #[.func (.func 46) #[] #[ptr (wc.heap.size + 1 + 1 + 1), ptr xs, ptr xl, ptr (wc.heap.size + 1 + 1)]] 63)).alloc (.cells #[.func (.func 47) #[] #[ptr (wc.heap.size + 1 + 1), ptr (wc.heap.size + 1), ptr w0.heap.size, ptr xl]] 63)).alloc (.cells #[.func (.func 49) #[] #[ptr (wc.heap.size + 1 + 1 + 1 + 1), ptr w0.heap.size, ptr xs, ptr (wc.heap.size + 1 + 1 + 1 + 1 + 1 + 1), ptr xl, ptr (wc.heap.size + 1 + 1 + 1 + 1 + 1)]] 63) = Wf at *
    have HR : Hid (RepT w0 Wf ⟨n, gb, w0.heap.size, xl, xs, wc.heap.size + 1, wc.heap.size + 1 + 1, wc.heap.size + 1 + 1 + 1, wc.heap.size + 1 + 1 + 1 + 1, wc.heap.size + 1 + 1 + 1 + 1 + 1, wc.heap.size + 1 + 1 + 1 + 1 + 1 + 1, lb, sb, wc.heap.size⟩ zeroS) := Lib.hid (by rw [← hWf, ← HZ.out]; exact HS.out)
    clear hWf HS hy0 hy1 hmk
    generalize wc.heap.size + 1 + 1 + 1 + 1 + 1 + 1 = xv at *
    generalize wc.heap.size + 1 + 1 + 1 + 1 + 1 = xo at *
    generalize wc.heap.size + 1 + 1 + 1 + 1 = xp at *
    generalize wc.heap.size + 1 + 1 + 1 = xt at *
    generalize wc.heap.size + 1 + 1 = xk at *
    generalize wc.heap.size + 1 = xh at *
    generalize wc.heap.size = hbk at *
    have kxg := HR.out.xg
    have kgn := (HR.out.below.cell (p := ⟨gb, 0, none⟩) hgl).trans hc0
    have hlo := HR.out.lo hbk (by simp [Fr.all])
    have HR0 : Hid (RepT w0 Wf ⟨n, gb, w0.heap.size, xl, xs, xh, xk, xt, xp, xo, xv, lb, sb, hbk⟩ (ringsF (tos g) n 0)) := Lib.hid HR.out
    clear HR
    go_wp2_with fail
    clear kxg kgn
    go_loopw [34] (fun i wr => ∃ k : Nat, k ≤ n ∧ i = .int .i64 k ∧ RepT w0 wr ⟨n, gb, w0.heap.size, xl, xs, xh, xk, xt, xp, xo, xv, lb, sb, hbk⟩ (ringsF (tos g) n k)) (fun i _ => n - (intOf i).toNat)
    case atStart => exact ⟨0, Nat.zero_le _, rfl, HR0.out⟩
    case round =>
      clear HR0
      obtain ⟨k, hk, rfl, hR⟩ := hrel
      by_cases hlt : k < n
      · have k1 := hR.xseen
        have k2 := hR.seen.cell hlt
        have k3 := hR.xvisit
        have hsucc := ringsF_succ (tos g) n k
        have hLt := ringsF_lt (tos g) n (tos_lt HG.out) k hk
        have HR := Lib.hid (And.intro hR hLt)
        clear hR hLt
        by_cases hs0 : (ringsF (tos g) n k).seen k = 0
        · rw [if_pos hs0] at hsucc
          have HE := Lib.hid hsucc
          have HS0 := Lib.hid hs0
          have k4 : wr.cell? ⟨sb, k, none⟩ = some (.int .i64 0) := by rw [← hs0]; exact k2
          clear k2 hsucc hs0
          go_wp2_with fail
          refine (visit_calls w0 ⟨n, gb, w0.heap.size, xl, xs, xh, xk, xt, xp, xo, xv, lb, sb, hbk⟩ ob base g HG.out n k (ringsF (tos g) n k) wr HR.out.1 HR.out.2 hlt HS0.out (unseen_n n _)).mono ?_
          rintro e w2 ⟨rfl, hR2, _⟩
          rw [← HE.out] at hR2
          go_wp2_with fail
          go_roundw
          case rel => exact ⟨k + 1, by omega, by go_num, hR2⟩
          case measure => simp [intOf]; omega
        · rw [if_neg hs0] at hsucc
          have HE := Lib.hid hsucc
          have hne0 : ((ringsF (tos g) n k).seen k == 0) = false := by simpa using hs0
          clear hsucc hs0
          go_wp2_with fail
          go_roundw
          case rel => exact ⟨k + 1, by omega, by go_num, by rw [HE.out]; exact HR.out.1⟩
          case measure => simp [intOf]; omega
      · have hkn : k = n := by omega
        have k1 := hR.xhead
        have hh := hR.head
        have hbw := hR.below
        rw [hkn] at hh
        have HH := Lib.hid hh
        clear hR hkn hh
        go_wp2_with fail
        go_ret
        exact ⟨hbk, rfl, hlo, HH.out, hbw⟩
end Go.Proofs.Ytnhnckhjcnjacaa.ST
