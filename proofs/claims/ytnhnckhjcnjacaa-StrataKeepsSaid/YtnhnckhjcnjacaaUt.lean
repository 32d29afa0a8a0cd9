/- ApartInts: rows that lie apart are told so. -/
import Derived.Test.YtnhnckhjcnjacaaKwAp3
import Derived.Test.YtnhnckhjcnjacaaSa
import Derived.Test.YtnhnckhjcnjacaaKwRd
import Derived.Lib.Hide
import Derived.IntWalk
namespace Go.Proofs.Ytnhnckhjcnjacaa.AP
open Go.RowKit Go.Proofs.YtnhnckhjcnjacaaKw Go.Proofs.YtnhnckhjcnjacaaKw.Ap
set_option linter.unusedVariables false
set_option linter.unusedSimpArgs false

theorem mark_calls (k i : Nat) (hk : k ≤ 1000) (hi : i ≤ 1152921504606846976) (w : World) :
    Calls Try.prog 33 #[.int .i64 k, .int .i64 i] w fun e w' => e = .returned (.int .i64 (mk k i)) ∧ w = w' := by
  have h1 : IntKind.i64.wrap ((k : Int) + 7) = (k : Int) + 7 := IntWalk.i64_in _ (by omega)
  have h2 : IntKind.i64.wrap (1000003 * ((k : Int) + 7)) = 1000003 * ((k : Int) + 7) := IntWalk.i64_in _ (by omega)
  have h3 : IntKind.i64.wrap (1000003 * ((k : Int) + 7) + i) = 1000003 * ((k : Int) + 7) + i := IntWalk.i64_in _ (by omega)
  go_enter Try.func33, Try.ntmps33
  go_wp2
  go_ret
  exact ⟨rfl, rfl⟩

theorem info3 : (Try.prog.info? 3).map (fun i => (i.zero, i.size, i.bytes)) = some (some (.int .i64 0), 1, 8) := by kernel_rfl
theorem info26 : (Try.prog.info? 26).map (fun i => (i.zero, i.size, i.bytes)) = some (some (.slice none 0 0), 1, 24) := by kernel_rfl
theorem ls_rd {w0 w : World} {b0 base cA : Nat} {e e2 : TypeId} {A : Option Addr} {vs : List Value} {L c : Nat → Nat} (hls : w0.ownsRow b0 e2 1 (.slice A vs.length cA) vs.length vs) (hr : Rws w0 base e vs L c) (hne : e ≠ e2) (ht : Tch (Bl vs) w0 w) : w.ownsRow b0 e2 1 (.slice A vs.length cA) vs.length vs := by
  refine own_tchS hls ht fun g hg hq => ?_
  obtain ⟨k, v, hv, hq⟩ := hq
  obtain ⟨xs, ho, _⟩ := hr k v hv
  exact own_type ho hls hne hq hg
theorem ls_at {w : World} {b0 e2 cA n : Nat} {b : Nat} {xs : List Value} (hls : w.ownsRow b0 e2 1 (.slice (some ⟨b, 0, none⟩) n cA) n xs) {k : Nat} {v : Value} (hv : xs[k]? = some v) : w.cell? ⟨b, k, none⟩ = some v := by
  have := hls.cells (g := b) rfl k v hv
  rwa [add_plain, Nat.zero_add] at this
set_option maxHeartbeats 4000000 in
set_option maxRecDepth 100000 in
theorem apart_calls (b cA : Nat) (vs : List Value) (L : Nat → Nat) (b0 : Nat) (w : World) (hls : w.ownsRow b0 26 1 (.slice (some ⟨b, 0, none⟩) vs.length cA) vs.length vs) (hr : Rws w 0 3 vs L (fun _ => 0)) (hs : Sep vs vs) (hm : vs.length ≤ 100) (hL : ∀ k, k < vs.length → L k ≤ 1099511627776) :
    Calls Try.prog 32 #[.slice (some ⟨b, 0, none⟩) vs.length cA] w fun e w' => e = .returned (.bool true) ∧ Tch (Bl vs) w w' := by
  go_enter Try.func32, Try.ntmps32
  go_wp2
  go_loopw [3] (fun i wr => ∃ (k : Nat) (c : Nat → Nat), k ≤ vs.length ∧ i = .int .i64 k ∧ Tch (Bl vs) w wr ∧ Rws wr 0 3 vs L c ∧ (∀ j, j < k → c j = L j) ∧ (∀ j, k ≤ j → c j = 0)) (fun i _ => vs.length - (intOf i).toNat)
  case atStart => exact ⟨0, _, Nat.zero_le _, rfl, Tch.refl _ _, hr, fun j hj => by omega, fun j _ => rfl⟩
  case round =>
    obtain ⟨k, c, hk, rfl, ht, hR, hc1, hc2⟩ := hrel
    by_cases hlt : k < vs.length
    · have hLk := hL k hlt
      obtain ⟨v, hv⟩ : ∃ v, vs[k]? = some v := ⟨_, List.getElem?_eq_getElem hlt⟩
      go_wp2_with fail
      go_loopw [4] (fun i wr => ∃ (n : Nat) (c : Nat → Nat), n ≤ L k ∧ i = .int .i64 n ∧ Tch (Bl vs) w wr ∧ Rws wr 0 3 vs L c ∧ (∀ j, j < k → c j = L j) ∧ c k = n ∧ (∀ j, k < j → c j = 0)) (fun i _ => L k - (intOf i).toNat)
      case atStart => exact ⟨0, c, Nat.zero_le _, rfl, ht, hR, hc1, hc2 k (Nat.le_refl _), fun j hj => hc2 j (by omega)⟩
      case round =>
        clear ht hR hc1 hc2
        obtain ⟨n, c, hn, rfl, ht, hR, hc1, hck, hc2⟩ := hrel
        have hls' := ls_rd hls hr (by decide) ht
        obtain ⟨Av, cap, rfl, hcap, hcap2, hAv⟩ := hR.form hv
        have hcell := ls_at hls' hv
        by_cases hnl : n < L k
        · obtain ⟨g, rfl⟩ := hAv (by omega)
          obtain ⟨⟨u, hcu, _⟩, hfz⟩ := hR.cell hv hnl
          have hset : Rws (wr.setCell ⟨g, n, none⟩ (.int .i64 (mk k n))).drew 0 3 vs L (fun j => if j = k then n + 1 else c j) := Rws.set (w := wr) hR hs hv hnl hck
          have htset : Tch (Bl vs) w (wr.setCell ⟨g, n, none⟩ (.int .i64 (mk k n))).drew := (ht.setCell (a := ⟨g, n, none⟩) ⟨k, _, hv, rfl⟩ _).drewN 1
          have hbg : b ≠ g := fun e => own_type (hR k _ hv).choose_spec.1 hls' (by decide) (g := g) rfl (by rw [e]; rfl)
          have hcS : (wr.setCell ⟨g, n, none⟩ (.int .i64 (mk k n))).drew.cell? ⟨b, k, none⟩ = some (.slice (some ⟨g, 0, none⟩) (L k) cap) := (World.cell?_setCell_other wr _ _ _ (fun e => hbg (congrArg Addr.block e).symm)).trans hcell
          have hcu' : wr.drew.cell? ⟨g, n, none⟩ = some u := hcu
          have hfz' : wr.drew.frozen? ⟨g, n, none⟩ = false := hfz
          have Hset := Lib.hid hset
          have Hc1 := Lib.hid hc1
          have Hc2 := Lib.hid hc2
          clear hset hc1 hc2 hR hls'
          go_wp2_with fail
          go_region_held3 (fun w' => w'.cell? ⟨b, k, none⟩ = some (.slice (some ⟨g, 0, none⟩) (L k) cap)) (first | assumption | go_keep) (first | (go_at_call 33; refine (mark_calls k n (by omega) (by omega) _).mono ?_; rintro e w5 ⟨rfl, rfl⟩))
          go_wp2_with fail
          go_roundw
          case rel => exact ⟨n + 1, _, by omega, rfl, htset, Hset.out, fun j hj => by simp only [if_neg (show ¬ j = k by omega)]; exact Hc1.out j hj, by simp, fun j hj => by simp only [if_neg (show ¬ j = k by omega)]; exact Hc2.out j hj⟩
          case measure => simp [intOf]; omega
        · have hnl' : decide (n < L k) = false := by simpa using hnl
          have Hc1 := Lib.hid hc1
          have Hc2 := Lib.hid hc2
          have HR := Lib.hid hR
          clear hc1 hc2 hR hls'
          go_wp2_with fail
          go_roundw
          case rel => exact ⟨k + 1, c, by omega, rfl, ht, HR.out, fun j hj => by by_cases h : j = k; (· subst h; omega); (· exact Hc1.out j (by omega)), fun j hj => Hc2.out j (by omega)⟩
          case measure => simp [intOf]; omega
    · have hkm : k = vs.length := by omega
      subst hkm
      clear hlt hk
      have hR1 : Rws wr 0 3 vs L L := hR.mono' (fun j hj => by rw [hc1 j hj]; exact Nat.le_refl _)
      clear hR hc1 hc2
      have hG0 : GS w wr 3 26 vs L (fun j => L j + 64) (.slice none 0 0) [] := ⟨ht, hR1, fun k v hv => by simp at hv, fun i j u v hi => by simp at hi, fun i j u v hi hj => by simp at hj, World.ownsRow_nil _ _ _ _, fun q hq => by simp [Value.ownBlock] at hq⟩
      clear hR1 ht
      have HG0 := Lib.hid hG0
      clear hG0
      go_wp2_with fail
      go_loopw [5, 6] (fun v i wr => ∃ gl : List Value, gl.length ≤ vs.length ∧ i = .int .i64 gl.length ∧ GS w wr 3 26 vs L (fun j => L j + 64) v gl) (fun _ i _ => vs.length - (intOf i).toNat)
      case atStart => exact ⟨[], Nat.zero_le _, rfl, HG0.out⟩
      case round =>
        clear HG0
        obtain ⟨gl, hk, rfl, hG⟩ := hrel
        by_cases hlt : gl.length < vs.length
        · have hLk := hL _ hlt
          obtain ⟨v, hv⟩ : ∃ v, vs[gl.length]? = some v := ⟨_, List.getElem?_eq_getElem hlt⟩
          have hcell := ls_at (ls_rd hls hr (by decide) hG.tch) hv
          have hI0 := hG.start hs rfl hv
          have HG := Lib.hid hG
          have HI0 := Lib.hid hI0
          clear hG hI0
          go_wp2_with fail
          go_loopw [7, 8] (fun g i wr => ∃ n : Nat, n ≤ 64 ∧ i = .int .i64 n ∧ GS w wr 3 26 vs L (fun j => L j + 64) u5 gl ∧ GI w wr 3 vs gl L gl.length g n) (fun _ i _ => 64 - (intOf i).toNat)
          case atStart => exact ⟨0, Nat.zero_le _, rfl, HG.out, HI0.out⟩
          case round =>
            clear HG HI0
            obtain ⟨n, hn, rfl, hG, hI⟩ := hrel
            have hcell := ls_at (ls_rd hls hr (by decide) hG.tch) hv
            obtain ⟨Av, cap, rfl, hcap, hcap2, hAv⟩ := hG.rows.form hv
            have hw : IntKind.i64.wrap ((L gl.length : Int) + n) = ((L gl.length + n : Nat) : Int) := by rw [IntWalk.i64_in _ (by omega)]; omega
            by_cases hn2 : n < 64
            · have HG := Lib.hid hG
              clear hG
              go_wp2_with fail
              refine (mark_calls gl.length (L gl.length + n) (by omega) (by omega) _).mono ?_
              rintro e w5 ⟨rfl, rfl⟩
              go_wp2_with (at_builtin; go_loud (refine app_one hI.gr (.tmp 54) (.tmp 64) (.int .i64 (mk gl.length (L gl.length + n))) 26 _ _ Try.underlying26 info3 (by omega) (by decide) rfl rfl rfl rfl rfl rfl ?_); intro v1 w1 ho hg)
              go_roundw
              case rel => exact ⟨n + 1, by omega, by go_num, HG.out.step hI (by decide) hlt ho hg, GI.step HG.out hI ho hg⟩
              case measure => simp [intOf]; omega
            · have hn3 : n = 64 := by omega
              subst hn3
              obtain ⟨gA, gc, rfl, hgc, hgc2⟩ := own_form hI.gr
              have HI := Lib.hid hI
              clear hI
              go_wp2_with (at_builtin; go_loud (refine app_one hG.own (.tmp 66) (.tmp 68) (.slice gA (L gl.length + 64) gc) 47 _ _ Try.underlying47 info26 (by omega) (by decide) rfl rfl rfl rfl rfl rfl ?_); intro v1 w1 ho hg)
              go_roundw
              case rel => exact ⟨gl ++ [.slice gA (L gl.length + 64) gc], by simp; omega, by simp, hG.lay HI.out (by decide) rfl ho hg⟩
              case measure => simp [intOf]; omega
        · have hgl : gl.length = vs.length := by omega
          clear hlt hk
          have hgl' : decide (gl.length < vs.length) = false := by rw [hgl]; simp
          have HGL := Lib.hid hgl
          have HG := Lib.hid hG
          clear hG hgl
          go_wp2_with fail
          go_loopw [9] (fun i wr => ∃ k : Nat, k ≤ vs.length ∧ i = .int .i64 k ∧ GS w wr 3 26 vs L (fun j => L j + 64) u5 gl) (fun i _ => vs.length - (intOf i).toNat)
          case atStart => exact ⟨0, Nat.zero_le _, rfl, HG.out⟩
          case round =>
            clear HG
            obtain ⟨k, hk, rfl, hG⟩ := hrel
            by_cases hlt : k < vs.length
            · have hLk := hL k hlt
              obtain ⟨v, hv⟩ : ∃ v, vs[k]? = some v := ⟨_, List.getElem?_eq_getElem hlt⟩
              have hkg : k < gl.length := by have := HGL.out; omega
              obtain ⟨u, hu⟩ : ∃ u, gl[k]? = some u := ⟨_, List.getElem?_eq_getElem hkg⟩
              obtain ⟨b5, c5, rfl⟩ : ∃ b5 c5, u5 = .slice (some ⟨b5, 0, none⟩) gl.length c5 := by
                rcases hG.own.2 with ⟨_, h0⟩ | ⟨g, cap, cur, h, _⟩
                · omega
                · exact ⟨g, cap, h⟩
              have HG := Lib.hid hG
              clear hG
              go_wp2_with fail
              go_loopw [10] (fun i wr => ∃ n : Nat, n ≤ L k + 64 ∧ i = .int .i64 n ∧ GS w wr 3 26 vs L (fun j => L j + 64) (.slice (some ⟨b5, 0, none⟩) gl.length c5) gl) (fun i _ => L k + 64 - (intOf i).toNat)
              case atStart => exact ⟨0, Nat.zero_le _, rfl, HG.out⟩
              case round =>
                clear HG
                obtain ⟨n, hn, rfl, hG⟩ := hrel
                have hcell := ls_at (ls_rd hls hr (by decide) hG.tch) hv
                have hcell2 := ls_at hG.own hu
                obtain ⟨Av, cap, rfl, hcap, hcap2, hAv⟩ := hG.rows.form hv
                obtain ⟨Ag, capg, rfl, hcapg, hcapg2, hAg⟩ := hG.grows.form hu
                obtain ⟨gg, rfl⟩ := hAg (by omega)
                by_cases hn2 : n < L k + 64
                · obtain ⟨⟨z, hz, hzm⟩, _⟩ := hG.grows.cell hu (i := n) (by simpa using hn2)
                  obtain rfl := hzm (by simpa using hn2)
                  have hlc := World.block_lt_of_cell? wr _ hcell
                  have hlc2 := World.block_lt_of_cell? wr _ hcell2
                  have hlz := World.block_lt_of_cell? wr _ hz
                  have hcS : ∀ w', Below wr.heap.size wr w' → w'.cell? ⟨b, k, none⟩ = some (.slice Av (L k) cap) := fun w' h => (h.cell (p := ⟨b, k, none⟩) hlc).trans hcell
                  have hcS2 : ∀ w', Below wr.heap.size wr w' → w'.cell? ⟨b5, k, none⟩ = some (.slice (some ⟨gg, 0, none⟩) (L k + 64) capg) := fun w' h => (h.cell (p := ⟨b5, k, none⟩) hlc2).trans hcell2
                  have hcS3 : ∀ w', Below wr.heap.size wr w' → w'.cell? ⟨gg, n, none⟩ = some (.int .i64 (mk k n)) := fun w' h => (h.cell (p := ⟨gg, n, none⟩) hlz).trans hz
                  have HG := Lib.hid hG
                  clear hG
                  by_cases hnl : n < L k
                  · obtain ⟨q, rfl⟩ := hAv (by omega)
                    obtain ⟨⟨y, hy, hym⟩, _⟩ := HG.out.rows.cell hv hnl
                    obtain rfl := hym hnl
                    have hly := World.block_lt_of_cell? wr _ hy
                    have hcS4 : ∀ w', Below wr.heap.size wr w' → w'.cell? ⟨q, n, none⟩ = some (.int .i64 (mk k n)) := fun w' h => (h.cell (p := ⟨q, n, none⟩) hly).trans hy
                    clear hz hy hzm hym hcell
                    go_wp2_with fail
                    clear hcell2
                    refine RD.region (S := fun w' => Below wr.heap.size wr w') (by kernel_rfl) (by kernel_rfl) (Below.refl _ _).drew ?_
                    repeat (first
                      | (refine RD.walk_skip rfl ?_; simp only [Act.put, List.setIfInBounds_toArray, List.set_cons_succ, List.set_cons_zero])
                      | (refine RD.walk_op (v := ?_) rfl ?_ ?_; rotate_left; (intro w hS; go_simp; done); simp only [Act.put, List.setIfInBounds_toArray, List.set_cons_succ, List.set_cons_zero])
                      | (refine RD.walk_op (v := ?_) rfl ?_ ?_; rotate_left; (intro w hS; go_simp; rfl); simp only [Act.put, List.setIfInBounds_toArray, List.set_cons_succ, List.set_cons_zero])
                      | (refine RD.rd_at_call (v := .int .i64 (mk k n)) (f := 33) (args := #[.int .i64 k, .int .i64 n]) rfl (fun w hS => by go_simp) (fun w hS => (mark_calls k n (by omega) (by omega) _).mono (by rintro e w1 ⟨rfl, rfl⟩; exact ⟨rfl, hS⟩)) ?_; simp only [Act.put, List.setIfInBounds_toArray, List.set_cons_succ, List.set_cons_zero]))
                    refine RD.walk_nil ?_
                    intro w2 hb2
                    clear hcS hcS2 hcS3 hcS4
                    go_wp2
                    go_roundw
                    case rel => exact ⟨n + 1, by omega, by go_num, HG.out.keep hb2⟩
                    case measure => simp [intOf]; omega
                  · have hnl' : decide (n < L k) = false := by simpa using hnl
                    clear hz hzm hcell
                    go_wp2_with fail
                    clear hcell2
                    refine RD.region (S := fun w' => Below wr.heap.size wr w') (by kernel_rfl) (by kernel_rfl) (Below.refl _ _).drew ?_
                    repeat (first
                      | (refine RD.walk_skip rfl ?_; simp only [Act.put, List.setIfInBounds_toArray, List.set_cons_succ, List.set_cons_zero])
                      | (refine RD.walk_op (v := ?_) rfl ?_ ?_; rotate_left; (intro w hS; go_simp; done); simp only [Act.put, List.setIfInBounds_toArray, List.set_cons_succ, List.set_cons_zero])
                      | (refine RD.walk_op (v := ?_) rfl ?_ ?_; rotate_left; (intro w hS; go_simp; rfl); simp only [Act.put, List.setIfInBounds_toArray, List.set_cons_succ, List.set_cons_zero])
                      | (refine RD.rd_at_call (v := .int .i64 (mk k n)) (f := 33) (args := #[.int .i64 k, .int .i64 n]) rfl (fun w hS => by go_simp) (fun w hS => (mark_calls k n (by omega) (by omega) _).mono (by rintro e w1 ⟨rfl, rfl⟩; exact ⟨rfl, hS⟩)) ?_; simp only [Act.put, List.setIfInBounds_toArray, List.set_cons_succ, List.set_cons_zero]))
                    refine RD.walk_nil ?_
                    intro w2 hb2
                    clear hcS hcS2 hcS3
                    go_wp2
                    go_roundw
                    case rel => exact ⟨n + 1, by omega, by go_num, HG.out.keep hb2⟩
                    case measure => simp [intOf]; omega
                · have hn3 : n = L k + 64 := by omega
                  subst hn3
                  have HG := Lib.hid hG
                  clear hG
                  go_wp2_with fail
                  go_roundw
                  case rel => exact ⟨k + 1, by omega, by go_num, HG.out⟩
                  case measure => simp [intOf]; omega
            · have hk2 : decide (k < vs.length) = false := by simpa using hlt
              have hG1 := hG.less
              have HG := Lib.hid hG1
              clear hG hG1 hlt hk
              go_wp2_with fail
              go_loopw [11] (fun i wr => ∃ (k : Nat) (gl : List Value), gl.length = vs.length ∧ k ≤ vs.length ∧ i = .int .i64 k ∧ GS w wr 3 26 vs L L u5 gl) (fun i _ => vs.length - (intOf i).toNat)
              case atStart => exact ⟨0, gl, HGL.out, Nat.zero_le _, rfl, HG.out⟩
              case round =>
                clear HG HGL hgl'
                obtain ⟨k, gm, HGL, hk, rfl, hG⟩ := hrel
                replace HGL := Lib.hid HGL
                by_cases hlt : k < vs.length
                · have hLk := hL k hlt
                  obtain ⟨v, hv⟩ : ∃ v, vs[k]? = some v := ⟨_, List.getElem?_eq_getElem hlt⟩
                  have hkg : k < gm.length := by have := HGL.out; omega
                  obtain ⟨u, hu⟩ : ∃ u, gm[k]? = some u := ⟨_, List.getElem?_eq_getElem hkg⟩
                  obtain ⟨b5, c5, rfl⟩ : ∃ b5 c5, u5 = .slice (some ⟨b5, 0, none⟩) gm.length c5 := by
                    rcases hG.own.2 with ⟨_, h0⟩ | ⟨g, cap, cur, h, _⟩
                    · omega
                    · exact ⟨g, cap, h⟩
                  have HG := Lib.hid hG
                  clear hG
                  go_wp2_with fail
                  go_loopw [12, 13] (fun v i wr => ∃ n : Nat, n ≤ 64 ∧ i = .int .i64 n ∧ GS w wr 3 26 vs L L (.slice (some ⟨b5, 0, none⟩) gm.length c5) gm ∧ Many w wr 3 vs gm v n) (fun _ i _ => 64 - (intOf i).toNat)
                  case atStart => exact ⟨0, Nat.zero_le _, rfl, HG.out, Many.nil⟩
                  case round =>
                    clear HG
                    obtain ⟨n, hn, rfl, hG, hM⟩ := hrel
                    have hw : IntKind.i64.wrap ((k : Int) + vs.length) = ((k + vs.length : Nat) : Int) := by rw [IntWalk.i64_in _ (by omega)]; omega
                    by_cases hn2 : n < 64
                    · obtain ⟨xs, hrow, hone⟩ := hM.row
                      have HG := Lib.hid hG
                      have HM := Lib.hid hM
                      clear hG hM
                      go_wp2_with fail
                      refine (mark_calls (k + vs.length) n (by omega) (by omega) _).mono ?_
                      rintro e w5 ⟨rfl, rfl⟩
                      go_wp2_with (at_builtin; go_loud (refine app_one hrow (.tmp 130) (.tmp 137) (.int .i64 (mk (k + vs.length) n)) 26 _ _ Try.underlying26 info3 (by omega) (by decide) rfl rfl rfl rfl rfl rfl ?_); intro v1 w1 ho hg)
                      go_roundw
                      case rel => exact ⟨n + 1, by omega, by go_num, Many.step HG.out HM.out (by decide) hone rfl hrow ho hg⟩
                      case measure => simp [intOf]; omega
                    · have hn3 : n = 64 := by omega
                      subst hn3
                      have hcell := ls_at (ls_rd hls hr (by decide) hG.tch) hv
                      obtain ⟨Av, cap, rfl, hcap, hcap2, hAv⟩ := hG.rows.form hv
                      obtain ⟨xs, hrow, hone⟩ := hM.row
                      obtain ⟨gM, cM, rfl⟩ : ∃ gM cM, u12 = .slice (some ⟨gM, 0, none⟩) 64 cM := by
                        rcases hrow.2 with ⟨_, h0⟩ | ⟨g, cap, cur, h, _⟩
                        · omega
                        · exact ⟨g, cap, h⟩
                      have hvo := hG.rows.full hv
                      have hxl : xs.length = 64 := by have := hrow.1; omega
                      have hxc := hrow.cells (g := gM) rfl
                      have HG := Lib.hid hG
                      have Hxc := Lib.hid hxc
                      clear hG hM hxc
                      go_wp2_with (at_builtin; go_loud (refine app_cap hvo (.tmp 144) (.tmp 145) ⟨gM, 0, none⟩ 64 cM xs 26 _ _ Try.underlying26 info3 (by omega) (by decide) rfl rfl rfl rfl rfl hxl Hxc.out hone (by decide) ?_); intro v1 w1 ho hg; obtain ⟨vA1, vc1, rfl, hvc1, hvc2⟩ := own_form ho; have hown5 := (HG.out.grown hs (by decide) hv ho hg).1; have hcell5 := ls_at hown5 hu; have hfz5 := own_frozen hown5 k; clear hown5)
                      go_roundw
                      case rel => exact ⟨k + 1, gm.set k (.slice vA1 (L k + 64) vc1), by rw [List.length_set]; exact HGL.out, by omega, by go_num, GS.turn HG.out hs (by decide) hv hkg ho hg⟩
                      case measure => simp [intOf]; omega
                · have hk3 : decide (k < vs.length) = false := by simpa using hlt
                  have HG := Lib.hid hG
                  clear hG hlt hk
                  go_wp2_with fail
                  go_loopw [14] (fun i wr => ∃ k : Nat, k ≤ vs.length ∧ i = .int .i64 k ∧ GS w wr 3 26 vs L L u5 gm) (fun i _ => vs.length - (intOf i).toNat)
                  case atStart => exact ⟨0, Nat.zero_le _, rfl, HG.out⟩
                  case round =>
                    clear HG
                    obtain ⟨k, hk, rfl, hG⟩ := hrel
                    by_cases hlt : k < vs.length
                    · have hLk := hL k hlt
                      obtain ⟨v, hv⟩ : ∃ v, vs[k]? = some v := ⟨_, List.getElem?_eq_getElem hlt⟩
                      have hkg : k < gm.length := by have := HGL.out; omega
                      obtain ⟨u, hu⟩ : ∃ u, gm[k]? = some u := ⟨_, List.getElem?_eq_getElem hkg⟩
                      obtain ⟨b5, c5, rfl⟩ : ∃ b5 c5, u5 = .slice (some ⟨b5, 0, none⟩) gm.length c5 := by
                        rcases hG.own.2 with ⟨_, h0⟩ | ⟨g, cap, cur, h, _⟩
                        · omega
                        · exact ⟨g, cap, h⟩
                      have HG := Lib.hid hG
                      clear hG
                      go_wp2_with fail
                      go_loopw [15] (fun i wr => ∃ n : Nat, n ≤ L k ∧ i = .int .i64 n ∧ GS w wr 3 26 vs L L (.slice (some ⟨b5, 0, none⟩) gm.length c5) gm) (fun i _ => L k - (intOf i).toNat)
                      case atStart => exact ⟨0, Nat.zero_le _, rfl, HG.out⟩
                      case round =>
                        clear HG
                        obtain ⟨n, hn, rfl, hG⟩ := hrel
                        have hcell := ls_at (ls_rd hls hr (by decide) hG.tch) hv
                        have hcell2 := ls_at hG.own hu
                        obtain ⟨Av, cap, rfl, hcap, hcap2, hAv⟩ := hG.rows.form hv
                        obtain ⟨Ag, capg, rfl, hcapg, hcapg2, hAg⟩ := hG.grows.form hu
                        obtain ⟨gg, rfl⟩ := hAg (by omega)
                        by_cases hnl : n < L k
                        · obtain ⟨⟨z, hz, hzm⟩, _⟩ := hG.grows.cell hu (i := n) (by omega)
                          obtain rfl := hzm hnl
                          obtain ⟨q, rfl⟩ := hAv (by omega)
                          obtain ⟨⟨y, hy, hym⟩, _⟩ := hG.rows.cell hv hnl
                          obtain rfl := hym hnl
                          have hlc := World.block_lt_of_cell? wr _ hcell
                          have hlc2 := World.block_lt_of_cell? wr _ hcell2
                          have hlz := World.block_lt_of_cell? wr _ hz
                          have hly := World.block_lt_of_cell? wr _ hy
                          have hng : (n : Int) < (L k : Int) + 64 := by omega
                          have hcS : ∀ w', Below wr.heap.size wr w' → w'.cell? ⟨b, k, none⟩ = some (.slice (some ⟨q, 0, none⟩) (L k) cap) := fun w' h => (h.cell (p := ⟨b, k, none⟩) hlc).trans hcell
                          have hcS2 : ∀ w', Below wr.heap.size wr w' → w'.cell? ⟨b5, k, none⟩ = some (.slice (some ⟨gg, 0, none⟩) (L k + 64) capg) := fun w' h => (h.cell (p := ⟨b5, k, none⟩) hlc2).trans hcell2
                          have hcS3 : ∀ w', Below wr.heap.size wr w' → w'.cell? ⟨gg, n, none⟩ = some (.int .i64 (mk k n)) := fun w' h => (h.cell (p := ⟨gg, n, none⟩) hlz).trans hz
                          have hcS4 : ∀ w', Below wr.heap.size wr w' → w'.cell? ⟨q, n, none⟩ = some (.int .i64 (mk k n)) := fun w' h => (h.cell (p := ⟨q, n, none⟩) hly).trans hy
                          have HG := Lib.hid hG
                          clear hG hz hy hzm hym hcell2
                          go_wp2_with fail
                          clear hcell
                          refine RD.region (S := fun w' => Below wr.heap.size wr w') (by kernel_rfl) (by kernel_rfl) (Below.refl _ _).drew ?_
                          repeat (first
                            | (refine RD.walk_skip rfl ?_; simp only [Act.put, List.setIfInBounds_toArray, List.set_cons_succ, List.set_cons_zero])
                            | (refine RD.walk_op (v := ?_) rfl ?_ ?_; rotate_left; (intro w hS; go_simp; done); simp only [Act.put, List.setIfInBounds_toArray, List.set_cons_succ, List.set_cons_zero])
                            | (refine RD.walk_op (v := ?_) rfl ?_ ?_; rotate_left; (intro w hS; go_simp; rfl); simp only [Act.put, List.setIfInBounds_toArray, List.set_cons_succ, List.set_cons_zero])
                            | (refine RD.rd_at_call (v := .int .i64 (mk k n)) (f := 33) (args := #[.int .i64 k, .int .i64 n]) rfl (fun w hS => by go_simp) (fun w hS => (mark_calls k n (by omega) (by omega) _).mono (by rintro e w1 ⟨rfl, rfl⟩; exact ⟨rfl, hS⟩)) ?_; simp only [Act.put, List.setIfInBounds_toArray, List.set_cons_succ, List.set_cons_zero]))
                          refine RD.walk_nil ?_
                          intro w2 hb2
                          clear hcS hcS2 hcS3 hcS4
                          go_wp2
                          go_roundw
                          case rel => exact ⟨n + 1, by omega, by go_num, HG.out.keep hb2⟩
                          case measure => simp [intOf]; omega
                        · have hn3 : n = L k := by omega
                          subst hn3
                          have HG := Lib.hid hG
                          clear hG
                          go_wp2_with fail
                          go_roundw
                          case rel => exact ⟨k + 1, by omega, by go_num, HG.out⟩
                          case measure => simp [intOf]; omega
                    · have hk4 : decide (k < vs.length) = false := by simpa using hlt
                      have HT := Lib.hid hG.tch
                      clear hG
                      go_wp2_with fail
                      go_ret
                      exact ⟨rfl, HT.out⟩
end Go.Proofs.Ytnhnckhjcnjacaa.AP
