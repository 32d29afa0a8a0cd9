/- Strata: the walk of the taking off of a part. -/
import Derived.Test.YtnhnckhjcnjacaaSu
namespace Go.Proofs.Ytnhnckhjcnjacaa.ST
open Go.RowKit Go.Proofs.YtnhnckhjcnjacaaKw Go.Proofs.YtnhnckhjcnjacaaSg Go.Proofs.YtnhnckhjcnjacaaSw
set_option linter.unusedVariables false
set_option linter.unusedSimpArgs false

theorem getD_mid (pre rest : List Nat) (v j : Nat) : (pre ++ v :: rest).getD (pre.length + j) 0 = (v :: rest).getD j 0 := by
  simp [List.getD, List.getElem?_append_right]
/-- While a part is taken off. -/
def popI (n : Nat) (pre : List Nat) (v : Nat) (rest : List Nat) (s : TS) (i : Nat) : TS :=
  { low := fun x => if x ∈ (v :: rest).take i then (n : Int) + 1 else s.low x, seen := s.seen, head := fun x => if x ∈ (v :: rest).take i then (minL v rest : Int) else s.head x, stack := pre, at_ := s.at_ }
theorem popI_zero (n : Nat) (pre : List Nat) (v : Nat) (rest : List Nat) (s : TS) : popI n pre v rest s 0 = { s with stack := pre } := by
  simp [popI]
theorem popI_all (n : Nat) (pre : List Nat) (v : Nat) (rest : List Nat) (s : TS) : popI n pre v rest s (rest.length + 1) = popS n pre v rest s := by
  unfold popI popS
  rw [List.take_of_length_le (by simp)]
theorem popI_succ (n : Nat) (pre : List Nat) (v : Nat) (rest : List Nat) (s : TS) (i : Nat) (h : i < rest.length + 1) :
    popI n pre v rest s (i + 1) = { popI n pre v rest s i with head := upd (popI n pre v rest s i).head ((v :: rest).getD i 0) (minL v rest : Int), low := upd (popI n pre v rest s i).low ((v :: rest).getD i 0) ((n : Int) + 1) } := by
  have hi : i < (v :: rest).length := by simpa using h
  have hg : (v :: rest).getD i 0 = (v :: rest)[i] := by simp [List.getD, List.getElem?_eq_getElem hi]
  unfold popI upd
  rw [List.take_succ_eq_append_getElem hi, hg]
  congr 1
  · funext x
    simp only [List.mem_append, List.mem_singleton]
    by_cases h1 : x = (v :: rest)[i] <;> simp [h1]
  · funext x
    simp only [List.mem_append, List.mem_singleton]
    by_cases h1 : x = (v :: rest)[i] <;> simp [h1]
set_option maxHeartbeats 4000000 in
set_option maxRecDepth 100000 in
theorem pop_calls (w0 : World) (F : Fr) (s : TS) (pre : List Nat) (v : Nat) (rest : List Nat) (w : World) (h : RepT w0 w F s) (hst : s.stack = pre ++ v :: rest) (hv : v ∉ rest) (hlt : ∀ x ∈ v :: rest, x < F.n) (hn : F.n ≤ 5000) (hlen : s.stack.length ≤ 5000)
    (hgn : w0.cell? ⟨F.gb, 0, none⟩ = some (.int .i64 F.n)) :
    Calls Try.prog 47 #[.int .i64 v, ptr F.xstack, ptr F.xhead, ptr F.xg, ptr F.xlow] w fun e w' => e = .returned (.tuple #[]) ∧ RepT w0 w' F (popS F.n pre v rest s) ∧ Fram w w' F := by
  obtain ⟨sA, c, hs, ho, hn'⟩ := h.row
  have hlen2 : s.stack.length = pre.length + (rest.length + 1) := by rw [hst]; simp
  rw [hlen2] at hs ho hn' hlen
  obtain ⟨g, rfl⟩ : ∃ g, sA = some ⟨g, 0, none⟩ := by
    rcases ho.2 with ⟨_, e⟩ | ⟨g, cap, cur, e, _⟩
    · omega
    · exact ⟨g, (Value.slice.inj e).1⟩
  have hgn2 : g ∉ F.all := hn' g rfl
  have hc : pre.length + (rest.length + 1) ≤ c ∧ c ≤ 9223372036854775807 := by
    obtain ⟨_, _, e, h1, h2⟩ := own_form ho
    cases e
    exact ⟨h1, h2⟩
  have hcell : ∀ j, j < pre.length + (rest.length + 1) → w.cell? ⟨g, j, none⟩ = some (.int .i64 ((pre ++ v :: rest).getD j 0 : Nat)) := by
    intro j hj
    rw [ho.cellAt j (by omega), hst]
    have hj' : j < (pre ++ v :: rest).length := by simp; omega
    simp only [nvs, List.getElem?_map, List.getElem?_eq_getElem hj', List.getD, Option.map_some, Option.getD_some]
  have hfs := h.fstack
  have hms := (mem_all F).2.2.2.2.1
  have hgx : g ≠ F.xstack := fun e => hgn2 (by rw [e]; exact hms)
  have hpre : w.ownsRow w0.heap.size 3 1 (.slice (some ⟨g, 0, none⟩) pre.length c) pre.length (nvs pre) := by
    have := Ap.own_prefix (m := pre.length) ho (by omega)
    rw [nvs_take, hst, List.take_left' rfl] at this
    exact this
  have hset := h.setStack hpre (fun q hq => by have : g = q := by simpa [Value.ownBlock] using hq
                                               rw [← this]; exact hgn2)
  have hfr : Fram w (w.setCell ⟨F.xstack, 0, none⟩ (.slice (some ⟨g, 0, none⟩) pre.length c)) F := Fram.box hs ⟨rfl, rfl, rfl, Nat.le_refl _, fun _ _ _ => rfl⟩ hs (.inl rfl)
  have HFR := Lib.hid hfr
  clear hfr
  have H := Lib.hid (And.intro h hset)
  have HC := Lib.hid hcell
  have HG := Lib.hid hgn
  have HL := Lib.hid hlt
  have hcr : ∀ j, j < rest.length → rest.getD j 0 ≠ v := by
    intro j hj e
    refine hv ?_
    rw [← e]
    simp [List.getD, List.getElem?_eq_getElem hj]
  have HR := Lib.hid hcr
  clear hcell hst hv hlt hpre hset h hlen2 ho hn' hgn hcr
  go_enter Try.func47, Try.ntmps47
  go_wp2_with fail
  go_loop [6] (fun i => ∃ k : Nat, pre.length ≤ k ∧ k ≤ pre.length + rest.length ∧ i = .int .i64 k) (fun i => (intOf i).toNat)
  case atStart => exact ⟨pre.length + rest.length, by omega, by omega, by congr 1; push_cast; omega⟩
  case round =>
    obtain ⟨k, hk1, hk2, rfl⟩ := hrel
    have hck := HC.out k (by omega)
    by_cases hkp : k = pre.length
    · have hval : (pre ++ v :: rest).getD k 0 = v := by rw [hkp]; simp
      rw [hval] at hck
      clear hval
      subst hkp
      go_wp2_with fail
      have hpart : ∀ j, j < rest.length + 1 → (w.setCell ⟨F.xstack, 0, none⟩ (.slice (some ⟨g, 0, none⟩) pre.length c)).cell? ⟨g, pre.length + j, none⟩ = some (.int .i64 ((v :: rest).getD j 0 : Nat)) := by
        intro j hj
        rw [World.cell?_setCell_other w _ _ _ (fun e => hgx (congrArg Addr.block e).symm), HC.out (pre.length + j) (by omega), getD_mid]
      refine (min_calls g pre.length (c - pre.length) v rest _ (fun j hj => hpart j (by simpa using hj)) (by omega)).mono ?_
      rintro e w1 ⟨rfl, rfl⟩
      have hst0 : RepT w0 (w.setCell ⟨F.xstack, 0, none⟩ (.slice (some ⟨g, 0, none⟩) pre.length c)) F (popI F.n pre v rest s 0) := by rw [popI_zero]; exact H.out.2
      have HP := Lib.hid (And.intro hst0 hpart)
      clear hst0 hpart hck hs hfs
      generalize w.setCell ⟨F.xstack, 0, none⟩ (.slice (some ⟨g, 0, none⟩) pre.length c) = W1 at *
      go_wp2_with fail
      go_loopw [32] (fun i wr => ∃ k : Nat, k ≤ rest.length + 1 ∧ i = .int .i64 k ∧ RepT w0 wr F (popI F.n pre v rest s k) ∧ Fram w wr F ∧ Hid (∀ j, j < rest.length + 1 → wr.cell? ⟨g, pre.length + j, none⟩ = some (.int .i64 ((v :: rest).getD j 0 : Nat)))) (fun i _ => rest.length + 1 - (intOf i).toNat)
      case atStart => exact ⟨0, Nat.zero_le _, rfl, HP.out.1, HFR.out, Lib.hid HP.out.2⟩
      case round =>
        clear HP
        obtain ⟨k, hk, rfl, hR, hfr, hq⟩ := hrel
        by_cases hlt : k < rest.length + 1
        · have hx := hq.out k hlt
          have hsucc := popI_succ F.n pre v rest s k hlt
          have hxn : (v :: rest).getD k 0 < F.n := HL.out _ (by simp only [List.getD, List.getElem?_eq_getElem (show k < (v :: rest).length by simpa using hlt), Option.getD_some]; exact List.getElem_mem _)
          generalize (v :: rest).getD k 0 = x at *
          have h2 := hR.setHead hxn (minL v rest : Int)
          have h3 := h2.setLow hxn ((F.n : Int) + 1)
          rw [← hsucc] at h3
          have hfr2 : Fram w ((wr.setCell ⟨F.hb, x, none⟩ (.int .i64 (minL v rest : Int))).setCell ⟨F.lb, x, none⟩ (.int .i64 ((F.n : Int) + 1))).drew F := by
            have m := mem_all F
            have d := hR.ne
            exact ((hfr.trans (Fram.set (a := ⟨F.hb, x, none⟩) m.2.2.2.2.2.2.2.2.2.2.2 d.2.2.1.2.2.2.2.1)).trans (Fram.set (a := ⟨F.lb, x, none⟩) m.2.2.2.2.2.2.2.2.2.1 d.1.2.2.2.2.1)).trans (Fram.other (drew_below _) (by have := hR.lts; simp; omega))
          have HF2 := Lib.hid hfr2
          clear hfr2 hfr
          have k1 := hR.xhead
          have k2 := hR.head.cell hxn
          have k3 := hR.head.fz x
          have k4 := h2.xlow
          have k5 := h2.xg
          have k6 := (h2.below.cell (p := ⟨F.gb, 0, none⟩) (World.block_lt_of_cell? w0 _ HG.out)).trans HG.out
          have k7 := h2.low.cell hxn
          have k8 := hR.low.fz x
          have hb1 := h2.below
          have hql : ∀ j, j < rest.length + 1 → ((wr.setCell ⟨F.hb, x, none⟩ (.int .i64 (minL v rest : Int))).setCell ⟨F.lb, x, none⟩ (.int .i64 ((F.n : Int) + 1))).cell? ⟨g, pre.length + j, none⟩ = some (.int .i64 ((v :: rest).getD j 0 : Nat)) := by
            intro j hj
            have m := mem_all F
            rw [World.cell?_setCell_other _ _ _ _ (fun e => hgn2 (by rw [← show F.lb = g from congrArg Addr.block e]; exact m.2.2.2.2.2.2.2.2.2.1)), World.cell?_setCell_other _ _ _ _ (fun e => hgn2 (by rw [← show F.hb = g from congrArg Addr.block e]; exact m.2.2.2.2.2.2.2.2.2.2.2))]
            exact hq.out j hj
          have H3 := Lib.hid (And.intro (h3.drewN 1) hql)
          clear h2 h3 hR hsucc hql hq hb1
          go_wp2_with fail
          go_region
          go_wp2_with fail
          go_roundw
          case rel => exact ⟨k + 1, by omega, by go_num, H3.out.1, HF2.out, Lib.hid H3.out.2⟩
          case measure => simp [intOf]; omega
        · obtain rfl : k = rest.length + 1 := by omega
          rw [popI_all] at hR
          go_wp2_with fail
          go_end0
          exact ⟨rfl, hR, hfr⟩
    · have hval : (pre ++ v :: rest).getD k 0 = rest.getD (k - pre.length - 1) 0 := by
        have := getD_mid pre rest v (k - pre.length)
        rw [show pre.length + (k - pre.length) = k by omega] at this
        rw [this, show k - pre.length = (k - pre.length - 1) + 1 by omega]
        simp
      have hne := HR.out (k - pre.length - 1) (by omega)
      rw [hval] at hck
      clear hval
      generalize rest.getD (k - pre.length - 1) 0 = x at *
      have hne' : ¬ (x : Int) = v := by omega
      go_wp2_with fail
      go_round
      case rel => exact ⟨k - 1, by omega, by omega, by congr 1; omega⟩
      case measure => simp [intOf]; omega
end Go.Proofs.Ytnhnckhjcnjacaa.ST
