/- Strata: the walk of the numbering of the parts. -/
import Derived.Test.YtnhnckhjcnjacaaSm
import Derived.Test.YtnhnckhjcnjacaaSn
namespace Go.Proofs.Ytnhnckhjcnjacaa.ST
open Go.RowKit Go.Proofs.YtnhnckhjcnjacaaKw Go.Proofs.YtnhnckhjcnjacaaSg Go.Proofs.YtnhnckhjcnjacaaSw
set_option linter.unusedVariables false
set_option linter.unusedSimpArgs false

def lenOf : Value → Nat
  | .slice _ n _ => n
  | _ => 0
theorem nvs_form {w : World} {base c : Nat} {A : Option Addr} {L : List Nat} (ho : w.ownsRow base 3 1 (.slice A L.length c) L.length (nvs L)) (h0 : 0 < L.length) : ∃ g, A = some ⟨g, 0, none⟩ := by
  rcases ho.2 with ⟨_, e⟩ | ⟨g, cap, cur, e, _⟩
  · omega
  · exact ⟨g, (Value.slice.inj e).1⟩
section
variable {w0 w w' W w1 : World} {n hb wb bb hx mb B nb : Nat} {H : Nat → Nat} {waits : Nat → Int} {back : Nat → List Nat} {L L' : List Nat} {number : Nat → Int} {v v1 : Value} {order : List Nat}
theorem P2.bcell (h : P2 w0 w n hb wb bb hx mb B H waits back L) (hf : HFram w w' hx) {q : Nat} (hq : q < n) : w'.cell? ⟨bb, q, none⟩ = w.cell? ⟨bb, q, none⟩ := by
  obtain ⟨A, c, hs, _⟩ := h.back q hq
  have ho := h.ord
  refine hf.tch.cell (p := ⟨bb, q, none⟩) (World.block_lt_of_cell? w _ hs) (fun e => ?_)
  rcases e with e | e
  · have : bb = hx := e; omega
  · have := h.hrow bb e; omega
/-- The memory of the last loop. -/
structure P4 (w0 w : World) (n hb nb ob : Nat) (H : Nat → Nat) (number : Nat → Int) (v : Value) (order : List Nat) (k : Nat) : Prop where
  head : IArr w hb n (fun v => (H v : Int))
  num : IArr w nb n number
  out : IArr w ob n (fun x => if x < k then number (H x) else 0)
  row : w.ownsRow (nb + 1) 3 1 v order.length (nvs order)
  ord : w0.heap.size ≤ hb ∧ hb < nb ∧ nb < ob
  av : v.ownBlock ≠ some ob
  below : Below w0.heap.size w0 w
theorem P3.next (h : P3 w0 w n hb wb bb hx mb B nb H waits back L number v order) (hA : IArr w1 w.heap.size n (fun _ => 0)) (hB : Below w.heap.size w w1) : P4 w0 w1 n hb nb w.heap.size H number v order 0 := by
  have h2 := h.other hB
  have ho := h.p2.ord
  have hl := h.lo
  exact ⟨h2.p2.head, h2.num, hA.congr (fun i hi => by simp), h2.row, ⟨ho.1, by omega, h.num.lt⟩, fun e => by have := (h.row.lt _ e).2; omega, h2.p2.below⟩
theorem P4.set {ob k : Nat} (h : P4 w0 w n hb nb ob H number v order k) (hk : k < n) : P4 w0 (w.setCell ⟨ob, k, none⟩ (.int .i64 (number (H k)))) n hb nb ob H number v order (k + 1) := by
  have ht := Ap.setCell_tch w ⟨ob, k, none⟩ (.int .i64 (number (H k))) (fun q => q = ob) rfl
  have ho := h.ord
  refine ⟨h.head.tch ht (by omega), h.num.tch ht (by omega), (h.out.set hk (number (H k))).congr (fun i hi => ?_), own_tch h.row ht (fun g hg e => h.av (by rw [← e]; exact hg)), ho, h.av, below_tch h.below h.below.size ht (fun q _ hq => by omega)⟩
  unfold upd
  by_cases e : i = k
  · subst e
    simp
  · rw [if_neg e]
    by_cases h1 : i < k
    · simp [h1, show i < k + 1 by omega]
    · simp [h1, show ¬ i < k + 1 by omega]
end
structure PartsPost (w0 w' : World) (n : Nat) (H : Nat → Nat) (s : KS) (e : Ending) : Prop where
  mk ::
  out : ∃ b v, e = .returned (.tuple #[.slice (some ⟨b, 0, none⟩) n n, v]) ∧ w0.heap.size ≤ b ∧ IArr w' b n (fun x => s.number (H x)) ∧ w'.ownsRow w0.heap.size 3 1 v s.order.length (nvs s.order) ∧ v.ownBlock ≠ some b
  below : Below w0.heap.size w0 w'
set_option maxHeartbeats 8000000 in
set_option maxRecDepth 100000 in
theorem parts_calls (ob base n gb T : Nat) (g : Nat → List AI) (H : Nat → Nat) (cs : CS) (s0 : KS) (w0 : World) (hG : GraphI w0 gb ob base n g) (hH : HeadI g n H) (hcs : cross H (tos g) n = cs) (hs0 : startK H cs.waits n = s0) (hK : KOk n cs.back s0 T) :
    Calls Try.prog 35 #[ptr gb] w0 fun e w' => PartsPost w0 w' n H (iterK cs.back s0 T) e := by
  have hsm := hG.small
  have hc0 := hG.rep.c0
  have hgl := World.block_lt_of_cell? w0 _ hc0
  have HG := Lib.hid (And.intro hG hH)
  have HK := Lib.hid hK
  have HCS0 := Lib.hid (And.intro hcs hs0)
  clear hG hH hK hcs hs0
  go_enter Try.func35, Try.ntmps35
  go_wp2_with fail
  refine (rings_calls ob base n gb g w0 HG.out.1).mono ?_
  rintro e w1 ⟨hb, rfl, hhb, hArr, hB⟩
  have hA1 : IArr w1 hb n (fun v => (H v : Int)) := hArr.congr fun v hv => (HG.out.2.eq v hv).symm
  have hc1 := (hB.cell (p := ⟨gb, 0, none⟩) hgl).trans hc0
  have HA := Lib.hid (And.intro hA1 (And.intro hB hhb))
  clear hArr hA1 hhb
  have hbl := HA.out.1.lt
  go_upto_region 5 with (first
    | (at_make; refine make_arr (Value.int .i64) 0 _ (.tmp 26) (.tmp 26) 26 3 8 n Try.underlying26 info3 rfl rfl rfl rfl rfl (by omega) (by unfold maxLen; omega) ?_; intro w2 hA2 hB2; have hc2 := (hB2.cell (p := ⟨gb, 0, none⟩) (World.block_lt_of_cell? w1 _ hc1)).trans hc1)
    | (at_make; refine make_arr (fun _ : Unit => Value.slice none 0 0) () _ (.tmp 31) (.tmp 31) 47 26 24 n Try.underlying47 info26 rfl rfl rfl rfl rfl (by omega) (by unfold maxLen; omega) ?_; intro w3 hA3 hB3; have hc3 := (hB3.cell (p := ⟨gb, 0, none⟩) (World.block_lt_of_cell? w2 _ hc2)).trans hc2))
  have hst := P1.start HA.out.2.2 HA.out.1 HA.out.2.1 hA2 hB2 hA3 hB3
  have hwb := hA2.lt
  clear hA2 hB2 hA3 hB3 hc1 hc2 hc3 HA hB hbl
  generalize (w3.alloc (.cells #[] 3)).alloc (.cells #[.slice (some ⟨w3.heap.size, 0, none⟩) 0 0] 67) = W at *
  generalize w3.heap.size + 1 + 1 = mb at *
  generalize w3.heap.size + 1 = hx at *
  generalize w2.heap.size = bb at *
  generalize w1.heap.size = wb at *
  have kgn := (hst.below.cell (p := ⟨gb, 0, none⟩) hgl).trans hc0
  have HS := Lib.hid hst
  clear hst hwb
  go_wp2_with fail
  clear kgn
  go_loopw [39] (fun i wr => ∃ k : Nat, k ≤ n ∧ i = .int .i64 k ∧ P1 w0 wr n hb wb bb hx mb H (cross H (tos g) k)) (fun i _ => n - (intOf i).toNat)
  case atStart => exact ⟨0, Nat.zero_le _, rfl, HS.out⟩
  case round =>
    clear HS
    obtain ⟨k, hk, rfl, hP⟩ := hrel
    by_cases hlt : k < n
    · obtain ⟨A', c', hcs0, hos0, hle, hcm, hfz0⟩ := HG.out.1.rep.mat.at hlt
      have hgr := HG.out.1.rep.keep hP.below
      have hg1 := hgr.c1
      have hcs1 := (hP.below.cell (p := ⟨ob, k, none⟩) HG.out.1.rep.mat.lt).trans hcs0
      have hln := HG.out.1.len k hlt
      have hsucc := cross_succ H (tos g) k
      have hCB := CB.cross (N := 262144) (out := tos g) HG.out.2.lt (fun v hv => by have := HG.out.1.len v hv; simpa [tos] using this) k hk
      have HO := Lib.hid (And.intro hos0 (And.intro hsucc hCB))
      have HP := Lib.hid hP
      clear hos0 hsucc hP hcs0 hfz0 hgr hCB
      go_wp2_with fail
      clear hg1 hcs1
      go_loopw [50] (fun i wr => ∃ j : Nat, j ≤ (g k).length ∧ i = .int .i64 j ∧ P1 w0 wr n hb wb bb hx mb H (crossV H ((tos g k).take j) k (cross H (tos g) k))) (fun i _ => (g k).length - (intOf i).toNat)
      case atStart => exact ⟨0, Nat.zero_le _, rfl, HP.out⟩
      case round =>
        clear HP
        obtain ⟨j, hj, rfl, hP⟩ := hrel
        by_cases hjt : j < (g k).length
        · obtain ⟨b, off, rfl, hc0, hc1, hc2⟩ := rd_arc (own_rd (own_keep HO.out.1 hP.below)) hjt
          have hsj := crossV_succ H (tos g k) k (cross H (tos g) k) j (by simpa [tos] using hjt)
          have hok := HG.out.1.ok k hlt _ (List.getElem_mem hjt)
          obtain ⟨t, ht⟩ := Int.eq_ofNat_of_zero_le hok.1
          have htt : (tos g k)[j]'(by simpa [tos] using hjt) = t := by simp [tos, ht]
          rw [htt] at hsj
          have htn : t < n := by omega
          have hCBj : CB n (k * 262144 + j) (crossV H ((tos g k).take j) k (cross H (tos g) k)) := by
            have := CB.fold (H := H) (v := k) (HG.out.2.lt k hlt) ((tos g k).take j) _ _ HO.out.2.2
            rw [List.length_take, show min j (tos g k).length = j by simp [tos]; omega] at this
            exact this
          rw [ht] at hc1
          clear hok ht htt
          generalize (g k)[j].f = af at *
          generalize (g k)[j].neg = an at *
          generalize crossV H ((tos g k).take j) k (cross H (tos g) k) = s at *
          have hnew := heap_alloc_new wr (.cells #[.int .i64 af, .int .i64 t, .bool an] 36)
          have hbx : (wr.alloc (.cells #[.int .i64 af, .int .i64 t, .bool an] 36)).cell? ⟨wr.heap.size, 1, none⟩ = some (.int .i64 t) := by simp only [World.cell?, hnew]; rfl
          have hPW := hP.other (below_alloc (Below.refl wr.heap.size wr) (.cells #[.int .i64 af, .int .i64 t, .bool an] 36))
          have hbnd : k * 262144 + j ≤ 1073741824 + 262144 := by omega
          have k1 := hPW.head.cell hlt
          have k2 := hPW.head.cell htn
          have hHk := HG.out.2.lt k hlt
          have hHt := HG.out.2.lt t htn
          have HJ := Lib.hid (And.intro hsj (And.intro hPW hCBj))
          clear hnew hP hPW hsj hCBj
          go_upto_region 11 with fail
          generalize wr.alloc (.cells #[.int .i64 af, .int .i64 t, .bool an] 36) = W2 at *
          by_cases heq : H k = H t
          · have hst2 : stepC H k s t = s := if_pos heq
            have HE := Lib.hid hst2
            clear hst2
            have k2' : W2.cell? ⟨hb, t, none⟩ = some (.int .i64 (H k)) := by rw [heq]; exact k2
            clear k2 heq
            go_quiet (fail)
            go_wp2_with fail
            go_roundw
            case rel => exact ⟨j + 1, by omega, by go_num, by rw [HJ.out.1, HE.out]; exact HJ.out.2.1.other ⟨rfl, rfl, rfl, Nat.le_refl _, fun _ _ => rfl⟩⟩
            case measure => simp [intOf]; omega
          · have hst2 : stepC H k s t = ⟨upd s.waits (H k) (s.waits (H k) + 1), upd s.back (H t) (s.back (H t) ++ [H k])⟩ := if_neg heq
            have HE := Lib.hid hst2
            have hne : ¬ ((H k : Nat) : Int) = (H t : Int) := by omega
            clear hst2 heq
            generalize H k = p at *
            generalize H t = q at *
            go_quiet (fail)
            have hP3 := HJ.out.2.1.other (show Below W2.heap.size W2 (W2.drewN nq) from ⟨rfl, rfl, rfl, Nat.le_refl _, fun _ _ => rfl⟩)
            generalize W2.drewN nq = W3 at *
            have hw := HJ.out.2.2.w p
            have hl2 := HJ.out.2.2.l q
            have hP4 := hP3.setW hHk (s.waits p + 1)
            have k3 := hP3.waits.cell hHk
            have k4 := hP3.waits.fz p
            obtain ⟨A1, c1, hcs, hos, hle1, hcm1, hfz1⟩ := hP4.back.at hHt
            have hlq : ({ s with waits := upd s.waits p (s.waits p + 1) } : CS).back q = s.back q := rfl
            rw [hlq] at hcs hos hle1
            have hms := hP4.ord
            have HP4 := Lib.hid hP4
            clear hP3 hP4 hlq
            go_upto_region 14 with fail
            generalize W3.setCell ⟨wb, p, none⟩ (.int .i64 (s.waits p + 1)) = W4 at *
            have hbl := HP4.out.back.lt
            have hbn : ¬ some bb = (Value.slice A1 (s.back q).length c1).ownBlock := fun e => by have := own_base hos bb e.symm; omega
            have HCS := Lib.hid (show W4.cell? ⟨bb, q, none⟩ = some (.slice A1 (s.back q).length c1) from hcs)
            go_wp2_with (at_builtin; go_loud (refine app_own hos (Below.refl _ _) (.tmp 77) (.tmp 79) [.int .i64 p] 26 _ _ Try.underlying26 info3 (by omega) (by decide) hms.2.2.2.2.2 rfl rfl rfl (by decide) rfl rfl rfl (by simp [Value.oneCell']) ?_); intro v1 w1 ho1 hb1 hg1 hat1; obtain ⟨vA1, vc1, rfl, hvc1, hvc2⟩ := own_form ho1; have HAT := Lib.hid hat1; clear hat1; have hT1 := tch_grown hg1; have hs1 := (hT1.cell (p := ⟨bb, q, none⟩) hbl hbn).trans hcs; have hf1 := (hT1.frozen (p := ⟨bb, q, none⟩) hbl hbn).trans hfz1)
            have hP5 := HP4.out.push hHt (x := p) HCS.out hg1 ho1 HAT.out
            have HP5 := Lib.hid hP5
            clear hP5
            go_roundw
            case rel => exact ⟨j + 1, by omega, by go_num, by rw [HJ.out.1, HE.out]; exact HP5.out⟩
            case measure => simp [intOf]; omega
        · have hfull : crossV H ((tos g k).take j) k (cross H (tos g) k) = cross H (tos g) (k + 1) := by
            rw [List.take_of_length_le (by simp [tos]; omega)]
            exact HO.out.2.1.symm
          rw [hfull] at hP
          have HP := Lib.hid hP
          clear hP hfull
          go_wp2_with fail
          go_roundw
          case rel => exact ⟨k + 1, by omega, by go_num, HP.out⟩
          case measure => simp [intOf]; omega
    · have hkn : k = n := by omega
      rw [hkn] at hP
      clear hkn
      have hgr := (hP.below.cell (p := ⟨gb, 0, none⟩) hgl).trans hc0
      have HP := Lib.hid hP
      clear hP
      go_upto_region 18 with fail
      clear hgr
      have hP2 := HP.out.next
      obtain ⟨B, hBd⟩ : ∃ B, B = wr.heap.size := ⟨_, rfl⟩
      rw [← hBd] at hP2
      have HP2 := Lib.hid hP2
      clear hP2 HP hBd
      have HC := Lib.hid (CB.cross (N := 262144) (out := tos g) HG.out.2.lt (fun v hv => by have := HG.out.1.len v hv; simpa [tos] using this) n (Nat.le_refl _))
      rw [HCS0.out.1] at HP2 HC
      go_loopw [88] (fun i wr => ∃ (k : Nat) (L : List Nat), k ≤ n ∧ i = .int .i64 k ∧ P2 w0 wr n hb wb bb hx mb B H cs.waits cs.back L ∧ L.Perm (headsK H cs.waits k)) (fun i _ => n - (intOf i).toNat)
      case atStart => exact ⟨0, [], Nat.zero_le _, rfl, HP2.out, List.Perm.refl _⟩
      case round =>
        clear HP2
        obtain ⟨k2, L, hk2, rfl, hP, hL⟩ := hrel
        by_cases hlt2 : k2 < n
        · have k1 := hP.head.cell hlt2
          have k3 := hP.waits.cell hlt2
          have hsuc := headsK_succ H cs.waits k2
          have hlen : L.length < 5000 := by have := hL.length_eq; have := headsK_len H cs.waits k2; omega
          by_cases hh : H k2 = k2
          · rw [hh] at k1
            by_cases hw : cs.waits k2 = 0
            · rw [if_pos ⟨hh, hw⟩] at hsuc
              rw [hw] at k3
              have HPu := Lib.hid (hpush_calls 0 hx k2 L wr hP.ready (Nat.zero_le _) hlen hP.hp)
              have HM := Lib.hid (And.intro hP (And.intro hL hsuc))
              clear hP hL hsuc hh hw
              go_wp2_with fail
              refine HPu.out.mono ?_
              rintro e wp ⟨rfl, L', hr, hp, hi, hf⟩
              have HN := Lib.hid (And.intro (HM.out.1.heap hf hr hi) (hp.trans ((HM.out.2.1.cons k2).trans (List.perm_append_comm (l₁ := [k2]) (l₂ := headsK H cs.waits k2)))))
              clear hr hp hi hf
              go_wp2_with fail
              go_roundw
              case rel => exact ⟨k2 + 1, L', by omega, by go_num, HN.out.1, by rw [HM.out.2.2]; exact HN.out.2⟩
              case measure => simp [intOf]; omega
            · rw [if_neg (fun h => hw h.2), List.append_nil] at hsuc
              have HM := Lib.hid (And.intro hP (And.intro hL hsuc))
              clear hP hL hsuc hh
              go_wp2_with fail
              go_roundw
              case rel => exact ⟨k2 + 1, L, by omega, by go_num, HM.out.1, by rw [HM.out.2.2]; exact HM.out.2.1⟩
              case measure => simp [intOf]; omega
          · rw [if_neg (fun h => hh h.1), List.append_nil] at hsuc
            have hh' : ¬ ((H k2 : Nat) : Int) = (k2 : Int) := by omega
            have HM := Lib.hid (And.intro hP (And.intro hL hsuc))
            clear hP hL hsuc hh
            go_wp2_with fail
            go_roundw
            case rel => exact ⟨k2 + 1, L, by omega, by go_num, HM.out.1, by rw [HM.out.2.2]; exact HM.out.2.1⟩
            case measure => simp [intOf]; omega
        · have hkn2 : k2 = n := by omega
          rw [hkn2] at hL
          clear hkn2
          have hgr := (hP.below.cell (p := ⟨gb, 0, none⟩) hgl).trans hc0
          have HP := Lib.hid (And.intro hP hL)
          clear hP hL
          go_upto_region 25 with (at_make; refine make_arr (Value.int .i64) 0 _ (.tmp 113) (.tmp 113) 26 3 8 n Try.underlying26 info3 rfl rfl rfl rfl rfl (by omega) (by unfold maxLen; omega) ?_; intro w5 hA5 hB5)
          have hP3 := HP.out.1.start hA5 hB5
          generalize wr.heap.size = nb at *
          have HP3 := Lib.hid (And.intro hP3 HP.out.2)
          clear hP3 hA5 hB5 HP hgr
          have HO := Lib.hid (show s0.order = [] by rw [← HCS0.out.2]; rfl)
          go_loopw [15] (fun v wr => ∃ (i : Nat) (A : Option Addr) (c : Nat) (L : List Nat), i ≤ T ∧ v = .slice A (iterK cs.back s0 i).order.length c ∧ P3 w0 wr n hb wb bb hx mb B nb H (iterK cs.back s0 i).waits cs.back L (iterK cs.back s0 i).number v (iterK cs.back s0 i).order ∧ L.Perm (iterK cs.back s0 i).ready) (fun v _ => T - lenOf v)
          case atStart => exact ⟨0, none, 0, L, Nat.zero_le _, by rw [← HCS0.out.2]; rfl, by rw [← HCS0.out.2]; exact HP3.out.1, by rw [← HCS0.out.2]; exact HP3.out.2⟩
          case round =>
            clear HP3
            obtain ⟨i, A, c, L, hi, rfl, hP, hL⟩ := hrel
            obtain ⟨rA, rc, hrs, hro⟩ := hP.p2.ready.row
            by_cases hiT : i < T
            · have hlen := iterK_order_len cs.back s0 i HO.out
              have hne := HK.out.ne i hiT
              have hKB := HK.out.bnd i hi
              have hKM := HK.out.mid i hiT
              have hnx : stepK cs.back (iterK cs.back s0 i) = iterK cs.back s0 (i + 1) := rfl
              have hLl := hL.length_eq
              generalize iterK cs.back s0 i = st at *
              have hr0 : 0 < st.ready.length := List.length_pos_iff.2 hne
              have hl0 : 0 < L.length := by omega
              have hmin := heap_min hP.p2.hp hL hl0
              have hmm := minR_mem hne
              have hmn : minR st.ready < n := hKB.lt _ hmm
              have hpop := hpop_calls 0 hx L wr hP.p2.ready hl0 (by have := hKB.r; omega) hP.p2.hp
              rw [← hmin] at hpop
              have HPo := Lib.hid hpop
              have ho5 := hKB.o
              have HM := Lib.hid (And.intro hP (And.intro hL (And.intro hKM (And.intro hnx (And.intro hlen hmin)))))
              clear hpop hmin hP hL hKM hnx hlen hro hmm hne hLl hr0 hKB
              obtain ⟨m, hm⟩ : ∃ m, m = minR st.ready := ⟨_, rfl⟩
              rw [← hm] at HPo hmn
              have HMin := Lib.hid hm
              clear hm
              go_wp2_with fail
              refine (len_calls _ _ _ _).mono ?_
              rintro e wl ⟨rfl, rfl⟩
              have hta : ∀ W : World, (Instr.typeAssert (.iface 3 (.int .i64 m)) 20 3 false).run Try.prog W = .ok (.int .i64 m) W := fun W => by kernel_rfl
              go_wp2_with fail
              refine HPo.out.mono ?_
              rintro e wp ⟨rfl, L', hr, hp, hi', hf⟩
              have hP5 := HM.out.1.heap hf hr hi'
              have hL5 := perm_erase HM.out.2.1 hp
              have k1 := hP5.num.cell hmn
              have k2 := hP5.num.fz m
              have hP6 := hP5.setN hmn st.order.length
              have HP6 := Lib.hid (And.intro hP6 hL5)
              clear hrs hr hp hi' hf hP5 hP6 hL5
              go_upto_region 28 with fail
              generalize wp.setCell ⟨nb, m, none⟩ (.int .i64 st.order.length) = W6 at *
              have hrow := HP6.out.1.row
              have hnl := HP6.out.1.num.lt
              go_upto_region 29 with (at_builtin; go_loud (refine app_own hrow (Below.refl _ _) (.tmp 129) (.tmp 131) [.int .i64 m] 26 _ _ Try.underlying26 info3 (by omega) (by decide) hnl rfl rfl rfl (by decide) rfl rfl rfl (by simp [Value.oneCell']) ?_); intro v1 w1 ho1 hb1 hg1 hat1; have HAT := Lib.hid hat1; clear hat1; obtain ⟨vA1, vc1, rfl, hvc1, hvc2⟩ := own_form ho1)
              have hP7 := HP6.out.1.app (x := m) hg1 ho1 HAT.out
              obtain ⟨bA, bc, hbs, hbo, hb1', hb2', hbB⟩ := hP7.p2.back m hmn
              have HP7 := Lib.hid (And.intro hP7 HP6.out.2)
              have hbl := HC.out.l m
              clear hP7 hrow hnl HP6 ho1 hb1 hg1 HAT hbo hbB
              go_wp2_with fail
              go_loopw [138] (fun v wr => ∃ (j : Nat) (L : List Nat), j ≤ (cs.back m).length ∧ v = .int .i64 j ∧ P3 w0 wr n hb wb bb hx mb B nb H (inK cs.back st j).waits cs.back L (upd st.number m st.order.length) (.slice vA1 (st.order.length + 1) vc1) (st.order ++ [m]) ∧ L.Perm (inK cs.back st j).ready ∧ wr.cell? ⟨bb, m, none⟩ = some (.slice bA (cs.back m).length bc)) (fun v _ => (cs.back m).length - (intOf v).toNat)
              case atStart => exact ⟨0, L', Nat.zero_le _, rfl, by rw [inK_zero]; exact HP7.out.1, by rw [inK_zero]; have := HP7.out.2; rw [HMin.out] at this; exact this, hbs⟩
              case round =>
                clear HP7 hbs
                obtain ⟨j, L8, hj, rfl, hP, hL, hbs⟩ := hrel
                by_cases hjt : j < (cs.back m).length
                · have hjm : j < (cs.back (minR st.ready)).length := by rw [← HMin.out]; exact hjt
                  have hsuc := inK_succ cs.back st j hjm
                  obtain ⟨x, hx0⟩ : ∃ x, x = (cs.back m)[j] := ⟨_, rfl⟩
                  have hxe : (cs.back (minR st.ready))[j] = x := by rw [hx0]; simp only [HMin.out]
                  rw [hxe] at hsuc
                  have hxn : x < n := by rw [hx0]; exact HC.out.lt m _ (List.getElem_mem _)
                  have hKj := HM.out.2.2.1 j (Nat.le_of_lt hjm)
                  obtain ⟨bA', bc', hbs', hbo, hb1, hb2, hbB⟩ := hP.p2.back m hmn
                  rw [hbs] at hbs'
                  obtain ⟨rfl, _, rfl⟩ := Value.slice.inj (Option.some.inj hbs')
                  obtain ⟨bg, rfl⟩ := nvs_form hbo (by omega)
                  have kx := nvs_cell hbo hjt
                  rw [gN_at hjt, ← hx0] at kx
                  clear hx0 hxe hbs' hbo hbB hjm hb1 hb2
                  generalize inK cs.back st j = sj at *
                  have hwx := hKj.w x
                  have hlr := hKj.r
                  have hLlen := hL.length_eq
                  have k1 := hP.p2.waits.cell hxn
                  have k2 := hP.p2.waits.fz x
                  have hP2 := hP.setW hxn (sj.waits x - 1)
                  have hord := hP.p2.ord
                  have kw := hP2.p2.waits.cell hxn
                  rw [upd_same] at kw
                  have hbs2 : (wr.setCell ⟨wb, x, none⟩ (.int .i64 (sj.waits x - 1))).cell? ⟨bb, m, none⟩ = some (.slice (some ⟨bg, 0, none⟩) (cs.back m).length bc) := (World.cell?_setCell_other wr _ _ _ (fun e => by have : wb = bb := congrArg Addr.block e; omega)).trans hbs
                  have hLR : L8.length < 5000 := by omega
                  have hPu := hpush_calls 0 hx x L8 (wr.setCell ⟨wb, x, none⟩ (.int .i64 (sj.waits x - 1))) hP2.p2.ready (Nat.zero_le _) hLR hP2.p2.hp
                  have HJ := Lib.hid (And.intro hP2 (And.intro hbs2 (And.intro hL (And.intro hsuc hPu))))
                  clear hP2 hbs2 hL hsuc hP hbs hPu hKj hlr hLlen hLR
                  by_cases hz : sj.waits x - 1 = 0
                  · have HJ2 := HJ.out
                    have hl : (lowK sj x).waits = upd sj.waits x 0 := by show upd sj.waits x (sj.waits x - 1) = _; rw [hz]
                    have hlr : (lowK sj x).ready = x :: sj.ready := by show (if sj.waits x - 1 = 0 then x :: sj.ready else sj.ready) = _; rw [if_pos hz]
                    rw [hz] at HJ2 kw
                    have HJ := Lib.hid (And.intro HJ2 (And.intro hl hlr))
                    clear HJ2 hl hlr
                    rename_i HJo
                    clear HJo
                    go_wp2_with fail
                    refine HJ.out.1.2.2.2.2.mono ?_
                    rintro e wp ⟨rfl, L9, hr, hp, hi', hf⟩
                    have HN := Lib.hid (And.intro (HJ.out.1.1.heap hf hr hi') (And.intro (hp.trans (HJ.out.1.2.2.1.cons x)) ((HJ.out.1.1.p2.bcell hf hmn).trans HJ.out.1.2.1)))
                    clear hr hp hi' hf
                    go_wp2_with fail
                    go_roundw
                    case rel => exact ⟨j + 1, L9, by omega, by go_num, by rw [HJ.out.1.2.2.2.1, HJ.out.2.1]; exact HN.out.1, by rw [HJ.out.1.2.2.2.1, HJ.out.2.2]; exact HN.out.2.1, HN.out.2.2⟩
                    case measure => simp [intOf]; omega
                  · go_wp2_with fail
                    go_roundw
                    case rel => exact ⟨j + 1, L8, by omega, by go_num, by rw [HJ.out.2.2.2.1]; exact HJ.out.1, by rw [HJ.out.2.2.2.1]; show L8.Perm (if sj.waits x - 1 = 0 then x :: sj.ready else sj.ready); rw [if_neg hz]; exact HJ.out.2.2.1, HJ.out.2.1⟩
                    case measure => simp [intOf]; omega
                · have hfull := inK_all cs.back st j (by rw [← HMin.out]; omega)
                  rw [hfull] at hP hL
                  have hord := stepK_order cs.back st
                  have hnum : (stepK cs.back st).number = upd st.number (minR st.ready) st.order.length := fold_lowK_number _ _
                  have HN := Lib.hid (And.intro hP (And.intro hL (And.intro hord hnum)))
                  clear hP hL hord hnum hfull hbs
                  go_wp2_with fail
                  go_roundw
                  case rel =>
                    refine ⟨i + 1, vA1, vc1, L8, hiT, ?_, ?_, ?_⟩
                    · rw [← HM.out.2.2.2.1, HN.out.2.2.1, List.length_append]; rfl
                    · rw [← HM.out.2.2.2.1, HN.out.2.2.1, HN.out.2.2.2, ← HMin.out]; exact HN.out.1
                    · rw [← HM.out.2.2.2.1]; exact HN.out.2.1
                  case measure => have := HM.out.2.2.2.2.1; simp [lenOf]; omega
            · have hiT2 : i = T := by omega
              subst hiT2
              have hfin := HK.out.fin
              rw [hfin] at hL
              obtain rfl : L = [] := hL.eq_nil
              have hl0 : ([] : List Nat).length = 0 := rfl
              have hgr := (hP.p2.below.cell (p := ⟨gb, 0, none⟩) hgl).trans hc0
              have HN := Lib.hid hP
              clear hP hL hfin hro
              obtain ⟨st, hst⟩ : ∃ st, st = iterK cs.back s0 i := ⟨_, rfl⟩
              rw [← hst] at HN ⊢
              have HST := Lib.hid hst
              clear hst
              rw [hl0] at hrs
              go_wp2_with fail
              refine (len_calls _ _ _ _).mono ?_
              rintro e wl ⟨rfl, rfl⟩
              go_upto_region 38 with (at_make; refine make_arr (Value.int .i64) 0 _ (.tmp 162) (.tmp 162) 26 3 8 n Try.underlying26 info3 rfl rfl rfl rfl rfl (by omega) (by unfold maxLen; omega) ?_; intro w5 hA5 hB5; have hgr5 := (hB5.cell (p := ⟨gb, 0, none⟩) (World.block_lt_of_cell? wr _ hgr)).trans hgr)
              have hP4 := HN.out.next hA5 hB5
              generalize wr.heap.size = ob4 at *
              have HP4 := Lib.hid hP4
              clear hP4 hA5 hB5 hgr5 hgr hrs HN
              go_loopw [168] (fun v wr => ∃ k : Nat, k ≤ n ∧ v = .int .i64 k ∧ P4 w0 wr n hb nb ob4 H st.number (.slice A st.order.length c) st.order k) (fun v _ => n - (intOf v).toNat)
              case atStart => exact ⟨0, Nat.zero_le _, rfl, HP4.out⟩
              case round =>
                clear HP4
                obtain ⟨k4, hk4, rfl, hP⟩ := hrel
                by_cases hlt4 : k4 < n
                · have k1 := hP.head.cell hlt4
                  have hHk := HG.out.2.lt k4 hlt4
                  have k2 := hP.num.cell hHk
                  have k3 := hP.out.cell hlt4
                  have k5 := hP.out.fz k4
                  have HP := Lib.hid (hP.set hlt4)
                  clear hP
                  generalize H k4 = p at *
                  go_wp2_with fail
                  go_roundw
                  case rel => exact ⟨k4 + 1, by omega, by go_num, HP.out⟩
                  case measure => simp [intOf]; omega
                · have hkn4 : k4 = n := by omega
                  rw [hkn4] at hP
                  have HP := Lib.hid hP
                  clear hP hkn4
                  go_wp2_with fail
                  go_ret2
                  have hP := HP.out
                  have ho := hP.ord
                  rw [← HST.out]
                  exact ⟨⟨ob4, _, rfl, by omega, hP.out.congr (fun i hi => by simp [hi]), own_mono hP.row (by omega), hP.av⟩, hP.below⟩
