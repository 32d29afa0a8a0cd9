/- Strata: the walk of the visit of a node. -/
import Derived.Test.YtnhnckhjcnjacaaSv
namespace Go.Proofs.Ytnhnckhjcnjacaa.ST
open Go.RowKit Go.Proofs.YtnhnckhjcnjacaaKw Go.Proofs.YtnhnckhjcnjacaaSg Go.Proofs.YtnhnckhjcnjacaaSw
set_option linter.unusedVariables false
set_option linter.unusedSimpArgs false

/-- Where a node's arcs lead. -/
def tos (g : Nat → List AI) (v : Nat) : List Nat := (g v).map fun a => a.t.toNat
/-- A graph whose arcs are between its nodes. -/
structure GraphI (w0 : World) (gb ob base n : Nat) (g : Nat → List AI) : Prop where
  rep : GraphR w0 gb ob base n g
  ok : ∀ v, v < n → ∀ a ∈ g v, 0 ≤ a.t ∧ a.t < n
  len : ∀ v, v < n → (g v).length ≤ 262144
  small : n ≤ 4096
theorem tos_lt {w0 : World} {gb ob base n : Nat} {g : Nat → List AI} (h : GraphI w0 gb ob base n g) : ∀ v < n, ∀ t ∈ tos g v, t < n := by
  intro v hv t ht
  obtain ⟨a, ha, rfl⟩ := List.mem_map.1 ht
  have := h.ok v hv a ha
  omega
def foldV (g : Nat → List AI) (n f v : Nat) (s : TS) (k : Nat) : TS := ((tos g v).take k).foldl (stepS (visit (tos g) n f) v) (pushS v s)
theorem foldV_succ (g : Nat → List AI) (n f v : Nat) (s : TS) (k : Nat) (h : k < (g v).length) : foldV g n f v s (k + 1) = stepS (visit (tos g) n f) v (foldV g n f v s k) ((g v)[k].t.toNat) := by
  unfold foldV
  have hk : k < (tos g v).length := by simpa [tos] using h
  rw [List.take_succ_eq_append_getElem hk, List.foldl_append]
  simp [tos]
theorem foldV_all (g : Nat → List AI) (n f v : Nat) (s : TS) : visit (tos g) n (f + 1) v s = if (foldV g n f v s (g v).length).low v = (foldV g n f v s (g v).length).seen v then popF n v (foldV g n f v s (g v).length) else foldV g n f v s (g v).length := by
  have e : foldV g n f v s (g v).length = (tos g v).foldl (stepS (visit (tos g) n f) v) (pushS v s) := by
    unfold foldV
    rw [List.take_of_length_le (by simp [tos])]
  rw [e]
  rfl
theorem foldV_mid {w0 : World} {gb ob base n : Nat} {g : Nat → List AI} (hG : GraphI w0 gb ob base n g) {f v : Nat} {s : TS} (hl : Lt n s) (hv : v < n) (hs : s.seen v = 0) (hu : unseen n s ≤ f + 1) (k : Nat) : Mid n v s (foldV g n f v s k) := by
  have h1 := unseen_push hv hs hl.at0
  exact mid_fold (fun t s h1 h2 h3 h4 => visit_lt (tos g) n (tos_lt hG) f t s h1 h2 h3 h4) (by omega) _ _ (push_lt hl hv hs).2 fun t ht => tos_lt hG v hv t (List.mem_of_mem_take ht)
set_option maxHeartbeats 4000000 in
set_option maxRecDepth 100000 in
theorem visit_calls (w0 : World) (F : Fr) (ob base : Nat) (g : Nat → List AI) (hG : GraphI w0 F.gb ob base F.n g) : ∀ (f v : Nat) (s : TS) (w : World), RepT w0 w F s → Lt F.n s → v < F.n → s.seen v = 0 → unseen F.n s ≤ f →
    Calls Try.prog 49 #[.int .i64 v, ptr F.xpush, ptr F.xg, ptr F.xseen, ptr F.xvisit, ptr F.xlow, ptr F.xpop] w fun e w' => e = .returned (.tuple #[]) ∧ RepT w0 w' F (visit (tos g) F.n f v s) ∧ Fram w w' F := by
  intro f
  induction f with
  | zero =>
    intro v s w h hl hv hs hu
    have := unseen_push hv hs hl.at0
    omega
  | succ f ih =>
    intro v s w h hl hv hs hu
    have hmid := fun k => foldV_mid hG hl hv hs hu k
    have hsm := hG.small
    have hln := hG.len v hv
    have hst := hl.len
    have hat0 := hl.at0
    have hatn := hl.atn
    have hxp := h.xpush
    have HM := Lib.hid (And.intro hmid (And.intro hs (And.intro hu (And.intro hl (And.intro hG ih)))))
    have H := Lib.hid h
    clear hmid hs hu hl hG ih h
    go_enter Try.func49, Try.ntmps49
    go_wp2_with fail
    refine (push_calls w0 F s v w H.out hv hat0 (by omega) (by omega) (by omega)).mono ?_
    rintro e w1 ⟨rfl, hR1, hF1⟩
    obtain ⟨A', c', hcs0, hos0, hle, hcm, hfz0⟩ := HM.out.2.2.2.2.1.rep.mat.at hv
    have hgr := HM.out.2.2.2.2.1.rep.keep hR1.below
    have hxg := hR1.xg
    have hgc1 := hgr.c1
    have hcs1 := (hR1.below.cell (p := ⟨ob, v, none⟩) HM.out.2.2.2.2.1.rep.mat.lt).trans hcs0
    have HO := Lib.hid hos0
    have HF := Lib.hid hF1
    have HR := Lib.hid (show RepT w0 w1 F (foldV g F.n f v s 0) from hR1)
    clear hos0 hF1 hR1 hfz0 hcs0 hgr hxp
    go_wp2_with fail
    clear hxg hgc1 hcs1
    go_loopw [21] (fun i wr => ∃ k : Nat, k ≤ (g v).length ∧ i = .int .i64 k ∧ RepT w0 wr F (foldV g F.n f v s k) ∧ Fram w wr F) (fun i _ => (g v).length - (intOf i).toNat)
    case atStart => exact ⟨0, Nat.zero_le _, rfl, HR.out, HF.out⟩
    case round =>
      clear HR HF
      obtain ⟨k, hk, rfl, hR, hF⟩ := hrel
      by_cases hlt : k < (g v).length
      · obtain ⟨b, off, rfl, hc0, hc1, hc2⟩ := rd_arc (own_rd (own_keep HO.out hR.below)) hlt
        have hsucc := foldV_succ g F.n f v s k hlt
        have hok := HM.out.2.2.2.2.1.ok v hv _ (List.getElem_mem hlt)
        obtain ⟨t, ht⟩ := Int.eq_ofNat_of_zero_le hok.1
        have htn : t < F.n := by omega
        rw [ht] at hc1 hsucc
        rw [Int.toNat_natCast] at hsucc
        clear hok ht
        generalize (g v)[k].f = af at *
        generalize (g v)[k].neg = an at *
        have hnew := heap_alloc_new wr (.cells #[.int .i64 af, .int .i64 t, .bool an] 36)
        have hbx : (wr.alloc (.cells #[.int .i64 af, .int .i64 t, .bool an] 36)).cell? ⟨wr.heap.size, 1, none⟩ = some (.int .i64 t) := by simp only [World.cell?, hnew]; rfl
        have hRW := hR.other (below_alloc (Below.refl wr.heap.size wr) (.cells #[.int .i64 af, .int .i64 t, .bool an] 36))
        have hFW := hF.trans (Fram.other (below_alloc (Below.refl wr.heap.size wr) (.cells #[.int .i64 af, .int .i64 t, .bool an] 36)) hR.lts.2.2.2.2.1)
        have hout : wr.heap.size ∉ F.all ∧ ¬ RowB (wr.alloc (.cells #[.int .i64 af, .int .i64 t, .bool an] 36)) F wr.heap.size := by
          have l := hR.lts
          refine ⟨fun hm => ?_, fun hm => ?_⟩
          · simp only [Fr.all, List.mem_cons, List.not_mem_nil, or_false] at hm
            omega
          · obtain ⟨sA, c0, hs0, ho0, _⟩ := hR.row
            obtain ⟨sA', n', c1', hs1, hg1⟩ := hm
            rw [World.cell?_alloc_lt wr _ _ l.2.2.2.2.1, hs0] at hs1
            cases hs1
            have := (ho0.lt _ hg1).2
            omega
        have hbl : wr.heap.size < (wr.alloc (.cells #[.int .i64 af, .int .i64 t, .bool an] 36)).heap.size := by simp
        have kse := hRW.seen.cell htn
        have kxs := hRW.xseen
        have kxv := hRW.xvisit
        have HW := Lib.hid (And.intro hRW (And.intro hFW hout))
        clear hnew hR hF hRW hFW hout
        have hunf : unseen F.n (foldV g F.n f v s k) ≤ f := by
          have h1 := unseen_push hv HM.out.2.1 hat0
          have h2 := (HM.out.1 k).unseen
          have h3 := HM.out.2.2.1
          omega
        have hlt1 := (HM.out.1 k).lt
        have HU := Lib.hid (And.intro hunf hlt1)
        clear hunf hlt1
        go_upto_region 4 with fail
        generalize wr.alloc (.cells #[.int .i64 af, .int .i64 t, .bool an] 36) = W at *
        by_cases hs0 : (foldV g F.n f v s k).seen t = 0
        rw [hs0] at kse
        have HS0 := Lib.hid hs0
        clear hs0
        go_wp2_with fail
        refine (HM.out.2.2.2.2.2 t (foldV g F.n f v s k) W HW.out.1 HU.out.2 htn HS0.out HU.out.1).mono ?_
        rintro e w2 ⟨rfl, hR2, hF2⟩
        have hbx2 := (hF2.tch.cell (p := ⟨wr.heap.size, 1, none⟩) hbl (fun hs => hs.elim HW.out.2.2.1 HW.out.2.2.2)).trans hbx
        have hF3 := HW.out.2.1.trans hF2
        have HE := Lib.hid (show foldV g F.n f v s (k + 1) = lowerS v t (visit (tos g) F.n f t (foldV g F.n f v s k)) by rw [hsucc, stepS, if_pos HS0.out])
        clear hsucc kse kxs kxv hF2 hbx
        generalize visit (tos g) F.n f t (foldV g F.n f v s k) = s2 at *
        rotate_left
        have HE := Lib.hid (show foldV g F.n f v s (k + 1) = lowerS v t (foldV g F.n f v s k) by rw [hsucc, stepS, if_neg hs0])
        have hR2 := HW.out.1
        have hF3 := HW.out.2.1
        have hbx2 := hbx
        have hne0 : ((foldV g F.n f v s k).seen t == 0) = false := by simpa using hs0
        go_wp2_with fail
        clear hsucc hbx hs0
        generalize foldV g F.n f v s k = s2 at *
        generalize hw2 : W = w2 at *
        clear hw2
        all_goals
          have k1 := hR2.xlow
          have k2 := hR2.low.cell hv
          have k3 := hR2.low.cell htn
          have k4 := hR2.low.fz v
          have hset := hR2.setLow hv (min (s2.low v) (s2.low t))
          have HL := Lib.hid (And.intro (hset.drewN 1) ((hF3.trans (Fram.set (a := ⟨F.lb, v, none⟩) (u := .int .i64 (min (s2.low v) (s2.low t))) (mem_all F).2.2.2.2.2.2.2.2.2.1 (hR2.ne.1.2.2.2.2.1))).trans (Fram.other (drew_below _) (by have := hset.lts; simp; simp at this; omega))))
          clear hset hF3 hR2
          by_cases hmin : s2.low t < s2.low v
          have hm := Lib.hid (show min (s2.low v) (s2.low t) = s2.low t by omega)
          rw [hm.out] at HL
          rotate_left
          have hm := Lib.hid (show min (s2.low v) (s2.low t) = s2.low v by omega)
          rw [hm.out] at HL
          all_goals
            go_wp2_with fail
            go_still_tail 12, (by kernel_rfl)
            go_wp2_with fail
            go_roundw
            case rel => exact ⟨k + 1, by omega, by go_num, by rw [HE.out, lowerS, hm.out]; exact HL.out.1, HL.out.2⟩
            case measure => simp [intOf]; omega
      · obtain rfl : k = (g v).length := by omega
        have hall := foldV_all g F.n f v s
        have hmk := HM.out.1 (g v).length
        obtain ⟨T, hT, hT2⟩ := hmk.ext
        have hvT := mid_notin (v := v) (s0 := s) hat0 hT2
        have hstk := hmk.lt.stk
        have hlen := hmk.lt.len
        have k1 := hR.xlow
        have k2 := hR.low.cell hv
        have k3 := hR.xseen
        have k4 := hR.seen.cell hv
        have kxp := hR.xpop
        have hgn : w0.cell? ⟨F.gb, 0, none⟩ = some (.int .i64 F.n) := HM.out.2.2.2.2.1.rep.c0
        have HT := Lib.hid (And.intro hT (And.intro hvT (And.intro (show ∀ x ∈ v :: T, x < F.n from fun x hx => (hstk x (by rw [hT]; exact List.mem_append_right _ hx)).1) (And.intro hlen hgn))))
        have HR := Lib.hid (And.intro hR hF)
        clear hR hF hT hT2 hvT hmk hstk hlen hgn hlt hk
        generalize foldV g F.n f v s (g v).length = s1 at *
        by_cases heq : s1.low v = s1.seen v
        · rw [if_pos heq, popF_eq F.n v s1 s.stack T HT.out.1 HT.out.2.1] at hall
          have HA := Lib.hid hall
          have hd : decide (s1.low v = s1.seen v) = true := decide_eq_true heq
          rw [heq] at k2
          clear hall heq hd
          go_wp2_with fail
          go_quiet (fail)
          go_wp2_with fail
          refine (pop_calls w0 F s1 s.stack v T _ (HR.out.1.drewN _) HT.out.1 HT.out.2.1 HT.out.2.2.1 (by omega) (by have := HT.out.2.2.2.1; omega) HT.out.2.2.2.2).mono ?_
          rintro e w3 ⟨rfl, hR3, hF3⟩
          rw [← HA.out] at hR3
          have HF := Lib.hid (And.intro hR3 (HR.out.2.trans (by refine Fram.trans ?_ hF3; exact Fram.other ⟨rfl, rfl, rfl, Nat.le_refl _, fun _ _ => rfl⟩ HR.out.1.lts.2.2.2.2.1)))
          clear hR3 hF3
          go_wp2_with fail
          go_end0
          exact ⟨rfl, HF.out⟩
        · rw [if_neg heq] at hall
          have HA := Lib.hid hall
          have hd : (s1.low v == s1.seen v) = false := by simpa using heq
          clear hall heq
          go_wp2_with fail
          go_quiet (fail)
          go_wp2_with fail
          go_end0
          exact ⟨rfl, by rw [HA.out]; exact HR.out.1.drewN _, HR.out.2.trans (Fram.other ⟨rfl, rfl, rfl, Nat.le_refl _, fun _ _ => rfl⟩ HR.out.1.lts.2.2.2.2.1)⟩
end Go.Proofs.Ytnhnckhjcnjacaa.ST
