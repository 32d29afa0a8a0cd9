/- The law RecallCaches: its walk. -/
import Derived.Test.YtdbccemllaehjaaRDi
import Derived.StillTailTactics
namespace Go.Proofs.Ytdbccemllaehjaa.RD2
open Go.RowKit Go.Proofs.YtdbccemllaehjaaKw
open RK (ivs ivs_len rd_int rd_intc ivs_snoc info3)
set_option linter.unusedVariables false
set_option linter.unusedSimpArgs false
/-- The first place of a key, and its value. -/
def FirstAt (l : List (Int × ByteArray)) (key : Int) (v : ByteArray) : Prop := ∃ i, ∃ hi : i < l.length, l[i].1 = key ∧ l[i].2 = v ∧ ∀ j, (hj : j < i) → l[j].1 ≠ key
theorem find_any (l : List (Int × ByteArray)) (key : Int) (h : ∃ p ∈ l, p.1 = key) : ∃ v, (toV l).find? (fun p => decide (p.1 = key)) = some (key, .string v) ∧ FirstAt l key v := by
  obtain ⟨i, hi, h1, h2⟩ := first_at l key h
  exact ⟨_, find_first l key i hi h1 h2, i, hi, h1, rfl, h2⟩
theorem ref_get (qc : Nat) (most : Int) (A : Option Addr) (c : Nat) (l : List (Int × ByteArray)) (key : Int) (v : ByteArray) (w : World) (h : RefR w qc most A c l) (hl : l.length ≤ 5000) (hf : FirstAt l key v) :
    Calls Try.prog 28 #[.pointer (some ⟨qc, 0, none⟩), .int .i64 key] w fun e w' => e = .returned (.tuple #[.string v, .bool true]) ∧ RefPost w qc most ((key, v) :: wo l key) w' := by
  obtain ⟨i, hi, h1, rfl, h2⟩ := hf
  exact get_found qc most A c l key w h hl i hi h1 h2
/-- The state of the law's first and second loop. -/
def ManyN (w0 w : World) (pb qb n : Nat) : Prop := ∃ ds : List PD, ds.length = n ∧ Many w0 w pb qb ds
set_option maxHeartbeats 8000000 in
set_option maxRecDepth 100000 in
theorem law_calls (m0 m1 : Int) (A : Option Addr) (c : Nat) (ops : List OpR) (w : World) (hr : Rd w A (opv ops)) (hl : ops.length * 40 ≤ 140737488351232)
    (hb : ∀ o ∈ ops, (-9223372036854775808 ≤ o.on ∧ o.on ≤ 9223372036854775807) ∧ (-9223372036854775808 ≤ o.kind ∧ o.kind ≤ 9223372036854775807) ∧ (-9223372036854775808 ≤ o.key ∧ o.key ≤ 9223372036854775807)) :
    Calls Try.prog 5 #[.agg #[.int .i64 m0, .int .i64 m1], .slice A ops.length c] w fun e w' => e = .returned (.bool true) ∧ Below w.heap.size w w' := by
  have hbw := below_alloc (Below.refl w.heap.size w) (.cells #[.int .i64 m0, .int .i64 m1] 30)
  have hnew := heap_alloc_new w (.cells #[.int .i64 m0, .int .i64 m1] 30)
  have hm0 : (w.alloc (.cells #[.int .i64 m0, .int .i64 m1] 30)).cell? ⟨w.heap.size, 0, none⟩ = some (.int .i64 m0) := by simp only [World.cell?, hnew]; rfl
  have hm1 : (w.alloc (.cells #[.int .i64 m0, .int .i64 m1] 30)).cell? ⟨w.heap.size, 1, none⟩ = some (.int .i64 m1) := by simp only [World.cell?, hnew]; rfl
  have hmk : ∀ k : Nat, k < 2 → ∃ a, (w.alloc (.cells #[.int .i64 m0, .int .i64 m1] 30)).cell? ⟨w.heap.size, k, none⟩ = some (.int .i64 a) := by
    intro k hk
    rcases (show k = 0 ∨ k = 1 by omega) with rfl | rfl
    · exact ⟨_, hm0⟩
    · exact ⟨_, hm1⟩
  have HMK := Lib.hid hmk
  have hws : w.heap.size < (w.alloc (.cells #[.int .i64 m0, .int .i64 m1] 30)).heap.size := by simp
  clear hnew hm0 hm1 hmk
  have hrd := hr.keep hbw
  have HB := Lib.hid hb
  have HBW := Lib.hid hbw
  clear hr hb hbw
  go_enter Try.func5, Try.ntmps5
  go_wp2_with fail
  have hst := Many.start (w.alloc (.cells #[.int .i64 m0, .int .i64 m1] 30))
  have hws2 : (w.alloc (.cells #[.int .i64 m0, .int .i64 m1] 30)).heap.size = w.heap.size + 1 := by simp
  generalize w.alloc (.cells #[.int .i64 m0, .int .i64 m1] 30) = w0 at *
  generalize (w0.alloc (.cells #[.pointer none, .pointer none] 33)).alloc (.cells #[.pointer none, .pointer none] 35) = w1 at *
  rw [hws2] at hst
  clear hws2
  have HST := Lib.hid hst
  clear hst
  generalize w.heap.size + 1 = pb at *
  generalize pb + 1 = qb at *
  go_loopw [7] (fun i wr => ∃ k : Nat, k ≤ 2 ∧ i = .int .i64 k ∧ ManyN w0 wr pb qb k) (fun i _ => 2 - (intOf i).toNat)
  case atStart => exact ⟨0, by omega, rfl, [], rfl, HST.out⟩
  case round =>
    clear HST
    obtain ⟨k, hk, rfl, ds, hds, hM⟩ := hrel
    by_cases hlt : k < 2
    · obtain ⟨a, ha⟩ := HMK.out k hlt
      have hak : wr.cell? ⟨w.heap.size, k, none⟩ = some (.int .i64 a) := (hM.below.cell (p := ⟨w.heap.size, k, none⟩) hws).trans ha
      obtain ⟨⟨vp, hvp⟩, hfp⟩ := hM.cp k hlt
      obtain ⟨⟨vq, hvq⟩, hfq⟩ := hM.cq k hlt
      have hpl := hM.plt
      have hql := hM.qlt
      clear ha
      have HM := Lib.hid (And.intro hds hM)
      clear hds hM
      by_cases hbad : a < 1 ∨ 4096 < a
      · go_wp2_with fail
        refine (Ca.new_none a hbad wr).mono ?_
        rintro e wr2 ⟨rfl, rfl⟩
        go_wp2_with fail
        refine (new_bad a hbad wr).mono ?_
        rintro e wr2 ⟨rfl, rfl⟩
        clear hbad hak
        go_wp2_with fail
        refine (Ca.new_calls 2 (by omega) (by omega) wr).mono ?_
        rintro e w3 ⟨rfl, hC3, hb3⟩
        have HC := Lib.hid hC3
        clear hC3
        go_wp2_with fail
        refine (new_ok 2 (by omega) (by omega) w3).mono ?_
        rintro e w4 ⟨rfl, hR4, hb4⟩
        obtain ⟨hp1, hp2, hp3⟩ := mk_pair (most := 2) (by omega) (by omega) HC.out hb3 hR4 hb4
        have hadd := HM.out.2.add hp2 hp1 hp3 HM.out.1.symm hlt
        have hvp4 := (hp2.cell (p := ⟨pb, k, none⟩) hpl).trans hvp
        have hfp4 := (hp2.frozen (p := ⟨pb, k, none⟩) hpl).trans hfp
        have hvq4 := (hp2.cell (p := ⟨qb, k, none⟩) hql).trans hvq
        have hfq4 := (hp2.frozen (p := ⟨qb, k, none⟩) hql).trans hfq
        have hne := HM.out.2.ne
        have HA := Lib.hid hadd
        clear hadd hp1 hp2 hp3 hR4 hb4 hb3 hvp hfp hvq hfq
        go_wp2_with fail
        go_roundw
        case rel => exact ⟨k + 1, by omega, by go_num, _, by simp [HM.out.1], HA.out⟩
        case measure => simp [intOf]; omega
      · obtain ⟨n, rfl⟩ := Int.eq_ofNat_of_zero_le (show 0 ≤ a by omega)
        have hn1 : 1 ≤ n := by omega
        have hn2 : n ≤ 4096 := by omega
        clear hbad
        go_wp2_with fail
        refine (Ca.new_calls n (by omega) (by omega) wr).mono ?_
        rintro e w3 ⟨rfl, hC3, hb3⟩
        have hak3 := (hb3.cell (p := ⟨w.heap.size, k, none⟩) (World.block_lt_of_cell? wr _ hak)).trans hak
        have HC := Lib.hid hC3
        clear hC3
        go_wp2_with fail
        refine (new_ok n (by omega) (by omega) w3).mono ?_
        rintro e w4 ⟨rfl, hR4, hb4⟩
        obtain ⟨hp1, hp2, hp3⟩ := mk_pair (most := n) hn1 hn2 HC.out hb3 hR4 hb4
        have hadd := HM.out.2.add hp2 hp1 hp3 HM.out.1.symm hlt
        have hvp4 := (hp2.cell (p := ⟨pb, k, none⟩) hpl).trans hvp
        have hfp4 := (hp2.frozen (p := ⟨pb, k, none⟩) hpl).trans hfp
        have hvq4 := (hp2.cell (p := ⟨qb, k, none⟩) hql).trans hvq
        have hfq4 := (hp2.frozen (p := ⟨qb, k, none⟩) hql).trans hfq
        have hne := HM.out.2.ne
        have HA := Lib.hid hadd
        clear hadd hp1 hp2 hp3 hR4 hb4 hb3 hvp hfp hvq hfq hak hak3
        go_wp2_with fail
        go_roundw
        case rel => exact ⟨k + 1, by omega, by go_num, _, by simp [HM.out.1], HA.out⟩
        case measure => simp [intOf]; omega
    · have HM := Lib.hid (And.intro (hds.trans (show k = 2 by omega)) hM)
      have hk' : decide (k < 2) = false := by simpa using hlt
      clear hds hM
      go_wp2_with fail
      clear hk' hlt hk
      go_loopw [12] (fun i wr => ∃ k : Nat, k ≤ ops.length ∧ i = .int .i64 k ∧ ManyN w0 wr pb qb 2) (fun i _ => ops.length - (intOf i).toNat)
      case atStart => exact ⟨0, Nat.zero_le _, rfl, _, HM.out.1, HM.out.2⟩
      case round =>
        clear HM
        obtain ⟨i, hi, rfl, ds, hds, hM⟩ := hrel
        by_cases hlt : i < ops.length
        · obtain ⟨b, off, rfl, hc0, hc1, hc2, hc3⟩ := rd_op (hrd.keep hM.below) hlt
          obtain ⟨⟨hb1, hb2⟩, ⟨hb3, hb4⟩, ⟨hb5, hb6⟩⟩ := HB.out ops[i] (List.getElem_mem hlt)
          obtain ⟨on, hon0, hon1, hpick⟩ := pick6 ops[i].on hb1 hb2 2 (by omega) (by omega) wr
          obtain ⟨m, rfl⟩ := Int.eq_ofNat_of_zero_le hon0
          have hm2 : m < 2 := by omega
          obtain ⟨d, hd⟩ : ∃ d, ds[m]? = some d := ⟨_, List.getElem?_eq_getElem (by omega)⟩
          obtain ⟨hpm, hqm, hok⟩ := hM.pc m d hd
          have hstep := step_calls d.bc d.bm d.most d.qc d.c d.A d.l d.L ops[i].on ops[i].kind ops[i].key ops[i].v wr.drew (Pair.other hok (show Below wr.heap.size wr wr.drew from ⟨rfl, rfl, rfl, Nat.le_refl _, fun _ _ => rfl⟩)) hb3 hb4 hb5 hb6
          have hMd := hM.other (show Below wr.heap.size wr wr.drew from ⟨rfl, rfl, rfl, Nat.le_refl _, fun _ _ => rfl⟩)
          have HS := Lib.hid hstep
          have HM := Lib.hid (And.intro hds (And.intro hMd hd))
          clear hds hM hd hstep hok hMd hb1 hb2 hb3 hb4 hb5 hb6 hon0
          go_wp2_with fail
          refine (hpick wr).mono ?_
          rintro e wr2 ⟨rfl, rfl⟩
          clear hpick
          go_wp2_with fail
          go_still_tail 10, (by kernel_rfl)
          go_wp2_with fail
          refine HS.out.mono ?_
          rintro e w5 ⟨rfl, hp5⟩
          obtain ⟨d', hM5⟩ := HM.out.2.1.stepped HM.out.2.2 hp5
          have H5 := Lib.hid (And.intro HM.out.1 hM5)
          clear hp5 hM5 HS HM hc0 hc1 hc2 hc3 hpm hqm
          go_wp2_with fail
          go_roundw
          case rel => exact ⟨i + 1, by omega, by go_num, _, by rw [List.length_set]; exact H5.out.1, H5.out.2⟩
          case measure => simp [intOf]; omega
        · have hi' : decide (i < ops.length) = false := by simpa using hlt
          have HM := Lib.hid (And.intro hds hM)
          clear hds hM hlt
          go_wp2_with fail
          go_loopw [14] (fun i wr => ∃ k : Nat, k ≤ 2 ∧ i = .int .i64 k ∧ ManyN w0 wr pb qb 2) (fun i _ => 2 - (intOf i).toNat)
          case atStart => exact ⟨0, by omega, rfl, _, HM.out.1, HM.out.2⟩
          case round =>
            clear HM
            obtain ⟨j, hj, rfl, ds, hds, hM⟩ := hrel
            by_cases hjt : j < 2
            · obtain ⟨d, hd⟩ : ∃ d, ds[j]? = some d := ⟨_, List.getElem?_eq_getElem (by omega)⟩
              obtain ⟨hpm, hqm, hok⟩ := hM.pc j d hd
              have hok' : Pair wr d.bc d.bm d.most d.qc d.A d.c d.l d.L := hok
              have hll := hok'.llen
              have HLL := Lib.hid hll
              have hlen := hok'.len
              have hm2 := hok'.m2
              have HM := Lib.hid (And.intro hds (And.intro hM (And.intro hd hok')))
              have hl4 : d.l.length ≤ 4096 := by omega
              have hL4 : d.L.length ≤ 4096 := by omega
              clear hds hM hd hok hok' hll hlen hm2
              go_wp2_with fail
              refine (keys_calls d.qc d.most d.A d.c d.l wr HM.out.2.2.2.ref (by omega)).mono ?_
              rintro e w3 ⟨B, c3, rfl, hbo, hbb⟩
              have hpm3 := (hbb.cell (p := ⟨pb, j, none⟩) (World.block_lt_of_cell? wr _ hpm)).trans hpm
              have hqm3 := (hbb.cell (p := ⟨qb, j, none⟩) (World.block_lt_of_cell? wr _ hqm)).trans hqm
              have hP3 := HM.out.2.2.2.other hbb
              have hlk : Lk w0 w3 pb qb j wr.heap.size B c3 d.l d := ⟨⟨ds, HM.out.1, HM.out.2.1.other hbb, HM.out.2.2.1⟩, fun x hx => (List.mem_map.1 hx).elim fun p hp => ⟨p, hp.1, hp.2⟩, hbo, fun g hg hf => by have := own_base hbo g hg; have := Pair.lt HM.out.2.2.2 g hf; omega⟩
              have HK := Lib.hid (And.intro hlk hP3)
              clear hbo hbb hP3 hlk hpm hqm
              go_wp2_with fail
              refine (Ca.len_calls d.bc d.bm d.most d.L w3 HK.out.2.rep).mono ?_
              rintro e w4 ⟨rfl, rfl⟩
              rw [← HLL.out]
              go_wp2_with fail
              refine (Ca.keys_calls d.bc d.bm d.most d.L w3 HK.out.2.rep (by omega)).mono ?_
              rintro e w4 ⟨va, rfl, hao, hab⟩
              rw [keysV_ivs, HK.out.2.kv, toV_keys, ← HLL.out] at hao
              obtain ⟨aA, ac, rfl, hac, hac2⟩ := own_form hao
              have hlk4 := HK.out.1.other hab
              have hpm4 := (hab.cell (p := ⟨pb, j, none⟩) (World.block_lt_of_cell? w3 _ hpm3)).trans hpm3
              have hqm4 := (hab.cell (p := ⟨qb, j, none⟩) (World.block_lt_of_cell? w3 _ hqm3)).trans hqm3
              have hsame := RK.same_calls aA B ac c3 (d.l.map (·.1)) w4 (own_rd hao) (own_rd hlk4.row) (by simp; omega)
              rw [List.length_map] at hsame
              have HK4 := Lib.hid hlk4
              have HS := Lib.hid hsame
              clear hao hab hlk4 hsame hpm3 hqm3
              go_wp2_with fail
              with_reducible refine HS.out.mono ?_
              rintro e w5 ⟨rfl, hb5⟩
              have HK5 := Lib.hid (HK4.out.other hb5)
              clear hb5 HS HK4 HK hpm4 hqm4
              go_wp2_with fail
              have HKd := Lib.hid (show ∃ d', Lk w0 w5 pb qb j wr.heap.size B c3 d.l d' from ⟨d, HK5.out⟩)
              clear HK5 HM HLL
              generalize wr.heap.size = N at *
              have HJ := Lib.hid hj
              clear hj hL4
              go_loopw [16] (fun i wr => ∃ i2 : Nat, i2 ≤ d.l.length ∧ i = .int .i64 i2 ∧ ∃ d', Lk w0 wr pb qb j N B c3 d.l d') (fun i _ => d.l.length - (intOf i).toNat)
              case atStart => exact ⟨0, Nat.zero_le _, rfl, HKd.out⟩
              case round =>
                clear HKd
                obtain ⟨i2, hi2, rfl, d', hlk⟩ := hrel
                by_cases hit : i2 < d.l.length
                · obtain ⟨x, b3, off3, rfl, hc3, hxm⟩ : ∃ (x : Int) (b3 off3 : Nat), B = some ⟨b3, off3, none⟩ ∧ wr.cell? ⟨b3, off3 + i2, none⟩ = some (.int .i64 x) ∧ x ∈ d.l.map (·.1) := by
                    obtain ⟨b3, off3, e, hc3⟩ := rd_int (own_rd hlk.row) (j := i2) (by simpa using hit)
                    exact ⟨_, b3, off3, e, hc3, List.getElem_mem _⟩
                  obtain ⟨v, hff, hrg⟩ := find_any d'.l x (hlk.keys x hxm)
                  obtain ⟨hpm, hqm⟩ : wr.cell? ⟨pb, j, none⟩ = some (.pointer (some ⟨d'.bc, 0, none⟩)) ∧ wr.cell? ⟨qb, j, none⟩ = some (.pointer (some ⟨d'.qc, 0, none⟩)) := by
                    obtain ⟨ds, h1, h2, h3⟩ := hlk.many
                    exact ⟨(h2.pc j d' h3).1, (h2.pc j d' h3).2.1⟩
                  have hapb : ∀ q, d'.fp q → q ≠ pb ∧ q ≠ qb ∧ q ≠ b3 := by
                    obtain ⟨ds, h1, h2, h3⟩ := hlk.many
                    exact fun q hq => ⟨(h2.own j d' h3 q hq).2.1, (h2.own j d' h3 q hq).2.2, fun e => hlk.ap b3 rfl (e ▸ hq)⟩
                  have hok : Pair wr d'.bc d'.bm d'.most d'.qc d'.A d'.c d'.l d'.L := hlk.ok
                  have hll' := hok.llen
                  have hlen' := hok.len
                  have hmm' := hok.m2
                  have hd'l : d'.l.length ≤ 5000 := by omega
                  have HH := Lib.hid (And.intro hlk (And.intro hok (And.intro hff (And.intro hrg hapb))))
                  clear hlk hok hff hrg hapb hll' hlen' hmm'
                  go_upto_region 32 with fail
                  go_cut [17, 18] (fun s17 s18 wx => GotC wr d' x v s17 s18 wx)
                  case first =>
                    have hok2 := HH.out.2.1.other (drew_below wr)
                    have hget := Ca.get_found d'.bc d'.bm d'.most d'.L x v wr.drew hok2.rep (by rw [hok2.kv]; exact HH.out.2.2.1)
                    have HG := Lib.hid hget
                    clear hget hok2
                    go_region_held3 (fun w' => w'.cell? ⟨pb, j, none⟩ = some (.pointer (some ⟨d'.bc, 0, none⟩)) ∧ w'.cell? ⟨b3, off3 + i2, none⟩ = some (.int .i64 x)) (first | exact ⟨by assumption, by assumption⟩ | go_keep) ((go_at_call 27; refine HG.out.mono ?_; rintro e w6 ⟨rfl, L', hC6, hkv6, hl6, ht6, hn6⟩; have hpm6 := (ht6.cell (p := ⟨pb, j, none⟩) (World.block_lt_of_cell? wr _ hpm) (fun ho => (HH.out.2.2.2.2 pb (.inl ho)).1 rfl)).trans hpm; have hc6 := (ht6.cell (p := ⟨b3, off3 + i2, none⟩) (World.block_lt_of_cell? wr _ hc3) (fun ho => (HH.out.2.2.2.2 b3 (.inl ho)).2.2 rfl)).trans hc3))
                    all_goals
                      have hgot : GotC wr d' x v (.string v) (.bool true) w6 := ⟨rfl, rfl, L', hC6, hkv6, hl6, ⟨ht6.os, ht6.tape, ht6.output, ht6.size, ht6.block⟩, hn6⟩
                      have HGo := Lib.hid hgot
                      clear hgot hC6 hkv6 hl6 ht6 hn6 hpm6 hc6
                      go_wp2_with fail
                      go_meet
                      exact HGo.out
                  case rest =>
                    have hg := hcut
                    obtain ⟨rfl, rfl, L', hC, hkv, hl', ht, hn⟩ := hcut
                    have hpm2 := (ht.cell (p := ⟨pb, j, none⟩) (World.block_lt_of_cell? wr _ hpm) (fun ho => (HH.out.2.2.2.2 pb (.inl ho)).1 rfl)).trans hpm
                    have hqm2 := (ht.cell (p := ⟨qb, j, none⟩) (World.block_lt_of_cell? wr _ hqm) (fun ho => (HH.out.2.2.2.2 qb (.inl ho)).2.1 rfl)).trans hqm
                    have hc32 := (ht.cell (p := ⟨b3, off3 + i2, none⟩) (World.block_lt_of_cell? wr _ hc3) (fun ho => (HH.out.2.2.2.2 b3 (.inl ho)).2.2 rfl)).trans hc3
                    have hR2 := HH.out.2.1.ref.tch ht HH.out.2.1.qN HH.out.2.1.aN
                    have hget := ref_get d'.qc d'.most d'.A d'.c d'.l x v wc.drew (hR2.drewN 1) hd'l HH.out.2.2.2.1
                    have HG := Lib.hid hget
                    have HF := Lib.hid hg
                    clear hget hR2 hg hC hkv hl' ht hn hpm hqm hc3
                    generalize wc = w7 at *
                    go_upto_region 33 with fail
                    go_cut [19, 20] (fun s19 s20 wx => GotR w7 d' x v s19 wx)
                    case first =>
                      go_region_held3 (fun w' => w'.cell? ⟨qb, j, none⟩ = some (.pointer (some ⟨d'.qc, 0, none⟩)) ∧ w'.cell? ⟨b3, off3 + i2, none⟩ = some (.int .i64 x)) (first | exact ⟨by assumption, by assumption⟩ | go_keep) ((go_at_call 28; refine HG.out.mono ?_; rintro e w8 ⟨rfl, hR8⟩; have ht8 := hR8.choose_spec.choose_spec.2.1; have hqm8 := (ht8.cell (p := ⟨qb, j, none⟩) (World.block_lt_of_cell? w7 _ hqm2) (fun ho => (HH.out.2.2.2.2 d'.qc (.inr (.inl rfl))).2.1 ho.symm)).trans hqm2; have hc8 := (ht8.cell (p := ⟨b3, off3 + i2, none⟩) (World.block_lt_of_cell? w7 _ hc32) (fun ho => (HH.out.2.2.2.2 d'.qc (.inr (.inl rfl))).2.2 ho.symm)).trans hc32))
                      all_goals
                        have hgot : GotR w7 d' x v (.string v) w8 := ⟨rfl, by obtain ⟨B8, d8, h1, h2, h3⟩ := hR8; exact ⟨B8, d8, h1, ⟨h2.os, h2.tape, h2.output, h2.size, h2.block⟩, h3⟩⟩
                        have HGo := Lib.hid hgot
                        clear hgot ht8 hR8 hqm8 hc8
                        go_wp2_with fail
                        go_meet
                        exact HGo.out
                    case rest =>
                      have hg8 := hcut
                      obtain ⟨rfl, _⟩ := hcut
                      obtain ⟨d8, hlk8⟩ := HH.out.1.got HH.out.2.2.1 HF.out hg8
                      have HL8 := Lib.hid hlk8
                      clear hlk8 hg8
                      go_wp2_with fail
                      go_roundw
                      case rel => exact ⟨i2 + 1, by omega, by go_num, _, HL8.out⟩
                      case measure => simp [intOf]; omega
                · have hi2' : decide (i2 < d.l.length) = false := by simpa using hit
                  obtain ⟨ds8, hd8, hM8, _⟩ := hlk.many
                  have HM8 := Lib.hid (And.intro hd8 hM8)
                  clear hlk hd8 hM8 hit
                  go_wp2_with fail
                  go_roundw
                  case rel => exact ⟨j + 1, by have := HJ.out; omega, by go_num, _, HM8.out.1, HM8.out.2⟩
                  case measure => simp [intOf]; omega
            · have hj' : decide (j < 2) = false := by simpa using hjt
              have HM := Lib.hid (And.intro hds hM)
              clear hds hM
              go_wp2_with fail
              refine (AW.awake_calls wr).mono ?_
              rintro e w9 ⟨rfl, hb9⟩
              have hfin := below_then (below_then HBW.out HBW.out.size (show Below w0.heap.size w0 wr from HM.out.2.below)) (Nat.le_trans HBW.out.size HM.out.2.below.size) hb9
              clear hb9
              go_wp2_with fail
              go_ret
              exact ⟨rfl, hfin⟩
end Go.Proofs.Ytdbccemllaehjaa.RD2
