/- Strata: the walk of Strata. -/
import Derived.Test.YtnhnckhjcnjacaaSe
namespace Go.Proofs.YtnhnckhjcnjacaaSg
open Go.Proofs.YtnhnckhjcnjacaaSw
/-- The nodes of each part. -/
def nodesQ (Q : Nat → Nat) (k p : Nat) : List Nat := (List.range k).filter fun v => decide (Q v = p)
theorem nodesQ_succ (Q : Nat → Nat) (k : Nat) : nodesQ Q (k + 1) = upd (nodesQ Q k) (Q k) (nodesQ Q k (Q k) ++ [k]) := by
  funext p
  unfold nodesQ upd
  rw [List.range_succ, List.filter_append]
  by_cases h : p = Q k
  · subst h
    simp
  · have h' : ¬ Q k = p := fun e => h e.symm
    simp [h, h']
theorem nodesQ_len (Q : Nat → Nat) (k p : Nat) : (nodesQ Q k p).length ≤ k := by
  unfold nodesQ
  have := List.length_filter_le (fun v => decide (Q v = p)) (List.range k)
  simpa using this
theorem nodesQ_mem (Q : Nat → Nat) (k p v : Nat) : v ∈ nodesQ Q k p ↔ v < k ∧ Q v = p := by simp [nodesQ]
def lvA (Q : Nat → Nat) (p : Nat) (lv : Nat → Int) (a : AI) : Nat → Int := if Q a.t.toNat = p then lv else upd lv p (max (lv p) (lv (Q a.t.toNat) + if a.neg = true then 1 else 0))
def lvV (Q : Nat → Nat) (g : Nat → List AI) (p : Nat) (lv : Nat → Int) (v : Nat) : Nat → Int := (g v).foldl (lvA Q p) lv
def lvP (Q : Nat → Nat) (g : Nat → List AI) (n : Nat) (lv : Nat → Int) (p : Nat) : Nat → Int := (nodesQ Q n p).foldl (lvV Q g p) lv
def lvG (Q : Nat → Nat) (g : Nat → List AI) (n k : Nat) : Nat → Int := (List.range k).foldl (lvP Q g n) fun _ => 0
theorem lvG_succ (Q : Nat → Nat) (g : Nat → List AI) (n k : Nat) : lvG Q g n (k + 1) = lvP Q g n (lvG Q g n k) k := by
  unfold lvG
  rw [List.range_succ, List.foldl_append]
  rfl
theorem foldl_take_succ {α β : Type} (f : β → α → β) (b : β) (l : List α) (j : Nat) (h : j < l.length) : (l.take (j + 1)).foldl f b = f ((l.take j).foldl f b) l[j] := by
  rw [List.take_succ_eq_append_getElem h, List.foldl_append]
  rfl
/-- The bounds while a part's level is sought. -/
def LB (p : Nat) (lv : Nat → Int) : Prop := ∀ q, 0 ≤ lv q ∧ lv q ≤ p + 1 ∧ (q ≠ p → lv q ≤ p)
theorem LB.zero : LB 0 fun _ => 0 := fun q => ⟨by simp, by simp, fun _ => by simp⟩
theorem LB.next {p : Nat} {lv : Nat → Int} (h : LB p lv) : LB (p + 1) lv := fun q => ⟨(h q).1, by have := (h q).2.1; push_cast; omega, fun _ => by have := (h q).2.1; push_cast; omega⟩
theorem LB.a {p : Nat} {lv : Nat → Int} (h : LB p lv) (Q : Nat → Nat) (a : AI) : LB p (lvA Q p lv a) := by
  unfold lvA
  split
  · exact h
  · rename_i hne
    intro q
    by_cases hq : q = p
    · subst hq
      rw [upd_same]
      have h1 := h q
      have h2 := h (Q a.t.toNat)
      have h3 := h2.2.2 hne
      refine ⟨by split <;> omega, by split <;> omega, fun e => absurd rfl e⟩
    · rw [upd_other _ _ hq]
      exact h q
theorem LB.v {p : Nat} (Q : Nat → Nat) (l : List AI) : ∀ (lv : Nat → Int), LB p lv → LB p (l.foldl (lvA Q p) lv) := by
  induction l with
  | nil => exact fun lv h => h
  | cons a l ih => exact fun lv h => ih _ (h.a Q a)
end Go.Proofs.YtnhnckhjcnjacaaSg
namespace Go.Proofs.Ytnhnckhjcnjacaa.ST
open Go.RowKit Go.Proofs.YtnhnckhjcnjacaaKw Go.Proofs.YtnhnckhjcnjacaaSg Go.Proofs.YtnhnckhjcnjacaaSw
set_option linter.unusedVariables false
set_option linter.unusedSimpArgs false

theorem info61 : (Try.prog.info? 61).map (fun i => (i.zero, i.size, i.bytes)) = some (some (.int .i16 0), 1, 2) := by kernel_rfl
set_option maxHeartbeats 1000000 in
theorem strataF_fault (A : Option Addr) (c : Nat) (n : Int) (l : List AI) (w : World) (hr : Rd w A (avs l)) (hl : l.length ≤ 140737488355328) (hf : fault n l ≠ 0) :
    Calls Try.prog 18 #[.int .i64 n, .slice A l.length c] w fun e w' => e = .returned (.tuple #[.slice none 0 0, .int .i64 (fault n l)]) ∧ Below w.heap.size w w' := by
  have hc := of_fault A c n l w hr hl hf
  have hf' : ¬ fault n l = 0 := hf
  generalize fault n l = x at *
  have H := Lib.hid hc
  clear hc hr hf
  go_enter Try.func18, Try.ntmps18
  go_wp2_with fail
  refine H.out.mono ?_
  rintro e w1 ⟨rfl, hB⟩
  go_wp2_with fail
  go_ret2
  exact ⟨rfl, hB⟩
set_option maxHeartbeats 4000000 in
set_option maxRecDepth 100000 in
theorem strataF_ring (A : Option Addr) (c n T : Nat) (l : List AI) (H : Nat → Nat) (s : KS) (P : Nat → Int) (r : Int) (w : World) (hr : Rd w A (avs l)) (hl : l.length ≤ 262144) (hn : n ≤ 4096) (hb : l.any (bad n) = false) (hP : PlanI n T (outs l) H s) (hPe : P = fun x => s.number (H x)) (hre : r = ringG P (outs l) n) (hr0 : 0 ≤ r) :
    Calls Try.prog 18 #[.int .i64 n, .slice A l.length c] w fun e w' => e = .returned (.tuple #[.slice none 0 0, .int .i64 81]) ∧ Below w.heap.size w w' := by
  have hc := of_good A c n l w hr hl hn hb
  have HC := Lib.hid (And.intro hc (And.intro hP (And.intro hPe hre)))
  clear hc hr hb hP hPe hre
  go_enter Try.func18, Try.ntmps18
  go_wp2_with fail
  refine HC.out.1.mono ?_
  rintro e w1 ⟨gb, ob, base, rfl, hG, hB⟩
  have hp := parts_plan ob base n gb T (outs l) H s w1 hG HC.out.2.1
  have HP := Lib.hid (And.intro hp (And.intro hB hG))
  clear hp hB hG
  go_wp2_with fail
  refine HP.out.1.mono ?_
  rintro e w2 ⟨⟨b, v, rfl, hlb, hA, hrow, hne⟩, hB2⟩
  have hA' : IArr w2 b n P := by rw [HC.out.2.2.1]; exact hA
  have hG2 : GraphI w2 gb ob base n (outs l) := ⟨HP.out.2.2.rep.keep hB2, HP.out.2.2.ok, HP.out.2.2.len, HP.out.2.2.small⟩
  have hrg := ring_calls ob base n gb b (outs l) P w2 hG2 hA'
  rw [← HC.out.2.2.2] at hrg
  have HQ := Lib.hid (And.intro hrg (below_then HP.out.2.1 HP.out.2.1.size hB2))
  clear hlb hA hB2 hrow hG2 hA' hrg hne
  go_wp2_with fail
  refine HQ.out.1.mono ?_
  rintro e w3 ⟨rfl, hB3⟩
  have HR := Lib.hid (below_then HQ.out.2 HQ.out.2.size hB3)
  clear hB3
  go_wp2_with fail
  go_ret2
  exact ⟨rfl, HR.out⟩
set_option maxHeartbeats 8000000 in
set_option maxRecDepth 100000 in
theorem strataF_calls (A : Option Addr) (c n T m : Nat) (l : List AI) (H : Nat → Nat) (s : KS) (P : Nat → Int) (Q : Nat → Nat) (r : Int) (w : World) (hr : Rd w A (avs l)) (hl : l.length ≤ 262144) (hn : n ≤ 4096) (hb : l.any (bad n) = false) (hP : PlanI n T (outs l) H s) (hPe : P = fun x => s.number (H x)) (hre : r = ringG P (outs l) n) (hr0 : r < 0)
    (hm : s.order.length = m) (hm5 : m ≤ 5000) (hQ : ∀ v, v < n → P v = Q v ∧ Q v < m) :
    Calls Try.prog 18 #[.int .i64 n, .slice A l.length c] w fun e w' => (∃ b, e = .returned (.tuple #[.slice (some ⟨b, 0, none⟩) n n, .int .i64 0]) ∧ w.heap.size ≤ b ∧ IArr w' b n (fun x => lvG Q (outs l) n m (Q x))) ∧ Below w.heap.size w w' := by
  have hc := of_good A c n l w hr hl hn hb
  have HC := Lib.hid (And.intro hc (And.intro hP (And.intro hPe (And.intro hre (And.intro hm hQ)))))
  clear hc hr hb hP hPe hre hm hQ
  go_enter Try.func18, Try.ntmps18
  go_wp2_with fail
  refine HC.out.1.mono ?_
  rintro e w1 ⟨gb, ob, base, rfl, hG, hB⟩
  have hp := parts_plan ob base n gb T (outs l) H s w1 hG HC.out.2.1
  have HP := Lib.hid (And.intro hp (And.intro hB hG))
  clear hp hB hG
  go_wp2_with fail
  refine HP.out.1.mono ?_
  rintro e w2 ⟨⟨b, v, rfl, hlb, hA, hrow, hne⟩, hB2⟩
  have hA' : IArr w2 b n P := by rw [HC.out.2.2.1]; exact hA
  have hG2 : GraphI w2 gb ob base n (outs l) := ⟨HP.out.2.2.rep.keep hB2, HP.out.2.2.ok, HP.out.2.2.len, HP.out.2.2.small⟩
  have hrg := ring_calls ob base n gb b (outs l) P w2 hG2 hA'
  rw [← HC.out.2.2.2.1] at hrg
  rw [HC.out.2.2.2.2.1] at hrow
  obtain ⟨oA, oc, rfl, ho1, ho2⟩ := own_form hrow
  have hAQ : IArr w2 b n (fun x => (Q x : Int)) := hA'.congr fun i hi => (HC.out.2.2.2.2.2 i hi).1.symm
  have HQ := Lib.hid (And.intro hrg (And.intro (below_then HP.out.2.1 HP.out.2.1.size hB2) (And.intro hG2 hAQ)))
  clear hlb hA hB2 hrow hG2 hA' hrg hne hAQ
  go_wp2_with fail
  refine HQ.out.1.mono ?_
  rintro e w3 ⟨rfl, hB3⟩
  have hG3 : GraphI w3 gb ob base n (outs l) := ⟨HQ.out.2.2.1.rep.keep hB3, HQ.out.2.2.1.ok, HQ.out.2.2.1.len, HQ.out.2.2.1.small⟩
  have HR := Lib.hid (And.intro (below_then HQ.out.2.1 HQ.out.2.1.size hB3) (And.intro hG3 (HQ.out.2.2.2.keep hB3)))
  clear hB3 hG3
  go_upto_region 9 with (at_make; refine make_arr (fun _ : Unit => Value.slice none 0 0) () _ (.tmp 41) (.tmp 41) 47 26 24 m Try.underlying47 info26 rfl rfl rfl rfl rfl (by omega) (by unfold maxLen; omega) ?_; intro w4 hA4 hB4)
  have hst : Mat w4 (w3.heap.size + 1) w3.heap.size 3 1 m (fun p => (nodesQ Q 0 p).length) (fun p => nvs (nodesQ Q 0 p)) := Mat.start hA4 (by omega)
  have h4l := hA4.lt
  have HS := Lib.hid (And.intro hst (And.intro hB4 h4l))
  obtain ⟨nb, hnb⟩ : ∃ nb, nb = w3.heap.size := ⟨_, rfl⟩
  rw [← hnb] at HS ⊢
  have HNB := Lib.hid hnb
  clear hst hA4 hB4 hnb h4l
  go_loopw [44] (fun i wr => ∃ k : Nat, k ≤ n ∧ i = .int .i64 k ∧ Mat wr (nb + 1) nb 3 1 m (fun p => (nodesQ Q k p).length) (fun p => nvs (nodesQ Q k p)) ∧ Below nb w3 wr ∧ nb < wr.heap.size) (fun i _ => n - (intOf i).toNat)
  case atStart => exact ⟨0, Nat.zero_le _, rfl, HS.out.1, HS.out.2.1, HS.out.2.2⟩
  case round =>
    clear HS
    obtain ⟨k, hk, rfl, hM, hB, hnl⟩ := hrel
    by_cases hlt : k < n
    · have hQk := (HC.out.2.2.2.2.2 k hlt).2
      have hB' : Below w3.heap.size w3 wr := by rw [← HNB.out]; exact hB
      have k1 := (HR.out.2.2.keep hB').cell hlt
      obtain ⟨A1, c1, hcs, hos, hle1, hcm1, hfz⟩ := hM.at hQk
      have hsuc := nodesQ_succ Q k
      have hlen := nodesQ_len Q k (Q k)
      have hpl : b < w3.heap.size := HR.out.2.2.lt
      have HM := Lib.hid (And.intro hM (And.intro hB (And.intro hsuc hcs)))
      clear hM hB hsuc hB'
      generalize hq : Q k = q at *
      obtain ⟨row, hrw⟩ : ∃ row, row = nodesQ Q k q := ⟨_, rfl⟩
      rw [← hrw] at hcs hos hle1 hlen
      have HRW := Lib.hid hrw
      have hbn : b < nb := by rw [HNB.out]; exact hpl
      clear hpl hrw
      obtain ⟨i0, hi0, hz0, hz1, hz2⟩ := info_parts info3
      have hob1 : (Value.slice A1 row.length c1).ownBlock ≠ some nb := fun e => by have := own_base hos nb e; omega
      have hob2 : (Value.slice A1 row.length c1).ownBlock ≠ some b := fun e => by have := own_base hos b e; omega
      have HOS := Lib.hid hos
      have hbl : b < wr.heap.size := by omega
      go_upto_region 11 with fail
      go_region_law (
        (refine step_append_lies _ (by rfl) _ _ _ (by rfl) (nb + 1) 3 i0 _ 1 8 Try.underlying26 hi0 hz0 hz1 hz2 rfl (by omega) _ _ _ (by rfl) ((hos.alloc _).drew)
            ⟨wr.heap.size, 0, none⟩ 1 1 [.int .i64 k] (by rfl) (by rfl) (World.news_of_block (cs := #[.int .i64 k]) (t := 3) (fr := (0, 0)) (heap_alloc_new wr _)) (by simp [Value.oneCell'])
            (by omega) (by unfold maxLen; omega) (by omega) (by simp; omega) (wr.heap.size + 1) (by simp) ?_; intro gg cap w1' hown1 hgrow hat hlt1; have hcp1 : w1'.cell? ⟨b, k, none⟩ = some (.int .i64 q) := (hgrow.cell_far ⟨b, k, none⟩ (by simp; omega) (Ne.symm hob2)).trans (((below_alloc (Below.refl wr.heap.size wr) _).cell (p := ⟨b, k, none⟩) hbl).trans k1); have hcs1 : w1'.cell? ⟨nb, q, none⟩ = some (.slice A1 row.length c1) := (hgrow.cell_far ⟨nb, q, none⟩ (by simp; omega) (Ne.symm hob1)).trans (((below_alloc (Below.refl wr.heap.size wr) _).cell (p := ⟨nb, q, none⟩) hnl).trans hcs); have hfz1 : w1'.frozen? ⟨nb, q, none⟩ = false := (hgrow.frozen_far ⟨nb, q, none⟩ (by simp; omega) (Ne.symm hob1)).trans (((below_alloc (Below.refl wr.heap.size wr) _).frozen (p := ⟨nb, q, none⟩) hnl).trans hfz)))
      all_goals
        have hbW : Below wr.heap.size wr (wr.alloc (.cells #[.int .i64 k] 3)).drew := below_drewN (below_alloc (Below.refl wr.heap.size wr) _) 1
        have hMW := HM.out.1.keep hbW
        have hp := hMW.push hQk ((hbW.cell (p := ⟨nb, q, none⟩) hnl).trans (HM.out.2.2.2.trans (by rw [← HRW.out]))) hgrow hown1
          (by rcases hat with hat | hat; exact .inl hat.symm; exact .inr ⟨gg, rfl, by rw [hat]; simp⟩)
        have hszA : wr.heap.size + 1 ≤ (wr.alloc (.cells #[.int .i64 k] 3)).drew.heap.size := by simp
        have hlB : nb ≤ wr.heap.size := Nat.le_of_lt hnl
        have hbB := below_tch (below_then HM.out.2.1 hlB hbW) (by omega) hp.2 (fun q _ hq => by omega)
        have hsz2 := hp.2.size
        have e1 : (fun p => (nodesQ Q (k + 1) p).length) = upd (fun p => (nodesQ Q k p).length) q (row.length + 1) := by
          rw [HM.out.2.2.1]
          funext u
          unfold upd
          split
          · rw [List.length_append, ← HRW.out]; rfl
          · rfl
        have e2 : (fun p => nvs (nodesQ Q (k + 1) p)) = upd (fun p => nvs (nodesQ Q k p)) q (nvs row ++ [.int .i64 (k : Int)]) := by
          rw [HM.out.2.2.1]
          funext u
          unfold upd
          split
          · rw [← HRW.out]; exact nvs_snoc _ _
          · rfl
        have hfin : Mat (w1'.setCell ⟨nb, q, none⟩ (.slice (some ⟨gg, 0, none⟩) (row.length + 1) cap)) (nb + 1) nb 3 1 m (fun p => (nodesQ Q (k + 1) p).length) (fun p => nvs (nodesQ Q (k + 1) p)) := by
          rw [e1, e2]
          exact hp.1
        have HF := Lib.hid (And.intro hfin (And.intro hbB (show nb < (w1'.setCell ⟨nb, q, none⟩ (.slice (some ⟨gg, 0, none⟩) (row.length + 1) cap)).heap.size by omega)))
        clear hbW hMW hp hbB hsz2 hfin hgrow hat hown1 hcs1 hfz1 hcp1 e1 e2 hq
        go_wp2_with fail
        go_roundw
        · exact ⟨k + 1, by omega, by go_num, HF.out.1, HF.out.2.1, HF.out.2.2⟩
        · simp [intOf]; omega
    · have hkn : k = n := by omega
      rw [hkn] at hM
      have HM := Lib.hid (And.intro hM hB)
      clear hM hB hkn
      go_upto_region 14 with (at_make; refine make_arr (Value.int .i16) 0 _ (.tmp 65) (.tmp 65) 57 61 2 m Try.underlying57 info61 rfl rfl rfl rfl rfl (by omega) (by unfold maxLen; omega) ?_; intro w5 hA5 hB5)
      have hnl5 : nb < w5.heap.size := Nat.lt_of_lt_of_le hnl hB5.size
      have HL := Lib.hid (And.intro hA5 hB5)
      have hlbl := hA5.lt
      obtain ⟨lb, hlb⟩ : ∃ lb, lb = wr.heap.size := ⟨_, rfl⟩
      rw [← hlb] at HL hlbl ⊢
      have HLB := Lib.hid hlb
      have HK2 := Lib.hid (show ∀ w', Below lb wr w' → Below w3.heap.size w3 w' ∧ GraphI w' gb ob base n (outs l) ∧ IArr w' b n (fun x => (Q x : Int)) ∧ Below w.heap.size w w' from fun w' hb => by
        rw [hlb] at hb
        have h3 : Below w3.heap.size w3 w' := below_then (by rw [← HNB.out]; exact HM.out.2) (by rw [← HNB.out]; omega) hb
        exact ⟨h3, ⟨HR.out.2.1.rep.keep h3, HR.out.2.1.ok, HR.out.2.1.len, HR.out.2.1.small⟩, HR.out.2.2.keep h3, below_then HR.out.1 HR.out.1.size h3⟩)
      clear hA5 hB5 hlb
      go_wp2_with fail
      go_loopw [69] (fun i wq => ∃ p : Nat, p ≤ m ∧ i = .int .i64 p ∧ Arr (Value.int .i16) 61 wq lb m (lvG Q (outs l) n p) ∧ Below lb wr wq ∧ lb < wq.heap.size ∧ LB p (lvG Q (outs l) n p)) (fun i _ => m - (intOf i).toNat)
      case atStart => exact ⟨0, Nat.zero_le _, rfl, HL.out.1, HL.out.2, hlbl, LB.zero⟩
      case round =>
        clear HL
        obtain ⟨p, hp, rfl, hA, hB, hql, hLB⟩ := hrel
        by_cases hpm : p < m
        · obtain ⟨A2, c2, hcs2, hos2, hle2, hcm2, hfz2⟩ := HM.out.1.at hpm
          have hB' := hB
          rw [HLB.out] at hB'
          have hcs3 := (hB'.cell (p := ⟨nb, p, none⟩) hnl).trans hcs2
          have hlg := lvG_succ Q (outs l) n p
          have hnm := nodesQ_mem Q n p
          have hnl2 := nodesQ_len Q n p
          generalize hrw : nodesQ Q n p = row at *
          have HO := Lib.hid (And.intro hos2 (And.intro hlg (And.intro (And.intro hA hB) (And.intro hnm hrw))))
          clear hos2 hlg hA hB hB' hcs2 hfz2 hnm hrw
          generalize lvG Q (outs l) n p = lv0 at *
          have hlq0 := hql
          go_wp2_with fail
          clear hcs3 hql
          go_loopw [76] (fun i wq => ∃ j : Nat, j ≤ row.length ∧ i = .int .i64 j ∧ Arr (Value.int .i16) 61 wq lb m ((row.take j).foldl (lvV Q (outs l) p) lv0) ∧ Hid (Below lb _ wq) ∧ lb < wq.heap.size ∧ LB p ((row.take j).foldl (lvV Q (outs l) p) lv0)) (fun i _ => row.length - (intOf i).toNat)
          case atStart => exact ⟨0, Nat.zero_le _, rfl, HO.out.2.2.1.1, Lib.hid HO.out.2.2.1.2, hlq0, hLB⟩
          case round =>
            obtain ⟨j, hj, rfl, hA, hB, hql, hLBj⟩ := hrel
            by_cases hjr : j < row.length
            · have hB' := hB.out
              rw [HLB.out] at hB'
              have hosj := own_keep HO.out.1 hB'
              obtain ⟨bg, rfl⟩ := nvs_form hosj (by omega)
              have kx := nvs_cell hosj hjr
              rw [gN_at hjr] at kx
              have hv := (HO.out.2.2.2.1 row[j]).1 (List.getElem_mem _)
              have hfs := foldl_take_succ (lvV Q (outs l) p) lv0 row j hjr
              generalize row[j] = v at *
              obtain ⟨hvn, hvp⟩ := hv
              have hK := HK2.out _ hB.out
              obtain ⟨A3, c3, hcs3, hos3, hle3, hcm3, hfz3⟩ := HR.out.2.1.rep.mat.at hvn
              have hg1 := hK.2.1.rep.c1
              have hcs4 := (hK.1.cell (p := ⟨ob, v, none⟩) HR.out.2.1.rep.mat.lt).trans hcs3
              have hln := hK.2.1.len v hvn
              have HJ := Lib.hid (And.intro hfs (And.intro hos3 (And.intro hA hB)))
              clear hfs hos3 hosj hK hcs3 hfz3 hA hB hB'
              generalize (row.take j).foldl (lvV Q (outs l) p) lv0 = lv1 at *
              have hlq1 := hql
              go_wp2_with fail
              clear kx hg1 hcs4 hql
              go_loopw [88] (fun i wq => ∃ z : Nat, z ≤ (outs l v).length ∧ i = .int .i64 z ∧ Arr (Value.int .i16) 61 wq lb m (((outs l v).take z).foldl (lvA Q p) lv1) ∧ Hid (Below lb _ wq) ∧ lb < wq.heap.size ∧ LB p (((outs l v).take z).foldl (lvA Q p) lv1)) (fun i _ => (outs l v).length - (intOf i).toNat)
              case atStart => exact ⟨0, Nat.zero_le _, rfl, HJ.out.2.2.1, HJ.out.2.2.2, hlq1, hLBj⟩
              case round =>
                obtain ⟨z, hz, rfl, hA, hB, hql, hLBz⟩ := hrel
                by_cases hzl : z < (outs l v).length
                · obtain ⟨b9, off9, rfl, ha0, ha1, ha2⟩ := rd_arc (own_rd (own_keep HJ.out.2.1 (HK2.out _ hB.out).1)) hzl
                  have hok := HR.out.2.1.ok v hvn _ (List.getElem_mem hzl)
                  have hsz := foldl_take_succ (lvA Q p) lv1 (outs l v) z hzl
                  obtain ⟨t, ht⟩ := Int.eq_ofNat_of_zero_le hok.1
                  have htn : t < n := by omega
                  have htt : (outs l v)[z].t.toNat = t := by omega
                  have hLBn := hLBz.a Q (outs l v)[z]
                  generalize ((outs l v).take z).foldl (lvA Q p) lv1 = lv2 at *
                  have hlv : lvA Q p lv2 (outs l v)[z] = if Q t = p then lv2 else upd lv2 p (max (lv2 p) (lv2 (Q t) + if (outs l v)[z].neg = true then 1 else 0)) := by unfold lvA; rw [htt]
                  rw [ht] at ha1
                  rw [hlv] at hsz hLBn
                  clear hok ht htt hlv
                  generalize (outs l v)[z].f = af at *
                  generalize (outs l v)[z].neg = an at *
                  have hnew := heap_alloc_new wr (.cells #[.int .i64 af, .int .i64 t, .bool an] 36)
                  have hbx1 : (wr.alloc (.cells #[.int .i64 af, .int .i64 t, .bool an] 36)).cell? ⟨wr.heap.size, 1, none⟩ = some (.int .i64 t) := by simp only [World.cell?, hnew]; rfl
                  have hbx2 : (wr.alloc (.cells #[.int .i64 af, .int .i64 t, .bool an] 36)).cell? ⟨wr.heap.size, 2, none⟩ = some (.bool an) := by simp only [World.cell?, hnew]; rfl
                  have hBA := below_then hB.out (Nat.le_of_lt hql) (below_alloc (Below.refl wr.heap.size wr) (.cells #[.int .i64 af, .int .i64 t, .bool an] 36))
                  have hAA := hA.keep (below_alloc (Below.refl wr.heap.size wr) (.cells #[.int .i64 af, .int .i64 t, .bool an] 36))
                  have hqA : lb < (wr.alloc (.cells #[.int .i64 af, .int .i64 t, .bool an] 36)).heap.size := by simp; omega
                  have k1 := (HK2.out _ hBA).2.2.1.cell htn
                  have hqt := (HC.out.2.2.2.2.2 t htn).2
                  have k2 := hAA.cell hqt
                  have k3 := hAA.cell hpm
                  have k4 := hAA.fz p
                  have hb1 := hLBz (Q t)
                  have hb2 := hLBz p
                  have hSet := fun x => And.intro (hAA.set hpm x) (below_tch hBA (Nat.le_of_lt hqA) (Ap.setCell_tch _ ⟨lb, p, none⟩ (.int .i16 x) (fun q => q = lb) rfl) (fun q _ hq => by omega))
                  have HZ := Lib.hid (And.intro hsz (And.intro hLBn (And.intro hSet (And.intro hAA hBA))))
                  have HL1 := Lib.hid hLBz
                  clear hnew hsz hLBn hSet hBA hAA hA hB hLBz
                  go_upto_region 23 with fail
                  generalize wr.alloc (.cells #[.int .i64 af, .int .i64 t, .bool an] 36) = W2 at *
                  have hqS : ∀ x, lb < (W2.setCell ⟨lb, p, none⟩ x).heap.size := fun x => by rw [World.size_setCell]; exact hqA
                  have HQS := Lib.hid hqS
                  have hup1 : lv2 p ≤ 5001 := by omega
                  have hup2 : lv2 (Q t) ≤ 5001 := by omega
                  have hlo1 : 0 ≤ lv2 p := by omega
                  have hlo2 : 0 ≤ lv2 (Q t) := by omega
                  clear hb1 hb2 hqS
                  generalize hx : lv2 (Q t) = x at *
                  generalize hy : lv2 p = y at *
                  by_cases hqp : Q t = p
                  · have hz2 := HZ.out
                    rw [if_pos hqp] at hz2
                    have HZ2 := Lib.hid hz2
                    rw [hqp] at k1 k2 hqt
                    have hxy : x = y := by rw [← hx, ← hy, hqp]
                    clear hz2 hx hy hqp
                    cases an with
                    | false =>
                      go_wp2_with fail
                      go_roundw
                      case rel => exact ⟨z + 1, by omega, by go_num, by rw [HZ2.out.1]; exact HZ2.out.2.2.2.1, Lib.hid HZ2.out.2.2.2.2, hqA, by rw [HZ2.out.1]; exact HZ2.out.2.1⟩
                      case measure => simp [intOf]; omega
                    | true =>
                      go_wp2_with fail
                      go_roundw
                      case rel => exact ⟨z + 1, by omega, by go_num, by rw [HZ2.out.1]; exact HZ2.out.2.2.2.1, Lib.hid HZ2.out.2.2.2.2, hqA, by rw [HZ2.out.1]; exact HZ2.out.2.1⟩
                      case measure => simp [intOf]; omega
                  · have hz2 := HZ.out
                    rw [if_neg hqp] at hz2
                    have hqp' : ¬ ((Q t : Nat) : Int) = (p : Int) := by omega
                    clear hx hy hqp
                    generalize Q t = qt at *
                    cases an with
                    | false =>
                      rw [if_neg (by simp), Int.add_zero] at hz2
                      by_cases hm : y < x
                      · rw [show max y x = x by omega] at hz2
                        have HZ2 := Lib.hid hz2
                        clear hz2
                        go_wp2_with fail
                        go_roundw
                        case rel => exact ⟨z + 1, by omega, by go_num, by rw [HZ2.out.1]; exact (HZ2.out.2.2.1 x).1, Lib.hid (HZ2.out.2.2.1 x).2, HQS.out _, by rw [HZ2.out.1]; exact HZ2.out.2.1⟩
                        case measure => simp [intOf]; omega
                      · rw [show max y x = y by omega] at hz2
                        have HZ2 := Lib.hid hz2
                        clear hz2
                        go_wp2_with fail
                        go_roundw
                        case rel => exact ⟨z + 1, by omega, by go_num, by rw [HZ2.out.1]; exact (HZ2.out.2.2.1 y).1, Lib.hid (HZ2.out.2.2.1 y).2, HQS.out _, by rw [HZ2.out.1]; exact HZ2.out.2.1⟩
                        case measure => simp [intOf]; omega
                    | true =>
                      rw [if_pos rfl] at hz2
                      by_cases hm : y < x + 1
                      · rw [show max y (x + 1) = x + 1 by omega] at hz2
                        have HZ2 := Lib.hid hz2
                        clear hz2
                        go_wp2_with fail
                        go_roundw
                        case rel => exact ⟨z + 1, by omega, by go_num, by rw [HZ2.out.1]; exact (HZ2.out.2.2.1 (x + 1)).1, Lib.hid (HZ2.out.2.2.1 (x + 1)).2, HQS.out _, by rw [HZ2.out.1]; exact HZ2.out.2.1⟩
                        case measure => simp [intOf]; omega
                      · rw [show max y (x + 1) = y by omega] at hz2
                        have HZ2 := Lib.hid hz2
                        clear hz2
                        go_wp2_with fail
                        go_roundw
                        case rel => exact ⟨z + 1, by omega, by go_num, by rw [HZ2.out.1]; exact (HZ2.out.2.2.1 y).1, Lib.hid (HZ2.out.2.2.1 y).2, HQS.out _, by rw [HZ2.out.1]; exact HZ2.out.2.1⟩
                        case measure => simp [intOf]; omega
                · have hfull : ((outs l v).take z).foldl (lvA Q p) lv1 = (row.take (j + 1)).foldl (lvV Q (outs l) p) lv0 := by
                    rw [List.take_of_length_le (by omega)]
                    exact HJ.out.1.symm
                  rw [hfull] at hA hLBz
                  have HZ := Lib.hid (And.intro hA hLBz)
                  clear hA hLBz hfull
                  go_wp2_with fail
                  go_roundw
                  case rel => exact ⟨j + 1, by omega, by go_num, HZ.out.1, hB, hql, HZ.out.2⟩
                  case measure => simp [intOf]; omega
            · have hfull : (row.take j).foldl (lvV Q (outs l) p) lv0 = lvG Q (outs l) n (p + 1) := by
                rw [List.take_of_length_le (by omega), HO.out.2.1]
                unfold lvP
                rw [HO.out.2.2.2.2]
              rw [hfull] at hA hLBj
              have HZ := Lib.hid (And.intro hA (And.intro hB.out hLBj.next))
              clear hA hB hLBj hfull
              go_wp2_with fail
              go_roundw
              case rel => exact ⟨p + 1, by omega, by go_num, HZ.out.1, HZ.out.2.1, hql, HZ.out.2.2⟩
              case measure => simp [intOf]; omega
        · have hpm2 : p = m := by omega
          rw [hpm2] at hA hLB
          clear hpm2
          have HF := Lib.hid (And.intro hA (And.intro (HK2.out _ hB) hLB))
          clear hA hB hLB
          go_upto_region 33 with (at_make; refine make_arr (Value.int .i64) 0 _ (.tmp 123) (.tmp 123) 26 3 8 n Try.underlying26 info3 rfl rfl rfl rfl rfl (by omega) (by unfold maxLen; omega) ?_; intro w7 hA7 hB7)
          have hs7 : IArr w7 wr.heap.size n (fun x => if x < 0 then lvG Q (outs l) n m (Q x) else 0) := hA7.congr fun i hi => by simp
          have h7l := hA7.lt
          have HS := Lib.hid (And.intro hs7 (And.intro hB7 h7l))
          obtain ⟨o8, ho8⟩ : ∃ o, o = wr.heap.size := ⟨_, rfl⟩
          rw [← ho8] at HS ⊢
          have hwo := HF.out.2.1.2.2.2.size
          rw [← ho8] at hwo
          have HO8 := Lib.hid ho8
          have HK4 := Lib.hid (show ∀ w', Below o8 wr w' → Arr (Value.int .i16) 61 w' lb m (lvG Q (outs l) n m) ∧ IArr w' b n (fun x => (Q x : Int)) ∧ Below w.heap.size w w' from fun w' hb => by
            rw [ho8] at hb
            exact ⟨HF.out.1.keep hb, HF.out.2.1.2.2.1.keep hb, below_then HF.out.2.1.2.2.2 HF.out.2.1.2.2.2.size hb⟩)
          have HLM := Lib.hid HF.out.2.2
          clear hs7 hA7 hB7 h7l HF ho8 hql
          go_loopw [126] (fun i wq => ∃ k : Nat, k ≤ n ∧ i = .int .i64 k ∧ IArr wq o8 n (fun x => if x < k then lvG Q (outs l) n m (Q x) else 0) ∧ Hid (Below o8 _ wq) ∧ o8 < wq.heap.size) (fun i _ => n - (intOf i).toNat)
          case atStart => exact ⟨0, Nat.zero_le _, rfl, HS.out.1, Lib.hid HS.out.2.1, HS.out.2.2⟩
          case round =>
            clear HS
            obtain ⟨k, hk, rfl, hA, hB, hql⟩ := hrel
            have hK := HK4.out _ hB.out
            by_cases hkn : k < n
            · have hQk := (HC.out.2.2.2.2.2 k hkn).2
              have k1 := hK.2.1.cell hkn
              have k2 := hK.1.cell hQk
              have k3 := hA.fz k
              have k4 := hA.cell hkn
              have hb := HLM.out (Q k)
              have hb1 : 0 ≤ lvG Q (outs l) n m (Q k) ∧ lvG Q (outs l) n m (Q k) ≤ 5001 := by omega
              have hset : IArr (wr.setCell ⟨o8, k, none⟩ (.int .i64 (lvG Q (outs l) n m (Q k)))) o8 n (fun x => if x < k + 1 then lvG Q (outs l) n m (Q x) else 0) := (hA.set hkn (lvG Q (outs l) n m (Q k))).congr fun i hi => by
                unfold upd
                by_cases e : i = k
                · subst e
                  simp
                · by_cases h1 : i < k
                  · simp [e, h1, show i < k + 1 by omega]
                  · simp [e, h1, show ¬ i < k + 1 by omega]
              have hBs := below_tch hB.out (Nat.le_of_lt hql) (Ap.setCell_tch _ ⟨o8, k, none⟩ (.int .i64 (lvG Q (outs l) n m (Q k))) (fun q => q = o8) rfl) (fun q _ hq => by omega)
              have HZ := Lib.hid (And.intro hset hBs)
              have HQS := Lib.hid (show ∀ x, o8 < (wr.setCell ⟨o8, k, none⟩ x).heap.size from fun x => by rw [World.size_setCell]; exact hql)
              obtain ⟨hb2, hb3⟩ := hb1
              clear hK hset hBs hA hB hb
              generalize lvG Q (outs l) n m (Q k) = x at *
              generalize Q k = q at *
              go_wp2_with fail
              go_roundw
              case rel => exact ⟨k + 1, by omega, by go_num, HZ.out.1, Lib.hid HZ.out.2, HQS.out _⟩
              case measure => simp [intOf]; omega
            · have hkn2 : k = n := by omega
              rw [hkn2] at hA
              have HZ := Lib.hid (And.intro hA (And.intro hK.2.2 hwo))
              clear hkn2 hA hB hK
              go_wp2_with fail
              go_ret2
              exact ⟨⟨o8, rfl, HZ.out.2.2, HZ.out.1.congr fun i hi => by simp [hi]⟩, HZ.out.2.1⟩
end Go.Proofs.Ytnhnckhjcnjacaa.ST
