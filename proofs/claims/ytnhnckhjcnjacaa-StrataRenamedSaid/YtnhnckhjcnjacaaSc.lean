/- Strata: the graph that is looked at. -/
import Derived.Test.YtnhnckhjcnjacaaSb
import Derived.Test.YtnhnckhjcnjacaaSw
import Derived.StillTailTactics
import Derived.Deep.RegionHeld3
import Derived.Deep.AppendLies
namespace Go.Proofs.Ytnhnckhjcnjacaa.ST
open Go.RowKit Go.Proofs.YtnhnckhjcnjacaaKw Go.Proofs.YtnhnckhjcnjacaaSg Go.Proofs.YtnhnckhjcnjacaaSw
set_option linter.unusedVariables false
set_option linter.unusedSimpArgs false

theorem info22 : (Try.prog.info? 22).map (fun i => (i.zero, i.size, i.bytes)) = some (some (.slice none 0 0), 1, 24) := by kernel_rfl
abbrev ArcRows (w : World) (base ob n : Nat) (g : Nat → List AI) : Prop := Mat w base ob 36 3 n (fun v => (g v).length) (fun v => avs (g v))
/-- A graph in memory. -/
structure GraphR (w : World) (gb ob base n : Nat) (g : Nat → List AI) : Prop where
  c0 : w.cell? ⟨gb, 0, none⟩ = some (.int .i64 n)
  c1 : w.cell? ⟨gb, 1, none⟩ = some (.slice (some ⟨ob, 0, none⟩) n n)
  mat : ArcRows w base ob n g
theorem GraphR.keep {w w' : World} {gb ob base n : Nat} {g : Nat → List AI} (h : GraphR w gb ob base n g) (hb : Below w.heap.size w w') : GraphR w' gb ob base n g := by
  have hl := World.block_lt_of_cell? w _ h.c0
  exact ⟨(hb.cell (p := ⟨gb, 0, none⟩) hl).trans h.c0, (hb.cell (p := ⟨gb, 1, none⟩) hl).trans h.c1, h.mat.keep hb⟩
theorem GraphR.tch {w w' : World} {gb ob base n : Nat} {g : Nat → List AI} (h : GraphR w gb ob base n g) {S : Nat → Prop} (ht : Tch S w w') (h1 : ¬ S gb) (h2 : ¬ S ob) (h3 : ∀ k, base ≤ k → k < w.heap.size → ¬ S k) : GraphR w' gb ob base n g := by
  have hl := World.block_lt_of_cell? w _ h.c0
  exact ⟨(ht.cell (p := ⟨gb, 0, none⟩) hl h1).trans h.c0, (ht.cell (p := ⟨gb, 1, none⟩) hl h1).trans h.c1, h.mat.tch (S := fun k => S k ∧ k < w.heap.size) (ht.mono fun k hk hs => ⟨hs, hk⟩) (fun hs => h2 hs.1) (fun k hk hs => h3 k hk hs.2 hs.1)⟩
/-- What 'of' leaves. -/
def OfPost (n : Nat) (l : List AI) (w : World) (e : Ending) (w' : World) : Prop :=
  if l.any (bad n) then e = .returned (.tuple #[.pointer none, .int .i64 80]) ∧ Below w.heap.size w w'
  else ∃ gb ob base, e = .returned (.tuple #[.pointer (some ⟨gb, 0, none⟩), .int .i64 0]) ∧ GraphR w' gb ob base n (outs l) ∧ Below w.heap.size w w'
theorem OfPost.yes {n : Nat} {l : List AI} {w w' : World} (h : l.any (bad n) = true) (hb : Below w.heap.size w w') : OfPost n l w (.returned (.tuple #[.pointer none, .int .i64 80])) w' := by
  unfold OfPost
  rw [if_pos h]
  exact ⟨rfl, hb⟩
theorem OfPost.no {n : Nat} {l : List AI} {w w' : World} {gb ob base : Nat} (h : l.any (bad n) = false) (hg : GraphR w' gb ob base n (outs l)) (hb : Below w.heap.size w w') : OfPost n l w (.returned (.tuple #[.pointer (some ⟨gb, 0, none⟩), .int .i64 0])) w' := by
  unfold OfPost
  rw [if_neg (by rw [h]; simp)]
  exact ⟨gb, ob, base, rfl, hg, hb⟩
theorem arcRows_push {W w1 : World} {base ob n v : Nat} {g : Nat → List AI} {a : AI} (h : ArcRows W base ob n g) (hv : v < n) (hva : a.f.toNat = v) (hne : (g v).getLast? ≠ some a) {s v1 : Value} (hs : W.cell? ⟨ob, v, none⟩ = some s) (hg : W.grownBy w1 s.ownBlock)
    (ho : w1.ownsRow base 36 3 v1 ((g v).length + 1) (avs (g v) ++ [.int .i64 a.f, .int .i64 a.t, .bool a.neg])) (hat : v1.ownBlock = s.ownBlock ∨ ∃ b, v1.ownBlock = some b ∧ W.heap.size ≤ b) :
    ArcRows (w1.setCell ⟨ob, v, none⟩ v1) base ob n (addArc g a) ∧ Tch (fun q => q = ob ∨ base ≤ q) W (w1.setCell ⟨ob, v, none⟩ v1) := by
  obtain ⟨h1, h2⟩ := h.push hv hs hg ho hat
  refine ⟨?_, h2⟩
  have e : addArc g a = updA g v (g v ++ [a]) := by
    unfold addArc
    rw [hva, if_neg hne]
  have e1 : (fun u => (addArc g a u).length) = upd (fun u => (g u).length) v ((g v).length + 1) := by
    rw [e]
    funext u
    unfold updA upd
    split <;> simp
  have e2 : (fun u => avs (addArc g a u)) = upd (fun u => avs (g u)) v (avs (g v) ++ [.int .i64 a.f, .int .i64 a.t, .bool a.neg]) := by
    rw [e]
    funext u
    unfold updA upd
    split
    · exact avs_snoc _ _
    · rfl
  unfold ArcRows
  rw [e1, e2]
  exact h1
set_option maxHeartbeats 1000000 in
theorem of_bad (A : Option Addr) (c : Nat) (n : Int) (l : List AI) (w : World) (hl : l.length ≤ 140737488355328) (hn : (n < 0 ∨ 4096 < n) ∨ 262144 < l.length) :
    Calls Try.prog 34 #[.int .i64 n, .slice A l.length c] w fun e w' => e = .returned (.tuple #[.pointer none, .int .i64 (fault n l)]) ∧ w = w' := by
  by_cases h1 : n < 0 ∨ 4096 < n
  · have HF := Lib.hid (show fault n l = 2 from if_pos h1)
    rw [HF.out]
    by_cases hn1 : n < 0
    · go_enter Try.func34, Try.ntmps34
      go_wp2
      go_ret2
      exact ⟨rfl, rfl⟩
    · have hn2 : 4096 < n := by omega
      go_enter Try.func34, Try.ntmps34
      go_wp2
      go_ret2
      exact ⟨rfl, rfl⟩
  · have hlen : 262144 < l.length := by omega
    have hn1 : ¬ n < 0 := by omega
    have hn2 : ¬ 4096 < n := by omega
    have HF := Lib.hid (show fault n l = 3 by unfold fault; rw [if_neg h1, if_pos hlen])
    rw [HF.out]
    clear h1 hn
    go_enter Try.func34, Try.ntmps34
    go_wp2
    go_ret2
    exact ⟨rfl, rfl⟩
theorem row_last (row : List AI) : match row.getLast? with
    | none => row.length = 0
    | some z => 0 < row.length ∧ row[row.length - 1]! = z := by
  cases h : row.getLast? with
  | none => simpa using h
  | some z =>
    have hne : row ≠ [] := fun e => by rw [e] at h; simp at h
    have hl := List.length_pos_iff.2 hne
    refine ⟨hl, ?_⟩
    rw [List.getLast?_eq_getElem?] at h
    rw [getElem!_def, h]
set_option maxHeartbeats 4000000 in
set_option maxRecDepth 100000 in
theorem of_calls (A : Option Addr) (c n : Nat) (l : List AI) (w : World) (hr : Rd w A (avs l)) (hl : l.length ≤ 262144) (hn : n ≤ 4096) :
    Calls Try.prog 34 #[.int .i64 n, .slice A l.length c] w (OfPost n l w) := by
  go_enter Try.func34, Try.ntmps34
  go_wp2_with (at_make; refine make_arr (fun _ : Unit => Value.slice none 0 0) () _ (.tmp 23) (.tmp 23) 58 22 24 n Try.underlying58 info22 rfl rfl rfl rfl rfl (by omega) (by unfold maxLen; omega) ?_; intro w1 hA hB1)
  have hlt1 := hA.lt
  have hA2 := hA.keep (below_alloc (Below.refl w1.heap.size w1) (.cells #[.int .i64 n, .slice (some ⟨w.heap.size, 0, none⟩) n n] 60))
  have hB2 := below_alloc hB1 (.cells #[.int .i64 n, .slice (some ⟨w.heap.size, 0, none⟩) n n] 60)
  have hnew := heap_alloc_new w1 (.cells #[.int .i64 n, .slice (some ⟨w.heap.size, 0, none⟩) n n] 60)
  have hg0 : (w1.alloc (.cells #[.int .i64 n, .slice (some ⟨w.heap.size, 0, none⟩) n n] 60)).cell? ⟨w1.heap.size, 0, none⟩ = some (.int .i64 n) := by simp only [World.cell?, hnew]; rfl
  have hg1 : (w1.alloc (.cells #[.int .i64 n, .slice (some ⟨w.heap.size, 0, none⟩) n n] 60)).cell? ⟨w1.heap.size, 1, none⟩ = some (.slice (some ⟨w.heap.size, 0, none⟩) n n) := by simp only [World.cell?, hnew]; rfl
  have hs2 : (w1.alloc (.cells #[.int .i64 n, .slice (some ⟨w.heap.size, 0, none⟩) n n] 60)).heap.size = w1.heap.size + 1 := by simp
  have hst : GraphR (w1.alloc (.cells #[.int .i64 n, .slice (some ⟨w.heap.size, 0, none⟩) n n] 60)) w1.heap.size w.heap.size (w1.heap.size + 1) n (outs []) := ⟨hg0, hg1, Mat.start hA2 (by omega)⟩
  have H0 := Lib.hid (And.intro hst hB2)
  have HRK := Lib.hid (show ∀ wr, Below w.heap.size w wr → Rd wr A (avs l) from fun wr h => hr.keep h)
  clear hnew hg0 hg1 hA hA2 hB1 hB2 hst hr
  generalize w1.alloc (.cells #[.int .i64 n, .slice (some ⟨w.heap.size, 0, none⟩) n n] 60) = w2 at *
  generalize w1.heap.size = gb at *
  have hoblt : w.heap.size < gb := hlt1
  generalize hob : w.heap.size = ob at *
  have HOB := Lib.hid hob
  clear hob
  go_loopw [29] (fun i wr => ∃ k : Nat, k ≤ l.length ∧ i = .int .i64 k ∧ GraphR wr gb ob (gb + 1) n (outs (l.take k)) ∧ Below ob w wr ∧ gb + 1 ≤ wr.heap.size ∧ Hid (∀ a ∈ l.take k, bad n a = false)) (fun i _ => l.length - (intOf i).toNat)
  case atStart => exact ⟨0, Nat.zero_le _, rfl, H0.out.1, H0.out.2, by omega, Lib.hid (by simp)⟩
  case round =>
    obtain ⟨k, hk, rfl, hG, hb, hsz, HN⟩ := hrel
    clear H0
    by_cases hlt : k < l.length
    · obtain ⟨b, off, rfl, hc0, hc1, hc2⟩ := rd_arc (HRK.out wr hb) hlt
      have hmem := List.getElem_mem hlt
      have htk := List.take_succ_eq_append_getElem hlt
      have hol := outs_len (l.take k)
      have hlk : (l.take k).length ≤ k := List.length_take_le _ _
      generalize hak : l[k] = a at *
      have HM := Lib.hid hmem
      clear hmem
      have hgc0 := hG.c0
      have hgc1 := hG.c1
      have hgl := World.block_lt_of_cell? wr _ hgc0
      have hAc := heap_alloc_new wr (.cells #[.int .i64 a.f, .int .i64 a.t, .bool a.neg] 36)
      have ha0 : (wr.alloc (.cells #[.int .i64 a.f, .int .i64 a.t, .bool a.neg] 36)).cell? ⟨wr.heap.size, 0, none⟩ = some (.int .i64 a.f) := by simp only [World.cell?, hAc]; rfl
      have ha1 : (wr.alloc (.cells #[.int .i64 a.f, .int .i64 a.t, .bool a.neg] 36)).cell? ⟨wr.heap.size, 1, none⟩ = some (.int .i64 a.t) := by simp only [World.cell?, hAc]; rfl
      have ha2 : (wr.alloc (.cells #[.int .i64 a.f, .int .i64 a.t, .bool a.neg] 36)).cell? ⟨wr.heap.size, 2, none⟩ = some (.bool a.neg) := by simp only [World.cell?, hAc]; rfl
      have HA := Lib.hid (And.intro ha0 (And.intro ha1 (And.intro ha2 (And.intro hak (And.intro htk hG)))))
      have hGa : GraphR (wr.alloc (.cells #[.int .i64 a.f, .int .i64 a.t, .bool a.neg] 36)) gb ob (gb + 1) n (outs (l.take k)) := hG.keep (below_alloc (Below.refl wr.heap.size wr) _)
      have hba := hb.alloc (show ob ≤ wr.heap.size by omega) (.cells #[.int .i64 a.f, .int .i64 a.t, .bool a.neg] 36)
      have HG := Lib.hid (And.intro hGa hba)
      have hszW : gb + 1 ≤ (wr.alloc (.cells #[.int .i64 a.f, .int .i64 a.t, .bool a.neg] 36)).heap.size := by simp; omega
      have hol' : ∀ v, (outs (l.take k) v).length ≤ 262144 := fun v => by have := hol v; omega
      have HOL := Lib.hid hol'
      clear hAc ha0 ha1 ha2 hak htk hG hGa hba hol hol'
      go_upto_region 9 with fail
      go_cut [47] (fun s47 wx => s47 = .bool (bad n a) ∧ wx = wr.alloc (.cells #[.int .i64 a.f, .int .i64 a.t, .bool a.neg] 36))
      case first =>
        go_wp2_with fail
        all_goals
          go_meet
          exact ⟨congrArg Value.bool (by rw [Bool.eq_iff_iff]; simp [bad]; omega), rfl⟩
      case rest =>
        obtain ⟨rfl, rfl⟩ := hcut
        by_cases hbad : bad n a = true
        · have HX := Lib.hid (show l.any (bad n) = true from List.any_eq_true.2 ⟨a, HM.out, hbad⟩)
          rw [hbad]
          clear hbad
          go_wp2_with fail
          go_ret2
          exact OfPost.yes HX.out (by rw [HOB.out]; exact HG.out.2)
        · have hbf : bad n a = false := by simpa using hbad
          have HX := Lib.hid (show ∀ a ∈ l.take (k + 1), bad n a = false by rw [HA.out.2.2.2.2.1]; intro b hb; rcases List.mem_append.1 hb with hb | hb; exact HN.out b hb; rw [List.mem_singleton.1 hb]; exact hbf)
          rw [hbf]
          simp only [bad, Bool.or_eq_true, decide_eq_true_eq] at hbad
          obtain ⟨v, hv⟩ := Int.eq_ofNat_of_zero_le (show 0 ≤ a.f by omega)
          have hvn : v < n := by omega
          clear hbf hbad
          obtain ⟨aa0, aa1, aa2, hak, htk, hG0⟩ := HA.out
          have hGc0 := HG.out.1.c0
          have hGc1 := HG.out.1.c1
          obtain ⟨A', c', hcs0, hos0, hle, hcm, hfz0⟩ := hG0.mat.at hvn
          have hbW := below_alloc (Below.refl wr.heap.size wr) (.cells #[.int .i64 a.f, .int .i64 a.t, .bool a.neg] 36)
          have hcs := (hbW.cell (p := ⟨ob, v, none⟩) hG0.mat.lt).trans hcs0
          have hfz := (hbW.frozen (p := ⟨ob, v, none⟩) hG0.mat.lt).trans hfz0
          have hos := own_keep hos0 hbW
          have HBL := Lib.hid (show ∀ q, (Value.slice A' (outs (l.take k) v).length c').ownBlock = some q → q < wr.heap.size from fun q hq => (hos0.lt q hq).2)
          clear hcs0 hos0 hfz0 hbW
          generalize wr.alloc (.cells #[.int .i64 a.f, .int .i64 a.t, .bool a.neg] 36) = W at *
          rw [hv] at aa0
          have hrl := HOL.out v
          have HV := Lib.hid (And.intro hv (And.intro hak htk))
          have HOS := Lib.hid hos
          have HVM := Lib.hid (show ∀ (v : Nat) (x : AI), x ∈ outs (l.take k) v → x.f = v from fun v x hx => outs_from (l.take k) (fun b hb => by have := HN.out b hb; simp [bad] at this; omega) v x hx)
          clear hv hak htk hos hc0 hc1 hc2 hgc0 hgc1 hG0
          go_upto_region 11 with fail
          go_quiet (fail)
          go_wp2_with fail
          go_upto_region 13 with fail
          go_cut [68] (fun s68 wx => s68 = .bool (decide ((outs (l.take k) v).getLast? = some a)) ∧ ∃ m m2, wx = (W.drewN m).drewN m2)
          case first =>
            have hvm : ∀ x ∈ outs (l.take k) v, x.f = v := fun x hx => HVM.out v x hx
            generalize outs (l.take k) v = row at *
            have hgl2 := row_last row
            cases hrow : row.getLast? with
            | none =>
              have HR := Lib.hid hrow
              have hr0 : ¬ 0 < row.length := by rw [hrow] at hgl2; omega
              clear hgl2 hrow hvm
              go_quiet (fail)
              go_wp2_with fail
              go_meet
              exact ⟨by rw [HR.out]; rfl, _, _, rfl⟩
            | some z =>
              have HR := Lib.hid hrow
              rw [hrow] at hgl2
              obtain ⟨hr0, hzi⟩ := hgl2
              obtain ⟨b3, off3, rfl, hz0, hz1, hz2⟩ := rd_arc (own_rd HOS.out) (i := row.length - 1) (by omega)
              have hzi' : row[row.length - 1] = z := by rw [← hzi, getElem!_pos row _ (by omega)]
              rw [hzi'] at hz0 hz1 hz2
              have hzf : z.f = v := hvm z (by rw [← hzi']; exact List.getElem_mem _)
              rw [hzf] at hz0
              clear hrow hvm hzi hzi'
              by_cases ht : z.t = a.t
              · by_cases hneg : z.neg = a.neg
                · have hD := Lib.hid (show (Value.bool true : Value) = .bool (decide (some z = some a)) by rw [decide_eq_true]; rw [AI.ext' (hzf.trans HV.out.1.symm) ht hneg])
                  rw [ht] at hz1
                  rw [hneg] at hz2
                  clear hzf ht hneg
                  go_quiet (fail)
                  go_wp2_with fail
                  go_meet
                  exact ⟨by rw [HR.out]; exact hD.out, _, _, rfl⟩
                · have hD := Lib.hid (show (Value.bool false : Value) = .bool (decide (some z = some a)) by rw [decide_eq_false]; intro e; exact hneg (by rw [Option.some.inj e]))
                  rw [ht] at hz1
                  clear hzf ht
                  go_quiet (fail)
                  go_wp2_with fail
                  go_meet
                  exact ⟨by rw [HR.out]; exact hD.out, _, _, rfl⟩
              · have hD := Lib.hid (show (Value.bool false : Value) = .bool (decide (some z = some a)) by rw [decide_eq_false]; intro e; exact ht (by rw [Option.some.inj e]))
                clear hzf
                go_quiet (fail)
                go_wp2_with fail
                go_meet
                exact ⟨by rw [HR.out]; exact hD.out, _, _, rfl⟩
          case rest =>
            obtain ⟨rfl, m, m2, rfl⟩ := hcut
            by_cases hsame : (outs (l.take k) v).getLast? = some a
            · rw [decide_eq_true hsame]
              have HR := Lib.hid (show outs (l.take (k + 1)) = outs (l.take k) by rw [HV.out.2.2, outs_snoc, addArc, show a.f.toNat = v by have := HV.out.1; omega, if_pos hsame])
              clear hsame
              go_wp2_with fail
              go_roundw
              case rel => exact ⟨k + 1, by omega, by go_num, by rw [HR.out]; exact ⟨hGc0, hGc1, HG.out.1.mat.keep ⟨rfl, rfl, rfl, Nat.le_refl _, fun _ _ => rfl⟩⟩, ⟨HG.out.2.os, HG.out.2.tape, HG.out.2.output, HG.out.2.size, HG.out.2.block⟩, hszW, HX⟩
              case measure => simp [intOf]; omega
            · rw [decide_eq_false hsame]
              have HS := Lib.hid hsame
              clear hsame
              go_wp2_with fail
              have hG2 : GraphR ((W.drewN m).drewN m2) gb ob (gb + 1) n (outs (l.take k)) := ⟨hGc0, hGc1, HG.out.1.mat.keep ⟨rfl, rfl, rfl, Nat.le_refl _, fun _ _ => rfl⟩⟩
              have hb2 : Below ob w ((W.drewN m).drewN m2) := ⟨HG.out.2.os, HG.out.2.tape, HG.out.2.output, HG.out.2.size, HG.out.2.block⟩
              have hf0 : ((W.drewN m).drewN m2).cell? ⟨wr.heap.size, 0, none⟩ = some (.int .i64 v) := aa0
              have hf1 : ((W.drewN m).drewN m2).cell? ⟨wr.heap.size, 1, none⟩ = some (.int .i64 a.t) := aa1
              have hf2 : ((W.drewN m).drewN m2).cell? ⟨wr.heap.size, 2, none⟩ = some (.bool a.neg) := aa2
              have hf3 : ((W.drewN m).drewN m2).cell? ⟨ob, v, none⟩ = some (.slice A' (outs (l.take k) v).length c') := hcs
              have hf4 : ((W.drewN m).drewN m2).frozen? ⟨ob, v, none⟩ = false := hfz
              have hf5 : ((W.drewN m).drewN m2).cell? ⟨gb, 1, none⟩ = some (.slice (some ⟨ob, 0, none⟩) n n) := hGc1
              have hf6 : gb + 1 ≤ ((W.drewN m).drewN m2).heap.size := hszW
              have hos2 : ((W.drewN m).drewN m2).ownsRow (gb + 1) 36 3 (.slice A' (outs (l.take k) v).length c') (outs (l.take k) v).length (avs (outs (l.take k) v)) := own_keep HOS.out ⟨rfl, rfl, rfl, Nat.le_refl _, fun _ _ => rfl⟩
              have HW2 := Lib.hid (And.intro hG2 (And.intro hb2 hos2))
              clear hG2 hb2 hos2
              clear aa0 aa1 aa2 hcs hfz hGc0 hGc1 hszW HG HOS
              generalize (W.drewN m).drewN m2 = W2 at *
              obtain ⟨i0, hi0, hz0, hz1, hz2⟩ := info_parts info36
              have hown := HW2.out.2.2
              have hbx : ∀ q, (Value.slice A' (outs (l.take k) v).length c').ownBlock = some q → gb + 1 ≤ q := fun q hq => own_base hown q hq
              have hob1 : (Value.slice A' (outs (l.take k) v).length c').ownBlock ≠ some ob := fun e => by have := hbx ob e; omega
              have hob2 : (Value.slice A' (outs (l.take k) v).length c').ownBlock ≠ some gb := fun e => by have := hbx gb e; omega
              have hob3 : (Value.slice A' (outs (l.take k) v).length c').ownBlock ≠ some wr.heap.size := fun e => by have := HBL.out _ e; omega
              have hbxl := World.block_lt_of_cell? W2 _ hf0
              have hobl := World.block_lt_of_cell? W2 _ hf3
              have hgbl := World.block_lt_of_cell? W2 _ hf5
              simp only at hbxl hobl hgbl
              clear hbx
              go_region_held3 (fun w' => w'.cell? ⟨gb, 1, none⟩ = some (.slice (some ⟨ob, 0, none⟩) n n) ∧ w'.cell? ⟨wr.heap.size, 0, none⟩ = some (.int .i64 v) ∧ w'.cell? ⟨wr.heap.size, 1, none⟩ = some (.int .i64 a.t) ∧ w'.cell? ⟨wr.heap.size, 2, none⟩ = some (.bool a.neg))
                (first
                  | go_keep
                  | (go_split_ands
                     refine ⟨?_, ?_, ?_, ?_⟩
                     · (rw [hgrow.cell_far _ (by simp; omega) (Ne.symm hob2)]; assumption)
                     · (rw [hgrow.cell_far _ (by simp; omega) (Ne.symm hob3)]; assumption)
                     · (rw [hgrow.cell_far _ (by simp; omega) (Ne.symm hob3)]; assumption)
                     · (rw [hgrow.cell_far _ (by simp; omega) (Ne.symm hob3)]; assumption))
                  | (go_split_ands
                     refine ⟨?_, ?_, ?_, ?_⟩ <;> (rw [World.cell?_setCell_other _ _ _ _ (fun e => by have := congrArg Addr.block e; simp at this; omega)]; assumption)))
                ((refine step_append_lies _ (by rfl) _ _ _ (by rfl) (gb + 1) 36 i0 _ 3 24 Try.underlying22 hi0 hz0 hz1 hz2 rfl (by omega) _ _ _ (by rfl) ((hown.alloc _).drew)
                    ⟨W2.heap.size, 0, none⟩ 1 1 [.int .i64 v, .int .i64 a.t, .bool a.neg] (by rfl) (by rfl) (World.news_of_block (cs := #[.int .i64 v, .int .i64 a.t, .bool a.neg]) (t := 36) (fr := (0, 0)) (heap_alloc_new W2 _)) (by simp [Value.oneCell'])
                    (by omega) (by unfold maxLen; omega) (by omega) (by simp; omega) (W2.heap.size + 1) (by simp) ?_; intro gg cap w1 hown1 hgrow hat hlt1; have hcs1 : w1.cell? ⟨ob, v, none⟩ = some (.slice A' (outs (l.take k) v).length c') := (hgrow.cell_far ⟨ob, v, none⟩ (by simp; omega) (Ne.symm hob1)).trans (((below_alloc (Below.refl W2.heap.size W2) _).cell (p := ⟨ob, v, none⟩) hobl).trans hf3); have hfz1 : w1.frozen? ⟨ob, v, none⟩ = false := (hgrow.frozen_far ⟨ob, v, none⟩ (by simp; omega) (Ne.symm hob1)).trans (((below_alloc (Below.refl W2.heap.size W2) _).frozen (p := ⟨ob, v, none⟩) hobl).trans hf4)))
              have hbA : Below W2.heap.size W2 (W2.alloc (.cells #[.int .i64 v, .int .i64 a.t, .bool a.neg] 36)).drew := below_drewN (below_alloc (Below.refl W2.heap.size W2) _) 1
              have hGA := HW2.out.1.keep hbA
              have hp := arcRows_push (a := a) hGA.mat hvn (by have := HV.out.1; omega) HS.out ((hbA.cell (p := ⟨ob, v, none⟩) hobl).trans hf3) hgrow (by rw [HV.out.1]; exact hown1)
                (by rcases hat with hat | hat; exact .inl hat.symm; exact .inr ⟨gg, rfl, by rw [hat]; simp⟩)
              have hbB : Below ob w (W2.alloc (.cells #[.int .i64 v, .int .i64 a.t, .bool a.neg] 36)).drew := below_then HW2.out.2.1 (by omega) hbA
              have hszA : W2.heap.size + 1 ≤ (W2.alloc (.cells #[.int .i64 v, .int .i64 a.t, .bool a.neg] 36)).drew.heap.size := by simp
              have hbC := below_tch hbB (by omega) hp.2 (fun q _ hq => by omega)
              have hGC : GraphR (w1.setCell ⟨ob, v, none⟩ (.slice (some ⟨gg, 0, none⟩) ((outs (l.take k) v).length + 1) cap)) gb ob (gb + 1) n (outs (l.take (k + 1))) := by
                refine ⟨(hp.2.cell (p := ⟨gb, 0, none⟩) (by simp; omega) (by simp; omega)).trans hGA.c0, (hp.2.cell (p := ⟨gb, 1, none⟩) (by simp; omega) (by simp; omega)).trans hGA.c1, ?_⟩
                rw [HV.out.2.2, outs_snoc]
                exact hp.1
              have hszC := Nat.le_trans hszA hp.2.size
              have HC := Lib.hid (And.intro hGC (And.intro hbC hszC))
              clear hbA hGA hp hbB hszA hbC hGC hszC hown hown1 hgrow hat hfz1 hcs1
              go_wp2_with fail
              go_roundw
              case rel => exact ⟨k + 1, by omega, by go_num, HC.out.1, HC.out.2.1, by have := HC.out.2.2; omega, HX⟩
              case measure => simp [intOf]; omega
    · have HX := Lib.hid (show l.any (bad n) = false by rw [List.any_eq_false]; intro x hx; have := HN.out x (by rw [List.take_of_length_le (by omega)]; exact hx); simpa using this)
      have HG := Lib.hid (And.intro (show GraphR wr gb ob (gb + 1) n (outs l) by rw [← List.take_of_length_le (l := l) (i := k) (by omega)]; exact hG) hb)
      clear hG hb HN
      go_wp2_with fail
      go_ret2
      exact OfPost.no HX.out HG.out.1 (by rw [HOB.out]; exact HG.out.2)
end Go.Proofs.Ytnhnckhjcnjacaa.ST
