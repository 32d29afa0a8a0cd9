/- Strata: the walk of the reference's Strata. -/
import Derived.Test.YtnhnckhjcnjacaaUj
namespace Go.Proofs.Ytnhnckhjcnjacaa.ST
open Go.RowKit Go.Proofs.YtnhnckhjcnjacaaKw Go.Proofs.YtnhnckhjcnjacaaSg Go.Proofs.YtnhnckhjcnjacaaSw
set_option linter.unusedVariables false
set_option linter.unusedSimpArgs false

/-- What is lacking. -/
def slack (S o : Nat → Int) (n : Nat) : Nat := ((List.range n).map fun v => (S v - o v).toNat).sum
theorem slack_upd (S o : Nat → Int) {f : Nat} (x : Int) : ∀ n, slack S (upd o f x) n + (if f < n then (S f - o f).toNat else 0) = slack S o n + (if f < n then (S f - x).toNat else 0) := by
  intro n
  induction n with
  | zero => simp [slack]
  | succ n ih =>
    unfold slack at ih ⊢
    rw [List.range_succ, List.map_append, List.map_append, List.sum_append, List.sum_append]
    by_cases e : f = n
    · subst e
      simp [upd_same] at ih ⊢
      omega
    · have h1 : upd o f x n = o n := upd_other _ _ (fun e' => e e'.symm)
      by_cases h2 : f < n
      · have h3 : f < n + 1 := by omega
        simp only [h2, h3, if_true, List.map_cons, List.map_nil, List.sum_cons, List.sum_nil, h1] at ih ⊢
        omega
      · have h3 : ¬ f < n + 1 := by omega
        simp only [h2, h3, if_false, List.map_cons, List.map_nil, List.sum_cons, List.sum_nil, h1] at ih ⊢
        omega
theorem slack_lt {S o : Nat → Int} {f n : Nat} {x : Int} (hf : f < n) (h1 : o f < x) (h2 : x ≤ S f) : slack S (upd o f x) n + 1 ≤ slack S o n := by
  have := slack_upd S o (f := f) x n
  rw [if_pos hf, if_pos hf] at this
  omega
def slackW (S : Nat → Int) (w : World) (ob n : Nat) : Nat := ((List.range n).map fun v => (S v - intOf ((w.cell? ⟨ob, v, none⟩).getD (.bool false))).toNat).sum
/-- While the strata are raised. -/
structure RS (w0 w : World) (n ob : Nat) (S o : Nat → Int) : Prop where
  arr : IArr w ob n o
  lo : w0.heap.size ≤ ob
  nn : ∀ v, v < n → 0 ≤ o v ∧ o v ≤ S v
  below : Below w0.heap.size w0 w
theorem RS.set {w0 w : World} {n ob f : Nat} {S o : Nat → Int} {x : Int} (h : RS w0 w n ob S o) (hf : f < n) (h0 : 0 ≤ x) (hx : x ≤ S f) : RS w0 (w.setCell ⟨ob, f, none⟩ (.int .i64 x)) n ob S (upd o f x) := by
  have ht := Ap.setCell_tch w ⟨ob, f, none⟩ (.int .i64 x) (fun q => q = ob) rfl
  have hl := h.lo
  refine ⟨h.arr.set hf x, h.lo, fun u hu => ?_, below_tch h.below h.below.size ht (fun q _ hq => by omega)⟩
  unfold upd
  split
  · rename_i e; subst e; exact ⟨h0, hx⟩
  · exact h.nn u hu
theorem RS.slack_eq {w0 w : World} {n ob : Nat} {S o : Nat → Int} (h : RS w0 w n ob S o) : slackW S w ob n = slack S o n := by
  unfold slackW slack
  congr 1
  refine List.map_congr_left fun v hv => ?_
  rw [h.arr.cell (by simpa using hv)]
  rfl
theorem ringL_pos {n : Nat} {l : List AI} {r : Int} (hg : GoodG n l) (h : RSpec l (fun v => (PP n l v : Int)) r) : (0 ≤ r → 0 < (ringL (fun v => (PP n l v : Int)) r n).length) ∧ (¬ 0 ≤ r → ringL (fun v => (PP n l v : Int)) r n = []) := by
  refine ⟨fun h0 => ?_, fun h0 => ?_⟩
  · rcases h with ⟨e, _⟩ | ⟨_, ⟨a, ha, _, _, e⟩, _⟩
    · omega
    · refine List.length_pos_iff.2 fun hnil => ?_
      have : a.f.toNat ∈ ringL (fun v => (PP n l v : Int)) r n := by
        unfold ringL
        rw [List.mem_filter, List.mem_range]
        have e' : (PP n l a.f.toNat : Int) = r := e.symm
        exact ⟨(hg.arc ha).1, by simp only [h0, e', decide_true, Bool.and_self]⟩
      rw [hnil] at this
      simp at this
  · unfold ringL
    rw [List.filter_eq_nil_iff]
    intro x _
    simp
    omega
set_option maxHeartbeats 1000000 in
theorem strataR_fault (A : Option Addr) (c : Nat) (n : Int) (l : List AI) (w : World) (hr : Rd w A (avs l)) (hl : l.length ≤ 140737488355328) (hf : fault n l ≠ 0) :
    Calls Try.prog 20 #[.int .i64 n, .slice A l.length c] w fun e w' => e = .returned (.tuple #[.slice none 0 0, .int .i64 (fault n l)]) ∧ Below w.heap.size w w' := by
  have hc := ringR_fault A c n l w hr hl hf
  have hf' : ¬ fault n l = 0 := hf
  generalize fault n l = x at *
  have H := Lib.hid hc
  clear hc hr hf
  go_enter Try.func20, Try.ntmps20
  go_wp2_with fail
  refine H.out.mono ?_
  rintro e w1 ⟨rfl, hB⟩
  go_wp2_with fail
  go_ret2
  exact ⟨rfl, hB⟩
set_option maxHeartbeats 1000000 in
theorem strataR_ring (A : Option Addr) (c n : Nat) (l : List AI) (w : World) (hr : Rd w A (avs l)) (hg : GoodG n l) (hr0 : 0 ≤ rr n l) :
    Calls Try.prog 20 #[.int .i64 n, .slice A l.length c] w fun e w' => e = .returned (.tuple #[.slice none 0 0, .int .i64 81]) ∧ Below w.heap.size w w' := by
  have hc := ringR_good A c n l _ w hr hg (rr_fold hg)
  have hpos := (ringL_pos hg (rr_spec hg)).1 hr0
  generalize ringL (fun v => (PP n l v : Int)) (rr n l) n = L at *
  have hlm : (L.map fun x : Nat => (x : Int)).length = L.length := by simp
  unfold AnsO at hc
  rw [hlm] at hc
  have H := Lib.hid hc
  clear hc hr hr0 hg hlm
  go_enter Try.func20, Try.ntmps20
  go_wp2_with fail
  refine H.out.mono ?_
  rintro e w1 ⟨⟨A1, c1, rfl, _⟩, hB⟩
  go_wp2_with fail
  go_ret2
  exact ⟨rfl, hB⟩
set_option maxHeartbeats 16000000 in
set_option maxRecDepth 100000 in
theorem strataR_calls (A : Option Addr) (c n : Nat) (l : List AI) (S : Nat → Int) (w : World) (hr : Rd w A (avs l)) (hg : GoodG n l) (hr0 : ¬ 0 ≤ rr n l) (hS : Sol n l S) (hleast : ∀ o, Sol n l o → ∀ v, v < n → S v ≤ o v) (hbd : ∀ v, v < n → S v ≤ 4096) :
    Calls Try.prog 20 #[.int .i64 n, .slice A l.length c] w fun e w' => (∃ b, e = .returned (.tuple #[.slice (some ⟨b, 0, none⟩) n n, .int .i64 0]) ∧ w.heap.size ≤ b ∧ IArr w' b n S) ∧ Below w.heap.size w w' := by
  have hc := ringR_good A c n l _ w hr hg (rr_fold hg)
  have hnil := (ringL_pos hg (rr_spec hg)).2 hr0
  rw [hnil] at hc
  unfold AnsO at hc
  have hn := hg.hn
  have hl := hg.hl
  have H := Lib.hid hc
  have HC := Lib.hid (And.intro hr (And.intro (arcs_ok hg.hb) (And.intro hS (And.intro hleast hbd))))
  clear hc hr hr0 hg hnil hS hleast hbd
  go_enter Try.func20, Try.ntmps20
  go_wp2_with fail
  refine H.out.mono ?_
  rintro e w1 ⟨⟨A1, c1, rfl, _⟩, hB⟩
  have HB := Lib.hid hB
  clear hB
  go_wp2_with (at_make; refine make_arr (Value.int .i64) 0 _ (.tmp 24) (.tmp 24) 26 3 8 n Try.underlying26 info3 rfl rfl rfl rfl rfl (by omega) (by unfold maxLen; omega) ?_; intro w2 hA2 hB2)
  have hst : RS w w2 n w1.heap.size S (fun _ => 0) := ⟨hA2, HB.out.size, fun v hv => ⟨Int.le_refl _, HC.out.2.2.1.1 v hv⟩, below_then HB.out HB.out.size hB2⟩
  obtain ⟨ob, hob⟩ : ∃ ob, ob = w1.heap.size := ⟨_, rfl⟩
  rw [← hob] at hst ⊢
  have HS := Lib.hid hst
  have HNB := Lib.hid hob
  clear hA2 hB2 hst hob H HB
  go_loopw [9] (fun v wr => ∃ (b : Bool) (o : Nat → Int), v = .bool b ∧ RS w wr n ob S o ∧ Hid (b = false → ∀ a ∈ l, o a.t.toNat + ng a ≤ o a.f.toNat)) (fun v wr => 2 * slackW S wr ob n + isT v)
  case atStart => exact ⟨true, _, rfl, HS.out, Lib.hid fun h => Bool.noConfusion h⟩
  case round =>
    clear HS
    obtain ⟨b, o, rfl, hR, hcl⟩ := hrel
    cases b with
    | false =>
      have hsol : Sol n l o := ⟨fun v hv => (hR.nn v hv).1, hcl.out rfl⟩
      have heq : ∀ v, v < n → S v = o v := fun v hv => Int.le_antisymm (HC.out.2.2.2.1 o hsol v hv) (hR.nn v hv).2
      have HF := Lib.hid (And.intro hR.lo (And.intro (hR.arr.congr heq) hR.below))
      clear hR hcl hsol heq
      go_wp2_with fail
      go_ret2
      exact ⟨⟨ob, rfl, HF.out.1, HF.out.2.1⟩, HF.out.2.2⟩
    | true =>
      have hof := hR.slack_eq
      have HX := Lib.hid (And.intro hR hof)
      clear hR hcl hof
      go_wp2_with fail
      go_loopw [9, 10] (fun v i wq => ∃ (k : Nat) (b : Bool) (o2 : Nat → Int), k ≤ l.length ∧ i = .int .i64 k ∧ v = .bool b ∧ RS w wq n ob S o2 ∧ Hid (slack S o2 n ≤ slack S o n ∧ (b = true → slack S o2 n + 1 ≤ slack S o n) ∧ (b = false → ∀ j (h : j < l.length), j < k → o2 l[j].t.toNat + ng l[j] ≤ o2 l[j].f.toNat))) (fun _ i _ => l.length - (intOf i).toNat)
      case atStart => exact ⟨0, false, o, Nat.zero_le _, rfl, rfl, HX.out.1, Lib.hid ⟨Nat.le_refl _, fun h => Bool.noConfusion h, fun _ j hj hjk => by omega⟩⟩
      case round =>
        obtain ⟨k, b, o2, hk, rfl, rfl, hR, hH⟩ := hrel
        by_cases hlt : k < l.length
        · obtain ⟨b9, off9, rfl, ha0, ha1, ha2⟩ := rd_arc (HC.out.1.keep hR.below) hlt
          have hao := HC.out.2.1 _ (List.getElem_mem hlt)
          have hso := HC.out.2.2.1.2 _ (List.getElem_mem hlt)
          obtain ⟨f, hf⟩ := Int.eq_ofNat_of_zero_le hao.1
          obtain ⟨t, ht⟩ := Int.eq_ofNat_of_zero_le hao.2.2.1
          have hfn : f < n := by omega
          have htn : t < n := by omega
          have hft : l[k].f.toNat = f ∧ l[k].t.toNat = t := by omega
          rw [hft.1, hft.2] at hso
          rw [hf] at ha0
          rw [ht] at ha1
          have k1 := hR.arr.cell hfn
          have k2 := hR.arr.cell htn
          have k3 := hR.arr.fz f
          have ht0 := hR.nn t htn
          have hSt := HC.out.2.2.2.2 t htn
          have hng : ng l[k] = if l[k].neg = true then 1 else 0 := rfl
          have hbw : IntKind.i64.wrap (o2 t + 1) = o2 t + 1 := IntWalk.i64_in _ (by omega)
          have hset : ∀ x, o2 f < x → 0 ≤ x → x ≤ S f → RS w (wr.setCell ⟨ob, f, none⟩ (.int .i64 x)) n ob S (upd o2 f x) ∧ slack S (upd o2 f x) n + 1 ≤ slack S o2 n := fun x h1 h2 h3 => ⟨hR.set hfn h2 h3, slack_lt hfn h1 h3⟩
          have HE := Lib.hid (And.intro hft (And.intro hR hset))
          clear hao hf ht hft hR hset
          cases hneg : l[k].neg with
          | false =>
            rw [hneg] at ha2 hng
            rw [if_neg (fun h => Bool.noConfusion h)] at hng
            by_cases h1 : o2 f < o2 t
            · have hz := HE.out.2.2 (o2 t) h1 (by omega) (by omega)
              have HZ := Lib.hid hz
              clear hz hneg
              go_wp2_with fail
              go_roundw
              case rel => exact ⟨k + 1, true, _, by omega, by go_num, rfl, HZ.out.1, Lib.hid ⟨by have := HZ.out.2; have := hH.out.1; omega, fun _ => by have := HZ.out.2; have := hH.out.1; omega, fun h => Bool.noConfusion h⟩⟩
              case measure => simp [intOf]; omega
            · have HZ := Lib.hid (show ∀ b' : Nat, b = false → ∀ j (h : j < l.length), j < k + 1 → o2 l[j].t.toNat + ng l[j] ≤ o2 l[j].f.toNat from fun _ hb j hj hjk => by
                by_cases e : j = k
                · subst e; rw [HE.out.1.1, HE.out.1.2, hng]; omega
                · exact hH.out.2.2 hb j hj (by omega))
              clear hneg
              go_wp2_with fail
              go_roundw
              case rel => exact ⟨k + 1, b, o2, by omega, by go_num, rfl, HE.out.2.1, Lib.hid ⟨hH.out.1, hH.out.2.1, HZ.out 0⟩⟩
              case measure => simp [intOf]; omega
          | true =>
            rw [hneg] at ha2 hng
            rw [if_pos rfl] at hng
            by_cases h1 : o2 f < o2 t + 1
            · have hz := HE.out.2.2 (o2 t + 1) h1 (by omega) (by omega)
              have HZ := Lib.hid hz
              clear hz hneg
              go_wp2_with fail
              go_roundw
              case rel => exact ⟨k + 1, true, _, by omega, by go_num, rfl, HZ.out.1, Lib.hid ⟨by have := HZ.out.2; have := hH.out.1; omega, fun _ => by have := HZ.out.2; have := hH.out.1; omega, fun h => Bool.noConfusion h⟩⟩
              case measure => simp [intOf]; omega
            · have HZ := Lib.hid (show ∀ b' : Nat, b = false → ∀ j (h : j < l.length), j < k + 1 → o2 l[j].t.toNat + ng l[j] ≤ o2 l[j].f.toNat from fun _ hb j hj hjk => by
                by_cases e : j = k
                · subst e; rw [HE.out.1.1, HE.out.1.2, hng]; omega
                · exact hH.out.2.2 hb j hj (by omega))
              clear hneg
              go_wp2_with fail
              go_roundw
              case rel => exact ⟨k + 1, b, o2, by omega, by go_num, rfl, HE.out.2.1, Lib.hid ⟨hH.out.1, hH.out.2.1, HZ.out 0⟩⟩
              case measure => simp [intOf]; omega
        · have hcl2 : b = false → ∀ a ∈ l, o2 a.t.toNat + ng a ≤ o2 a.f.toNat := fun hb a ha => by
            obtain ⟨j, hj, rfl⟩ := List.mem_iff_getElem.1 ha
            exact hH.out.2.2 hb j hj (by omega)
          have hme : 2 * slack S o2 n + isT (.bool b) < 2 * slack S o n + 1 := by
            have h1 := hH.out.1
            cases b with
            | true => have := hH.out.2.1 rfl; simp [isT]; omega
            | false => simp [isT]; omega
          have HZ := Lib.hid (And.intro hR (And.intro hcl2 hme))
          clear hR hcl2 hme
          go_wp2_with fail
          go_roundw
          case rel => exact ⟨b, o2, rfl, HZ.out.1, Lib.hid HZ.out.2.1⟩
          case measure =>
            have h1 := HX.out.2
            have h2 := HZ.out.1.slack_eq
            have h3 := HZ.out.2.2
            simp only [h1, h2]
            simp [isT] at h3 ⊢
            omega
theorem strataR_ans (A : Option Addr) (c : Nat) (n : Int) (l : List AI) (w : World) (hr : Rd w A (avs l)) (hl : l.length ≤ 140737488355328) :
    Calls Try.prog 20 #[.int .i64 n, .slice A l.length c] w (AnsO w (strataV n l) (strataE n l)) := by
  unfold strataV strataE
  by_cases h0 : fault n l = 0
  · obtain ⟨m, rfl, hg⟩ := GoodG.of h0
    have hne : ¬ fault m l ≠ 0 := fun e => e h0
    rw [if_neg hne, if_neg hne, Int.toNat_natCast]
    by_cases hr0 : 0 ≤ rr m l
    · rw [if_pos hr0, if_pos hr0]
      refine (strataR_ring A c m l w hr hg hr0).mono ?_
      rintro e w1 ⟨rfl, hB⟩
      exact AnsO.nil hB
    · rw [if_neg hr0, if_neg hr0]
      have hP := PP_spec hg
      have hS := SS_spec hg
      have hno : ∀ a ∈ l, a.neg = true → PP m l a.f.toNat ≠ PP m l a.t.toNat := by
        rcases rr_spec hg with ⟨_, h⟩ | ⟨h, _⟩
        · exact fun a ha hn e => h a ha hn (by show (PP m l a.f.toNat : Int) = PP m l a.t.toNat; rw [e])
        · exact absurd h hr0
      obtain ⟨_, _, _, _, _, hMM, _⟩ := PP_plan hg
      have hmn := hg.hn
      refine (strataR_calls A c m l (SS m l) w hr hg hr0 (hS.sol hg hno) (fun o ho v hv => hS.least hg hP ho (PP m l v) v (Nat.le_refl _) hv) (fun v hv => by
        have h1 := hS.le hg hP (PP m l v) v (Nat.le_refl _) hv
        have h2 := hP.lt v hv
        omega)).mono ?_
      rintro e w1 ⟨⟨b, rfl, hlb, hA⟩, hB⟩
      exact AnsO.arr hA hlb hB
  · rw [if_pos h0, if_pos h0]
    refine (strataR_fault A c n l w hr hl h0).mono ?_
    rintro e w1 ⟨rfl, hB⟩
    exact AnsO.nil hB
end Go.Proofs.Ytnhnckhjcnjacaa.ST
