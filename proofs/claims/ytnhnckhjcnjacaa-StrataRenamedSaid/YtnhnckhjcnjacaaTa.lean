/- Strata: the walk of Reach, its loops. -/
import Derived.Test.YtnhnckhjcnjacaaSz
namespace Go.Proofs.Ytnhnckhjcnjacaa.ST
open Go.RowKit Go.Proofs.YtnhnckhjcnjacaaKw Go.Proofs.YtnhnckhjcnjacaaSg Go.Proofs.YtnhnckhjcnjacaaSw
set_option linter.unusedVariables false
set_option linter.unusedSimpArgs false

theorem info4 : (Try.prog.info? 4).map (fun i => (i.zero, i.size, i.bytes)) = some (some (.bool false), 1, 1) := by kernel_rfl
set_option maxHeartbeats 1000000 in
theorem reachF_fault (A B : Option Addr) (c m d : Nat) (n : Int) (l : List AI) (w : World) (hr : Rd w A (avs l)) (hl : l.length ≤ 140737488355328) (hf : fault n l ≠ 0) :
    Calls Try.prog 23 #[.int .i64 n, .slice A l.length c, .slice B m d] w fun e w' => e = .returned (.tuple #[.slice none 0 0, .int .i64 (fault n l)]) ∧ Below w.heap.size w w' := by
  have hc := of_fault A c n l w hr hl hf
  have hf' : ¬ fault n l = 0 := hf
  generalize fault n l = x at *
  have H := Lib.hid hc
  clear hc hr hf
  go_enter Try.func23, Try.ntmps23
  go_wp2_with fail
  refine H.out.mono ?_
  rintro e w1 ⟨rfl, hB⟩
  go_wp2_with fail
  go_ret2
  exact ⟨rfl, hB⟩
theorem RR.start {w0 w w2 : World} {n : Nat} (hw : Below w0.heap.size w0 w) (hA : Arr Value.bool 4 w2 w.heap.size n (fun _ => false)) (hB : Below w.heap.size w w2) :
    RR w0 ((w2.alloc (.cells #[.slice (some ⟨w.heap.size, 0, none⟩) n n] 62)).alloc (.cells #[.slice none 0 0] 26)) n w.heap.size w2.heap.size (w2.heap.size + 1) (fun _ => false) [] := by
  have hb := allocs_below w2 [.cells #[.slice (some ⟨w.heap.size, 0, none⟩) n n] 62, .cells #[.slice none 0 0] 26]
  have a0 := allocs_at w2 [.cells #[.slice (some ⟨w.heap.size, 0, none⟩) n n] 62, .cells #[.slice none 0 0] 26] 0 _ rfl
  have a1 := allocs_at w2 [.cells #[.slice (some ⟨w.heap.size, 0, none⟩) n n] 62, .cells #[.slice none 0 0] 26] 1 _ rfl
  have hc := cell_one a1
  have hc0 := cell_one a0
  have hl := hA.lt
  exact ⟨hA.keep hb, hc0.1, ⟨none, 0, hc.1, World.ownsRow_nil _ _ _ _⟩, hc.2, ⟨hw.size, hl, Nat.lt_succ_self _, by simp⟩, below_then (below_then hw hw.size hB) (Nat.le_trans hw.size hB.size) hb⟩
/-- How many nodes are not reached yet. -/
def offc (on : Nat → Bool) (n : Nat) : Nat := ((List.range n).filter fun v => !on v).length
theorem offc_upd (on : Nat → Bool) {v n : Nat} (hv : v < n) (ho : on v = false) : offc (upd on v true) n + 1 = offc on n := by
  have key : ∀ k, offc (upd on v true) k + (if v < k then 1 else 0) = offc on k := by
    intro k
    induction k with
    | zero => simp [offc]
    | succ k ih =>
      unfold offc at ih ⊢
      rw [List.range_succ, List.filter_append, List.filter_append, List.length_append, List.length_append]
      by_cases hk : v = k
      · subst hk
        simp [upd, ho] at ih ⊢
        omega
      · have h2 : upd on v true k = on k := upd_other _ _ (fun e => hk e.symm)
        simp only [List.filter_cons, List.filter_nil, h2]
        by_cases h1 : v < k
        · have h3 : v < k + 1 := by omega
          simp only [h1, h3, if_true] at ih ⊢
          omega
        · have h3 : ¬ v < k + 1 := by omega
          simp only [h1, h3, if_false] at ih ⊢
          omega
  have := key n
  rw [if_pos hv] at this
  exact this
theorem offc_push (on : Nat → Bool) (L : List Nat) {v n : Nat} (hv : v < n) : (pushSt on L v).length + offc (pushOn on v) n = L.length + offc on n ∧ 2 * offc (pushOn on v) n + (pushSt on L v).length ≤ 2 * offc on n + L.length := by
  unfold pushSt pushOn
  split
  · exact ⟨rfl, Nat.le_refl _⟩
  · have := offc_upd on hv (by simpa using ‹¬ on v = true›)
    rw [List.length_append]
    simp
    omega
theorem offc_all (n : Nat) : offc (fun _ => false) n = n := by
  unfold offc
  rw [List.filter_eq_self.2 (by simp)]
  simp
def offV : Option Value → Bool
  | some (.bool b) => !b
  | _ => false
def offW (w : World) (nb sx n : Nat) : Nat := 2 * ((List.range n).filter fun v => offV (w.cell? ⟨nb, v, none⟩)).length + lenOf ((w.cell? ⟨sx, 0, none⟩).getD (.bool false))
theorem RR.offW_eq {w0 w : World} {n nb ox sx : Nat} {on : Nat → Bool} {L : List Nat} (h : RR w0 w n nb ox sx on L) : offW w nb sx n = 2 * offc on n + L.length := by
  obtain ⟨A, c, hs, _⟩ := h.row
  unfold offW offc
  rw [hs]
  have : (List.range n).filter (fun v => offV (w.cell? ⟨nb, v, none⟩)) = (List.range n).filter fun v => !on v := by
    refine List.filter_congr fun v hv => ?_
    rw [h.on.cell (by simpa using hv)]
    rfl
  rw [this]
  rfl
def SF (fs : List Int) (v : Nat) : Prop := (v : Int) ∈ fs
def badF (n : Int) (x : Int) : Bool := decide (x < 0) || decide (n ≤ x)
def onL (on : Nat → Bool) (k : Nat) : List Nat := (List.range k).filter on
theorem onL_succ (on : Nat → Bool) (k : Nat) : onL on (k + 1) = onL on k ++ (if on k = true then [k] else []) := by
  unfold onL
  rw [List.range_succ, List.filter_append]
  congr 1
  by_cases h : on k = true <;> simp [h]
theorem onL_len (on : Nat → Bool) (k : Nat) : (onL on k).length ≤ k := by
  unfold onL
  have := List.length_filter_le on (List.range k)
  simpa using this
/-- What Reach tells. -/
def ReachPost (n : Nat) (g : Nat → List Nat) (fs : List Int) (w : World) (e : Ending) (w' : World) : Prop :=
  Below w.heap.size w w' ∧ if fs.any (badF n) then e = .returned (.tuple #[.slice none 0 0, .int .i64 80])
  else ∃ v on, e = .returned (.tuple #[v, .int .i64 0]) ∧ w'.ownsRow w.heap.size 3 1 v (onL on n).length (nvs (onL on n)) ∧ ∀ u, u < n → (on u = true ↔ Rch (fun u t => t ∈ g u) (SF fs) u)
theorem ReachPost.no {n : Nat} {g : Nat → List Nat} {fs : List Int} {w w' : World} {v : Value} {on : Nat → Bool} (hb : Below w.heap.size w w') (h : fs.any (badF n) = false) (ho : w'.ownsRow w.heap.size 3 1 v (onL on n).length (nvs (onL on n))) (hr : ∀ u, u < n → (on u = true ↔ Rch (fun u t => t ∈ g u) (SF fs) u)) : ReachPost n g fs w (.returned (.tuple #[v, .int .i64 0])) w' := by
  unfold ReachPost
  rw [if_neg (by rw [h]; simp)]
  exact ⟨hb, v, on, rfl, ho, hr⟩
theorem ReachPost.yes {n : Nat} {g : Nat → List Nat} {fs : List Int} {w w' : World} (hb : Below w.heap.size w w') (h : fs.any (badF n) = true) : ReachPost n g fs w (.returned (.tuple #[.slice none 0 0, .int .i64 80])) w' := by
  unfold ReachPost
  rw [if_pos h]
  exact ⟨hb, rfl⟩
/-- The first loop of Reach. -/
structure RL (w1 wr : World) (n nb ox sx k : Nat) (g : Nat → List Nat) (fs : List Int) (on : Nat → Bool) (L : List Nat) : Prop where
  mem : RR w1 wr n nb ox sx on L
  inv : RI g n (SF fs) on L g
  len : L.length + offc on n ≤ n
  at_ : ∀ j (h : j < fs.length), j < k → ∃ v : Nat, fs[j] = v ∧ v < n ∧ on v = true
theorem RL.nobad {w1 wr : World} {n nb ox sx k : Nat} {g : Nat → List Nat} {fs : List Int} {on : Nat → Bool} {L : List Nat} (h : RL w1 wr n nb ox sx k g fs on L) (hk : fs.length ≤ k) : fs.any (badF n) = false ∧ ∀ v, SF fs v → v < n ∧ on v = true := by
  refine ⟨List.any_eq_false.2 fun x hx => ?_, fun v hv => ?_⟩
  · obtain ⟨j, hj, rfl⟩ := List.mem_iff_getElem.1 hx
    obtain ⟨v, hv, hvn, _⟩ := h.at_ j hj (by omega)
    rw [hv]
    simp [badF]
    omega
  · obtain ⟨j, hj, hjv⟩ := List.mem_iff_getElem.1 (show (v : Int) ∈ fs from hv)
    obtain ⟨u, hu, hun, hon⟩ := h.at_ j hj (by omega)
    have : u = v := by rw [hjv] at hu; omega
    subst this
    exact ⟨hun, hon⟩
theorem RL.step {w1 wr w' : World} {n nb ox sx k v : Nat} {g : Nat → List Nat} {fs : List Int} {on : Nat → Bool} {L : List Nat} (h : RL w1 wr n nb ox sx k g fs on L) (hk : k < fs.length) (hx : fs[k] = v) (hv : v < n) (hR : RR w1 w' n nb ox sx (pushOn on v) (pushSt on L v)) : RL w1 w' n nb ox sx (k + 1) g fs (pushOn on v) (pushSt on L v) := by
  refine ⟨hR, h.inv.push (.base (by show (v : Int) ∈ fs; rw [← hx]; exact List.getElem_mem _)) hv, ?_, fun j hj hjk => ?_⟩
  · have := (offc_push on L hv).1
    have := h.len
    omega
  · by_cases e : j = k
    · subst e
      exact ⟨v, hx, hv, pushOn_on _ _⟩
    · obtain ⟨u, hu, hun, hon⟩ := h.at_ j hj (by omega)
      exact ⟨u, hu, hun, pushOn_mono _ hon⟩
/-- What leads from a node, while x's first j arcs are gone. -/
def outP (g : Nat → List Nat) (x j : Nat) : Nat → List Nat := fun u => if u = x then (g x).take j else g u
theorem ri_pop {g : Nat → List Nat} {n x : Nat} {S : Nat → Prop} {on : Nat → Bool} {M : List Nat} (h : RI g n S on (M ++ [x]) g) : RI g n S on M (outP g x 0) := by
  refine ⟨h.sound, fun u hu hM t ht => ?_, fun y hy => h.st y (List.mem_append_left _ hy)⟩
  unfold outP at ht
  split at ht
  · simp at ht
  · rename_i hne
    exact h.closed u hu (fun e => by rcases List.mem_append.1 e with e | e; exact hM e; simp at e; exact hne e) t ht
theorem ri_arc {g : Nat → List Nat} {n x j t : Nat} {S : Nat → Prop} {on : Nat → Bool} {L : List Nat} (h : RI g n S on L (outP g x j)) (hj : j < (g x).length) (ht : (g x)[j] = t) (hx : on x = true) (hn : t < n) : RI g n S (pushOn on t) (pushSt on L t) (outP g x (j + 1)) := by
  have hp := h.push (v := t) (.step (h.sound x hx).1 (by rw [← ht]; exact List.getElem_mem _)) hn
  refine ⟨hp.sound, fun u hu hL y hy => ?_, hp.st⟩
  unfold outP at hy
  split at hy
  · rename_i e
    rw [List.take_succ_eq_append_getElem hj, List.mem_append] at hy
    rcases hy with hy | hy
    · exact hp.closed u hu hL y (by unfold outP; rw [if_pos e]; exact hy)
    · simp at hy; rw [hy, ht]; exact pushOn_on _ _
  · rename_i e
    exact hp.closed u hu hL y (by unfold outP; rw [if_neg e]; exact hy)
theorem ri_done {g : Nat → List Nat} {n x j : Nat} {S : Nat → Prop} {on : Nat → Bool} {L : List Nat} (h : RI g n S on L (outP g x j)) (hj : (g x).length ≤ j) : RI g n S on L g := by
  refine ⟨h.sound, fun u hu hL y hy => h.closed u hu hL y ?_, h.st⟩
  unfold outP
  split
  · rename_i e; subst e; rw [List.take_of_length_le hj]; exact hy
  · exact hy
/-- The second loop. -/
structure RM (w1 wr : World) (n nb ox sx M : Nat) (g : Nat → List Nat) (S : Nat → Prop) (on : Nat → Bool) (L : List Nat) (out : Nat → List Nat) : Prop where
  mem : RR w1 wr n nb ox sx on L
  inv : RI g n S on L out
  len : L.length + offc on n ≤ n
  mes : 2 * offc on n + L.length ≤ M
  s : ∀ v, S v → v < n ∧ on v = true
theorem RM.fin {w1 wr : World} {n nb ox sx M : Nat} {g : Nat → List Nat} {S : Nat → Prop} {on : Nat → Bool} (h : RM w1 wr n nb ox sx M g S on [] g) : ∀ u, u < n → (on u = true ↔ Rch (fun u t => t ∈ g u) S u) :=
  fun u _ => ⟨fun hu => (h.inv.sound u hu).1, fun hu => Rch.sub (fun v hv => (h.s v hv).2) (fun a b ha hb => h.inv.closed a ha List.not_mem_nil b hb) u hu⟩
theorem RM.arc {w1 wr w' : World} {n nb ox sx M x j t : Nat} {g : Nat → List Nat} {S : Nat → Prop} {on : Nat → Bool} {L : List Nat} (h : RM w1 wr n nb ox sx M g S on L (outP g x j)) (hj : j < (g x).length) (ht : (g x)[j] = t) (hx : on x = true) (hn : t < n) (hR : RR w1 w' n nb ox sx (pushOn on t) (pushSt on L t)) :
    RM w1 w' n nb ox sx M g S (pushOn on t) (pushSt on L t) (outP g x (j + 1)) ∧ pushOn on t x = true := by
  have hp := offc_push on L hn
  have h1 := h.len
  have h2 := h.mes
  exact ⟨⟨hR, ri_arc h.inv hj ht hx hn, by omega, by omega, fun v hv => ⟨(h.s v hv).1, pushOn_mono _ (h.s v hv).2⟩⟩, pushOn_mono _ hx⟩
set_option maxHeartbeats 8000000 in
set_option maxRecDepth 100000 in
theorem reachF_calls (A B : Option Addr) (c n d : Nat) (l : List AI) (from_ : List Int) (w : World) (hr : Rd w A (avs l)) (hl : l.length ≤ 262144) (hn : n ≤ 4096) (hb : l.any (bad n) = false) (hf : Rd w B (ivs from_)) (hfl : from_.length ≤ 140737488355328) :
    Calls Try.prog 23 #[.int .i64 n, .slice A l.length c, .slice B from_.length d] w (ReachPost n (tos (outs l)) from_ w) := by
  have hc := of_good A c n l w hr hl hn hb
  have HC := Lib.hid (And.intro hc hf)
  clear hc hr hb hf
  go_enter Try.func23, Try.ntmps23
  go_wp2_with fail
  refine HC.out.1.mono ?_
  rintro e w1 ⟨gb, ob, base, rfl, hG, hB⟩
  have HG := Lib.hid (And.intro hG hB)
  clear hG hB
  go_upto_region 8 with (at_make; refine make_arr Value.bool false _ (.tmp 30) (.tmp 30) 62 4 1 n Try.underlying62 info4 rfl rfl rfl rfl rfl (by omega) (by unfold maxLen; omega) ?_; intro w2 hA2 hB2)
  have hst := RR.start (w0 := w1) (Below.refl _ _) hA2 hB2
  have hgr0 : GraphI ((w2.alloc (.cells #[.slice (some ⟨w1.heap.size, 0, none⟩) n n] 62)).alloc (.cells #[.slice none 0 0] 26)) gb ob base n (outs l) := ⟨HG.out.1.rep.keep hst.below, HG.out.1.ok, HG.out.1.len, HG.out.1.small⟩
  clear hA2 hB2 hgr0
  generalize (w2.alloc (.cells #[.slice (some ⟨w1.heap.size, 0, none⟩) n n] 62)).alloc (.cells #[.slice none 0 0] 26) = W at *
  obtain ⟨nb, hnb⟩ : ∃ nb, nb = w1.heap.size := ⟨_, rfl⟩
  rw [← hnb] at hst
  rw [← hnb]
  have hstL : RL w1 W n nb w2.heap.size (w2.heap.size + 1) 0 (tos (outs l)) from_ (fun _ => false) [] := ⟨hst, ⟨fun v hv => Bool.noConfusion hv, fun u hu => Bool.noConfusion hu, fun x hx => absurd hx List.not_mem_nil⟩, by rw [offc_all]; simp, fun j hj hjk => by omega⟩
  have HS := Lib.hid hstL
  have HNB := Lib.hid hnb
  clear hst hnb hstL
  generalize w2.heap.size + 1 = sx at *
  generalize w2.heap.size = ox at *
  go_loopw [35] (fun i wr => ∃ (k : Nat) (on : Nat → Bool) (L : List Nat), k ≤ from_.length ∧ i = .int .i64 k ∧ RL w1 wr n nb ox sx k (tos (outs l)) from_ on L) (fun i _ => from_.length - (intOf i).toNat)
  case atStart => exact ⟨0, _, _, Nat.zero_le _, rfl, HS.out⟩
  case round =>
    clear HS
    obtain ⟨k, on, L, hk, rfl, hR⟩ := hrel
    have hBw := below_then HG.out.2 HG.out.2.size hR.mem.below
    by_cases hlt : k < from_.length
    · obtain ⟨b9, off9, rfl, hx⟩ := rd_int (HC.out.2.keep hBw) hlt
      by_cases h1 : from_[k] < 0
      · have HX := Lib.hid (ReachPost.yes (g := tos (outs l)) (n := n) hBw (List.any_eq_true.2 ⟨_, List.getElem_mem hlt, by simp [badF, h1]⟩))
        clear hR hBw
        go_wp2_with fail
        go_ret2
        exact HX.out
      · by_cases h2 : (n : Int) ≤ from_[k]
        · have HX := Lib.hid (ReachPost.yes (g := tos (outs l)) (n := n) hBw (List.any_eq_true.2 ⟨_, List.getElem_mem hlt, by simp [badF, h2]⟩))
          clear hR hBw
          go_wp2_with fail
          go_ret2
          exact HX.out
        · obtain ⟨v, hv⟩ := Int.eq_ofNat_of_zero_le (show 0 ≤ from_[k] by omega)
          have hvn : v < n := by omega
          have hpc := pushR_calls w1 wr n nb ox sx v on L hR.mem hvn (by have := hR.len; omega)
          have hstep := fun w' => RL.step (w' := w') hR hlt hv hvn
          have HP := Lib.hid (And.intro hpc hstep)
          rw [hv] at hx
          clear hpc hstep hR hBw hv h1 h2
          go_wp2_with fail
          refine HP.out.1.mono ?_
          rintro e w3 ⟨rfl, hR3⟩
          have HR := Lib.hid (HP.out.2 w3 hR3)
          clear hR3
          go_wp2_with fail
          go_roundw
          case rel => exact ⟨k + 1, _, _, by omega, by go_num, HR.out⟩
          case measure => simp [intOf]; omega
    · have hnb := hR.nobad (by omega)
      have HN := Lib.hid hnb.1
      have hM0 : ∃ on L, RM w1 wr n nb ox sx (2 * offc on n + L.length) (tos (outs l)) (SF from_) on L (tos (outs l)) := ⟨on, L, hR.mem, hR.inv, hR.len, Nat.le_refl _, hnb.2⟩
      have HM0 := Lib.hid hM0
      clear hR hBw hnb hM0
      go_upto_region 14 with fail
      go_loopw [15] (fun _ wr => ∃ on L, RM w1 wr n nb ox sx (2 * offc on n + L.length) (tos (outs l)) (SF from_) on L (tos (outs l))) (fun _ wr => offW wr nb sx n)
      case atStart => exact HM0.out
      case round =>
        clear HM0
        obtain ⟨on, L, hM⟩ := hrel
        obtain ⟨rA, rc, hrs, hro⟩ := hM.mem.row
        by_cases hL : 0 < L.length
        · obtain ⟨m, hm⟩ : ∃ m, L.length = m + 1 := ⟨L.length - 1, by omega⟩
          obtain ⟨rg, rfl⟩ := nvs_form hro hL
          have kx := nvs_cell hro (j := m) (by omega)
          have hsplit : L = L.take m ++ [gN L m] := by
            rw [gN_at (show m < L.length by omega), ← List.take_succ_eq_append_getElem (by omega), List.take_of_length_le (by omega)]
          have hon := hM.inv.st (gN L m) (by rw [gN_at (show m < L.length by omega)]; exact List.getElem_mem _)
          have hxn := (hM.inv.sound _ hon).2
          have hpre := Ap.own_prefix (m := m) hro (by omega)
          rw [nvs_take] at hpre
          have htl : (L.take m).length = m := by rw [List.length_take]; omega
          have hrc : L.length ≤ rc ∧ rc ≤ 9223372036854775807 := by
            obtain ⟨_, _, e, h1, h2⟩ := own_form hro
            cases e
            exact ⟨h1, h2⟩
          have hset := hM.mem.setSt (M := L.take m) hrs (fun g hg => own_base hro g hg) (World.grownBy.refl _ _) (B := some ⟨rg, 0, none⟩) (d := rc) (by rw [htl]; exact hpre)
          rw [htl] at hset
          have hinv : RI (tos (outs l)) n (SF from_) on (L.take m) (outP (tos (outs l)) (gN L m) 0) := ri_pop (by rw [← hsplit]; exact hM.inv)
          have hl0 := hM.len
          have hoff := hM.mem.offW_eq
          have hRM : RM w1 (wr.setCell ⟨sx, 0, none⟩ (.slice (some ⟨rg, 0, none⟩) m rc)) n nb ox sx (2 * offc on n + m) (tos (outs l)) (SF from_) on (L.take m) (outP (tos (outs l)) (gN L m) 0) := ⟨hset, hinv, by rw [htl]; omega, by rw [htl]; omega, hM.s⟩
          have hfz := hM.mem.fz
          rw [hm] at hoff
          have HQ := Lib.hid (And.intro hRM (And.intro hon hoff))
          clear hM hro hset hinv hRM hpre hsplit hl0 hoff
          rw [hm] at hrs hrc
          generalize gN L m = x at *
          obtain ⟨A3, c3, hcs3, hos3, hle3, hcm3, hfz3⟩ := HG.out.1.rep.mat.at hxn
          have hK := HQ.out.1.mem.below
          have hg1 := (HG.out.1.rep.keep hK).c1
          have hcs4 := (hK.cell (p := ⟨ob, x, none⟩) HG.out.1.rep.mat.lt).trans hcs3
          have hln := HG.out.1.len x hxn
          have HO := Lib.hid hos3
          clear hos3 hcs3 hfz3 hK
          go_upto_region 17 with fail
          generalize wr.setCell ⟨sx, 0, none⟩ (.slice (some ⟨rg, 0, none⟩) m rc) = W4 at *
          go_wp2_with fail
          clear hg1 hcs4 hrs kx hfz
          go_loopw [72] (fun i wq => ∃ (j : Nat) (on2 : Nat → Bool) (L2 : List Nat), j ≤ (outs l x).length ∧ i = .int .i64 j ∧ RM w1 wq n nb ox sx (2 * offc on n + m) (tos (outs l)) (SF from_) on2 L2 (outP (tos (outs l)) x j) ∧ on2 x = true) (fun i _ => (outs l x).length - (intOf i).toNat)
          case atStart => exact ⟨0, on, L.take m, Nat.zero_le _, rfl, HQ.out.1, HQ.out.2.1⟩
          case round =>
            obtain ⟨j, on2, L2, hj, rfl, hM, hxo⟩ := hrel
            by_cases hjt : j < (outs l x).length
            · obtain ⟨b8, off8, rfl, ha0, ha1, ha2⟩ := rd_arc (own_rd (own_keep HO.out hM.mem.below)) hjt
              have hok := HG.out.1.ok x hxn _ (List.getElem_mem hjt)
              obtain ⟨t, ht⟩ := Int.eq_ofNat_of_zero_le hok.1
              have htt : (tos (outs l) x)[j]'(by simpa [tos] using hjt) = t := by simp [tos, ht]
              have htn : t < n := by omega
              rw [ht] at ha1
              clear hok ht
              generalize (outs l x)[j].f = af at *
              generalize (outs l x)[j].neg = an at *
              have hnew := heap_alloc_new wr (.cells #[.int .i64 af, .int .i64 t, .bool an] 36)
              have hbx1 : (wr.alloc (.cells #[.int .i64 af, .int .i64 t, .bool an] 36)).cell? ⟨wr.heap.size, 1, none⟩ = some (.int .i64 t) := by simp only [World.cell?, hnew]; rfl
              have hRA := hM.mem.other (below_alloc (Below.refl wr.heap.size wr) (.cells #[.int .i64 af, .int .i64 t, .bool an] 36))
              have hpc := pushR_calls w1 _ n nb ox sx t on2 L2 hRA htn (by have := hM.len; omega)
              have harc := fun w' => hM.arc (w' := w') (by simpa [tos] using hjt) htt hxo htn
              have HJ := Lib.hid (And.intro hpc harc)
              clear hnew hRA hpc harc hM htt hxo
              go_upto_region 20 with fail
              go_wp2_with fail
              refine HJ.out.1.mono ?_
              rintro e w5 ⟨rfl, hR5⟩
              have HR5 := Lib.hid (HJ.out.2 w5 hR5)
              clear hR5
              go_wp2_with fail
              go_roundw
              case rel => exact ⟨j + 1, _, _, by omega, by go_num, HR5.out.1, HR5.out.2⟩
              case measure => simp [intOf]; omega
            · have hinv : RI (tos (outs l)) n (SF from_) on2 L2 (tos (outs l)) := ri_done hM.inv (by simp [tos]; omega)
              have HZ := Lib.hid (And.intro hM hinv)
              clear hM hinv hxo
              go_wp2_with fail
              go_roundw
              case rel => exact ⟨on2, L2, HZ.out.1.mem, HZ.out.2, HZ.out.1.len, Nat.le_refl _, HZ.out.1.s⟩
              case measure =>
                have h1 := HQ.out.2.2
                have h2 := HZ.out.1.mem.offW_eq
                have h3 := HZ.out.1.mes
                simp only [h1, h2]
                omega
        · have hl0 : L = [] := List.length_eq_zero_iff.1 (by omega)
          subst hl0
          have hl1 : ([] : List Nat).length = 0 := rfl
          rw [hl1] at hrs
          have hfin := hM.fin
          have HM := Lib.hid (And.intro hM hfin)
          have kco := hM.mem.co
          clear hM hro hfin hL
          go_upto_region 24 with fail
          have HB := Lib.hid (And.intro HM.out.1.mem.on (below_then HG.out.2 HG.out.2.size HM.out.1.mem.below))
          obtain ⟨z0, hz0⟩ : ∃ z, z = wr.heap.size := ⟨_, rfl⟩
          have HK5 := Lib.hid (show ∀ w', Below z0 wr w' → Arr Value.bool 4 w' nb n on ∧ Below w.heap.size w w' from fun w' hb => by
            rw [hz0] at hb
            exact ⟨HB.out.1.keep hb, below_then HB.out.2 HB.out.2.size hb⟩)
          have HZ0 := Lib.hid (show w.heap.size ≤ z0 by rw [hz0]; exact HB.out.2.size)
          go_loopw [18, 83] (fun v i wq => ∃ (k : Nat) (sA : Option Addr) (sc : Nat), k ≤ n ∧ i = .int .i64 k ∧ v = .slice sA (onL on k).length sc ∧ wq.ownsRow z0 3 1 v (onL on k).length (nvs (onL on k)) ∧ Hid (Below z0 _ wq)) (fun _ i _ => n - (intOf i).toNat)
          case atStart => exact ⟨0, none, 0, Nat.zero_le _, rfl, rfl, World.ownsRow_nil _ _ _ _, Lib.hid (by rw [hz0]; exact Below.refl _ _)⟩
          case round =>
            have HZE := Lib.hid hz0
            clear hz0 hrs kco
            obtain ⟨k, sA, sc, hk, rfl, rfl, hrow, hB⟩ := hrel
            have hK := HK5.out _ hB.out
            by_cases hlt : k < n
            · have k1 := hK.1.cell hlt
              have hs := onL_succ on k
              have hlen := onL_len on k
              obtain ⟨vA0, vc0, he0, h0a, h0b⟩ := own_form hrow
              cases he0
              have HS := Lib.hid (And.intro hs (And.intro hrow hB.out))
              have hzl := hB.out.size
              rw [← HZE.out] at hzl
              clear hs hK
              generalize onL on k = L5 at *
              generalize hpk : on k = pk at *
              cases pk with
              | true =>
                have hs2 := HS.out.1
                rw [if_pos rfl] at hs2
                have HS2 := Lib.hid hs2
                clear hs2 hpk hrow hB
                go_wp2_with (at_builtin; go_loud (refine app_own HS.out.2.1 HS.out.2.2 (.tmp 89) (.tmp 91) [.int .i64 k] 26 _ _ Try.underlying26 info3 (by omega) (by decide) hzl rfl rfl rfl (by decide) rfl rfl rfl (by simp [Value.oneCell']) ?_); intro v1 w6 ho1 hb1 hg1 hat1; obtain ⟨vA1, vc1, rfl, hvc1, hvc2⟩ := own_form ho1)
                go_roundw
                case rel =>
                  refine ⟨k + 1, vA1, vc1, by omega, by go_num, ?_, ?_, Lib.hid hb1⟩
                  · rw [HS2.out, List.length_append]; rfl
                  · rw [HS2.out, List.length_append, nvs_snoc]; exact ho1
                case measure => simp [intOf]; omega
              | false =>
                have hs2 := HS.out.1
                rw [if_neg (by simp), List.append_nil] at hs2
                have HS2 := Lib.hid hs2
                clear hs2 hpk hrow hB
                go_wp2_with fail
                go_roundw
                case rel => exact ⟨k + 1, sA, sc, by omega, by go_num, by rw [HS2.out], by rw [HS2.out]; exact HS.out.2.1, Lib.hid HS.out.2.2⟩
                case measure => simp [intOf]; omega
            · have hkn : k = n := by omega
              rw [hkn] at hrow ⊢
              have HS := Lib.hid (And.intro hrow hK.2)
              clear hkn hrow hB hK
              go_wp2_with fail
              go_ret2
              exact ReachPost.no HS.out.2 HN.out (own_mono HS.out.1 HZ0.out) HM.out.2
end Go.Proofs.Ytnhnckhjcnjacaa.ST
