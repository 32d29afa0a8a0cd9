/- Strata: the walk of the reference's ready. -/
import Derived.Test.YtnhnckhjcnjacaaTb
namespace Go.Proofs.Ytnhnckhjcnjacaa.ST
open Go.RowKit Go.Proofs.YtnhnckhjcnjacaaKw Go.Proofs.YtnhnckhjcnjacaaSg Go.Proofs.YtnhnckhjcnjacaaSw
set_option linter.unusedVariables false
set_option linter.unusedSimpArgs false

def wv (n b : Nat) : Value := .slice (some ⟨b, 0, none⟩) n n
/-- Rows of bools: what is reached from each node. -/
structure Ways (w : World) (A : Option Addr) (n k : Nat) (nb : Nat → Nat) (W : Nat → Nat → Bool) : Prop where
  rd : Rd w A ((List.range k).map fun i => wv n (nb i))
  row : ∀ i, i < k → Arr Value.bool 4 w (nb i) n (W i)
theorem Ways.keep {w w' : World} {A : Option Addr} {n k : Nat} {nb : Nat → Nat} {W : Nat → Nat → Bool} (h : Ways w A n k nb W) (hb : Below w.heap.size w w') : Ways w' A n k nb W :=
  ⟨h.rd.keep hb, fun i hi => (h.row i hi).keep hb⟩
theorem Ways.at {w : World} {A : Option Addr} {n k : Nat} {nb : Nat → Nat} {W : Nat → Nat → Bool} (h : Ways w A n k nb W) {i : Nat} (hi : i < k) :
    ∃ b off, A = some ⟨b, off, none⟩ ∧ w.cell? ⟨b, off + i, none⟩ = some (.slice (some ⟨nb i, 0, none⟩) n n) := by
  obtain ⟨b, off, e, hc⟩ := h.rd.at (j := i) (by simpa using hi)
  exact ⟨b, off, e, by rw [hc]; simp [wv]⟩
theorem Ways.cell {w : World} {b off : Nat} {n k : Nat} {nb : Nat → Nat} {W : Nat → Nat → Bool} (h : Ways w (some ⟨b, off, none⟩) n k nb W) {i : Nat} (hi : i < k) :
    w.cell? ⟨b, off + i, none⟩ = some (.slice (some ⟨nb i, 0, none⟩) n n) := by
  obtain ⟨b', off', e, hc⟩ := h.at hi
  cases e
  exact hc
def notR (out : Nat → Int) (W : Nat → Nat → Bool) (i : Nat) (a : AI) : Bool := (W i a.f.toNat && W a.f.toNat i) && !(W i a.t.toNat && W a.t.toNat i) && decide (out a.t.toNat < 0)
set_option maxHeartbeats 16000000 in
set_option maxRecDepth 100000 in
theorem ready_calls (A Aw : Option Addr) (c n ob d i : Nat) (l : List AI) (out : Nat → Int) (nb : Nat → Nat) (W : Nat → Nat → Bool) (w : World) (hr : Rd w A (avs l)) (hl : l.length ≤ 262144) (hn : n ≤ 4096) (hb : l.any (bad n) = false)
    (hi : i < n) (ho : IArr w ob n out) (hW : Ways w Aw n n nb W) :
    Calls Try.prog 45 #[.slice A l.length c, .slice (some ⟨ob, 0, none⟩) n n, .slice Aw n d, .int .i64 i] w fun e w' => e = .returned (.bool (!l.any (notR out W i))) ∧ Below w.heap.size w w' := by
  have hok : ∀ a ∈ l, 0 ≤ a.f ∧ a.f < n ∧ 0 ≤ a.t ∧ a.t < n := by
    intro a ha
    have := List.any_eq_false.1 hb a ha
    simp [bad] at this
    omega
  obtain ⟨wb, wo, rfl, hx0⟩ := hW.at hi
  have HC := Lib.hid (And.intro hr (And.intro hok (And.intro ho hW)))
  clear hr hok ho hW hx0 hb
  go_enter Try.func45, Try.ntmps45
  go_wp2_with fail
  go_loopw [9] (fun s wr => ∃ k : Nat, k ≤ l.length ∧ s = .int .i64 k ∧ Below w.heap.size w wr ∧ Hid (∀ j (h : j < l.length), j < k → notR out W i l[j] = false)) (fun s _ => l.length - (intOf s).toNat)
  case atStart => exact ⟨0, Nat.zero_le _, rfl, Below.refl _ _, Lib.hid fun j hj hjk => by omega⟩
  case round =>
    obtain ⟨k, hk, rfl, hB, hH⟩ := hrel
    by_cases hlt : k < l.length
    · obtain ⟨b9, off9, rfl, ha0, ha1, ha2⟩ := rd_arc (HC.out.1.keep hB) hlt
      have hao := HC.out.2.1 _ (List.getElem_mem hlt)
      obtain ⟨f, hf⟩ := Int.eq_ofNat_of_zero_le hao.1
      obtain ⟨t, ht⟩ := Int.eq_ofNat_of_zero_le hao.2.2.1
      have hfn : f < n := by omega
      have htn : t < n := by omega
      have hft : l[k].f.toNat = f ∧ l[k].t.toNat = t := by omega
      rw [hf] at ha0
      rw [ht] at ha1
      have hnr : notR out W i l[k] = ((W i f && W f i) && !(W i t && W t i) && decide (out t < 0)) := by unfold notR; rw [hft.1, hft.2]
      generalize l[k].neg = an at *
      have hnew := heap_alloc_new wr (.cells #[.int .i64 f, .int .i64 t, .bool an] 36)
      have hx0 : (wr.alloc (.cells #[.int .i64 f, .int .i64 t, .bool an] 36)).cell? ⟨wr.heap.size, 0, none⟩ = some (.int .i64 f) := by simp only [World.cell?, hnew]; rfl
      have hx1 : (wr.alloc (.cells #[.int .i64 f, .int .i64 t, .bool an] 36)).cell? ⟨wr.heap.size, 1, none⟩ = some (.int .i64 t) := by simp only [World.cell?, hnew]; rfl
      have hB2 := below_then hB hB.size (below_alloc (Below.refl wr.heap.size wr) (.cells #[.int .i64 f, .int .i64 t, .bool an] 36))
      have HN := Lib.hid (And.intro hnr (And.intro hB hB2))
      clear hao hf ht hft hnr hnew
      go_upto_region 5 with fail
      generalize wr.alloc (.cells #[.int .i64 f, .int .i64 t, .bool an] 36) = W2 at *
      have hw2 := HC.out.2.2.2.keep hB2
      have ho2 := HC.out.2.2.1.keep hB2
      have kif := (hw2.row i hi).cell hfn
      have kfi := (hw2.row f hfn).cell hi
      have kit := (hw2.row i hi).cell htn
      have kti := (hw2.row t htn).cell hi
      have kwi := hw2.cell hi
      have kwf := hw2.cell hfn
      have kwt := hw2.cell htn
      have kot := ho2.cell htn
      clear hw2 ho2 hB hB2 ha0 ha1 ha2
      generalize W i f = p1 at *
      generalize W f i = p2 at *
      generalize W i t = p3 at *
      generalize W t i = p4 at *
      by_cases h0 : out t < 0
      all_goals
        cases p1 <;> cases p2 <;> cases p3 <;> cases p4
      all_goals
        go_quiet (fail)
        go_wp2_with fail
        go_quiet (fail)
        go_wp2_with fail
        first
          | (go_ret
             exact ⟨ret_bool (by
               have h1 : notR out W i l[k] = true := by rw [HN.out.1]; simp [h0]
               have h2 : l.any (notR out W i) = true := List.any_eq_true.2 ⟨_, List.getElem_mem hlt, h1⟩
               rw [h2]; rfl), (by first | exact below_drewN HN.out.2.2 _ | exact below_drewN (below_drewN HN.out.2.2 _) _)⟩)
          | (go_roundw
             case rel => exact ⟨k + 1, by omega, by go_num, (by first | exact below_drewN HN.out.2.2 _ | exact below_drewN (below_drewN HN.out.2.2 _) _), Lib.hid fun j hj hjk => by
               by_cases e : j = k
               · subst e
                 rw [HN.out.1]
                 simp [h0]
               · exact hH.out j hj (by omega)⟩
             case measure => simp [intOf]; omega)
    · have h2 : l.any (notR out W i) = false := List.any_eq_false.2 fun a ha => by
        obtain ⟨j, hj, rfl⟩ := List.mem_iff_getElem.1 ha
        rw [hH.out j hj (by omega)]
        simp
      have H2 := Lib.hid h2
      clear h2
      go_wp2_with fail
      go_ret
      exact ⟨ret_bool (by rw [H2.out]; rfl), hB⟩
end Go.Proofs.Ytnhnckhjcnjacaa.ST
