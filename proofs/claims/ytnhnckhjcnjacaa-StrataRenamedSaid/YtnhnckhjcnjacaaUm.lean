/- Strata: the walks of fit, has, least, held. -/
import Derived.Test.YtnhnckhjcnjacaaSb
import Derived.Test.YtnhnckhjcnjacaaKwOpen2
import Derived.Deep.RegionLaw
import Derived.Deep.AppendLies
namespace Go.Proofs.Ytnhnckhjcnjacaa.ST
open Go.RowKit Go.Proofs.YtnhnckhjcnjacaaKw Go.Proofs.YtnhnckhjcnjacaaSg
set_option linter.unusedVariables false
set_option linter.unusedSimpArgs false

/-- A quiet call, as one step of a region that draws. -/
theorem step_quiet {P : Program} {ops : Array Oper} {o : Oper} {a : Act} {w : World} {K : Act → World → Prop} {Q : Exit → Act → World → Prop} {E : Prop} (hg : o.guard = none) (f : FuncId) (args : Array Value) (v : Value)
    (hrun : (execOp a.eval o).run P w = .ok (.enter f args) w) (hc : Calls P f args w (fun e w' => e = .returned v ∧ w = w')) (hK : K (a.put o.dst v) w) :
    if Region.wanted o (yielded ops a.tmps) = true then Oper.wp P o a w K Q else E := by
  have hw : Region.wanted o (yielded ops a.tmps) = true := by simp [Region.wanted, hg]
  rw [if_pos hw]
  unfold Oper.wp
  rw [hrun]
  simp only [Oper.upon]
  exact Calls.mono hc fun e w' ⟨he, hs⟩ => by subst he; subst hs; exact hK
/-- The graph that is looked at. -/
def fitL (n : Int) (l : List AI) : List AI := if 0 < n then (l.take 400).map fun a => ⟨a.f % n, a.t % n, a.neg⟩ else []
theorem fitL_le (n : Int) (l : List AI) : (fitL n l).length ≤ 400 := by
  unfold fitL
  split
  · rw [List.length_map, List.length_take]; omega
  · simp
def fitP (n : Int) (l : List AI) (k : Nat) : List AI := (l.take k).map fun a => ⟨a.f % n, a.t % n, a.neg⟩
theorem fitP_succ (n : Int) (l : List AI) (k : Nat) (h : k < l.length) : fitP n l (k + 1) = fitP n l k ++ [⟨l[k].f % n, l[k].t % n, l[k].neg⟩] := by
  unfold fitP
  rw [List.take_succ_eq_append_getElem h, List.map_append]
  rfl
theorem fit_fin {w wr : World} {m : Int} {l : List AI} {k d : Nat} {B : Option Addr} (hown : wr.ownsRow w.heap.size 36 3 (.slice B k d) k (avs (fitP m l k))) (hB : Below w.heap.size w wr) (h1 : k ≤ l.length) (h2 : k ≤ 400) (h3 : 0 < k → 0 < m) (h4 : ¬ k < l.length ∨ ¬ k < 400 ∨ ¬ 0 < m) :
    (∃ B' d', Ending.returned (.tuple #[.int .i64 m, .slice B k d]) = .returned (.tuple #[.int .i64 m, .slice B' (fitL m l).length d']) ∧ wr.ownsRow w.heap.size 36 3 (.slice B' (fitL m l).length d') (fitL m l).length (avs (fitL m l))) ∧ Below w.heap.size w wr := by
  have e : fitP m l k = fitL m l := by
    unfold fitP fitL
    by_cases hm : 0 < m
    · rw [if_pos hm]
      congr 1
      rcases h4 with h | h | h
      · rw [List.take_of_length_le (by omega), List.take_of_length_le (by omega)]
      · rw [show k = 400 by omega]
      · exact absurd hm h
    · rw [if_neg hm]
      have : k = 0 := by omega
      subst this
      rfl
  have hk : k = (fitL m l).length := by
    rw [← e]
    unfold fitP
    rw [List.length_map, List.length_take]
    omega
  rw [e] at hown
  rw [hk] at hown ⊢
  exact ⟨⟨B, d, rfl, hown⟩, hB⟩
def b64 (x : Int) : Prop := -9223372036854775808 ≤ x ∧ x ≤ 9223372036854775807
set_option maxHeartbeats 4000000 in
set_option maxRecDepth 100000 in
theorem fit_calls (A : Option Addr) (c : Nat) (n : Int) (l : List AI) (w : World) (hr : Rd w A (avs l)) (hl : l.length ≤ 140737488355328) (hn : b64 n) (hb : ∀ a ∈ l, b64 a.f ∧ b64 a.t) :
    Calls Try.prog 26 #[.int .i64 n, .slice A l.length c] w fun e w' => (∃ B d, e = .returned (.tuple #[.int .i64 (n % 40), .slice B (fitL (n % 40) l).length d]) ∧ w'.ownsRow w.heap.size 36 3 (.slice B (fitL (n % 40) l).length d) (fitL (n % 40) l).length (avs (fitL (n % 40) l))) ∧ Below w.heap.size w w' := by
  have hp := pick_calls n 40 hn.1 hn.2 (by omega) (by omega) w
  have h0 := Int.emod_nonneg n (show (40 : Int) ≠ 0 by omega)
  have h1 := Int.emod_lt_of_pos n (show (0 : Int) < 40 by omega)
  generalize n % 40 = m at *
  have HC := Lib.hid (And.intro hp (And.intro hr hb))
  clear hp hr hb hn
  go_enter Try.func26, Try.ntmps26
  go_wp2_with fail
  refine HC.out.1.mono ?_
  rintro e w1 ⟨rfl, rfl⟩
  go_wp2_with fail
  go_loopw [6, 7] (fun v i wr => ∃ k : Nat, k ≤ l.length ∧ k ≤ 400 ∧ (0 < k → 0 < m) ∧ i = .int .i64 k ∧ wr.ownsRow w.heap.size 36 3 v k (avs (fitP m l k)) ∧ Below w.heap.size w wr) (fun _ i _ => l.length - (intOf i).toNat)
  case atStart => exact ⟨0, Nat.zero_le _, by omega, by omega, rfl, World.ownsRow_nil _ _ _ _, Below.refl _ _⟩
  case round =>
    obtain ⟨k, hk, hk4, hkm, rfl, hown, hB⟩ := hrel
    obtain ⟨B, d, rfl, hd1, hd2⟩ := own_form hown
    by_cases hlt : k < l.length
    · by_cases h4 : k < 400
      · by_cases hm0 : 0 < m
        · obtain ⟨b, off, rfl, hc0, hc1, hc2⟩ := rd_arc (HC.out.2.1.keep hB) hlt
          have hbl := HC.out.2.2 _ (List.getElem_mem hlt)
          have hcb := World.block_lt_of_cell? wr _ hc0
          have hs := fitP_succ m l k hlt
          have HS := Lib.hid (And.intro hs (And.intro hown hB))
          have hsz := hB.size
          obtain ⟨i0, hi0, hz0, hz1, hz2⟩ := info_parts info36
          clear hs hown hB
          generalize l[k].f = af at *
          generalize l[k].t = at' at *
          generalize l[k].neg = an at *
          go_upto_region 6 with fail
          go_region_law (first
            | (refine step_quiet rfl 31 #[.int .i64 af, .int .i64 m] _ ?_ (pick_calls af m hbl.1.1 hbl.1.2 (by omega) (by omega) _) ?_
               · go_simp; done)
            | (refine step_quiet rfl 31 #[.int .i64 at', .int .i64 m] _ ?_ (pick_calls at' m hbl.2.1 hbl.2.2 (by omega) (by omega) _) ?_
               · go_simp; done)
            | (refine step_append_lies _ (by rfl) _ _ _ (by rfl) w.heap.size 36 i0 _ 3 24 Try.underlying22 hi0 hz0 hz1 hz2 rfl (by omega) _ _ _ (by rfl) ((HS.out.2.1.alloc _).drew)
                ⟨wr.heap.size, 0, none⟩ 1 1 [.int .i64 (af % m), .int .i64 (at' % m), .bool an] (by rfl) (by rfl) (World.news_of_block (cs := #[.int .i64 (af % m), .int .i64 (at' % m), .bool an]) (t := 36) (fr := (0, 0)) (heap_alloc_new wr _)) (by simp [Value.oneCell'])
                (by omega) (by unfold maxLen; omega) (by omega) (by simp; omega) (wr.heap.size + 1) (by simp) ?_; intro gg cap w1' hown1 hgrow hat hlt1))
          all_goals
            have hbW : Below w.heap.size w (wr.alloc (.cells #[.int .i64 (af % m), .int .i64 (at' % m), .bool an] 36)).drew := below_drewN (HS.out.2.2.alloc hsz _) 1
            have hb1 := hbW.grown hgrow (by simp; omega) (own_base HS.out.2.1)
            go_wp2_with fail
            go_roundw
            case rel => exact ⟨k + 1, by omega, by omega, fun _ => hm0, by go_num, by rw [HS.out.1, avs_snoc]; exact hown1, hb1⟩
            case measure => simp [intOf]; omega
        · have hF := fit_fin hown hB (by omega) (by omega) hkm (.inr (.inr hm0))
          have HF := Lib.hid hF
          clear hF hown hB hkm
          go_wp2_with fail
          go_ret2
          exact HF.out
      · have hF := fit_fin hown hB (by omega) (by omega) hkm (.inr (.inl h4))
        have HF := Lib.hid hF
        clear hF hown hB hkm
        go_wp2_with fail
        go_ret2
        exact HF.out
    · have hF := fit_fin hown hB (by omega) (by omega) hkm (.inl hlt)
      have HF := Lib.hid hF
      clear hF hown hB hkm
      go_wp2_with fail
      go_ret2
      exact HF.out
end Go.Proofs.Ytnhnckhjcnjacaa.ST
