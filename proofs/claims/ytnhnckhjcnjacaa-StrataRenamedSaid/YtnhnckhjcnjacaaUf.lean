/- Strata: what Parts, Ring and Strata answer. -/
import Derived.Test.YtnhnckhjcnjacaaUe
import Derived.Test.YtnhnckhjcnjacaaSe
namespace Go.Proofs.Ytnhnckhjcnjacaa.ST
open Go.RowKit Go.Proofs.YtnhnckhjcnjacaaKw Go.Proofs.YtnhnckhjcnjacaaSg Go.Proofs.YtnhnckhjcnjacaaSw
set_option linter.unusedVariables false
set_option linter.unusedSimpArgs false
theorem AnsO.arr {w w' : World} {k : Int} {n b : Nat} {f : Nat → Int} (h : IArr w' b n f) (hb : w.heap.size ≤ b) (hB : Below w.heap.size w w') : AnsO w ((List.range n).map f) k (.returned (.tuple #[.slice (some ⟨b, 0, none⟩) n n, .int .i64 k])) w' := by
  have hl : ((List.range n).map f).length = n := by simp
  have ho := h.own hb
  refine ⟨⟨some ⟨b, 0, none⟩, n, by rw [hl], ?_⟩, hB⟩
  rw [hl, show ivs ((List.range n).map f) = (List.range n).map fun i => .int .i64 (f i) by simp [ivs]]
  exact ho
/-- A graph's parts, its first ring, its strata. -/
noncomputable def rr (n : Nat) (l : List AI) : Int := ringG (fun v => (PP n l v : Int)) (outs l) n
noncomputable def partsV (n : Int) (l : List AI) : List Int := if fault n l ≠ 0 then [] else (List.range n.toNat).map fun v => (PP n.toNat l v : Int)
noncomputable def ringV' (n : Int) (l : List AI) : List Int := if fault n l ≠ 0 then [] else (ringL (fun v => (PP n.toNat l v : Int)) (rr n.toNat l) n.toNat).map fun x : Nat => (x : Int)
noncomputable def strataV (n : Int) (l : List AI) : List Int := if fault n l ≠ 0 then [] else if 0 ≤ rr n.toNat l then [] else (List.range n.toNat).map (SS n.toNat l)
noncomputable def strataE (n : Int) (l : List AI) : Int := if fault n l ≠ 0 then fault n l else if 0 ≤ rr n.toNat l then 81 else 0
theorem rr_spec {n : Nat} {l : List AI} (h : GoodG n l) : RSpec l (fun v => (PP n l v : Int)) (rr n l) := ringG_spec h fun v _ => by simp
theorem rr_eq {n : Nat} {l : List AI} (h : GoodG n l) {P : Nat → Int} (hP : ∀ v, v < n → P v = (PP n l v : Int)) : ringG P (outs l) n = rr n l :=
  (ringG_spec h (P := P) (fun v hv => by rw [hP v hv]; simp)).unique ((rr_spec h).congr (fun a => Iff.rfl) fun a ha => ⟨(hP _ (h.arc ha).1).symm, (hP _ (h.arc ha).2.1).symm⟩)
theorem parts_good {n : Nat} {l : List AI} (h : GoodG n l) : partsV n l = (List.range n).map fun v => (PP n l v : Int) := by
  unfold partsV
  rw [if_neg (fun e => e h.fault), Int.toNat_natCast]
theorem ring_good {n : Nat} {l : List AI} (h : GoodG n l) : ringV' n l = (ringL (fun v => (PP n l v : Int)) (rr n l) n).map fun x : Nat => (x : Int) := by
  unfold ringV'
  rw [if_neg (fun e => e h.fault), Int.toNat_natCast]
theorem parts_ans (A : Option Addr) (c : Nat) (n : Int) (l : List AI) (w : World) (hr : Rd w A (avs l)) (hl : l.length ≤ 140737488355328) :
    Calls Try.prog 14 #[.int .i64 n, .slice A l.length c] w (AnsO w (partsV n l) (fault n l)) := by
  by_cases h0 : fault n l = 0
  · obtain ⟨m, rfl, hg⟩ := GoodG.of h0
    obtain ⟨T, H, s, hP, h1, h2, h3⟩ := PP_plan hg
    refine (partsF_calls A c m T l H s w hr hg.hl hg.hn hg.hb hP).mono ?_
    rintro e w1 ⟨⟨b, rfl, hlb, hA⟩, hB⟩
    rw [parts_good hg, h0]
    exact AnsO.arr (hA.congr fun i hi => (h3 i hi).symm) hlb hB
  · refine (partsF_fault A c n l w hr hl h0).mono ?_
    rintro e w1 ⟨rfl, hB⟩
    unfold partsV
    rw [if_pos h0]
    exact AnsO.nil hB
theorem ring_ans (A : Option Addr) (c : Nat) (n : Int) (l : List AI) (w : World) (hr : Rd w A (avs l)) (hl : l.length ≤ 140737488355328) :
    Calls Try.prog 19 #[.int .i64 n, .slice A l.length c] w (AnsO w (ringV' n l) (fault n l)) := by
  by_cases h0 : fault n l = 0
  · obtain ⟨m, rfl, hg⟩ := GoodG.of h0
    obtain ⟨T, H, s, hP, h1, h2, h3⟩ := PP_plan hg
    refine (ringF_calls A c m T l H s _ _ w hr hg.hl hg.hn hg.hb hP rfl rfl).mono ?_
    rintro e w1 ⟨⟨v, rfl, ho⟩, hB⟩
    rw [rr_eq hg h3] at ho
    have e : ringL (fun x => s.number (H x)) (rr m l) m = ringL (fun v => (PP m l v : Int)) (rr m l) m := by
      unfold ringL
      refine List.filter_congr fun x hx => ?_
      have e := h3 x (by simpa using hx)
      simp only [e]
    rw [e] at ho
    rw [ring_good hg, h0]
    exact AnsO.nvs ho hB
  · refine (ringF_fault A c n l w hr hl h0).mono ?_
    rintro e w1 ⟨rfl, hB⟩
    unfold ringV'
    rw [if_pos h0]
    exact AnsO.nil hB
theorem strata_ans (A : Option Addr) (c : Nat) (n : Int) (l : List AI) (w : World) (hr : Rd w A (avs l)) (hl : l.length ≤ 140737488355328) :
    Calls Try.prog 18 #[.int .i64 n, .slice A l.length c] w (AnsO w (strataV n l) (strataE n l)) := by
  unfold strataV strataE
  by_cases h0 : fault n l = 0
  · obtain ⟨m, rfl, hg⟩ := GoodG.of h0
    obtain ⟨T, H, s, hP, h1, h2, h3⟩ := PP_plan hg
    have hne : ¬ fault m l ≠ 0 := fun e => e h0
    rw [if_neg hne, if_neg hne, Int.toNat_natCast]
    by_cases hr0 : 0 ≤ rr m l
    · rw [if_pos hr0, if_pos hr0]
      refine (strataF_ring A c m T l H s _ _ w hr hg.hl hg.hn hg.hb hP rfl rfl (by rw [rr_eq hg h3]; exact hr0)).mono ?_
      rintro e w1 ⟨rfl, hB⟩
      exact AnsO.nil hB
    · rw [if_neg hr0, if_neg hr0]
      have hmn := hg.hn
      refine (strataF_calls A c m T (MM m l) l H s _ (PP m l) _ w hr hg.hl hg.hn hg.hb hP rfl rfl (by rw [rr_eq hg h3]; omega) h1 (by omega) (fun v hv => ⟨h3 v hv, (PP_spec hg).lt v hv⟩)).mono ?_
      rintro e w1 ⟨⟨b, rfl, hlb, hA⟩, hB⟩
      exact AnsO.arr hA hlb hB
  · rw [if_pos h0, if_pos h0]
    refine (strataF_fault A c n l w hr hl h0).mono ?_
    rintro e w1 ⟨rfl, hB⟩
    exact AnsO.nil hB
theorem partsV_len (n : Int) (l : List AI) : (partsV n l).length ≤ 4096 := by
  unfold partsV
  by_cases h : fault n l = 0
  · have := (fault_good h).2.1
    rw [if_neg (fun e => e h)]
    simp
    omega
  · rw [if_pos h]; simp
theorem ringV_len (n : Int) (l : List AI) : (ringV' n l).length ≤ 4096 := by
  unfold ringV'
  by_cases h : fault n l = 0
  · have := (fault_good h).2.1
    have := ringL_len (fun v => (PP n.toNat l v : Int)) (rr n.toNat l) n.toNat
    rw [if_neg (fun e => e h), List.length_map]
    omega
  · rw [if_pos h]; simp
theorem strataV_len (n : Int) (l : List AI) : (strataV n l).length ≤ 4096 := by
  unfold strataV
  by_cases h : fault n l = 0
  · have := (fault_good h).2.1
    rw [if_neg (fun e => e h)]
    split
    · simp
    · simp
      omega
  · rw [if_pos h]; simp
end Go.Proofs.Ytnhnckhjcnjacaa.ST
