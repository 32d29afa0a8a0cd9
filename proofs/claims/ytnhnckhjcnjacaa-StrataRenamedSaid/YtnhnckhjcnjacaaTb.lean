/- Strata: the walk of the reference's reached. -/
import Derived.Test.YtnhnckhjcnjacaaTa
namespace Go.Proofs.Ytnhnckhjcnjacaa.ST
open Go.RowKit Go.Proofs.YtnhnckhjcnjacaaKw Go.Proofs.YtnhnckhjcnjacaaSg Go.Proofs.YtnhnckhjcnjacaaSw
set_option linter.unusedVariables false
set_option linter.unusedSimpArgs false

/-- An arc leads from a node to another. -/
def EA (l : List AI) (u t : Nat) : Prop := ∃ a ∈ l, a.f = u ∧ a.t = t
structure RA (w0 w : World) (n nb : Nat) (l : List AI) (fs : List Int) (on : Nat → Bool) : Prop where
  arr : Arr Value.bool 4 w nb n on
  lo : w0.heap.size ≤ nb
  snd : ∀ v, on v = true → Rch (EA l) (SF fs) v ∧ v < n
  below : Below w0.heap.size w0 w
theorem RA.set {w0 w : World} {n nb v : Nat} {l : List AI} {fs : List Int} {on : Nat → Bool} (h : RA w0 w n nb l fs on) (hv : v < n) (hr : Rch (EA l) (SF fs) v) : RA w0 (w.setCell ⟨nb, v, none⟩ (.bool true)) n nb l fs (upd on v true) := by
  have ht := Ap.setCell_tch w ⟨nb, v, none⟩ (.bool true) (fun q => q = nb) rfl
  have hl := h.lo
  refine ⟨h.arr.set hv true, h.lo, fun u hu => ?_, below_tch h.below h.below.size ht (fun q _ hq => by omega)⟩
  unfold upd at hu
  split at hu
  · rename_i e; subst e; exact ⟨hr, hv⟩
  · exact h.snd u hu
def offB (w : World) (nb n : Nat) : Nat := ((List.range n).filter fun v => offV (w.cell? ⟨nb, v, none⟩)).length
theorem RA.offB_eq {w0 w : World} {n nb : Nat} {l : List AI} {fs : List Int} {on : Nat → Bool} (h : RA w0 w n nb l fs on) : offB w nb n = offc on n := by
  unfold offB offc
  have : (List.range n).filter (fun v => offV (w.cell? ⟨nb, v, none⟩)) = (List.range n).filter fun v => !on v := by
    refine List.filter_congr fun v hv => ?_
    rw [h.arr.cell (by simpa using hv)]
    rfl
  rw [this]
def isT : Value → Nat
  | .bool true => 1
  | _ => 0
/-- What reached tells. -/
def ReachedPost (n : Nat) (l : List AI) (fs : List Int) (w : World) (e : Ending) (w' : World) : Prop :=
  ∃ nb on, e = .returned (.slice (some ⟨nb, 0, none⟩) n n) ∧ w.heap.size ≤ nb ∧ Arr Value.bool 4 w' nb n on ∧ Below w.heap.size w w' ∧ ∀ u, u < n → (on u = true ↔ Rch (EA l) (SF fs) u)
set_option maxHeartbeats 8000000 in
set_option maxRecDepth 100000 in
theorem reached_calls (A B : Option Addr) (c n d : Nat) (l : List AI) (fs : List Int) (w : World) (hr : Rd w A (avs l)) (hl : l.length ≤ 262144) (hn : n ≤ 4096) (hb : l.any (bad n) = false) (hf : Rd w B (ivs fs)) (hfl : fs.length ≤ 140737488355328) (hfb : fs.any (badF n) = false) :
    Calls Try.prog 40 #[.int .i64 n, .slice A l.length c, .slice B fs.length d] w (ReachedPost n l fs w) := by
  have hok : ∀ a ∈ l, 0 ≤ a.f ∧ a.f < n ∧ 0 ≤ a.t ∧ a.t < n := by
    intro a ha
    have := List.any_eq_false.1 hb a ha
    simp [bad] at this
    omega
  have hfo : ∀ x ∈ fs, 0 ≤ x ∧ x < n := by
    intro x hx
    have := List.any_eq_false.1 hfb x hx
    simp [badF] at this
    omega
  have HC := Lib.hid (And.intro hr (And.intro hf (And.intro hok hfo)))
  clear hr hb hf hfb hok hfo
  go_enter Try.func40, Try.ntmps40
  go_wp2_with (at_make; refine make_arr Value.bool false _ (.tmp 11) (.tmp 11) 62 4 1 n Try.underlying62 info4 rfl rfl rfl rfl rfl (by omega) (by unfold maxLen; omega) ?_; intro w2 hA2 hB2)
  have hst : RA w w2 n w.heap.size l fs (fun _ => false) := ⟨hA2, Nat.le_refl _, fun v hv => Bool.noConfusion hv, hB2⟩
  obtain ⟨nb, hnb⟩ : ∃ nb, nb = w.heap.size := ⟨_, rfl⟩
  rw [← hnb] at hst ⊢
  have HS := Lib.hid hst
  have HNB := Lib.hid hnb
  clear hA2 hB2 hst hnb
  go_loopw [8] (fun i wr => ∃ (k : Nat) (on : Nat → Bool), k ≤ fs.length ∧ i = .int .i64 k ∧ RA w wr n nb l fs on ∧ Hid (∀ j (h : j < fs.length), j < k → on fs[j].toNat = true)) (fun i _ => fs.length - (intOf i).toNat)
  case atStart => exact ⟨0, _, Nat.zero_le _, rfl, HS.out, Lib.hid fun j hj hjk => by omega⟩
  case round =>
    clear HS
    obtain ⟨k, on, hk, rfl, hR, hS⟩ := hrel
    by_cases hlt : k < fs.length
    · obtain ⟨b9, off9, rfl, hx⟩ := rd_int (HC.out.2.1.keep hR.below) hlt
      have hxr := HC.out.2.2.2 _ (List.getElem_mem hlt)
      obtain ⟨v, hv⟩ := Int.eq_ofNat_of_zero_le hxr.1
      have hvn : v < n := by omega
      have k3 := hR.arr.fz v
      have k4 := hR.arr.cell hvn
      have hset := hR.set hvn (.base (by show (v : Int) ∈ fs; rw [← hv]; exact List.getElem_mem _))
      have hS2 : ∀ j (h : j < fs.length), j < k + 1 → upd on v true fs[j].toNat = true := by
        intro j hj hjk
        unfold upd
        split
        · rfl
        · rename_i hne
          by_cases e : j = k
          · subst e; exact absurd (by rw [hv]; rfl) hne
          · exact hS.out j hj (by omega)
      have HX := Lib.hid (And.intro hset hS2)
      rw [hv] at hx
      clear hset hS2 hR hS hv hxr
      go_wp2_with fail
      go_roundw
      case rel => exact ⟨k + 1, _, by omega, by go_num, HX.out.1, Lib.hid HX.out.2⟩
      case measure => simp [intOf]; omega
    · have hS3 : ∀ v, SF fs v → on v = true := by
        intro v hv
        obtain ⟨j, hj, hjv⟩ := List.mem_iff_getElem.1 (show (v : Int) ∈ fs from hv)
        have := hS.out j hj (by omega)
        rw [hjv] at this
        exact this
      have HX := Lib.hid (And.intro hR hS3)
      clear hR hS hS3
      go_upto_region 7 with fail
      go_loopw [9] (fun v wr => ∃ (b : Bool) (on : Nat → Bool), v = .bool b ∧ RA w wr n nb l fs on ∧ (∀ v, SF fs v → on v = true) ∧ Hid (b = false → ∀ a ∈ l, on a.f.toNat = true → on a.t.toNat = true)) (fun v wr => 2 * offB wr nb n + isT v)
      case atStart => exact ⟨true, on, rfl, HX.out.1, HX.out.2, Lib.hid fun h => Bool.noConfusion h⟩
      case round =>
        clear HX
        obtain ⟨b, on, rfl, hR, hS, hcl⟩ := hrel
        cases b with
        | false =>
          have hfin : ReachedPost n l fs w (.returned (.slice (some ⟨nb, 0, none⟩) n n)) wr := ⟨nb, on, rfl, hR.lo, hR.arr, hR.below, fun u hu => ⟨fun h => (hR.snd u h).1, fun h => Rch.sub hS (fun a b ha hb => by
            obtain ⟨x, hx, h1, h2⟩ := hb
            have := hcl.out rfl x hx (by rw [h1]; exact ha)
            rw [h2] at this
            exact this) u h⟩⟩
          have HF := Lib.hid hfin
          clear hfin hR hS hcl
          go_wp2_with fail
          go_ret
          exact HF.out
        | true =>
          have hof := hR.offB_eq
          have HX := Lib.hid (And.intro hR (And.intro hS hof))
          clear hR hS hcl hof
          go_wp2_with fail
          go_loopw [9, 10] (fun v i wq => ∃ (k : Nat) (b : Bool) (on2 : Nat → Bool), k ≤ l.length ∧ i = .int .i64 k ∧ v = .bool b ∧ RA w wq n nb l fs on2 ∧ Hid ((∀ v, SF fs v → on2 v = true) ∧ offc on2 n ≤ offc on n ∧ (b = true → offc on2 n + 1 ≤ offc on n) ∧ (b = false → ∀ j (h : j < l.length), j < k → on2 l[j].f.toNat = true → on2 l[j].t.toNat = true))) (fun _ i _ => l.length - (intOf i).toNat)
          case atStart => exact ⟨0, false, on, Nat.zero_le _, rfl, rfl, HX.out.1, Lib.hid ⟨HX.out.2.1, Nat.le_refl _, fun h => Bool.noConfusion h, fun _ j hj hjk => by omega⟩⟩
          case round =>
            obtain ⟨k, b, on2, hk, rfl, rfl, hR, hH⟩ := hrel
            by_cases hlt : k < l.length
            · obtain ⟨b9, off9, rfl, ha0, ha1, ha2⟩ := rd_arc (HC.out.1.keep hR.below) hlt
              have hao := HC.out.2.2.1 _ (List.getElem_mem hlt)
              obtain ⟨f, hf⟩ := Int.eq_ofNat_of_zero_le hao.1
              obtain ⟨t, ht⟩ := Int.eq_ofNat_of_zero_le hao.2.2.1
              have hfn : f < n := by omega
              have htn : t < n := by omega
              have hE : EA l f t := ⟨_, List.getElem_mem hlt, hf, ht⟩
              have hft : l[k].f.toNat = f ∧ l[k].t.toNat = t := by omega
              rw [hf] at ha0
              rw [ht] at ha1
              have k1 := hR.arr.cell hfn
              have k2 := hR.arr.cell htn
              have k3 := hR.arr.fz t
              have HE := Lib.hid (And.intro hft (And.intro hE hR))
              clear hao hf ht hft hE hR
              by_cases h1 : on2 f = true
              · by_cases h2 : on2 t = true
                · have HZ := Lib.hid (show ∀ b' : Nat, b = false → ∀ j (h : j < l.length), j < k + 1 → on2 l[j].f.toNat = true → on2 l[j].t.toNat = true from fun (_ : Nat) hb j hj hjk hon => by
                    by_cases e : j = k
                    · subst e; rw [HE.out.1.2]; exact h2
                    · exact hH.out.2.2.2 hb j hj (by omega) hon)
                  rw [h1] at k1
                  rw [h2] at k2
                  go_wp2_with fail
                  go_roundw
                  case rel => exact ⟨k + 1, b, on2, by omega, by go_num, rfl, HE.out.2.2, Lib.hid ⟨hH.out.1, hH.out.2.1, hH.out.2.2.1, HZ.out 0⟩⟩
                  case measure => simp [intOf]; omega
                · have h2' : on2 t = false := by simpa using h2
                  have hset := HE.out.2.2.set htn (.step (HE.out.2.2.snd f h1).1 HE.out.2.1)
                  have hoc := offc_upd on2 htn h2'
                  have hSS : ∀ v, SF fs v → upd on2 t true v = true := fun v hv => by
                    unfold upd
                    split
                    · rfl
                    · exact hH.out.1 v hv
                  have h5 := hH.out.2.1
                  have HZ := Lib.hid (And.intro hset (And.intro hSS (And.intro (show offc (upd on2 t true) n ≤ offc on n by omega) (show offc (upd on2 t true) n + 1 ≤ offc on n by omega))))
                  rw [h1] at k1
                  rw [h2'] at k2
                  clear hset hoc hSS h5 h2
                  go_wp2_with fail
                  go_roundw
                  case rel => exact ⟨k + 1, true, _, by omega, by go_num, rfl, HZ.out.1, Lib.hid ⟨HZ.out.2.1, HZ.out.2.2.1, fun _ => HZ.out.2.2.2, fun h => Bool.noConfusion h⟩⟩
                  case measure => simp [intOf]; omega
              · have h1' : on2 f = false := by simpa using h1
                have HZ := Lib.hid (show ∀ b' : Nat, b = false → ∀ j (h : j < l.length), j < k + 1 → on2 l[j].f.toNat = true → on2 l[j].t.toNat = true from fun _ hb j hj hjk hon => by
                  by_cases e : j = k
                  · subst e; rw [HE.out.1.1] at hon; exact absurd hon h1
                  · exact hH.out.2.2.2 hb j hj (by omega) hon)
                rw [h1'] at k1
                clear h1
                go_wp2_with fail
                go_roundw
                case rel => exact ⟨k + 1, b, on2, by omega, by go_num, rfl, HE.out.2.2, Lib.hid ⟨hH.out.1, hH.out.2.1, hH.out.2.2.1, HZ.out 0⟩⟩
                case measure => simp [intOf]; omega
            · have hcl2 : b = false → ∀ a ∈ l, on2 a.f.toNat = true → on2 a.t.toNat = true := fun hb a ha hon => by
                obtain ⟨j, hj, rfl⟩ := List.mem_iff_getElem.1 ha
                exact hH.out.2.2.2 hb j hj (by omega) hon
              have hme : 2 * offc on2 n + isT (.bool b) < 2 * offc on n + 1 := by
                have h1 := hH.out.2.1
                cases b with
                | true => have := hH.out.2.2.1 rfl; simp [isT]; omega
                | false => simp [isT]; omega
              have HZ := Lib.hid (And.intro hR (And.intro hcl2 hme))
              clear hR hcl2 hme
              go_wp2_with fail
              go_roundw
              case rel => exact ⟨b, on2, rfl, HZ.out.1, hH.out.1, Lib.hid HZ.out.2.1⟩
              case measure =>
                have h1 := HX.out.2.2
                have h2 := HZ.out.1.offB_eq
                have h3 := HZ.out.2.2
                simp only [h1, h2]
                simp [isT] at h3 ⊢
                omega
end Go.Proofs.Ytnhnckhjcnjacaa.ST
