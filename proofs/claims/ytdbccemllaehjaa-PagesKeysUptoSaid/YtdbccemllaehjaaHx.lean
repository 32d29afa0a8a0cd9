/- PagesKeys: a question that came in, of small bulk. -/
import Derived.Test.YtdbccemllaehjaaRows
import Derived.Test.YtdbccemllaehjaaHw
import Derived.Test.YtdbccemllaehjaaKwOpen3
import Derived.Deep.Strs
namespace Go.Proofs.Ytdbccemllaehjaa.PK
open Go.ChangeShapes Go.WideShapes Go.ChangeAt Go.RowKit Go.Deep Go.Proofs.YtdbccemllaehjaaKw
set_option linter.unusedVariables false
set_option linter.unusedSimpArgs false
section
variable {H : Type} {enc : TypeId × Value → H} {W : World}
theorem bulk_pos (d : DataW H) : 1 ≤ Rows.uptoBulk d := by
  cases d with
  | lit l => cases l <;> simp [Rows.uptoBulk]
  | nil => simp [Rows.uptoBulk]
  | ptr d => simp [Rows.uptoBulk]
  | slice elems spare => simp [Rows.uptoBulk]
  | agg parts => simp [Rows.uptoBulk]
  | iface t d => simp [Rows.uptoBulk]
  | map entries => simp [Rows.uptoBulk]
  | held h => simp [Rows.uptoBulk]
theorem bulk_part {d : DataW H} {l : List (DataW H)} (h : d ∈ l) : Rows.uptoBulk d ≤ Rows.uptoBulkAll l := by
  induction l with
  | nil => cases h
  | cons x r ih =>
    simp only [Rows.uptoBulkAll]
    cases List.mem_cons.1 h with
    | inl e => subst e; omega
    | inr e => have := ih e; omega
theorem bulk_len (l : List (DataW H)) : l.length ≤ Rows.uptoBulkAll l := by
  induction l with
  | nil => simp [Rows.uptoBulkAll]
  | cons x r ih => have := bulk_pos x; simp only [Rows.uptoBulkAll, List.length_cons]; omega
theorem bulk_slice {elems spare : List (DataW H)} {n : Nat} (h : Rows.uptoBulk (.slice elems spare) ≤ n) : elems.length ≤ n ∧ ∀ d ∈ elems, Rows.uptoBulk d ≤ n := by
  simp only [Rows.uptoBulk] at h
  have := bulk_len elems
  exact ⟨by omega, fun d hd => by have := bulk_part hd; omega⟩
theorem bulk_agg {l : List (DataW H)} {n : Nat} (h : Rows.uptoBulk (.agg l) ≤ n) : ∀ d ∈ l, Rows.uptoBulk d ≤ n := by
  simp only [Rows.uptoBulk] at h
  exact fun d hd => by have := bulk_part hd; omega
theorem bulk_str {s : ByteArray} {n : Nat} (h : Rows.uptoBulk (DataW.lit (H := H) (.string s.data.toList)) ≤ n) : s.size ≤ n := by
  simp only [Rows.uptoBulk] at h
  have e : s.data.toList.length = s.size := by rw [Array.length_toList]; rfl
  omega
theorem cells2 : Try.prog.cellsOf 2 = 1 := by kernel_rfl
theorem cells3 : Try.prog.cellsOf 3 = 1 := by kernel_rfl
theorem cells4 : Try.prog.cellsOf 4 = 1 := by kernel_rfl
theorem cells9 : Try.prog.cellsOf 9 = 1 := by kernel_rfl
theorem cells22 : Try.prog.cellsOf 22 = 1 := by kernel_rfl
theorem cells75 : Try.prog.cellsOf 75 = 3 := by kernel_rfl
theorem cells77 : Try.prog.cellsOf 77 = 2 := by kernel_rfl
theorem cells78 : Try.prog.cellsOf 78 = 1 := by kernel_rfl
theorem cells80 : Try.prog.cellsOf 80 = 9 := by kernel_rfl
theorem cells145 : Try.prog.cellsOf 145 = 1 := by kernel_rfl
theorem cells147 : Try.prog.cellsOf 147 = 6 := by kernel_rfl
theorem cells149 : Try.prog.cellsOf 149 = 7 := by kernel_rfl
theorem trod_float {P : Program} {k : FloatKind} {base fuel : Nat} {spare : Nat → Bool} {held : Bool} {t : TypeId} {cs : List Value} {x : DataW H × List MemPlace} (ht : P.underlying t = some (.float k)) (h : DataW.trod enc P W base spare held fuel t cs = some x) : ∃ n, cs = [.float k n] ∧ (Lit.float k n).wf = true := by
  cases fuel with
  | zero => simp [DataW.trod] at h
  | succ n =>
    unfold DataW.trod at h
    rw [ht] at h
    split at h <;> simp_all
/-- A list of texts in memory. -/
theorem open_texts {n : Nat} {c : Value} {x : DataW H × List MemPlace} (h : DataW.trod enc Try.prog W 0 (fun _ => true) true n 22 [c] = some x) (hB : Rows.uptoBulk x.1 ≤ 1048576) :
    ∃ (A : Option Addr) (cap : Nat) (ss : List ByteArray), c = .slice A ss.length cap ∧ Rd W A (PC.strs ss) ∧ ss.length ≤ cap ∧ cap ≤ 9223372036854775807 ∧ ss.length ≤ 1048576 ∧ ∀ s ∈ ss, s.size ≤ maxLen := by
  rcases open_strings Try.underlying22 Try.underlying9 cells9 h with ⟨hcs, hx⟩ | ⟨a, len, cap, ss, hcs, _, hl, hm, hz, hx, hcell, hws⟩
  · simp at hcs
    subst hcs
    exact ⟨none, 0, [], rfl, .inl rfl, Nat.le_refl _, by omega, by simp, by simp⟩
  · simp at hcs
    subst hcs
    simp only [if_true] at hz
    have hlen : (ss.take len).length = len := by simp; omega
    rw [hx] at hB
    have hb := (bulk_slice hB).1
    simp [strs] at hb
    refine ⟨some a, cap, ss.take len, by rw [hlen], ?_, by rw [hlen]; exact hl, by simpa [maxLen] using hm, by rw [hlen]; omega, fun s hs => hws s (List.mem_of_mem_take hs)⟩
    obtain ⟨b, off, spot⟩ := a
    by_cases h0 : len = 0
    · left; simp [h0, PC.strs]
    · have hspot : spot = none := by simpa [Addr.add] using World.cell?_spot (hcell 0 (by omega))
      subst hspot
      refine .inr ⟨b, off, rfl, fun j u hu => ?_⟩
      unfold PC.strs at hu
      have hj : j < len := by
        have := (List.getElem?_eq_some_iff.1 hu).1
        simp at this
        omega
      have := hcell j (by omega)
      rw [WideShapes.add_plain] at this
      rw [this]
      rw [List.getElem?_map, List.getElem?_take_of_lt hj] at hu
      rw [List.getElem?_eq_getElem (by omega)] at hu
      simp at hu
      rw [← hu]
      simp [List.getD, List.getElem?_eq_getElem (show j < ss.length by omega)]
set_option maxRecDepth 100000 in
theorem open_value {n : Nat} {cs : List Value} {x : DataW H × List MemPlace} (h : DataW.trod enc Try.prog W 0 (fun _ => true) true n 147 cs = some x) (hB : Rows.uptoBulk x.1 ≤ 1048576) :
    ∃ v : VV, cs = v.cells ∧ VOk W v := by
  obtain ⟨xs, m, _, rfl, hl, hlen, hf⟩ := DataW.trod_struct Try.underlying147 h
  rw [cells147] at hl
  match cs, hl, xs, hlen with
  | [c0, c1, c2, c3, c4, c5], _, [y0, y1, y2, y3, y4, y5], _ =>
    have h0 := hf 0 _ rfl
    have h1 := hf 1 _ rfl
    have h2 := hf 2 _ rfl
    have h3 := hf 3 _ rfl
    have h4 := hf 4 _ rfl
    have h5 := hf 5 _ rfl
    simp [cells2, cells3, cells4, cells9, cells22, cells145] at h0 h1 h2 h3 h4 h5
    have hb := bulk_agg hB
    have hb4 := hb y4.1 (by simp)
    have hb5 := hb y5.1 (by simp)
    obtain ⟨k, e0, _, w0⟩ := DataW.trod_int Try.underlying3 h0
    obtain ⟨b, e1, _⟩ := DataW.trod_bool Try.underlying4 h1
    obtain ⟨i, e2, _, w2⟩ := DataW.trod_int Try.underlying2 h2
    obtain ⟨f, e3, w3⟩ := trod_float Try.underlying145 h3
    obtain ⟨s, e4, ey4, w4⟩ := DataW.trod_string Try.underlying9 h4
    obtain ⟨A, cap, ss, e5, hr, hc1, hc2, hss, hw⟩ := open_texts h5 hb5
    simp at e0 e1 e2 e3 e4
    simp [Lit.wf, IntKind.min, IntKind.max, IntKind.bits, IntKind.signed] at w0 w2 w3
    exact ⟨⟨k, b, i, f, s, A, cap, ss⟩, by simp [VV.cells, e0, e1, e2, e3, e4, e5], ⟨by simp only; omega, by simp only; omega, by simp only; omega, w4, hr, ⟨hc1, hc2⟩, by simp only; omega, hw⟩⟩
set_option maxRecDepth 100000 in
theorem open_arg {n : Nat} {cs : List Value} {x : DataW H × List MemPlace} (h : DataW.trod enc Try.prog W 0 (fun _ => true) true n 149 cs = some x) (hB : Rows.uptoBulk x.1 ≤ 1048576) :
    ∃ y : ByteArray × VV, cs = gcells y ∧ y.1.size ≤ 1048576 ∧ VOk W y.2 := by
  obtain ⟨xs, m, _, rfl, hl, hlen, hf⟩ := DataW.trod_struct Try.underlying149 h
  rw [cells149] at hl
  match cs, hl, xs, hlen with
  | [c0, c1, c2, c3, c4, c5, c6], _, [y0, y1], _ =>
    have h0 := hf 0 _ rfl
    have h1 := hf 1 _ rfl
    simp [cells9, cells147] at h0 h1
    have hb := bulk_agg hB
    have hb0 := hb y0.1 (by simp)
    have hb1 := hb y1.1 (by simp)
    obtain ⟨s, e0, ey0, w0⟩ := DataW.trod_string Try.underlying9 h0
    obtain ⟨v, e1, hv⟩ := open_value h1 hb1
    simp [VV.cells] at e0 e1
    rw [ey0] at hb0
    exact ⟨(s, v), by simp [gcells, e0, e1], bulk_str hb0, hv⟩
theorem open_args {n : Nat} {c : Value} {x : DataW H × List MemPlace} (h : DataW.trod enc Try.prog W 0 (fun _ => true) true n 78 [c] = some x) (hB : Rows.uptoBulk x.1 ≤ 1048576) :
    ∃ (A : Option Addr) (cap : Nat) (xs : List (ByteArray × VV)), c = .slice A xs.length cap ∧ GsAt W A xs ∧ xs.length ≤ cap ∧ cap ≤ 9223372036854775807 ∧ xs.length ≤ 1048576 ∧ ∀ y ∈ xs, y.1.size ≤ 1048576 ∧ VOk W y.2 := by
  rcases open_slice Try.underlying78 h with ⟨hcs, hx⟩ | ⟨a, len, cap, m, n, D, Pl, hcs, hb, hl, hm, hmm, hx, hi⟩
  · simp at hcs
    subst hcs
    exact ⟨none, 0, [], rfl, .inl rfl, Nat.le_refl _, by omega, by simp, by simp⟩
  · simp at hcs
    subst hcs
    rw [hx] at hB
    obtain ⟨hb1, hb2⟩ := bulk_slice hB
    simp at hb1
    have hlm : len ≤ m := by simp at hmm; omega
    have each : ∀ i, ∃ y : ByteArray × VV, i < len → (∃ cs', W.cells? 0 (a.add (i * 7)) 7 = some cs' ∧ cs' = gcells y) ∧ y.1.size ≤ 1048576 ∧ VOk W y.2 := by
      intro i
      by_cases hil : i < len
      · obtain ⟨cs', hc, ht⟩ := hi i (by omega)
        rw [cells149] at hc
        obtain ⟨y, e, hy1, hy2⟩ := open_arg ht (hb2 (D i) (List.mem_map.2 ⟨i, by simp; exact hil, rfl⟩))
        exact ⟨y, fun _ => ⟨⟨cs', hc, e⟩, hy1, hy2⟩⟩
      · exact ⟨(⟨#[]⟩, zeroV), fun h => absurd h hil⟩
    obtain ⟨F, hF⟩ := Classical.axiomOfChoice each
    have hlen : ((List.range len).map F).length = len := by simp
    refine ⟨some a, cap, (List.range len).map F, by rw [hlen], ?_, by rw [hlen]; exact hl, by simpa [maxLen] using hm, by rw [hlen]; exact hb1, fun y hy => ?_⟩
    · obtain ⟨b, off, spot⟩ := a
      by_cases h0 : len = 0
      · left; simp [h0]
      · have cell : ∀ i, i < len → ∀ j u, (gcells (F i))[j]? = some u → W.cell? ((⟨b, off, spot⟩ : Addr).add (i * 7 + j)) = some u := by
          intro i hil j u hu
          obtain ⟨⟨cs', hc, e⟩, _, _⟩ := hF i hil
          obtain ⟨_, hcl, hat⟩ := World.cells?_some hc
          subst e
          have hj : j < 7 := by have := (List.getElem?_eq_some_iff.1 hu).1; rwa [gcells_len] at this
          rw [← Go.Deep.add_add]
          exact (hat j hj).trans hu
        have hspot : spot = none := by simpa [Addr.add] using World.cell?_spot (cell 0 (by omega) 0 _ rfl)
        subst hspot
        have cell' : ∀ i, i < len → ∀ j u, (gcells (F i))[j]? = some u → W.cell? ⟨b, off + i * 7 + j, none⟩ = some u := by
          intro i hil j u hu
          have := cell i hil j u hu
          rw [WideShapes.add_plain] at this
          rw [Nat.add_assoc]
          exact this
        refine .inr ⟨b, off, rfl, World.block_lt_of_cell? W _ (cell' 0 (by omega) 0 _ rfl), fun k x hk => ?_⟩
        have hkl : k < len := by have := (List.getElem?_eq_some_iff.1 hk).1; simpa using this
        simp [hkl] at hk
        subst hk
        exact ⟨cell' k hkl 0 _ rfl, cell' k hkl 1 _ rfl, cell' k hkl 2 _ rfl, cell' k hkl 3 _ rfl, cell' k hkl 4 _ rfl, cell' k hkl 5 _ rfl, cell' k hkl 6 _ rfl⟩
    · obtain ⟨i, hi', rfl⟩ := List.mem_map.1 hy
      have := hF i (by simpa using hi')
      exact this.2
set_option maxRecDepth 100000 in
theorem open_ask {v : Value} {d : DataW H} {p : List MemPlace} {b0 : Nat} (hv : Value.okWide Try.prog W .any b0 80 v) (h : DataW.Trod enc Try.prog W 0 (fun _ => true) true 80 v d p) (hB : Rows.uptoBulk d ≤ 1048576) :
    ∃ a : AA, v = a.agg ∧ AOk W a := by
  simp only [Value.okWide, Try.underlying80] at hv
  obtain ⟨cs, rfl, hsz, _⟩ := hv
  obtain ⟨l⟩ := cs
  obtain ⟨fuel, hf⟩ := h
  simp only [Value.cells] at hf
  obtain ⟨xs, m, _, hx, hl, hlen, hf⟩ := DataW.trod_struct Try.underlying80 hf
  rw [cells80] at hl
  match l, hl, xs, hlen with
  | [c0, c1, c2, c3, c4, c5, c6, c7, c8], _, [y0, y1, y2, y3, y4, y5], _ =>
    have h0 := hf 0 _ rfl
    have h1 := hf 1 _ rfl
    have h2 := hf 2 _ rfl
    have h3 := hf 3 _ rfl
    have h4 := hf 4 _ rfl
    have h5 := hf 5 _ rfl
    simp [cells3, cells9, cells75, cells77, cells78] at h0 h1 h2 h3 h4 h5
    simp only [Prod.mk.injEq] at hx
    rw [hx.1] at hB
    have hb := bulk_agg hB
    have hb0 := hb y0.1 (by simp)
    have hb1 := hb y1.1 (by simp)
    have hb2 := hb y2.1 (by simp)
    have hb3 := hb y3.1 (by simp)
    have hb4 := hb y4.1 (by simp)
    obtain ⟨T, e0, ey0, w0⟩ := DataW.trod_string Try.underlying9 h0
    obtain ⟨R, e1, ey1, w1⟩ := DataW.trod_string Try.underlying9 h1
    obtain ⟨z0, z1, z2, n2, hz2, _, i0, i1, i2⟩ := trod_struct3 Try.underlying75 h2
    simp [cells9] at i0 i1 i2
    obtain ⟨st, f0, ez0, _⟩ := DataW.trod_string Try.underlying9 i0
    obtain ⟨si, f1, ez1, _⟩ := DataW.trod_string Try.underlying9 i1
    obtain ⟨sr, f2, ez2, _⟩ := DataW.trod_string Try.underlying9 i2
    obtain ⟨ts, m3, _, hz3, _, hlen3, hg⟩ := DataW.trod_struct Try.underlying77 h3
    match ts, hlen3 with
    | [u0, u1], _ =>
      have j0 := hg 0 _ rfl
      have j1 := hg 1 _ rfl
      simp [cells9] at j0 j1
      obtain ⟨ot, g0, eu0, _⟩ := DataW.trod_string Try.underlying9 j0
      obtain ⟨oi, g1, eu1, _⟩ := DataW.trod_string Try.underlying9 j1
      obtain ⟨A, cap, asl, e4, hr, hc1, hc2, has, hw⟩ := open_args h4 hb4
      obtain ⟨bud, e5, _, w5⟩ := DataW.trod_int Try.underlying3 h5
      simp [Lit.wf, IntKind.min, IntKind.max, IntKind.bits, IntKind.signed] at w5
      simp at e0 e1 f0 f1 f2 g0 g1 e5
      rw [hz2] at hb2
      rw [hz3] at hb3
      have hb2' := bulk_agg hb2
      have hb3' := bulk_agg hb3
      have q0 := hb2' z0.1 (by simp)
      have q1 := hb2' z1.1 (by simp)
      have q2 := hb2' z2.1 (by simp)
      have q3 := hb3' u0.1 (by simp)
      have q4 := hb3' u1.1 (by simp)
      rw [ez0] at q0
      rw [ez1] at q1
      rw [ez2] at q2
      rw [eu0] at q3
      rw [eu1] at q4
      rw [ey0] at hb0
      rw [ey1] at hb1
      exact ⟨⟨T, R, st, si, sr, ot, oi, A, cap, asl, bud⟩, by simp [AA.agg, e0, e1, e4, e5, f0, f1, f2, g0, g1], ⟨⟨bulk_str hb0, bulk_str hb1, bulk_str q0, bulk_str q1, bulk_str q2, bulk_str q3, bulk_str q4⟩, by simp only; omega, ⟨hc1, hc2⟩, has, hr, hw⟩⟩
end
end Go.Proofs.Ytdbccemllaehjaa.PK
