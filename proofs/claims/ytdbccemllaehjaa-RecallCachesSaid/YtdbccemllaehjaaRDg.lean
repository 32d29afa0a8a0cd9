/- The law RecallCaches: the walk of one step. -/
import Derived.Test.YtdbccemllaehjaaRDf
namespace Go.Proofs.Ytdbccemllaehjaa.RD2
open Go.RowKit Go.Proofs.YtdbccemllaehjaaKw
open RK (ivs ivs_len rd_int rd_intc ivs_snoc info3)
set_option linter.unusedVariables false
set_option linter.unusedSimpArgs false

theorem keysV_ivs (L : List (Nat × Int × Value)) : Ca.keysV L = ivs ((Ca.kv L).map (·.1)) := by
  simp [Ca.keysV, Ca.kv, ivs, encInt, List.map_map, Function.comp_def]
theorem toV_keys (l : List (Int × ByteArray)) : (toV l).map (·.1) = l.map (·.1) := by simp [toV, List.map_map, Function.comp_def]
theorem two_cells (W : World) (x y : Int) : ((W.alloc (.cells #[.int .i64 x] 3)).alloc (.cells #[.int .i64 y] 3)).drew.cell? ⟨W.heap.size, 0, none⟩ = some (.int .i64 x) ∧ ((W.alloc (.cells #[.int .i64 x] 3)).alloc (.cells #[.int .i64 y] 3)).drew.cell? ⟨W.heap.size + 1, 0, none⟩ = some (.int .i64 y) ∧ Below W.heap.size W ((W.alloc (.cells #[.int .i64 x] 3)).alloc (.cells #[.int .i64 y] 3)).drew ∧ ((W.alloc (.cells #[.int .i64 x] 3)).alloc (.cells #[.int .i64 y] 3)).drew.heap.size = W.heap.size + 2 := by
  have h1 := heap_alloc_new W (.cells #[.int .i64 x] 3)
  have h2 := alloc2 W (.cells #[.int .i64 x] 3) (.cells #[.int .i64 y] 3)
  have h3 : ((W.alloc (.cells #[.int .i64 x] 3)).alloc (.cells #[.int .i64 y] 3)).heap[W.heap.size]? = some (.cells #[.int .i64 x] 3) := by
    rw [heap_alloc_old (W.alloc (.cells #[.int .i64 x] 3)) (.cells #[.int .i64 y] 3) (by simp)]
    exact h1
  refine ⟨?_, ?_, below_drewN (below_alloc (below_alloc (Below.refl _ _) _) _) 1, by simp⟩
  · show World.cell? ((W.alloc (.cells #[.int .i64 x] 3)).alloc (.cells #[.int .i64 y] 3)) _ = _
    simp only [World.cell?, h3]; rfl
  · show World.cell? ((W.alloc (.cells #[.int .i64 x] 3)).alloc (.cells #[.int .i64 y] 3)) _ = _
    simp only [World.cell?, h2]; rfl
theorem StepPost.other {w w1 w2 : World} {bc bm most qc : Nat} {A : Option Addr} {L : List (Nat × Int × Value)} (h : StepPost w bc bm most qc A L w1) (hb : Below w1.heap.size w1 w2) : StepPost w bc bm most qc A L w2 := by
  obtain ⟨A', c', l', L', h1, h2, h3⟩ := h
  exact ⟨A', c', l', L', h1.other hb, ⟨hb.os.trans h2.os, hb.tape.trans h2.tape, hb.output.trans h2.output, Nat.le_trans h2.size hb.size, fun k hk hn => (hb.block k (Nat.lt_of_lt_of_le hk h2.size)).trans (h2.block k hk hn)⟩, h3⟩
theorem filter_split {α : Type} (g : α → Bool) (l : List α) : (l.filter g).length + (l.filter fun x => !g x).length = l.length := by
  induction l with
  | nil => rfl
  | cons x l ih =>
    cases h : g x <;> simp [List.filter_cons, h] <;> omega
theorem kv_filter (L : List (Nat × Int × Value)) (l : List (Int × ByteArray)) (hkv : Ca.kv L = toV l) (g : Int → Bool) : Ca.kv (L.filter fun n => g n.2.1) = toV (l.filter fun p => g p.1) := by
  rw [toV_filter, ← hkv]
  unfold Ca.kv
  rw [List.filter_map]
  rfl
theorem keys_eq {L : List (Nat × Int × Value)} {l : List (Int × ByteArray)} (hkv : Ca.kv L = toV l) : L.map (·.2.1) = l.map (·.1) := by
  have := congrArg (List.map (·.1)) hkv
  rw [toV_keys] at this
  rw [← this]
  simp [Ca.kv, List.map_map, Function.comp_def]
/-- What the picks leave. -/
def TwoAt (W : World) (by' rest : Int) (v11 v12 : Value) (wx : World) : Prop :=
  ∃ py pr : Nat, v11 = .pointer (some ⟨py, 0, none⟩) ∧ v12 = .pointer (some ⟨pr, 0, none⟩) ∧ W.heap.size ≤ py ∧ W.heap.size ≤ pr ∧ wx.cell? ⟨py, 0, none⟩ = some (.int .i64 by') ∧ wx.cell? ⟨pr, 0, none⟩ = some (.int .i64 rest) ∧ Below W.heap.size W wx
theorem TwoAt.one (W : World) (by' rest : Int) : TwoAt W by' rest (.pointer (some ⟨W.heap.size, 0, none⟩)) (.pointer (some ⟨W.heap.size + 1, 0, none⟩)) ((W.alloc (.cells #[.int .i64 by'] 3)).alloc (.cells #[.int .i64 rest] 3)).drew := by
  obtain ⟨c1, c2, hb, hs⟩ := two_cells W by' rest
  exact ⟨_, _, rfl, rfl, Nat.le_refl _, Nat.le_succ _, c1, c2, hb⟩
theorem TwoAt.two (W : World) (by' rest : Int) : TwoAt W by' rest (.pointer (some ⟨W.heap.size + 1, 0, none⟩)) (.pointer (some ⟨W.heap.size, 0, none⟩)) ((W.alloc (.cells #[.int .i64 rest] 3)).alloc (.cells #[.int .i64 by'] 3)).drew := by
  obtain ⟨c1, c2, hb, hs⟩ := two_cells W rest by'
  exact ⟨_, _, rfl, rfl, Nat.le_succ _, Nat.le_refl _, c2, c1, hb⟩
set_option maxHeartbeats 4000000 in
set_option maxRecDepth 100000 in
theorem step_drop (bc bm most qc c : Nat) (A : Option Addr) (l : List (Int × ByteArray)) (L : List (Nat × Int × Value)) (on kind key : Int) (v : ByteArray) (w : World) (h : Pair w bc bm most qc A c l L)
    (hy1 : -9223372036854775808 ≤ key) (hy2 : key ≤ 9223372036854775807) (hpick : ∀ w, Calls Try.prog 21 #[.int .i64 kind, .int .i64 6] w fun e w' => e = .returned (.int .i64 3) ∧ w = w') :
    Calls Try.prog 22 #[.pointer (some ⟨bc, 0, none⟩), .pointer (some ⟨qc, 0, none⟩), .agg #[.int .i64 on, .int .i64 kind, .int .i64 key, .string v]] w fun e w' => e = .returned (.bool true) ∧ StepPost w bc bm most qc A L w' := by
  have hll := h.llen
  have hlen := h.len
  have hm2 := h.m2
  have hone := h.m1
  have hnew := heap_alloc_new w (.cells #[.int .i64 on, .int .i64 kind, .int .i64 key, .string v] 42)
  have hA1 : (w.alloc (.cells #[.int .i64 on, .int .i64 kind, .int .i64 key, .string v] 42)).cell? ⟨w.heap.size, 1, none⟩ = some (.int .i64 kind) := by simp only [World.cell?, hnew]; rfl
  have hA2 : (w.alloc (.cells #[.int .i64 on, .int .i64 kind, .int .i64 key, .string v] 42)).cell? ⟨w.heap.size, 2, none⟩ = some (.int .i64 key) := by simp only [World.cell?, hnew]; rfl
  have hA3 : (w.alloc (.cells #[.int .i64 on, .int .i64 kind, .int .i64 key, .string v] 42)).cell? ⟨w.heap.size, 3, none⟩ = some (.string v) := by simp only [World.cell?, hnew]; rfl
  have hbW := below_alloc (Below.refl w.heap.size w) (.cells #[.int .i64 on, .int .i64 kind, .int .i64 key, .string v] 42)
  have hlW : w.heap.size < (w.alloc (.cells #[.int .i64 on, .int .i64 kind, .int .i64 key, .string v] 42)).heap.size := by simp
  have HW := Lib.hid (And.intro h (And.intro hbW (h.other hbW)))
  have Hlw := Lib.hid h.lt
  clear h hnew hbW
  go_enter Try.func22, Try.ntmps22
  go_wp2_with fail
  generalize w.alloc (.cells #[.int .i64 on, .int .i64 kind, .int .i64 key, .string v] 42) = W at *
  refine (hpick W).mono ?_
  rintro e w1 ⟨rfl, rfl⟩
  clear hpick
  obtain ⟨by', hb0, hb1, hpb⟩ := pick6 key hy1 hy2 3 (by omega) (by omega) w
  obtain ⟨rest, hr0, hr1, hpr⟩ := pick6 key hy1 hy2 2 (by omega) (by omega) w
  go_upto_region 12 with fail
  go_cut [11, 12] (fun s11 s12 wx => TwoAt W by' rest s11 s12 wx)
  case first =>
    go_region_held3 (fun w' => w'.cell? ⟨w.heap.size, 2, none⟩ = some (.int .i64 key)) (first | assumption | go_keep) (first
      | (go_at_call_of 21 (Value.int IntKind.i64 3); refine (hpb _).mono ?_; rintro e w2 ⟨rfl, rfl⟩)
      | (go_at_call_of 21 (Value.int IntKind.i64 2); refine (hpr _).mono ?_; rintro e w2 ⟨rfl, rfl⟩))
    all_goals
      go_wp2_with fail
      go_meet
      first | exact TwoAt.one W by' rest | exact TwoAt.two W by' rest
  case rest =>
    obtain ⟨py, pr, rfl, rfl, hpyW, hprW, c1, c2, hbl⟩ := hcut
    clear hpb hpr hA1 hA2 hA3
    generalize wc = W2 at *
    have hpyl := World.block_lt_of_cell? W2 _ c1
    have hprl := World.block_lt_of_cell? W2 _ c2
    have hszl := hbl.size
    have hb3 := below_alloc hbl (.cells #[.slice none 0 0] 44)
    have hnew3 := heap_alloc_new W2 (.cells #[.slice none 0 0] 44)
    have hpa3 : (W2.alloc (.cells #[.slice none 0 0] 44)).cell? ⟨W2.heap.size, 0, none⟩ = some (.slice none 0 0) := (by simp only [World.cell?, hnew3]; rfl)
    have hfz3 : (W2.alloc (.cells #[.slice none 0 0] 44)).frozen? ⟨W2.heap.size, 0, none⟩ = false := (by simp only [World.frozen?, hnew3]; rfl)
    have hy3 : (W2.alloc (.cells #[.slice none 0 0] 44)).cell? ⟨py, 0, none⟩ = some (.int .i64 by') := (World.cell?_alloc_lt W2 _ _ (World.block_lt_of_cell? W2 _ c1)).trans c1
    have hr3 : (W2.alloc (.cells #[.slice none 0 0] 44)).cell? ⟨pr, 0, none⟩ = some (.int .i64 rest) := (World.cell?_alloc_lt W2 _ _ (World.block_lt_of_cell? W2 _ c2)).trans c2
    have hs3 : (W2.alloc (.cells #[.slice none 0 0] 44)).heap.size = W2.heap.size + 1 := (by simp)
    have hP3 := HW.out.2.2.other hb3
    clear hnew3
    go_wp2_with fail
    generalize W2.alloc (.cells #[.slice none 0 0] 44) = W3 at *
    refine (keys_calls qc most A c l W3 hP3.ref (by omega)).mono ?_
    rintro e w4 ⟨B, d, rfl, hbo, hbb⟩
    have hP4 := hP3.other hbb
    have hN3 := hbb.size
    have hWw := HW.out.2.1.size
    have hown : ∀ q, Own bc bm L q → q < w.heap.size := fun q hq => Hlw.out q (.inl hq)
    have hqw : qc < w.heap.size := Hlw.out qc (.inr (.inl rfl))
    have hpa4 := (hbb.cell (p := ⟨W2.heap.size, 0, none⟩) (World.block_lt_of_cell? W3 _ hpa3)).trans hpa3
    have hfz4 := (hbb.frozen (p := ⟨W2.heap.size, 0, none⟩) (World.block_lt_of_cell? W3 _ hpa3)).trans hfz3
    have hy4 := (hbb.cell (p := ⟨py, 0, none⟩) (World.block_lt_of_cell? W3 _ hy3)).trans hy3
    have hr4 := (hbb.cell (p := ⟨pr, 0, none⟩) (World.block_lt_of_cell? W3 _ hr3)).trans hr3
    have hAsk : Ask w4.heap.size W2.heap.size py pr by' rest [] w4 := ⟨⟨_, hpa4, World.ownsRow_nil _ _ _ _⟩, hfz4, hy4, hr4, Nat.le_refl _⟩
    have hdrop := Ca.drop_calls ⟨W2.heap.size, 0, none⟩ ⟨py, 0, none⟩ ⟨pr, 0, none⟩ (fun k => decide (k.tmod (1 + by') = rest)) (Ask w4.heap.size W2.heap.size py pr by' rest) (fun q => q = W2.heap.size ∨ w4.heap.size ≤ q) bc bm most L (fun ks k V hks hI => ask_calls w4.heap.size W2.heap.size py pr by' rest (by omega) (by omega) (by omega) (by omega) (by omega) (by omega) ks k V hks hI) (fun ks V V' hI ht => hI.tch ht (fun ho => by have := hown _ ho; omega) (fun ho => by have := hown _ ho; omega) (fun ho => by have := hown _ ho; omega) (fun q hq ho => by have := hown q ho; omega)) (fun q ho hs => by have := hown q ho; rcases hs with hs | hs <;> omega) w4 hP4.rep (by omega) hAsk
    have HD := Lib.hid hdrop
    have HP4 := Lib.hid hP4
    have HBO := Lib.hid hbo
    have HB := Lib.hid (below_then hb3 (by omega) hbb)
    clear hdrop hAsk hpa3 hfz3 hy3 hr3 hpa4 hfz4 hy4 hr4 hP3 hP4 hbo hbb hb3 hbl c1 c2
    go_wp2_with fail
    refine HD.out.mono ?_
    rintro e w5 ⟨rfl, hC5, hI5, ht5⟩
    obtain ⟨va, hva, hro⟩ := hI5.row
    rw [keys_eq HW.out.1.kv, List.length_map] at hro
    obtain ⟨vA, vc, rfl, hvc1, hvc2⟩ := own_form hro
    have hy5 := hI5.byC
    have hr5 := hI5.restC
    have hR5 : RefR w5 qc most A c l := HP4.out.ref.tch ht5 (fun hs => by rcases hs with hs | hs | hs; (exact HP4.out.qN hs); omega; omega) (fun b off e hs => by have hb := Hlw.out b (.inr (.inr ⟨off, e⟩)); rcases hs with hs | hs | hs; (exact HP4.out.aN b off e hs); omega; omega)
    have hbo5 := RL.own_tch HBO.out ht5 (fun g hg hs => by have h1 := own_base HBO.out g hg; have h2 := (HBO.out.lt g hg).2; rcases hs with hs | hs | hs; (have := hown g hs; omega); omega; omega)
    have tW5 : Tch (Own bc bm L) W w5 := ⟨ht5.os.trans HB.out.os, ht5.tape.trans HB.out.tape, ht5.output.trans HB.out.output, Nat.le_trans HB.out.size ht5.size, fun k hk hn => (ht5.block k (Nat.lt_of_lt_of_le hk HB.out.size) (fun hs => by rcases hs with hs | hs | hs; (exact hn hs); omega; omega)).trans (HB.out.block k hk)⟩
    have hsp := filter_split (fun n : Nat × Int × Value => decide (n.2.1.tmod (1 + by') = rest)) L
    have hlf : (L.filter fun n => !decide (n.2.1.tmod (1 + by') = rest)).length = (l.filter fun p => !decide (p.1.tmod (1 + by') = rest)).length := (by have := congrArg List.length (kv_filter L l HW.out.1.kv (fun k => !decide (k.tmod (1 + by') = rest))); simpa [Ca.kv, toV] using this)
    have hnn : (((L.filter fun n => decide (n.2.1.tmod (1 + by') = rest)).length : Nat) : Int) = (l.length : Int) - ((l.filter fun p => !decide (p.1.tmod (1 + by') = rest)).length : Nat) := (by omega)
    have H5 := Lib.hid (And.intro hC5 (And.intro tW5 (And.intro hR5 (And.intro hro (And.intro hbo5 ht5)))))
    clear hsp hlf hC5 tW5 hR5 hro hbo5 ht5 hI5 HD
    go_wp2_with fail
    refine (drop_calls qc most A c l by' rest (by omega) w5 H5.out.2.2.1 (by omega)).mono ?_
    rintro e w6 ⟨rfl, hR6⟩
    have hpost6 := HW.out.2.2.both HW.out.2.1 H5.out.1 (Nat.le_trans (List.length_filter_le _ _) hlen) H5.out.2.1 (fun n hn => .inl (List.mem_map_of_mem (List.mem_filter.1 hn).1)) hR6 (kv_filter L l HW.out.1.kv (fun k => !decide (k.tmod (1 + by') = rest)))
    obtain ⟨B6, d6, hR6a, ht6, hB6⟩ := hR6
    have hva6 := (ht6.cell (p := ⟨W2.heap.size, 0, none⟩) (World.block_lt_of_cell? w5 _ hva) (fun e => by simp at e; omega)).trans hva
    have hro6 := RL.own_tch H5.out.2.2.2.1 ht6 (fun g hg e => by have := own_base H5.out.2.2.2.1 g hg; omega)
    have hbo6 := RL.own_tch H5.out.2.2.2.2.1 ht6 (fun g hg e => by have := own_base H5.out.2.2.2.2.1 g hg; omega)
    have hsame := RK.same_calls vA B vc d (l.map (·.1)) w6 (own_rd hro6) (own_rd hbo6) (by simp; omega)
    rw [List.length_map, hll] at hsame
    have HS := Lib.hid hsame
    have HPo := Lib.hid hpost6
    clear hsame hpost6 hro6 hbo6 hR6a ht6 hB6 hva
    go_wp2_with fail
    refine HS.out.mono ?_
    rintro e w7 ⟨rfl, hb7⟩
    have hpost := HPo.out.other hb7
    clear hb7
    go_wp2_with fail
    go_ret
    exact ⟨rfl, hpost⟩
set_option maxHeartbeats 8000000 in
set_option maxRecDepth 100000 in
theorem step_calls (bc bm most qc c : Nat) (A : Option Addr) (l : List (Int × ByteArray)) (L : List (Nat × Int × Value)) (on kind key : Int) (v : ByteArray) (w : World) (h : Pair w bc bm most qc A c l L)
    (hk1 : -9223372036854775808 ≤ kind) (hk2 : kind ≤ 9223372036854775807) (hy1 : -9223372036854775808 ≤ key) (hy2 : key ≤ 9223372036854775807) :
    Calls Try.prog 22 #[.pointer (some ⟨bc, 0, none⟩), .pointer (some ⟨qc, 0, none⟩), .agg #[.int .i64 on, .int .i64 kind, .int .i64 key, .string v]] w fun e w' => e = .returned (.bool true) ∧ StepPost w bc bm most qc A L w' := by
  obtain ⟨mo, hm0, hm1, hpick⟩ := pick6 kind hk1 hk2 6 (by omega) (by omega) w
  by_cases hmo3 : mo = 3
  · exact step_drop bc bm most qc c A l L on kind key v w h hy1 hy2 (by rw [← hmo3]; exact hpick)
  have hll := h.llen
  have hlen := h.len
  have hm2 := h.m2
  have hone := h.m1
  have hnew := heap_alloc_new w (.cells #[.int .i64 on, .int .i64 kind, .int .i64 key, .string v] 42)
  have hA1 : (w.alloc (.cells #[.int .i64 on, .int .i64 kind, .int .i64 key, .string v] 42)).cell? ⟨w.heap.size, 1, none⟩ = some (.int .i64 kind) := by simp only [World.cell?, hnew]; rfl
  have hA2 : (w.alloc (.cells #[.int .i64 on, .int .i64 kind, .int .i64 key, .string v] 42)).cell? ⟨w.heap.size, 2, none⟩ = some (.int .i64 key) := by simp only [World.cell?, hnew]; rfl
  have hA3 : (w.alloc (.cells #[.int .i64 on, .int .i64 kind, .int .i64 key, .string v] 42)).cell? ⟨w.heap.size, 3, none⟩ = some (.string v) := by simp only [World.cell?, hnew]; rfl
  have hbW := below_alloc (Below.refl w.heap.size w) (.cells #[.int .i64 on, .int .i64 kind, .int .i64 key, .string v] 42)
  have hlW : w.heap.size < (w.alloc (.cells #[.int .i64 on, .int .i64 kind, .int .i64 key, .string v] 42)).heap.size := by simp
  have HW := Lib.hid (And.intro h (And.intro hbW (h.other hbW)))
  have Hlw := Lib.hid h.lt
  clear h hnew hbW
  go_enter Try.func22, Try.ntmps22
  go_wp2_with fail
  generalize w.alloc (.cells #[.int .i64 on, .int .i64 kind, .int .i64 key, .string v] 42) = W at *
  refine (hpick W).mono ?_
  rintro e w1 ⟨rfl, rfl⟩
  clear hpick
  have hcase : (mo = 0 ∨ mo = 1) ∨ mo = 2 ∨ mo = 3 ∨ mo = 4 ∨ mo = 5 := by omega
  clear hm0 hm1
  rcases hcase with hmo | rfl | rfl | rfl | rfl
  · have hput : ∀ K : Prop, True := fun _ => trivial
    rcases hmo with rfl | rfl
    all_goals
      go_wp2_with fail
      refine (Ca.put_any bc bm most hone hm2 L hlen key v W HW.out.2.2.rep).mono ?_
      rintro e w2 ⟨rfl, L', hC, hkv, hl', ht, hn⟩
      have hR2 := HW.out.2.2.ref.tch ht HW.out.2.2.qN HW.out.2.2.aN
      have hA22 := (ht.cell (p := ⟨w.heap.size, 2, none⟩) hlW (fun ho => by have := Hlw.out _ (.inl ho); simp at this)).trans hA2
      have hA23 := (ht.cell (p := ⟨w.heap.size, 3, none⟩) hlW (fun ho => by have := Hlw.out _ (.inl ho); simp at this)).trans hA3
      have HC := Lib.hid (And.intro hC (And.intro hl' (And.intro ht (And.intro hn hkv))))
      have HR := Lib.hid hR2
      clear hC hl' ht hn hkv hR2
      go_wp2_with fail
      refine (put_calls qc most A c l key v w2 HR.out (by omega) (by omega)).mono ?_
      rintro e w3 ⟨rfl, hR3⟩
      have hpost := HW.out.2.2.both HW.out.2.1 HC.out.1 HC.out.2.1 HC.out.2.2.1 HC.out.2.2.2.1 hR3 (by rw [HC.out.2.2.2.2, HW.out.1.kv, toV_put])
      clear hR3
      go_wp2_with fail
      go_ret
      exact ⟨rfl, hpost⟩
  · by_cases hex : ∃ p ∈ l, p.1 = key
    · obtain ⟨i, hi, hik, hfirst⟩ := first_at l key hex
      have hff := find_first l key i hi hik hfirst
      go_wp2_with fail
      refine (Ca.get_found bc bm most L key l[i].2 W HW.out.2.2.rep (by rw [HW.out.1.kv]; exact hff)).mono ?_
      rintro e w2 ⟨rfl, L', hC, hkv, hl', ht, hn⟩
      have hR2 := HW.out.2.2.ref.tch ht HW.out.2.2.qN HW.out.2.2.aN
      have hA22 := (ht.cell (p := ⟨w.heap.size, 2, none⟩) hlW (fun ho => by have := Hlw.out _ (.inl ho); simp at this)).trans hA2
      have HC := Lib.hid (And.intro hC (And.intro hl' (And.intro ht (And.intro hn (And.intro hkv hff)))))
      have HR := Lib.hid hR2
      clear hC hl' ht hn hkv hR2 hff
      go_wp2_with fail
      refine (get_found qc most A c l key w2 HR.out (by omega) i hi hik hfirst).mono ?_
      rintro e w3 ⟨rfl, hR3⟩
      have hpost := HW.out.2.2.both HW.out.2.1 HC.out.1 (by rw [HC.out.2.1]; exact hlen) HC.out.2.2.1 (fun n hn => .inl (HC.out.2.2.2.1 n hn)) hR3 (by
        rw [HC.out.2.2.2.2.1, HW.out.1.kv]
        unfold Ca.getS
        rw [HC.out.2.2.2.2.2]
        simp only [toV, List.map_cons]
        congr 1
        exact (toV_wo l key).symm)
      clear hR3
      go_wp2_with fail
      go_ret
      exact ⟨rfl, hpost⟩
    · have hff := find_none l key hex
      go_wp2_with fail
      refine (Ca.get_none bc bm most L key W HW.out.2.2.rep (by rw [HW.out.1.kv]; exact hff)).mono ?_
      rintro e w2 ⟨rfl, _, hb2⟩
      have hP2 := HW.out.2.2.other hb2
      have hA22 := (hb2.cell (p := ⟨w.heap.size, 2, none⟩) hlW).trans hA2
      have hbb := below_then HW.out.2.1 HW.out.2.1.size hb2
      have HP := Lib.hid (And.intro hP2 hbb)
      clear hP2 hbb hb2 hff
      go_wp2_with fail
      refine (get_none qc most A c l key w2 HP.out.1.ref (by omega) (fun p hp e => hex ⟨p, hp, e⟩)).mono ?_
      rintro e w3 ⟨rfl, rfl⟩
      have hpost := HW.out.1.same HP.out.2
      go_wp2_with fail
      go_ret
      exact ⟨rfl, hpost⟩
  · exact absurd rfl hmo3
  · go_wp2_with fail
    refine (Ca.keys_calls bc bm most L W HW.out.2.2.rep (by omega)).mono ?_
    rintro e w2 ⟨va, rfl, hao, hab⟩
    rw [keysV_ivs, HW.out.1.kv, toV_keys] at hao
    obtain ⟨aA, ac, rfl, hac, hac2⟩ := own_form hao
    have hP2 := HW.out.2.2.other hab
    have hb2 := below_then HW.out.2.1 HW.out.2.1.size hab
    have HP := Lib.hid (And.intro hP2 (And.intro hb2 hao))
    clear hP2 hb2 hao hab
    go_wp2_with fail
    refine (keys_calls qc most A c l w2 HP.out.1.ref (by omega)).mono ?_
    rintro e w3 ⟨B, d, rfl, hbo, hbb⟩
    have hb3 := below_then HP.out.2.1 HP.out.2.1.size hbb
    have hao3 := own_keep HP.out.2.2 hbb
    go_wp2_with fail
    rw [← hll]
    have hsame := RK.same_calls aA B ac d (l.map (·.1)) w3 (own_rd hao3) (own_rd hbo) (by simp; omega)
    rw [List.length_map] at hsame
    refine hsame.mono ?_
    rintro e w4 ⟨rfl, hb4⟩
    have hpost := HW.out.1.same (below_then hb3 hb3.size hb4)
    clear hao3 hbo hbb hb4 hsame
    go_wp2_with fail
    go_ret
    exact ⟨rfl, hpost⟩
  · have hlst := HW.out.2.2.ref.lst
    have hlq := World.block_lt_of_cell? W _ hlst
    go_wp2_with fail
    go_region_held3 (fun w' => w'.cell? ⟨qc, 1, none⟩ = some (.slice A l.length c)) (first | assumption | go_keep) ((go_at_call 24; refine (Ca.len_calls bc bm most L W.drew (HW.out.2.2.other (show Below W.heap.size W W.drew from ⟨rfl, rfl, rfl, Nat.le_refl _, fun _ _ => rfl⟩)).rep).mono ?_; rintro e w2 ⟨rfl, rfl⟩))
    all_goals
      have hpost := HW.out.1.same (show Below w.heap.size w W.drew from ⟨HW.out.2.1.os, HW.out.2.1.tape, HW.out.2.1.output, HW.out.2.1.size, HW.out.2.1.block⟩)
      go_wp2_with fail
      go_ret
      exact ⟨congrArg (fun b => Ending.returned (Value.bool b)) (by simp [hll]), hpost⟩
end Go.Proofs.Ytdbccemllaehjaa.RD2
