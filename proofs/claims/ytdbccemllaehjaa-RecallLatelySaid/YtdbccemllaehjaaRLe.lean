/- The law RecallLately: the state behind the loop. -/
import Derived.Test.YtdbccemllaehjaaRLd
namespace Go.Proofs.Ytdbccemllaehjaa.RL
open Go.RowKit Go.Proofs.YtdbccemllaehjaaKw
open PC (strs strs_len strs_at rd_str strs_take info9)
open AW (At)
set_option linter.unusedVariables false
set_option linter.unusedSimpArgs false

structure Fin (w0 w : World) (bc bm bp most : Nat) (v : Value) (want : List ByteArray) (f : ByteArray → Option Value) (L : List (Nat × ByteArray × Value)) : Prop where
  rep : CacheR encStr w bc bm most L
  below : Below w0.heap.size w0 w
  own : ∀ q, Own bc bm L q → w0.heap.size ≤ q
  map : MapF encStr w bp f
  mapN : ¬ Own bc bm L bp
  row : w.ownsRow w0.heap.size 9 1 v want.length (strs want)
  rowN : ∀ g, v.ownBlock = some g → ¬ Own bc bm L g
  mem : ∀ x ∈ want, x ∈ (Cb.kv L).map (·.1)
  vals : ∀ p ∈ Cb.kv L, ∃ n : Int, p.2 = .int .i64 n ∧ f p.1 = some (.int .i64 n)
theorem St.fin {w0 w w' : World} {bc bm bp most : Nat} {v v' : Value} {used : List ByteArray} {l : List (ByteArray × Value)} {f : ByteArray → Option Value} {L : List (Nat × ByteArray × Value)} (h : St w0 w bc bm bp most v used l f L)
    (hr : w'.ownsRow w.heap.size 9 1 v' (lateF most [] used.reverse).length (strs (lateF most [] used.reverse))) (hb : Below w.heap.size w w') :
    Fin w0 w' bc bm bp most v' (lateF most [] used.reverse) f L := by
  have h' := h.other hb
  have hlt := h.rep.lt encStr
  refine ⟨h'.rep, h'.below, h'.own, h'.map, h'.mapN, own_mono hr h.below.size, fun g hg hq => ?_, fun x hx => by rw [h.kv, h.keys]; exact hx, by rw [h.kv]; exact h.vals⟩
  have := hlt g hq
  have := own_base hr g hg
  omega
theorem Fin.other {w0 w w' : World} {bc bm bp most : Nat} {v : Value} {want : List ByteArray} {f : ByteArray → Option Value} {L : List (Nat × ByteArray × Value)} (h : Fin w0 w bc bm bp most v want f L) (hb : Below w.heap.size w w') : Fin w0 w' bc bm bp most v want f L := by
  have hlt := h.rep.lt encStr
  have ht := tch_new hb
  have hm := mapF_lt h.map
  have hr := h.row.lt
  exact ⟨h.rep.keep encStr ht (fun k hk hk2 => by have := hlt k hk; omega), below_then h.below h.below.size hb, h.own, mapF_tch h.map ht (by omega), h.mapN, own_keep h.row hb, h.rowN, h.mem, h.vals⟩
theorem getS_all (l : List (ByteArray × Value)) (k : ByteArray) : ∀ x ∈ l.map (·.1), x ∈ (Cb.getS l k).map (·.1) := by
  intro x hx
  by_cases hk : k ∈ l.map (·.1)
  · rw [getS_keys l k hk]
    by_cases he : x = k
    · exact List.mem_cons.2 (.inl he)
    · exact List.mem_cons.2 (.inr (List.mem_filter.2 ⟨hx, by simp [he]⟩))
  · unfold Cb.getS
    rw [find_keys.2 hk]
    exact hx
theorem Fin.get {w0 w : World} {bc bm bp most : Nat} {v : Value} {want : List ByteArray} {f : ByteArray → Option Value} {L : List (Nat × ByteArray × Value)} (h : Fin w0 w bc bm bp most v want f L) (k : ByteArray) (hk : k ∈ want) :
    ∃ n : Int, f k = some (.int .i64 n) ∧ Calls Try.prog 31 #[.pointer (some ⟨bc, 0, none⟩), .string k] w fun e w' => e = .returned (.tuple #[.int .i64 n, .bool true]) ∧ ∃ L', Fin w0 w' bc bm bp most v want f L' := by
  cases hf : (Cb.kv L).find? (fun p => decide (p.1 = k)) with
  | none => exact absurd (h.mem k hk) (find_keys.1 hf)
  | some p =>
    have hp := List.mem_of_find?_eq_some hf
    have hpk : p.1 = k := by have := List.find?_some hf; simpa using this
    obtain ⟨n, hn, hfn⟩ := h.vals p hp
    obtain ⟨pk, pv⟩ := p
    simp only at hpk hn hfn
    subst hpk; subst hn
    refine ⟨n, hfn, (Cb.get_found bc bm most L pk n w h.rep hf).mono ?_⟩
    rintro e w' ⟨rfl, L', hC, hkv, hl, ht, hn⟩
    have hm := mapF_lt h.map
    have hr := h.row.lt
    have hsub : ∀ q, Own bc bm L' q → Own bc bm L q ∨ w.heap.size ≤ q := fun q hq => Cb.own_new (fun n hn' => .inl (hn n hn')) hq
    refine ⟨rfl, L', hC, h.below.trans (ht.below h.below.size h.own), fun q hq => ?_, mapF_tch h.map ht h.mapN, fun hq => ?_, own_tch h.row ht h.rowN, fun g hg hq => ?_, fun x hx => ?_, fun p hp => ?_⟩
    · rcases hsub q hq with hq | hq
      · exact h.own q hq
      · exact Nat.le_trans h.below.size hq
    · rcases hsub _ hq with hq | hq
      · exact h.mapN hq
      · omega
    · rcases hsub _ hq with hq | hq
      · exact h.rowN g hg hq
      · have := (hr g hg).2
        omega
    · rw [hkv]; exact getS_all _ _ x (h.mem x hx)
    · rw [hkv] at hp
      exact h.vals p (getS_mem _ _ p hp)
theorem keysV_strs (L : List (Nat × ByteArray × Value)) : Cb.keysV L = strs ((Cb.kv L).map (·.1)) := by
  simp [Cb.keysV, Cb.kv, strs, encStr, List.map_map, Function.comp_def]
end Go.Proofs.Ytdbccemllaehjaa.RL
