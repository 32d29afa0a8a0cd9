/- Laws on maps whose keys are whole numbers or texts, over a list of pairs. No statement is proved here. -/
import Derived.WalkKit
import Derived.MapKept
import Derived.Lib.Hide
namespace Go.Proofs.YtdjkheiakkhngaaGreatDoorKw
open Go Go.RowKit
open Go.MapKept (IsKey)
set_option linter.unusedVariables false
set_option linter.unusedSimpArgs false

/-- How keys are written: a Go value each; kind: their type's own form. -/
structure Enc (K : Type) [DecidableEq K] (kind : TypeDesc) where
  enc : K → Value
  same : ∀ a b, Instr.sameNow kind (enc a) (enc b) = some (decide (a = b))
  key : ∀ k, IsKey kind (enc k)

def encInt : Enc Int (.int .i64) where
  enc := Value.int .i64
  same a b := by rw [Instr.sameNow, if_pos rfl]; congr 1
  key k := by simp [IsKey]
def encStr : Enc ByteArray .string where
  enc := Value.string
  same a b := by
    show some (a == b) = _
    congr 1
    rw [Bool.eq_iff_iff, Go.MapKept.bytes_beq, decide_eq_true_iff]
  key k := by simp [IsKey]

section
variable {K : Type} [DecidableEq K] {kind : TypeDesc} (E : Enc K kind)

/-- The map at block b holds the pairs m. -/
def MapIs (w : World) (b : Nat) (m : List (K × Value)) : Prop :=
  ∃ es clock, w.heap[b]? = some (.map es clock) ∧ es.toList.map (fun e => (e.key, e.val)) = m.map (fun p => (E.enc p.1, p.2))

theorem findNow_pairs (k : K) : ∀ (es : List MapEntry) (m : List (K × Value)) (i : Nat), es.map (fun e => (e.key, e.val)) = m.map (fun p => (E.enc p.1, p.2)) →
    Instr.findNow kind (E.enc k) es i = some ((m.find? (fun p => decide (p.1 = k))).map fun p => (i + m.findIdx (fun p => decide (p.1 = k)), p.2))
  | [], [], i, _ => by simp [Instr.findNow]
  | [], _ :: _, i, h => by simp at h
  | _ :: _, [], i, h => by simp at h
  | e :: es, p :: m, i, h => by
    simp only [List.map_cons, List.cons.injEq, Prod.mk.injEq] at h
    obtain ⟨⟨h1, h2⟩, h3⟩ := h
    unfold Instr.findNow
    rw [h1, E.same]
    by_cases hk : p.1 = k
    · subst hk
      simp [h2, List.findIdx_cons]
    · have : decide (k = p.1) = false := by simp; exact fun e => hk e.symm
      rw [this]
      simp only []
      rw [findNow_pairs k es m (i + 1) h3]
      simp only [List.find?_cons, List.findIdx_cons, hk, decide_false]
      congr 1
      cases m.find? (fun p => decide (p.1 = k)) with
      | none => rfl
      | some q => simp; omega

theorem map_look {P : Program} {w : World} {b : Nat} {m : List (K × Value)} (h : MapIs E w b m) {T kt et : TypeId} (hm : P.underlying T = some (.map kt et)) (hk : P.underlying kt = some kind) {z : Value} (hz : ∀ w, (zeroValue et).run P w = .ok z w) (k : K) :
    (Instr.lookup T (.map (some b)) (E.enc k) true).run P w = .ok (.tuple #[((m.find? (fun p => decide (p.1 = k))).map (·.2)).getD z, .bool (m.find? (fun p => decide (p.1 = k))).isSome]) w := by
  obtain ⟨es, clock, hb, he⟩ := h
  have hf := findNow_pairs E k es.toList m 0 he
  simp [Instr.lookup, run_underlying hm, Go.MapKept.run_getObj_map hb, Go.MapKept.run_checkKey hk (E.key k), Go.MapKept.run_findKey hk hf, Result.andThen]
  cases m.find? (fun p => decide (p.1 = k)) with
  | none => simp [hz, Result.andThen]
  | some q => simp

def setMap (w : World) (b : Nat) (o : Obj) : World := { w with heap := w.heap.setIfInBounds b o }
theorem map_push {P : Program} {w : World} {b : Nat} {m : List (K × Value)} (h : MapIs E w b m) {T kt et : TypeId} (hm : P.underlying T = some (.map kt et)) (hk : P.underlying kt = some kind) (k : K) (v : Value) (hno : m.find? (fun p => decide (p.1 = k)) = none) :
    ∃ o, (Instr.mapUpdate T (.map (some b)) (E.enc k) v).run P w = .ok () (setMap w b o) ∧ MapIs E (setMap w b o) b (m ++ [(k, v)]) := by
  obtain ⟨es, clock, hb, he⟩ := h
  have hf := findNow_pairs E k es.toList m 0 he
  rw [hno] at hf
  have hlt : b < w.heap.size := (Array.getElem?_eq_some_iff.1 hb).1
  refine ⟨.map (es.push { key := E.enc k, val := v, born := clock }) (clock + 1), ?_, es.push { key := E.enc k, val := v, born := clock }, clock + 1, ?_, ?_⟩
  · simp [Instr.mapUpdate, run_underlying hm, Go.MapKept.run_getObj_map hb, Go.MapKept.run_checkKey hk (E.key k), Go.MapKept.run_findKey hk hf, Go.MapKept.run_setObj_map _ hb, Result.andThen, setMap]
  · simp [setMap, hlt]
  · simp [he]

theorem map_erase {α β : Type} (f : α → β) : ∀ (l : List α) (i : Nat), (l.eraseIdx i).map f = (l.map f).eraseIdx i
  | [], _ => by simp
  | _ :: _, 0 => by simp
  | x :: l, i + 1 => by simp [map_erase f l i]
theorem erase_pairs (es : List MapEntry) (m : List (K × Value)) (h : es.map (fun e => (e.key, e.val)) = m.map (fun p => (E.enc p.1, p.2))) (i : Nat) :
    (es.eraseIdx i).map (fun e => (e.key, e.val)) = (m.eraseIdx i).map (fun p => (E.enc p.1, p.2)) := by
  rw [map_erase, map_erase, h]
theorem map_delete {P : Program} {w : World} {b : Nat} {m : List (K × Value)} (h : MapIs E w b m) {T kt et : TypeId} (hm : P.underlying T = some (.map kt et)) (hk : P.underlying kt = some kind) (k : K) (ty t2 : TypeId) :
    ∃ o, (Builtin.delete_ #[T, t2] ty #[.map (some b), E.enc k]).run P w = .ok (.tuple #[]) (setMap w b o) ∧ MapIs E (setMap w b o) b (if (m.find? (fun p => decide (p.1 = k))).isSome then m.eraseIdx (m.findIdx (fun p => decide (p.1 = k))) else m) := by
  obtain ⟨es, clock, hb, he⟩ := h
  have hf := findNow_pairs E k es.toList m 0 he
  have hlt : b < w.heap.size := (Array.getElem?_eq_some_iff.1 hb).1
  cases hq : m.find? (fun p => decide (p.1 = k)) with
  | none =>
    rw [hq] at hf
    refine ⟨.map es clock, ?_, es, clock, ?_, by simpa using he⟩
    · simp [Builtin.delete_, run_underlying hm, Go.MapKept.run_getObj_map hb, Go.MapKept.run_checkKey hk (E.key k), Go.MapKept.run_findKey hk hf, Go.MapKept.run_setObj_map _ hb, Result.andThen, setMap]
    · simp [setMap, hlt]
  | some q =>
    rw [hq] at hf
    refine ⟨.map (es.eraseIdxIfInBounds (m.findIdx (fun p => decide (p.1 = k)))) clock, ?_, es.eraseIdxIfInBounds (m.findIdx (fun p => decide (p.1 = k))), clock, ?_, ?_⟩
    · simp [Builtin.delete_, run_underlying hm, Go.MapKept.run_getObj_map hb, Go.MapKept.run_checkKey hk (E.key k), Go.MapKept.run_findKey hk hf, Go.MapKept.run_setObj_map _ hb, Result.andThen, setMap]
    · simp [setMap, hlt]
    · simp only [Option.isSome_some, if_true, Array.toList_eraseIdxIfInBounds]
      exact erase_pairs E _ _ he _
theorem map_len {P : Program} {w : World} {b : Nat} {m : List (K × Value)} (h : MapIs E w b m) {T kt et : TypeId} (hm : P.underlying T = some (.map kt et)) (ty : TypeId) :
    (Builtin.len_ #[T] ty #[.map (some b)]).run P w = .ok (.int .i64 m.length) w := by
  obtain ⟨es, clock, hb, he⟩ := h
  have hl : es.size = m.length := by have := congrArg List.length he; simpa using this
  simp [Builtin.len_, run_underlying hm, Go.MapKept.run_getObj_map hb, Result.andThen, goInt, hl]

theorem map_look1 {P : Program} {w : World} {b : Nat} {m : List (K × Value)} (h : MapIs E w b m) {T kt et : TypeId} (hm : P.underlying T = some (.map kt et)) (hk : P.underlying kt = some kind) {z : Value} (hz : ∀ w, (zeroValue et).run P w = .ok z w) (k : K) :
    (Instr.lookup T (.map (some b)) (E.enc k) false).run P w = .ok (((m.find? (fun p => decide (p.1 = k))).map (·.2)).getD z) w := by
  obtain ⟨es, clock, hb, he⟩ := h
  have hf := findNow_pairs E k es.toList m 0 he
  simp [Instr.lookup, run_underlying hm, Go.MapKept.run_getObj_map hb, Go.MapKept.run_checkKey hk (E.key k), Go.MapKept.run_findKey hk hf, Result.andThen]
  cases m.find? (fun p => decide (p.1 = k)) with
  | none => simp [hz, Result.andThen]
  | some q => simp
/-- What a map answers, as a function. -/
def MapF (w : World) (b : Nat) (f : K → Option Value) : Prop := ∃ m, MapIs E w b m ∧ ∀ k, (m.find? (fun p => decide (p.1 = k))).map (·.2) = f k
theorem mapF_look1 {P : Program} {w : World} {b : Nat} {f : K → Option Value} (h : MapF E w b f) {T kt et : TypeId} (hm : P.underlying T = some (.map kt et)) (hk : P.underlying kt = some kind) {z : Value} (hz : ∀ w, (zeroValue et).run P w = .ok z w) (k : K) :
    (Instr.lookup T (.map (some b)) (E.enc k) false).run P w = .ok ((f k).getD z) w := by
  obtain ⟨m, hM, hf⟩ := h
  rw [← hf k]
  exact map_look1 E hM hm hk hz k
theorem find_modify {l : List (K × Value)} {k : K} {v : Value} {q : K × Value} (h : l.find? (fun p => decide (p.1 = k)) = some q) (k' : K) :
    (((l.modify (l.findIdx (fun p => decide (p.1 = k))) fun p => (p.1, v)).find? (fun p => decide (p.1 = k'))).map (·.2)) = if k' = k then some v else (l.find? (fun p => decide (p.1 = k'))).map (·.2) := by
  induction l with
  | nil => simp at h
  | cons p l ih =>
    by_cases hp : p.1 = k
    · subst hp
      rw [List.findIdx_cons]
      simp only [decide_true, cond_true, List.modify_zero_cons, List.find?_cons]
      by_cases hk : k' = p.1
      · subst hk; simp
      · have : ¬ p.1 = k' := fun e => hk e.symm
        simp [hk, this]
    · have h' : l.find? (fun p => decide (p.1 = k)) = some q := by simpa [List.find?_cons, hp] using h
      rw [List.findIdx_cons]
      simp only [hp, decide_false, cond_false, List.modify_succ_cons, List.find?_cons]
      by_cases hk : p.1 = k'
      · subst hk
        simp [hp]
      · simp only [hk, decide_false]
        exact ih h'
theorem map_modify {α β : Type} (f : α → β) (g : α → α) (g' : β → β) (hg : ∀ x, f (g x) = g' (f x)) : ∀ (l : List α) (i : Nat), (l.modify i g).map f = (l.map f).modify i g'
  | [], i => by simp
  | x :: l, 0 => by simp [hg]
  | x :: l, i + 1 => by simp [map_modify f g g' hg l i]
theorem mapF_set {P : Program} {w : World} {b : Nat} {f : K → Option Value} (h : MapF E w b f) {T kt et : TypeId} (hm : P.underlying T = some (.map kt et)) (hk : P.underlying kt = some kind) (k : K) (v : Value) :
    ∃ o, (Instr.mapUpdate T (.map (some b)) (E.enc k) v).run P w = .ok () (setMap w b o) ∧ MapF E (setMap w b o) b (fun k' => if k' = k then some v else f k') := by
  obtain ⟨m, hM, hf⟩ := h
  cases hq : m.find? (fun p => decide (p.1 = k)) with
  | none =>
    obtain ⟨o, hrun, hM'⟩ := map_push E (P := P) hM hm hk k v hq
    refine ⟨o, hrun, _, hM', fun k' => ?_⟩
    rw [List.find?_append]
    show _ = if k' = k then some v else f k'
    by_cases e : k' = k
    · subst e; rw [hq]; simp
    · rw [if_neg e, ← hf k']
      have : ¬ k = k' := fun h => e h.symm
      cases m.find? (fun p => decide (p.1 = k')) <;> simp [this]
  | some q =>
    obtain ⟨es, clock, hb, he⟩ := hM
    have hfn := findNow_pairs E k es.toList m 0 he
    rw [hq] at hfn
    have hlt : b < w.heap.size := (Array.getElem?_eq_some_iff.1 hb).1
    have hidx : m.findIdx (fun p => decide (p.1 = k)) < m.length := List.findIdx_lt_length_of_exists (by
      have := List.find?_some hq
      exact ⟨q, List.mem_of_find?_eq_some hq, this⟩)
    have hlen : es.size = m.length := by have := congrArg List.length he; simpa using this
    have hek : (((es[m.findIdx (fun p => decide (p.1 = k))]?).map (·.key)).getD (E.enc k)) = E.enc k := by
      have h1 : es.toList[m.findIdx (fun p => decide (p.1 = k))]? = some es[m.findIdx (fun p => decide (p.1 = k))] := by
        rw [Array.getElem?_toList, Array.getElem?_eq_getElem (by omega)]
      have h2 := congrArg (fun l => l[m.findIdx (fun p => decide (p.1 = k))]?) he
      simp only [List.getElem?_map, h1, List.getElem?_eq_getElem hidx, Option.map_some, Option.some.injEq, Prod.mk.injEq] at h2
      have h3 := List.findIdx_getElem (w := hidx)
      simp only [decide_eq_true_eq] at h3
      rw [Array.getElem?_eq_getElem (by omega)]
      simp only [Option.map_some, Option.getD_some]
      rw [h2.1, h3]
    refine ⟨.map (es.modify (m.findIdx (fun p => decide (p.1 = k))) fun e => { e with key := E.enc k, val := v }) clock, ?_, m.modify (m.findIdx (fun p => decide (p.1 = k))) (fun p => (p.1, v)), ⟨es.modify (m.findIdx (fun p => decide (p.1 = k))) fun e => { e with key := E.enc k, val := v }, clock, ?_, ?_⟩, fun k' => ?_⟩
    · have hfn' : Instr.findNow kind (E.enc k) es.toList 0 = some (some (m.findIdx (fun p => decide (p.1 = k)), q.2)) := by simpa using hfn
      simp [Instr.mapUpdate, run_underlying hm, Go.MapKept.run_getObj_map hb, Go.MapKept.run_checkKey hk (E.key k), Go.MapKept.run_findKey hk hfn', hek, Go.MapKept.run_keyThatStays (E.key k), Go.MapKept.run_setObj_map _ hb, Result.andThen, setMap]
    · simp [setMap, hlt]
    · apply List.ext_getElem?
      intro j
      have h2 := congrArg (fun l => l[j]?) he
      simp only [List.getElem?_map] at h2 ⊢
      rw [Array.getElem?_toList, Array.getElem?_modify, List.getElem?_modify]
      rw [Array.getElem?_toList] at h2
      by_cases hj : m.findIdx (fun p => decide (p.1 = k)) = j
      · subst hj
        have h3 := List.findIdx_getElem (w := hidx)
        simp only [decide_eq_true_eq] at h3
        rw [if_pos rfl, List.getElem?_eq_getElem hidx, Array.getElem?_eq_getElem (by omega)]
        simp [h3]
      · rw [if_neg hj]
        simp only [hj, if_false]
        simpa using h2
    · show _ = if k' = k then some v else f k'
      rw [find_modify hq k', hf k']
end
end Go.Proofs.YtdjkheiakkhngaaGreatDoorKw
