/- append onto an owned row: what stays in its block keeps its capacity. -/
import Derived.Test.YtnhnckhjcnjacaaKwAp
import Derived.Maps.AppendAt
import Derived.Test.YtnhnckhjcnjacaaKw
namespace Go.Proofs.YtnhnckhjcnjacaaKw.Ap
open Go.RowKit Go.Proofs.YtnhnckhjcnjacaaKw
set_option linter.unusedVariables false
set_option linter.unusedSimpArgs false

/-- Where the grown row lies. -/
def Grew (W : World) (v : Value) (n m : Nat) (v1 : Value) (w1 : World) : Prop :=
  (∃ g cap, v = .slice (some ⟨g, 0, none⟩) n cap ∧ v1 = .slice (some ⟨g, 0, none⟩) (n + m) cap ∧ W.grownBy w1 (some g)) ∨ (∃ b, W.heap.size ≤ b ∧ v1.ownBlock = some b ∧ W.grownBy w1 none)

section
variable {P : Program}
theorem run_cap (w : World) (t ty e : TypeId) (i : TypeInfo) (z : Value) (bytes : Nat) (ht : P.underlying t = some (.slice e)) (hi : P.info? e = some i) (hz : i.zero = some z)
    (hsize : i.size = 1) (hby : i.bytes = bytes) (hzs : z.cells.size = 1)
    (v : Value) (n : Nat) (xs : List Value) (hown : w.ownsRow 0 e 1 v n xs)
    (a : Addr) (m c : Nat) (news : List Value) (hl : news.length = m) (hnews : ∀ j u, news[j]? = some u → w.cell? (a.add j) = some u) (h1 : ∀ u ∈ news, u.oneCell' = true)
    (hm : 0 < m) (h63 : n + m ≤ maxLen) (hbytes : (n + m) * bytes ≤ 140737488355328) :
    ∃ v' w', (Builtin.append_ #[t, t] ty #[v, .slice (some a) m c]).run P w = .ok v' w' ∧ w'.ownsRow 0 e 1 v' (n + m) (xs ++ news) ∧ Grew w v n m v' w' := by
  obtain ⟨v', w', hr', ho, hg, _, _⟩ := run_append_own_at (P := P) w 0 t ty e i z 1 bytes ht hi hz hsize hby hzs (by omega) v n xs hown a m c news (by rw [hl]; omega) hnews h1 h63 hbytes (Nat.zero_le _)
  refine ⟨v', w', hr', ho, ?_⟩
  have h6 : n + m ≤ 9223372036854775807 := by simp only [maxLen] at h63; omega
  rcases hown.2 with ⟨rfl, rfl⟩ | ⟨g, cap, cur, rfl, _, hgc, hnc, hcm, hcs, htake⟩
  · have hr := run_append_nil (P := P) w t ty e i z ht hi hz a m c news (by rw [hsize, hl]; omega) hnews hm (by omega) (by rw [hby]; simp only [Nat.zero_add] at hbytes; omega)
    rw [hr] at hr'
    cases hr'
    exact .inr ⟨_, Nat.le_refl _, rfl, rfl, rfl, rfl, by simp, fun k hk _ => heap_alloc_old w.drew _ hk⟩
  · by_cases hroom : n + m ≤ cap
    · have hr := run_append_room (P := P) w t ty e i ht hi g n cap cur hgc a m c news (by rw [hsize, hl]; omega) hnews h1 hroom (by rw [hsize]; omega)
      rw [hr] at hr'
      cases hr'
      exact .inl ⟨g, cap, rfl, rfl, hg⟩
    · have hr := run_append_grow (P := P) w t ty e i z ht hi hz ⟨g, 0, none⟩ n cap xs (by rw [hsize]; exact hown.1) (hown.cells (g := g) rfl) a m c news (by rw [hsize, hl]; omega) hnews (by omega) (by omega) (growslice_fits (by omega) (by rw [hby]; exact hbytes))
      rw [hr] at hr'
      cases hr'
      exact .inr ⟨_, Nat.le_refl _, rfl, rfl, rfl, rfl, by simp, fun k hk _ => heap_alloc_old w.drew _ hk⟩

variable {ops : Array Oper} {rest : List Oper} {o : Oper} {a : Act} {Q : Exit → Act → World → Prop}
theorem app_cap {W : World} {v : Value} {n : Nat} {e : TypeId} {xs : List Value} (HO : W.ownsRow 0 e 1 v n xs) (s x : Operand) (ad : Addr) (m c : Nat) (ys : List Value) (t : TypeId) (z : Value) (bytes : Nat)
    (ht : P.underlying t = some (.slice e)) (hinfo : (P.info? e).map (fun i => (i.zero, i.size, i.bytes)) = some (some z, 1, bytes)) (hl : (n + m) * bytes ≤ 140737488355328) (hb0 : 0 < bytes)
    (hgd : o.guard = none) (ho : o.op = .call { callee := .builtin .append, args := #[s, x], argTypes := #[t, t] }) (hz : z.cells.size = 1)
    (hs : a.eval s = v) (hx : a.eval x = .slice (some ad) m c) (hys : ys.length = m) (hcells : ∀ j u, ys[j]? = some u → W.cell? (ad.add j) = some u) (h1 : ∀ u ∈ ys, u.oneCell' = true) (hm : 0 < m)
    (h : ∀ v1 w1, w1.ownsRow 0 e 1 v1 (n + m) (xs ++ ys) → Grew W v n m v1 w1 → wpList P ops Q rest (a.put o.dst v1) w1) :
    wpList P ops Q (o :: rest) a W := by
  obtain ⟨i0, hi, hzz⟩ := Option.map_eq_some_iff.1 hinfo
  simp only [Prod.mk.injEq] at hzz
  obtain ⟨hz0, hz1, hz2⟩ := hzz
  have hlen : n + m ≤ 140737488355328 := Nat.le_trans (Nat.le_mul_of_pos_right _ hb0) hl
  refine wpList_plain hgd fun K hK => ?_
  obtain ⟨v', w', hr, h2, h3⟩ := run_cap (P := P) W t o.type e i0 z bytes ht hi hz0 hz1 hz2 hz v n xs HO ad m c ys hys hcells h1 hm (by simp only [maxLen]; omega) hl
  unfold Oper.wp execOp
  simp only [ho, resolve, invoke, builtin, Sem.run_bind, Sem.run_pure, Result.andThen_ok, List.map_toArray, List.map_cons, List.map_nil, hs, hx, hr]
  exact hK _ _ (h v' w' h2 h3)
/-- append(v, y): y lies in a block of its own that was just made. -/
theorem app_one {W : World} {v : Value} {n : Nat} {e : TypeId} {xs : List Value} (HO : W.ownsRow 0 e 1 v n xs) (s x : Operand) (y : Value) (t : TypeId) (z : Value) (bytes : Nat)
    (ht : P.underlying t = some (.slice e)) (hinfo : (P.info? e).map (fun i => (i.zero, i.size, i.bytes)) = some (some z, 1, bytes)) (hl : (n + 1) * bytes ≤ 140737488355328) (hb0 : 0 < bytes)
    (hgd : o.guard = none) (ho : o.op = .call { callee := .builtin .append, args := #[s, x], argTypes := #[t, t] }) (hz : z.cells.size = 1)
    (hs : a.eval s = v) (hx : a.eval x = .slice (some ⟨W.heap.size, 0, none⟩) 1 1) (h1 : y.oneCell' = true)
    (h : ∀ v1 w1, w1.ownsRow 0 e 1 v1 (n + 1) (xs ++ [y]) → Grew W v n 1 v1 w1 → wpList P ops Q rest (a.put o.dst v1) w1) :
    wpList P ops Q (o :: rest) a (W.alloc (.cells [y].toArray e)) := by
  refine app_cap (HO.alloc _) s x ⟨W.heap.size, 0, none⟩ 1 1 [y] t z bytes ht hinfo hl hb0 hgd ho hz hs hx rfl ?_ (by simpa using h1) (by omega) ?_
  · have := World.news_of_block (cs := [y].toArray) (t := e) (fr := (0, 0)) (heap_alloc_new W _)
    simpa using this
  · intro v1 w1 hown hst
    refine h v1 w1 hown ?_
    rcases hst with ⟨g, cap, h1, h2, h3⟩ | ⟨b, h1, h2, h3⟩
    · exact .inl ⟨g, cap, h1, h2, World.grownBy.trans (World.grownBy_alloc W _ _) h3⟩
    · exact .inr ⟨b, by simp at h1; omega, h2, World.grownBy.trans (World.grownBy_alloc W _ _) h3⟩
end

section
variable {w wr w1 : World} {e e2 : TypeId} {vs gl : List Value} {L : Nat → Nat} {v5 g v1 : Value} {k n : Nat}
theorem grown_tch {row : Option Nat} (h : w.grownBy w1 row) : Tch (fun q => some q = row) w w1 := ⟨h.os, h.tape, h.output, h.size, fun q hq hn => h.block q hq hn⟩
theorem same_cap {b n1 n2 c1 c2 : Nat} {xs1 xs2 : List Value} (h1 : w.ownsRow 0 e 1 (.slice (some ⟨b, 0, none⟩) n1 c1) n1 xs1) (h2 : w.ownsRow 0 e 1 (.slice (some ⟨b, 0, none⟩) n2 c2) n2 xs2) : c1 = c2 := by
  rcases h1.2 with ⟨hv, _⟩ | ⟨g', cap, cur, hv, _, hg, _, _, hc, _⟩
  · cases hv
  rcases h2.2 with ⟨hv', _⟩ | ⟨g'', cap', cur', hv', _, hg', _, _, hc', _⟩
  · cases hv'
  cases hv; cases hv'
  rw [hg] at hg'
  cases hg'
  omega
theorem Rws.full (h : Rws w 0 e vs L L) {v : Value} (hv : vs[k]? = some v) : w.ownsRow 0 e 1 v (L k) (mks k (L k)) := by
  obtain ⟨xs, ho, hm⟩ := h k v hv
  have : xs = mks k (L k) := by
    refine List.ext_getElem? fun i => ?_
    have hl := ho.1
    by_cases hi : i < L k
    · rw [hm i hi hi, mks_at k _ i hi]
    · rw [List.getElem?_eq_none (by omega), List.getElem?_eq_none (by rw [mks_len]; omega)]
  rw [← this]
  exact ho

/-- The rows and those that have grown. -/
structure GS (w wr : World) (e e2 : TypeId) (vs : List Value) (L F : Nat → Nat) (v5 : Value) (gl : List Value) : Prop where
  tch : Tch (Bl vs) w wr
  rows : Rws wr 0 e vs L L
  grows : Rws wr 0 e gl (fun j => L j + 64) F
  sgg : Sep gl gl
  svg : Sep vs gl
  own : wr.ownsRow 0 e2 1 v5 gl.length gl
  new : ∀ q, v5.ownBlock = some q → w.heap.size ≤ q
/-- A row as it grows. -/
structure GI (w wr : World) (e : TypeId) (vs gl : List Value) (L : Nat → Nat) (k : Nat) (g : Value) (n : Nat) : Prop where
  gr : wr.ownsRow 0 e 1 g (L k + n) (mks k (L k + n))
  gB : ∀ q, g.ownBlock = some q → Bl vs q ∨ w.heap.size ≤ q
  gS : ∀ (j : Nat) (v : Value), vs[j]? = some v → j ≠ k → ∀ q, v.ownBlock = some q → g.ownBlock ≠ some q
  gg : ∀ (j : Nat) (u : Value), gl[j]? = some u → ∀ q, u.ownBlock = some q → g.ownBlock ≠ some q
theorem GS.start {F : Nat → Nat} (h : GS w wr e e2 vs L F v5 gl) (hs : Sep vs vs) (hk : gl.length = k) {v : Value} (hv : vs[k]? = some v) : GI w wr e vs gl L k v 0 := by
  refine ⟨h.rows.full hv, fun q hq => .inl ⟨k, v, hv, hq⟩, fun j u hj hjk q hq hq' => hs j k u v hj hv hjk q hq hq', fun j u hj q hq hq' => ?_⟩
  have hjl := (List.getElem?_eq_some_iff.1 hj).1
  exact h.svg k j v u hv hj (by omega) q hq' hq
/-- What a grown row's write does to the rest. -/
theorem GS.step {F : Nat → Nat} (h : GS w wr e e2 vs L F v5 gl) (hI : GI w wr e vs gl L k g n) (hne : e ≠ e2) {m : Nat} {ys : List Value} (hvk : k < vs.length)
    (ho : w1.ownsRow 0 e 1 v1 (L k + n + m) (mks k (L k + n) ++ ys)) (hg : Grew wr g (L k + n) m v1 w1) : GS w w1 e e2 vs L F v5 gl := by
  have hrl := h.rows.lt
  obtain ⟨vk, hv⟩ : ∃ v, vs[k]? = some v := ⟨_, List.getElem?_eq_getElem hvk⟩
  rcases hg with ⟨b, cap, rfl, rfl, hgr⟩ | ⟨b, hb, h1, hgr⟩
  · have ht := grown_tch hgr
    refine ⟨⟨ht.os.trans h.tch.os, ht.tape.trans h.tch.tape, ht.output.trans h.tch.output, Nat.le_trans h.tch.size ht.size, fun q hq hn => ?_⟩, fun j v hj => ?_, ?_, h.sgg, h.svg, own_tchS h.own ht (fun q hq e => ?_), h.new⟩
    · rw [ht.block q (Nat.lt_of_lt_of_le hq h.tch.size) (fun e => ?_)]
      · exact h.tch.block q hq hn
      · cases e
        rcases hI.gB _ rfl with hq' | hq'
        · exact hn hq'
        · exact absurd hq (Nat.not_lt.2 hq')
    · by_cases hjk : j = k
      · subst hjk
        rw [hv] at hj
        cases hj
        by_cases hsame : vk.ownBlock = some b
        · have hvo := h.rows.full hv
          refine ⟨_, ?_, fun i hi hi2 => mks_at j _ i hi2⟩
          rcases hvo.2 with ⟨rfl, _⟩ | ⟨g', c', cur, rfl, _⟩
          · simp [Value.ownBlock] at hsame
          · simp [Value.ownBlock] at hsame
            subst hsame
            have hcc := same_cap hvo hI.gr
            subst hcc
            have := own_prefix ho (m := L j) (by omega)
            have e1 : (mks j (L j + n) ++ ys).take (L j) = mks j (L j) := by
              rw [List.take_append_of_le_length (by rw [mks_len]; omega)]
              simp only [mks, ← List.map_take, List.take_range, Nat.min_eq_left (Nat.le_add_right (L j) n)]
            rw [e1] at this
            exact this
        · obtain ⟨xs, hxo, hxm⟩ := h.rows j vk hv
          exact ⟨xs, own_tchS hxo ht (fun q hq e => hsame (by rw [hq, e])), hxm⟩
      · obtain ⟨xs, hxo, hxm⟩ := h.rows j v hj
        exact ⟨xs, own_tchS hxo ht (fun q hq e => hI.gS j v hj hjk q hq (by rw [e]; rfl)), hxm⟩
    · refine h.grows.tch ht ?_
      rintro q ⟨j, u, hu, hq⟩ e
      exact hI.gg j u hu q hq (by rw [e]; rfl)
    · exact own_type hI.gr h.own hne (g := q) (by rw [e]; rfl) hq
  · have ht := grown_tch hgr
    have hno : ∀ q : Nat, ¬ some q = (none : Option Nat) := fun q e => by cases e
    refine ⟨⟨ht.os.trans h.tch.os, ht.tape.trans h.tch.tape, ht.output.trans h.tch.output, Nat.le_trans h.tch.size ht.size, fun q hq hn => ?_⟩, h.rows.tch ht (fun q _ => hno q), h.grows.tch ht (fun q _ => hno q), h.sgg, h.svg, own_tchS h.own ht (fun q _ => hno q), h.new⟩
    rw [ht.block q (Nat.lt_of_lt_of_le hq h.tch.size) (hno q)]
    exact h.tch.block q hq hn
theorem GI.step {F : Nat → Nat} (h : GS w wr e e2 vs L F v5 gl) (hI : GI w wr e vs gl L k g n)
    (ho : w1.ownsRow 0 e 1 v1 (L k + n + 1) (mks k (L k + n) ++ [mkV k (L k + n)])) (hg : Grew wr g (L k + n) 1 v1 w1) : GI w w1 e vs gl L k v1 (n + 1) := by
  have hrl := h.rows.lt
  have hgl := h.grows.lt
  have hsz := h.tch.size
  rw [← mks_succ] at ho
  rcases hg with ⟨b, cap, rfl, rfl, hgr⟩ | ⟨b, hb, h1, hgr⟩
  · exact ⟨ho, hI.gB, hI.gS, hI.gg⟩
  · refine ⟨ho, fun q hq => ?_, fun j v hj hjk q hq hq' => ?_, fun j u hj q hq hq' => ?_⟩
    · rw [h1] at hq
      cases hq
      right
      omega
    · rw [h1] at hq'
      cases hq'
      have := (hrl b ⟨j, v, hj, hq⟩).2
      omega
    · rw [h1] at hq'
      cases hq'
      have := (hgl b ⟨j, u, hj, hq⟩).2
      omega
/-- A grown row laid to the others. -/
theorem GS.lay (h : GS w wr e e2 vs L (fun j => L j + 64) v5 gl) (hI : GI w wr e vs gl L k g 64) (hne : e ≠ e2) (hk : gl.length = k)
    (ho : w1.ownsRow 0 e2 1 v1 (gl.length + 1) (gl ++ [g])) (hg : Grew wr v5 gl.length 1 v1 w1) : GS w w1 e e2 vs L (fun j => L j + 64) v1 (gl ++ [g]) := by
  have hsz := h.tch.size
  have key : ∃ S : Nat → Prop, Tch S wr w1 ∧ (∀ q, S q → v5.ownBlock = some q) := by
    rcases hg with ⟨b, cap, rfl, rfl, hgr⟩ | ⟨b, hb, h1, hgr⟩
    · exact ⟨_, grown_tch hgr, fun q hq => hq ▸ rfl⟩
    · exact ⟨_, grown_tch hgr, fun q hq => by cases hq⟩
  obtain ⟨S, ht, hS⟩ := key
  have hno : ∀ {v : Value} {n : Nat} {xs : List Value}, wr.ownsRow 0 e 1 v n xs → w1.ownsRow 0 e 1 v n xs := fun ho' => own_tchS ho' ht (fun q hq hs => own_type ho' h.own hne hq (hS q hs))
  have hat : ∀ (j : Nat) (u : Value), (gl ++ [g])[j]? = some u → (gl[j]? = some u ∧ j ≠ k) ∨ (j = k ∧ u = g) := by
    intro j u hj
    by_cases hlt : j < gl.length
    · rw [List.getElem?_append_left hlt] at hj
      exact .inl ⟨hj, by omega⟩
    · rw [List.getElem?_append_right (by omega)] at hj
      have h0 : j - gl.length = 0 := by
        have := (List.getElem?_eq_some_iff.1 hj).1
        simp at this
        omega
      rw [h0] at hj
      simp at hj
      exact .inr ⟨by omega, hj.symm⟩
  refine ⟨⟨ht.os.trans h.tch.os, ht.tape.trans h.tch.tape, ht.output.trans h.tch.output, Nat.le_trans hsz ht.size, fun q hq hn => ?_⟩, fun j v hj => ?_, fun j u hj => ?_, fun i j u v hi hj hij q hq hq' => ?_, fun i j u v hi hj hij q hq hq' => ?_, by rw [List.length_append]; exact ho, fun q hq => ?_⟩
  · rw [ht.block q (Nat.lt_of_lt_of_le hq hsz) (fun hs => ?_)]
    · exact h.tch.block q hq hn
    · have := h.new q (hS q hs)
      omega
  · obtain ⟨xs, hxo, hxm⟩ := h.rows j v hj
    exact ⟨xs, hno hxo, hxm⟩
  · rcases hat j u hj with ⟨hj', _⟩ | ⟨rfl, rfl⟩
    · obtain ⟨xs, hxo, hxm⟩ := h.grows j u hj'
      exact ⟨xs, hno hxo, hxm⟩
    · exact ⟨_, hno hI.gr, fun i hi hi2 => mks_at j _ i hi2⟩
  · rcases hat i u hi with ⟨hi', hik⟩ | ⟨rfl, rfl⟩
    · rcases hat j v hj with ⟨hj', hjk⟩ | ⟨rfl, rfl⟩
      · exact h.sgg i j u v hi' hj' hij q hq hq'
      · exact hI.gg i u hi' q hq hq'
    · rcases hat j v hj with ⟨hj', hjk⟩ | ⟨rfl, rfl⟩
      · exact hI.gg j v hj' q hq' hq
      · exact hij rfl
  · rcases hat j v hj with ⟨hj', hjk⟩ | ⟨rfl, rfl⟩
    · exact h.svg i j u v hi hj' hij q hq hq'
    · exact hI.gS i u hi hij q hq hq'
  · rcases hg with ⟨b, cap, rfl, rfl, hgr⟩ | ⟨b, hb, h1, hgr⟩
    · exact h.new q hq
    · rw [h1] at hq
      cases hq
      omega
end
theorem Rws.keep {w w1 : World} {base : Nat} {e : TypeId} {vs : List Value} {L c : Nat → Nat} (h : Rws w base e vs L c) (hb : Below w.heap.size w w1) : Rws w1 base e vs L c := by
  intro k v hv
  obtain ⟨xs, ho, hm⟩ := h k v hv
  exact ⟨xs, own_keep ho hb, hm⟩
theorem GS.keep {w wr w1 : World} {e e2 : TypeId} {vs gl : List Value} {L F : Nat → Nat} {v5 : Value} (h : GS w wr e e2 vs L F v5 gl) (hb : Below wr.heap.size wr w1) : GS w w1 e e2 vs L F v5 gl :=
  ⟨⟨hb.os.trans h.tch.os, hb.tape.trans h.tch.tape, hb.output.trans h.tch.output, Nat.le_trans h.tch.size hb.size, fun q hq hn => (hb.block q (Nat.lt_of_lt_of_le hq h.tch.size)).trans (h.tch.block q hq hn)⟩, h.rows.keep hb, h.grows.keep hb, h.sgg, h.svg, own_keep h.own hb, h.new⟩
end Go.Proofs.YtnhnckhjcnjacaaKw.Ap
