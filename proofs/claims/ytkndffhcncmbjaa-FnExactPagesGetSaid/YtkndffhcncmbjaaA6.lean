/- The abstract layer, part 6: stores, make, literals: what they do. -/
import Derived.Test.YtkndffhcncmbjaaA5
set_option linter.unusedVariables false
set_option linter.unusedSimpArgs false
namespace Go.Av
open Go Go.RowKit

theorem length_setAt : ∀ (vs cs : List Value) (j : Nat), (setAt cs j vs).length = cs.length
  | [], _, _ => rfl
  | v :: r, cs, j => by rw [setAt, length_setAt r]; simp

theorem length_expl (f : Nat → Value) : ∀ n i, (expl f i n).length = n
  | 0, _ => rfl
  | n + 1, i => by simp [expl, length_expl f n]

theorem expl_get (f : Nat → Value) : ∀ n i j, j < n → (expl f i n)[j]? = some (f (i + j))
  | 0, _, _, h => by omega
  | n + 1, i, 0, _ => by simp [expl]
  | n + 1, i, j + 1, h => by
    simp only [expl, List.getElem?_cons_succ]
    rw [expl_get f n (i + 1) j (by omega)]
    congr 2
    omega

theorem expl_self (cs : List Value) : expl (fun i => cs.getD i undef) 0 cs.length = cs := by
  apply List.ext_getElem?
  intro j
  by_cases h : j < cs.length
  · rw [expl_get _ _ _ _ h, Nat.zero_add, List.getElem?_eq_getElem h, List.getD_eq_getElem?_getD, List.getElem?_eq_getElem h]; rfl
  · rw [List.getElem?_eq_none (by rw [length_expl]; omega), List.getElem?_eq_none (by omega)]

theorem spread_agg (cs : List Value) : spread cs.length (.agg ⟨cs⟩) = cs := expl_self cs

theorem okV_cells {g : Bool} {n : Nat} {v : Value} (h : okV g n v) (hn : g = false → n = 1) : cellsL v = cellsT g n v ∧ v.cells.size = n ∧ (∀ c, c ∈ cellsT g n v → c.oneCell' = true) := by
  cases g with
  | true =>
    obtain ⟨cs, rfl, rfl, h1⟩ := h
    refine ⟨?_, rfl, ?_⟩
    · show cs = _; rw [cellsT, spread_agg]
    · rw [cellsT, spread_agg]; exact h1
  | false =>
    obtain rfl := hn rfl
    simp only [okV] at h
    cases v <;> simp_all [cellsL, Value.cells, cellsT, Value.oneCell']

section
variable {P : Program} {w0 : World} {σ : Vw} {w : World}

theorem run_storeRow (g o : Nat) (t : TypeId) (fz : Nat × Nat) : ∀ (vs : List Value) (i : Nat) (cur : Array Value) (w : World), w.heap[g]? = some (.cells cur t fz) → o + i + vs.length ≤ cur.size → (cur.size ≤ fz.1 ∨ fz.2 ≤ fz.1) →
    (∀ v ∈ vs, v.oneCell' = true) → (storeCells ⟨g, o, none⟩ vs i).run P w = .ok () (w.setRow g (setAt cur.toList (o + i) vs).toArray)
  | [], i, cur, w, hg, _, _, _ => by
    simp only [storeCells, setAt, Array.toArray_toList]
    rw [setRow_self w g cur t fz hg]
    rfl
  | v :: rest, i, cur, w, hg, hl, hf, h1 => by
    simp only [List.length_cons] at hl
    have hcell : w.cell? ⟨g, o + i, none⟩ = some cur[o + i] := by
      unfold World.cell?
      rw [hg]
      simp
    have hfr : w.frozen? ⟨g, o + i, none⟩ = false := by
      unfold World.frozen?
      rw [hg]
      simp only [Bool.and_eq_false_iff, decide_eq_false_iff_not]
      omega
    have hv := h1 v List.mem_cons_self
    have hset : w.setCell ⟨g, o + i, none⟩ v = w.setRow g (cur.setIfInBounds (o + i) v) := by
      unfold World.setCell World.setRow
      congr 1
      apply Array.ext_getElem?
      intro k
      simp only [Array.getElem?_modify]
      by_cases e : g = k
      · subst e; simp [hg]
      · simp [e]
    have ih := run_storeRow g o t fz rest (i + 1) (cur.setIfInBounds (o + i) v) (w.setRow g (cur.setIfInBounds (o + i) v)) (setRow_heap w g cur _ t fz hg) (by simp; omega) (by simpa using hf) (fun u hu => h1 u (List.mem_cons_of_mem _ hu))
    have ha : (⟨g, o, none⟩ : Addr).add i = ⟨g, o + i, none⟩ := by unfold Addr.add; split <;> simp_all
    simp only [storeCells, Sem.run_bind, ha]
    rw [run_store P w _ v .plain hv]
    simp only [hcell, hfr, Bool.false_eq_true, if_false, Result.andThen_ok]
    rw [hset, ih, setRow_setRow]
    simp [setAt, Nat.add_assoc]

theorem Aft.set (hs : Sat w0 σ w) {b : Nat} {r : Row} (hb : σ b = some r) {off : Nat} {vs : List Value} (hl : off + vs.length ≤ r.cells.length) {T : Nat} {g : Bool} {n : Nat} {u : Value} (ht : tyOf P T = some (g, n)) (hu : okV g n u) (hvs : vs = cellsT g n u) :
    ∃ w', (storeVar T ⟨b, off, none⟩ u).run P w = .ok () w' ∧ Aft w0 σ w (σ.put b { r with cells := setAt r.cells off vs }) w' := by
  obtain ⟨h1, h2, _, h4⟩ := tyOf_spec ht w
  obtain ⟨p1, p2, p3⟩ := okV_cells hu h4
  subst hvs
  obtain ⟨hw0, cur, hcur, hpre, hcap, hfz⟩ := hs.row b r hb
  have hle : r.cells.length ≤ cur.size := by have := hpre.length_le; simpa using this
  have hst := run_storeRow (P := P) b off r.ety r.fz (cellsT g n u) 0 cur w hcur (by omega) hfz p3
  refine ⟨w.setRow b (setAt cur.toList off (cellsT g n u)).toArray, ?_, ?_⟩
  · simp only [storeVar, Sem.run_bind, h2, Result.andThen_ok, p2]
    rw [show u.cells.toList = cellsT g n u from p1]
    simp only [ne_eq, not_true_eq_false, if_false]
    simpa using hst
  · rw [Nat.add_zero] at *
    have hot : ∀ k, k ≠ b → (w.setRow b (setAt cur.toList off (cellsT g n u)).toArray).heap[k]? = w.heap[k]? := fun k hk => setRow_other w b k _ hk
    have hhp := setRow_heap w b cur (setAt cur.toList off (cellsT g n u)).toArray r.ety r.fz hcur
    refine ⟨⟨⟨hs.bel.os, hs.bel.tape, hs.bel.output, by simpa using hs.bel.size, fun k hk => ?_⟩, fun k r' hk => ?_⟩, by simp, fun k hk hn' => ?_, fun k r' hk => ?_⟩
    · rw [hot k (by omega)]; exact hs.bel.block k hk
    · by_cases ek : k = b
      · subst ek
        rw [put_eq] at hk
        cases hk
        refine ⟨hw0, _, hhp, ?_, by simp [length_setAt, hcap], by simpa [length_setAt] using hfz⟩
        obtain ⟨t, ht'⟩ := hpre
        refine ⟨t, ?_⟩
        simp only
        rw [← ht']
        have : ∀ (vs xs ys : List Value) (j : Nat), j + vs.length ≤ xs.length → setAt xs j vs ++ ys = setAt (xs ++ ys) j vs := by
          intro vs
          induction vs with
          | nil => intros; rfl
          | cons v rest ih =>
            intro xs ys j hj
            simp only [List.length_cons] at hj
            simp only [setAt]
            rw [ih _ _ _ (by simp; omega), List.set_append_left _ _ (by omega)]
        exact this _ _ _ _ hl
      · rw [put_ne ek] at hk
        obtain ⟨q1, cur', q2, q3⟩ := hs.row k r' hk
        exact ⟨q1, cur', (hot k ek).trans q2, q3⟩
    · rw [hot k (fun ek => by rw [ek, hb] at hn'; cases hn')]
    · by_cases ek : k = b
      · subst ek; exact .inl (by rw [hb]; simp)
      · rw [put_ne ek] at hk; exact .inl (by rw [hk]; simp)

/-- A row that was written. -/
theorem Aft.at (hs : Sat w0 σ w) {b : Nat} {r : Row} (hb : σ b = some r) {off : Nat} {vs : List Value} (hl : off + vs.length ≤ r.cells.length) {cur : Array Value} (hcur : w.heap[b]? = some (.cells cur r.ety r.fz)) :
    Aft w0 σ w (σ.put b { r with cells := setAt r.cells off vs }) (w.setRow b (setAt cur.toList off vs).toArray) := by
  obtain ⟨hw0, cur', hcur', hpre, hcap, hfz⟩ := hs.row b r hb
  rw [hcur] at hcur'
  cases hcur'
  have hot : ∀ k, k ≠ b → (w.setRow b (setAt cur.toList off vs).toArray).heap[k]? = w.heap[k]? := fun k hk => setRow_other w b k _ hk
  have hhp := setRow_heap w b cur (setAt cur.toList off vs).toArray r.ety r.fz hcur
  refine ⟨⟨⟨hs.bel.os, hs.bel.tape, hs.bel.output, by simpa using hs.bel.size, fun k hk => ?_⟩, fun k r' hk => ?_⟩, by simp, fun k hk hn' => ?_, fun k r' hk => ?_⟩
  · rw [hot k (by omega)]; exact hs.bel.block k hk
  · by_cases ek : k = b
    · subst ek
      rw [put_eq] at hk
      cases hk
      refine ⟨hw0, _, hhp, ?_, by simp [length_setAt, hcap], by simpa [length_setAt] using hfz⟩
      obtain ⟨t, ht'⟩ := hpre
      refine ⟨t, ?_⟩
      simp only
      rw [← ht']
      have : ∀ (vs xs ys : List Value) (j : Nat), j + vs.length ≤ xs.length → setAt xs j vs ++ ys = setAt (xs ++ ys) j vs := by
        intro vs
        induction vs with
        | nil => intros; rfl
        | cons v rest ih =>
          intro xs ys j hj
          simp only [List.length_cons] at hj
          simp only [setAt]
          rw [ih _ _ _ (by simp; omega), List.set_append_left _ _ (by omega)]
      exact this _ _ _ _ hl
    · rw [put_ne ek] at hk
      obtain ⟨q1, cur', q2, q3⟩ := hs.row k r' hk
      exact ⟨q1, cur', (hot k ek).trans q2, q3⟩
  · rw [hot k (fun ek => by rw [ek, hb] at hn'; cases hn')]
  · by_cases ek : k = b
    · subst ek; exact .inl (by rw [hb]; simp)
    · rw [put_ne ek] at hk; exact .inl (by rw [hk]; simp)
end
end Go.Av
