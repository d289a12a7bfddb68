/- The abstract layer, part 10: the other operations; then all of them. -/
import Derived.Test.YtkndffhcncmbjaaA9
import Derived.Great.BuildSlice
import Derived.Laws.IdiomStrings
set_option linter.unusedVariables false
set_option linter.unusedSimpArgs false
namespace Go.Av
open Go Go.RowKit

section
variable {P : Program} {w0 : World} {σe : Vw} {we : World} {fz : Nat} {β : Nat → Nat} {st : St} {σ : Vw} {a : Act} {w : World} {esc : Nat → Bool} {gk : List (Nat × Bool)} {K : TV → Eff → Vw → Prop} {next : Act → World → Prop} {Q : Exit → Act → World → Prop} {o : Oper}

theorem length_replL (z : List Value) : ∀ n, (replL z n).length = n * z.length
  | 0 => by simp [replL]
  | n + 1 => by simp only [replL, List.length_append, length_replL z n, Nat.succ_mul]; omega

theorem replL_flat (z : List Value) : ∀ n, replL z n = (List.replicate n z).flatten
  | 0 => rfl
  | n + 1 => by simp [replL, replL_flat z n, List.replicate_succ]

theorem madeCells_get (z : Array Value) (n k j : Nat) (hz : z.size = k) (hj : j < n * k) : ((Array.range (n * k)).map (z[· % z.size]!))[j]? = z[j % k]? := by
  have hk : 0 < k := by rcases Nat.eq_zero_or_pos k with h | h; · subst h; omega
                        · exact h
  have hm : j % k < z.size := by rw [hz]; exact Nat.mod_lt _ hk
  simp [Array.getElem?_range, hj, hz, Array.getElem?_eq_getElem hm, getElem!_pos z (j % k) hm]

theorem replL_get (z : List Value) (k : Nat) (hz : z.length = k) (hk : 0 < k) : ∀ n j, j < n * k → (replL z n)[j]? = z[j % k]?
  | 0, j, h => by omega
  | n + 1, j, h => by
    simp only [replL]
    by_cases hj : j < k
    · rw [List.getElem?_append_left (by omega), Nat.mod_eq_of_lt hj]
    · have hj2 : j - k < n * k := by rw [Nat.succ_mul] at h; omega
      rw [List.getElem?_append_right (by omega), hz, replL_get z k hz hk n (j - k) hj2]
      congr 1
      exact (Nat.mod_eq_sub_mod (by omega)).symm

theorem made_repl (z : Value) (k n : Nat) (hz : (cellsL z).length = k) (hk : 0 < k) : (Array.range (n * k)).map (z.cells[· % z.cells.size]!) = (replL (cellsL z) n).toArray := by
  apply Array.ext_getElem?
  intro j
  have hzs : z.cells.size = k := by simpa [cellsL] using hz
  by_cases h : j < n * k
  · rw [madeCells_get z.cells n k j hzs h]
    have h2 := replL_get (cellsL z) k hz hk n j h
    rw [← Array.getElem?_toList, ← Array.getElem?_toList (xs := (replL (cellsL z) n).toArray)]
    exact h2.symm
  · rw [Array.getElem?_eq_none (by simp; omega), List.getElem?_toArray, List.getElem?_eq_none (by rw [length_replL, hz]; omega)]

theorem buildSlice_sound (hs : Sim w0 σe we fz β st σ a w) {T len : Nat} {parts : Array (Nat × Operand)} (hop : o.op = .buildSlice T len parts) (h : denOp P w0 (AC P w0) esc gk o.dst (.buildSlice T len parts) st σ K)
    (hn : ∀ x e σ' v w', K x e σ' → Out w0 σe we fz st a x e σ' v w' → next (a.put o.dst v) w') : o.wp P a w next Q := by
  simp only [denOp] at h
  split at h
  · rename_i e he
    have hu := elemOf_spec he
    split at h
    · rename_i z g n hz ht
      split at h
      · rename_i hb
        have hb := Nat.le_of_ble_eq_true hb
        obtain ⟨i, z', hi, hiz, hzc, hl, hrun⟩ := zeroOf_spec hz w
        obtain ⟨t1, t2, t3, t4⟩ := tyOf_spec ht w
        have hsz := tyOf_size ht hi
        obtain ⟨cs', hK, hl', hf⟩ := fill_sound hs (place' := fun i => some (i * (n + 1), n + 1)) (fun i off g' n' he => by
          cases he
          exact ⟨rfl, t4⟩) _ _ _ h
        obtain ⟨x, e', σ', hK', hout⟩ := mk_sound hs hK (fun β' k bx hb => ⟨hb, rfl⟩)
        refine wp_value ?_ (hn _ _ _ _ _ hK' hout)
        have hmade := made_repl z' (n + 1) len (by rw [hzc, hl, hsz]) (by omega)
        have hfl : Instr.fill (fun i => some (i * (n + 1), n + 1)) (replL z len).toArray (parts.map fun (i, x) => (i, a.eval x)).toList = some cs'.toArray := by
          rw [Array.toList_map]; exact hf
        have hsmall : ¬ len * (n + 1) > 2 ^ 24 := by omega
        rw [hzc] at hmade
        cases len with
        | zero =>
          simp only [Nat.zero_mul] at hmade
          have hrz : (replL z 0).toArray = #[] := rfl
          rw [hrz] at hfl
          have h00 : ¬ (0 > 2 ^ 24) := by omega
          have hfl' : Instr.fill (fun i => some (i * (n + 1), n + 1)) (Array.map (fun x => (#[] : Array Value)[x % (#[] : Array Value).size]!) (Array.range 0)) (parts.map fun (i, x) => (i, a.eval x)).toList = some cs'.toArray := by
            rw [Array.range_zero', Array.map_empty]; exact hfl
          simp only [execOp, hop, Instr.buildSlice, Sem.run_bind, run_underlying hu, Result.andThen_ok, t2, if_false, Nat.zero_mul, if_true, Sem.run_pure, h00, hfl', newRow, newObj, Sem.run]
          rfl
        | succ len =>
          have hpos : ¬ (len + 1) * (n + 1) = 0 := by simp
          simp only [execOp, hop, Instr.buildSlice, Sem.run_bind, run_underlying hu, Result.andThen_ok, t2, hsmall, if_false, hpos, hrun, Sem.run_pure, hmade, hfl, newRow, newObj, Sem.run]
          rfl
      · exact h.elim
    · exact h.elim
  · exact h.elim

theorem makeSlice_sound (hs : Sim w0 σe we fz β st σ a w) {T : Nat} {l c : Operand} (hop : o.op = .makeSlice T l c) (h : denOp P w0 (AC P w0) esc gk o.dst (.makeSlice T l c) st σ K)
    (hn : ∀ x e σ' v w', K x e σ' → Out w0 σe we fz st a x e σ' v w' → next (a.put o.dst v) w') : o.wp P a w next Q := by
  simp only [denOp] at h
  split at h
  · rename_i e lv cv he hlv hcv
    have hu := elemOf_spec he
    split at h
    · rename_i z g n hz ht
      obtain ⟨i, z', hi, hiz, hzc, hl, hrun⟩ := zeroOf_spec hz w
      have hsz := tyOf_size ht hi
      obtain ⟨k, m, rfl, rfl, h0, h63, hby, hK⟩ := h
      have hf := fresh hs.sat
      have hbytes : P.bytesOf e = i.bytes := by simp [Program.bytesOf, hi]
      have hr := run_make (P := P) w T e i z' hu hi hiz k k m m h0 (Int.le_refl _) (by rw [hbytes] at hby; omega) h63
      have hmade : madeCells z'.cells (m.toNat * i.size) = (replL (cellsL z') m.toNat).toArray := by
        rw [hsz]; exact made_repl z' (n + 1) m.toNat (by rw [hzc, hl, hsz]) (by omega)
      rw [hmade, hzc, replL_flat] at hr
      refine wp_value (w' := w.alloc (.cells (List.replicate m.toNat z).flatten.toArray e)) (v := .slice (some ⟨w.heap.size, 0, none⟩) m.toNat m.toNat) ?_ (hn _ _ _ _ _ (hK _ hf.1 hf.2) (hs.rows ?_ _))
      · simp only [execOp, hop, hs.toV hlv, hs.toV hcv, Sem.run_bind, hr, Result.andThen_ok, Sem.run_pure]
      · refine Aft.row hs.sat _ ⟨e, (List.replicate m.toNat z).flatten, m.toNat * (n + 1), (0, 0)⟩ (by simp) ?_ rfl
        rw [← replL_flat]
        simp only [List.size_toArray, length_replL]
        rw [hl, hsz]
    · exact h.elim
  · exact h.elim
end
end Go.Av
