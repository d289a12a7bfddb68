/- The abstract layer, part 9: an operation does what 'denOp' says. -/
import Derived.Test.YtkndffhcncmbjaaA8
set_option linter.unusedVariables false
set_option linter.unusedSimpArgs false
namespace Go.Av
open Go Go.RowKit

section
variable {P : Program} {w0 : World} {σe : Vw} {we : World} {fz : Nat} {β : Nat → Nat} {st : St} {σ : Vw} {a : Act} {w : World} {esc : Nat → Bool} {gk : List (Nat × Bool)} {K : TV → Eff → Vw → Prop} {next : Act → World → Prop} {Q : Exit → Act → World → Prop} {o : Oper}

theorem load_sound (hs : Sim w0 σe we fz β st σ a w) {T : Nat} {x : Operand} (hop : o.op = .load T x) (h : denOp P w0 (AC P w0) esc gk o.dst (.load T x) st σ K)
    (hn : ∀ x e σ' v w', K x e σ' → Out w0 σe we fz st a x e σ' v w' → next (a.put o.dst v) w') : o.wp P a w next Q := by
  simp only [denOp] at h
  split at h
  · rename_i g n ht
    have hx := hs.ev x
    split at h
    · rename_i k j hk
      rw [hk] at hx
      obtain ⟨_, hx⟩ := hx
      split at h
      · rename_i cs hcs
        split at h
        · rename_i hb
          have hb := Nat.le_of_ble_eq_true hb
          obtain ⟨T', cur, hcur, rfl⟩ := (hs.box k _ hcs).cells
          refine wp_value (w' := w) (v := mkVal g (expl (fun i => cur.toList.getD i undef) j n)) ?_ (hn _ _ _ _ _ h (hs.same rfl))
          have hl := run_loadVar ht w ⟨β k, j, none⟩ (fun i => cur.toList.getD (j + i) undef) (fun i hi => by
            rw [show (⟨β k, j, none⟩ : Addr).add i = ⟨β k, j + i, none⟩ by unfold Addr.add; split <;> simp_all]
            unfold World.cell?
            rw [hcur]
            have : j + i < cur.size := by have := hb; simp at this; omega
            simp [this])
          have he : ∀ m i, expl (fun i => cur.toList.getD (j + i) undef) i m = expl (fun i => cur.toList.getD i undef) (j + i) m := by
            intro m
            induction m with
            | zero => intro i; rfl
            | succ m ih => intro i; simp only [expl]; rw [ih (i + 1)]; rfl
          rw [he n 0, Nat.add_zero] at hl
          simp only [execOp, hop, hx, Instr.loadAt, Instr.sureAddr, Sem.run_bind, Sem.run_pure, Result.andThen_ok, hl]
        · exact h.elim
      · exact h.elim
    · rename_i v hv
      rw [hv] at hx
      obtain ⟨ad, c, rfl, hc, hK⟩ := h
      refine wp_value (w' := w) (v := mkVal g (expl c 0 n)) ?_ (hn _ _ _ _ _ hK (hs.same rfl))
      have hl := run_loadVar ht w ad c (fun i hi => hs.sat.get (hc i hi))
      have hx' : a.eval x = .pointer (some ad) := hx
      simp only [execOp, hop, hx', Instr.loadAt, Instr.sureAddr, Sem.run_bind, Sem.run_pure, Result.andThen_ok, hl]
    · exact h.elim
  · exact h.elim

theorem store_sound (hs : Sim w0 σe we fz β st σ a w) {T : Nat} {x y : Operand} (hop : o.op = .store T x y) (h : denOp P w0 (AC P w0) esc gk o.dst (.store T x y) st σ K)
    (hn : ∀ x e σ' v w', K x e σ' → Out w0 σe we fz st a x e σ' v w' → next (a.put o.dst v) w') : o.wp P a w next Q := by
  simp only [denOp] at h
  split at h
  · rename_i g n u ht hu
    obtain ⟨hok, h⟩ := h
    have hy := hs.toV hu
    have hx := hs.ev x
    obtain ⟨t1, t2, _, t4⟩ := tyOf_spec ht w
    obtain ⟨p1, p2, p3⟩ := okV_cells hok t4
    split at h
    · rename_i k j hk
      rw [hk] at hx
      obtain ⟨_, hx⟩ := hx
      split at h
      · rename_i old hold
        split at h
        · rename_i hb
          have hb := Nat.le_of_ble_eq_true hb
          obtain ⟨T', cur, hcur, rfl⟩ := (hs.box k _ hold).cells
          have hlen : (cellsT g n u).length = n := by rw [← p1]; exact p2
          have hst := run_storeRow (P := P) (β k) j T' (0, 0) (cellsT g n u) 0 cur w hcur (by simp at hb; omega) (.inr (Nat.le_refl _)) p3
          rw [Nat.add_zero] at hst
          have hrun : (storeVar T ⟨β k, j, none⟩ u).run P w = .ok () (w.setRow (β k) (setAt cur.toList j (cellsT g n u)).toArray) := by
            simp only [storeVar, Sem.run_bind, t2, Result.andThen_ok, p2]
            rw [show u.cells.toList = cellsT g n u from p1]
            simp only [ne_eq, not_true_eq_false, if_false]
            exact hst
          refine wp_skipped (w' := w.setRow (β k) (setAt cur.toList j (cellsT g n u)).toArray) ?_ (hn _ _ _ _ _ h ⟨β, ?_, rfl⟩)
          · simp only [execOp, hop, hx, hy, Instr.storeAt, Instr.sureAddr, Sem.run_bind, Sem.run_pure, Result.andThen_ok, hrun]
          · exact hs.setBox hold (by simp) rfl rfl rfl (fun b hb' => setRow_other w _ b _ hb') ⟨T', _, setRow_heap w _ cur _ T' (0, 0) hcur, by simp⟩
        · exact h.elim
      · exact h.elim
    · rename_i v hv
      rw [hv] at hx
      obtain ⟨b, off, r, rfl, hr, hl, hK⟩ := h
      obtain ⟨w', hrun, haft⟩ := Aft.set hs.sat hr hl ht hok rfl
      have hx' : a.eval x = .pointer (some ⟨b, off, none⟩) := hx
      refine wp_skipped (w' := w') ?_ (hn _ _ _ _ _ hK (hs.rows haft _))
      simp only [execOp, hop, hx', hy, Instr.storeAt, Instr.sureAddr, Sem.run_bind, Sem.run_pure, Result.andThen_ok, hrun]
    · exact h.elim
  · exact h.elim

theorem alloc_sound (hs : Sim w0 σe we fz β st σ a w) {T : Nat} (hop : o.op = .alloc T) (h : denOp P w0 (AC P w0) esc gk o.dst (.alloc T) st σ K)
    (hn : ∀ x e σ' v w', K x e σ' → Out w0 σe we fz st a x e σ' v w' → next (a.put o.dst v) w') : o.wp P a w next Q := by
  simp only [denOp] at h
  split at h
  · rename_i cs hz
    obtain ⟨i, z, hi, hiz, hzc, hl, hrun⟩ := zeroOf_spec hz w
    obtain ⟨x, e, σ', hK, hout⟩ := mk_sound hs h (fun β' k bx hb => ⟨hb, rfl⟩)
    refine wp_value ?_ (hn _ _ _ _ _ hK hout)
    subst hzc
    simp [execOp, hop, Instr.alloc, hrun, newVar, newRow, newObj, Sem.run, cellsL]
  · exact h.elim

theorem box_sound (hs : Sim w0 σe we fz β st σ a w) {T : Nat} {x : Operand} (hop : o.op = .box T x) (h : denOp P w0 (AC P w0) esc gk o.dst (.box T x) st σ K)
    (hn : ∀ x e σ' v w', K x e σ' → Out w0 σe we fz st a x e σ' v w' → next (a.put o.dst v) w') : o.wp P a w next Q := by
  simp only [denOp] at h
  split at h
  · rename_i v g n hv ht
    obtain ⟨hok, h⟩ := h
    obtain ⟨p1, p2, p3⟩ := okV_cells hok (tyOf_spec ht w).2.2.2
    obtain ⟨x', e, σ', hK, hout⟩ := mk_sound hs h (fun β' k bx hb => ⟨hb, rfl⟩)
    refine wp_value ?_ (hn _ _ _ _ _ hK hout)
    rw [← p1]
    simp [execOp, hop, hs.toV hv, Instr.box, newVar, newRow, newObj, Sem.run, cellsL]
  · exact h.elim

theorem places_of : ∀ (fs : List Field), allTy P fs = true → ∃ places, fs.mapM (fun f => (P.info? f.type).map fun i => (f.offset, i.size)) = some places ∧ ∀ j : Nat, places[j]? = (fs[j]?).map fun f => (f.offset, P.cellsOf f.type)
  | [], _ => ⟨[], rfl, fun j => by simp⟩
  | f :: r, h => by
    simp only [allTy] at h
    split at h
    · rename_i ty hty
      obtain ⟨ps, h1, h2⟩ := places_of r h
      have hi : ∃ i, P.info? f.type = some i := by
        unfold tyOf at hty
        split at hty
        · exact ⟨_, by assumption⟩
        · cases hty
      obtain ⟨i, hi⟩ := hi
      refine ⟨(f.offset, i.size) :: ps, by simp [List.mapM_cons, hi, h1], fun j => ?_⟩
      cases j with
      | zero => simp [Program.cellsOf, hi]
      | succ j => simp [h2]
    · cases h

theorem build_sound (hs : Sim w0 σe we fz β st σ a w) {T : Nat} {parts : Array (Nat × Operand)} (hop : o.op = .build T parts) (h : denOp P w0 (AC P w0) esc gk o.dst (.build T parts) st σ K)
    (hn : ∀ x e σ' v w', K x e σ' → Out w0 σe we fz st a x e σ' v w' → next (a.put o.dst v) w') : o.wp P a w next Q := by
  simp only [denOp] at h
  split at h
  · rename_i fs cs hu hz
    obtain ⟨i, z, hi, hiz, hzc, hl, hrun⟩ := zeroOf_spec hz w
    split at h
    · rename_i hall
      obtain ⟨places, hp1, hp2⟩ := places_of fs.toList hall
      obtain ⟨cs', hK, hl', hf⟩ := fill_sound hs (place' := (places[·]?)) (fun i off g n he => by
        split at he
        · rename_i f hf
          split at he
          · rename_i ty hty
            cases he
            obtain ⟨_, _, t3, t4⟩ := tyOf_spec hty w
            refine ⟨?_, t4⟩
            show places[i]? = _
            rw [hp2, Array.getElem?_toList, hf]
            simp [t3]
          · cases he
        · cases he) _ _ _ h
      refine wp_value (w' := w) (v := .agg ⟨cs'⟩) ?_ (hn _ _ _ _ _ hK (hs.same rfl))
      have hb : P.built T (parts.toList.map fun (i, x) => (i, a.eval x)) = some ⟨cs'⟩ := by
        subst hzc
        unfold Program.built
        simp only [hi, hu, hiz, hp1]
        have : (cellsL z).toArray = z.cells := by simp [cellsL]
        rw [← this]
        simpa using hf
      have hr := run_build (P := P) w T (parts.map fun (i, x) => (i, a.eval x)) ⟨cs'⟩ (by rw [Array.toList_map]; exact hb)
      simp only [execOp, hop, Sem.run_bind, hr, Result.andThen_ok, Sem.run_pure]
    · exact h.elim
  · rename_i len e cs hu hz
    obtain ⟨i, z, hi, hiz, hzc, hl, hrun⟩ := zeroOf_spec hz w
    split at h
    · rename_i g n hty
      obtain ⟨t1, t2, t3, t4⟩ := tyOf_spec hty w
      have hin : ∃ ie, P.info? e = some ie ∧ ie.size = n := by
        cases hie : P.info? e with
        | none => unfold tyOf at hty; rw [hie] at hty; cases hty
        | some ie => exact ⟨ie, rfl, by simpa [sizeOf, typeInfo, hie] using t2⟩
      obtain ⟨ie, hie, hsz⟩ := hin
      obtain ⟨cs', hK, hl', hf⟩ := fill_sound hs (place' := fun i => some (i * n, n)) (fun i off g' n' he => by
        cases he
        exact ⟨rfl, t4⟩) _ _ _ h
      refine wp_value (w' := w) (v := .agg ⟨cs'⟩) ?_ (hn _ _ _ _ _ hK (hs.same rfl))
      have hb : P.built T (parts.toList.map fun (i, x) => (i, a.eval x)) = some ⟨cs'⟩ := by
        subst hzc
        unfold Program.built
        simp only [hi, hu, hiz, hie, hsz]
        have : (cellsL z).toArray = z.cells := by simp [cellsL]
        rw [← this]
        simpa using hf
      have hr := run_build (P := P) w T (parts.map fun (i, x) => (i, a.eval x)) ⟨cs'⟩ (by rw [Array.toList_map]; exact hb)
      simp only [execOp, hop, Sem.run_bind, hr, Result.andThen_ok, Sem.run_pure]
    · exact h.elim
  · exact h.elim
end
end Go.Av
