/- The abstract layer, part 7: an operation does what 'denOp' says. -/
import Derived.Test.YtkndffhcncmbjaaA6
set_option linter.unusedVariables false
set_option linter.unusedSimpArgs false
namespace Go.Av
open Go Go.RowKit

section
variable {P : Program} {w0 : World} {σe : Vw} {we : World} {fz : Nat} {β : Nat → Nat} {st : St} {σ : Vw} {a : Act} {w : World}

/-- What an operation has left: its value, the boxes, the rows. -/
def Out (w0 : World) (σe : Vw) (we : World) (fz : Nat) (st : St) (a : Act) (x : TV) (e : Eff) (σ' : Vw) (v : Value) (w' : World) : Prop :=
  ∃ β', Sim w0 σe we fz β' (st.eff e) σ' a w' ∧ VX β' (st.eff e).bx x v

theorem Sim.ev (h : Sim w0 σe we fz β st σ a w) (x : Operand) : VX β st.bx (ev st x) (a.eval x) := by
  cases x with
  | tmp t => exact h.tm t
  | const v => cases v <;> rfl
  | global g => rfl
  | func f => rfl

theorem Sim.toV (h : Sim w0 σe we fz β st σ a w) {x : Operand} {v : Value} (hx : toV (Av.ev st x) = some v) : a.eval x = v := by
  have := h.ev x
  cases hev : Av.ev st x with
  | val u => rw [hev] at this hx; cases hx; exact this
  | lit b => rw [hev] at this hx; cases hx; exact this
  | lp k j => rw [hev] at hx; cases hx
  | ls k j => rw [hev] at hx; cases hx
  | unk => rw [hev] at hx; cases hx
  | und => rw [hev] at hx; cases hx

theorem Sim.toVs (h : Sim w0 σe we fz β st σ a w) : ∀ {xs : List Operand} {vs : List Value}, toVs st xs = some vs → xs.map a.eval = vs
  | [], vs, hx => by cases hx; rfl
  | x :: r, vs, hx => by
    simp only [Av.toVs] at hx
    split at hx
    · rename_i v hv
      split at hx
      · rename_i us hu
        cases hx
        simp only [List.map_cons, h.toV hv, h.toVs hu]
      · cases hx
    · cases hx

theorem Sim.oV (h : Sim w0 σe we fz β st σ a w) {x : Option Operand} {v : Option Value} (hx : oV st x = some v) : x.map a.eval = v := by
  cases x with
  | none => cases hx; rfl
  | some x =>
    simp only [Av.oV] at hx
    split at hx
    · rename_i u hu
      cases hx
      simp [h.toV hu]
    · cases hx

theorem wp_value {o : Oper} {v : Value} {w' : World} {next : Act → World → Prop} {Q : Exit → Act → World → Prop} (hr : (execOp a.eval o).run P w = .ok (.value v) w') (hk : next (a.put o.dst v) w') : o.wp P a w next Q := by
  unfold Oper.wp
  rw [hr]
  exact hk
theorem wp_skipped {o : Oper} {w' : World} {next : Act → World → Prop} {Q : Exit → Act → World → Prop} (hr : (execOp a.eval o).run P w = .ok .skip w') (hk : next (a.put o.dst undef) w') : o.wp P a w next Q := by
  unfold Oper.wp
  rw [hr]
  exact hk

theorem Sim.same (h : Sim w0 σe we fz β st σ a w) {x : TV} {v : Value} (hv : VX β st.bx x v) : Out w0 σe we fz st a x none σ v w := ⟨β, h, hv⟩

theorem Sim.rows (h : Sim w0 σe we fz β st σ a w) {σ' : Vw} {w' : World} (k : Aft w0 σ w σ' w') (v : Value) : Out w0 σe we fz st a (.val v) none σ' v w' := ⟨β, h.step k, rfl⟩

theorem offOf_run {T f o : Nat} (h : offOf P T f = some o) (w : World) (ad : Addr) : (Instr.fieldAt T (.pointer (some ad)) f).run P w = .ok (.pointer (some (ad.add o))) w := by
  unfold offOf at h
  split at h
  · rename_i fs hu
    split at h
    · rename_i x hx
      split at h
      · rename_i g n ht
        obtain ⟨_, h2, _⟩ := tyOf_spec ht w
        cases hb : Nat.beq n 0 with
        | true => rw [hb] at h; cases h
        | false =>
          rw [hb] at h
          simp only [cond_false, Option.some.injEq] at h
          subst h
          have hn : n ≠ 0 := fun e => by subst e; cases hb
          simp [Instr.fieldAt, run_underlying hu, hx, Instr.sureAddr, fieldPlace, h2, hn]
      · cases h
    · cases h
  · cases h

theorem cells_lists {cs : Array Value} : cs.toList.toArray = cs := by simp

/-- A block that is made becomes a box, or a row. -/
theorem mk_sound {esc : Nat → Bool} {dst : Option Tmp} {ety : Nat} {cs : List Value} {loc : Nat → TV} {far : Nat → Value} {K : TV → Eff → Vw → Prop} (hs : Sim w0 σe we fz β st σ a w) (h : mkBox w0 esc dst ety st cs σ loc far K)
    (hloc : ∀ (β' : Nat → Nat) k bx, bx k ≠ none → VX β' bx (loc k) (far (β' k))) : ∃ x e σ', K x e σ' ∧ Out w0 σe we fz st a x e σ' (far w.heap.size) (w.alloc (.cells cs.toArray ety)) := by
  unfold mkBox at h
  split at h
  · rename_i k
    split at h
    · have hf := fresh hs.sat
      exact ⟨_, _, _, h _ hf.1 hf.2, hs.rows (Aft.row hs.sat cs.toArray ⟨ety, cs, cs.length, (0, 0)⟩ (by simp) (by simp) rfl) _⟩
    · split at h
      · rename_i hk
        obtain ⟨h1, h2⟩ := hs.newBox hk ety cs.toArray
        refine ⟨_, _, _, h, upd β k w.heap.size, h1, ?_⟩
        have := hloc (upd β k w.heap.size) k (st.eff (some (k, cs))).bx (by rw [eff_eq]; simp)
        rw [h2] at this
        exact this
      · exact h.elim
  · exact h.elim

/-- The parts of a literal. -/
theorem fill_sound (hs : Sim w0 σe we fz β st σ a w) {place : Nat → Option (Nat × (Bool × Nat))} {place' : Nat → Option (Nat × Nat)} (hp : ∀ i o g n, place i = some (o, (g, n)) → place' i = some (o, n) ∧ (g = false → n = 1)) :
    ∀ (ps : List (Nat × Operand)) (cs : List Value) (A : List Value → Prop), fillParts st place ps cs A → ∃ cs', A cs' ∧ cs'.length = cs.length ∧ Instr.fill place' cs.toArray (ps.map fun (i, x) => (i, a.eval x)) = some cs'.toArray
  | [], cs, A, h => ⟨cs, h, rfl, rfl⟩
  | (i, x) :: r, cs, A, h => by
    simp only [fillParts] at h
    split at h
    · rename_i off g n v hpl hv
      cases hb : Nat.ble (off + n) cs.length with
      | false => rw [hb] at h; exact h.elim
      | true =>
        rw [hb] at h
        obtain ⟨hok, h⟩ := h
        obtain ⟨hp1, hp2⟩ := hp i off g n hpl
        obtain ⟨q1, q2, q3⟩ := okV_cells hok hp2
        obtain ⟨cs', hA, hl, hf⟩ := fill_sound hs hp r _ A h
        refine ⟨cs', hA, hl.trans (length_setAt _ _ _), ?_⟩
        have hle := Nat.le_of_ble_eq_true hb
        have key : ∀ (us : List Value) (m : Nat) (c : List Value), ((us.zipIdx m).foldl (fun (c : Array Value) (p : Value × Nat) => c.setIfInBounds (off + p.2) p.1) c.toArray) = (setAt c (off + m) us).toArray := by
          intro us
          induction us with
          | nil => intro m c; rfl
          | cons u us ih =>
            intro m c
            simp only [List.zipIdx_cons, List.foldl_cons, setAt]
            rw [show c.toArray.setIfInBounds (off + m) u = (c.set (off + m) u).toArray by simp, ih (m + 1)]
            rfl
        simp only [List.map_cons, Instr.fill, hp1, hs.toV hv]
        have hz : (v.cells.zipIdx.foldl (fun cs (x : Value × Nat) => match x with | (c, j) => cs.setIfInBounds (off + j) c) cs.toArray) = (setAt cs off (cellsT g n v)).toArray := by
          have := key (cellsT g n v) 0 cs
          rw [Nat.add_zero] at this
          rw [← this, ← q1]
          simp only [cellsL]
          rw [← Array.foldl_toList, Array.toList_zipIdx]
        have hcond : ¬ (v.cells.size ≠ n ∨ off + v.cells.size > cs.toArray.size) := by
          rw [q2]; simp; omega
        simp only [bne_iff_ne, Bool.or_eq_true, decide_eq_true_eq, hcond, if_false]
        rw [hz]
        exact hf
    · exact h.elim
end
end Go.Av
