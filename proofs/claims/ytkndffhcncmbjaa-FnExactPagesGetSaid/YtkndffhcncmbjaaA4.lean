/- The abstract layer, part 4: the frame ('Sim'); a call; a slot written; a box made, a box written; a step of the rows. -/
import Derived.Test.YtkndffhcncmbjaaA3
set_option linter.unusedVariables false
set_option linter.unusedSimpArgs false
namespace Go.Av
open Go Go.RowKit

/-- What a slot holds. -/
def VX (β : Nat → Nat) (bx : Nat → Option (List Value)) : TV → Value → Prop
  | .val u, v => v = u
  | .lit b, v => v = .bool b
  | .lp k j, v => bx k ≠ none ∧ v = .pointer (some ⟨β k, j, none⟩)
  | .ls k n, v => bx k ≠ none ∧ v = .slice (some ⟨β k, 0, none⟩) n n
  | .unk, _ => True
  | .und, v => v = undef

structure BoxOk (w0 : World) (we : World) (σ : Vw) (w : World) (b : Nat) (cs : List Value) : Prop where
  cells : ∃ T cur, w.heap[b]? = some (.cells cur T (0, 0)) ∧ cur.toList = cs
  free : σ b = none
  old : w0.heap.size ≤ b
  own : we.heap.size ≤ b

/-- The frame, its boxes, the rows: as they are told. 'σe', 'we': as the frame was entered. -/
structure Sim (w0 : World) (σe : Vw) (we : World) (fz : Nat) (β : Nat → Nat) (st : St) (σ : Vw) (a : Act) (w : World) : Prop where
  len : st.tmps.length = a.tmps.size
  tm : ∀ i, VX β st.bx (st.tmps.getD i .unk) (a.tmps.getD i undef)
  dfs : a.defers = []
  aft : Aft w0 σe we σ w
  box : ∀ k cs, st.bx k = some cs → BoxOk w0 we σ w (β k) cs
  inj : ∀ k k', st.bx k ≠ none → st.bx k' ≠ none → β k = β k' → k = k'
  sz : a.tmps.size = fz

section
variable {w0 : World} {σe : Vw} {we : World} {fz : Nat} {β : Nat → Nat} {st : St} {σ σ' : Vw} {a : Act} {w w' : World}

theorem Sim.sat (h : Sim w0 σe we fz β st σ a w) : Sat w0 σ w := h.aft.sat

theorem Sim.box_lt (h : Sim w0 σe we fz β st σ a w) {k : Nat} {cs : List Value} (hk : st.bx k = some cs) : β k < w.heap.size := by
  obtain ⟨T, cur, hc, _⟩ := (h.box k cs hk).cells
  exact (Array.getElem?_eq_some_iff.1 hc).1

/-- The rows step on; the frame's boxes are none of them. -/
theorem Sim.step (h : Sim w0 σe we fz β st σ a w) (k : Aft w0 σ w σ' w') : Sim w0 σe we fz β st σ' a w' := by
  refine ⟨h.len, h.tm, h.dfs, h.aft.trans k, fun i cs hi => ?_, h.inj, h.sz⟩
  have hb := h.box i cs hi
  obtain ⟨T, cur, hc, he⟩ := hb.cells
  refine ⟨⟨T, cur, (k.fr _ (h.box_lt hi) hb.free).trans hc, he⟩, ?_, hb.old, hb.own⟩
  cases hs : σ' (β i) with
  | none => rfl
  | some r =>
    rcases k.dom _ r hs with h2 | h2
    · exact absurd hb.free h2
    · have := h.box_lt hi; omega

theorem Sim.put (h : Sim w0 σe we fz β st σ a w) (dst : Option Tmp) {x : TV} {v : Value} (hv : VX β st.bx x v) : Sim w0 σe we fz β (putT st dst x) σ (a.put dst v) w := by
  cases dst with
  | none => exact h
  | some d =>
    refine ⟨by simp [putT, Act.put, h.len], fun i => ?_, h.dfs, h.aft, h.box, h.inj, by simp [Act.put, h.sz]⟩
    have hi := h.tm i
    simp only [putT, Act.put]
    by_cases e : d = i
    · subst e
      by_cases hd : d < st.tmps.length
      · have hd' : d < a.tmps.size := by rw [← h.len]; exact hd
        rw [List.getD_eq_getElem?_getD, List.getElem?_set_self hd]
        rw [Array.getD_eq_getD_getElem?, Array.getElem?_setIfInBounds_self_of_lt hd']
        exact hv
      · have h1 : st.tmps.length ≤ d := Nat.le_of_not_lt hd
        have h2 : a.tmps.size ≤ d := by rw [← h.len]; exact h1
        rw [List.set_eq_of_length_le h1, Array.setIfInBounds_eq_of_size_le h2]
        exact hi
    · rw [List.getD_eq_getElem?_getD, List.getElem?_set_ne e, ← List.getD_eq_getElem?_getD]
      rw [Array.getD_eq_getD_getElem?, Array.getElem?_setIfInBounds_ne e, ← Array.getD_eq_getD_getElem?]
      exact hi

/-- The same world, less told. -/
theorem Sim.slot (h : Sim w0 σe we fz β st σ a w) (t : Tmp) {x : TV} (hv : VX β st.bx x (a.tmps.getD t undef)) : Sim w0 σe we fz β { st with tmps := st.tmps.set t x } σ a w := by
  refine ⟨by simp [h.len], fun i => ?_, h.dfs, h.aft, h.box, h.inj, h.sz⟩
  have hi := h.tm i
  show VX β st.bx ((st.tmps.set t x).getD i .unk) _
  by_cases e : t = i
  · subst e
    by_cases hd : t < st.tmps.length
    · rw [List.getD_eq_getElem?_getD, List.getElem?_set_self hd]
      exact hv
    · have h1 : st.tmps.length ≤ t := Nat.le_of_not_lt hd
      rw [List.set_eq_of_length_le h1]
      exact hi
  · rw [List.getD_eq_getElem?_getD, List.getElem?_set_ne e, ← List.getD_eq_getElem?_getD]
    exact hi

theorem eff_ne {k i : Nat} {cs : List Value} (h : i ≠ k) : (st.eff (some (k, cs))).bx i = st.bx i := by
  simp only [St.eff]
  cases hb : Nat.beq k i with
  | true => exact absurd (Nat.eq_of_beq_eq_true hb).symm h
  | false => rfl
theorem eff_eq {k : Nat} {cs : List Value} : (st.eff (some (k, cs))).bx k = some cs := by
  simp only [St.eff]
  rw [show Nat.beq k k = true from Nat.beq_refl k]; rfl

def upd (β : Nat → Nat) (k b : Nat) : Nat → Nat := fun i => if i = k then b else β i

/-- A box is made. -/
theorem Sim.newBox (h : Sim w0 σe we fz β st σ a w) {k : Nat} (hk : st.bx k = none) (T : TypeId) (cur : Array Value) :
    Sim w0 σe we fz (upd β k w.heap.size) (st.eff (some (k, cur.toList))) σ a (w.alloc (.cells cur T)) ∧ upd β k w.heap.size k = w.heap.size := by
  refine ⟨⟨h.len, fun i => ?_, h.dfs, h.aft.trans (Aft.hid h.sat _), fun i cs hi => ?_, fun i j hi hj e => ?_, h.sz⟩, by simp [upd]⟩
  · have := h.tm i
    show VX _ _ (st.tmps.getD i .unk) _
    cases hx : st.tmps.getD i .unk with
    | val u => rw [hx] at this; exact this
    | lit b => rw [hx] at this; exact this
    | unk => exact trivial
    | und => rw [hx] at this; exact this
    | lp k' j =>
      rw [hx] at this
      obtain ⟨h1, h2⟩ := this
      have e : k' ≠ k := fun e => h1 (e ▸ hk)
      exact ⟨by rw [eff_ne e]; exact h1, by rw [h2]; simp [upd, e]⟩
    | ls k' n =>
      rw [hx] at this
      obtain ⟨h1, h2⟩ := this
      have e : k' ≠ k := fun e => h1 (e ▸ hk)
      exact ⟨by rw [eff_ne e]; exact h1, by rw [h2]; simp [upd, e]⟩
  · by_cases e : i = k
    · subst e
      rw [eff_eq] at hi
      cases hi
      refine ⟨⟨T, cur, by simp only [upd, if_true]; exact heap_new w _, rfl⟩, ?_, ?_, ?_⟩
      · simp only [upd, if_true]; exact (fresh h.sat).2
      · simp only [upd, if_true]; exact (fresh h.sat).1
      · simp only [upd, if_true]; exact h.aft.size
    · rw [eff_ne e] at hi
      have hb := h.box i cs hi
      obtain ⟨T', cur', hc, he⟩ := hb.cells
      have hu : upd β k w.heap.size i = β i := by simp [upd, e]
      rw [hu]
      exact ⟨⟨T', cur', (Below.heap_alloc w _ _ (h.box_lt hi)).trans hc, he⟩, hb.free, hb.old, hb.own⟩
  · by_cases ei : i = k <;> by_cases ej : j = k
    · rw [ei, ej]
    · subst ei
      rw [eff_ne ej] at hj
      cases hcs : st.bx j with
      | none => exact absurd hcs hj
      | some cs =>
        have := h.box_lt hcs
        simp only [upd, if_true, if_neg ej] at e
        omega
    · subst ej
      rw [eff_ne ei] at hi
      cases hcs : st.bx i with
      | none => exact absurd hcs hi
      | some cs =>
        have := h.box_lt hcs
        simp only [upd, if_true, if_neg ei] at e
        omega
    · rw [eff_ne ei] at hi
      rw [eff_ne ej] at hj
      simp only [upd, if_neg ei, if_neg ej] at e
      exact h.inj i j hi hj e

/-- A box is written. -/
theorem Sim.setBox (h : Sim w0 σe we fz β st σ a w) {k : Nat} {cs cs' : List Value} (hk : st.bx k = some cs) (hw : w'.heap.size = w.heap.size) (hos : w'.os = w.os) (htp : w'.tape = w.tape) (hout : w'.output = w.output)
    (hf : ∀ b, b ≠ β k → w'.heap[b]? = w.heap[b]?) (hc : ∃ T cur, w'.heap[β k]? = some (.cells cur T (0, 0)) ∧ cur.toList = cs') :
    Sim w0 σe we fz β (st.eff (some (k, cs'))) σ a w' := by
  have hb := h.box k cs hk
  have hsat : Sat w0 σ w' := by
    refine ⟨⟨hos.trans h.sat.bel.os, htp.trans h.sat.bel.tape, hout.trans h.sat.bel.output, by rw [hw]; exact h.sat.bel.size, fun i hi => ?_⟩, fun b r hr => ?_⟩
    · have := hb.old
      rw [hf i (by omega)]
      exact h.sat.bel.block i hi
    · obtain ⟨h1, cur, h2, h3⟩ := h.sat.row b r hr
      refine ⟨h1, cur, (hf b fun e => ?_).trans h2, h3⟩
      rw [e, hb.free] at hr
      cases hr
  refine ⟨h.len, fun i => ?_, h.dfs, ⟨hsat, by rw [hw]; exact h.aft.size, fun b hb' hn => ?_, h.aft.dom⟩, fun i cs1 hi => ?_, fun i j hi hj e => ?_, h.sz⟩
  · have := h.tm i
    show VX _ _ (st.tmps.getD i .unk) _
    have keep : ∀ k', st.bx k' ≠ none → (st.eff (some (k, cs'))).bx k' ≠ none := fun k' hk' => by
      by_cases e : k' = k
      · subst e; rw [eff_eq]; simp
      · rw [eff_ne e]; exact hk'
    cases hx : st.tmps.getD i .unk with
    | val u => rw [hx] at this; exact this
    | lit b => rw [hx] at this; exact this
    | unk => exact trivial
    | und => rw [hx] at this; exact this
    | lp k' j => rw [hx] at this; exact ⟨keep _ this.1, this.2⟩
    | ls k' n => rw [hx] at this; exact ⟨keep _ this.1, this.2⟩
  · have := hb.own
    rw [hf b (by omega)]
    exact h.aft.fr b hb' hn
  · by_cases e : i = k
    · subst e
      rw [eff_eq] at hi
      cases hi
      exact ⟨hc, hb.free, hb.old, hb.own⟩
    · rw [eff_ne e] at hi
      have hb' := h.box i cs1 hi
      obtain ⟨T', cur', hc', he⟩ := hb'.cells
      refine ⟨⟨T', cur', (hf _ fun e' => e ?_).trans hc', he⟩, hb'.free, hb'.old, hb'.own⟩
      exact h.inj i k (by rw [hi]; simp) (by rw [hk]; simp) e'
  · refine h.inj i j ?_ ?_ e
    · by_cases ei : i = k
      · subst ei; rw [hk]; simp
      · rwa [eff_ne ei] at hi
    · by_cases ej : j = k
      · subst ej; rw [hk]; simp
      · rwa [eff_ne ej] at hj
end

/-- The call of a function: in whatever world fits the view it returns, and what it returns, and the view then, meet R. -/
def AC (P : Program) (w0 : World) (f : FuncId) (args : List Value) (σ : Vw) (R : Value → Vw → Prop) : Prop :=
  (∃ fn, P.funcs[f]? = some fn ∧ (fn.name == "runtime.NumGoroutine") = false ∧ fn.body.isNone = false) ∧
  ∀ w, Sat w0 σ w → Calls P f args.toArray w fun e w' => ∃ v σ', e = .returned v ∧ R v σ' ∧ Aft w0 σ w σ' w'

theorem AC.mono {P : Program} {w0 : World} {f : FuncId} {args : List Value} {σ : Vw} {R R' : Value → Vw → Prop} (h : AC P w0 f args σ R) (hr : ∀ v σ', R v σ' → R' v σ') : AC P w0 f args σ R' :=
  ⟨h.1, fun w hw => (h.2 w hw).mono fun e w' ⟨v, σ', he, hR, ha⟩ => ⟨v, σ', he, hr _ _ hR, ha⟩⟩
end Go.Av
