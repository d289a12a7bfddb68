/- The abstract layer, part 3: the view and the world. What a step leaves ('Aft'), the frame ('Sim'), what reads and makes. -/
import Derived.Test.YtkndffhcncmbjaaA2
import Derived.Laws.AppendOwn
import Derived.Laws.MakeOwn
set_option linter.unusedVariables false
set_option linter.unusedSimpArgs false
namespace Go.Av
open Go Go.RowKit

def RowOk (w0 w : World) (b : Nat) (r : Row) : Prop :=
  w0.heap.size ≤ b ∧ ∃ cur : Array Value, w.heap[b]? = some (.cells cur r.ety r.fz) ∧ r.cells <+: cur.toList ∧ cur.size = r.cap ∧ (cur.size ≤ r.fz.1 ∨ r.fz.2 ≤ r.fz.1)

/-- The world fits the view. -/
structure Sat (w0 : World) (σ : Vw) (w : World) : Prop where
  bel : Below w0.heap.size w0 w
  row : ∀ b r, σ b = some r → RowOk w0 w b r

/-- Behind a step: the new view fits; what the view did not speak of is as it was. -/
structure Aft (w0 : World) (σ : Vw) (w : World) (σ' : Vw) (w' : World) : Prop where
  sat : Sat w0 σ' w'
  size : w.heap.size ≤ w'.heap.size
  fr : ∀ b, b < w.heap.size → σ b = none → w'.heap[b]? = w.heap[b]?
  dom : ∀ b r, σ' b = some r → σ b ≠ none ∨ w.heap.size ≤ b

theorem Sat.lt {w0 w : World} {σ : Vw} (h : Sat w0 σ w) {b : Nat} {r : Row} (hb : σ b = some r) : b < w.heap.size := by
  obtain ⟨_, cur, hc, _⟩ := h.row b r hb
  exact (Array.getElem?_eq_some_iff.1 hc).1

theorem Sat.get {w0 w : World} {σ : Vw} (h : Sat w0 σ w) {a : Addr} {v : Value} (hg : get w0 σ a = some v) : w.cell? a = some v := by
  unfold Av.get at hg
  split at hg
  · rename_i hl; rw [h.bel.cell hl]; exact hg
  · split at hg
    · rename_i hs
      cases hr : σ a.block with
      | none => rw [hr] at hg; cases hg
      | some r =>
        rw [hr] at hg
        obtain ⟨_, cur, hc, hp, _⟩ := h.row _ _ hr
        simp only [Option.bind_some] at hg
        unfold World.cell?
        rw [hc]
        have hlt : a.off < r.cells.length := (List.getElem?_eq_some_iff.1 hg).1
        have := hp.getElem hlt
        simp only [hs, Option.isSome_none, Bool.false_eq_true, if_false]
        rw [List.getElem?_eq_getElem hlt] at hg
        rw [← Array.getElem?_toList, List.getElem?_eq_getElem (by have := hp.length_le; omega), ← this]
        exact hg
    · cases hg

/-! ### worlds -/
theorem Aft.refl {w0 w : World} {σ : Vw} (h : Sat w0 σ w) : Aft w0 σ w σ w := ⟨h, Nat.le_refl _, fun _ _ _ => rfl, fun b r hb => .inl (by rw [hb]; simp)⟩

theorem Aft.trans {w0 w w1 w2 : World} {σ σ1 σ2 : Vw} (h : Aft w0 σ w σ1 w1) (k : Aft w0 σ1 w1 σ2 w2) : Aft w0 σ w σ2 w2 := by
  refine ⟨k.sat, Nat.le_trans h.size k.size, fun b hb hn => ?_, fun b r hb => ?_⟩
  · have h1 : σ1 b = none := by
      cases hs : σ1 b with
      | none => rfl
      | some r => rcases h.dom b r hs with h2 | h2
                  · exact absurd hn h2
                  · omega
    rw [k.fr b (Nat.lt_of_lt_of_le hb h.size) h1, h.fr b hb hn]
  · rcases k.dom b r hb with h2 | h2
    · cases hs : σ1 b with
      | none => exact absurd hs h2
      | some r1 => exact h.dom b r1 hs
    · exact .inr (Nat.le_trans h.size h2)

theorem Sat.drew {w0 w : World} {σ : Vw} (h : Sat w0 σ w) : Sat w0 σ w.drew := ⟨h.bel.drew, h.row⟩
theorem Aft.drew {w0 w w' : World} {σ σ' : Vw} (h : Aft w0 σ w.drew σ' w') : Aft w0 σ w σ' w' := ⟨h.sat, h.size, h.fr, h.dom⟩

theorem Sat.alloc {w0 w : World} {σ : Vw} (h : Sat w0 σ w) (o : Obj) : Sat w0 σ (w.alloc o) := by
  refine ⟨h.bel.alloc h.bel.size o, fun b r hb => ?_⟩
  obtain ⟨h1, cur, hc, h2⟩ := h.row b r hb
  exact ⟨h1, cur, (Below.heap_alloc w o b (h.lt hb)).trans hc, h2⟩

/-- A new block that the view says nothing of. -/
theorem Aft.hid {w0 w : World} {σ : Vw} (h : Sat w0 σ w) (o : Obj) : Aft w0 σ w σ (w.alloc o) :=
  ⟨h.alloc o, by simp, fun b hb _ => Below.heap_alloc w o b hb, fun b r hb => .inl (by rw [hb]; simp)⟩

theorem put_ne {σ : Vw} {b i : Nat} {r : Row} (h : i ≠ b) : σ.put b r i = σ i := by simp [Vw.put, h]
theorem put_eq {σ : Vw} {b : Nat} {r : Row} : σ.put b r b = some r := by simp [Vw.put]

theorem heap_new (w : World) (o : Obj) : (w.alloc o).heap[w.heap.size]? = some o := by unfold World.alloc; simp

theorem Aft.row {w0 w : World} {σ : Vw} (h : Sat w0 σ w) (cur : Array Value) (r : Row) (hp : r.cells <+: cur.toList) (hc : cur.size = r.cap) (hf : r.fz = (0, 0)) :
    Aft w0 σ w (σ.put w.heap.size r) (w.alloc (.cells cur r.ety)) := by
  refine ⟨⟨(h.alloc _).bel, fun b r' hb => ?_⟩, by simp, fun b hb _ => Below.heap_alloc w _ b hb, fun b r' hb => ?_⟩
  · by_cases e : b = w.heap.size
    · subst e
      rw [put_eq] at hb
      cases hb
      exact ⟨h.bel.size, cur, by rw [heap_new, hf], hp, hc, by rw [hf]; exact .inr (Nat.le_refl _)⟩
    · rw [put_ne e] at hb
      exact (h.alloc _).row b r' hb
  · by_cases e : b = w.heap.size
    · exact .inr (by omega)
    · rw [put_ne e] at hb
      exact .inl (by rw [hb]; simp)

theorem fresh {w0 w : World} {σ : Vw} (h : Sat w0 σ w) : w0.heap.size ≤ w.heap.size ∧ σ w.heap.size = none := by
  refine ⟨h.bel.size, ?_⟩
  cases hs : σ w.heap.size with
  | none => rfl
  | some r => exact absurd (h.lt hs) (by omega)

/-! ### reading -/
section
variable {P : Program}
theorem run_loadFrom (w : World) (a : Addr) (g : Nat → Value) : ∀ (n i : Nat) (acc : Array Value), (∀ j, j < n → w.cell? (a.add (i + j)) = some (g (i + j))) →
    (loadCellsFrom a i n acc).run P w = .ok (acc ++ (expl g i n).toArray) w
  | 0, i, acc, _ => by simp [loadCellsFrom, expl]
  | n + 1, i, acc, h => by
    have h0 := h 0 (by omega)
    rw [Nat.add_zero] at h0
    have ih := run_loadFrom w a g n (i + 1) (acc.push (g i)) (fun j hj => by have := h (j + 1) (by omega); rwa [show i + (j + 1) = i + 1 + j by omega] at this)
    simp only [loadCellsFrom, Sem.run_bind, load, Sem.run, h0, Result.andThen_ok, ih]
    congr 1
    apply Array.toList_inj.1
    simp [expl]

theorem tyOf_spec {T : Nat} {g : Bool} {n : Nat} (h : tyOf P T = some (g, n)) (w : World) :
    (isAgg T).run P w = .ok g w ∧ (sizeOf T).run P w = .ok n w ∧ P.cellsOf T = n ∧ (g = false → n = 1) := by
  unfold tyOf at h
  split at h
  · rename_i i d hi hd
    have hsz : (sizeOf T).run P w = .ok i.size w := by simp [sizeOf, typeInfo, hi]
    have hc : P.cellsOf T = i.size := by simp [Program.cellsOf, hi]
    have hu := run_underlying (P := P) (t := T) (d := d) hd
    cases d <;> simp only [Option.some.injEq, Prod.mk.injEq] at h <;>
      first
        | (obtain ⟨rfl, rfl⟩ := h; exact ⟨by simp [isAgg, hu], hsz, hc, by simp⟩)
        | (cases hb : Nat.beq i.size 1 with
           | false => rw [hb] at h; cases h
           | true =>
             rw [hb] at h
             simp only [cond_true, Option.some.injEq, Prod.mk.injEq] at h
             obtain ⟨rfl, rfl⟩ := h
             have := Nat.eq_of_beq_eq_true hb
             rw [this] at hsz hc
             exact ⟨by simp [isAgg, hu], hsz, hc, by simp⟩)
  · cases h

theorem run_loadVar {T : Nat} {g : Bool} {n : Nat} (h : tyOf P T = some (g, n)) (w : World) (a : Addr) (c : Nat → Value) (hc : ∀ j, j < n → w.cell? (a.add j) = some (c j)) :
    (loadVar T a).run P w = .ok (mkVal g (expl c 0 n)) w := by
  obtain ⟨h1, h2, _, h4⟩ := tyOf_spec h w
  have hl := run_loadFrom (P := P) w a c n 0 #[] (fun j hj => by rw [Nat.zero_add]; exact hc j hj)
  cases g with
  | true =>
    simp only [loadVar, Sem.run_bind, h1, Result.andThen_ok, if_true, h2, loadCells, hl, mkVal, Sem.run_pure]
    simp
  | false =>
    obtain rfl := h4 rfl
    have h0 := hc 0 (by omega)
    have ha : a.add 0 = a := by simp [Addr.add]
    rw [ha] at h0
    simp only [loadVar, Sem.run_bind, h1, Result.andThen_ok, Bool.false_eq_true, if_false, load, Sem.run, h0]
    simp [mkVal, expl, Sem.run]
end
end Go.Av
