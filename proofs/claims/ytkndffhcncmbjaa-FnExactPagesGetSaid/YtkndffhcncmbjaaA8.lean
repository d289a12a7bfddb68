/- The abstract layer, part 8: the operations, one by one. -/
import Derived.Test.YtkndffhcncmbjaaA7
set_option linter.unusedVariables false
set_option linter.unusedSimpArgs false
namespace Go.Av
open Go Go.RowKit

section
variable {P : Program} {w0 : World} {σe : Vw} {we : World} {fz : Nat} {β : Nat → Nat} {st : St} {σ : Vw} {a : Act} {w : World} {esc : Nat → Bool} {K : TV → Eff → Vw → Prop} {next : Act → World → Prop} {Q : Exit → Act → World → Prop}

theorem zeroOf_spec {T : Nat} {cs : List Value} (h : zeroOf P T = some cs) (w : World) : ∃ i z, P.info? T = some i ∧ i.zero = some z ∧ cellsL z = cs ∧ cs.length = i.size ∧ (zeroValue T).run P w = .ok z w := by
  unfold zeroOf at h
  split at h
  · rename_i i hi
    split at h
    · rename_i z hz
      cases hb : Nat.beq (cellsL z).length i.size with
      | false => rw [hb] at h; cases h
      | true =>
        rw [hb] at h
        cases h
        exact ⟨i, z, hi, hz, rfl, Nat.eq_of_beq_eq_true hb, by simp [zeroValue, typeInfo, hi, hz]⟩
    · cases h
  · cases h

theorem elemOf_spec {T e : Nat} (h : elemOf P T = some e) : P.underlying T = some (.slice e) := by
  unfold elemOf at h
  split at h
  · cases h; assumption
  · cases h

theorem tyOf_size {T : Nat} {g : Bool} {n : Nat} (h : tyOf P T = some (g, n)) {i : TypeInfo} (hi : P.info? T = some i) : i.size = n := by
  have := (tyOf_spec h default).2.2.1
  simpa [Program.cellsOf, hi] using this

theorem equal_as (T : Nat) (x y : Value) : ∃ d, Op.equal T x y = Op.equalIn (d + 1) T x y := ⟨9999, rfl⟩

theorem run_equal_bool (T : Nat) (hT : P.underlying T = some .bool) (x y : Bool) : (Op.equal T (.bool x) (.bool y)).run P w = .ok (x == y) w := by
  obtain ⟨d, hd⟩ := equal_as T (.bool x) (.bool y)
  rw [hd]
  simp only [Op.equalIn, Sem.run_bind, run_underlying hT, Result.andThen_ok, Sem.run_pure]

theorem run_equal_ptr {e : Nat} (T : Nat) (hT : P.underlying T = some (.pointer e)) (x : Option Addr) : (Op.equal T (.pointer x) (.pointer none)).run P w = .ok x.isNone w := by
  obtain ⟨d, hd⟩ := equal_as T (.pointer x) (.pointer none)
  rw [hd]
  cases x <;> simp only [Op.equalIn, Sem.run_bind, run_underlying hT, Result.andThen_ok, Sem.run_pure, Option.isNone_none, Option.isNone_some]

theorem run_equal_slice {e : Nat} (T : Nat) (hT : P.underlying T = some (.slice e)) (x : Option Addr) (n c n' c' : Nat) : (Op.equal T (.slice x n c) (.slice none n' c')).run P w = .ok x.isNone w := by
  obtain ⟨d, hd⟩ := equal_as T (.slice x n c) (.slice none n' c')
  rw [hd]
  cases x <;> simp only [Op.equalIn, Sem.run_bind, run_underlying hT, Result.andThen_ok, Sem.run_pure, Option.isNone_none, Option.isNone_some]

/-- The operators that are reckoned with. -/
theorem bin_sound {op : BinOp} {T : Nat} {x y : Operand} {u v r : Value} (h : abinT P T op u v = some r) :
    (do eqGuard op T x y u v; binOp op T u v : Sem Value).run P w = .ok r w := by
  unfold abinT at h
  split at h
  · -- integers
    rename_i k p k' q
    split at h
    · rename_i hk
      subst hk
      cases op <;> simp only [aint] at h <;>
        first
          | (cases h; simp [eqGuard, binOp, Op.intArith, Op.intCmp])
          | (split at h
             · cases h
             · rename_i hq; cases h; simp [eqGuard, binOp, Op.intDiv, hq])
          | cases h
    · cases h
  · -- strings
    rename_i p q
    cases op <;> simp only [astr] at h <;>
      first
        | (cases h; simp [eqGuard, binOp, Op.stringOp])
        | (split at h
           · cases h
           · rename_i hq; cases h; simp only [eqGuard, binOp, Op.stringOp, Sem.run_bind, hq, if_false]; simp)
        | cases h
  · -- bools
    rename_i p q
    split at h
    · rename_i hT
      cases op <;> simp only at h <;>
        first
          | (cases h; simp only [eqGuard, binOp, Sem.run_bind, run_equal_bool T hT, Result.andThen_ok, Sem.run_pure]; simp)
          | cases h
    · cases h
  · rename_i p
    split at h
    · rename_i e hT
      cases op <;> simp only at h <;>
        first
          | (cases h; simp only [eqGuard, binOp, Sem.run_bind, run_equal_ptr T hT, Result.andThen_ok, Sem.run_pure]; simp)
          | cases h
    · cases h
  · rename_i p
    split at h
    · rename_i e hT
      cases op <;> simp only at h <;>
        first
          | (cases h; simp only [eqGuard, binOp, Sem.run_bind, run_equal_slice T hT, Result.andThen_ok, Sem.run_pure]; simp)
          | cases h
    · cases h
  · cases h
end
end Go.Av
