/- Trees: when one is sound. -/
import Derived.Test.YtkndffhcncmbjaaC11
set_option linter.unusedVariables false
set_option linter.unusedSimpArgs false
namespace Go.Proofs.Ytkndffhcncmbjaa
open Go Go.Av

def prevLt (ns : List ByteArray) (j : Nat) (x : ByteArray) : Bool :=
  match j with
  | 0 => true
  | i + 1 => match ns[i]? with
    | some y => strLt y x
    | none => true
noncomputable def nameAt (ns : List ByteArray) (j : Nat) (x : ByteArray) : Bool := nameOk x && prevLt ns j x
def namesP (ns : List ByteArray) : Prop := ∀ (j : Nat) (x : ByteArray), ns[j]? = some x → nameAt ns j x = true
open Classical in
noncomputable def plainB : Tr → Bool
  | .mk d m t ns ks => inB m 0 7 && (decide (ns.length = ks.length) && (if d = true then decide (namesP ns) && decide (t = ⟨#[]⟩) else decide (t.size ≤ 24) && decide (ns.length = 0)))
def allB {α : Type} (p : α → Bool) : List α → Bool
  | [] => true
  | a :: r => p a && allB p r
theorem allB_iff {α : Type} {p : α → Bool} {xs : List α} : allB p xs = true ↔ ∀ (j : Nat) (x : α), xs[j]? = some x → p x = true := by
  induction xs with
  | nil => simp [allB]
  | cons a r ih =>
    simp only [allB, Bool.and_eq_true, ih]
    constructor
    · rintro ⟨h1, h2⟩ j x hj
      cases j with
      | zero => simp at hj; subst hj; exact h1
      | succ j => exact h2 j x (by simpa using hj)
    · intro h
      exact ⟨h 0 a rfl, fun j x hj => h (j + 1) x (by simpa using hj)⟩
theorem allB_bad {α : Type} {p : α → Bool} {xs : List α} {j : Nat} {x : α} (hj : xs[j]? = some x) (h : p x = false) : allB p xs = false := by
  cases hc : allB p xs with
  | false => rfl
  | true => have := allB_iff.1 hc j x hj; rw [h] at this; cases this
noncomputable def soundB : Nat → Tr → Int → Bool
  | 0, _, _ => false
  | n + 1, .mk d m t ns ks, k => plainB (.mk d m t ns ks) && (decide (k ≤ 4) && allB (fun x => soundB n x (k + 1)) ks)

section
variable {w0 : World} {σ : Vw}

theorem pBin_sge {P : Program} {T : Nat} {a b : ByteArray} {K : Value → Prop} : pBin P T .geq (.string a) (.string b) K ↔ K (.bool (!strLt a b)) := pBin_s rfl

end
end Go.Proofs.Ytkndffhcncmbjaa
