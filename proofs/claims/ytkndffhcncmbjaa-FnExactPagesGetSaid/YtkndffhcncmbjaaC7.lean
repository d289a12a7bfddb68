/- Paths: their order, what lies within what; marks. -/
import Derived.Test.YtkndffhcncmbjaaC6
set_option linter.unusedVariables false
set_option linter.unusedSimpArgs false
namespace Go.Proofs.Ytkndffhcncmbjaa
open Go Go.Av

section
variable {w0 : World} {σ : Vw}

/-- What Go's comparison of texts gives. -/
def cmpS (a b : ByteArray) : Int := if strLt a b then -1 else if a = b then 0 else 1
theorem within_false {xs ys : List ByteArray} {j : Nat} {a b : ByteArray} (hx : xs[j]? = some a) (hy : ys[j]? = some b) (h : a ≠ b) : within xs ys = false := by
  unfold within
  simp only [decide_eq_false_iff_not]
  rintro ⟨h1, h2⟩
  have hlt := (List.getElem?_eq_some_iff.1 hy).1
  rw [← h2, List.getElem?_take_of_lt hlt, hx] at hy
  cases hy; exact h rfl

noncomputable def markOkB (x : Mk) : Bool := if x.1 = [] then x.2 else allNames x.1 && inB x.1.length 1 4

end
end Go.Proofs.Ytkndffhcncmbjaa
