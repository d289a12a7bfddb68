/- The law 'TrailOk', of the functions alone. -/
import Derived.Test.YtkndffhcncmbjaaC8
set_option linter.unusedVariables false
set_option linter.unusedSimpArgs false
namespace Go.Proofs.Ytkndffhcncmbjaa
open Go Go.Av

section
variable {w0 : World} {σ : Vw}

theorem sumBy_mem {α : Type} {f : α → Nat} : ∀ {xs : List α} {x : α}, x ∈ xs → f x ≤ sumBy f xs
  | a :: r, x, h => by
    simp only [sumBy]
    rcases List.mem_cons.1 h with e | e
    · subst e; omega
    · have := sumBy_mem (f := f) e; omega

end
end Go.Proofs.Ytkndffhcncmbjaa
