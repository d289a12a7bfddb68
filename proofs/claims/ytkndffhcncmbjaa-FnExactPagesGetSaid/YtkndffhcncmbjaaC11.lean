/- Trees: their copy, their comparison. -/
import Derived.Test.YtkndffhcncmbjaaC10
set_option linter.unusedVariables false
set_option linter.unusedSimpArgs false
namespace Go.Proofs.Ytkndffhcncmbjaa
open Go Go.Av

section
variable {w0 : World}

/-- No list in it is too long. -/
def fitT : Nat → Tr → Prop
  | 0, _ => True
  | n + 1, .mk d m t ns ks => ns.length ≤ 1000000000000 ∧ ks.length ≤ 1000000000000 ∧ ∀ k, k ∈ ks → fitT n k
theorem fit_of : ∀ (n : Nat) (x : Tr), szT n x ≤ 1000000000000 → fitT n x
  | 0, _, _ => trivial
  | n + 1, .mk d m t ns ks, h => by
    simp only [szT] at h
    refine ⟨by omega, by omega, fun k hk => fit_of n k ?_⟩
    have := sumBy_mem (f := szT n) hk
    omega

end
end Go.Proofs.Ytkndffhcncmbjaa
