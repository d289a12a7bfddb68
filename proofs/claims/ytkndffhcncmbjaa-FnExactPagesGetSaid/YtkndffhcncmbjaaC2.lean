/- The lists of texts: their copy, their comparison. -/
import Derived.Test.YtkndffhcncmbjaaB2
import Derived.Test.YtkndffhcncmbjaaC1
set_option linter.unusedVariables false
set_option linter.unusedSimpArgs false
namespace Go.Proofs.Ytkndffhcncmbjaa
open Go Go.Av

section
variable {w0 : World} {σ : Vw}


end
end Go.Proofs.Ytkndffhcncmbjaa
