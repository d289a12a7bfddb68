import Derived.Test.YtpplljcblgnnhaaPFnExactPagesNewx5
namespace Go.Proofs.Ytpplljcblgnnhaa.Pure
open Go.RowKit Go.Proofs.Ytpplljcblgnnhaa.PFnExactPagesNew Go.Proofs.YtpplljcblgnnhaaW.PrintWords Go.Proofs.YtpplljcblgnnhaaW.PrintLast

/-- YOURS: ∃ k, laws_FnExactPagesNew.f k  = some true
What it reaches (each with k first where it has rounds; `.mono`: more rounds tell the same; `.l0`, ..: its loops, with `.mono_l`): spec_PagesNew.f, impl_PagesNew.f, laws_eqPage.f, laws_eqPageS.f, laws_eqPageName.f, laws_eqPageNameS.f, laws_eqPages.f, laws_markText.f, laws_markPageS.f, laws_markPageNameS.f, laws_markPages.f, laws_heldPageS.f, laws_heldPageNameS.f, laws_heldPages.f, laws_FnExactPagesNew.f -/
theorem FnExactPagesNew : laws_FnExactPagesNew.Pure := by
  exact ⟨200, by kernel_rfl⟩

end Go.Proofs.Ytpplljcblgnnhaa.Pure
