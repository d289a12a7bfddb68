import Derived.Test.YtpplljcblgnnhaaPFnExactPagesNeedx1
namespace Go.Proofs.Ytpplljcblgnnhaa.Pure
open Go.RowKit Go.Proofs.Ytpplljcblgnnhaa.PFnExactPagesNeed Go.Proofs.YtpplljcblgnnhaaW.PrintWords Go.Proofs.YtpplljcblgnnhaaW.PrintLast

/-- YOURS: ∀ (a0 : ByteArray), a0.size ≤ 140737488351232 → laws_FnExactPagesNeed.f a0 = some true
What it reaches (each with k first where it has rounds; `.mono`: more rounds tell the same; `.l0`, ..: its loops, with `.mono_l`): spec_PagesNeed.f, impl_pieces.f, impl_PagesNeed.f, laws_FnExactPagesNeed.f -/
theorem need_same (a : ByteArray) : impl_PagesNeed.f a = spec_PagesNeed.f a := by
  unfold impl_PagesNeed.f impl_pieces.f
  rw [if_neg (show ¬ (40 : Int) = 0 by omega)]
  rfl

theorem need_bind {z : Option Int} (h : z ≠ none) : (z.bind fun t102 => (z.bind fun t103 => (if t103 = t102 then (some true) else (some false)))) = some true := by
  cases z with
  | none => exact absurd rfl h
  | some v => simp

theorem spec_some (a : ByteArray) : spec_PagesNeed.f a ≠ none := by
  unfold spec_PagesNeed.f
  exact Option.some_ne_none _

theorem FnExactPagesNeed : laws_FnExactPagesNeed.Pure := by
  intro a _
  unfold laws_FnExactPagesNeed.f
  rw [need_same, need_bind (spec_some a), ite_self]

end Go.Proofs.Ytpplljcblgnnhaa.Pure
