/- The laws 'PagesOk' and 'PagesFree', of the functions alone. -/
import Derived.Test.YtkndffhcncmbjaaF6
set_option linter.unusedVariables false
set_option linter.unusedSimpArgs false
namespace Go.Proofs.Ytkndffhcncmbjaa
open Go Go.Av

section
variable {w0 : World} {σ : Vw}

noncomputable def pagesFree (x : Pgs) : Int := if pagesOk x = true then freeN x.1 else 0

theorem RPgs.pair {rd : Addr → Option Value} {es : List Value} {x : Pgs} (h : RPgs rd es x) : ∃ a b, es = [a, b] := by
  obtain ⟨u, v, rfl, _⟩ := h
  exact ⟨u, v, rfl⟩

theorem spec_PagesFree {es : List Value} {x : Pgs} (h : RPgs (Av.get w0 σ) es x) (hl : x.1.length ≤ 1000000000000) {R : Value → Vw → Prop} (hR : ∀ σ', Keeps σ σ' → R (.int .i64 (pagesFree x)) σ') : AC Try.prog w0 n_spec_PagesFree [.agg ⟨es⟩] σ R := by
  have h0 := h
  refine ac_spec_PagesFree ?_
  unfold vc_spec_PagesFree
  rw [h.two]
  obtain ⟨a, b, rfl⟩ := h.pair
  simp only [cellOf_agg, List.getD_cons_zero, List.getD_cons_succ]
  refine spec_PagesOk h0 fun s1 k1 => ?_
  have hR1 := hR s1 k1
  rw [pUn_not, pIf_b]
  refine ⟨fun hn => by simp at hn; simpa [pagesFree, hn] using hR1, fun hn => ?_⟩
  refine spec_Free (mono_pgs k1.le h0) hl ?_
  simp at hn
  simpa [pagesFree, hn] using hR1
theorem impl_PagesFree {es : List Value} {x : Pgs} (h : RPgs (Av.get w0 σ) es x) (hl : x.1.length ≤ 1000000000000) {R : Value → Vw → Prop} (hR : ∀ σ', Keeps σ σ' → R (.int .i64 (pagesFree x)) σ') : AC Try.prog w0 n_impl_PagesFree [.agg ⟨es⟩] σ R := by
  have h0 := h
  refine ac_impl_PagesFree ?_
  unfold vc_impl_PagesFree
  rw [h.two]
  obtain ⟨a, b, rfl⟩ := h.pair
  simp only [cellOf_agg, List.getD_cons_zero, List.getD_cons_succ]
  refine impl_PagesOk h0 fun s1 k1 => ?_
  have hR1 := hR s1 k1
  rw [pUn_not, pIf_b]
  refine ⟨fun hn => by simp at hn; simpa [pagesFree, hn] using hR1, fun hn => ?_⟩
  refine impl_Free (mono_pgs k1.le h0) hl ?_
  simp at hn
  simpa [pagesFree, hn] using hR1

end
end Go.Proofs.Ytkndffhcncmbjaa
