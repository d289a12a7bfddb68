/- The laws 'PagesOk' and 'PagesFree', of the functions alone. -/
import Derived.Test.YtpplljcblgnnhaaF6
set_option linter.unusedVariables false
set_option linter.unusedSimpArgs false
namespace Go.Proofs.Ytpplljcblgnnhaa
open Go Go.Av

section
variable {w0 : World} {σ : Vw}

noncomputable def pagesFree (x : Pgs) : Int := if pagesOk x = true then freeN x.1 else 0

theorem RPgs.pair {rd : Addr → Option Value} {es : List Value} {x : Pgs} (h : RPgs rd es x) : ∃ a b, es = [a, b] := by
  obtain ⟨u, v, rfl, _⟩ := h
  exact ⟨u, v, rfl⟩

theorem spec_PagesFree {es : List Value} {x : Pgs} (h : RPgs (Av.get w0 σ) es x) (hl : x.1.length ≤ 1000000000000) {R : Value → Vw → Prop} (hR : ∀ σ', Keeps σ σ' → R (.int .i64 (pagesFree x)) σ') : AC Try.prog w0 n_spec_PagesFree [.agg ⟨es⟩] σ R := by
  have h0 := h
  refine ac_spec_PagesFree ?_
  unfold vc_spec_PagesFree
  rw [h.two]
  obtain ⟨a, b, rfl⟩ := h.pair
  simp only [cellOf_agg, List.getD_cons_zero, List.getD_cons_succ]
  refine spec_PagesOk h0 fun s1 k1 => ?_
  have hR1 := hR s1 k1
  rw [pUn_not, pIf_b]
  refine ⟨fun hn => by simp at hn; simpa [pagesFree, hn] using hR1, fun hn => ?_⟩
  refine spec_Free (mono_pgs k1.le h0) hl ?_
  simp at hn
  simpa [pagesFree, hn] using hR1
theorem impl_PagesFree {es : List Value} {x : Pgs} (h : RPgs (Av.get w0 σ) es x) (hl : x.1.length ≤ 1000000000000) {R : Value → Vw → Prop} (hR : ∀ σ', Keeps σ σ' → R (.int .i64 (pagesFree x)) σ') : AC Try.prog w0 n_impl_PagesFree [.agg ⟨es⟩] σ R := by
  have h0 := h
  refine ac_impl_PagesFree ?_
  unfold vc_impl_PagesFree
  rw [h.two]
  obtain ⟨a, b, rfl⟩ := h.pair
  simp only [cellOf_agg, List.getD_cons_zero, List.getD_cons_succ]
  refine impl_PagesOk h0 fun s1 k1 => ?_
  have hR1 := hR s1 k1
  rw [pUn_not, pIf_b]
  refine ⟨fun hn => by simp at hn; simpa [pagesFree, hn] using hR1, fun hn => ?_⟩
  refine impl_Free (mono_pgs k1.le h0) hl ?_
  simp at hn
  simpa [pagesFree, hn] using hR1

theorem law_PagesOk {es : List Value} {x : Pgs} (h : RPgs (Av.get w0 σ) es x) {R : Value → Vw → Prop} (hR : ∀ σ', R (.bool true) σ') : AC Try.prog w0 n_laws_FnExactPagesOk [.agg ⟨es⟩] σ R := by
  have h0 := h
  refine ac_laws_FnExactPagesOk ?_
  unfold vc_laws_FnExactPagesOk
  rw [h.two]
  obtain ⟨a, b, rfl⟩ := h.pair
  simp only [cellOf_agg, List.getD_cons_zero, List.getD_cons_succ]
  refine szPages h0 (by omega) ?_
  rw [pBin_lt, pIf_d]
  refine ⟨fun _ => hR _, fun hb => ?_⟩
  rw [Av.left_neg] at hb
  have hsz : szPgs x = (x.1.length + sumBy szPg x.1) + (x.2.length + sumBy szPn x.2) := rfl
  refine toPages h0 (by omega) (by omega) fun es1 F1 s1 k1 o1 f1 => ?_
  refine spec_PagesOk ((ok_pgs w0).rel _ _ _ _ o1) fun s2 k2 => ?_
  have k12 := k1.trans k2
  refine toPages (mono_pgs k12.le h0) (by omega) (by omega) fun es2 F2 s3 k3 o2 f2 => ?_
  have r2 := (ok_pgs w0).rel _ _ _ _ o2
  rw [r2.two]
  obtain ⟨a2, b2, rfl⟩ := r2.pair
  simp only [cellOf_agg, List.getD_cons_zero, List.getD_cons_succ]
  refine impl_PagesOk r2 fun s4 k4 => ?_
  rw [pBin_b (v := .bool false) (by kernel_rfl) (by simp), pIf_b]
  refine ⟨nofun, fun _ => ?_⟩
  have K4 := (k12.trans k3).trans k4
  refine toPages (mono_pgs K4.le h0) (by omega) (by omega) fun es3 F3 s5 k5 o3 f3 => ?_
  refine ⟨k5.ext, ?_⟩
  refine eqPages (mono_pgs (k4.trans k5).le r2) ((ok_pgs w0).rel _ _ _ _ o3) ?_
  rw [pUn_not, pIf_b]
  exact ⟨fun h => by simp at h, fun _ => hR _⟩

theorem law_PagesFree {es : List Value} {x : Pgs} (h : RPgs (Av.get w0 σ) es x) {R : Value → Vw → Prop} (hR : ∀ σ', R (.bool true) σ') : AC Try.prog w0 n_laws_FnExactPagesFree [.agg ⟨es⟩] σ R := by
  have h0 := h
  refine ac_laws_FnExactPagesFree ?_
  unfold vc_laws_FnExactPagesFree
  rw [h.two]
  obtain ⟨a, b, rfl⟩ := h.pair
  simp only [cellOf_agg, List.getD_cons_zero, List.getD_cons_succ]
  refine szPages h0 (by omega) ?_
  rw [pBin_lt, pIf_d]
  refine ⟨fun _ => hR _, fun hb => ?_⟩
  rw [Av.left_neg] at hb
  have hsz : szPgs x = (x.1.length + sumBy szPg x.1) + (x.2.length + sumBy szPn x.2) := rfl
  refine toPages h0 (by omega) (by omega) fun es1 F1 s1 k1 o1 f1 => ?_
  refine spec_PagesFree ((ok_pgs w0).rel _ _ _ _ o1) (by omega) fun s2 k2 => ?_
  have k12 := k1.trans k2
  refine toPages (mono_pgs k12.le h0) (by omega) (by omega) fun es2 F2 s3 k3 o2 f2 => ?_
  have r2 := (ok_pgs w0).rel _ _ _ _ o2
  rw [r2.two]
  obtain ⟨a2, b2, rfl⟩ := r2.pair
  simp only [cellOf_agg, List.getD_cons_zero, List.getD_cons_succ]
  refine impl_PagesFree r2 (by omega) fun s4 k4 => ?_
  rw [pBin_ne, pIf_d]
  refine ⟨fun h => absurd rfl h, fun _ => ?_⟩
  have K4 := (k12.trans k3).trans k4
  refine toPages (mono_pgs K4.le h0) (by omega) (by omega) fun es3 F3 s5 k5 o3 f3 => ?_
  refine ⟨k5.ext, ?_⟩
  refine eqPages (mono_pgs (k4.trans k5).le r2) ((ok_pgs w0).rel _ _ _ _ o3) ?_
  rw [pUn_not, pIf_b]
  exact ⟨fun h => by simp at h, fun _ => hR _⟩
end
end Go.Proofs.Ytpplljcblgnnhaa
