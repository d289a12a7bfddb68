/- The law 'TrailOk', of the functions alone. -/
import Derived.Test.YtpplljcblgnnhaaC8
set_option linter.unusedVariables false
set_option linter.unusedSimpArgs false
namespace Go.Proofs.Ytpplljcblgnnhaa
open Go Go.Av

section
variable {w0 : World} {σ : Vw}

theorem sumBy_mem {α : Type} {f : α → Nat} : ∀ {xs : List α} {x : α}, x ∈ xs → f x ≤ sumBy f xs
  | a :: r, x, h => by
    simp only [sumBy]
    rcases List.mem_cons.1 h with e | e
    · subst e; omega
    · have := sumBy_mem (f := f) e; omega

theorem law_TrailOk {v : Value} {ms : List Mk} (h : RSl 2 RMk (Av.get w0 σ) v ms) {R : Value → Vw → Prop} (hR : ∀ σ', Keeps σ σ' → R (.bool true) σ') : AC Try.prog w0 n_laws_FnExactTrailOk [v] σ R := by
  refine ac_laws_FnExactTrailOk ?_
  unfold vc_laws_FnExactTrailOk
  refine szMarkS h (by omega) ?_
  rw [pBin_lt, pIf_d]
  refine ⟨fun _ => hR _ (Keeps.refl _), fun hb => ?_⟩
  rw [Av.left_neg] at hb
  have hlen : ms.length ≤ 1000000000000 := by omega
  have heach : ∀ x, x ∈ ms → x.1.length ≤ 1000000000000 := fun x hx => by
    have := sumBy_mem (f := szMk) hx
    unfold szMk at this hb
    omega
  refine toMarkS h hlen heach fun v1 F1 s1 k1 o1 f1 => ?_
  refine spec_TrailOk (OSl.rel (ok_mk w0) o1) ?_
  refine toMarkS (h.mono k1.le fun _ _ => mono_mk k1.le) hlen heach fun v2 F2 s2 k2 o2 f2 => ?_
  refine impl_TrailOk (OSl.rel (ok_mk w0) o2) ?_
  rw [pBin_b (v := .bool false) (by kernel_rfl) (by simp), pIf_b]
  refine ⟨nofun, fun _ => ?_⟩
  have k12 := k1.trans k2
  refine toMarkS (h.mono k12.le fun _ _ => mono_mk k12.le) hlen heach fun v3 F3 s3 k3 o3 f3 => ?_
  refine eqMarkS ((OSl.rel (ok_mk w0) o2).mono k3.le fun _ _ => mono_mk k3.le) (OSl.rel (ok_mk w0) o3) ?_
  rw [pUn_not, pIf_b]
  exact ⟨fun h => by simp at h, fun _ => hR _ (k12.trans k3)⟩
end
end Go.Proofs.Ytpplljcblgnnhaa
