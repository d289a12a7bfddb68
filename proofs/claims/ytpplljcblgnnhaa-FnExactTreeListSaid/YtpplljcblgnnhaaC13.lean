/- Trees: sound by either reading. -/
import Derived.Test.YtpplljcblgnnhaaC12
set_option linter.unusedVariables false
set_option linter.unusedSimpArgs false
namespace Go.Proofs.Ytpplljcblgnnhaa
open Go Go.Av

section
variable {w0 : World}

theorem spec_Parts : ∀ (n : Nat) {σ : Vw} {es : List Value} {x : Tr} {k : Int} {R : Value → Vw → Prop}, RT n (Av.get w0 σ) es x → (0 ≤ k ∧ k ≤ 5) → R (.bool (soundB n x k)) σ → AC Try.prog w0 n_spec_l1Parts [.agg ⟨es⟩, .int .i64 k] σ R
  | 0, _, _, _, _, _, h, _, _ => h.elim
  | n + 1, σ, es, .mk d m t ns ks, k, R, h, hk, hR => by
    have h0 := h
    obtain ⟨u, w, rfl, h2, h3, h4, h5⟩ := h
    refine ac_spec_l1Parts ?_
    unfold vc_spec_l1Parts
    have hl := h5.le
    rw [pVal_5 rfl rfl rfl h4.one h5.one]
    simp only [cellOf_agg, List.getD_cons_zero, List.getD_cons_succ]
    refine spec_Plain h0 ?_
    rw [pUn_not, pIf_b]
    refine ⟨fun hb => ?_, fun hg => ?_⟩
    · have : soundB (n + 1) (.mk d m t ns ks) k = false := by simp at hb; simp [soundB, hb]
      rw [this] at hR; exact hR
    have hg' : plainB (.mk d m t ns ks) = true := by simpa using hg
    rw [pBin_gt, pIf_d]
    refine ⟨fun hb => ?_, fun hle => ?_⟩
    · have : soundB (n + 1) (.mk d m t ns ks) k = false := by
        have : ¬ k ≤ 4 := by omega
        simp [soundB, this]
      rw [this] at hR; exact hR
    have hle' : k ≤ 4 := by omega
    have hs : soundB (n + 1) (.mk d m t ns ks) k = allB (fun x => soundB n x (k + 1)) ks := by simp [soundB, hg', hle']
    rw [hs] at hR
    refine loop_rule (m := ks.length) (fun c l s => ∃ j, s = σ ∧ c + j = ks.length ∧ (∀ (i : Nat) (x : Tr), i < j → ks[i]? = some x → soundB n x (k + 1) = true) ∧ l = [.int .i64 k, .bool false, .int .i64 (j : Nat), .bool d, .int .i64 m, .string t, u, w]) ?_ ⟨0, rfl, by omega, fun i x h => by omega, rfl⟩
    rintro c l s L ⟨j, rfl, hc, ht, rfl⟩ hL
    simp only [vget, List.getD_cons_zero, List.getD_cons_succ]
    rw [h5.len, pBin_lt, pIf_d]
    refine ⟨fun hj => ?_, fun hj => ?_⟩
    · have hx := List.getElem?_eq_getElem (show j < ks.length by omega)
      generalize hxj : ks[j] = x at hx
      refine h5.at hx fun g hg => ?_
      rw [pBin_add (by omega)]
      refine spec_Parts n (x := x) hg (by omega) ?_
      rw [pUn_not, pIf_b]
      refine ⟨fun hb => ?_, fun hb => ?_⟩
      · rw [allB_bad hx (by simpa using hb)] at hR; exact hR
      · rw [pBin_add (by omega)]
        refine hL _ _ (c - 1) (by omega) ⟨j + 1, rfl, by omega, fun i y hi he => ?_, rfl⟩
        by_cases e : i = j
        · subst e; rw [hx] at he; cases he; simpa using hb
        · exact ht i y (by omega) he
    · have hj' : j = ks.length := by omega
      subst hj'
      rw [allB_iff.2 fun i x he => ht i x (List.getElem?_eq_some_iff.1 he).1 he] at hR
      exact hR
end
end Go.Proofs.Ytpplljcblgnnhaa
