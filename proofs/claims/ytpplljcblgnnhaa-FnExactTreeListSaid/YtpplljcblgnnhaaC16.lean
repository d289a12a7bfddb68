/- Trees: the laws 'TreeOk' and 'TreeCount', of the functions alone. -/
import Derived.Test.YtpplljcblgnnhaaC15
set_option linter.unusedVariables false
set_option linter.unusedSimpArgs false
namespace Go.Proofs.Ytpplljcblgnnhaa
open Go Go.Av

def isDir : Tr → Bool
  | .mk d _ _ _ _ => d
noncomputable def treeOk (n : Nat) (x : Tr) : Bool := isDir x && (soundB n x 0 && decide (cntT n x ≤ 30))
noncomputable def treeCount (n : Nat) (x : Tr) : Int := if treeOk n x = true then cntT n x else 0

section
variable {w0 : World} {σ : Vw}

theorem RT.five {n : Nat} {rd : Addr → Option Value} {es : List Value} {x : Tr} (h : RT n rd es x) : ∃ a b c d e, es = [a, b, c, d, e] ∧ a = .bool (isDir x) ∧ ∀ A : Prop, pVal true 5 (.agg ⟨es⟩) A ↔ A := by
  obtain _ | n := n
  · exact h.elim
  · obtain ⟨d', m', t', ns', ks'⟩ := x
    obtain ⟨u', w', rfl, _, _, q4, q5⟩ := h
    exact ⟨_, _, _, _, _, rfl, rfl, fun A => pVal_5 rfl rfl rfl q4.one q5.one⟩

theorem spec_TreeOk {n : Nat} {es : List Value} {x : Tr} {R : Value → Vw → Prop} (h : RT n (Av.get w0 σ) es x) (hb : cntT n x ≤ 1000000000000) (hR : R (.bool (treeOk n x)) σ) : AC Try.prog w0 n_spec_TreeOk [.agg ⟨es⟩] σ R := by
  have h0 := h
  obtain ⟨a, b, c, d, e, rfl, rfl, hp⟩ := RT.five h
  refine ac_spec_TreeOk ?_
  unfold vc_spec_TreeOk
  rw [hp]
  simp only [cellOf_agg, List.getD_cons_zero, List.getD_cons_succ]
  rw [pIf_b]
  refine ⟨fun hd => ?_, fun hd => by simpa [treeOk, hd] using hR⟩
  refine spec_Parts n h0 (by omega) ?_
  rw [pIf_b]
  refine ⟨fun hs => ?_, fun hs => by simpa [treeOk, hs] using hR⟩
  refine spec_Count n h0 hb ?_
  rw [pBin_le]
  have : treeOk n x = decide ((cntT n x : Int) ≤ 30) := by
    simp only [treeOk, hd, hs, Bool.true_and]
    congr 1; apply propext; omega
  rw [this] at hR; exact hR

theorem impl_TreeOk {n : Nat} {es : List Value} {x : Tr} {R : Value → Vw → Prop} (h : RT n (Av.get w0 σ) es x) (hb : cntT n x ≤ 1000000000000) (hR : R (.bool (treeOk n x)) σ) : AC Try.prog w0 n_impl_TreeOk [.agg ⟨es⟩] σ R := by
  have h0 := h
  obtain ⟨a, b, c, d, e, rfl, rfl, hp⟩ := RT.five h
  refine ac_impl_TreeOk ?_
  unfold vc_impl_TreeOk
  rw [hp]
  simp only [cellOf_agg, List.getD_cons_zero, List.getD_cons_succ]
  rw [pIf_b]
  refine ⟨fun hd => ?_, fun hd => by simpa [treeOk, hd] using hR⟩
  refine impl_sound n h0 (by omega) ?_
  rw [pIf_b]
  refine ⟨fun hs => ?_, fun hs => by simpa [treeOk, hs] using hR⟩
  refine impl_paths n h0 hb ?_
  rw [pBin_le]
  have : treeOk n x = decide (((cntT n x + 1 : Nat) : Int) ≤ 31) := by
    simp only [treeOk, hd, hs, Bool.true_and]
    congr 1; apply propext; omega
  rw [this] at hR; exact hR

theorem spec_TreeCount {n : Nat} {es : List Value} {x : Tr} {R : Value → Vw → Prop} (h : RT n (Av.get w0 σ) es x) (hb : cntT n x ≤ 1000000000000) (hR : R (.int .i64 (treeCount n x)) σ) : AC Try.prog w0 n_spec_TreeCount [.agg ⟨es⟩] σ R := by
  have h0 := h
  obtain ⟨a, b, c, d, e, rfl, rfl, hp⟩ := RT.five h
  refine ac_spec_TreeCount ?_
  unfold vc_spec_TreeCount
  rw [hp]
  simp only [cellOf_agg, List.getD_cons_zero, List.getD_cons_succ]
  refine spec_TreeOk h0 hb ?_
  rw [pUn_not, pIf_b]
  refine ⟨fun hn => by simp at hn; simpa [treeCount, hn] using hR, fun hn => ?_⟩
  refine spec_Count n h0 hb ?_
  simp at hn
  simpa [treeCount, hn] using hR

theorem impl_TreeCount {n : Nat} {es : List Value} {x : Tr} {R : Value → Vw → Prop} (h : RT n (Av.get w0 σ) es x) (hb : cntT n x ≤ 1000000000000) (hR : R (.int .i64 (treeCount n x)) σ) : AC Try.prog w0 n_impl_TreeCount [.agg ⟨es⟩] σ R := by
  have h0 := h
  obtain ⟨a, b, c, d, e, rfl, rfl, hp⟩ := RT.five h
  refine ac_impl_TreeCount ?_
  unfold vc_impl_TreeCount
  rw [hp]
  simp only [cellOf_agg, List.getD_cons_zero, List.getD_cons_succ]
  refine impl_TreeOk h0 hb ?_
  rw [pUn_not, pIf_b]
  refine ⟨fun hn => by simp at hn; simpa [treeCount, hn] using hR, fun hn => ?_⟩
  refine impl_paths n h0 hb ?_
  rw [pBin_sub (by omega)]
  simp at hn
  rw [show ((cntT n x + 1 : Nat) : Int) - 1 = (cntT n x : Int) by omega]
  simpa [treeCount, hn] using hR

theorem law_TreeOk {n : Nat} {es : List Value} {x : Tr} (h : RT n (Av.get w0 σ) es x) {R : Value → Vw → Prop} (hR : ∀ σ', Keeps σ σ' → R (.bool true) σ') : AC Try.prog w0 n_laws_FnExactTreeOk [.agg ⟨es⟩] σ R := by
  have h0 := h
  obtain ⟨a, b, c, d, e, rfl, rfl, hp⟩ := RT.five h
  refine ac_laws_FnExactTreeOk ?_
  unfold vc_laws_FnExactTreeOk
  rw [hp]
  simp only [cellOf_agg, List.getD_cons_zero, List.getD_cons_succ]
  refine szTree n h0 (by omega) ?_
  rw [pBin_lt, pIf_d]
  refine ⟨fun _ => hR _ (Keeps.refl _), fun hb => ?_⟩
  rw [Av.left_neg] at hb
  have hsz : szT n x ≤ 1000000000000 := by omega
  have hfit := fit_of n x hsz
  have hcnt : cntT n x ≤ 1000000000000 := Nat.le_trans (cnt_le n x) hsz
  refine toTree n h0 hfit fun es1 F1 s1 k1 o1 f1 => ?_
  refine spec_TreeOk ((ok_rt w0 n).rel _ _ _ _ o1) hcnt ?_
  refine toTree n (mono_rt n _ _ _ _ k1.le h0) hfit fun es2 F2 s2 k2 o2 f2 => ?_
  have r2 := (ok_rt w0 n).rel _ _ _ _ o2
  obtain ⟨a2, b2, c2, d2, e2, rfl, q2, hp2⟩ := RT.five r2
  rw [hp2]
  simp only [cellOf_agg, List.getD_cons_zero, List.getD_cons_succ]
  refine impl_TreeOk r2 hcnt ?_
  rw [pBin_b (v := .bool false) (by kernel_rfl) (by simp), pIf_b]
  refine ⟨nofun, fun _ => ?_⟩
  have k12 := k1.trans k2
  refine toTree n (mono_rt n _ _ _ _ k12.le h0) hfit fun es3 F3 s3 k3 o3 f3 => ?_
  refine ⟨k3.ext, ?_⟩
  refine eqTree n (mono_rt n _ _ _ _ k3.le r2) ((ok_rt w0 n).rel _ _ _ _ o3) ?_
  rw [pUn_not, pIf_b]
  exact ⟨fun h => by simp at h, fun _ => hR _ (k12.trans k3)⟩

theorem law_TreeCount {n : Nat} {es : List Value} {x : Tr} (h : RT n (Av.get w0 σ) es x) {R : Value → Vw → Prop} (hR : ∀ σ', Keeps σ σ' → R (.bool true) σ') : AC Try.prog w0 n_laws_FnExactTreeCount [.agg ⟨es⟩] σ R := by
  have h0 := h
  obtain ⟨a, b, c, d, e, rfl, rfl, hp⟩ := RT.five h
  refine ac_laws_FnExactTreeCount ?_
  unfold vc_laws_FnExactTreeCount
  rw [hp]
  simp only [cellOf_agg, List.getD_cons_zero, List.getD_cons_succ]
  refine szTree n h0 (by omega) ?_
  rw [pBin_lt, pIf_d]
  refine ⟨fun _ => hR _ (Keeps.refl _), fun hb => ?_⟩
  rw [Av.left_neg] at hb
  have hsz : szT n x ≤ 1000000000000 := by omega
  have hfit := fit_of n x hsz
  have hcnt : cntT n x ≤ 1000000000000 := Nat.le_trans (cnt_le n x) hsz
  refine toTree n h0 hfit fun es1 F1 s1 k1 o1 f1 => ?_
  refine spec_TreeCount ((ok_rt w0 n).rel _ _ _ _ o1) hcnt ?_
  refine toTree n (mono_rt n _ _ _ _ k1.le h0) hfit fun es2 F2 s2 k2 o2 f2 => ?_
  have r2 := (ok_rt w0 n).rel _ _ _ _ o2
  obtain ⟨a2, b2, c2, d2, e2, rfl, q2, hp2⟩ := RT.five r2
  rw [hp2]
  simp only [cellOf_agg, List.getD_cons_zero, List.getD_cons_succ]
  refine impl_TreeCount r2 hcnt ?_
  rw [pBin_ne, pIf_d]
  refine ⟨fun h => absurd rfl h, fun _ => ?_⟩
  have k12 := k1.trans k2
  refine toTree n (mono_rt n _ _ _ _ k12.le h0) hfit fun es3 F3 s3 k3 o3 f3 => ?_
  refine ⟨k3.ext, ?_⟩
  refine eqTree n (mono_rt n _ _ _ _ k3.le r2) ((ok_rt w0 n).rel _ _ _ _ o3) ?_
  rw [pUn_not, pIf_b]
  exact ⟨fun h => by simp at h, fun _ => hR _ (k12.trans k3)⟩
end
end Go.Proofs.Ytpplljcblgnnhaa
