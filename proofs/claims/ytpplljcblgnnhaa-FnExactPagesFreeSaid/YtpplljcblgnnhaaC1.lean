/- The lists of texts: their size, their copy, their comparison. -/
import Derived.Test.YtpplljcblgnnhaaB1
import Derived.Test.YtpplljcblgnnhaaVC
set_option linter.unusedVariables false
set_option linter.unusedSimpArgs false
namespace Go.Proofs.Ytpplljcblgnnhaa
open Go Go.Av

section
variable {w0 : World} {σ : Vw}

def sumS : List ByteArray → Nat
  | [] => 0
  | s :: r => s.size + sumS r
theorem sumS_take {xs : List ByteArray} : ∀ {j : Nat} {x : ByteArray}, xs[j]? = some x → sumS (xs.take (j + 1)) = sumS (xs.take j) + x.size := by
  induction xs with
  | nil => intro j x h; simp at h
  | cons a r ih =>
    intro j x h
    cases j with
    | zero => simp at h; subst h; simp [sumS]
    | succ j =>
      simp at h
      have := ih h
      simp only [List.take_succ_cons, sumS, this]
      omega
theorem sumS_le {xs : List ByteArray} : ∀ (j : Nat), sumS (xs.take j) ≤ sumS xs := by
  induction xs with
  | nil => intro j; simp [sumS]
  | cons a r ih =>
    intro j
    cases j with
    | zero => simp [sumS]
    | succ j => have := ih j; simp only [List.take_succ_cons, sumS]; omega

/-- What is left of n. -/
def left (n : Int) (t : Nat) : Int := if n - t < 0 then -1 else n - t

theorem szStringS {v : Value} {xs : List ByteArray} {n : Int} (h : RSl 1 RS (Av.get w0 σ) v xs) (hn : 0 ≤ n ∧ n ≤ 9223372036854775807) {R : Value → Vw → Prop} (hR : R (.int .i64 (left n (xs.length + sumS xs))) σ) : AC Try.prog w0 n_laws_szStringS [v, .int .i64 n] σ R := by
  refine ac_laws_szStringS ?_
  unfold vc_laws_szStringS
  have hl : xs.length ≤ 9223372036854775807 := by obtain ⟨_, _, _, h2, _⟩ := h; exact Nat.le_trans h2.1 h2.2
  rw [h.len, pBin_sub (by omega), pBin_lt, pIf_d]
  refine ⟨fun hlt => ?_, fun hge => ?_⟩
  · have : left n (xs.length + sumS xs) = -1 := by unfold left; rw [if_pos (by omega)]
    rw [this] at hR; exact hR
  · refine loop_rule (m := xs.length) (fun m l s => ∃ j, s = σ ∧ m + j = xs.length ∧ 0 ≤ n - xs.length - sumS (xs.take j) ∧ l = [v, .int .i64 (n - xs.length - sumS (xs.take j)), .int .i64 0, .int .i64 (j : Nat)]) ?_ ⟨0, rfl, by omega, by simp [sumS]; omega, by simp [sumS]⟩
    rintro m l s L ⟨j, rfl, hm, h0, rfl⟩ hL
    simp only [vget, List.getD_cons_zero, List.getD_cons_succ]
    rw [h.len, pBin_lt, pIf_d]
    refine ⟨fun hj => ?_, fun hj => ?_⟩
    · have hj' : j < xs.length := by omega
      have hx := List.getElem?_eq_getElem hj'
      refine h.at hx fun g hg => ?_
      obtain ⟨hg, hs⟩ := hg
      simp only [expl, List.cons.injEq, and_true] at hg
      have ht := sumS_take hx
      have hle := sumS_le (xs := xs) (j + 1)
      rw [hg, pLenS_s, pBin_sub (by omega), pBin_lt, pIf_d]
      refine ⟨fun hlt => ?_, fun hge => ?_⟩
      · have : left n (xs.length + sumS xs) = -1 := by unfold left; rw [if_pos (by omega)]
        rw [this] at hR; exact hR
      · rw [pBin_add (by omega)]
        refine hL _ _ (m - 1) (by omega) ⟨j + 1, rfl, by omega, by omega, ?_⟩
        rw [ht]
        congr 2
        · congr 1; omega
    · have hj' : j = xs.length := by omega
      subst hj'
      rw [List.take_length] at h0 ⊢
      have : left n (xs.length + sumS xs) = n - xs.length - sumS xs := by unfold left; rw [if_neg (by omega)]; omega
      rw [this] at hR
      exact hR
end
end Go.Proofs.Ytpplljcblgnnhaa
