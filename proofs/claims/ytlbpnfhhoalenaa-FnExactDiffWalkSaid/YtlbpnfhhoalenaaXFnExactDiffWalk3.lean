/- The law FnExactDiffWalk holds: it returns true, and the input reads as it did. No condition. This is part 3 of 3 of its proof. -/
import Derived.Test.YtlbpnfhhoalenaaXFnExactDiffWalk2
import Derived.Shelf.Strings.Builder1
import Derived.Shelf.Strings.Builder2
import Derived.Shelf.Strings.OnBuilder
import Derived.Shelf.Small.Bits
import Derived.Shelf.Strconv.Itoa0
import Derived.Shelf.Sort.Plain
import Derived.Shelf.Slices.CompactS
import Derived.Shelf.Slices.Cells
import Derived.Shelf.Slices.In.SortNone
import Derived.Test.YtlbpnfhhoalenaaProg
import Derived.Lib.AppendIntMem
import Derived.Lib.SlicesCompact
import Derived.Sort.Walk0
import Derived.Test.YtlbpnfhhoalenaaRows
import Derived.WalkKit
import Derived.ProofKit
import Derived.OpenShut
import Derived.ShutString
import Derived.ChangeOld
import Derived.Below
import Derived.Carry
import Derived.SizedLaws

/- Trees: sound by either reading. -/
set_option linter.unusedVariables false
set_option linter.unusedSimpArgs false
namespace Go.Proofs.Ytlbpnfhhoalenaa
open Go Go.Av

section
variable {w0 : World}

theorem spec_Parts : ∀ (n : Nat) {σ : Vw} {es : List Value} {x : Tr} {k : Int} {R : Value → Vw → Prop}, RT n (Av.get w0 σ) es x → (0 ≤ k ∧ k ≤ 5) → R (.bool (soundB n x k)) σ → AC Try.prog w0 n_spec_l1Parts [.agg ⟨es⟩, .int .i64 k] σ R
  | 0, _, _, _, _, _, h, _, _ => h.elim
  | n + 1, σ, es, .mk d m t ns ks, k, R, h, hk, hR => by
    have h0 := h
    obtain ⟨u, w, rfl, h2, h3, h4, h5⟩ := h
    refine ac_spec_l1Parts ?_
    unfold vc_spec_l1Parts
    have hl := h5.le
    rw [pVal_5 rfl rfl rfl h4.one h5.one]
    simp only [cellOf_agg, List.getD_cons_zero, List.getD_cons_succ]
    refine spec_Plain h0 ?_
    rw [pUn_not, pIf_b]
    refine ⟨fun hb => ?_, fun hg => ?_⟩
    · have : soundB (n + 1) (.mk d m t ns ks) k = false := by simp at hb; simp [soundB, hb]
      rw [this] at hR; exact hR
    have hg' : plainB (.mk d m t ns ks) = true := by simpa using hg
    rw [pBin_gt, pIf_d]
    refine ⟨fun hb => ?_, fun hle => ?_⟩
    · have : soundB (n + 1) (.mk d m t ns ks) k = false := by
        have : ¬ k ≤ 4 := by omega
        simp [soundB, this]
      rw [this] at hR; exact hR
    have hle' : k ≤ 4 := by omega
    have hs : soundB (n + 1) (.mk d m t ns ks) k = allB (fun x => soundB n x (k + 1)) ks := by simp [soundB, hg', hle']
    rw [hs] at hR
    refine loop_rule (m := ks.length) (fun c l s => ∃ j, s = σ ∧ c + j = ks.length ∧ (∀ (i : Nat) (x : Tr), i < j → ks[i]? = some x → soundB n x (k + 1) = true) ∧ l = [.int .i64 k, .bool false, .int .i64 (j : Nat), .bool d, .int .i64 m, .string t, u, w]) ?_ ⟨0, rfl, by omega, fun i x h => by omega, rfl⟩
    rintro c l s L ⟨j, rfl, hc, ht, rfl⟩ hL
    simp only [vget, List.getD_cons_zero, List.getD_cons_succ]
    rw [h5.len, pBin_lt, pIf_d]
    refine ⟨fun hj => ?_, fun hj => ?_⟩
    · have hx := List.getElem?_eq_getElem (show j < ks.length by omega)
      generalize hxj : ks[j] = x at hx
      refine h5.at hx fun g hg => ?_
      rw [pBin_add (by omega)]
      refine spec_Parts n (x := x) hg (by omega) ?_
      rw [pUn_not, pIf_b]
      refine ⟨fun hb => ?_, fun hb => ?_⟩
      · rw [allB_bad hx (by simpa using hb)] at hR; exact hR
      · rw [pBin_add (by omega)]
        refine hL _ _ (c - 1) (by omega) ⟨j + 1, rfl, by omega, fun i y hi he => ?_, rfl⟩
        by_cases e : i = j
        · subst e; rw [hx] at he; cases he; simpa using hb
        · exact ht i y (by omega) he
    · have hj' : j = ks.length := by omega
      subst hj'
      rw [allB_iff.2 fun i x he => ht i x (List.getElem?_eq_some_iff.1 he).1 he] at hR
      exact hR
end
end Go.Proofs.Ytlbpnfhhoalenaa

/- Trees: sound by the program's own reading. -/
set_option linter.unusedVariables false
set_option linter.unusedSimpArgs false
namespace Go.Proofs.Ytlbpnfhhoalenaa
open Go Go.Av

section
variable {w0 : World}

theorem impl_sound : ∀ (n : Nat) {σ : Vw} {es : List Value} {x : Tr} {k : Int} {R : Value → Vw → Prop}, RT n (Av.get w0 σ) es x → (0 ≤ k ∧ k ≤ 5) → R (.bool (soundB n x k)) σ → AC Try.prog w0 n_impl_Tree_sound [.agg ⟨es⟩, .int .i64 k] σ R
  | 0, _, _, _, _, _, h, _, _ => h.elim
  | n + 1, σ, es, .mk d m t ns ks, k, R, h, hk, hR => by
    have h0 := h
    obtain ⟨u, w, rfl, h2, h3, h4, h5⟩ := h
    refine ac_impl_Tree_sound ?_
    unfold vc_impl_Tree_sound
    have hl := h4.le
    rw [pVal_5 rfl rfl rfl h4.one h5.one]
    simp only [cellOf_agg, List.getD_cons_zero, List.getD_cons_succ]
    have no : soundB (n + 1) (.mk d m t ns ks) k = false → R (.bool false) σ := fun e => by rw [e] at hR; exact hR
    refine ac_impl_modeOk ?_
    unfold vc_impl_modeOk
    refine impl_within ?_
    show pUn .not (.bool _) _
    rw [pUn_not, pIf_b]
    refine ⟨fun hb => no (by simp at hb; simp [soundB, plainB, hb]), fun hm => ?_⟩
    have hm' : inB m 0 7 = true := by simpa using hm
    rw [pBin_gt, pIf_d]
    refine ⟨fun hb => no (by have : ¬ k ≤ 4 := by omega
                             simp [soundB, this]), fun hle => ?_⟩
    have hle' : k ≤ 4 := by omega
    rw [h4.len, h5.len, pBin_ne, pIf_d]
    refine ⟨fun hne => no (by have : ¬ ns.length = ks.length := by omega
                              simp [soundB, plainB, this]), fun heq => ?_⟩
    have heq' : ns.length = ks.length := by omega
    rw [pUn_not, pIf_b]
    refine ⟨fun hd => ?_, fun hd => ?_⟩
    · have hd' : d = false := by simpa using hd
      subst hd'
      rw [pLenS_s, pBin_le, pIf_d]
      refine ⟨fun htx => ?_, fun htx => no (by have : ¬ t.size ≤ 24 := by omega
                                               simp [soundB, plainB, this])⟩
      rw [h4.len, pBin_eq]
      have e : soundB (n + 1) (.mk false m t ns ks) k = decide ((ns.length : Int) = 0) := by
        have e1 : t.size ≤ 24 := by omega
        by_cases hz : ns.length = 0
        · have hkz : ks = [] := List.length_eq_zero_iff.1 (by omega)
          have hnz : ns = [] := List.length_eq_zero_iff.1 hz
          subst hkz hnz
          simp [soundB, plainB, hm', hle', e1, allB]
        · have hz' : ¬ ((ns.length : Int) = 0) := by omega
          have hz2 : ¬ (ks.length = 0) := by omega
          simp [soundB, plainB, heq', hz', hz2]
      rw [e] at hR; exact hR
    · have hd' : d = true := by simpa using hd
      subst hd'
      rw [pBin_sne, pIf_d]
      refine ⟨fun htx => no (by simp [soundB, plainB, htx]), fun htx => ?_⟩
      have htx' := Decidable.not_not.1 htx
      rw [h4.len]
      refine loop_rule (m := ns.length) (fun c l s => ∃ j, s = σ ∧ c + j = ns.length ∧ (∀ (i : Nat) (x : ByteArray), i < j → ns[i]? = some x → nameAt ns i x = true) ∧ (∀ (i : Nat) (x : Tr), i < j → ks[i]? = some x → soundB n x (k + 1) = true) ∧ l = [.int .i64 k, .bool false, u, .int .i64 ns.length, .int .i64 (j : Nat), .bool true, .int .i64 m, .string t, u, w]) ?_ ⟨0, rfl, by omega, fun i x h => by omega, fun i x h => by omega, rfl⟩
      rintro c l s L ⟨j, rfl, hc, ht, hkd, rfl⟩ hL
      simp only [vget, List.getD_cons_zero, List.getD_cons_succ]
      rw [pBin_lt, pIf_d]
      refine ⟨fun hj => ?_, fun hj => ?_⟩
      · have hx := List.getElem?_eq_getElem (show j < ns.length by omega)
        generalize hxj : ns[j] = x at hx
        have hkk := List.getElem?_eq_getElem (show j < ks.length by omega)
        generalize hkj : ks[j] = kid at hkk
        have bad : nameAt ns j x = false → R (.bool false) s := fun hb => no (by
          have : ¬ namesP ns := fun hh => by rw [hh j x hx] at hb; cases hb
          simp [soundB, plainB, this])
        have last : nameAt ns j x = true → pIndexAddr 5 w (.int .i64 j) (fun v35 => pLoad w0 5 v35 s (fun g36 => pBin Try.prog 3 .add (.int .i64 k) (.int .i64 1) (fun v37 => AC Try.prog w0 n_impl_Tree_sound [.agg ⟨[g36 0, g36 1, g36 2, g36 3, g36 4]⟩, v37] s (fun v38 s39 => pUn .not v38 (fun v40 => pIf v40 (R (.bool false) s39) (pBin Try.prog 3 .add (.int .i64 j) (.int .i64 1) (fun v41 => L [.int .i64 k, .bool false, u, .int .i64 ns.length, v41, .bool true, .int .i64 m, .string t, u, w] s39))))))) := by
          intro hgood
          refine h5.at hkk fun g hg => ?_
          rw [pBin_add (by omega)]
          refine impl_sound n (x := kid) hg (by omega) ?_
          rw [pUn_not, pIf_b]
          refine ⟨fun hb => no ?_, fun hb => ?_⟩
          · have := allB_bad (p := fun x => soundB n x (k + 1)) hkk (by simpa using hb)
            simp [soundB, this]
          · rw [pBin_add (by omega)]
            refine hL _ _ (c - 1) (by omega) ⟨j + 1, rfl, by omega, fun i y hi he => ?_, fun i y hi he => ?_, rfl⟩
            · by_cases e : i = j
              · subst e; rw [hx] at he; cases he; exact hgood
              · exact ht i y (by omega) he
            · by_cases e : i = j
              · subst e; rw [hkk] at he; cases he; simpa using hb
              · exact hkd i y (by omega) he
        refine RSl.at1 h4 hx fun g hg hs => ?_
        rw [hg]
        refine impl_nameOk hs ?_
        rw [pUn_not, pIf_b]
        refine ⟨fun hb => bad (by simp at hb; simp [nameAt, hb]), fun hg => ?_⟩
        have hg' : nameOk x = true := by simpa using hg
        rw [pBin_gt, pIf_d]
        refine ⟨fun hpos => ?_, fun h0 => ?_⟩
        · obtain ⟨i, rfl⟩ : ∃ i, j = i + 1 := ⟨j - 1, by omega⟩
          rw [pBin_sub (by omega)]
          have hy := List.getElem?_eq_getElem (show i < ns.length by omega)
          generalize hyi : ns[i] = y at hy
          rw [show ((i + 1 : Nat) : Int) - 1 = (i : Nat) by omega]
          refine RSl.at1 h4 hy fun g2 hg2 hs2 => ?_
          have hpl : prevLt ns (i + 1) x = strLt y x := by simp [prevLt, hy]
          rw [hg2, pBin_sge, pIf_b]
          refine ⟨fun hb => bad (by simp at hb; simp [nameAt, hpl, hb]), fun hb => ?_⟩
          exact last (by simp at hb; simp [nameAt, hg', hpl, hb])
        · have : j = 0 := by omega
          subst this
          exact last (by simp [nameAt, hg', prevLt])
      · have hj' : j = ns.length := by omega
        subst hj'
        have e1 : namesP ns := fun i x he => ht i x (List.getElem?_eq_some_iff.1 he).1 he
        have e2 : allB (fun x => soundB n x (k + 1)) ks = true := allB_iff.2 fun i x he => hkd i x (by have := (List.getElem?_eq_some_iff.1 he).1; omega) he
        have e : soundB (n + 1) (.mk true m t ns ks) k = true := by simp [soundB, plainB, hm', heq', e1, htx', hle', e2]
        rw [e] at hR; exact hR
end
end Go.Proofs.Ytlbpnfhhoalenaa

/- Trees: how many paths; the laws 'TreeOk' and 'TreeCount', of the functions alone. -/
set_option linter.unusedVariables false
set_option linter.unusedSimpArgs false
namespace Go.Proofs.Ytlbpnfhhoalenaa
open Go Go.Av

def cntT : Nat → Tr → Nat
  | 0, _ => 0
  | n + 1, .mk d m t ns ks => ks.length + sumBy (cntT n) ks
theorem sumBy_mono {α : Type} {f g : α → Nat} : ∀ {xs : List α}, (∀ x, x ∈ xs → f x ≤ g x) → sumBy f xs ≤ sumBy g xs
  | [], _ => by simp [sumBy]
  | a :: r, h => by
    have := sumBy_mono (xs := r) fun x hx => h x (List.mem_cons_of_mem _ hx)
    have := h a List.mem_cons_self
    simp only [sumBy]; omega
theorem sumBy_one {α : Type} {f : α → Nat} : ∀ {xs : List α}, sumBy (fun x => f x + 1) xs = sumBy f xs + xs.length
  | [] => by simp [sumBy]
  | a :: r => by have := sumBy_one (f := f) (xs := r); simp only [sumBy, List.length_cons, this]; omega
theorem cnt_le : ∀ (n : Nat) (x : Tr), cntT n x ≤ szT n x
  | 0, _ => by simp [cntT, szT]
  | n + 1, .mk d m t ns ks => by
    have := sumBy_mono (xs := ks) fun x _ => cnt_le n x
    simp only [cntT, szT]; omega

section
variable {w0 : World}

theorem spec_Count : ∀ (n : Nat) {σ : Vw} {es : List Value} {x : Tr} {R : Value → Vw → Prop}, RT n (Av.get w0 σ) es x → cntT n x ≤ 1000000000000 → R (.int .i64 (cntT n x)) σ → AC Try.prog w0 n_spec_l1Count [.agg ⟨es⟩] σ R
  | 0, _, _, _, _, h, _, _ => h.elim
  | n + 1, σ, es, .mk d m t ns ks, R, h, hb, hR => by
    obtain ⟨u, w, rfl, h2, h3, h4, h5⟩ := h
    refine ac_spec_l1Count ?_
    unfold vc_spec_l1Count
    rw [pVal_5 rfl rfl rfl h4.one h5.one]
    simp only [cellOf_agg, List.getD_cons_zero, List.getD_cons_succ]
    simp only [cntT] at hb hR
    rw [h5.len]
    refine loop_rule (m := ks.length) (fun c l s => ∃ j, s = σ ∧ c + j = ks.length ∧ l = [.int .i64 ((ks.length + sumBy (cntT n) (ks.take j) : Nat) : Int), .int .i64 (j : Nat), .bool d, .int .i64 m, .string t, u, w]) ?_ ⟨0, rfl, by omega, by simp [sumBy]⟩
    rintro c l s L ⟨j, rfl, hc, rfl⟩ hL
    simp only [vget, List.getD_cons_zero, List.getD_cons_succ]
    rw [h5.len, pBin_lt, pIf_d]
    refine ⟨fun hj => ?_, fun hj => ?_⟩
    · have hx := List.getElem?_eq_getElem (show j < ks.length by omega)
      generalize hxj : ks[j] = x at hx
      refine h5.at hx fun g hg => ?_
      have ht := sumBy_take (f := cntT n) hx
      have hle := sumBy_le (f := cntT n) (xs := ks) (j + 1)
      refine spec_Count n (x := x) hg (by omega) ?_
      rw [pBin_add (by omega), pBin_add (by omega)]
      refine hL _ _ (c - 1) (by omega) ⟨j + 1, rfl, by omega, ?_⟩
      rw [ht]
      congr 2
      omega
    · have hj' : j = ks.length := by omega
      subst hj'
      rw [List.take_length]
      exact hR

theorem impl_paths : ∀ (n : Nat) {σ : Vw} {es : List Value} {x : Tr} {R : Value → Vw → Prop}, RT n (Av.get w0 σ) es x → cntT n x ≤ 1000000000000 → R (.int .i64 ((cntT n x + 1 : Nat) : Int)) σ → AC Try.prog w0 n_impl_Tree_paths [.agg ⟨es⟩] σ R
  | 0, _, _, _, _, h, _, _ => h.elim
  | n + 1, σ, es, .mk d m t ns ks, R, h, hb, hR => by
    obtain ⟨u, w, rfl, h2, h3, h4, h5⟩ := h
    refine ac_impl_Tree_paths ?_
    unfold vc_impl_Tree_paths
    rw [pVal_5 rfl rfl rfl h4.one h5.one]
    simp only [cellOf_agg, List.getD_cons_zero, List.getD_cons_succ]
    simp only [cntT] at hb hR
    rw [h5.len]
    refine loop_rule (m := ks.length) (fun c l s => ∃ j, s = σ ∧ c + j = ks.length ∧ l = [.int .i64 ((1 + sumBy (fun x => cntT n x + 1) (ks.take j) : Nat) : Int), w, .int .i64 ks.length, .int .i64 (j : Nat)]) ?_ ⟨0, rfl, by omega, by simp [sumBy]⟩
    have hsum := sumBy_one (f := cntT n) (xs := ks)
    rintro c l s L ⟨j, rfl, hc, rfl⟩ hL
    simp only [vget, List.getD_cons_zero, List.getD_cons_succ]
    rw [pBin_lt, pIf_d]
    refine ⟨fun hj => ?_, fun hj => ?_⟩
    · have hx := List.getElem?_eq_getElem (show j < ks.length by omega)
      generalize hxj : ks[j] = x at hx
      refine h5.at hx fun g hg => ?_
      have ht := sumBy_take (f := fun x => cntT n x + 1) hx
      have hle := sumBy_le (f := fun x => cntT n x + 1) (xs := ks) (j + 1)
      have hin : ∀ (A : Prop), A → pVal true 5 (.agg ⟨[g 0, g 1, g 2, g 3, g 4]⟩) A := fun A hA => ⟨⟨_, rfl, rfl, (by
        obtain _ | n := n
        · exact hg.elim
        · obtain ⟨d', m', t', ns', ks'⟩ := x
          obtain ⟨u', w', e, _, _, q4, q5⟩ := hg
          have e' : [g 0, g 1, g 2, g 3, g 4] = [.bool d', .int .i64 m', .string t', u', w'] := e
          rw [e']
          intro c hc
          simp at hc
          rcases hc with rfl | rfl | rfl | rfl | rfl
          · rfl
          · rfl
          · rfl
          · exact q4.one
          · exact q5.one)⟩, hA⟩
      refine hin _ ?_
      refine impl_paths n (x := x) hg (by omega) ?_
      rw [pBin_add (by omega), pBin_add (by omega)]
      refine hL _ _ (c - 1) (by omega) ⟨j + 1, rfl, by omega, ?_⟩
      rw [ht]
      congr 2
      omega
    · have hj' : j = ks.length := by omega
      subst hj'
      rw [List.take_length, hsum]
      show R (.int .i64 _) s
      rw [show ((1 + (sumBy (cntT n) ks + ks.length) : Nat) : Int) = ((ks.length + sumBy (cntT n) ks + 1 : Nat) : Int) by omega]
      exact hR
end
end Go.Proofs.Ytlbpnfhhoalenaa

/- Trees: the laws 'TreeOk' and 'TreeCount', of the functions alone. -/
set_option linter.unusedVariables false
set_option linter.unusedSimpArgs false
namespace Go.Proofs.Ytlbpnfhhoalenaa
open Go Go.Av

def isDir : Tr → Bool
  | .mk d _ _ _ _ => d
noncomputable def treeOk (n : Nat) (x : Tr) : Bool := isDir x && (soundB n x 0 && decide (cntT n x ≤ 30))
section
variable {w0 : World} {σ : Vw}

theorem RT.five {n : Nat} {rd : Addr → Option Value} {es : List Value} {x : Tr} (h : RT n rd es x) : ∃ a b c d e, es = [a, b, c, d, e] ∧ a = .bool (isDir x) ∧ ∀ A : Prop, pVal true 5 (.agg ⟨es⟩) A ↔ A := by
  obtain _ | n := n
  · exact h.elim
  · obtain ⟨d', m', t', ns', ks'⟩ := x
    obtain ⟨u', w', rfl, _, _, q4, q5⟩ := h
    exact ⟨_, _, _, _, _, rfl, rfl, fun A => pVal_5 rfl rfl rfl q4.one q5.one⟩

theorem spec_TreeOk {n : Nat} {es : List Value} {x : Tr} {R : Value → Vw → Prop} (h : RT n (Av.get w0 σ) es x) (hb : cntT n x ≤ 1000000000000) (hR : R (.bool (treeOk n x)) σ) : AC Try.prog w0 n_spec_TreeOk [.agg ⟨es⟩] σ R := by
  have h0 := h
  obtain ⟨a, b, c, d, e, rfl, rfl, hp⟩ := RT.five h
  refine ac_spec_TreeOk ?_
  unfold vc_spec_TreeOk
  rw [hp]
  simp only [cellOf_agg, List.getD_cons_zero, List.getD_cons_succ]
  rw [pIf_b]
  refine ⟨fun hd => ?_, fun hd => by simpa [treeOk, hd] using hR⟩
  refine spec_Parts n h0 (by omega) ?_
  rw [pIf_b]
  refine ⟨fun hs => ?_, fun hs => by simpa [treeOk, hs] using hR⟩
  refine spec_Count n h0 hb ?_
  rw [pBin_le]
  have : treeOk n x = decide ((cntT n x : Int) ≤ 30) := by
    simp only [treeOk, hd, hs, Bool.true_and]
    congr 1; apply propext; omega
  rw [this] at hR; exact hR

theorem impl_TreeOk {n : Nat} {es : List Value} {x : Tr} {R : Value → Vw → Prop} (h : RT n (Av.get w0 σ) es x) (hb : cntT n x ≤ 1000000000000) (hR : R (.bool (treeOk n x)) σ) : AC Try.prog w0 n_impl_TreeOk [.agg ⟨es⟩] σ R := by
  have h0 := h
  obtain ⟨a, b, c, d, e, rfl, rfl, hp⟩ := RT.five h
  refine ac_impl_TreeOk ?_
  unfold vc_impl_TreeOk
  rw [hp]
  simp only [cellOf_agg, List.getD_cons_zero, List.getD_cons_succ]
  rw [pIf_b]
  refine ⟨fun hd => ?_, fun hd => by simpa [treeOk, hd] using hR⟩
  refine impl_sound n h0 (by omega) ?_
  rw [pIf_b]
  refine ⟨fun hs => ?_, fun hs => by simpa [treeOk, hs] using hR⟩
  refine impl_paths n h0 hb ?_
  rw [pBin_le]
  have : treeOk n x = decide (((cntT n x + 1 : Nat) : Int) ≤ 31) := by
    simp only [treeOk, hd, hs, Bool.true_and]
    congr 1; apply propext; omega
  rw [this] at hR; exact hR

end
end Go.Proofs.Ytlbpnfhhoalenaa

/- How a tree is opened that came with the call. -/
set_option linter.unusedVariables false
set_option linter.unusedSimpArgs false
namespace Go.Proofs.Ytlbpnfhhoalenaa
open Go Go.Av Go.RowKit

theorem RT_up : ∀ (n : Nat) (rd : Addr → Option Value) (es : List Value) (x : Tr), RT n rd es x → RT (n + 1) rd es x
  | 0, _, _, _, h => h.elim
  | n + 1, rd, es, .mk d m t ns ks, h => by
    obtain ⟨u, w, h1, h2, h3, h4, h5⟩ := h
    exact ⟨u, w, h1, h2, h3, h4, h5.imp fun es x h => RT_up n rd es x h⟩
theorem RT_le {n m : Nat} (h : n ≤ m) {rd : Addr → Option Value} {es : List Value} {x : Tr} (hr : RT n rd es x) : RT m rd es x := by
  obtain ⟨k, rfl⟩ := Nat.exists_eq_add_of_le h
  clear h
  induction k with
  | zero => exact hr
  | succ k ih => exact RT_up _ _ _ _ ih

theorem cut5 {es : List Value} {a b c d e : Value} (hl : es.length = 5) (h0 : (es.drop 0).take 1 = [a]) (h1 : (es.drop 1).take 1 = [b]) (h2 : (es.drop 2).take 1 = [c]) (h3 : (es.drop 3).take 1 = [d]) (h4 : (es.drop 4).take 1 = [e]) : es = [a, b, c, d, e] := by
  match es, hl with
  | [p, q, r, s, t], _ =>
    simp at h0 h1 h2 h3 h4
    subst h0 h1 h2 h3 h4
    rfl

theorem open_tree {H : Type} {enc : TypeId × Value → H} {W : World} {spare : Nat → Bool} : ∀ (fuel : Nat) (es : List Value) (y : DataW H × List MemPlace), DataW.trod enc Try.prog W 0 spare true fuel t_laws_Tree es = some y → es.length = 5 → ∃ x, RT fuel (Av.get W σ0) es x := by
  intro fuel
  induction fuel using Nat.strongRecOn with
  | _ fuel ih =>
    intro es y h hl
    have hT : Try.prog.underlying t_laws_Tree = some (.struct (fsOf Try.prog t_laws_Tree)) := by kernel_rfl
    obtain ⟨f0, y0, l0, h0⟩ := open_field' hT 0 t_bool 0 1 (by kernel_rfl) (by kernel_rfl) h
    obtain ⟨f1, y1, l1, h1⟩ := open_field' hT 1 t_int 1 1 (by kernel_rfl) (by kernel_rfl) h
    obtain ⟨f2, y2, l2, h2⟩ := open_field' hT 2 t_string 2 1 (by kernel_rfl) (by kernel_rfl) h
    obtain ⟨f3, y3, l3, h3⟩ := open_field' hT 3 t_s_string 3 1 (by kernel_rfl) (by kernel_rfl) h
    obtain ⟨f4, y4, l4, h4⟩ := open_field' hT 4 t_s_laws_Tree 4 1 (by kernel_rfl) (by kernel_rfl) h
    obtain ⟨b, hb⟩ := open_bool (by kernel_rfl) h0
    obtain ⟨m, hm, hm2⟩ := open_int (by kernel_rfl) h1
    obtain ⟨t, ht, ht2⟩ := open_str (by kernel_rfl) h2
    obtain ⟨u, ns, hu, hus⟩ := open_rsl (t := t_s_string) (e := t_string) (by kernel_rfl) (by kernel_rfl) (open_rs (by kernel_rfl)) h3
    obtain ⟨w, ks, hw, hws⟩ := open_rsl' (R := RT (fuel - 1)) (t := t_s_laws_Tree) (e := t_laws_Tree) (n := 5) (by kernel_rfl) (by kernel_rfl) (fun m' es' y' hm' ht' hl' => by
      obtain ⟨x, hx⟩ := ih m' (by omega) es' y' ht' hl'
      exact ⟨x, RT_le (by omega) hx⟩) h4
    have e := cut5 hl hb hm ht hu hw
    refine ⟨.mk b m t ns ks, ?_⟩
    obtain ⟨n, rfl⟩ : ∃ n, fuel = n + 1 := ⟨fuel - 1, by omega⟩
    exact ⟨u, w, e, hm2, ht2, hus, hws⟩
end Go.Proofs.Ytlbpnfhhoalenaa

/- Entries of a layer: size, copy, comparison, marks. -/
set_option linter.unusedVariables false
set_option linter.unusedSimpArgs false
namespace Go.Proofs.Ytlbpnfhhoalenaa
open Go Go.Av

theorem pNotIf {b : Bool} {A B : Prop} : pUn .not (.bool b) (fun v => pIf v A B) ↔ (b = false → A) ∧ (b = true → B) := by
  rw [pUn_not, pIf_b]
  cases b <;> simp

/-- An entry: a path, what it is, a bool, a number, bytes. -/
abbrev En := List ByteArray × Int × Bool × Int × ByteArray
def enOk (x : En) : Prop := (-9223372036854775808 ≤ x.2.1 ∧ x.2.1 ≤ 9223372036854775807) ∧ (-9223372036854775808 ≤ x.2.2.2.1 ∧ x.2.2.2.1 ≤ 9223372036854775807) ∧ x.2.2.2.2.size ≤ 9223372036854775807
def REn (rd : Addr → Option Value) (es : List Value) (x : En) : Prop := ∃ v, es = [v, .int .i64 x.2.1, .bool x.2.2.1, .int .i64 x.2.2.2.1, .string x.2.2.2.2] ∧ RSl 1 RS rd v x.1 ∧ enOk x
def OEn (w0 : World) (σ : Vw) (F : List Nat) (es : List Value) (x : En) : Prop := ∃ v, es = [v, .int .i64 x.2.1, .bool x.2.2.1, .int .i64 x.2.2.2.1, .string x.2.2.2.2] ∧ OStrs w0 σ F v x.1 ∧ enOk x
def cEn (x : En) : Nat := x.1.length + 4
noncomputable def mkEn (k : Nat) (x : En) : En := (mkTexts k x.1, ((k + x.1.length : Nat) : Int), decide (((k + x.1.length + 1 : Nat) : Int) % 3 = 0), ((k + x.1.length + 2 : Nat) : Int), mtext (k + x.1.length + 3))

section
variable {w0 : World} {σ : Vw}

theorem ok_en (w0 : World) : OOk w0 5 REn (OEn w0) := by
  refine ⟨?_, ?_, ?_, ?_, ?_, ?_⟩
  · rintro σ F es x ⟨v, h1, h2, h3⟩; exact ⟨v, h1, h2.rel (ok_str w0), h3⟩
  · rintro σ σ' F es x ⟨v, h1, h2, h3⟩ hF; exact ⟨v, h1, h2.frame (ok_str w0) hF, h3⟩
  · rintro σ F es x ⟨v, h1, h2, h3⟩; exact h2.dom (ok_str w0)
  · rintro σ F es x ⟨v, h1, h2, h3⟩; exact h2.2.1
  · rintro σ F es x ⟨v, rfl, h2, h3⟩; rfl
  · rintro σ F es x ⟨v, rfl, h2, h3⟩ c hc
    simp at hc
    rcases hc with rfl | rfl | rfl | rfl | rfl
    · exact OSl.one' h2
    · rfl
    · rfl
    · rfl
    · rfl
theorem mono_en {rd rd' : Addr → Option Value} {es : List Value} {x : En} (hl : Le rd rd') (h : REn rd es x) : REn rd' es x := by
  obtain ⟨v, h1, h2, h3⟩ := h; exact ⟨v, h1, h2.mono hl fun _ _ h => h, h3⟩

theorem eqEntry {es es' : List Value} {x y : En} {R : Value → Vw → Prop} (h : REn (Av.get w0 σ) es x) (h' : REn (Av.get w0 σ) es' y) (hR : R (.bool (decide (x = y))) σ) : AC Try.prog w0 n_laws_eqEntry [.agg ⟨es⟩, .agg ⟨es'⟩] σ R := by
  obtain ⟨p, k, d, a, t⟩ := x
  obtain ⟨p', k', d', a', t'⟩ := y
  obtain ⟨v, rfl, hv, _⟩ := h
  obtain ⟨v', rfl, hv', _⟩ := h'
  refine ac_laws_eqEntry ?_
  unfold vc_laws_eqEntry
  rw [pVal_5 hv.one rfl rfl rfl rfl, pVal_5 hv'.one rfl rfl rfl rfl]
  simp only [cellOf_agg, List.getD_cons_zero, List.getD_cons_succ]
  have no : ¬ ((p, k, d, a, t) : En) = (p', k', d', a', t') → R (.bool false) σ := fun h => by rw [decide_eq_false h] at hR; exact hR
  have eb : ∀ K : Value → Prop, pBin Try.prog 4 .neq (.bool d) (.bool d') K ↔ K (.bool !(d == d')) := fun K => pBin_b (by kernel_rfl) rfl
  refine eqStringS hv hv' ?_
  rw [pUn_not, pIf_b]
  refine ⟨fun e => no (fun h => by simp at h e; exact e h.1), fun e1 => ?_⟩
  rw [pBin_ne, pIf_d]
  refine ⟨fun e => no (fun h => e (by simp at h; exact h.2.1)), fun e2 => ?_⟩
  rw [eb, pIf_b]
  refine ⟨fun e => no (fun h => by simp at h e; exact e h.2.2.1), fun e3 => ?_⟩
  rw [pBin_ne, pIf_d]
  refine ⟨fun e => no (fun h => e (by simp at h; exact h.2.2.2.1)), fun e4 => ?_⟩
  rw [pBin_sne, pIf_d]
  refine ⟨fun e => no (fun h => e (by simp at h; exact h.2.2.2.2)), fun e5 => ?_⟩
  have : ((p, k, d, a, t) : En) = (p', k', d', a', t') := by
    simp at e1 e3
    rw [e1, Decidable.not_not.1 e2, e3, Decidable.not_not.1 e4, Decidable.not_not.1 e5]
  rw [decide_eq_true this] at hR; exact hR

theorem eqEntryS {v v' : Value} {xs ys : List En} (h : RSl 5 REn (Av.get w0 σ) v xs) (h' : RSl 5 REn (Av.get w0 σ) v' ys) {R : Value → Vw → Prop} (hR : R (.bool (decide (xs = ys))) σ) : AC Try.prog w0 n_laws_eqEntryS [v, v'] σ R := by
  refine ac_laws_eqEntryS ?_
  have e : vc_laws_eqEntryS w0 v v' σ R = VeqS Try.prog w0 3 5 n_laws_eqEntry v v' σ R := by kernel_rfl
  rw [e]
  exact eqS_gen (fun x _ y es es' R' h h' hR => eqEntry h h' hR) h h' hR

theorem markEntryS {F : List Nat} {v : Value} {xs : List En} {k : Nat} (h : OSl w0 5 (OEn w0) σ F v xs) (hk : k + sumBy cEn xs ≤ 1000000000000) {R : Value → Vw → Prop}
    (hR : ∀ σ', KeepsBut F σ σ' → OSl w0 5 (OEn w0) σ' F v (mkS mkEn cEn k xs) → R (.int .i64 ((k + sumBy cEn xs : Nat) : Int)) σ') : AC Try.prog w0 n_laws_markEntryS [v, .int .i64 (k : Nat)] σ R := by
  refine ac_laws_markEntryS ?_
  unfold vc_laws_markEntryS
  refine mark_loop (ok_en w0) (mk := mkEn) (cnt := cEn) h hk ?_ hR
  intro j x k' s ys K hj hlen hkb hx hk' hO hyj hK
  simp only [vget, List.getD_cons_zero, List.getD_cons_succ]
  obtain ⟨b, o, f, c, A, C, r, hix, hb, hr, hc, hA, hOx, hbF, hf, hput⟩ := hO.focus (ok_en w0) hyj
  obtain ⟨p, q, d, a, t⟩ := x
  obtain ⟨u, rfl, h4, _⟩ := hOx
  simp only [cEn] at hk' hK h4
  have hb1 : b ∉ f := fun e => (hf b e).2 rfl
  refine hix _ ?_
  refine field_load hb hr hc hA (y := u) rfl fun g hg => ?_
  rw [hg]
  refine markStringS h4 (by omega) fun s3 k3 o4' => ?_
  have hr3 := k3 b r hr hb1
  refine hix _ ?_
  refine field_store hr3 hc hA (by show 1 < 5; omega) rfl ?_
  simp only [List.set_cons_zero, List.set_cons_succ]
  rw [pBin_add (by omega), pBin_rem (by omega), pBin_eq]
  refine hix _ ?_
  refine field_store put_at rfl hA (by show 2 < 5; omega) rfl ?_
  simp only [List.set_cons_zero, List.set_cons_succ]
  rw [put_put, pBin_add (by omega)]
  refine hix _ ?_
  refine field_store put_at rfl hA (by show 3 < 5; omega) rfl ?_
  simp only [List.set_cons_zero, List.set_cons_succ]
  rw [put_put, pBin_add (by omega)]
  rw [show ((k' + p.length : Nat) : Int) + 1 + 1 + 1 = ((k' + p.length + 3 : Nat) : Int) by omega]
  refine markText (k := k' + p.length + 3) (by omega) fun s5 k5 => ?_
  refine hix _ ?_
  refine field_store (k5 _ _ put_at) rfl hA (by show 4 < 5; omega) rfl ?_
  simp only [List.set_cons_zero, List.set_cons_succ]
  rw [pBin_add (by omega), pBin_add (by have := h.1; omega)]
  have kf : ∀ i, i ∈ f → i ∈ F := fun i hi => (hf i hi).1
  rw [show ((k' + p.length : Nat) : Int) + 1 + 1 = ((k' + p.length + 2 : Nat) : Int) by omega, show ((k' + p.length : Nat) : Int) + 1 = ((k' + p.length + 1 : Nat) : Int) by omega]
  generalize hs4 : s5.put b _ = s4
  have hs4b : ∃ r2, s4 b = some r2 ∧ r2.cells = A ++ ([u, Value.int .i64 ((k' + p.length : Nat) : Int), Value.bool (decide (((k' + p.length + 1 : Nat) : Int) % 3 = 0)), Value.int .i64 ((k' + p.length + 2 : Nat) : Int), Value.string (mtext (k' + p.length + 3))] ++ C) := by rw [← hs4]; exact ⟨_, put_at, rfl⟩
  have hs4o : ∀ i, i ≠ b → ∀ ri, s3 i = some ri → s4 i = some ri := fun i hi ri hri => by
    rw [← hs4]
    simp only [Vw.put, hi, if_false]
    exact k5 i ri (by simp [Vw.put, hi, hri])
  clear hs4
  obtain ⟨r2, hr2, hc2⟩ := hs4b
  have o5 := o4'.frame (ok_str w0) (σ' := s4) fun i hi => by
    cases hs : s3 i with
    | none => exact absurd hs (o4'.dom (ok_str w0) i hi).2
    | some ri => exact hs4o i (fun e => hb1 (e ▸ hi)) ri hs
  have kb : KeepsBut F s s4 := fun i ri hri hiF => hs4o i (fun e => hiF (e ▸ hbF)) ri (k3 i ri hri fun e => hiF (kf i e))
  have := hK s4 kb (hput s4 _ (mkEn k' (p, q, d, a, t)) r2 hr2 hc2 ⟨u, rfl, o5, ?_⟩ fun i hi hne hif => ?_)
  · rw [show (k' + (p.length + 4) : Nat) = k' + p.length + 3 + 1 by omega] at this
    exact this
  · refine ⟨?_, ?_, ?_⟩
    · show -9223372036854775808 ≤ ((k' + p.length : Nat) : Int) ∧ ((k' + p.length : Nat) : Int) ≤ 9223372036854775807; omega
    · show -9223372036854775808 ≤ ((k' + p.length + 2 : Nat) : Int) ∧ ((k' + p.length + 2 : Nat) : Int) ≤ 9223372036854775807; omega
    · exact mtext_size (k := k' + p.length + 3) (by omega)
  · have dd := hO.dom (ok_en w0) i hi
    cases hs : s i with
    | none => exact absurd hs dd.2
    | some ri => exact hs4o i hne ri (k3 i ri hs hif)

theorem heldEntryS {v : Value} {xs : List En} {k : Nat} (h : RSl 5 REn (Av.get w0 σ) v (mkS mkEn cEn k xs)) (hk : k + sumBy cEn xs ≤ 1000000000000) {R : Value → Vw → Prop}
    (hR : ∀ σ', Keeps σ σ' → R (.int .i64 ((k + sumBy cEn xs : Nat) : Int)) σ') : AC Try.prog w0 n_laws_heldEntryS [v, .int .i64 (k : Nat)] σ R := by
  refine ac_laws_heldEntryS ?_
  unfold vc_laws_heldEntryS
  refine held_loop (n := 5) (Rel := REn) (fun _ _ _ _ hl h => mono_en hl h) (mk := mkEn) (cnt := cEn) h hk ?_ hR
  intro j x k' s K hj hkb hx hk' hrd hyj hK
  have hl := h.le
  rw [mkS_len] at hl
  obtain ⟨p, q, d, a, t⟩ := x
  simp only [cEn] at hk' hK
  simp only [vget, List.getD_cons_zero, List.getD_cons_succ]
  refine hrd.atf hyj 0 (by omega) fun es g h1 hg => ?_
  obtain ⟨u, rfl, h2, _⟩ := h1
  simp only [List.getElem?_cons_zero, List.getElem?_cons_succ, Option.some.injEq] at hg
  rw [← hg]
  have h2 : RSl 1 RS (Av.get w0 s) u (mkTexts k' p) := h2
  refine heldStringS h2 (by omega) fun s1 k1 => ?_
  rw [pBin_lt, pIf_d]
  refine ⟨fun h => by omega, fun _ => ?_⟩
  have hrd1 := hrd.mono k1.le fun es x => mono_en k1.le
  refine hrd1.atf hyj 1 (by omega) fun es g h1 hg => ?_
  obtain ⟨u', rfl, _⟩ := h1
  simp only [List.getElem?_cons_zero, List.getElem?_cons_succ, Option.some.injEq] at hg
  rw [← hg, pBin_ne, pIf_d]
  refine ⟨fun h => absurd rfl h, fun _ => ?_⟩
  rw [pBin_add (by omega), show ((k' + p.length : Nat) : Int) + 1 = ((k' + p.length + 1 : Nat) : Int) by omega]
  refine hrd1.atf hyj 2 (by omega) fun es g h1 hg => ?_
  obtain ⟨u', rfl, _⟩ := h1
  simp only [List.getElem?_cons_zero, List.getElem?_cons_succ, Option.some.injEq] at hg
  rw [← hg, pBin_rem (by omega), pBin_eq, pBin_b (v := .bool false) (by kernel_rfl) (by simp [mkEn]), pIf_b]
  refine ⟨nofun, fun _ => ?_⟩
  rw [pBin_add (by omega), show ((k' + p.length + 1 : Nat) : Int) + 1 = ((k' + p.length + 2 : Nat) : Int) by omega]
  refine hrd1.atf hyj 3 (by omega) fun es g h1 hg => ?_
  obtain ⟨u', rfl, _⟩ := h1
  simp only [List.getElem?_cons_zero, List.getElem?_cons_succ, Option.some.injEq] at hg
  rw [← hg, pBin_ne, pIf_d]
  refine ⟨fun h => absurd rfl h, fun _ => ?_⟩
  rw [pBin_add (by omega), show ((k' + p.length + 2 : Nat) : Int) + 1 = ((k' + p.length + 3 : Nat) : Int) by omega]
  refine hrd1.atfp hyj 4 (by omega) fun qq es g h1 hg => ?_
  obtain ⟨u', rfl, _⟩ := h1
  simp only [List.getElem?_cons_zero, List.getElem?_cons_succ, Option.some.injEq] at hg
  refine markText (k := k' + p.length + 3) (by omega) fun s2 k2 => ⟨k2.stay, ?_⟩
  rw [← hg, pBin_sne, pIf_d]
  refine ⟨fun h => absurd rfl h, fun _ => ?_⟩
  rw [pBin_add (by omega), pBin_add (by omega)]
  have := hK s2 (k1.trans k2)
  rw [show (k' + (p.length + 4) : Nat) = k' + p.length + 3 + 1 by omega] at this
  exact this
end

end Go.Proofs.Ytlbpnfhhoalenaa

/- Texts as lists of bytes; what is cut at a byte; decimals. Plain. -/
set_option linter.unusedVariables false
set_option linter.unusedSimpArgs false
namespace Go.Av
open Go Go.RowKit

abbrev bl (s : ByteArray) : List UInt8 := s.data.toList
def ofL (l : List UInt8) : ByteArray := ⟨l.toArray⟩
theorem bl_ofL (l : List UInt8) : bl (ofL l) = l := rfl
theorem bl_inj {a b : ByteArray} (h : bl a = bl b) : a = b := by
  cases a; cases b
  simp only [ByteArray.mk.injEq]
  exact Array.toList_inj.1 h
theorem ofL_bl (s : ByteArray) : ofL (bl s) = s := bl_inj (bl_ofL _)
/-! ### Decimals -/
end Go.Av

/- A contract of the kit's, as one of ours. -/
set_option linter.unusedVariables false
set_option linter.unusedSimpArgs false
namespace Go.Av
open Go Go.RowKit

theorem Aft.below {w0 w w' : World} {σ : Vw} (h : Sat w0 σ w) (k : Below w.heap.size w w') : Aft w0 σ w σ w' := by
  refine ⟨⟨h.bel.trans (k.mono h.bel.size), fun b r hb => ?_⟩, k.size, fun b hb _ => k.block b hb, fun b r hb => .inl (by rw [hb]; simp)⟩
  obtain ⟨h1, cur, hc, h2⟩ := h.row b r hb
  exact ⟨h1, cur, (k.block b (h.lt hb)).trans hc, h2⟩

end Go.Av

/- A disk's rows: the law 'DiskOk', of the functions alone. -/
set_option linter.unusedVariables false
set_option linter.unusedSimpArgs false
namespace Go.Proofs.Ytlbpnfhhoalenaa
open Go Go.Av

section
variable {w0 : World} {σ : Vw}

theorem left_neg {n : Int} {t : Nat} : left n t < 0 ↔ n < t := by unfold left; split <;> omega
end
end Go.Proofs.Ytlbpnfhhoalenaa

/- Writes of a disk: the law 'DiskWrite', of the functions alone. -/
set_option linter.unusedVariables false
set_option linter.unusedSimpArgs false
namespace Go.Proofs.Ytlbpnfhhoalenaa
open Go Go.Av

section
variable {w0 : World} {σ : Vw}

end
end Go.Proofs.Ytlbpnfhhoalenaa

/- The law 'DiskWrite', of the functions alone. -/
set_option linter.unusedVariables false
set_option linter.unusedSimpArgs false
namespace Go.Proofs.Ytlbpnfhhoalenaa
open Go Go.Av

section
variable {w0 : World} {σ : Vw}

end
end Go.Proofs.Ytlbpnfhhoalenaa

/-
  DERIVED: THE SHELF's CONTRACTS AT THIS DUMP, IN PLAIN WORDS (tools/lay-plain.mjs out of 'TryShelf.lean', which tools/lay-shelf.mjs wrote): THE SAME DECLARATIONS UNDER THE SAME NAMES: 'import', 'namespace', 'open', 'def', 'theorem' AND NOTHING ELSE: no command of the shelf's: FOR A HAND-IN. Each laying: the table of numbers ('.._ren') and one theorem, a field a fact of the dump's own or the kernel's comparison; each contract: ONE APPLICATION.
-/
namespace Go.Proofs
open Go.Shelf
def Try.lays190_ren : Go.Shelf.Ren := ⟨fun | 190 => 149 | 125 => 146 | 258 => 167 | 128 => 165 | 129 => 166 | 302 => 180 | 303 => 181 | 304 => 182 | 305 => 183 | 306 => 184 | 307 => 185 | 308 => 186 | 309 => 187 | 310 => 188 | 333 => 191 | 329 => 176 | 330 => 177 | 334 => 192 | 335 => 193 | 336 => 151 | 344 => 194 | n => n, fun | 31 => 29 | 9 => 9 | 3 => 3 | 46 => 154 | 0 => 0 | 51 => 170 | 53 => 172 | 4 => 4 | 183 => 163 | 182 => 162 | 131 => 167 | 5 => 5 | 218 => 180 | 222 => 184 | 228 => 193 | 229 => 194 | n => n, fun | n => n⟩
theorem Try.lays190 : Go.Proofs.Lays.n190 Try.prog Try.lays190_ren := {
  mixed := by kernel_rfl
  f125 := Try.func146.trans (congrArg some (by kernel_rfl))
  f128 := Try.func165.trans (congrArg some (by kernel_rfl))
  f129 := Try.func166.trans (congrArg some (by kernel_rfl))
  f190 := Try.func149.trans (congrArg some (by kernel_rfl))
  f258 := Try.func167.trans (congrArg some (by kernel_rfl))
  f302 := Try.func180.trans (congrArg some (by kernel_rfl))
  f303 := Try.func181.trans (congrArg some (by kernel_rfl))
  f304 := Try.func182.trans (congrArg some (by kernel_rfl))
  f305 := Try.func183.trans (congrArg some (by kernel_rfl))
  f306 := Try.func184.trans (congrArg some (by kernel_rfl))
  f307 := Try.func185.trans (congrArg some (by kernel_rfl))
  f308 := Try.func186.trans (congrArg some (by kernel_rfl))
  f309 := Try.func187.trans (congrArg some (by kernel_rfl))
  f310 := Try.func188.trans (congrArg some (by kernel_rfl))
  f329 := Try.func176.trans (congrArg some (by kernel_rfl))
  f330 := Try.func177.trans (congrArg some (by kernel_rfl))
  f333 := Try.func191.trans (congrArg some (by kernel_rfl))
  f334 := Try.func192.trans (congrArg some (by kernel_rfl))
  f335 := Try.func193.trans (congrArg some (by kernel_rfl))
  f336 := Try.func151.trans (congrArg some (by kernel_rfl))
  f344 := Try.func194.trans (congrArg some (by kernel_rfl))
  t0 := Try.underlying0
  a0 := Try.isAgg0
  z0 := Try.sizeOf0
  v0 := Try.zeroValue0
  t3 := Try.underlying3
  a3 := Try.isAgg3
  z3 := Try.sizeOf3
  v3 := Try.zeroValue3
  t4 := Try.underlying4
  a4 := Try.isAgg4
  z4 := Try.sizeOf4
  v4 := Try.zeroValue4
  t5 := Try.underlying5
  a5 := Try.isAgg5
  z5 := Try.sizeOf5
  v5 := Try.zeroValue5
  t9 := Try.underlying9
  a9 := Try.isAgg9
  z9 := Try.sizeOf9
  v9 := Try.zeroValue9
  t31 := Try.underlying29
  a31 := Try.isAgg29
  z31 := Try.sizeOf29
  v31 := Try.zeroValue29
  t46 := Try.underlying154
  a46 := Try.isAgg154
  z46 := Try.sizeOf154
  v46 := Try.zeroValue154
  t51 := Try.underlying170
  a51 := Try.isAgg170
  z51 := Try.sizeOf170
  v51 := Try.zeroValue170
  t53 := Try.underlying172
  a53 := Try.isAgg172
  z53 := Try.sizeOf172
  v53 := Try.zeroValue172
  t131 := Try.underlying167
  a131 := Try.isAgg167
  z131 := Try.sizeOf167
  v131 := Try.zeroValue167
  t182 := Try.underlying162
  a182 := Try.isAgg162
  z182 := Try.sizeOf162
  v182 := Try.zeroValue162
  t183 := Try.underlying163
  a183 := Try.isAgg163
  z183 := Try.sizeOf163
  v183 := Try.zeroValue163
  t218 := Try.underlying180
  a218 := Try.isAgg180
  z218 := Try.sizeOf180
  v218 := Try.zeroValue180
  t222 := Try.underlying184
  a222 := Try.isAgg184
  z222 := Try.sizeOf184
  v222 := Try.zeroValue184
  t228 := Try.underlying193
  a228 := Try.isAgg193
  z228 := Try.sizeOf193
  v228 := Try.zeroValue193
  t229 := Try.underlying194
  a229 := Try.isAgg194
  z229 := Try.sizeOf194
  v229 := Try.zeroValue194 }
open Go.Sort Go.RowKit in
theorem Try.slices_Sort_string (blk off cap : Nat) (ss : List (List UInt8)) (w : World) (hH : Holds encStr w blk off ss.toArray) (hblk : blk < w.heap.size) (hsz : ss.length < 4611686018427387904) :
    Calls Try.prog 149 #[.slice (some ⟨blk, off, none⟩) ss.length cap] w fun e w' =>
      e = .returned (.tuple #[]) ∧ ∃ n os, w' = grow (putRow encStr (Sort.ahead w n) blk off (ss.mergeSort fun x y => decide (x ≤ y)).toArray) os := Any.slices_Sort_string Try.lays190 blk off cap ss w hH hblk hsz
def Try.lays194_ren : Go.Shelf.Ren := ⟨fun | 194 => 150 | n => n, fun | 31 => 29 | 9 => 9 | 3 => 3 | 4 => 4 | 0 => 0 | n => n, fun | n => n⟩
theorem Try.lays194 : Go.Proofs.Lays.n194 Try.prog Try.lays194_ren := {
  mixed := by kernel_rfl
  f194 := Try.func150.trans (congrArg some (by kernel_rfl))
  t0 := Try.underlying0
  a0 := Try.isAgg0
  z0 := Try.sizeOf0
  v0 := Try.zeroValue0
  t3 := Try.underlying3
  a3 := Try.isAgg3
  z3 := Try.sizeOf3
  v3 := Try.zeroValue3
  t4 := Try.underlying4
  a4 := Try.isAgg4
  z4 := Try.sizeOf4
  v4 := Try.zeroValue4
  t9 := Try.underlying9
  a9 := Try.isAgg9
  z9 := Try.sizeOf9
  v9 := Try.zeroValue9
  t31 := Try.underlying29
  a31 := Try.isAgg29
  z31 := Try.sizeOf29
  v31 := Try.zeroValue29 }
open Go.RowKit Go.Lib Go.Sort in
/-- slices.Compact at []string: "Compact replaces consecutive runs of equal elements with a single copy. This is like the uniq command found on Unix. Compact modifies the contents of the slice s and returns the modified slice, which may have a smaller length. Compact zeroes the elements between the new length and the original length. The result preserves the nilness of s.": IT RETURNS THE SLICE CUT TO 'Lib.compact zs'; ITS CELLS HOLD 'Lib.compact zs', THEN ZERO VALUES up to the old length; all else is as it was, but for the count of draws. IN THE WORDS OF slices.Sort's CONTRACT ('Holds', 'putRow'): so the everyday 'slices.Sort(xs); xs = slices.Compact(xs)' goes from the one contract to the other. It asks 'zs.length ≤ cap' (every slice's: the reslicing 's[:k]' looks at it). Length 0, nil: '.._empty'. (LAID: no walk: one application.) -/
theorem Try.slices_Compact_string (blk off cap : Nat) (zs : List (List UInt8)) (w : World) (hH : Holds encStr w blk off zs.toArray) (hsz : zs.length ≤ 9223372036854775807) (hcap : zs.length ≤ cap) :
    Calls Try.prog 150 #[.slice (some ⟨blk, off, none⟩) zs.length cap] w fun e w' => e = .returned (.slice (some ⟨blk, off, none⟩) (Lib.compact zs).length cap) ∧ ∃ q, w' = putRow encStr (Sort.ahead w q) blk off (Lib.compact zs ++ List.replicate (zs.length - (Lib.compact zs).length) []).toArray := Any.slices_Compact_string Try.lays194 blk off cap zs w hH hsz hcap
open Go.RowKit Go.Lib Go.Sort in
/-- The same at a slice of length 0, a nil one too: it comes back as it is. (LAID: no walk: one application.) -/
theorem Try.slices_Compact_string_empty (a : Option Addr) (cap : Nat) (w : World) :
    Calls Try.prog 150 #[.slice a 0 cap] w fun e w' => e = .returned (.slice a 0 cap) ∧ w' = w := Any.slices_Compact_string_empty Try.lays194 a cap w
open Go.RowKit Go.Sort in
/-- .. and plain. (LAID: no walk: one application.) -/
theorem Try.slices_Sort_string_none (p : Option Addr) (cap : Nat) (w : World) :
    Calls Try.prog 149 #[.slice p 0 cap] w fun e w' => e = .returned (.tuple #[]) ∧ w' = w := Any.slices_Sort_string_none Try.lays190 p cap w
end Go.Proofs

/- Decimals by either hand; how a text is cut into blocks. -/
set_option linter.unusedVariables false
set_option linter.unusedSimpArgs false
namespace Go.Proofs.Ytlbpnfhhoalenaa
open Go Go.Av Go.RowKit

section
variable {w0 : World} {σ : Vw}

end
end Go.Proofs.Ytlbpnfhhoalenaa

/- Decimals of the tree's own hand; hex. -/
set_option linter.unusedVariables false
set_option linter.unusedSimpArgs false
namespace Go.Proofs.Ytlbpnfhhoalenaa
open Go Go.Av Go.RowKit

section
variable {w0 : World} {σ : Vw}

end
end Go.Proofs.Ytlbpnfhhoalenaa

/- Paths and trails as texts; the law 'TrailShow'. -/
set_option linter.unusedVariables false
set_option linter.unusedSimpArgs false
namespace Go.Proofs.Ytlbpnfhhoalenaa
open Go Go.Av Go.RowKit

section
variable {w0 : World} {σ : Vw}

end
end Go.Proofs.Ytlbpnfhhoalenaa

/- Bytes in rows of our own; hex by the program's hand; a line of a tree. -/
set_option linter.unusedVariables false
set_option linter.unusedSimpArgs false
namespace Go.Proofs.Ytlbpnfhhoalenaa
open Go Go.Av Go.RowKit

section
variable {w0 : World} {σ : Vw}

end
end Go.Proofs.Ytlbpnfhhoalenaa

/- What is at a path of a tree, by either reading. -/
set_option linter.unusedVariables false
set_option linter.unusedSimpArgs false
namespace Go.Proofs.Ytlbpnfhhoalenaa
open Go Go.Av

/-- The first place of a text. -/
def nidx : List ByteArray → ByteArray → Option Nat
  | [], _ => none
  | s :: r, x => if s = x then some 0 else (nidx r x).map (· + 1)
theorem nidx_some {ns : List ByteArray} {x : ByteArray} : ∀ {j : Nat}, nidx ns x = some j → ns[j]? = some x := by
  induction ns with
  | nil => intro j h; simp [nidx] at h
  | cons s r ih =>
    intro j h
    unfold nidx at h
    split at h
    · rename_i e; cases h; simp [e]
    · cases hr : nidx r x with
      | none => rw [hr] at h; cases h
      | some i => rw [hr] at h; cases h; simpa using ih hr
theorem nidx_at {ns : List ByteArray} {x : ByteArray} : ∀ {j : Nat}, ns[j]? = some x → (∀ (i : Nat) (y : ByteArray), i < j → ns[i]? = some y → y ≠ x) → nidx ns x = some j := by
  induction ns with
  | nil => intro j h; simp at h
  | cons s r ih =>
    intro j h hn
    unfold nidx
    cases j with
    | zero => simp at h; rw [if_pos h]
    | succ j =>
      rw [if_neg (hn 0 s (by omega) rfl), ih (by simpa using h) fun i y hi hy => hn (i + 1) y (by omega) (by simpa using hy)]
      rfl
theorem nidx_none {ns : List ByteArray} {x : ByteArray} (h : ∀ (i : Nat) (y : ByteArray), ns[i]? = some y → y ≠ x) : nidx ns x = none := by
  induction ns with
  | nil => rfl
  | cons s r ih =>
    unfold nidx
    rw [if_neg (h 0 s rfl), ih fun i y hy => h (i + 1) y (by simpa using hy)]
    rfl
/-- A place as a number, -1 for none. -/
def placeI : Option Nat → Int
  | some j => j
  | none => -1

/-- Names and parts are as many, all the way down. -/
def wfT : Nat → Tr → Prop
  | 0, _ => True
  | n + 1, .mk d m t ns ks => ns.length = ks.length ∧ ∀ k, k ∈ ks → wfT n k
def kidT : Tr → ByteArray → Option Tr
  | .mk _ _ _ ns ks, x => (nidx ns x).bind fun j => ks[j]?
section
variable {w0 : World} {σ : Vw}

theorem find_names {v : Value} {ns : List ByteArray} {x : ByteArray} (h : RSl 1 RS (Av.get w0 σ) v ns) {R : Value → Vw → Prop} (hR : R (.int .i64 (placeI (nidx ns x))) σ) : AC Try.prog w0 n_slices_Index_string_string [v, .string x] σ R := by
  refine ac_slices_Index_string_string ?_
  unfold vc_slices_Index_string_string
  have hl := h.le
  rw [h.len]
  refine loop_rule (m := ns.length) (fun c l s => ∃ j, s = σ ∧ c + j = ns.length ∧ (∀ (i : Nat) (y : ByteArray), i < j → ns[i]? = some y → y ≠ x) ∧ l = [v, .string x, .int .i64 0, .int .i64 ns.length, .int .i64 (j : Nat)]) ?_ ⟨0, rfl, by omega, fun i y h => by omega, rfl⟩
  rintro c l s L ⟨j, rfl, hc, ht, rfl⟩ hL
  simp only [vget, List.getD_cons_zero, List.getD_cons_succ]
  rw [pBin_lt, pIf_d]
  refine ⟨fun hj => ?_, fun hj => ?_⟩
  · have hx := List.getElem?_eq_getElem (show j < ns.length by omega)
    generalize hxj : ns[j] = y at hx
    refine RSl.at1 h hx fun g hg hs => ?_
    rw [hg, pBin_seq, pIf_d]
    refine ⟨fun he => ?_, fun hne => ?_⟩
    · subst he
      rw [nidx_at hx ht] at hR
      exact hR
    · rw [pBin_add (by omega)]
      refine hL _ _ (c - 1) (by omega) ⟨j + 1, rfl, by omega, fun i z hi hz => ?_, rfl⟩
      by_cases e : i = j
      · subst e; rw [hx] at hz; cases hz; exact fun e => hne e.symm
      · exact ht i z (by omega) hz
  · rw [nidx_none fun i y hy => ht i y (by have := (List.getElem?_eq_some_iff.1 hy).1; omega) hy] at hR
    exact hR

/-- What a kid is read as. -/
theorem kid_some {n : Nat} {d : Bool} {m : Int} {t : ByteArray} {ns : List ByteArray} {ks : List Tr} {x : ByteArray} (hw : wfT (n + 1) (.mk d m t ns ks)) {j : Nat} (hj : nidx ns x = some j) : ∃ k, ks[j]? = some k ∧ kidT (.mk d m t ns ks) x = some k ∧ wfT n k := by
  have h1 := nidx_some hj
  have hlt := (List.getElem?_eq_some_iff.1 h1).1
  have hw1 := hw.1
  have hk := List.getElem?_eq_getElem (show j < ks.length by omega)
  refine ⟨_, hk, ?_, hw.2 _ (List.getElem_mem _)⟩
  simp only [kidT, hj, Option.bind_some, hk]

/-- A pointer to a tree. -/
def PT (n : Nat) (rd : Addr → Option Value) (p : Value) (x : Tr) : Prop := ∃ a es, p = .pointer (some a) ∧ es.length = 5 ∧ (∀ i, i < 5 → rd (a.add i) = es[i]?) ∧ RT n rd es x
theorem PT.mono {n : Nat} {rd rd' : Addr → Option Value} {p : Value} {x : Tr} (h : PT n rd p x) (hl : Le rd rd') : PT n rd' p x := by
  obtain ⟨a, es, h1, h2, h3, h4⟩ := h
  refine ⟨a, es, h1, h2, fun i hi => ?_, mono_rt n _ _ _ _ hl h4⟩
  have := h3 i hi
  rw [List.getElem?_eq_getElem (by omega)] at this ⊢
  exact hl _ _ this
theorem PT.up {n : Nat} {rd : Addr → Option Value} {p : Value} {x : Tr} (h : PT n rd p x) : PT (n + 1) rd p x := by
  obtain ⟨a, es, h1, h2, h3, h4⟩ := h
  exact ⟨a, es, h1, h2, h3, RT_up _ _ _ _ h4⟩
/-- A field behind a pointer is read. -/
theorem PT.ld {n : Nat} {p : Value} {x : Tr} (h : PT n (Av.get w0 σ) p x) (o : Nat) (ho : o < 5) {K : (Nat → Value) → Prop} (hK : ∀ (es : List Value) (g : Nat → Value), RT n (Av.get w0 σ) es x → es[o]? = some (g 0) → K g) : pNil p (pField o p fun q => pLoad w0 1 q σ K) := by
  obtain ⟨a, es, rfl, h5, h6, h7⟩ := h
  rw [pNil_s, pField_s]
  refine ⟨_, fun _ => es.getD o undef, rfl, fun i hi => ?_, hK es _ h7 ?_⟩
  · have e : i = 0 := by omega
    subst e
    have := h6 o ho
    rw [add_add, Nat.add_zero, this, List.getElem?_eq_getElem (by omega)]
    simp only [List.getD_eq_getElem?_getD, List.getElem?_eq_getElem (show o < es.length by omega), Option.getD_some]
  · simp only [List.getD_eq_getElem?_getD, List.getElem?_eq_getElem (show o < es.length by omega), Option.getD_some]
/-- The address of an element. -/
theorem RSl.ptr {n k : Nat} {v : Value} {xs : List Tr} (h : RSl 5 (RT n) (Av.get w0 σ) v xs) {j : Nat} {x : Tr} (hj : xs[j]? = some x) {K : Value → Prop} (hK : ∀ p, PT n (Av.get w0 σ) p x → K p) : pIndexAddr 5 v (.int .i64 j) K := by
  obtain ⟨A, cap, rfl, _, h3⟩ := h
  obtain ⟨a, es, rfl, h5, h6, h7⟩ := h3 j x hj
  have hlt : j < xs.length := (List.getElem?_eq_some_iff.1 hj).1
  refine ⟨a, xs.length, cap, .i64, j, rfl, rfl, by omega, by omega, hK _ ⟨_, es, rfl, h5, fun i hi => ?_, h7⟩⟩
  have := h6 i hi
  rw [Int.toNat_natCast, add_add]; exact this

/-- What is at a name, by pointers: a pointer, or nil. -/
def PO (n : Nat) (rd : Addr → Option Value) (p : Value) : Option Tr → Prop
  | some x => PT n rd p x
  | none => p = .pointer none
theorem PO.mono {n : Nat} {rd rd' : Addr → Option Value} {p : Value} {o : Option Tr} (h : PO n rd p o) (hl : Le rd rd') : PO n rd' p o := by
  cases o with
  | none => exact h
  | some x => exact PT.mono h hl

theorem impl_kid {n : Nat} {p : Value} {x : Tr} {name : ByteArray} {R : Value → Vw → Prop} (h : PT (n + 1) (Av.get w0 σ) p x) (hw : wfT (n + 1) x) (hR : ∀ q, PO n (Av.get w0 σ) q (kidT x name) → R q σ) : AC Try.prog w0 n_p_impl_Tree_kid [p, .string name] σ R := by
  obtain ⟨d, m, t, ns, ks⟩ := x
  refine ac_p_impl_Tree_kid ?_
  unfold vc_p_impl_Tree_kid
  refine h.ld 3 (by omega) fun es g he hg => ?_
  obtain ⟨u, w, rfl, h2, h3, h4, h5⟩ := he
  simp only [List.getElem?_cons_zero, List.getElem?_cons_succ, Option.some.injEq] at hg
  rw [← hg]
  refine find_names h4 ?_
  rw [pBin_lt, pIf_d]
  cases hj : nidx ns name with
  | none =>
    refine ⟨fun _ => hR _ (by simp only [kidT, hj, Option.bind_none]; rfl), fun h => absurd (show (-1 : Int) < 0 by omega) h⟩
  | some j =>
    refine ⟨fun h => by simp only [placeI] at h; omega, fun _ => ?_⟩
    obtain ⟨k, hk1, hk2, hk3⟩ := kid_some hw hj
    have hlt := (List.getElem?_eq_some_iff.1 hk1).1
    refine h.ld 4 (by omega) fun es g he hg => ?_
    obtain ⟨u', w', rfl, h2', h3', h4', h5'⟩ := he
    simp only [List.getElem?_cons_zero, List.getElem?_cons_succ, Option.some.injEq] at hg
    rw [← hg, h5'.len]
    simp only [placeI]
    rw [pBin_ge, pIf_d]
    refine ⟨fun h => by omega, fun _ => ?_⟩
    refine h.ld 4 (by omega) fun es g he hg => ?_
    obtain ⟨u2, w2, rfl, h22, h32, h42, h52⟩ := he
    simp only [List.getElem?_cons_zero, List.getElem?_cons_succ, Option.some.injEq] at hg
    rw [← hg]
    refine RSl.ptr (k := 0) h52 hk1 fun q hq => hR q ?_
    rw [hk2]; exact hq

theorem pBin_nil {T : Nat} {p : Option Addr} {K : Value → Prop} (hT : ∃ e, Try.prog.underlying T = some (.pointer e)) : pBin Try.prog T .eql (.pointer p) (.pointer none) K ↔ K (.bool p.isNone) := by
  obtain ⟨e, he⟩ := hT
  have h : abinT Try.prog T .eql (.pointer p) (.pointer none) = some (.bool p.isNone) := by simp only [abinT, he]
  exact ⟨fun ⟨_, h', hK⟩ => by rw [h] at h'; cases h'; exact hK, fun hK => ⟨_, h, hK⟩⟩
theorem ptr_tree : ∃ e, Try.prog.underlying t_p_impl_Tree = some (.pointer e) := ⟨t_impl_Tree, by kernel_rfl⟩

end
end Go.Proofs.Ytlbpnfhhoalenaa

/- Reading and listing: the functions 'TreeRead' and 'TreeList' by either text. -/
set_option linter.unusedVariables false
set_option linter.unusedSimpArgs false
namespace Go.Proofs.Ytlbpnfhhoalenaa
open Go Go.Av

def kidsOf : Tr → List Tr
  | .mk _ _ _ _ ks => ks
def namesOf : Tr → List ByteArray
  | .mk _ _ _ ns _ => ns
def dataOf : Tr → ByteArray
  | .mk _ _ t _ _ => t
def modeOf : Tr → Int
  | .mk _ m _ _ _ => m
theorem kid_mem {x : Tr} {nm : ByteArray} {k : Tr} (h : kidT x nm = some k) : k ∈ kidsOf x := by
  obtain ⟨d, m, t, ns, ks⟩ := x
  simp only [kidT, Option.bind_eq_some_iff] at h
  obtain ⟨j, _, hj⟩ := h
  exact List.mem_of_getElem? hj
section
variable {w0 : World} {σ : Vw}

theorem RT.cells {n : Nat} {rd : Addr → Option Value} {es : List Value} {x : Tr} (h : RT n rd es x) : ∃ u w, es = [.bool (isDir x), .int .i64 (modeOf x), .string (dataOf x), u, w] ∧ (-9223372036854775808 ≤ modeOf x ∧ modeOf x ≤ 9223372036854775807) ∧ (dataOf x).size ≤ 9223372036854775807 ∧ RSl 1 RS rd u (namesOf x) ∧ RSl 5 (RT n) rd w (kidsOf x) ∧ ∀ A : Prop, pVal true 5 (.agg ⟨es⟩) A ↔ A := by
  obtain _ | n := n
  · exact h.elim
  · obtain ⟨d, m, t, ns, ks⟩ := x
    obtain ⟨u, w, rfl, h2, h3, h4, h5⟩ := h
    exact ⟨u, w, rfl, h2, h3, h4, h5.imp fun es x h => RT_up n rd es x h, fun A => pVal_5 rfl rfl rfl h4.one h5.one⟩

/-- A tree that is put into a row of our own. -/
theorem PT.new {n b : Nat} {es : List Value} {x : Tr} (h : RT n (Av.get w0 σ) es x) (hb : w0.heap.size ≤ b) (hn : σ b = none) {ety c : Nat} : PT n (Av.get w0 (σ.put b ⟨ety, es, c, (0, 0)⟩)) (.pointer (some ⟨b, 0, none⟩)) x := by
  have hl : es.length = 5 := by obtain ⟨_, _, _, _, _, rfl, _⟩ := RT.five h; rfl
  refine ⟨_, es, rfl, hl, fun i hi => ?_, mono_rt n _ _ _ _ (Keeps.put hn).le h⟩
  rw [addr_add, get_row hb put_at, Nat.zero_add]
theorem PT.load {n : Nat} {p : Value} {x : Tr} (h : PT n (Av.get w0 σ) p x) {K : (Nat → Value) → Prop} (hK : ∀ g : Nat → Value, RT n (Av.get w0 σ) (expl g 0 5) x → K g) : pLoad w0 5 p σ K := by
  obtain ⟨a, es, rfl, h5, h6, h7⟩ := h
  refine ⟨a, fun i => es.getD i undef, rfl, fun i hi => ?_, hK _ ?_⟩
  · rw [h6 i hi, List.getElem?_eq_getElem (by omega)]
    simp only [List.getD_eq_getElem?_getD, List.getElem?_eq_getElem (show i < es.length by omega), Option.getD_some]
  · have : expl (fun i => es.getD i undef) 0 5 = es := by
      match es, h5 with
      | [a, b, c, d, e], _ => rfl
    rw [this]; exact h7

end
end Go.Proofs.Ytlbpnfhhoalenaa

/- A tree as a text: what it is, and by the reference's hand; a line by the program's. -/
set_option linter.unusedVariables false
set_option linter.unusedSimpArgs false
namespace Go.Proofs.Ytlbpnfhhoalenaa
open Go Go.Av Go.RowKit

/-- What is sound is short. -/
def shortT : Nat → Tr → Prop
  | 0, _ => False
  | n + 1, .mk d m t ns ks => (0 ≤ m ∧ m ≤ 7) ∧ t.size ≤ 24 ∧ ns.length = ks.length ∧ (∀ x, x ∈ ns → x.size ≤ 5) ∧ ∀ k, k ∈ ks → shortT n k
theorem sound_short : ∀ (n : Nat) (x : Tr) (k : Int), soundB n x k = true → shortT n x
  | 0, _, _, h => by simp [soundB] at h
  | n + 1, .mk d m t ns ks, k, h => by
    simp only [soundB, plainB, Bool.and_eq_true, decide_eq_true_eq, inB] at h
    obtain ⟨⟨h1, h2, h3⟩, _, h4⟩ := h
    refine ⟨h1, ?_, h2, fun x hx => ?_, fun c hc => ?_⟩
    · cases d
      · simp at h3; exact h3.1
      · simp at h3; rw [h3.2]; show 0 ≤ 24; omega
    · cases d
      · simp at h3; rw [h3.2] at hx; cases hx
      · simp at h3
        obtain ⟨j, hj⟩ := List.getElem?_of_mem hx
        have := h3.1 j x hj
        simp only [nameAt, nameOk, Bool.and_eq_true, decide_eq_true_eq, inB] at this
        omega
    · obtain ⟨j, hj⟩ := List.getElem?_of_mem hc
      exact sound_short n c _ (allB_iff.1 h4 j c hj)
section
variable {w0 : World} {σ : Vw}

end
end Go.Proofs.Ytlbpnfhhoalenaa

/- What is said of a tree part by part, in order: a list. -/
set_option linter.unusedVariables false
set_option linter.unusedSimpArgs false
namespace Go.Proofs.Ytlbpnfhhoalenaa
open Go Go.Av

def linT {α : Type} (f : Nat → List ByteArray → Tr → α) : Nat → List ByteArray → Tr → List α
  | 0, _, _ => []
  | n + 1, ps, .mk d m t ns ks => f (n + 1) ps (.mk d m t ns ks) :: ((ns.zip ks).map fun y => linT f n (ps ++ [y.1]) y.2).flatten
theorem linT_step {α : Type} (f : Nat → List ByteArray → Tr → α) (n : Nat) (ps : List ByteArray) (d : Bool) (m : Int) (t : ByteArray) (ns : List ByteArray) (ks : List Tr) :
    linT f (n + 1) ps (.mk d m t ns ks) = f (n + 1) ps (.mk d m t ns ks) :: ((ns.zip ks).map fun y => linT f n (ps ++ [y.1]) y.2).flatten := rfl
theorem zip_sum {f : Tr → Nat} : ∀ {ns : List ByteArray} {ks : List Tr}, sumBy (fun y : ByteArray × Tr => f y.2 + 1) (ns.zip ks) ≤ ks.length + sumBy f ks
  | [], ks => by simp [sumBy]
  | _ :: _, [] => by simp [sumBy]
  | x :: ns, k :: ks => by
    have := zip_sum (f := f) (ns := ns) (ks := ks)
    simp only [List.zip_cons_cons, sumBy, List.length_cons]; omega
theorem flat_sum {α β : Type} {f : β → List α} {g : β → Nat} : ∀ {l : List β}, (∀ x, x ∈ l → (f x).length ≤ g x) → ((l.map f).flatten).length ≤ sumBy g l
  | [], _ => by simp [sumBy]
  | a :: r, h => by
    have h1 := h a (by simp)
    have h2 := flat_sum (l := r) fun x hx => h x (by simp [hx])
    simp only [List.map_cons, List.flatten_cons, List.length_append, sumBy]; omega
theorem linT_len {α : Type} (f : Nat → List ByteArray → Tr → α) : ∀ (n : Nat) (ps : List ByteArray) (x : Tr), (linT f n ps x).length ≤ cntT n x + 1
  | 0, _, _ => by simp [linT]
  | n + 1, ps, .mk d m t ns ks => by
    have h1 : (((ns.zip ks).map fun y => linT f n (ps ++ [y.1]) y.2).flatten).length ≤ sumBy (fun y : ByteArray × Tr => cntT n y.2 + 1) (ns.zip ks) := flat_sum fun y _ => linT_len f n _ _
    have h2 := zip_sum (f := cntT n) (ns := ns) (ks := ks)
    rw [linT_step, List.length_cons]
    show _ ≤ ks.length + sumBy (cntT n) ks + 1
    omega
theorem flat_take {α β : Type} {f : β → List α} {l : List β} {j : Nat} {y : β} (h : l[j]? = some y) : ((l.take (j + 1)).map f).flatten = ((l.take j).map f).flatten ++ f y := by
  rw [List.take_add_one, h, Option.toList_some, List.map_append, List.flatten_append]; simp
theorem sumS_snoc (y : ByteArray) : ∀ l : List ByteArray, sumS (l ++ [y]) = sumS l + y.size
  | [] => by simp [sumS]
  | a :: r => by simp only [List.cons_append, sumS, sumS_snoc y r]; omega

section
variable {w0 : World} {σ : Vw} {α : Type}

theorem none_old {σ s : Vw} (k : Keeps σ s) {i : Nat} (h : s i = none) : σ i = none := by
  cases hs : σ i with
  | none => rfl
  | some r => rw [k i r hs] at h; cases h

/-- One element, in a row of its own. -/
theorem OAcc.single {ety n b : Nat} {Rel : (Addr → Option Value) → List Value → α → Prop} {O : Vw → List Nat → List Value → α → Prop} (ok : OOk w0 n Rel O) {es : List Value} {f : List Nat} {y : α} (hb : w0.heap.size ≤ b) (hn : σ b = none) (hy : O σ f es y) :
    OAcc w0 ety n O (σ.put b ⟨ety, es, es.length, (0, 0)⟩) (b :: f) (.slice (some ⟨b, 0, none⟩) 1 1) [y] := by
  have hf : ∀ i, i ∈ f → i ≠ b := fun i hi e => (ok.dom _ _ _ _ hy i hi).2 (e ▸ hn)
  refine ⟨by simp, List.nodup_cons.2 ⟨fun h => hf b h rfl, ok.nodup _ _ _ _ hy⟩, .inr ⟨b, 1, [es], [f], rfl, by simp, hb, ?_, rfl, rfl, by simp, fun j c x g e1 e2 e3 => ?_⟩⟩
  · rw [put_at, ok.len _ _ _ _ hy]; simp
  · cases j with
    | zero =>
      simp at e1 e2 e3
      subst e1 e2 e3
      exact ok.frame _ _ _ _ _ hy fun i hi => put_ne (hf i hi)
    | succ j => simp at e1

/-- A path, and a name more. -/
theorem push_path {v : Value} {ps : List ByteArray} {y : ByteArray} (h : RSl 1 RS (Av.get w0 σ) v ps) (hl : ps.length ≤ 1000000) (hy : y.size ≤ 1000000) {R : Value → Vw → Prop}
    (hR : ∀ v' F σ', Keeps σ σ' → OStrs w0 σ' F v' (ps ++ [y]) → (∀ b, b ∈ F → σ b = none) → R v' σ') :
    pNew w0 t_string [] σ (fun n0 s1 => pAppendS w0 t_string 1 16 (.slice (some (Addr.mk n0 0 none)) 0 0) v s1 (fun v2 s3 => pVal false 1 (.string y) ((allOne [.string y]) ∧ (pAppend w0 t_string 1 16 v2 1 [.string y] s3 (fun v4 s5 => R v4 s5))))) := by
  intro b h1 h2
  have kb : Keeps σ (σ.put b ⟨t_string, [], 0, (0, 0)⟩) := Keeps.put h2
  have hb0 : ∀ i, i ∈ [b] → σ i = none := fun i hi => by rw [List.mem_singleton.1 hi]; exact h2
  refine (OAcc.new (w0 := w0) (σ := σ) (ety := t_string) (n := 1) (O := OStr) h1).all (ok_str w0) h kb.le (fun es y hy => ⟨rfl, hy⟩) (by simp; omega) (by omega) fun v1 F1 s1 k1 o1 f1 => ?_
  rw [List.nil_append] at o1
  have K1 := k1.old kb hb0
  have hF1 := fresh_in kb hb0 f1
  rw [pVal1 rfl]
  refine o1.one (ok_str w0) (f := []) (y := y) ⟨rfl, rfl, by omega⟩ (by simp) (by omega) (by omega) fun v2 F2 s2 k2 o2 f2 => ?_
  refine hR v2 F2 s2 (k2.old K1 hF1) o2.osl (fresh_in K1 hF1 fun j hj => ?_)
  rcases f2 j hj with h | h | h
  · exact .inl h
  · cases h
  · exact .inr h
theorem spec_path {v : Value} {ps : List ByteArray} {y : ByteArray} (h : RSl 1 RS (Av.get w0 σ) v ps) (hl : ps.length ≤ 1000000) (hy : y.size ≤ 1000000) {R : Value → Vw → Prop}
    (hR : ∀ v' F σ', Keeps σ σ' → OStrs w0 σ' F v' (ps ++ [y]) → (∀ b, b ∈ F → σ b = none) → R v' σ') : AC Try.prog w0 n_spec_l3Path [v, .string y] σ R := by
  refine ac_spec_l3Path ?_
  unfold vc_spec_l3Path
  exact push_path h hl hy hR
theorem below_path {v : Value} {ps : List ByteArray} {y : ByteArray} (h : RSl 1 RS (Av.get w0 σ) v ps) (hl : ps.length ≤ 1000000) (hy : y.size ≤ 1000000) {R : Value → Vw → Prop}
    (hR : ∀ v' F σ', Keeps σ σ' → OStrs w0 σ' F v' (ps ++ [y]) → (∀ b, b ∈ F → σ b = none) → R v' σ') : AC Try.prog w0 n_impl_below [v, .string y] σ R := by
  refine ac_impl_below ?_
  unfold vc_impl_below
  exact push_path h hl hy hR
theorem copy_strs {v : Value} {xs : List ByteArray} (h : RSl 1 RS (Av.get w0 σ) v xs) (hl : xs.length ≤ 1000000000) {K : Value → Vw → Prop}
    (hK : ∀ v' F σ', Keeps σ σ' → OStrs w0 σ' F v' xs → (∀ b, b ∈ F → σ b = none) → K v' σ') : pNew w0 t_string [] σ (fun n0 s1 => pAppendS w0 t_string 1 16 (.slice (some (Addr.mk n0 0 none)) 0 0) v s1 (fun v2 s3 => K v2 s3)) := by
  intro b h1 h2
  have kb : Keeps σ (σ.put b ⟨t_string, [], 0, (0, 0)⟩) := Keeps.put h2
  have hb0 : ∀ i, i ∈ [b] → σ i = none := fun i hi => by rw [List.mem_singleton.1 hi]; exact h2
  refine (OAcc.new (w0 := w0) (σ := σ) (ety := t_string) (n := 1) (O := OStr) h1).all (ok_str w0) h kb.le (fun es y hy => ⟨rfl, hy⟩) (by simp; omega) (by omega) fun v' F' σ' k1 o1 f1 => ?_
  exact hK v' F' σ' (k1.old kb hb0) (by simpa using o1.osl) (fresh_in kb hb0 f1)

/-! ### By the reference's hand: a loop over the kids -/
def BLin (w0 : World) (F ety : Nat) : List Value → (AX → List Value → Vw → Prop) → Vw → Prop := fun l6 K7 s8 =>
  pLen (vget l6 6) (fun v9 => pBin Try.prog 3 .lss (vget l6 2) v9 (fun v10 => pIf v10 (pIndexAddr 1 (vget l6 6) (vget l6 2) (fun v11 => pLoad w0 1 v11 s8 (fun g12 => pIndexAddr 5 (vget l6 7) (vget l6 2) (fun v13 => pLoad w0 5 v13 s8 (fun g14 =>
    AC Try.prog w0 n_spec_l3Path [vget l6 0, g12 0] s8 (fun v15 s16 => (Stay w0 s8 s16 v13 5) ∧ (AC Try.prog w0 F ([v15, .agg (⟨[g14 0, g14 1, g14 2, g14 3, g14 4]⟩)]) s16 (fun v17 s18 => pAppendS w0 ety 5 64 (vget l6 1) v17 s18 (fun v19 s20 => pBin Try.prog 3 .add (vget l6 2) (.int .i64 1) (fun v21 =>
    K7 AX.normal [vget l6 0, v19, v21, vget l6 3, vget l6 4, vget l6 5, vget l6 6, vget l6 7] s20)))))))))) (K7 (AX.exit 0) [vget l6 0, vget l6 1, vget l6 2, vget l6 3, vget l6 4, vget l6 5, vget l6 6, vget l6 7] s8)))

/-- What a function that lists a part and all below does. -/
def Lists (w0 : World) (F ety : Nat) (O : Vw → List Nat → List Value → α → Prop) (f : Nat → List ByteArray → Tr → α) (n : Nat) : Prop :=
  ∀ {s : Vw} {v : Value} {es : List Value} {qs : List ByteArray} {x : Tr} {R : Value → Vw → Prop}, RSl 1 RS (Av.get w0 s) v qs → RT n (Av.get w0 s) es x → shortT n x → cntT n x ≤ 100000 → qs.length + sumS qs + 6 * n ≤ 1000000 →
    (∀ v' G s', Keeps s s' → OAcc w0 ety 5 O s' G v' (linT f n qs x) → (∀ i, i ∈ G → s i = none) → R v' s') → AC Try.prog w0 F [v, .agg ⟨es⟩] s R

theorem lin_loop {F ety n : Nat} {Rel : (Addr → Option Value) → List Value → α → Prop} {O : Vw → List Nat → List Value → α → Prop} (ok : OOk w0 5 Rel O) {f : Nat → List ByteArray → Tr → α} (call : Lists w0 F ety O f n)
    {s0 : Vw} {v u w acc d m t : Value} {ps ns : List ByteArray} {ks : List Tr} {y : α} {G : List Nat}
    (hv : RSl 1 RS (Av.get w0 σ) v ps) (hu : RSl 1 RS (Av.get w0 σ) u ns) (hw : RSl 5 (RT n) (Av.get w0 σ) w ks) (hl : ns.length = ks.length) (hns : ∀ x, x ∈ ns → x.size ≤ 5) (hks : ∀ k, k ∈ ks → shortT n k)
    (hc : ks.length + sumBy (cntT n) ks ≤ 100000) (hps : ps.length + sumS ps + 6 * (n + 1) ≤ 1000000) (hacc : OAcc w0 ety 5 O s0 G acc [y]) (k0 : Keeps σ s0) (hG : ∀ i, i ∈ G → σ i = none) {K : AX → List Value → Vw → Prop}
    (hK : ∀ v' G' s', Keeps σ s' → OAcc w0 ety 5 O s' G' v' (y :: ((ns.zip ks).map fun z => linT f n (ps ++ [z.1]) z.2).flatten) → (∀ i, i ∈ G' → σ i = none) → K (.exit 0) [v, v', .int .i64 (ns.length : Nat), d, m, t, u, w] s') :
    pLoop (BLin w0 F ety) [v, acc, .int .i64 0, d, m, t, u, w] s0 K := by
  have hl4 := hu.le
  refine loop_rule (m := ns.length) (fun c l s => ∃ (j : Nat) (G' : List Nat) (a' : Value), c + j = ns.length ∧ Keeps σ s ∧ (∀ i, i ∈ G' → σ i = none) ∧ OAcc w0 ety 5 O s G' a' (y :: (((ns.zip ks).take j).map fun z => linT f n (ps ++ [z.1]) z.2).flatten) ∧
    l = [v, a', .int .i64 (j : Nat), d, m, t, u, w]) ?_ ⟨0, G, acc, by omega, k0, hG, by simpa using hacc, rfl⟩
  rintro c l s L ⟨j, G', a', hcj, ks1, hG', ho, rfl⟩ hL
  unfold BLin
  simp only [vget, List.getD_cons_zero, List.getD_cons_succ]
  have hu' := hu.mono ks1.le fun _ _ h => h
  have hv' := hv.mono ks1.le fun _ _ h => h
  have hw' := hw.mono ks1.le fun es x => mono_rt n _ _ es x ks1.le
  rw [hu'.len, pBin_lt, pIf_d]
  refine ⟨fun hi => ?_, fun hi => ?_⟩
  · have hx1 := List.getElem?_eq_getElem (show j < ns.length by omega)
    have hx2 := List.getElem?_eq_getElem (show j < ks.length by omega)
    generalize hxi : ns[j]'(by omega) = y1 at hx1
    generalize hxk : ks[j]'(by omega) = y2 at hx2
    have h5y := hns _ (List.mem_of_getElem? hx1)
    have hky := hks _ (List.mem_of_getElem? hx2)
    have hz : (ns.zip ks)[j]? = some (y1, y2) := by rw [List.getElem?_zip_eq_some]; exact ⟨hx1, hx2⟩
    have hcy : cntT n y2 ≤ 100000 := by
      have := sumBy_mem (f := cntT n) (List.mem_of_getElem? hx2); omega
    refine RSl.at1 hu' hx1 fun g hg hgs => ?_
    rw [hg]
    refine RSl.atp hw' hx2 fun p2 g2 hg2 => ?_
    refine spec_path hv' (by omega) (by omega) fun pv PF s2 k2 op fp => ⟨k2.stay, ?_⟩
    have o2 := ho.frame ok (k2.but_at fun b hb => (ho.dom ok b hb).2)
    refine call (op.rel (ok_str w0)) (mono_rt n _ _ _ _ k2.le hg2) hky hcy (by rw [List.length_append, sumS_snoc]; simp only [List.length_cons, List.length_nil]; omega) fun v3 G3 s3 k3 o3 f3 => ?_
    have o4 := o2.frame ok (k3.but_at fun b hb => (o2.dom ok b hb).2)
    have hlen1 : (((ns.zip ks).take j).map fun z => linT f n (ps ++ [z.1]) z.2).flatten.length ≤ 100000 := by
      have q1 : (((ns.zip ks).take j).map fun z => linT f n (ps ++ [z.1]) z.2).flatten.length ≤ sumBy (fun z : ByteArray × Tr => cntT n z.2 + 1) ((ns.zip ks).take j) := flat_sum fun z _ => linT_len f n _ _
      have q2 := sumBy_le (f := fun z : ByteArray × Tr => cntT n z.2 + 1) (xs := ns.zip ks) j
      have q3 := zip_sum (f := cntT n) (ns := ns) (ks := ks)
      omega
    have hlen2 := linT_len f n (ps ++ [y1]) y2
    refine o4.allOwn ok o3.osl (fun i hi hi' => (o2.dom ok i hi').2 (f3 i hi)) (by rw [List.length_cons]; omega) (by omega) fun v5 G5 s5 k5 o5 f5 => ?_
    rw [pBin_add (by omega)]
    have K3 := (ks1.trans k2).trans k3
    refine hL _ _ (c - 1) (by omega) ⟨j + 1, G5, v5, by omega, k5.old K3 hG', fun i hi => ?_, ?_, rfl⟩
    · rcases f5 i hi with h | h | h
      · exact hG' i h
      · exact none_old (ks1.trans k2) (f3 i h)
      · exact none_old K3 h
    · rw [flat_take hz]; exact o5
  · have e : j = ns.length := by omega
    subst e
    rw [List.take_of_length_le (by rw [List.length_zip]; omega)] at ho
    exact hK a' G' s ks1 ho hG'

/-! ### By the program's hand: a function value that is called part by part -/
/-- A path that is read whatever becomes of the rows of G. -/
def PathIn (w0 : World) (s : Vw) (G : List Nat) (v : Value) (ps : List ByteArray) : Prop := ∀ s', KeepsBut G s s' → RSl 1 RS (Av.get w0 s') v ps
theorem PathIn.of_keeps {s : Vw} {G : List Nat} {v : Value} {ps : List ByteArray} (h : RSl 1 RS (Av.get w0 σ) v ps) (k : Keeps σ s) (hG : ∀ i, i ∈ G → σ i = none) : PathIn w0 s G v ps :=
  fun s' k' => h.mono (k'.old k hG).le fun _ _ h => h
theorem PathIn.of_own {s : Vw} {G P : List Nat} {v : Value} {ps : List ByteArray} (h : OStrs w0 s P v ps) (hG : ∀ i, i ∈ P → i ∉ G) : PathIn w0 s G v ps :=
  fun s' k' => (h.frame (ok_str w0) (k'.at (fun b hb => (h.dom (ok_str w0) b hb).2) hG)).rel (ok_str w0)
theorem PathIn.next {s s1 : Vw} {G G' : List Nat} {v : Value} {ps : List ByteArray} (h : PathIn w0 s G v ps) (k : KeepsBut G s s1) (hG : ∀ i, i ∈ G' → i ∈ G ∨ s i = none) : PathIn w0 s1 G' v ps :=
  fun s' k' => h s' fun i r hi hn => k' i r (k i r hi hn) fun h => by
    rcases hG i h with h | h
    · exact hn h
    · rw [hi] at h; cases h
theorem PathIn.now {s : Vw} {G : List Nat} {v : Value} {ps : List ByteArray} (h : PathIn w0 s G v ps) : RSl 1 RS (Av.get w0 s) v ps := h s (KeepsBut.refl _ _)

/-- A box that holds a list. -/
def CB (w0 : World) (ety : Nat) (O : Vw → List Nat → List Value → α → Prop) (s : Vw) (b : Nat) (G : List Nat) (xs : List α) : Prop :=
  w0.heap.size ≤ b ∧ b ∉ G ∧ ∃ v e2, s b = some ⟨e2, [v], 1, (0, 0)⟩ ∧ OAcc w0 ety 5 O s G v xs
/-- What the function value does: one more is in the box. -/
def Puts (w0 : World) (c ety : Nat) (O : Vw → List Nat → List Value → α → Prop) (f : Nat → List ByteArray → Tr → α) : Prop :=
  ∀ {n b : Nat} {s : Vw} {G : List Nat} {ps : List ByteArray} {v : Value} {es : List Value} {x : Tr} {xs : List α} {R : Value → Vw → Prop}, n ≤ 5 → RT n (Av.get w0 s) es x → shortT n x → cntT n x ≤ 100000 → RSl 1 RS (Av.get w0 s) v ps → ps.length + sumS ps ≤ 1000000 →
    CB w0 ety O s b G xs → xs.length ≤ 1000000 → (∀ G' s', KeepsBut (b :: G) s s' → CB w0 ety O s' b G' (xs ++ [f n ps x]) → (∀ i, i ∈ G' → i ∈ G ∨ s i = none) → R (.tuple ⟨[]⟩) s') →
    AC Try.prog w0 c [v, .agg ⟨es⟩, .pointer (some ⟨b, 0, none⟩)] s R

theorem CB.frame {ety b : Nat} {Rel : (Addr → Option Value) → List Value → α → Prop} {O : Vw → List Nat → List Value → α → Prop} (ok : OOk w0 5 Rel O) {s s' : Vw} {G : List Nat} {xs : List α} (h : CB w0 ety O s b G xs) (k : Keeps s s') : CB w0 ety O s' b G xs := by
  obtain ⟨h1, h2, v, e2, h3, h4⟩ := h
  exact ⟨h1, h2, v, e2, k _ _ h3, h4.frame ok (k.but_at fun i hi => (h4.dom ok i hi).2)⟩
theorem CB.dom {ety b : Nat} {Rel : (Addr → Option Value) → List Value → α → Prop} {O : Vw → List Nat → List Value → α → Prop} (ok : OOk w0 5 Rel O) {s : Vw} {G : List Nat} {xs : List α} (h : CB w0 ety O s b G xs) : ∀ i, i ∈ b :: G → s i ≠ none := by
  obtain ⟨h1, h2, v, e2, h3, h4⟩ := h
  intro i hi
  rcases List.mem_cons.1 hi with rfl | hi
  · rw [h3]; simp
  · exact (h4.dom ok i hi).2

set_option maxRecDepth 20000 in
theorem each_list {c ety : Nat} {Rel : (Addr → Option Value) → List Value → α → Prop} {O : Vw → List Nat → List Value → α → Prop} (ok : OOk w0 5 Rel O) {f : Nat → List ByteArray → Tr → α} (clo : Puts w0 c ety O f) :
    ∀ (n : Nat) {σ0 s : Vw} {b : Nat} {G : List Nat} {xs : List α} {ps : List ByteArray} {v : Value} {es : List Value} {x : Tr} {R : Value → Vw → Prop}, n ≤ 5 →
    RT n (Av.get w0 σ0) es x → shortT n x → cntT n x ≤ 100000 → Keeps σ0 s → (∀ i, i ∈ b :: G → σ0 i = none) → CB w0 ety O s b G xs → PathIn w0 s (b :: G) v ps → ps.length + sumS ps + 6 * n ≤ 1000000 → xs.length + cntT n x ≤ 900000 →
    (∀ G' s', KeepsBut (b :: G) s s' → CB w0 ety O s' b G' (xs ++ linT f n ps x) → (∀ i, i ∈ G' → i ∈ G ∨ s i = none) → R (.tuple ⟨[]⟩) s') →
    AC Try.prog w0 n_impl_Tree_each [.agg ⟨es⟩, v, .func (.func c) ⟨[]⟩ ⟨[.pointer (some ⟨b, 0, none⟩)]⟩] s R := by
  intro n
  induction n with
  | zero => intro σ0 s b G xs ps v es x R _ h; exact h.elim
  | succ n ih =>
    intro σ0 s b G xs ps v es x R hn5 h hx hc k0 hG0 hB hP hps hlen hR
    obtain ⟨d, m, t, ns, ks⟩ := x
    have h0 := h
    have hx0 := hx
    obtain ⟨u, w, rfl, h2, h3, h4, h5⟩ := h
    obtain ⟨hm, ht, hl, hns, hks⟩ := hx
    have hcnt : cntT (n + 1) (.mk d m t ns ks) = ks.length + sumBy (cntT n) ks := rfl
    refine ac_impl_Tree_each ?_
    unfold vc_impl_Tree_each
    rw [pVal_5 rfl rfl rfl h4.one h5.one]
    simp only [cellOf_agg, List.getD_cons_zero, List.getD_cons_succ]
    refine ⟨c, [], [.pointer (some ⟨b, 0, none⟩)], rfl, ?_⟩
    refine clo hn5 (mono_rt _ _ _ _ _ k0.le h0) hx0 hc hP.now (by omega) hB (by omega) fun G1 s1 k1 hB1 hG1 => ?_
    rw [h4.len]
    have hl4 := h4.le
    have hG1σ : ∀ i, i ∈ b :: G1 → σ0 i = none := fun i hi => by
      rcases List.mem_cons.1 hi with rfl | hi
      · exact hG0 _ List.mem_cons_self
      · rcases hG1 i hi with h | h
        · exact hG0 i (List.mem_cons_of_mem _ h)
        · exact none_old k0 h
    have hG1' : ∀ i, i ∈ b :: G1 → i ∈ b :: G ∨ s i = none := fun i hi => by
      rcases List.mem_cons.1 hi with rfl | hi
      · exact .inl List.mem_cons_self
      · rcases hG1 i hi with h | h
        · exact .inl (List.mem_cons_of_mem _ h)
        · exact .inr h
    have hP1 := hP.next k1 hG1'
    rw [linT_step] at hR
    refine loop_rule (m := ns.length) (fun q l st => ∃ (j : Nat) (G' : List Nat), q + j = ns.length ∧ KeepsBut (b :: G) s st ∧ Keeps σ0 st ∧ (∀ i, i ∈ b :: G' → i ∈ b :: G ∨ s i = none) ∧
        CB w0 ety O st b G' (xs ++ f (n + 1) ps (.mk d m t ns ks) :: (((ns.zip ks).take j).map fun y => linT f n (ps ++ [y.1]) y.2).flatten) ∧ PathIn w0 st (b :: G') v ps ∧
        l = [v, .func (.func c) ⟨[]⟩ ⟨[.pointer (some ⟨b, 0, none⟩)]⟩, u, .int .i64 (ns.length : Nat), .int .i64 (j : Nat), .bool d, .int .i64 m, .string t, u, w]) ?_
      ⟨0, G1, by omega, k1, k1.old k0 hG0, hG1', by simpa using hB1, hP1, rfl⟩
    rintro q l st L ⟨j, G', hcj, kst, k0st, hG', hB', hP', rfl⟩ hL
    simp only [vget, List.getD_cons_zero, List.getD_cons_succ]
    rw [pBin_lt, pIf_d]
    refine ⟨fun hi => ?_, fun hi => ?_⟩
    · have hx1 := List.getElem?_eq_getElem (show j < ns.length by omega)
      have hx2 := List.getElem?_eq_getElem (show j < ks.length by omega)
      generalize hxi : ns[j]'(by omega) = y1 at hx1
      generalize hxk : ks[j]'(by omega) = y2 at hx2
      have h5y := hns _ (List.mem_of_getElem? hx1)
      have hky := hks _ (List.mem_of_getElem? hx2)
      have hz : (ns.zip ks)[j]? = some (y1, y2) := by rw [List.getElem?_zip_eq_some]; exact ⟨hx1, hx2⟩
      have hcy := sumBy_mem (f := cntT n) (List.mem_of_getElem? hx2)
      refine RSl.at1 (h4.mono k0st.le fun _ _ h => h) hx1 fun g hg hgs => ?_
      have h5b : RSl 5 (RB (RT n) (Av.get w0 σ0)) (Av.get w0 st) w ks := by
        obtain ⟨A, cap, e1, e2, e3⟩ := h5
        refine ⟨A, cap, e1, e2, fun j x hj => ?_⟩
        obtain ⟨a, es, q1, q2, q3, q4⟩ := e3 j x hj
        refine ⟨a, es, q1, q2, fun i hi => ?_, q4⟩
        have := q3 i hi
        rw [List.getElem?_eq_getElem (by omega)] at this ⊢
        exact k0st.le _ _ this
      refine RSl.atp h5b hx2 fun p2 g2 hg2 => ?_
      rw [hg]
      refine below_path hP'.now (by omega) (by omega) fun pv PF s2 k2 op fp => ⟨k2.stay, ?_⟩
      have hB2 := hB'.frame ok k2
      have hG'σ : ∀ i, i ∈ b :: G' → σ0 i = none := fun i hi => by
        rcases hG' i hi with h | h
        · exact hG0 i h
        · exact none_old k0 h
      have hq1 : (((ns.zip ks).take j).map fun y => linT f n (ps ++ [y.1]) y.2).flatten.length + (cntT n y2 + 1) ≤ ks.length + sumBy (cntT n) ks := by
        have q1 : (((ns.zip ks).take j).map fun z => linT f n (ps ++ [z.1]) z.2).flatten.length ≤ sumBy (fun z : ByteArray × Tr => cntT n z.2 + 1) ((ns.zip ks).take j) := flat_sum fun z _ => linT_len f n _ _
        have q2 := sumBy_le (f := fun z : ByteArray × Tr => cntT n z.2 + 1) (xs := ns.zip ks) (j + 1)
        have q4 := sumBy_take (f := fun z : ByteArray × Tr => cntT n z.2 + 1) hz
        have q3 := zip_sum (f := cntT n) (ns := ns) (ks := ks)
        simp only at q4
        omega
      refine ih (by omega) hg2 hky (by omega) (k0st.trans k2) hG'σ hB2 (PathIn.of_own op fun i hi hi' => hB'.dom ok i hi' (fp i hi)) (by rw [List.length_append, sumS_snoc]; simp only [List.length_cons, List.length_nil]; omega)
        (by rw [List.length_append, List.length_cons]; omega) fun G3 s3 k3 hB3 hG3 => ?_
      rw [pBin_add (by omega)]
      have hst : ∀ i, i ∈ G3 → i ∈ G' ∨ st i = none := fun i hi => by
        rcases hG3 i hi with h | h
        · exact .inl h
        · exact .inr (none_old k2 h)
      have k23 : KeepsBut (b :: G') st s3 := fun i r hi hn => k3 i r (k2 i r hi) hn
      have kall : KeepsBut (b :: G) s s3 := fun i r hi hiG => k23 i r (kst i r hi hiG) fun h => by
        rcases hG' i h with h | h
        · exact hiG h
        · rw [hi] at h; cases h
      have hsn : ∀ i, i ∈ b :: G3 → i ∈ b :: G' ∨ st i = none := fun i hi => by
        rcases List.mem_cons.1 hi with rfl | hi
        · exact .inl List.mem_cons_self
        · rcases hst i hi with h | h
          · exact .inl (List.mem_cons_of_mem _ h)
          · exact .inr h
      refine hL _ _ (q - 1) (by omega) ⟨j + 1, G3, by omega, kall, k23.old k0st hG'σ, fun i hi => ?_, ?_, hP'.next k23 hsn, by simp⟩
      · rcases hsn i hi with h | h
        · exact hG' i h
        · by_cases hiG : i ∈ b :: G
          · exact .inl hiG
          · refine .inr ?_
            cases hs : s i with
            | none => rfl
            | some r => rw [kst i r hs hiG] at h; cases h
      · rw [flat_take hz]
        have e : xs ++ f (n + 1) ps (.mk d m t ns ks) :: ((((ns.zip ks).take j).map fun y => linT f n (ps ++ [y.1]) y.2).flatten ++ linT f n (ps ++ [y1]) y2) = (xs ++ f (n + 1) ps (.mk d m t ns ks) :: (((ns.zip ks).take j).map fun y => linT f n (ps ++ [y.1]) y.2).flatten) ++ linT f n (ps ++ [y1]) y2 := by simp
        rw [e]; exact hB3
    · have e : j = ns.length := by omega
      subst e
      rw [List.take_of_length_le (by rw [List.length_zip]; omega)] at hB'
      refine hR G' st kst hB' fun i hi => ?_
      rcases hG' i (List.mem_cons_of_mem _ hi) with h | h
      · rcases List.mem_cons.1 h with h | h
        · exact absurd (h ▸ hi) hB'.2.1
        · exact .inl h
      · exact .inr h
end
end Go.Proofs.Ytlbpnfhhoalenaa

/- A box into which one more is put; a row that stays. -/
set_option linter.unusedVariables false
set_option linter.unusedSimpArgs false
namespace Go.Proofs.Ytlbpnfhhoalenaa
open Go Go.Av

section
variable {w0 : World} {σ : Vw} {α : Type}

theorem stay_row {s s' : Vw} {b n : Nat} {r : Row} (hb : w0.heap.size ≤ b) (h : s b = some r) (h' : s' b = some r) : Stay w0 s s' (.pointer (some ⟨b, 0, none⟩)) n := fun a g e hc j hj => by
  cases e
  have := hc j hj
  rw [addr_add, get_row hb h] at this
  rw [addr_add, get_row hb h']
  exact this
theorem load_row {s : Vw} {b : Nat} {r : Row} {v : Value} (hb : w0.heap.size ≤ b) (hr : s b = some r) (hc : r.cells = [v]) {K : (Nat → Value) → Prop} (hK : ∀ g : Nat → Value, g 0 = v → K g) : pLoad w0 1 (.pointer (some ⟨b, 0, none⟩)) s K := by
  refine ⟨⟨b, 0, none⟩, fun _ => v, rfl, fun i hi => ?_, hK _ rfl⟩
  have e : i = 0 := by omega
  subst e
  rw [addr_add, get_row hb hr, hc]; rfl

theorem box_push {ety b e2 : Nat} {Rel : (Addr → Option Value) → List Value → α → Prop} {O : Vw → List Nat → List Value → α → Prop} (ok : OOk w0 5 Rel O) {s : Vw} {G P : List Nat} {v : Value} {es : List Value} {xs : List α} {y : α}
    (hb : w0.heap.size ≤ b) (hbG : b ∉ G) (hr : s b = some ⟨e2, [v], 1, (0, 0)⟩) (ho : OAcc w0 ety 5 O s G v xs) (hy : O s P es y) (hP : ∀ i, i ∈ P → i ∉ b :: G) (hl : xs.length ≤ 1000000) {R : Value → Vw → Prop}
    (hR : ∀ G' s', KeepsBut (b :: G) s s' → CB w0 ety O s' b G' (xs ++ [y]) → (∀ i, i ∈ G' → i ∈ G ∨ i ∈ P ∨ s i = none) → R (.tuple ⟨[]⟩) s') :
    allOne es ∧ pAppend w0 ety 5 64 v 1 es s (fun v7 s8 => pVal false 1 v7 (pStore (.pointer (some ⟨b, 0, none⟩)) [v7] s8 (fun s9 => R (.tuple ⟨[]⟩) s9))) := by
  refine ho.one ok hy (fun i hi hi' => hP i hi (List.mem_cons_of_mem _ hi')) (by omega) (by omega) fun v' F' s8 k8 o8 f8 => ?_
  have hr8 := k8 b _ hr hbG
  have hbF : b ∉ F' := fun h => by
    rcases f8 b h with h | h | h
    · exact hbG h
    · exact hP b h List.mem_cons_self
    · rw [hr] at h; cases h
  refine elem_store (A := []) (C := []) (x := v) hr8 rfl rfl (OSl.one' o8.osl) ?_
  simp only [List.nil_append, List.append_nil]
  have kk : KeepsBut (b :: G) s (s8.put b ⟨e2, [v'], 1, (0, 0)⟩) := fun i r hi hn => by
    have h1 : i ≠ b := fun e => hn (e ▸ List.mem_cons_self)
    rw [put_ne h1]
    exact k8 i r hi fun h => hn (List.mem_cons_of_mem _ h)
  refine hR F' _ kk ⟨hb, hbF, v', e2, put_at, o8.frame ok fun i hi => put_ne fun e => hbF (e ▸ hi)⟩ f8

/-- A new box that holds no elements. -/
theorem box_new {ety e2 : Nat} {O : Vw → List Nat → List Value → α → Prop} {R : Nat → Vw → Prop} (hR : ∀ b b0 s', Keeps σ s' → CB w0 ety O s' b [b0] [] → σ b = none → σ b0 = none → R b s') :
    pNew w0 ety [] σ (fun n0 s1 => pNew w0 e2 [.slice none 0 0] s1 (fun n2 s3 => pVal false 1 (.slice (some (Addr.mk n0 0 none)) 0 0) (pStore (.pointer (some (Addr.mk n2 0 none))) [.slice (some (Addr.mk n0 0 none)) 0 0] s3 (fun s4 => R n2 s4)))) := by
  intro b0 h1 h2 b h3 h4
  refine elem_store (A := []) (C := []) (x := .slice none 0 0) put_at rfl rfl rfl ?_
  simp only [List.nil_append, List.append_nil]
  rw [put_put]
  have k0 : Keeps σ (σ.put b0 ⟨ety, [], 0, (0, 0)⟩) := Keeps.put h2
  have k1 : Keeps (σ.put b0 ⟨ety, [], 0, (0, 0)⟩) ((σ.put b0 ⟨ety, [], 0, (0, 0)⟩).put b ⟨e2, [.slice (some ⟨b0, 0, none⟩) 0 0], 1, (0, 0)⟩) := Keeps.put h4
  have hne : b ≠ b0 := fun e => by rw [e] at h4; simp [Vw.put] at h4
  have o0 : OAcc w0 ety 5 O (σ.put b0 ⟨ety, [], 0, (0, 0)⟩) [b0] (.slice (some ⟨b0, 0, none⟩) 0 0) [] := OAcc.new h1
  refine hR b b0 _ (k0.trans k1) ⟨h3, fun h => hne (List.mem_singleton.1 h), _, e2, put_at, ?_⟩ (none_old k0 h4) h2
  refine ⟨by simp, by simp, .inr ⟨b0, 0, [], [], rfl, by simp, h1, ?_, rfl, rfl, rfl, fun j c x f h => by simp at h⟩⟩
  rw [put_ne (Ne.symm hne), put_at]; simp
theorem box_read {ety b : Nat} {O : Vw → List Nat → List Value → α → Prop} {s : Vw} {G : List Nat} {xs : List α} (h : CB w0 ety O s b G xs) {K : Value → Prop} (hK : ∀ v, OAcc w0 ety 5 O s G v xs → K v) : pLoad w0 1 (.pointer (some (Addr.mk b 0 none))) s (fun g => K (g 0)) := by
  obtain ⟨h1, h2, v, e2, h3, h4⟩ := h
  refine load_row h1 h3 rfl fun g hg => ?_
  rw [hg]; exact hK v h4
theorem nil_in {s : Vw} {G : List Nat} : PathIn w0 s G (.slice none 0 0) [] := fun s' _ => ⟨none, 0, rfl, by simp, fun j x h => by simp at h⟩
end
theorem sumBy_bound {α : Type} {f : α → Nat} {c : Nat} : ∀ {xs : List α}, (∀ x, x ∈ xs → f x ≤ c) → sumBy f xs ≤ c * xs.length
  | [], _ => by simp [sumBy]
  | a :: r, h => by
    have h1 := h a (by simp)
    have h2 := sumBy_bound (xs := r) fun x hx => h x (by simp [hx])
    simp only [sumBy, List.length_cons, Nat.mul_add, Nat.mul_one]; omega
theorem lin_mem {α : Type} {f : Nat → List ByteArray → Tr → α} {y : α} : ∀ (n : Nat) (ps : List ByteArray) (x : Tr), y ∈ linT f n ps x → ∃ m qs z, y = f m qs z ∧ qs.length ≤ ps.length + n ∧ m ≤ n
  | 0, _, _, h => by simp [linT] at h
  | n + 1, ps, .mk d m t ns ks, h => by
    rw [linT_step] at h
    rcases List.mem_cons.1 h with h | h
    · exact ⟨_, _, _, h, by omega, Nat.le_refl _⟩
    · obtain ⟨l, hl, hy⟩ := List.mem_flatten.1 h
      obtain ⟨z, hz, rfl⟩ := List.mem_map.1 hl
      obtain ⟨k, qs, w, e, hq, hk⟩ := lin_mem n _ _ hy
      exact ⟨k, qs, w, e, by rw [List.length_append] at hq; simp at hq; omega, by omega⟩
end Go.Proofs.Ytlbpnfhhoalenaa

/- Texts in order; two lists of named parts in step. -/
set_option linter.unusedVariables false
set_option linter.unusedSimpArgs false
namespace Go.Proofs.Ytlbpnfhhoalenaa
open Go Go.Av

theorem bl_trans : ∀ (a b c : List UInt8), Op.bytesLess a b = true → Op.bytesLess b c = true → Op.bytesLess a c = true
  | _, [], _, h, _ => by simp [Op.bytesLess] at h
  | _, _ :: _, [], _, h => by simp [Op.bytesLess] at h
  | [], _ :: _, _ :: _, _, _ => by simp [Op.bytesLess]
  | x :: r, y :: q, z :: s, h, h' => by
    simp only [Op.bytesLess, Bool.or_eq_true, Bool.and_eq_true, decide_eq_true_eq, beq_iff_eq, UInt8.lt_iff_toNat_lt] at h h' ⊢
    rcases h with h | ⟨rfl, h⟩ <;> rcases h' with h' | ⟨rfl, h'⟩
    · left; omega
    · left; exact h
    · left; exact h'
    · right; exact ⟨rfl, bl_trans r q s h h'⟩
theorem strLt_trans {a b c : ByteArray} (h : strLt a b = true) (h' : strLt b c = true) : strLt a c = true := bl_trans _ _ _ h h'
theorem strLt_asymm {a b : ByteArray} (h : strLt a b = true) : strLt b a = false := by
  cases h' : strLt b a with
  | false => rfl
  | true => have := strLt_trans h h'; rw [strLt_irrefl] at this; cases this
theorem strLt_ne {a b : ByteArray} (h : strLt a b = true) : a ≠ b := fun e => by rw [e, strLt_irrefl] at h; cases h

def AscS (l : List ByteArray) : Prop := l.Pairwise fun a b => strLt a b = true
theorem asc_unique : ∀ {l l' : List ByteArray}, AscS l → AscS l' → (∀ x, x ∈ l ↔ x ∈ l') → l = l'
  | [], [], _, _, _ => rfl
  | [], y :: q, _, _, h => absurd ((h y).2 List.mem_cons_self) (by simp)
  | x :: r, [], _, _, h => absurd ((h x).1 List.mem_cons_self) (by simp)
  | x :: r, y :: q, h1, h2, h => by
    obtain ⟨a1, a2⟩ := List.pairwise_cons.1 h1
    obtain ⟨b1, b2⟩ := List.pairwise_cons.1 h2
    have e : x = y := by
      rcases List.mem_cons.1 ((h x).1 List.mem_cons_self) with e | hx
      · exact e
      · rcases List.mem_cons.1 ((h y).2 List.mem_cons_self) with e | hy
        · exact e.symm
        · have := strLt_trans (a1 y hy) (b1 x hx)
          rw [strLt_irrefl] at this; cases this
    subst e
    rw [asc_unique a2 b2 fun z => ?_]
    constructor
    · intro hz
      rcases List.mem_cons.1 ((h z).1 (List.mem_cons_of_mem _ hz)) with e | h'
      · exact absurd e.symm (strLt_ne (a1 z hz))
      · exact h'
    · intro hz
      rcases List.mem_cons.1 ((h z).2 (List.mem_cons_of_mem _ hz)) with e | h'
      · exact absurd e.symm (strLt_ne (b1 z hz))
      · exact h'
theorem asc_of : ∀ {l : List ByteArray}, (∀ (j : Nat) (x y : ByteArray), l[j]? = some x → l[j + 1]? = some y → strLt x y = true) → AscS l
  | [], _ => List.Pairwise.nil
  | [a], _ => List.pairwise_singleton _ _
  | a :: b :: r, h => by
    have ih : AscS (b :: r) := asc_of fun j x y hx hy => h (j + 1) x y (by simpa using hx) (by simpa using hy)
    have hab := h 0 a b rfl rfl
    refine List.pairwise_cons.2 ⟨fun z hz => ?_, ih⟩
    rcases List.mem_cons.1 hz with rfl | hz
    · exact hab
    · exact strLt_trans hab ((List.pairwise_cons.1 ih).1 z hz)
theorem asc_names {ns : List ByteArray} (h : namesP ns) : AscS ns := asc_of fun j x y hx hy => by
  have := h (j + 1) y hy
  simp only [nameAt, Bool.and_eq_true] at this
  have h2 := this.2
  simp only [prevLt, hx] at h2
  exact h2

/-! ### Sorted and compacted -/
section
variable {α : Type} [DecidableEq α] [Inhabited α]
theorem compactUpTo_mem (d : Array α) : ∀ (m : Nat), ∀ x, x ∈ Lib.compactUpTo d m ↔ ∃ j, j < m ∧ d[j]! = x
  | 0, x => by simp [Lib.compactUpTo]
  | m + 1, x => by
    rw [Lib.compactUpTo_succ, List.mem_append, compactUpTo_mem d m x]
    constructor
    · rintro (⟨j, hj, e⟩ | h)
      · exact ⟨j, by omega, e⟩
      · split at h
        · simp at h; exact ⟨m, by omega, h.symm⟩
        · cases h
    · rintro ⟨j, hj, e⟩
      by_cases hjm : j = m
      · subst hjm
        by_cases hk : Lib.keeps d j = true
        · rw [if_pos hk]; simp [e]
        · left
          have hk' : ¬ (j = 0 ∨ d[j]! ≠ d[j - 1]!) := by simpa [Lib.keeps] using hk
          have h0 : ¬ j = 0 := fun h => hk' (.inl h)
          have h1 : d[j]! = d[j - 1]! := Decidable.not_not.1 fun h => hk' (.inr h)
          exact ⟨j - 1, by omega, by rw [← h1]; exact e⟩
      · exact .inl ⟨j, by omega, e⟩
theorem compactUpTo_asc {lt : α → α → Prop} (d : Array α) (trans : ∀ a b c, lt a b → lt b c → lt a c) (hle : ∀ i j, i < j → j < d.size → d[i]! = d[j]! ∨ lt d[i]! d[j]!) : ∀ (m : Nat), m ≤ d.size → (Lib.compactUpTo d m).Pairwise lt
  | 0, _ => by simp [Lib.compactUpTo]
  | m + 1, hm => by
    rw [Lib.compactUpTo_succ]
    have ih := compactUpTo_asc d trans hle m (by omega)
    refine List.pairwise_append.2 ⟨ih, by split <;> simp, fun a ha b hb => ?_⟩
    split at hb
    · rename_i hk
      simp at hb
      subst hb
      obtain ⟨j, hj, rfl⟩ := (compactUpTo_mem d m a).1 ha
      have hk' : m = 0 ∨ d[m]! ≠ d[m - 1]! := by simpa [Lib.keeps] using hk
      rcases hk' with h | h
      · omega
      · have h1 : lt d[m - 1]! d[m]! := (hle (m - 1) m (by omega) (by omega)).resolve_left fun e => h e.symm
        by_cases hjm : j = m - 1
        · subst hjm; exact h1
        · rcases hle j (m - 1) (by omega) (by omega) with e | e
          · rw [e]; exact h1
          · exact trans _ _ _ e h1
    · cases hb
end
theorem leL_iff {x y : List UInt8} : decide (x ≤ y) = true ↔ Op.bytesLess y x = false := by
  rw [bytesLess_eq, decide_eq_true_eq, decide_eq_false_iff_not]
  exact Iff.rfl
theorem sorted_str (zs : List (List UInt8)) : (zs.mergeSort fun x y => decide (x ≤ y)).Pairwise (fun a b => a = b ∨ Op.bytesLess a b = true) := by
  have h := List.pairwise_mergeSort (le := fun x y : List UInt8 => decide (x ≤ y)) (fun a b c h1 h2 => by
      rw [leL_iff] at h1 h2 ⊢
      cases h : Op.bytesLess c a with
      | false => rfl
      | true =>
        by_cases e : a = b
        · subst e; rw [h] at h2; cases h2
        · have : Op.bytesLess a b = true := by
            cases h3 : Op.bytesLess a b with
            | true => rfl
            | false => exact absurd (bl_total _ _ h3 h1) e
          rw [bl_trans _ _ _ h this] at h2; cases h2) (fun a b => by
      simp only [Bool.or_eq_true]
      rw [leL_iff, leL_iff]
      cases h : Op.bytesLess b a with
      | false => exact .inl rfl
      | true =>
        refine .inr ?_
        cases h' : Op.bytesLess a b with
        | false => rfl
        | true => have := bl_trans _ _ _ h h'; rw [bl_irrefl] at this; cases this) zs
  refine h.imp fun {a b} hab => ?_
  rw [leL_iff] at hab
  by_cases e : a = b
  · exact .inl e
  · refine .inr ?_
    cases h3 : Op.bytesLess a b with
    | true => rfl
    | false => exact absurd (bl_total _ _ h3 hab) e
def sortU (zs : List (List UInt8)) : List (List UInt8) := Lib.compact (zs.mergeSort fun x y => decide (x ≤ y))
theorem get_bang {l : List (List UInt8)} {j : Nat} (h : j < l.length) : l.toArray[j]! = l[j] := by rw [getElem!_pos _ j (by simpa using h)]; simp
theorem sortU_mem (zs : List (List UInt8)) (x : List UInt8) : x ∈ sortU zs ↔ x ∈ zs := by
  unfold sortU Lib.compact
  rw [compactUpTo_mem]
  have hp := List.mergeSort_perm zs (fun x y => decide (x ≤ y))
  generalize hl : (zs.mergeSort fun x y => decide (x ≤ y)) = l at hp
  rw [← hp.mem_iff]
  constructor
  · rintro ⟨j, hj, rfl⟩; rw [get_bang hj]; exact List.getElem_mem hj
  · intro hx
    obtain ⟨j, hj, rfl⟩ := List.getElem_of_mem hx
    exact ⟨j, hj, get_bang hj⟩
theorem sortU_asc (zs : List (List UInt8)) : (sortU zs).Pairwise (fun a b => Op.bytesLess a b = true) := by
  unfold sortU Lib.compact
  have hs := sorted_str zs
  generalize hl : (zs.mergeSort fun x y => decide (x ≤ y)) = l at hs
  refine compactUpTo_asc l.toArray bl_trans (fun i j hij hj => ?_) l.length (by simp)
  have hj' : j < l.length := by simpa using hj
  rw [get_bang hj', get_bang (show i < l.length by omega)]
  exact List.pairwise_iff_getElem.1 hs i j (by omega) hj' hij

/-! ### In step -/
def lk : List (ByteArray × Tr) → ByteArray → Option Tr
  | [], _ => none
  | (y, s) :: r, x => if y = x then some s else lk r x
theorem lk_none {l : List (ByteArray × Tr)} {x : ByteArray} (h : ∀ y, y ∈ l.map (·.1) → y ≠ x) : lk l x = none := by
  induction l with
  | nil => rfl
  | cons a r ih =>
    obtain ⟨y, s⟩ := a
    rw [lk, if_neg (h y (by simp)), ih fun z hz => h z (by simp at hz ⊢; exact .inr hz)]
theorem lk_zip : ∀ {ns : List ByteArray} {ks : List Tr}, ns.length = ks.length → ∀ x, lk (ns.zip ks) x = (nidx ns x).bind fun j => ks[j]?
  | [], [], _, x => rfl
  | [], _ :: _, h, _ => by simp at h
  | _ :: _, [], h, _ => by simp at h
  | n :: ns, k :: ks, h, x => by
    rw [List.zip_cons_cons, lk, nidx]
    split
    · rfl
    · rw [lk_zip (by simpa using h)]
      cases nidx ns x with
      | none => rfl
      | some j => simp
theorem zip_fst : ∀ {ns : List ByteArray} {ks : List Tr}, ns.length = ks.length → (ns.zip ks).map (·.1) = ns
  | [], [], _ => rfl
  | [], _ :: _, h => by simp at h
  | _ :: _, [], h => by simp at h
  | n :: ns, k :: ks, h => by rw [List.zip_cons_cons, List.map_cons, zip_fst (by simpa using h)]

abbrev Pr := ByteArray × Option Tr × Option Tr
def mrgK : List (ByteArray × Tr) → List (ByteArray × Tr) → List Pr
  | [], xb => xb.map fun y => (y.1, none, some y.2)
  | a :: xa, [] => (a :: xa).map fun y => (y.1, some y.2, none)
  | a :: xa, b :: xb =>
    if strLt a.1 b.1 = true then (a.1, some a.2, none) :: mrgK xa (b :: xb)
    else if strLt b.1 a.1 = true then (b.1, none, some b.2) :: mrgK (a :: xa) xb
    else (a.1, some a.2, some b.2) :: mrgK xa xb
termination_by xa xb => xa.length + xb.length

theorem lk_self : ∀ {l : List (ByteArray × Tr)}, AscS (l.map (·.1)) → ∀ y, y ∈ l → lk l y.1 = some y.2
  | (n, k) :: r, h, y, hy => by
    rw [List.map_cons] at h
    obtain ⟨h1, h2⟩ := List.pairwise_cons.1 h
    rw [lk]
    rcases List.mem_cons.1 hy with rfl | hy
    · rw [if_pos rfl]
    · rw [if_neg (strLt_ne (h1 y.1 (List.mem_map.2 ⟨y, hy, rfl⟩))), lk_self h2 y hy]
theorem mrgK_spec : ∀ (xa xb : List (ByteArray × Tr)), AscS (xa.map (·.1)) → AscS (xb.map (·.1)) →
    AscS ((mrgK xa xb).map (·.1)) ∧ (∀ x, x ∈ (mrgK xa xb).map (·.1) ↔ x ∈ xa.map (·.1) ∨ x ∈ xb.map (·.1)) ∧ ∀ z, z ∈ mrgK xa xb → z.2 = (lk xa z.1, lk xb z.1)
  | [], xb, ha, hb => by
    rw [mrgK]
    have e : ((xb.map fun y => ((y.1, none, some y.2) : Pr)).map (·.1)) = xb.map (·.1) := by simp [Function.comp_def]
    rw [e]
    refine ⟨hb, fun x => by simp, fun z hz => ?_⟩
    obtain ⟨y, hy, rfl⟩ := List.mem_map.1 hz
    simp only [lk, lk_self hb y hy]
  | a :: xa, [], ha, hb => by
    rw [mrgK]
    have e : (((a :: xa).map fun y => ((y.1, some y.2, none) : Pr)).map (·.1)) = (a :: xa).map (·.1) := by simp [Function.comp_def]
    rw [e]
    refine ⟨ha, fun x => by simp, fun z hz => ?_⟩
    obtain ⟨y, hy, rfl⟩ := List.mem_map.1 hz
    simp only [lk_self ha y hy]
    rfl
  | a :: xa, b :: xb, ha, hb => by
    obtain ⟨a1, a2⟩ := List.pairwise_cons.1 ha
    obtain ⟨b1, b2⟩ := List.pairwise_cons.1 hb
    rw [mrgK]
    split
    · rename_i h
      obtain ⟨i1, i2, i3⟩ := mrgK_spec xa (b :: xb) a2 hb
      have hlt : ∀ x, x ∈ (mrgK xa (b :: xb)).map (·.1) → strLt a.1 x = true := fun x hx => by
        rcases (i2 x).1 hx with h' | h'
        · exact a1 x h'
        · rcases List.mem_cons.1 h' with e | h'
          · rw [e]; exact h
          · exact strLt_trans h (b1 x h')
      refine ⟨List.pairwise_cons.2 ⟨hlt, i1⟩, fun x => ?_, fun z hz => ?_⟩
      · simp only [List.map_cons, List.mem_cons] at i2 ⊢
        rw [i2 x]
        constructor
        · rintro (h | h | h | h)
          · exact .inl (.inl h)
          · exact .inl (.inr h)
          · exact .inr (.inl h)
          · exact .inr (.inr h)
        · rintro ((h | h) | (h | h))
          · exact .inl h
          · exact .inr (.inl h)
          · exact .inr (.inr (.inl h))
          · exact .inr (.inr (.inr h))
      · rcases List.mem_cons.1 hz with rfl | hz
        · have e1 : lk (a :: xa) a.1 = some a.2 := lk_self ha a List.mem_cons_self
          have e2 : lk (b :: xb) a.1 = none := lk_none fun y hy => by
            rcases List.mem_cons.1 hy with e | hy
            · rw [e]; exact (strLt_ne h).symm
            · exact (strLt_ne (strLt_trans h (b1 y hy))).symm
          simp only [e1, e2]
        · have hz1 := hlt z.1 (List.mem_map.2 ⟨z, hz, rfl⟩)
          rw [i3 z hz]
          congr 1
          obtain ⟨an, ak⟩ := a
          rw [lk, if_neg (strLt_ne hz1)]
    · rename_i h
      split
      · rename_i h2
        obtain ⟨i1, i2, i3⟩ := mrgK_spec (a :: xa) xb ha b2
        have hlt : ∀ x, x ∈ (mrgK (a :: xa) xb).map (·.1) → strLt b.1 x = true := fun x hx => by
          rcases (i2 x).1 hx with h' | h'
          · rcases List.mem_cons.1 h' with e | h'
            · rw [e]; exact h2
            · exact strLt_trans h2 (a1 x h')
          · exact b1 x h'
        refine ⟨List.pairwise_cons.2 ⟨hlt, i1⟩, fun x => ?_, fun z hz => ?_⟩
        · simp only [List.map_cons, List.mem_cons] at i2 ⊢
          rw [i2 x]
          constructor
          · rintro (h | (h | h) | h)
            · exact .inr (.inl h)
            · exact .inl (.inl h)
            · exact .inl (.inr h)
            · exact .inr (.inr h)
          · rintro ((h | h) | (h | h))
            · exact .inr (.inl (.inl h))
            · exact .inr (.inl (.inr h))
            · exact .inl h
            · exact .inr (.inr h)
        · rcases List.mem_cons.1 hz with rfl | hz
          · have e1 : lk (b :: xb) b.1 = some b.2 := lk_self hb b List.mem_cons_self
            have e2 : lk (a :: xa) b.1 = none := lk_none fun y hy => by
              rcases List.mem_cons.1 hy with e | hy
              · rw [e]; exact (strLt_ne h2).symm
              · exact (strLt_ne (strLt_trans h2 (a1 y hy))).symm
            simp only [e1, e2]
          · have hz1 := hlt z.1 (List.mem_map.2 ⟨z, hz, rfl⟩)
            rw [i3 z hz]
            congr 1
            obtain ⟨bn, bk⟩ := b
            rw [lk, if_neg (strLt_ne hz1)]
      · rename_i h2
        have eab : a.1 = b.1 := strLt_total (by simpa using h) (by simpa using h2)
        obtain ⟨i1, i2, i3⟩ := mrgK_spec xa xb a2 b2
        have hlt : ∀ x, x ∈ (mrgK xa xb).map (·.1) → strLt a.1 x = true := fun x hx => by
          rcases (i2 x).1 hx with h' | h'
          · exact a1 x h'
          · rw [eab]; exact b1 x h'
        refine ⟨List.pairwise_cons.2 ⟨hlt, i1⟩, fun x => ?_, fun z hz => ?_⟩
        · simp only [List.map_cons, List.mem_cons] at i2 ⊢
          rw [i2 x]
          constructor
          · rintro (h | h | h)
            · exact .inl (.inl h)
            · exact .inl (.inr h)
            · exact .inr (.inr h)
          · rintro ((h | h) | (h | h))
            · exact .inl h
            · exact .inr (.inl h)
            · exact .inl (h.trans eab.symm)
            · exact .inr (.inr h)
        · rcases List.mem_cons.1 hz with rfl | hz
          · have e1 : lk (a :: xa) a.1 = some a.2 := lk_self ha a List.mem_cons_self
            have e2 : lk (b :: xb) a.1 = some b.2 := by rw [eab]; exact lk_self hb b List.mem_cons_self
            simp only [e1, e2]
          · have hz1 := hlt z.1 (List.mem_map.2 ⟨z, hz, rfl⟩)
            rw [i3 z hz]
            obtain ⟨an, ak⟩ := a
            obtain ⟨bn, bk⟩ := b
            simp only at eab hz1
            rw [lk, if_neg (strLt_ne hz1), lk, if_neg (by rw [← eab]; exact strLt_ne hz1)]
termination_by xa xb => xa.length + xb.length

/-- By the names of both, ascending. -/
theorem mrgK_names {xa xb : List (ByteArray × Tr)} (ha : AscS (xa.map (·.1))) (hb : AscS (xb.map (·.1))) {L : List ByteArray} (hL : AscS L) (hm : ∀ x, x ∈ L ↔ x ∈ xa.map (·.1) ∨ x ∈ xb.map (·.1)) :
    L.map (fun n => ((n, lk xa n, lk xb n) : Pr)) = mrgK xa xb := by
  obtain ⟨h1, h2, h3⟩ := mrgK_spec xa xb ha hb
  have e : L = (mrgK xa xb).map (·.1) := asc_unique hL h1 fun x => by rw [hm x, h2 x]
  rw [e, List.map_map]
  conv => rhs; rw [← List.map_id (mrgK xa xb)]
  apply List.map_congr_left
  intro z hz
  have := h3 z hz
  obtain ⟨n, p⟩ := z
  simp only [Function.comp_apply, id_eq]
  simp only at this
  rw [this]
theorem sum_left {A B : Option Tr → Nat} (hB : B none = 0) : ∀ l : List (ByteArray × Tr), sumBy (fun z : Pr => A z.2.1 + B z.2.2) (l.map fun y => (y.1, some y.2, none)) = sumBy (fun y => A (some y.2)) l
  | [] => rfl
  | b :: r => by simp only [List.map_cons, sumBy, sum_left hB r, hB]; omega
theorem sum_right {A B : Option Tr → Nat} (hA : A none = 0) : ∀ l : List (ByteArray × Tr), sumBy (fun z : Pr => A z.2.1 + B z.2.2) (l.map fun y => (y.1, none, some y.2)) = sumBy (fun y => B (some y.2)) l
  | [] => rfl
  | b :: r => by simp only [List.map_cons, sumBy, sum_right hA r, hA]; omega
/-- What is summed over both. -/
theorem mrgK_sum {A B : Option Tr → Nat} (hA : A none = 0) (hB : B none = 0) : ∀ (xa xb : List (ByteArray × Tr)), sumBy (fun z : Pr => A z.2.1 + B z.2.2) (mrgK xa xb) = sumBy (fun y => A (some y.2)) xa + sumBy (fun y => B (some y.2)) xb
  | [], xb => by rw [mrgK, sum_right hA]; simp [sumBy]
  | a :: xa, [] => by rw [mrgK, sum_left hB]; simp [sumBy]
  | a :: xa, b :: xb => by
    rw [mrgK]
    split
    · have := mrgK_sum hA hB xa (b :: xb)
      simp only [sumBy, this, hB]; omega
    · split
      · have := mrgK_sum hA hB (a :: xa) xb
        simp only [sumBy, this, hA]; omega
      · have := mrgK_sum hA hB xa xb
        simp only [sumBy, this]; omega
termination_by xa xb => xa.length + xb.length
end Go.Proofs.Ytlbpnfhhoalenaa

/- slices.Sort and slices.Compact on texts in rows of our own; the names of either of two parts. -/
set_option linter.unusedVariables false
set_option linter.unusedSimpArgs false
namespace Go.Proofs.Ytlbpnfhhoalenaa
open Go Go.Av Go.RowKit Go.Sort

section
variable {w0 : World} {σ : Vw} {α : Type}

theorem put_cells {enc : α → Value} [Inhabited α] {zs ds : List α} {cur : Array Value} (hp : zs.map enc <+: cur.toList) (hl : ds.length = zs.length) : (ds.map enc <+: (putCells enc 0 ds.toArray cur).toList) ∧ (putCells enc 0 ds.toArray cur).size = cur.size := by
  refine ⟨?_, by simp [putCells]⟩
  have hlen := hp.length_le
  simp only [List.length_map, Array.length_toList] at hlen
  rw [List.prefix_iff_getElem?]
  intro i hi
  have hi' : i < ds.length := by simpa using hi
  rw [Array.getElem?_toList]
  simp only [putCells, Array.getElem?_mapIdx]
  rw [Array.getElem?_eq_getElem (by omega), Option.map_some, if_pos ⟨by omega, by simp; omega⟩]
  simp only [Nat.sub_zero, List.getElem_map, Option.some.injEq]
  rw [getElem!_pos _ i (by simpa using hi')]
  simp
theorem put_aft {enc : α → Value} [Inhabited α] {w : World} {b e cap n : Nat} {zs ds : List α} {os : Array Obj} (hw : Sat w0 σ w) (hb : w0.heap.size ≤ b) (hr : σ b = some ⟨e, zs.map enc, cap, (0, 0)⟩) (hl : ds.length = zs.length) :
    Aft w0 σ w (σ.put b ⟨e, ds.map enc, cap, (0, 0)⟩) (Sort.grow (putRow enc (Sort.ahead w n) b 0 ds.toArray) os) := by
  obtain ⟨_, cur, hc, hpre, hcap, _⟩ := hw.row b _ hr
  simp only at hc hpre hcap
  have hlt := hw.lt hr
  obtain ⟨p1, p2⟩ := put_cells (enc := enc) hpre hl
  have hs : (putRow enc (Sort.ahead w n) b 0 ds.toArray).heap.size = w.heap.size := by simp [putRow, mapBlock, Sort.ahead]
  have hk : ∀ k, k < w.heap.size → k ≠ b → (Sort.grow (putRow enc (Sort.ahead w n) b 0 ds.toArray) os).heap[k]? = w.heap[k]? := fun k hk hkb => by
    rw [Sort.heap_grow_old _ _ (by omega)]
    have hkb' : ¬ b = k := fun e => hkb e.symm
    simp [putRow, mapBlock, Sort.ahead, Array.getElem?_modify, hkb']
  have hbk : (Sort.grow (putRow enc (Sort.ahead w n) b 0 ds.toArray) os).heap[b]? = some (.cells (putCells enc 0 ds.toArray cur) e (0, 0)) := by
    rw [Sort.heap_grow_old _ _ (by omega)]
    simp [putRow, mapBlock, Sort.ahead, Array.getElem?_modify, hc, onCells]
  have hsz : w.heap.size ≤ (Sort.grow (putRow enc (Sort.ahead w n) b 0 ds.toArray) os).heap.size := by simp [Sort.grow, hs]
  refine ⟨⟨?_, fun i r hi => ?_⟩, hsz, fun i hi hn => hk i hi (fun e => by rw [e, hr] at hn; cases hn), fun i r hi => ?_⟩
  · refine ⟨hw.bel.os, hw.bel.tape, hw.bel.output, Nat.le_trans hw.bel.size hsz, fun i hi => ?_⟩
    rw [hk i (Nat.lt_of_lt_of_le hi hw.bel.size) (by omega)]
    exact hw.bel.block i hi
  · by_cases e1 : i = b
    · subst e1
      rw [put_at] at hi; cases hi
      exact ⟨hb, _, hbk, p1, by rw [p2]; exact hcap, .inr (Nat.le_refl _)⟩
    · rw [put_ne e1] at hi
      obtain ⟨g1, cur', g2, g3⟩ := hw.row i r hi
      exact ⟨g1, cur', (hk i (hw.lt hi) e1).trans g2, g3⟩
  · by_cases e1 : i = b
    · subst e1; exact .inl (by rw [hr]; simp)
    · rw [put_ne e1] at hi; exact .inl (by rw [hi]; simp)

theorem enc_strs (l : List (List UInt8)) : l.map encStr = (l.map ofL).map Value.string := by rw [List.map_map]; rfl
theorem ofL_bls (l : List ByteArray) : (l.map bl).map ofL = l := by
  rw [List.map_map]
  have : ∀ l : List ByteArray, l.map (ofL ∘ bl) = l := fun l => by
    induction l with
    | nil => rfl
    | cons a r ih => simp only [List.map_cons, Function.comp_apply, ofL_bl, ih]
  exact this l
/-- The row behind a list of texts that may grow. -/
theorem acc_cells {F : List Nat} {v : Value} {xs : List ByteArray} (h : OAcc w0 t_string 1 OStr σ F v xs) : (v = .slice none 0 0 ∧ xs = [] ∧ F = []) ∨
    ∃ b cap, v = .slice (some ⟨b, 0, none⟩) xs.length cap ∧ (xs.length ≤ cap ∧ cap ≤ 9223372036854775807) ∧ w0.heap.size ≤ b ∧ σ b = some ⟨t_string, xs.map Value.string, cap, (0, 0)⟩ ∧ F = [b] ∧ ∀ x, x ∈ xs → x.size ≤ 9223372036854775807 := by
  obtain ⟨h1, h2, h3 | ⟨b, cap, css, Fs, g1, g2, g3, g4, g5, g6, g7, g8⟩⟩ := h
  · exact .inl h3
  · refine .inr ⟨b, cap, g1, g2, g3, ?_, ?_, fun x hx => ?_⟩
    · rw [g4, Nat.mul_one]
      have e : css.flatten = xs.map Value.string := by
        have e2 : css = xs.map fun s => [Value.string s] := by
          apply List.ext_getElem?
          intro j
          rw [List.getElem?_map]
          by_cases hj : j < xs.length
          · have hc := List.getElem?_eq_getElem (show j < css.length by omega)
            have := g8 j _ _ _ hc (List.getElem?_eq_getElem hj) (List.getElem?_eq_getElem (by omega))
            rw [hc, List.getElem?_eq_getElem hj, this.2.1]; rfl
          · rw [List.getElem?_eq_none (by omega), List.getElem?_eq_none (by omega)]; rfl
        rw [e2, ← flat_strs]
      rw [e]
    · rw [g7]
      congr 1
      refine List.eq_nil_iff_forall_not_mem.2 fun i hi => ?_
      obtain ⟨j, f, hf, hif⟩ := mem_flat hi
      have hjl := (List.getElem?_eq_some_iff.1 hf).1
      have := g8 j _ _ f (List.getElem?_eq_getElem (by omega)) (List.getElem?_eq_getElem (by omega)) hf
      rw [this.1] at hif; cases hif
    · obtain ⟨j, hj⟩ := List.getElem?_of_mem hx
      have hjl := (List.getElem?_eq_some_iff.1 hj).1
      exact (g8 j _ x _ (List.getElem?_eq_getElem (by omega)) hj (List.getElem?_eq_getElem (by omega))).2.2

def namesU (xs : List ByteArray) : List ByteArray := (sortU (xs.map bl)).map ofL
theorem namesU_mem (xs : List ByteArray) (x : ByteArray) : x ∈ namesU xs ↔ x ∈ xs := by
  unfold namesU
  constructor
  · intro h
    obtain ⟨l, hl, rfl⟩ := List.mem_map.1 h
    obtain ⟨y, hy, rfl⟩ := List.mem_map.1 ((sortU_mem _ _).1 hl)
    rw [ofL_bl]; exact hy
  · intro h
    exact List.mem_map.2 ⟨bl x, (sortU_mem _ _).2 (List.mem_map.2 ⟨x, h, rfl⟩), ofL_bl x⟩
theorem namesU_asc (xs : List ByteArray) : AscS (namesU xs) := by
  unfold namesU AscS
  rw [List.pairwise_map]
  refine (sortU_asc (xs.map bl)).imp fun {a b} h => ?_
  unfold strLt
  rw [ByteArray.toList_eq, ByteArray.toList_eq]
  exact h

theorem sort_compact {F : List Nat} {v : Value} {xs : List ByteArray} (h : OAcc w0 t_string 1 OStr σ F v xs) (hl : xs.length ≤ 1000000000000) {R : Value → Vw → Prop}
    (hR : ∀ v' σ', KeepsBut F σ σ' → OStrs w0 σ' F v' (namesU xs) → R v' σ') :
    AC Try.prog w0 n_slices_Sort_string_string [v] σ (fun _ s => AC Try.prog w0 n_slices_Compact_string_string [v] s R) := by
  refine ⟨is_slices_Sort_string_string, fun w hw => ?_⟩
  rcases acc_cells h with ⟨rfl, rfl, rfl⟩ | ⟨b, cap, rfl, hc, hb, hr, rfl, hsz⟩
  · refine (Try.slices_Sort_string_none none 0 w).mono ?_
    rintro e w' ⟨rfl, rfl⟩
    refine ⟨_, σ, rfl, ⟨is_slices_Compact_string_string, fun w2 hw2 => ?_⟩, Aft.refl hw⟩
    refine (Try.slices_Compact_string_empty none 0 w2).mono ?_
    rintro e w3 ⟨rfl, rfl⟩
    exact ⟨_, σ, rfl, hR _ _ (KeepsBut.refl _ _) ⟨by simp [namesU, sortU, Lib.compact, Lib.compactUpTo], by simp, .inl ⟨rfl, by simp [namesU, sortU, Lib.compact, Lib.compactUpTo], rfl⟩⟩, Aft.refl hw2⟩
  have e0 : xs.map Value.string = (xs.map bl).map encStr := by rw [enc_strs, ofL_bls]
  have hlz : (xs.map bl).length = xs.length := by simp
  have holds : ∀ {w : World} {s : Vw} {zs : List (List UInt8)}, Sat w0 s w → s b = some ⟨t_string, zs.map encStr, cap, (0, 0)⟩ → Holds encStr w b 0 zs.toArray := fun {w s zs} hw hr => by
    obtain ⟨_, cur, hc, hpre, hcap, _⟩ := hw.row b _ hr
    simp only at hc hpre hcap
    intro j hj
    have hj' : j < zs.length := by simpa using hj
    have hjc : j < cur.size := by have := hpre.length_le; simp at this; omega
    refine ⟨?_, ?_⟩
    · unfold World.cell?
      rw [hc]
      simp only [Option.isSome_none, Bool.false_eq_true, if_false, Nat.zero_add]
      have := hpre.getElem (i := j) (by simpa using hj')
      rw [← Array.getElem?_toList, List.getElem?_eq_getElem (by simpa using hjc), ← this, getElem!_pos _ j hj]
      simp
    · unfold World.frozen?
      rw [hc]
      simp
  rw [e0] at hr
  have h1 := Try.slices_Sort_string b 0 cap (xs.map bl) w (holds hw hr) (hw.lt hr) (by omega)
  rw [hlz] at h1
  refine h1.mono ?_
  rintro e w' ⟨rfl, n, os, rfl⟩
  have hlm : ((xs.map bl).mergeSort fun x y => decide (x ≤ y)).length = (xs.map bl).length := List.length_mergeSort _
  refine ⟨_, _, rfl, ⟨is_slices_Compact_string_string, fun w2 hw2 => ?_⟩, put_aft hw hb hr hlm⟩
  have hmz : ((xs.map bl).mergeSort fun x y => decide (x ≤ y)).length = xs.length := hlm.trans hlz
  have h2 := Try.slices_Compact_string b 0 cap ((xs.map bl).mergeSort fun x y => decide (x ≤ y)) w2 (holds hw2 put_at) (by omega) (by omega)
  rw [hmz] at h2
  refine h2.mono ?_
  rintro e w3 ⟨rfl, q, rfl⟩
  have hsu : Lib.compact ((xs.map bl).mergeSort fun x y => decide (x ≤ y)) = sortU (xs.map bl) := rfl
  have hsl : (sortU (xs.map bl)).length ≤ xs.length := by
    rw [← hsu, ← hmz]
    unfold Lib.compact Lib.compactUpTo
    rw [List.length_map]
    exact Nat.le_trans (List.length_filter_le _ _) (by simp)
  rw [hsu]
  have hln : (sortU (xs.map bl) ++ List.replicate (xs.length - (sortU (xs.map bl)).length) []).length = ((xs.map bl).mergeSort fun x y => decide (x ≤ y)).length := by
    rw [List.length_append, List.length_replicate, hmz]; omega
  have ha := put_aft (os := #[]) (n := q) hw2 hb (put_at (σ := σ) (r := ⟨t_string, ((xs.map bl).mergeSort fun x y => decide (x ≤ y)).map encStr, cap, (0, 0)⟩)) hln
  have eg : ∀ w : World, Sort.grow w #[] = w := fun w => by cases w; simp [Sort.grow]
  rw [eg] at ha
  have hnu : (sortU (xs.map bl)).length = (namesU xs).length := by simp [namesU]
  rw [hnu] at ha ⊢
  refine ⟨_, _, rfl, hR _ _ (fun i r hi hF => ?_) ?_, ha⟩
  · have : i ≠ b := fun e => hF (by simp [e])
    rw [put_ne this, put_ne this]; exact hi
  · refine ⟨by omega, by simp, .inr ⟨b, 0, cap, _, [], (List.replicate (xs.length - (namesU xs).length) []).map encStr, (namesU xs).map fun s => [Value.string s], List.replicate (namesU xs).length [], rfl, ⟨by omega, hc.2⟩, hb, put_at, ?_, rfl, by simp, by simp, by simp, fun j c x f e1 e2 e3 => ?_⟩⟩
    · simp only [List.nil_append]
      rw [List.map_append, ← flat_strs, enc_strs]; rfl
    · rw [List.getElem?_map, e2] at e1
      cases e1
      rw [List.getElem?_replicate] at e3
      split at e3
      · cases e3
        exact ⟨rfl, rfl, hsz x ((namesU_mem xs x).1 (List.mem_of_getElem? e2))⟩
      · cases e3

theorem ext_stay {s s' : Vw} {v : Value} {n : Nat} (h : Ext s s') : Stay w0 s s' v n := fun a g _ hc j hj => Ext.le h _ _ (hc j hj)
/-- A field behind a pointer is read; its address. -/
theorem PT.ldp {n : Nat} {p : Value} {x : Tr} (h : PT n (Av.get w0 σ) p x) (o : Nat) (ho : o < 5) {K : Value → (Nat → Value) → Prop} (hK : ∀ (q : Value) (es : List Value) (g : Nat → Value), RT n (Av.get w0 σ) es x → es[o]? = some (g 0) → K q g) : pNil p (pField o p fun q => pLoad w0 1 q σ (K q)) := by
  obtain ⟨a, es, rfl, h5, h6, h7⟩ := h
  rw [pNil_s, pField_s]
  refine ⟨_, fun _ => es.getD o undef, rfl, fun i hi => ?_, hK _ es _ h7 ?_⟩
  · have e : i = 0 := by omega
    subst e
    have := h6 o ho
    rw [add_add, Nat.add_zero, this, List.getElem?_eq_getElem (by omega)]
    simp only [List.getD_eq_getElem?_getD, List.getElem?_eq_getElem (show o < es.length by omega), Option.getD_some]
  · simp only [List.getD_eq_getElem?_getD, List.getElem?_eq_getElem (show o < es.length by omega), Option.getD_some]

theorem impl_either {n m : Nat} {p q : Value} {x y : Tr} (h : PT n (Av.get w0 σ) p x) (h' : PT m (Av.get w0 σ) q y) (hl : (namesOf x).length ≤ 1000000 ∧ (namesOf y).length ≤ 1000000) {R : Value → Vw → Prop}
    (hR : ∀ v F σ', Keeps σ σ' → OStrs w0 σ' F v (namesU (namesOf x ++ namesOf y)) → (∀ i, i ∈ F → σ i = none) → R v σ') : AC Try.prog w0 n_impl_either [p, q] σ R := by
  refine ac_impl_either ?_
  unfold vc_impl_either
  refine h.ldp 3 (by omega) fun qa es g he hg => ?_
  obtain ⟨u, w, rfl, _, _, h4, _, _⟩ := he.cells
  simp only [List.getElem?_cons_zero, List.getElem?_cons_succ, Option.some.injEq] at hg
  refine h'.ldp 3 (by omega) fun qb es' g' he' hg' => ?_
  obtain ⟨u', w', rfl, _, _, h4', _, _⟩ := he'.cells
  simp only [List.getElem?_cons_zero, List.getElem?_cons_succ, Option.some.injEq] at hg'
  intro b hb1 hb2
  have kb : Keeps σ (σ.put b ⟨t_string, [], 0, (0, 0)⟩) := Keeps.put hb2
  have hb0 : ∀ i, i ∈ [b] → σ i = none := fun i hi => by rw [List.mem_singleton.1 hi]; exact hb2
  refine ⟨kb.stay, kb.stay, ?_⟩
  rw [← hg]
  refine (OAcc.new (w0 := w0) (σ := σ) (ety := t_string) (n := 1) (O := OStr) hb1).allX (ok_str w0) h4 kb.le (fun es y hy => ⟨rfl, hy⟩) (by simp; omega) (by omega) fun v1 F1 s1 x1 k1 o1 f1 => ?_
  rw [List.nil_append] at o1
  refine ⟨ext_stay x1, ?_⟩
  have K1 := k1.old kb hb0
  have hF1 := fresh_in kb hb0 f1
  rw [← hg']
  refine o1.all (ok_str w0) h4' K1.le (fun es y hy => ⟨rfl, hy⟩) (by omega) (by omega) fun v2 F2 s2 k2 o2 f2 => ?_
  have K2 := k2.old K1 hF1
  have hF2 := fresh_in K1 hF1 f2
  refine sort_compact o2 (by rw [List.length_append]; omega) fun v3 s3 k3 o3 => ?_
  exact hR v3 F2 s3 (k3.old K2 hF2) o3 hF2
end
end Go.Proofs.Ytlbpnfhhoalenaa

/- What becomes of a part, with all below: what it is; by the reference's hand. -/
set_option linter.unusedVariables false
set_option linter.unusedSimpArgs false
set_option maxRecDepth 20000
namespace Go.Proofs.Ytlbpnfhhoalenaa
open Go Go.Av

def fNew (_ : Nat) (ps : List ByteArray) (x : Tr) : En := (ps, 2, isDir x, modeOf x, dataOf x)
def goneE (ps : List ByteArray) : En := (ps, 1, false, 0, ⟨#[]⟩)
noncomputable def partE (ps : List ByteArray) (a b : Tr) : List En :=
  (if modeOf a = modeOf b then [] else [(ps, 3, false, modeOf b, ⟨#[]⟩)]) ++ (if dataOf a = dataOf b then [] else [(ps, 4, false, 0, dataOf b)])
def partsOf (x : Tr) : List (ByteArray × Tr) := (namesOf x).zip (kidsOf x)
noncomputable def walkE : Nat → List ByteArray → Option Tr → Option Tr → List En
  | 0, _, _, _ => []
  | _ + 1, _, none, none => []
  | n + 1, ps, none, some b => linT fNew (n + 1) ps b
  | _ + 1, ps, some _, none => [goneE ps]
  | n + 1, ps, some a, some b => if isDir a = isDir b then partE ps a b ++ ((mrgK (partsOf a) (partsOf b)).map fun z => walkE n (ps ++ [z.1]) z.2.1 z.2.2).flatten else goneE ps :: linT fNew (n + 1) ps b
def cntO (n : Nat) : Option Tr → Nat
  | none => 0
  | some x => cntT n x + 1
theorem partE_len (ps : List ByteArray) (a b : Tr) : (partE ps a b).length ≤ 2 := by
  unfold partE
  split <;> split <;> simp
theorem walkE_len : ∀ (n : Nat) (ps : List ByteArray) (a b : Option Tr), (walkE n ps a b).length ≤ cntO n a + 2 * cntO n b
  | 0, _, _, _ => by simp [walkE]
  | _ + 1, _, none, none => by simp [walkE]
  | n + 1, ps, none, some b => by
    have := linT_len fNew (n + 1) ps b
    simp only [walkE, cntO]; omega
  | _ + 1, ps, some _, none => by simp [walkE, cntO]
  | n + 1, ps, some a, some b => by
    have h1 := linT_len fNew (n + 1) ps b
    simp only [walkE]
    split
    · have h2 := partE_len ps a b
      have h3 : ((mrgK (partsOf a) (partsOf b)).map fun z => walkE n (ps ++ [z.1]) z.2.1 z.2.2).flatten.length ≤ sumBy (fun z : Pr => cntO n z.2.1 + 2 * cntO n z.2.2) (mrgK (partsOf a) (partsOf b)) := flat_sum fun z _ => walkE_len n _ _ _
      rw [mrgK_sum (A := cntO n) (B := fun o => 2 * cntO n o) rfl rfl] at h3
      obtain ⟨d, m, t, ns, ks⟩ := a
      obtain ⟨d', m', t', ns', ks'⟩ := b
      have h4 := zip_sum (f := cntT n) (ns := ns) (ks := ks)
      have h5 := zip_sum (f := cntT n) (ns := ns') (ks := ks')
      have h6 : ∀ l : List (ByteArray × Tr), sumBy (fun y => 2 * cntO n (some y.2)) l = 2 * sumBy (fun y : ByteArray × Tr => cntT n y.2 + 1) l := fun l => by
        induction l with
        | nil => rfl
        | cons a r ih =>
          show 2 * (cntT n a.2 + 1) + _ = 2 * ((cntT n a.2 + 1) + _)
          rw [ih]; omega
      rw [h6] at h3
      have e1 : cntT (n + 1) (.mk d m t ns ks) = ks.length + sumBy (cntT n) ks := rfl
      have e2 : cntT (n + 1) (.mk d' m' t' ns' ks') = ks'.length + sumBy (cntT n) ks' := rfl
      simp only [cntO, partsOf, namesOf, kidsOf] at h3 ⊢
      rw [List.length_append]
      omega
    · simp only [cntO, List.length_cons]; omega

section
variable {w0 : World} {σ : Vw}

theorem fNew_own {s : Vw} {P : List Nat} {v : Value} {ps : List ByteArray} {x : Tr} {n : Nat} (ho : OStrs w0 s P v ps) (hm : -9223372036854775808 ≤ modeOf x ∧ modeOf x ≤ 9223372036854775807) (ht : (dataOf x).size ≤ 9223372036854775807) :
    OEn w0 s P [v, .int .i64 2, .bool (isDir x), .int .i64 (modeOf x), .string (dataOf x)] (fNew n ps x) := ⟨v, rfl, ho, ⟨by show _ ≤ (2 : Int) ∧ (2 : Int) ≤ _; omega, hm, ht⟩⟩
theorem gone_own {s : Vw} {P : List Nat} {v : Value} {ps : List ByteArray} (ho : OStrs w0 s P v ps) : OEn w0 s P [v, .int .i64 1, .bool false, .int .i64 0, .string ⟨#[]⟩] (goneE ps) :=
  ⟨v, rfl, ho, ⟨by show _ ≤ (1 : Int) ∧ (1 : Int) ≤ _; omega, by show _ ≤ (0 : Int) ∧ (0 : Int) ≤ _; omega, by show 0 ≤ _; omega⟩⟩

theorem spec_new (n : Nat) : Lists w0 n_spec_l3New t_impl_Entry (OEn w0) fNew n := by
  induction n with
  | zero => intro σ v es ps x R _ h; exact h.elim
  | succ n ih =>
    intro σ v es ps x R hv h hx hc hps hR
    obtain ⟨d, m, t, ns, ks⟩ := x
    have h0 := h
    have hx0 := hx
    obtain ⟨u, w, rfl, h2, h3, h4, h5⟩ := h
    obtain ⟨hm, ht, hl, hns, hks⟩ := hx
    have hcnt : cntT (n + 1) (.mk d m t ns ks) = ks.length + sumBy (cntT n) ks := rfl
    refine ac_spec_l3New ?_
    unfold vc_spec_l3New
    rw [pVal_5 rfl rfl rfl h4.one h5.one]
    simp only [cellOf_agg, List.getD_cons_zero, List.getD_cons_succ]
    refine copy_strs hv (by omega) fun v1 P s1 k1 o1 f1 => ?_
    rw [pVal1 (OSl.one' o1), pVal1 rfl, pVal1 rfl, pVal1 rfl, pVal1 rfl, pVal_5 (OSl.one' o1) rfl rfl rfl rfl]
    intro b hb1 hb2
    have hacc := OAcc.single (ok_en w0) (ety := t_impl_Entry) hb1 hb2 (fNew_own (n := n + 1) (x := .mk d m t ns ks) o1 h2 h3)
    have K3 := k1.trans (Keeps.put (r := ⟨t_impl_Entry, [v1, .int .i64 2, .bool d, .int .i64 m, .string t], 5, (0, 0)⟩) hb2)
    refine lin_loop (σ := σ) (ok_en w0) ih hv h4 h5 hl hns hks (by omega) hps hacc K3 (fun i hi => ?_) fun v' G' s' k' o' f' => ?_
    · rcases List.mem_cons.1 hi with rfl | hi
      · exact none_old k1 hb2
      · exact f1 i hi
    · exact hR v' G' s' k' o' f'

theorem spec_gone {v : Value} {ps : List ByteArray} (hv : RSl 1 RS (Av.get w0 σ) v ps) (hl : ps.length ≤ 1000000) {R : Value → Vw → Prop}
    (hR : ∀ v' G s', Keeps σ s' → OAcc w0 t_impl_Entry 5 (OEn w0) s' G v' [goneE ps] → (∀ i, i ∈ G → σ i = none) → R v' s') : AC Try.prog w0 n_spec_l3Gone [v] σ R := by
  refine ac_spec_l3Gone ?_
  unfold vc_spec_l3Gone
  refine copy_strs hv (by omega) fun v1 P s1 k1 o1 f1 => ?_
  rw [pVal1 (OSl.one' o1), pVal1 rfl, pVal_5 (OSl.one' o1) rfl rfl rfl rfl]
  intro b hb1 hb2
  refine hR _ _ _ (k1.trans (Keeps.put hb2)) (OAcc.single (ok_en w0) (ety := t_impl_Entry) hb1 hb2 (gone_own o1)) fun i hi => ?_
  rcases List.mem_cons.1 hi with rfl | hi
  · exact none_old k1 hb2
  · exact f1 i hi

/-- One more entry, its path copied. -/
theorem part_push {G : List Nat} {acc v : Value} {xs : List En} {ps : List ByteArray} {s : Vw} {X Y : Value} {k m : Int} {t : ByteArray} (hv : RSl 1 RS (Av.get w0 σ) v ps) (hl : ps.length ≤ 1000000) (k0 : Keeps σ s) (hG : ∀ i, i ∈ G → σ i = none)
    (ho : OAcc w0 t_impl_Entry 5 (OEn w0) s G acc xs) (hX : X.oneCell' = true) (hY : Y.oneCell' = true) (hok : enOk (ps, k, false, m, t)) (hxl : xs.length ≤ 1000000) {K : Value → Vw → Prop}
    (hK : ∀ v' G' s', Keeps σ s' → OAcc w0 t_impl_Entry 5 (OEn w0) s' G' v' (xs ++ [(ps, k, false, m, t)]) → (∀ i, i ∈ G' → σ i = none) → K v' s') :
    pNew w0 t_string [] s (fun n3 s4 => pAppendS w0 t_string 1 16 (.slice (some (Addr.mk n3 0 none)) 0 0) v s4 (fun v5 s6 => pVal false 1 v5 (pVal false 1 X (pVal false 1 Y (pVal true 5 (.agg (⟨[v5, .int .i64 k, .bool false, .int .i64 m, .string t]⟩)) ((allOne ([v5, .int .i64 k, .bool false, .int .i64 m, .string t])) ∧
      (pAppend w0 t_impl_Entry 5 64 acc 1 ([v5, .int .i64 k, .bool false, .int .i64 m, .string t]) s6 K))))))) := by
  refine copy_strs (hv.mono k0.le fun _ _ h => h) (by omega) fun v1 P s1 k1 o1 f1 => ?_
  rw [pVal1 (OSl.one' o1), pVal1 hX, pVal1 hY, pVal_5 (OSl.one' o1) rfl rfl rfl rfl]
  have ho1 := ho.frame (ok_en w0) (k1.but_at fun i hi => (ho.dom (ok_en w0) i hi).2)
  refine ho1.one (ok_en w0) (y := (ps, k, false, m, t)) ⟨v1, rfl, o1, hok⟩ (fun i hi hi' => (ho.dom (ok_en w0) i hi').2 (f1 i hi)) (by omega) (by omega) fun v' G' s' k' o' f' => ?_
  refine hK v' G' s' (k'.old (k0.trans k1) hG) o' fun i hi => ?_
  rcases f' i hi with h | h | h
  · exact hG i h
  · exact none_old k0 (f1 i h)
  · exact none_old (k0.trans k1) h

theorem spec_part {n m : Nat} {v : Value} {ps : List ByteArray} {es es' : List Value} {x y : Tr} (hv : RSl 1 RS (Av.get w0 σ) v ps) (hl : ps.length ≤ 1000000) (h : RT n (Av.get w0 σ) es x) (h' : RT m (Av.get w0 σ) es' y) {R : Value → Vw → Prop}
    (hR : ∀ v' G s', Keeps σ s' → OAcc w0 t_impl_Entry 5 (OEn w0) s' G v' (partE ps x y) → (∀ i, i ∈ G → σ i = none) → R v' s') : AC Try.prog w0 n_spec_l3Part [v, .agg ⟨es⟩, .agg ⟨es'⟩] σ R := by
  obtain ⟨u, w, rfl, hm, ht, _, _, hp⟩ := h.cells
  obtain ⟨u', w', rfl, hm', ht', _, _, hp'⟩ := h'.cells
  refine ac_spec_l3Part ?_
  unfold vc_spec_l3Part
  rw [hp, hp']
  simp only [cellOf_agg, List.getD_cons_zero, List.getD_cons_succ]
  intro b hb1 hb2
  have kb : Keeps σ (σ.put b ⟨t_impl_Entry, [], 0, (0, 0)⟩) := Keeps.put hb2
  have o0 : OAcc w0 t_impl_Entry 5 (OEn w0) (σ.put b ⟨t_impl_Entry, [], 0, (0, 0)⟩) [b] (.slice (some ⟨b, 0, none⟩) 0 0) [] := OAcc.new hb1
  have f0 : ∀ i, i ∈ [b] → σ i = none := fun i hi => by rw [List.mem_singleton.1 hi]; exact hb2
  have z0 : (0 : Nat) ≤ 9223372036854775807 := by omega
  rw [pBin_ne, pIf_d]
  refine ⟨fun hne => ?_, fun heq => ?_⟩
  · refine part_push (k := 3) (m := modeOf y) (t := ⟨#[]⟩) hv hl kb f0 o0 rfl rfl ⟨by show _ ≤ (3 : Int) ∧ (3 : Int) ≤ _; omega, hm', by show 0 ≤ _; omega⟩ (by simp) fun v1 G1 s1 k1 o1 f1 => ?_
    rw [List.nil_append] at o1
    rw [pBin_sne, pIf_d]
    refine ⟨fun hne2 => ?_, fun heq2 => ?_⟩
    · refine part_push (k := 4) (m := 0) (t := dataOf y) hv hl k1 f1 o1 rfl rfl ⟨by show _ ≤ (4 : Int) ∧ (4 : Int) ≤ _; omega, by show _ ≤ (0 : Int) ∧ (0 : Int) ≤ _; omega, ht'⟩ (by simp) fun v2 G2 s2 k2 o2 f2 => ?_
      have e : partE ps x y = [(ps, 3, false, modeOf y, ⟨#[]⟩)] ++ [(ps, 4, false, 0, dataOf y)] := by rw [partE, if_neg hne, if_neg hne2]
      exact hR v2 G2 s2 k2 (by rw [e]; exact o2) f2
    · have e : partE ps x y = [(ps, 3, false, modeOf y, ⟨#[]⟩)] := by rw [partE, if_neg hne, if_pos (Decidable.not_not.1 heq2)]; rfl
      exact hR v1 G1 s1 k1 (by rw [e]; exact o1) f1
  · rw [pBin_sne, pIf_d]
    have heq := Decidable.not_not.1 heq
    refine ⟨fun hne2 => ?_, fun heq2 => ?_⟩
    · refine part_push (k := 4) (m := 0) (t := dataOf y) hv hl kb f0 o0 rfl rfl ⟨by show _ ≤ (4 : Int) ∧ (4 : Int) ≤ _; omega, by show _ ≤ (0 : Int) ∧ (0 : Int) ≤ _; omega, ht'⟩ (by simp) fun v2 G2 s2 k2 o2 f2 => ?_
      have e : partE ps x y = [] ++ [(ps, 4, false, 0, dataOf y)] := by rw [partE, if_pos heq, if_neg hne2]
      exact hR v2 G2 s2 k2 (by rw [e]; exact o2) f2
    · have e : partE ps x y = [] := by rw [partE, if_pos heq, if_pos (Decidable.not_not.1 heq2)]; rfl
      exact hR _ [b] _ kb (by rw [e]; exact o0) f0

theorem zip_drop {ns : List ByteArray} {ks : List Tr} {j : Nat} {x : ByteArray} {k : Tr} (h : ns[j]? = some x) (h' : ks[j]? = some k) : (ns.zip ks).drop j = (x, k) :: (ns.zip ks).drop (j + 1) := by
  have hz : (ns.zip ks)[j]? = some (x, k) := by rw [List.getElem?_zip_eq_some]; exact ⟨h, h'⟩
  obtain ⟨hlt, e⟩ := List.getElem?_eq_some_iff.1 hz
  rw [List.drop_eq_getElem_cons hlt, e]
theorem mrgK_nil (l : List (ByteArray × Tr)) : mrgK l [] = l.map fun y => (y.1, some y.2, none) := by cases l <;> simp [mrgK]
theorem mrgK_gone {a : ByteArray × Tr} {xa xb : List (ByteArray × Tr)} (h : ∀ b r, xb = b :: r → strLt a.1 b.1 = true) : mrgK (a :: xa) xb = (a.1, some a.2, none) :: mrgK xa xb := by
  cases xb with
  | nil => rw [mrgK_nil, mrgK_nil]; rfl
  | cons b r => rw [mrgK, if_pos (h b r rfl)]
theorem mrgK_new {b : ByteArray × Tr} {xa xb : List (ByteArray × Tr)} (h : ∀ a r, xa = a :: r → strLt b.1 a.1 = true) : mrgK xa (b :: xb) = (b.1, none, some b.2) :: mrgK xa xb := by
  cases xa with
  | nil => rw [mrgK, mrgK]; rfl
  | cons a r => rw [mrgK, if_neg (by rw [strLt_asymm (h a r rfl)]; simp), if_pos (h a r rfl)]
theorem mrgK_both {a b : ByteArray × Tr} {xa xb : List (ByteArray × Tr)} (h : strLt a.1 b.1 = false) (h' : strLt b.1 a.1 = false) : mrgK (a :: xa) (b :: xb) = (a.1, some a.2, some b.2) :: mrgK xa xb := by
  rw [mrgK, if_neg (by rw [h]; simp), if_neg (by rw [h']; simp)]

set_option maxHeartbeats 4000000 in
theorem spec_walk : ∀ (n : Nat) {σ : Vw} {v : Value} {es es' : List Value} {ps : List ByteArray} {x y : Tr} {R : Value → Vw → Prop}, RSl 1 RS (Av.get w0 σ) v ps → RT n (Av.get w0 σ) es x → RT n (Av.get w0 σ) es' y → shortT n x → shortT n y → cntT n x ≤ 100000 → cntT n y ≤ 100000 →
    ps.length + sumS ps + 6 * n ≤ 1000000 → (∀ v' G s', Keeps σ s' → OAcc w0 t_impl_Entry 5 (OEn w0) s' G v' (walkE n ps (some x) (some y)) → (∀ i, i ∈ G → σ i = none) → R v' s') →
    AC Try.prog w0 n_spec_l3Walk [v, .agg ⟨es⟩, .agg ⟨es'⟩] σ R := by
  intro n
  induction n with
  | zero => intro σ v es es' ps x y R _ h; exact h.elim
  | succ n ih =>
    intro σ v es es' ps x y R hv h h' hx hx' hc hc' hps hR
    have hwl := walkE_len (n + 1) ps (some x) (some y)
    obtain ⟨d, m, t, ns, ks⟩ := x
    obtain ⟨d', m', t', ns', ks'⟩ := y
    have h0 := h
    have h0' := h'
    have hx0' := hx'
    obtain ⟨u, w, rfl, h2, h3, h4, h5⟩ := h
    obtain ⟨u', w', rfl, h2', h3', h4', h5'⟩ := h'
    obtain ⟨hm, ht, hl, hns, hks⟩ := hx
    obtain ⟨hm', ht', hl', hns', hks'⟩ := hx'
    have hcnt : cntT (n + 1) (.mk d m t ns ks) = ks.length + sumBy (cntT n) ks := rfl
    have hcnt' : cntT (n + 1) (.mk d' m' t' ns' ks') = ks'.length + sumBy (cntT n) ks' := rfl
    refine ac_spec_l3Walk ?_
    unfold vc_spec_l3Walk
    rw [pVal_5 rfl rfl rfl h4.one h5.one, pVal_5 rfl rfl rfl h4'.one h5'.one]
    simp only [cellOf_agg, List.getD_cons_zero, List.getD_cons_succ]
    have eb : ∀ K : Value → Prop, pBin Try.prog 4 .neq (.bool d) (.bool d') K ↔ K (.bool !(d == d')) := fun K => pBin_b (by kernel_rfl) rfl
    rw [eb, pIf_b]
    refine ⟨fun hne => ?_, fun heq => ?_⟩
    · have hne' : ¬ d = d' := by simpa using hne
      have ew : walkE (n + 1) ps (some (.mk d m t ns ks)) (some (.mk d' m' t' ns' ks')) = [goneE ps] ++ linT fNew (n + 1) ps (.mk d' m' t' ns' ks') := by
        simp only [walkE]; rw [if_neg (show ¬ isDir (.mk d m t ns ks) = isDir (.mk d' m' t' ns' ks') from hne')]; rfl
      rw [ew] at hR hwl
      rw [List.length_append] at hwl
      refine spec_gone hv (by omega) fun v1 G1 s1 k1 o1 f1 => ?_
      refine spec_new (n + 1) (hv.mono k1.le fun _ _ h => h) (mono_rt _ _ _ _ _ k1.le h0') hx0' hc' hps fun v2 G2 s2 k2 o2 f2 => ?_
      have o1' := o1.frame (ok_en w0) (k2.but_at fun i hi => (o1.dom (ok_en w0) i hi).2)
      refine o1'.allOwn (ok_en w0) o2.osl (fun i hi hi' => (o1.dom (ok_en w0) i hi').2 (f2 i hi)) (by simp only [cntO] at hwl; omega) (by omega) fun v3 G3 s3 k3 o3 f3 => ?_
      refine hR v3 G3 s3 (k3.old (k1.trans k2) f1) o3 fun i hi => ?_
      rcases f3 i hi with h | h | h
      · exact f1 i h
      · exact none_old k1 (f2 i h)
      · exact none_old (k1.trans k2) h
    have heq' : d = d' := by simpa using heq
    have ew : walkE (n + 1) ps (some (.mk d m t ns ks)) (some (.mk d' m' t' ns' ks')) = partE ps (.mk d m t ns ks) (.mk d' m' t' ns' ks') ++ ((mrgK (ns.zip ks) (ns'.zip ks')).map fun z => walkE n (ps ++ [z.1]) z.2.1 z.2.2).flatten := by
      simp only [walkE]; rw [if_pos (show isDir (.mk d m t ns ks) = isDir (.mk d' m' t' ns' ks') from heq')]; rfl
    rw [ew] at hR hwl
    generalize hpe : partE ps (.mk d m t ns ks) (.mk d' m' t' ns' ks') = pe at hR hwl
    refine spec_part hv (by omega) h0 h0' fun v1 G1 s1 k1 o1 f1 => ?_
    rw [hpe] at o1
    have hl4 := h4.le
    have hl4' := h4'.le
    -- what is left to do
    generalize hW : (fun z : Pr => walkE n (ps ++ [z.1]) z.2.1 z.2.2) = W at hR hwl
    refine loop_rule (m := ns.length + ns'.length) (fun c l st => ∃ (i k : Nat) (G : List Nat) (acc : Value) (out : List En), ns.length + ns'.length ≤ c + i + k ∧ i ≤ ns.length ∧ k ≤ ns'.length ∧ Keeps σ st ∧ (∀ j, j ∈ G → σ j = none) ∧ OAcc w0 t_impl_Entry 5 (OEn w0) st G acc out ∧
        out ++ ((mrgK ((ns.zip ks).drop i) ((ns'.zip ks').drop k)).map W).flatten = pe ++ ((mrgK (ns.zip ks) (ns'.zip ks')).map W).flatten ∧
        l = [v, acc, .int .i64 (i : Nat), .int .i64 (k : Nat), .bool d, .int .i64 m, .string t, u, w, .bool d', .int .i64 m', .string t', u', w']) ?_
      ⟨0, 0, G1, v1, pe, by omega, by omega, by omega, k1, f1, o1, by simp, rfl⟩
    rintro c l st L ⟨i, k, G, acc, out, hcik, hi, hk, ks0, hG, ho, hout, rfl⟩ hL
    simp only [vget, List.getD_cons_zero, List.getD_cons_succ]
    have hv' := hv.mono ks0.le fun _ _ h => h
    have hu := h4.mono ks0.le fun _ _ h => h
    have hu' := h4'.mono ks0.le fun _ _ h => h
    have hw := h5.mono ks0.le fun es x => mono_rt n _ _ es x ks0.le
    have hw' := h5'.mono ks0.le fun es x => mono_rt n _ _ es x ks0.le
    have hoL : out.length + ((mrgK ((ns.zip ks).drop i) ((ns'.zip ks').drop k)).map W).flatten.length ≤ 900000 := by
      have := congrArg List.length hout
      rw [List.length_append, List.length_append] at this
      rw [List.length_append] at hwl
      simp only [cntO] at hwl
      omega
    -- a part that is gone
    have hGo : ∀ (xn : ByteArray) (xk : Tr), ns[i]? = some xn → ks[i]? = some xk → (∀ b r, (ns'.zip ks').drop k = b :: r → strLt xn b.1 = true) →
        pIndexAddr 1 u (.int .i64 (i : Nat)) (fun v16 => pLoad w0 1 v16 st (fun g17 => AC Try.prog w0 n_spec_l3Path [v, g17 0] st (fun v18 s19 => AC Try.prog w0 n_spec_l3Gone [v18] s19 (fun v20 s21 => pAppendS w0 t_impl_Entry 5 64 acc v20 s21 (fun v22 s23 => pBin Try.prog 3 .add (.int .i64 (i : Nat)) (.int .i64 1) (fun v24 =>
          L [v, v22, v24, .int .i64 (k : Nat), .bool d, .int .i64 m, .string t, u, w, .bool d', .int .i64 m', .string t', u', w'] s23)))))) := by
      intro xn xk hxn hxk hlt
      have hil := (List.getElem?_eq_some_iff.1 hxn).1
      have h5y := hns _ (List.mem_of_getElem? hxn)
      refine RSl.at1 hu hxn fun g hg hgs => ?_
      rw [hg]
      refine spec_path hv' (by omega) (by omega) fun pv PF s2 k2 op fp => ?_
      refine spec_gone (op.rel (ok_str w0)) (by rw [List.length_append]; simp only [List.length_cons, List.length_nil]; omega) fun v3 G3 s3 k3 o3 f3 => ?_
      have K23 := k2.trans k3
      have o4 := ho.frame (ok_en w0) (K23.but_at fun b hb => (ho.dom (ok_en w0) b hb).2)
      have hmk : mrgK ((ns.zip ks).drop i) ((ns'.zip ks').drop k) = (xn, some xk, none) :: mrgK ((ns.zip ks).drop (i + 1)) ((ns'.zip ks').drop k) := by
        rw [zip_drop hxn hxk, mrgK_gone hlt]
      have hn : n ≠ 0 := fun e => by subst e; exact hks _ (List.mem_of_getElem? hxk)
      have hw1 : W (xn, some xk, none) = [goneE (ps ++ [xn])] := by
        obtain ⟨n', rfl⟩ := Nat.exists_eq_succ_of_ne_zero hn
        rw [← hW]; simp only [walkE]
      rw [hmk, List.map_cons, List.flatten_cons, hw1] at hout hoL
      rw [List.length_append] at hoL
      refine o4.allOwn (ok_en w0) o3.osl (fun j hj hj' => (ho.dom (ok_en w0) j hj').2 (none_old k2 (f3 j hj))) (by simp only [List.length_cons, List.length_nil] at hoL ⊢; omega) (by omega) fun v5 G5 s5 k5 o5 f5 => ?_
      rw [pBin_add (by omega)]
      refine hL _ _ (c - 1) (by omega) ⟨i + 1, k, G5, v5, _, by omega, by omega, hk, k5.old (ks0.trans K23) hG, fun j hj => ?_, o5, by rw [List.append_assoc]; exact hout, by simp⟩
      rcases f5 j hj with h | h | h
      · exact hG j h
      · exact none_old (ks0.trans k2) (f3 j h)
      · exact none_old (ks0.trans K23) h
    -- a part that is new
    have hNe : ∀ (yn : ByteArray) (yk : Tr), ns'[k]? = some yn → ks'[k]? = some yk → (∀ a r, (ns.zip ks).drop i = a :: r → strLt yn a.1 = true) →
        pIndexAddr 1 u' (.int .i64 (k : Nat)) (fun v43 => pLoad w0 1 v43 st (fun g44 => pIndexAddr 5 w' (.int .i64 (k : Nat)) (fun v45 => pLoad w0 5 v45 st (fun g46 => AC Try.prog w0 n_spec_l3Path [v, g44 0] st (fun v47 s48 => (Stay w0 st s48 v45 5) ∧ (AC Try.prog w0 n_spec_l3New ([v47, .agg (⟨[g46 0, g46 1, g46 2, g46 3, g46 4]⟩)]) s48 (fun v49 s50 => pAppendS w0 t_impl_Entry 5 64 acc v49 s50 (fun v51 s52 => pBin Try.prog 3 .add (.int .i64 (k : Nat)) (.int .i64 1) (fun v53 =>
          L [v, v51, .int .i64 (i : Nat), v53, .bool d, .int .i64 m, .string t, u, w, .bool d', .int .i64 m', .string t', u', w'] s52))))))))) := by
      intro yn yk hyn hyk hlt
      have hkl := (List.getElem?_eq_some_iff.1 hyn).1
      have h5y := hns' _ (List.mem_of_getElem? hyn)
      have hky := hks' _ (List.mem_of_getElem? hyk)
      have hcy : cntT n yk ≤ 100000 := by
        have := sumBy_mem (f := cntT n) (List.mem_of_getElem? hyk); omega
      refine RSl.at1 hu' hyn fun g hg hgs => ?_
      rw [hg]
      refine RSl.atp hw' hyk fun p2 g2 hg2 => ?_
      refine spec_path hv' (by omega) (by omega) fun pv PF s2 k2 op fp => ⟨k2.stay, ?_⟩
      have hmk : mrgK ((ns.zip ks).drop i) ((ns'.zip ks').drop k) = (yn, none, some yk) :: mrgK ((ns.zip ks).drop i) ((ns'.zip ks').drop (k + 1)) := by
        rw [zip_drop hyn hyk, mrgK_new hlt]
      have hn : n ≠ 0 := fun e => by subst e; exact hky
      have hw1 : W (yn, none, some yk) = linT fNew n (ps ++ [yn]) yk := by
        obtain ⟨n', rfl⟩ := Nat.exists_eq_succ_of_ne_zero hn
        rw [← hW]; simp only [walkE]
      rw [hmk, List.map_cons, List.flatten_cons, hw1] at hout hoL
      rw [List.length_append] at hoL
      refine spec_new n (op.rel (ok_str w0)) (mono_rt _ _ _ _ _ k2.le hg2) hky hcy (by rw [List.length_append, sumS_snoc]; simp only [List.length_cons, List.length_nil]; omega) fun v3 G3 s3 k3 o3 f3 => ?_
      have K23 := k2.trans k3
      have o4 := ho.frame (ok_en w0) (K23.but_at fun b hb => (ho.dom (ok_en w0) b hb).2)
      refine o4.allOwn (ok_en w0) o3.osl (fun j hj hj' => (ho.dom (ok_en w0) j hj').2 (none_old k2 (f3 j hj))) (by omega) (by omega) fun v5 G5 s5 k5 o5 f5 => ?_
      rw [pBin_add (by omega)]
      refine hL _ _ (c - 1) (by omega) ⟨i, k + 1, G5, v5, _, by omega, hi, by omega, k5.old (ks0.trans K23) hG, fun j hj => ?_, o5, by rw [List.append_assoc]; exact hout, by simp⟩
      rcases f5 j hj with h | h | h
      · exact hG j h
      · exact none_old (ks0.trans k2) (f3 j h)
      · exact none_old (ks0.trans K23) h
    rw [hu.len, pBin_lt, pIf_d]
    refine ⟨fun hia => ?_, fun hia => ?_⟩
    · have hxn := List.getElem?_eq_getElem (show i < ns.length by omega)
      have hxk := List.getElem?_eq_getElem (show i < ks.length by omega)
      generalize ns[i]'(by omega) = xn at hxn
      generalize ks[i]'(by omega) = xk at hxk
      rw [hu'.len, pBin_ge, pIf_d]
      refine ⟨fun hkb => ?_, fun hkb => ?_⟩
      · refine hGo xn xk hxn hxk fun b r e => ?_
        rw [List.drop_of_length_le (by rw [List.length_zip]; omega)] at e
        cases e
      have hyn := List.getElem?_eq_getElem (show k < ns'.length by omega)
      have hyk := List.getElem?_eq_getElem (show k < ks'.length by omega)
      generalize ns'[k]'(by omega) = yn at hyn
      generalize ks'[k]'(by omega) = yk at hyk
      rw [hu.len, pBin_lt, pIf_d]
      refine ⟨fun _ => ?_, fun h => absurd hia h⟩
      refine RSl.at1 hu hxn fun g hg hgs => ?_
      refine RSl.at1 hu' hyn fun g' hg' hgs' => ?_
      rw [hg, hg', pBin_slt, pIf_b]
      refine ⟨fun hlt => ?_, fun hnlt => ?_⟩
      · refine hGo xn xk hxn hxk fun b r e => ?_
        rw [zip_drop hyn hyk] at e
        cases e; exact hlt
      rw [hu.len, pBin_ge, pIf_d]
      refine ⟨fun h => by omega, fun _ => ?_⟩
      refine RSl.at1 hu' hyn fun g2 hg2 hgs2 => ?_
      refine RSl.at1 hu hxn fun g3 hg3 hgs3 => ?_
      rw [hg2, hg3, pBin_slt, pIf_b]
      refine ⟨fun hlt => ?_, fun hnlt2 => ?_⟩
      · refine hNe yn yk hyn hyk fun a r e => ?_
        rw [zip_drop hxn hxk] at e
        cases e; exact hlt
      -- in both
      have h5y := hns _ (List.mem_of_getElem? hxn)
      have hkx := hks _ (List.mem_of_getElem? hxk)
      have hky := hks' _ (List.mem_of_getElem? hyk)
      have hcx : cntT n xk ≤ 100000 := by
        have := sumBy_mem (f := cntT n) (List.mem_of_getElem? hxk); omega
      have hcy : cntT n yk ≤ 100000 := by
        have := sumBy_mem (f := cntT n) (List.mem_of_getElem? hyk); omega
      refine RSl.at1 hu hxn fun g hg hgs => ?_
      rw [hg]
      refine RSl.atp hw hxk fun p1 g1 hg1 => ?_
      refine RSl.atp hw' hyk fun p2 g2 hg2 => ?_
      refine spec_path hv' (by omega) (by omega) fun pv PF s2 k2 op fp => ⟨k2.stay, k2.stay, ?_⟩
      have hmk : mrgK ((ns.zip ks).drop i) ((ns'.zip ks').drop k) = (xn, some xk, some yk) :: mrgK ((ns.zip ks).drop (i + 1)) ((ns'.zip ks').drop (k + 1)) := by
        rw [zip_drop hxn hxk, zip_drop hyn hyk, mrgK_both hnlt hnlt2]
      have hw1 : W (xn, some xk, some yk) = walkE n (ps ++ [xn]) (some xk) (some yk) := by rw [← hW]
      rw [hmk, List.map_cons, List.flatten_cons, hw1] at hout hoL
      rw [List.length_append] at hoL
      refine ih (op.rel (ok_str w0)) (mono_rt _ _ _ _ _ k2.le hg1) (mono_rt _ _ _ _ _ k2.le hg2) hkx hky hcx hcy (by rw [List.length_append, sumS_snoc]; simp only [List.length_cons, List.length_nil]; omega) fun v3 G3 s3 k3 o3 f3 => ?_
      have K23 := k2.trans k3
      have o4 := ho.frame (ok_en w0) (K23.but_at fun b hb => (ho.dom (ok_en w0) b hb).2)
      refine o4.allOwn (ok_en w0) o3.osl (fun j hj hj' => (ho.dom (ok_en w0) j hj').2 (none_old k2 (f3 j hj))) (by omega) (by omega) fun v5 G5 s5 k5 o5 f5 => ?_
      rw [pBin_add (by omega), pBin_add (by omega)]
      refine hL _ _ (c - 1) (by omega) ⟨i + 1, k + 1, G5, v5, _, by omega, by omega, by omega, k5.old (ks0.trans K23) hG, fun j hj => ?_, o5, by rw [List.append_assoc]; exact hout, by simp⟩
      rcases f5 j hj with h | h | h
      · exact hG j h
      · exact none_old (ks0.trans k2) (f3 j h)
      · exact none_old (ks0.trans K23) h
    · rw [hu'.len, pBin_lt, pIf_d]
      refine ⟨fun hkb => ?_, fun hkb => ?_⟩
      · have hyn := List.getElem?_eq_getElem (show k < ns'.length by omega)
        have hyk := List.getElem?_eq_getElem (show k < ks'.length by omega)
        generalize ns'[k]'(by omega) = yn at hyn
        generalize ks'[k]'(by omega) = yk at hyk
        rw [hu'.len, pBin_ge, pIf_d]
        refine ⟨fun h => by omega, fun _ => ?_⟩
        rw [hu.len, pBin_lt, pIf_d]
        refine ⟨fun h => absurd h hia, fun _ => ?_⟩
        rw [hu.len, pBin_ge, pIf_d]
        refine ⟨fun _ => ?_, fun h => by omega⟩
        refine hNe yn yk hyn hyk fun a r e => ?_
        rw [List.drop_of_length_le (by rw [List.length_zip]; omega)] at e
        cases e
      · rw [List.drop_of_length_le (by rw [List.length_zip]; omega), List.drop_of_length_le (by rw [List.length_zip]; omega), mrgK] at hout
        simp only [List.map_nil, List.flatten_nil, List.append_nil] at hout
        exact hR acc G st ks0 (by rw [← hout]; exact ho) hG
end
end Go.Proofs.Ytlbpnfhhoalenaa

/- What becomes of a part, with all below: by the program's hand. -/
set_option linter.unusedVariables false
set_option linter.unusedSimpArgs false
set_option maxRecDepth 20000
namespace Go.Proofs.Ytlbpnfhhoalenaa
open Go Go.Av

/-- The names ascend, all the way down. -/
def ascT : Nat → Tr → Prop
  | 0, _ => True
  | n + 1, .mk d m t ns ks => AscS ns ∧ ∀ k, k ∈ ks → ascT n k
theorem sound_asc : ∀ (m n : Nat) (x : Tr) (k : Int), soundB n x k = true → ascT m x
  | 0, _, _, _, _ => trivial
  | m + 1, 0, x, k, h => by simp [soundB] at h
  | m + 1, n + 1, .mk d mo t ns ks, k, h => by
    simp only [soundB, plainB, Bool.and_eq_true, decide_eq_true_eq] at h
    refine ⟨?_, fun c hc => ?_⟩
    · cases d
      · have := h.1.2.2
        simp at this
        rw [this.2]; exact List.Pairwise.nil
      · have := h.1.2.2
        simp at this
        exact asc_names this.1
    · obtain ⟨j, hj⟩ := List.getElem?_of_mem hc
      exact sound_asc m n c _ (allB_iff.1 h.2.2 j c hj)
theorem sound_down5 : ∀ (m n : Nat) (x : Tr) (k : Int), soundB n x k = true → 5 ≤ k + (m : Int) → (∀ rd es, RT n rd es x → RT m rd es x) ∧ shortT m x ∧ cntT m x ≤ cntT n x
  | m, 0, x, k, h, _ => by simp [soundB] at h
  | 0, n + 1, .mk d mo t ns ks, k, h, hk => by
    simp only [soundB, Bool.and_eq_true, decide_eq_true_eq] at h
    exact absurd h.2.1 (by omega)
  | m + 1, n + 1, .mk d mo t ns ks, k, h, hk => by
    have hs := sound_short (n + 1) _ k h
    simp only [soundB, Bool.and_eq_true, decide_eq_true_eq] at h
    have ih : ∀ y, y ∈ ks → (∀ rd es, RT n rd es y → RT m rd es y) ∧ shortT m y ∧ cntT m y ≤ cntT n y := fun y hy => by
      obtain ⟨j, hj⟩ := List.getElem?_of_mem hy
      exact sound_down5 m n y (k + 1) (allB_iff.1 h.2.2 j y hj) (by omega)
    refine ⟨fun rd es hr => ?_, ⟨hs.1, hs.2.1, hs.2.2.1, hs.2.2.2.1, fun y hy => (ih y hy).2.1⟩, ?_⟩
    · obtain ⟨u, w, h1, h2, h3, h4, A, cap, e1, e2, e3⟩ := hr
      refine ⟨u, w, h1, h2, h3, h4, A, cap, e1, e2, fun j y hj => ?_⟩
      obtain ⟨a, es', q1, q2, q3, q4⟩ := e3 j y hj
      exact ⟨a, es', q1, q2, q3, (ih y (List.mem_of_getElem? hj)).1 _ _ q4⟩
    · have := sumBy_mono (f := cntT m) (g := cntT n) (xs := ks) fun y hy => (ih y hy).2.2
      show ks.length + sumBy (cntT m) ks ≤ ks.length + sumBy (cntT n) ks
      omega
theorem short_wf : ∀ (n : Nat) (x : Tr), shortT n x → wfT n x
  | 0, _, _ => trivial
  | n + 1, .mk d m t ns ks, h => ⟨h.2.2.1, fun k hk => short_wf n k (h.2.2.2.2 k hk)⟩
theorem nidx_mem : ∀ {ns : List ByteArray} {x : ByteArray}, x ∈ ns → ∃ j, nidx ns x = some j
  | s :: r, x, h => by
    unfold nidx
    by_cases e : s = x
    · exact ⟨0, if_pos e⟩
    · obtain ⟨j, hj⟩ := nidx_mem ((List.mem_cons.1 h).resolve_left fun h => e h.symm)
      exact ⟨j + 1, by rw [if_neg e, hj]; rfl⟩
theorem kid_lk {n : Nat} {x : Tr} (h : shortT n x) (nm : ByteArray) : kidT x nm = lk (partsOf x) nm := by
  obtain _ | n := n
  · exact h.elim
  obtain ⟨d, m, t, ns, ks⟩ := x
  exact (lk_zip h.2.2.1 nm).symm
theorem part_names {n : Nat} {x : Tr} (h : shortT n x) : (partsOf x).map (·.1) = namesOf x := by
  obtain _ | n := n
  · exact h.elim
  obtain ⟨d, m, t, ns, ks⟩ := x
  exact zip_fst h.2.2.1

section
variable {w0 : World} {σ : Vw}

theorem impl_gone {v : Value} {ps : List ByteArray} (hv : RSl 1 RS (Av.get w0 σ) v ps) (hl : ps.length ≤ 1000000) {R : Value → Vw → Prop}
    (hR : ∀ v' P s', Keeps σ s' → OStrs w0 s' P v' ps → (∀ i, i ∈ P → σ i = none) → R (.agg ⟨[v', .int .i64 1, .bool false, .int .i64 0, .string ⟨#[]⟩]⟩) s') : AC Try.prog w0 n_impl_gone [v] σ R := by
  refine ac_impl_gone ?_
  unfold vc_impl_gone
  refine copy_strs hv (by omega) fun v1 P s1 k1 o1 f1 => ?_
  rw [pVal1 (OSl.one' o1), pVal1 rfl, pVal_5 (OSl.one' o1) rfl rfl rfl rfl]
  exact hR v1 P s1 k1 o1 f1

theorem fresh_puts : Puts w0 n_impl_fresh_c1 t_impl_Entry (OEn w0) fNew := by
  intro n b s G ps v es x xs R hn5 h hx hc hv hps hB hl hR
  obtain ⟨hb, hbG, u, e2, hr, ho⟩ := hB
  have h0 := h
  obtain ⟨q1, q2, rfl, hm, ht, _, _, hpv⟩ := h.cells
  refine ac_impl_fresh_c1 ?_
  unfold vc_impl_fresh_c1
  rw [hpv]
  simp only [cellOf_agg, List.getD_cons_zero, List.getD_cons_succ]
  refine load_row hb hr rfl fun g hg => ?_
  rw [hg]
  intro n1 h1 h2
  have kb : Keeps s (s.put n1 ⟨t_string, [], 0, (0, 0)⟩) := Keeps.put h2
  have hb0 : ∀ i, i ∈ [n1] → s i = none := fun i hi => by rw [List.mem_singleton.1 hi]; exact h2
  refine ⟨stay_row hb hr (kb _ _ hr), ?_⟩
  refine (OAcc.new (w0 := w0) (σ := s) (ety := t_string) (n := 1) (O := OStr) h1).all (ok_str w0) hv kb.le (fun es y hy => ⟨rfl, hy⟩) (by simp; omega) (by omega) fun v3 P s4 k4 o4 f4 => ?_
  have K4 : Keeps s s4 := k4.old kb hb0
  have hP := fresh_in kb hb0 f4
  rw [List.nil_append] at o4
  refine ⟨stay_row hb (kb _ _ hr) (K4 _ _ hr), ?_⟩
  rw [pVal1 (OSl.one' o4.osl), pVal1 rfl, pVal1 rfl, pVal1 rfl, pVal1 rfl, pVal_5 (OSl.one' o4.osl) rfl rfl rfl rfl]
  refine box_push (ok_en w0) (y := fNew n ps x) hb hbG (K4 _ _ hr) (ho.frame (ok_en w0) (K4.but_at fun i hi => (ho.dom (ok_en w0) i hi).2)) (fNew_own o4.osl hm ht) (fun i hi hi' => ?_) hl fun G' s' kk hB' f' => ?_
  · have := hP i hi
    rcases List.mem_cons.1 hi' with rfl | hi'
    · rw [hr] at this; cases this
    · exact (ho.dom (ok_en w0) i hi').2 this
  · refine hR G' s' (fun i r hi hn => kk i r (K4 i r hi) hn) hB' fun i hi => ?_
    rcases f' i hi with h | h | h
    · exact .inl h
    · exact .inr (hP i h)
    · exact .inr (none_old K4 h)

theorem impl_fresh {n : Nat} {v : Value} {ps : List ByteArray} {es : List Value} {x : Tr} (hv : RSl 1 RS (Av.get w0 σ) v ps) (h : RT n (Av.get w0 σ) es x) (hn : n ≤ 5) (hx : shortT n x) (hc : cntT n x ≤ 100000) (hps : ps.length + sumS ps + 6 * n ≤ 1000000) {R : Value → Vw → Prop}
    (hR : ∀ v' G σ', Keeps σ σ' → OAcc w0 t_impl_Entry 5 (OEn w0) σ' G v' (linT fNew n ps x) → (∀ i, i ∈ G → σ i = none) → R v' σ') : AC Try.prog w0 n_impl_fresh [v, .agg ⟨es⟩] σ R := by
  have h0 := h
  obtain ⟨e0, e1, e2, e3, e4, rfl, _, hpv⟩ := RT.five h
  refine ac_impl_fresh ?_
  unfold vc_impl_fresh
  rw [hpv]
  simp only [cellOf_agg, List.getD_cons_zero, List.getD_cons_succ]
  refine box_new (O := OEn w0) fun b b0 s1 k1 hB hb hb0 => ?_
  have hf : ∀ i, i ∈ [b, b0] → σ i = none := fun i hi => by
    simp at hi
    rcases hi with rfl | rfl
    · exact hb
    · exact hb0
  refine each_list (ok_en w0) fresh_puts n (σ0 := σ) (ps := ps) hn h0 hx hc k1 hf hB (PathIn.of_keeps hv k1 hf) hps (by simp only [List.length_nil]; omega) fun G' s2 k2 hB2 f2 => ?_
  refine box_read (K := fun v => R v s2) hB2 fun v' ho => ?_
  rw [List.nil_append] at ho
  refine hR v' G' s2 (k2.old k1 hf) ho fun i hi => ?_
  rcases f2 i hi with h | h
  · exact hf i (List.mem_cons_of_mem _ h)
  · exact none_old k1 h

theorem impl_changes {n m : Nat} {v : Value} {ps : List ByteArray} {es es' : List Value} {x y : Tr} (hv : RSl 1 RS (Av.get w0 σ) v ps) (hl : ps.length ≤ 1000000) (h : RT n (Av.get w0 σ) es x) (h' : RT m (Av.get w0 σ) es' y) {R : Value → Vw → Prop}
    (hR : ∀ v' G s', Keeps σ s' → OAcc w0 t_impl_Entry 5 (OEn w0) s' G v' (partE ps x y) → (∀ i, i ∈ G → σ i = none) → R v' s') : AC Try.prog w0 n_impl_changes [v, .agg ⟨es⟩, .agg ⟨es'⟩] σ R := by
  obtain ⟨u, w, rfl, hm, ht, _, _, hp⟩ := h.cells
  obtain ⟨u', w', rfl, hm', ht', _, _, hp'⟩ := h'.cells
  refine ac_impl_changes ?_
  unfold vc_impl_changes
  rw [hp, hp']
  simp only [cellOf_agg, List.getD_cons_zero, List.getD_cons_succ]
  intro b hb1 hb2
  have kb : Keeps σ (σ.put b ⟨t_impl_Entry, [], 0, (0, 0)⟩) := Keeps.put hb2
  have o0 : OAcc w0 t_impl_Entry 5 (OEn w0) (σ.put b ⟨t_impl_Entry, [], 0, (0, 0)⟩) [b] (.slice (some ⟨b, 0, none⟩) 0 0) [] := OAcc.new hb1
  have f0 : ∀ i, i ∈ [b] → σ i = none := fun i hi => by rw [List.mem_singleton.1 hi]; exact hb2
  have z0 : (0 : Nat) ≤ 9223372036854775807 := by omega
  rw [pBin_ne, pIf_d]
  refine ⟨fun hne => ?_, fun heq => ?_⟩
  · refine part_push (k := 3) (m := modeOf y) (t := ⟨#[]⟩) hv hl kb f0 o0 rfl rfl ⟨by show _ ≤ (3 : Int) ∧ (3 : Int) ≤ _; omega, hm', by show 0 ≤ _; omega⟩ (by simp) fun v1 G1 s1 k1 o1 f1 => ?_
    rw [List.nil_append] at o1
    rw [pBin_sne, pIf_d]
    refine ⟨fun hne2 => ?_, fun heq2 => ?_⟩
    · refine part_push (k := 4) (m := 0) (t := dataOf y) hv hl k1 f1 o1 rfl rfl ⟨by show _ ≤ (4 : Int) ∧ (4 : Int) ≤ _; omega, by show _ ≤ (0 : Int) ∧ (0 : Int) ≤ _; omega, ht'⟩ (by simp) fun v2 G2 s2 k2 o2 f2 => ?_
      have e : partE ps x y = [(ps, 3, false, modeOf y, ⟨#[]⟩)] ++ [(ps, 4, false, 0, dataOf y)] := by rw [partE, if_neg hne, if_neg hne2]
      exact hR v2 G2 s2 k2 (by rw [e]; exact o2) f2
    · have e : partE ps x y = [(ps, 3, false, modeOf y, ⟨#[]⟩)] := by rw [partE, if_neg hne, if_pos (Decidable.not_not.1 heq2)]; rfl
      exact hR v1 G1 s1 k1 (by rw [e]; exact o1) f1
  · rw [pBin_sne, pIf_d]
    have heq := Decidable.not_not.1 heq
    refine ⟨fun hne2 => ?_, fun heq2 => ?_⟩
    · refine part_push (k := 4) (m := 0) (t := dataOf y) hv hl kb f0 o0 rfl rfl ⟨by show _ ≤ (4 : Int) ∧ (4 : Int) ≤ _; omega, by show _ ≤ (0 : Int) ∧ (0 : Int) ≤ _; omega, ht'⟩ (by simp) fun v2 G2 s2 k2 o2 f2 => ?_
      have e : partE ps x y = [] ++ [(ps, 4, false, 0, dataOf y)] := by rw [partE, if_pos heq, if_neg hne2]
      exact hR v2 G2 s2 k2 (by rw [e]; exact o2) f2
    · have e : partE ps x y = [] := by rw [partE, if_pos heq, if_pos (Decidable.not_not.1 heq2)]; rfl
      exact hR _ [b] _ kb (by rw [e]; exact o0) f0

/-- What is asked of a part, if it is there. -/
def fineO (n : Nat) (o : Option Tr) : Prop := ∀ x, o = some x → shortT n x ∧ cntT n x ≤ 100000 ∧ ascT n x

theorem names_len {n : Nat} {x : Tr} (h : shortT n x) (hc : cntT n x ≤ 100000) : (namesOf x).length ≤ 100000 := by
  obtain _ | n := n
  · exact h.elim
  obtain ⟨d, m, t, ns, ks⟩ := x
  have e1 : cntT (n + 1) (.mk d m t ns ks) = ks.length + sumBy (cntT n) ks := rfl
  have := h.2.2.1
  show ns.length ≤ _
  omega
theorem kid_fine {n : Nat} {x : Tr} (h : fineO (n + 1) (some x)) (nm : ByteArray) : fineO n (kidT x nm) := by
  intro k hk
  obtain ⟨h1, h2, h3⟩ := h x rfl
  have hm := kid_mem hk
  obtain ⟨d, m, t, ns, ks⟩ := x
  have hm' : k ∈ ks := hm
  have e1 : cntT (n + 1) (.mk d m t ns ks) = ks.length + sumBy (cntT n) ks := rfl
  have := sumBy_mem (f := cntT n) hm'
  exact ⟨h1.2.2.2.2 k hm', by omega, h3.2 k hm'⟩
theorem name_short {n : Nat} {x : Tr} (h : shortT n x) {nm : ByteArray} (hm : nm ∈ namesOf x) : nm.size ≤ 5 := by
  obtain _ | n := n
  · exact h.elim
  obtain ⟨d, m, t, ns, ks⟩ := x
  exact h.2.2.2.1 nm hm
theorem kid_there {n : Nat} {x : Tr} (h : shortT n x) {nm : ByteArray} (hm : nm ∈ namesOf x) : kidT x nm ≠ none := by
  obtain _ | n := n
  · exact h.elim
  obtain ⟨d, m, t, ns, ks⟩ := x
  obtain ⟨j, hj⟩ := nidx_mem (show nm ∈ ns from hm)
  obtain ⟨k, _, hk, _⟩ := kid_some (short_wf (n + 1) _ h) hj
  rw [hk]; simp

set_option maxHeartbeats 4000000 in
theorem impl_walk : ∀ (n : Nat) {σ : Vw} {v p q : Value} {ps : List ByteArray} {a b : Option Tr} {R : Value → Vw → Prop}, n ≤ 5 → RSl 1 RS (Av.get w0 σ) v ps → PO n (Av.get w0 σ) p a → PO n (Av.get w0 σ) q b → fineO n a → fineO n b → ¬ (a = none ∧ b = none) →
    ps.length + sumS ps + 6 * n ≤ 1000000 → (∀ v' G s', Keeps σ s' → OAcc w0 t_impl_Entry 5 (OEn w0) s' G v' (walkE n ps a b) → (∀ i, i ∈ G → σ i = none) → R v' s') →
    AC Try.prog w0 n_impl_walk [v, p, q] σ R := by
  intro n
  induction n with
  | zero =>
    intro σ v p q ps a b R _ _ ha hb _ _ hne
    exfalso
    cases a with
    | some x => obtain ⟨_, _, _, _, _, h⟩ := ha; exact h
    | none => cases b with
      | some x => obtain ⟨_, _, _, _, _, h⟩ := hb; exact h
      | none => exact hne ⟨rfl, rfl⟩
  | succ n ih =>
    intro σ v p q ps a b R hn5 hv ha hb hfa hfb hne hps hR
    have hwl := walkE_len (n + 1) ps a b
    refine ac_impl_walk ?_
    unfold vc_impl_walk
    cases a with
    | none =>
      obtain rfl : p = .pointer none := ha
      cases b with
      | none => exact absurd ⟨rfl, rfl⟩ hne
      | some y =>
        obtain ⟨f1, f2, f3⟩ := hfb y rfl
        have hb' := hb
        obtain ⟨ad, es, rfl, _⟩ := hb'
        rw [pBin_nil ptr_tree, pIf_b]
        refine ⟨fun _ => ?_, fun h => by cases h⟩
        rw [pNil_s]
        refine PT.load hb fun g hg => ?_
        exact impl_fresh hv hg hn5 f1 f2 hps hR
    | some x =>
      obtain ⟨a1, a2, a3⟩ := hfa x rfl
      have ha' := ha
      obtain ⟨ad, es, rfl, _⟩ := ha'
      rw [pBin_nil ptr_tree, pIf_b]
      refine ⟨fun h => (by cases h), fun _ => ?_⟩
      cases b with
      | none =>
        obtain rfl : q = .pointer none := hb
        rw [pBin_nil ptr_tree, pIf_b]
        refine ⟨fun _ => ?_, fun h => by cases h⟩
        refine impl_gone hv (by omega) fun v1 P s1 k1 o1 f1 => ?_
        rw [pVal_5 (OSl.one' o1) rfl rfl rfl rfl]
        simp only [cellOf_agg, List.getD_cons_zero, List.getD_cons_succ]
        intro b hb1 hb2
        refine hR _ _ _ (k1.trans (Keeps.put hb2)) (OAcc.single (ok_en w0) (ety := t_impl_Entry) hb1 hb2 (gone_own o1)) fun i hi => ?_
        rcases List.mem_cons.1 hi with rfl | hi
        · exact none_old k1 hb2
        · exact f1 i hi
      | some y =>
        obtain ⟨b1, b2, b3⟩ := hfb y rfl
        have hb' := hb
        obtain ⟨bd, es', rfl, _⟩ := hb'
        have ha : PT (n + 1) (Av.get w0 σ) (.pointer (some ad)) x := ha
        have hb : PT (n + 1) (Av.get w0 σ) (.pointer (some bd)) y := hb
        rw [pBin_nil ptr_tree, pIf_b]
        refine ⟨fun h => (by cases h), fun _ => ?_⟩
        refine PT.ld ha 0 (by omega) fun es1 g1 he1 hg1 => ?_
        obtain ⟨u1, w1, rfl, _⟩ := he1.cells
        simp only [List.getElem?_cons_zero, Option.some.injEq] at hg1
        refine PT.ld hb 0 (by omega) fun es2 g2 he2 hg2 => ?_
        obtain ⟨u2, w2, rfl, _⟩ := he2.cells
        simp only [List.getElem?_cons_zero, Option.some.injEq] at hg2
        have eb : ∀ K : Value → Prop, pBin Try.prog 4 .neq (.bool (isDir x)) (.bool (isDir y)) K ↔ K (.bool !(isDir x == isDir y)) := fun K => pBin_b (by kernel_rfl) rfl
        rw [← hg1, ← hg2, eb, pIf_b]
        refine ⟨fun hd => ?_, fun hd => ?_⟩
        · have hd' : ¬ isDir x = isDir y := by simpa using hd
          have ew : walkE (n + 1) ps (some x) (some y) = [goneE ps] ++ linT fNew (n + 1) ps y := by
            simp only [walkE]; rw [if_neg hd']; rfl
          rw [ew] at hR hwl
          rw [List.length_append] at hwl
          rw [pNil_s]
          refine PT.load hb fun g hg => ?_
          refine impl_gone hv (by omega) fun v1 P s1 k1 o1 f1 => ⟨k1.stay, ?_, ?_⟩
          · rw [pVal_5 (OSl.one' o1) rfl rfl rfl rfl]
            simp only [cellOf_agg, List.getD_cons_zero, List.getD_cons_succ]
            intro b hb1 hb2
            have kb : Keeps s1 (s1.put b ⟨t_impl_Entry, [v1, .int .i64 1, .bool false, .int .i64 0, .string ⟨#[]⟩], 5, (0, 0)⟩) := Keeps.put hb2
            have K2 := k1.trans kb
            refine ⟨kb.stay, ?_⟩
            have oo := OAcc.single (ok_en w0) (ety := t_impl_Entry) hb1 hb2 (gone_own o1)
            refine impl_fresh (hv.mono K2.le fun _ _ h => h) (mono_rt _ _ _ _ _ K2.le hg) hn5 b1 b2 hps fun v2 G2 s2 k2 o2 f2 => ?_
            have oo' := oo.frame (ok_en w0) (k2.but_at fun i hi => (oo.dom (ok_en w0) i hi).2)
            have hfp : ∀ i, i ∈ b :: P → σ i = none := fun i hi => by
              rcases List.mem_cons.1 hi with rfl | hi
              · exact none_old k1 hb2
              · exact f1 i hi
            refine oo'.allOwn (ok_en w0) o2.osl (fun i hi hi' => (oo.dom (ok_en w0) i hi').2 (f2 i hi)) (by simp only [cntO] at hwl; omega) (by omega) fun v3 G3 s3 k3 o3 f3 => ?_
            refine hR v3 G3 s3 (k3.old (K2.trans k2) hfp) o3 fun i hi => ?_
            rcases f3 i hi with h | h | h
            · exact hfp i h
            · exact none_old K2 (f2 i h)
            · exact none_old (K2.trans k2) h
          · refine impl_fresh (hv.mono k1.le fun _ _ h => h) (mono_rt _ _ _ _ _ k1.le hg) hn5 b1 b2 hps fun v2 G2 s2 k2 o2 f2 => ?_
            have o1' := o1.frame (ok_str w0) (k2.but_at fun i hi => (o1.dom (ok_str w0) i hi).2)
            rw [pVal_5 (OSl.one' o1) rfl rfl rfl rfl]
            simp only [cellOf_agg, List.getD_cons_zero, List.getD_cons_succ]
            intro b hb1 hb2
            have kb : Keeps s2 (s2.put b ⟨t_impl_Entry, [v1, .int .i64 1, .bool false, .int .i64 0, .string ⟨#[]⟩], 5, (0, 0)⟩) := Keeps.put hb2
            refine ⟨kb.stay, ?_⟩
            have oo := OAcc.single (ok_en w0) (ety := t_impl_Entry) hb1 hb2 (gone_own o1')
            have o2' := o2.frame (ok_en w0) (kb.but_at fun i hi => (o2.dom (ok_en w0) i hi).2)
            have hfp : ∀ i, i ∈ b :: P → σ i = none := fun i hi => by
              rcases List.mem_cons.1 hi with rfl | hi
              · exact none_old (k1.trans k2) hb2
              · exact f1 i hi
            refine oo.allOwn (ok_en w0) o2'.osl (fun i hi hi' => ?_) (by simp only [cntO] at hwl; omega) (by omega) fun v3 G3 s3 k3 o3 f3 => ?_
            · rcases List.mem_cons.1 hi' with rfl | hi'
              · exact (o2.dom (ok_en w0) _ hi).2 hb2
              · exact (o1.dom (ok_str w0) i hi').2 (f2 i hi)
            have K2 := (k1.trans k2).trans kb
            refine hR v3 G3 s3 (k3.old K2 hfp) o3 fun i hi => ?_
            rcases f3 i hi with h | h | h
            · exact hfp i h
            · exact none_old k1 (f2 i h)
            · exact none_old K2 h
        have hd' : isDir x = isDir y := by simpa using hd
        have ew : walkE (n + 1) ps (some x) (some y) = partE ps x y ++ ((mrgK (partsOf x) (partsOf y)).map fun z => walkE n (ps ++ [z.1]) z.2.1 z.2.2).flatten := by
          simp only [walkE]; rw [if_pos hd']
        have hasc : ∀ {z : Tr}, ascT (n + 1) z → AscS (namesOf z) := fun {z} h => by obtain ⟨d, m, t, ns, ks⟩ := z; exact h.1
        have emk := mrgK_names (xa := partsOf x) (xb := partsOf y) (by rw [part_names a1]; exact hasc a3) (by rw [part_names b1]; exact hasc b3) (namesU_asc (namesOf x ++ namesOf y)) (fun z => by rw [namesU_mem, part_names a1, part_names b1, List.mem_append])
        rw [ew, ← emk, List.map_map] at hR hwl
        have eW : ((fun z : Pr => walkE n (ps ++ [z.1]) z.2.1 z.2.2) ∘ fun nm => ((nm, lk (partsOf x) nm, lk (partsOf y) nm) : Pr)) = fun nm => walkE n (ps ++ [nm]) (kidT x nm) (kidT y nm) := by
          funext nm
          simp only [Function.comp_apply]
          rw [kid_lk a1, kid_lk b1]
        rw [eW] at hR hwl
        have hLm : ∀ z, z ∈ namesU (namesOf x ++ namesOf y) → z ∈ namesOf x ∨ z ∈ namesOf y := fun z hz => by rw [namesU_mem, List.mem_append] at hz; exact hz
        generalize hL : namesU (namesOf x ++ namesOf y) = L at hR hwl hLm
        generalize hpe : partE ps x y = pe at hR hwl
        generalize hW : (fun nm => walkE n (ps ++ [nm]) (kidT x nm) (kidT y nm)) = W at hR hwl
        rw [pNil_s]
        refine PT.load ha fun g3 hg3 => ?_
        rw [pNil_s]
        refine PT.load hb fun g4 hg4 => ?_
        refine impl_changes hv (by omega) hg3 hg4 fun v1 G1 s1 k1 o1 f1 => ?_
        rw [hpe] at o1
        have nl1 := names_len a1 a2
        have nl2 := names_len b1 b2
        refine impl_either (ha.mono k1.le) (hb.mono k1.le) (by omega) fun nv F s2 k2 on fn => ?_
        rw [hL] at on
        have onr := on.rel (ok_str w0)
        have o1' := o1.frame (ok_en w0) (k2.but_at fun i hi => (o1.dom (ok_en w0) i hi).2)
        rw [onr.len]
        have hll := onr.le
        refine loop_rule (m := L.length) (fun c l st => ∃ (j : Nat) (G : List Nat) (acc : Value), c + j = L.length ∧ Keeps σ st ∧ (∀ i, i ∈ G → σ i = none) ∧ OAcc w0 t_impl_Entry 5 (OEn w0) st G acc (pe ++ ((L.take j).map W).flatten) ∧
            OStrs w0 st F nv L ∧ (∀ i, i ∈ F → i ∉ G) ∧ l = [v, .pointer (some ad), .pointer (some bd), acc, nv, .int .i64 (L.length : Nat), .int .i64 (j : Nat)]) ?_
          ⟨0, G1, v1, by omega, k1.trans k2, f1, by simpa using o1', on, fun i hi hi' => (o1.dom (ok_en w0) i hi').2 (fn i hi), rfl⟩
        rintro c l st L' ⟨j, G, acc, hcj, ks0, hG, ho, hon, hFG, rfl⟩ hL'
        simp only [vget, List.getD_cons_zero, List.getD_cons_succ]
        rw [pBin_lt, pIf_d]
        refine ⟨fun hj => ?_, fun hj => ?_⟩
        · have hnm := List.getElem?_eq_getElem (show j < L.length by omega)
          generalize L[j]'(by omega) = nm at hnm
          have hmem := hLm nm (List.mem_of_getElem? hnm)
          have hsz : nm.size ≤ 5 := by
            rcases hmem with h | h
            · exact name_short a1 h
            · exact name_short b1 h
          refine RSl.at1 (hon.rel (ok_str w0)) hnm fun g hg hgs => ?_
          rw [hg]
          refine below_path (hv.mono ks0.le fun _ _ h => h) (by omega) (by omega) fun pv PF s3 k3 op fp => ?_
          have K3 := ks0.trans k3
          refine impl_kid (ha.mono K3.le) (short_wf _ _ a1) fun qa hqa => ?_
          refine impl_kid (hb.mono K3.le) (short_wf _ _ b1) fun qb hqb => ?_
          have hne' : ¬ (kidT x nm = none ∧ kidT y nm = none) := fun h => by
            rcases hmem with hm | hm
            · exact kid_there a1 hm h.1
            · exact kid_there b1 hm h.2
          have hW1 : W nm = walkE n (ps ++ [nm]) (kidT x nm) (kidT y nm) := by rw [← hW]
          have ho3 := ho.frame (ok_en w0) (k3.but_at fun i hi => (ho.dom (ok_en w0) i hi).2)
          have hon3 := hon.frame (ok_str w0) (k3.but_at fun i hi => (hon.dom (ok_str w0) i hi).2)
          refine ih (by omega) (op.rel (ok_str w0)) hqa hqb (kid_fine hfa nm) (kid_fine hfb nm) hne' (by rw [List.length_append, sumS_snoc]; simp only [List.length_cons, List.length_nil]; omega) fun v4 G4 s4 k4 o4 f4 => ?_
          rw [← hW1] at o4
          have ho4 := ho3.frame (ok_en w0) (k4.but_at fun i hi => (ho3.dom (ok_en w0) i hi).2)
          have hon4 := hon3.frame (ok_str w0) (k4.but_at fun i hi => (hon3.dom (ok_str w0) i hi).2)
          have hlen : (pe ++ ((L.take j).map W).flatten).length + (W nm).length ≤ 900000 := by
            have e1 := flat_take (f := W) hnm
            have e2 : ((L.map W).flatten).length = (((L.take (j + 1)).map W).flatten).length + (((L.drop (j + 1)).map W).flatten).length := by
              rw [← List.length_append, ← List.flatten_append, ← List.map_append, List.take_append_drop]
            rw [e1, List.length_append] at e2
            rw [List.length_append] at hwl ⊢
            simp only [cntO] at hwl
            omega
          have K4 := K3.trans k4
          refine ho4.allOwn (ok_en w0) o4.osl (fun i hi hi' => (ho3.dom (ok_en w0) i hi').2 (f4 i hi)) (by omega) (by omega) fun v5 G5 s5 k5 o5 f5 => ?_
          rw [pBin_add (by omega)]
          refine hL' _ _ (c - 1) (by omega) ⟨j + 1, G5, v5, by omega, k5.old K4 hG, fun i hi => ?_, ?_, hon4.frame (ok_str w0) (k5.at (fun i hi => (hon4.dom (ok_str w0) i hi).2) hFG), fun i hi hi' => ?_, by simp⟩
          · rcases f5 i hi with h | h | h
            · exact hG i h
            · exact none_old K3 (f4 i h)
            · exact none_old K4 h
          · rw [flat_take hnm, ← List.append_assoc]; exact o5
          · rcases f5 i hi' with h | h | h
            · exact hFG i hi h
            · exact (hon3.dom (ok_str w0) i hi).2 (f4 i h)
            · exact (hon4.dom (ok_str w0) i hi).2 h
        · have e : j = L.length := by omega
          subst e
          rw [List.take_length] at ho
          exact hR acc G st ks0 ho hG
end
end Go.Proofs.Ytlbpnfhhoalenaa

/- Marks of trees. -/
set_option linter.unusedVariables false
set_option linter.unusedSimpArgs false
namespace Go.Proofs.Ytlbpnfhhoalenaa
open Go Go.Av

def cT : Nat → Tr → Nat
  | 0, _ => 0
  | n + 1, .mk d m t ns ks => 3 + ns.length + sumBy (cT n) ks
noncomputable def mkT : Nat → Nat → Tr → Tr
  | 0, _, x => x
  | n + 1, k, .mk d m t ns ks => .mk (decide ((k : Int) % 3 = 0)) ((k + 1 : Nat) : Int) (mtext (k + 2)) (mkTexts (k + 3) ns) (mkS (mkT n) (cT n) (k + 3 + ns.length) ks)

theorem cT_le : ∀ (n : Nat) (x : Tr), cT n x ≤ 3 + 4 * szT n x
  | 0, _ => by simp [cT]
  | n + 1, .mk d m t ns ks => by
    have h : ∀ (l : List Tr), sumBy (cT n) l ≤ 3 * l.length + 4 * sumBy (szT n) l := by
      intro l
      induction l with
      | nil => simp [sumBy]
      | cons a r ih => have := cT_le n a; simp only [sumBy, List.length_cons]; omega
    have := h ks
    simp only [cT, szT]; omega

section
variable {w0 : World} {σ : Vw}

theorem markTreeS : ∀ (n : Nat) {σ : Vw} {F : List Nat} {v : Value} {xs : List Tr} {k : Nat} {R : Value → Vw → Prop}, OSl w0 5 (OT w0 n) σ F v xs → k + sumBy (cT n) xs ≤ 1000000000000 →
    (∀ σ', KeepsBut F σ σ' → OSl w0 5 (OT w0 n) σ' F v (mkS (mkT n) (cT n) k xs) → R (.int .i64 ((k + sumBy (cT n) xs : Nat) : Int)) σ') → AC Try.prog w0 n_laws_markTreeS [v, .int .i64 (k : Nat)] σ R := by
  intro n
  induction n using Nat.strongRecOn with
  | _ n ih =>
    intro σ F v xs k R h hk hR
    refine ac_laws_markTreeS ?_
    unfold vc_laws_markTreeS
    refine mark_loop (ok_rt w0 n) (mk := mkT n) (cnt := cT n) h hk ?_ hR
    intro j x k' s ys K hj hlen hkb hx hk' hO hyj hK
    simp only [vget, List.getD_cons_zero, List.getD_cons_succ]
    obtain ⟨b, o, f, c, A, C, r, hix, hb, hr, hc, hA, hOx, hbF, hf, hput⟩ := hO.focus (ok_rt w0 n) hyj
    obtain _ | n := n
    · exact hOx.elim
    obtain ⟨d, m, t, ns, ks⟩ := x
    obtain ⟨u, w, F1, F2, rfl, h2, h3, h4, h5, rfl, hnd⟩ := hOx
    simp only [cT] at hk'
    have hb1 : b ∉ F1 := fun e => (hf b (List.mem_append_left _ e)).2 rfl
    have hb2 : b ∉ F2 := fun e => (hf b (List.mem_append_right _ e)).2 rfl
    rw [pBin_rem (by omega), pBin_eq]
    refine hix _ ?_
    refine field_store hr hc hA (by show 0 < 5; omega) rfl ?_
    simp only [List.set_cons_zero, List.set_cons_succ]
    rw [pBin_add (by omega)]
    refine hix _ ?_
    refine field_store put_at rfl hA (by show 1 < 5; omega) rfl ?_
    simp only [List.set_cons_zero, List.set_cons_succ]
    rw [put_put, pBin_add (by omega)]
    rw [show ((k' : Nat) : Int) + 1 + 1 = ((k' + 2 : Nat) : Int) by omega]
    refine markText (by omega) fun s1 k1 => ?_
    refine hix _ ?_
    refine field_store (k1 _ _ put_at) rfl hA (by show 2 < 5; omega) rfl ?_
    simp only [List.set_cons_zero, List.set_cons_succ]
    rw [pBin_add (by omega)]
    refine hix _ ?_
    refine field_load hb put_at rfl hA (y := u) rfl fun g hg => ?_
    rw [hg]
    generalize hcs : [Value.bool (decide ((k' : Int) % 3 = 0)), Value.int .i64 ((k' : Int) + 1), Value.string (mtext (k' + 2)), u, w] = cs
    generalize hs2 : s1.put b _ = s2
    have hs2b : ∃ r2, s2 b = some r2 ∧ r2.cells = A ++ (cs ++ C) := by rw [← hs2, ← hcs]; exact ⟨_, put_at, rfl⟩
    have hs2o : ∀ i, i ≠ b → ∀ ri, s i = some ri → s2 i = some ri := fun i hi ri hri => by
      rw [← hs2]
      simp only [Vw.put, hi, if_false]
      exact k1 i ri (by simp [Vw.put, hi, hri])
    have kb2 : KeepsBut F s s2 := fun i ri hri hiF => hs2o i (fun e => hiF (e ▸ hbF)) ri hri
    clear hs2
    have fr : ∀ {G : List Nat}, (∀ i, i ∈ G → i ≠ b) → (∀ i, i ∈ G → s i ≠ none) → ∀ i, i ∈ G → s2 i = s i := fun h1 h2 i hi => by
      cases hs : s i with
      | none => exact absurd hs (h2 i hi)
      | some ri => exact hs2o i (h1 i hi) ri hs
    have o4 := h4.frame (ok_str w0) (fr (fun i hi e => hb1 (e ▸ hi)) fun i hi => (h4.dom (ok_str w0) i hi).2)
    have o5 := h5.frame (ok_rt w0 n) (fr (fun i hi e => hb2 (e ▸ hi)) fun i hi => (h5.dom (ok_rt w0 n) i hi).2)
    rw [show ((k' + 2 : Nat) : Int) + 1 = ((k' + 3 : Nat) : Int) by omega]
    refine markStringS o4 (by omega) fun s3 k3 o4' => ?_
    obtain ⟨r2, hr2, hc2⟩ := hs2b
    have hr3 := k3 b r2 hr2 hb1
    have hd12 : ∀ i, i ∈ F2 → i ∉ F1 := fun i hi hi' => (List.nodup_append.1 hnd).2.2 i hi' i hi rfl
    have o5' := o5.frame (ok_rt w0 n) (k3.at (fun i hi => (o5.dom (ok_rt w0 n) i hi).2) hd12)
    refine hix _ ?_
    refine field_load hb hr3 hc2 hA (y := w) (by rw [← hcs]; rfl) fun g2 hg2 => ?_
    rw [hg2]
    refine ih n (by omega) o5' (by omega) fun s4 k4 o5'' => ?_
    have hr4 := k4 b r2 hr3 hb2
    have o4'' := o4'.frame (ok_str w0) (k4.at (fun i hi => (o4'.dom (ok_str w0) i hi).2) fun i hi hi' => hd12 i hi' hi)
    rw [pBin_add (by have := h.1; omega)]
    have kf1 : ∀ i, i ∈ F1 → i ∈ F := fun i hi => (hf i (List.mem_append_left _ hi)).1
    have kf2 : ∀ i, i ∈ F2 → i ∈ F := fun i hi => (hf i (List.mem_append_right _ hi)).1
    have := hK s4 (kb2.trans ((k3.mono kf1).trans (k4.mono kf2))) (hput s4 cs (mkT (n + 1) k' (.mk d m t ns ks)) r2 hr4 hc2 ?_ ?_)
    · simp only [cT] at this
      rw [show (k' + (3 + ns.length + sumBy (cT n) ks) : Nat) = k' + 3 + ns.length + sumBy (cT n) ks by omega] at this
      exact this
    · refine ⟨u, w, F1, F2, by rw [← hcs]; simp, ⟨by omega, by omega⟩, mtext_size (by omega), o4'', o5'', rfl, hnd⟩
    · intro i hi hne hif
      have d := hO.dom (ok_rt w0 (n + 1)) i hi
      cases hs : s i with
      | none => exact absurd hs d.2
      | some ri => exact k4 i ri (k3 i ri (hs2o i hne ri hs) fun e => hif (List.mem_append_left _ e)) fun e => hif (List.mem_append_right _ e)

theorem markTree {n : Nat} {F : List Nat} {es : List Value} {x : Tr} {k : Nat} {R : Value → Vw → Prop} (h : OT w0 n σ F es x) (hk : k + cT n x ≤ 1000000000000) (hR : ∀ σ', KeepsBut F σ σ' → (k : Int) ≤ ((k + cT n x : Nat) : Int) → R (.int .i64 ((k + cT n x - 3 : Nat) : Int)) σ') : AC Try.prog w0 n_laws_markTree [.agg ⟨es⟩, .int .i64 (k : Nat)] σ R := by
  obtain _ | n := n
  · exact h.elim
  obtain ⟨d, m, t, ns, ks⟩ := x
  obtain ⟨u, w, F1, F2, rfl, h2, h3, h4, h5, rfl, hnd⟩ := h
  refine ac_laws_markTree ?_
  unfold vc_laws_markTree
  rw [pVal_5 rfl rfl rfl (OSl.one' h4) (OSl.one' h5)]
  simp only [cellOf_agg, List.getD_cons_zero, List.getD_cons_succ]
  simp only [cT] at hk hR
  refine markStringS h4 (by omega) fun s3 k3 o4' => ?_
  have hd12 : ∀ i, i ∈ F2 → i ∉ F1 := fun i hi hi' => (List.nodup_append.1 hnd).2.2 i hi' i hi rfl
  have o5' := h5.frame (ok_rt w0 n) (k3.at (fun i hi => (h5.dom (ok_rt w0 n) i hi).2) hd12)
  refine markTreeS n o5' (by omega) fun s4 k4 o5'' => ?_
  have := hR s4 ((k3.mono fun i hi => List.mem_append_left _ hi).trans (k4.mono fun i hi => List.mem_append_right _ hi)) (by omega)
  rw [show (k + (3 + ns.length + sumBy (cT n) ks) - 3 : Nat) = k + ns.length + sumBy (cT n) ks by omega] at this
  exact this
end
end Go.Proofs.Ytlbpnfhhoalenaa

/- 'DiffWalk': two trees in step, by either hand; the law. -/
set_option linter.unusedVariables false
set_option linter.unusedSimpArgs false
set_option maxRecDepth 20000
namespace Go.Proofs.Ytlbpnfhhoalenaa
open Go Go.Av

noncomputable def diffX (n m : Nat) (x y : Tr) : List En := if treeOk n x = true ∧ treeOk m y = true then walkE 5 [] (some x) (some y) else []
/-- What a sound tree is. -/
theorem ok_fine {n : Nat} {x : Tr} (h : treeOk n x = true) : (∀ rd es, RT n rd es x → RT 5 rd es x) ∧ shortT 5 x ∧ cntT 5 x ≤ 30 ∧ ascT 5 x := by
  have h0 := h
  simp only [treeOk, Bool.and_eq_true, decide_eq_true_eq] at h
  obtain ⟨h1, h2, h3⟩ := sound_down5 5 n x 0 h.2.1 (by omega)
  exact ⟨h1, h2, by omega, sound_asc 5 n x 0 h.2.1⟩

section
variable {w0 : World} {σ : Vw}

theorem spec_DiffWalk {n m : Nat} {es es' : List Value} {x y : Tr} (h : RT n (Av.get w0 σ) es x) (h' : RT m (Av.get w0 σ) es' y) (hb : cntT n x ≤ 1000000000000) (hb' : cntT m y ≤ 1000000000000) {R : Value → Vw → Prop}
    (hR : ∀ v F σ', Keeps σ σ' → OSl w0 5 (OEn w0) σ' F v (diffX n m x y) → (∀ i, i ∈ F → σ i = none) → R v σ') : AC Try.prog w0 n_spec_DiffWalk [.agg ⟨es⟩, .agg ⟨es'⟩] σ R := by
  have h0 := h
  have h0' := h'
  obtain ⟨e0, e1, e2, e3, e4, rfl, _, hpv⟩ := RT.five h
  obtain ⟨e0', e1', e2', e3', e4', rfl, _, hpv'⟩ := RT.five h'
  refine ac_spec_DiffWalk ?_
  unfold vc_spec_DiffWalk
  rw [hpv, hpv']
  simp only [cellOf_agg, List.getD_cons_zero, List.getD_cons_succ]
  have no : ¬ (treeOk n x = true ∧ treeOk m y = true) → ∀ b, w0.heap.size ≤ b → σ b = none → R (.slice (some ⟨b, 0, none⟩) 0 0) (σ.put b ⟨t_impl_Entry, [], 0, (0, 0)⟩) := fun hno b hb1 hb2 => by
    refine hR _ [b] _ (Keeps.put hb2) ?_ fun i hi => by rw [List.mem_singleton.1 hi]; exact hb2
    rw [diffX, if_neg hno]
    exact (OAcc.new (O := OEn w0) hb1).osl
  refine spec_TreeOk h0 hb (pNotIf.2 ⟨fun hno => no (by rw [hno]; simp), fun hok => ?_⟩)
  refine spec_TreeOk h0' hb' (pNotIf.2 ⟨fun hno => no (by rw [hno]; simp), fun hok' => ?_⟩)
  obtain ⟨d1, x1, c1, _⟩ := ok_fine hok
  obtain ⟨d2, x2, c2, _⟩ := ok_fine hok'
  intro b hb1 hb2
  have k1 : Keeps σ (σ.put b ⟨t_string, [], 0, (0, 0)⟩) := Keeps.put hb2
  have hp : RSl 1 RS (Av.get w0 (σ.put b ⟨t_string, [], 0, (0, 0)⟩)) (.slice (some ⟨b, 0, none⟩) 0 0) [] := (OAcc.new (w0 := w0) (σ := σ) (ety := t_string) (n := 1) (O := OStr) hb1).osl.rel (ok_str w0)
  refine spec_walk 5 hp (mono_rt 5 _ _ _ _ k1.le (d1 _ _ h0)) (mono_rt 5 _ _ _ _ k1.le (d2 _ _ h0')) x1 x2 (by omega) (by omega) (by simp [sumS]) fun v G s2 k2 o2 f2 => ?_
  refine hR v G s2 (k1.trans k2) ?_ fun i hi => none_old k1 (f2 i hi)
  rw [diffX, if_pos ⟨hok, hok'⟩]
  exact o2.osl

theorem impl_DiffWalk {n m : Nat} {es es' : List Value} {x y : Tr} (h : RT n (Av.get w0 σ) es x) (h' : RT m (Av.get w0 σ) es' y) (hb : cntT n x ≤ 1000000000000) (hb' : cntT m y ≤ 1000000000000) {R : Value → Vw → Prop}
    (hR : ∀ v F σ', Keeps σ σ' → OSl w0 5 (OEn w0) σ' F v (diffX n m x y) → (∀ i, i ∈ F → σ i = none) → R v σ') : AC Try.prog w0 n_impl_DiffWalk [.agg ⟨es⟩, .agg ⟨es'⟩] σ R := by
  have h0 := h
  have h0' := h'
  obtain ⟨e0, e1, e2, e3, e4, rfl, _, hpv⟩ := RT.five h
  obtain ⟨e0', e1', e2', e3', e4', rfl, _, hpv'⟩ := RT.five h'
  refine ac_impl_DiffWalk ?_
  unfold vc_impl_DiffWalk
  rw [hpv]
  simp only [cellOf_agg, List.getD_cons_zero, List.getD_cons_succ]
  intro a ha1 ha2
  have k1 : Keeps σ (σ.put a ⟨t_impl_Tree, [e0, e1, e2, e3, e4], 5, (0, 0)⟩) := Keeps.put ha2
  have p1 := PT.new (ety := t_impl_Tree) (c := 5) h0 ha1 ha2
  rw [hpv']
  intro b hb1 hb2
  have k2 := Keeps.put (r := ⟨t_impl_Tree, [e0', e1', e2', e3', e4'], 5, (0, 0)⟩) hb2
  have p2 := PT.new (ety := t_impl_Tree) (c := 5) (mono_rt _ _ _ _ _ k1.le h0') hb1 hb2
  have p1' := p1.mono k2.le
  have K2 := k1.trans k2
  generalize hs : Vw.put _ b _ = s at k2 p2 p1' K2
  clear hs
  have no : ¬ (treeOk n x = true ∧ treeOk m y = true) → ∀ c, w0.heap.size ≤ c → s c = none → R (.slice (some ⟨c, 0, none⟩) 0 0) (s.put c ⟨t_impl_Entry, [], 0, (0, 0)⟩) := fun hno c hc1 hc2 => by
    refine hR _ [c] _ (K2.trans (Keeps.put hc2)) ?_ fun i hi => by rw [List.mem_singleton.1 hi]; exact none_old K2 hc2
    rw [diffX, if_neg hno]
    exact (OAcc.new (O := OEn w0) hc1).osl
  refine PT.load p1' fun g hg => ?_
  refine impl_TreeOk hg hb (pNotIf.2 ⟨fun hno => no (by rw [hno]; simp), fun hok => ?_⟩)
  refine PT.load p2 fun g' hg' => ?_
  refine impl_TreeOk hg' hb' (pNotIf.2 ⟨fun hno => no (by rw [hno]; simp), fun hok' => ?_⟩)
  obtain ⟨d1, x1, c1, a1⟩ := ok_fine hok
  obtain ⟨d2, x2, c2, a2⟩ := ok_fine hok'
  have down : ∀ {k : Nat} {p : Value} {z : Tr}, (∀ rd es, RT k rd es z → RT 5 rd es z) → PT k (Av.get w0 s) p z → PT 5 (Av.get w0 s) p z := fun {k p z} hd hp => by
    obtain ⟨ad, es, q1, q2, q3, q4⟩ := hp
    exact ⟨ad, es, q1, q2, q3, hd _ _ q4⟩
  refine impl_walk 5 (ps := []) (by omega) (nil_in (G := []) s (KeepsBut.refl _ _)) (a := some x) (b := some y) (down d1 p1') (down d2 p2) (fun z hz => by cases hz; exact ⟨x1, by omega, a1⟩) (fun z hz => by cases hz; exact ⟨x2, by omega, a2⟩) (fun h => by cases h.1) (by simp [sumS]) fun v G s2 k3 o2 f2 => ?_
  refine hR v G s2 (K2.trans k3) ?_ fun i hi => none_old K2 (f2 i hi)
  rw [diffX, if_pos ⟨hok, hok'⟩]
  exact o2.osl

theorem walkE_path : ∀ (n : Nat) (ps : List ByteArray) (a b : Option Tr) (e : En), e ∈ walkE n ps a b → e.1.length ≤ ps.length + n
  | 0, _, _, _, e, h => by simp [walkE] at h
  | _ + 1, _, none, none, e, h => by simp [walkE] at h
  | n + 1, ps, none, some b, e, h => by
    simp only [walkE] at h
    obtain ⟨k, qs, z, rfl, hq, _⟩ := lin_mem _ _ _ h
    exact hq
  | n + 1, ps, some _, none, e, h => by
    simp only [walkE, List.mem_singleton] at h
    subst h
    show ps.length ≤ _; omega
  | n + 1, ps, some a, some b, e, h => by
    simp only [walkE] at h
    split at h
    · rcases List.mem_append.1 h with h | h
      · have : e.1 = ps := by
          unfold partE at h
          rcases List.mem_append.1 h with h | h <;> split at h <;> simp at h <;> rw [h]
        rw [this]; omega
      · obtain ⟨l, hl, he⟩ := List.mem_flatten.1 h
        obtain ⟨z, hz, rfl⟩ := List.mem_map.1 hl
        have := walkE_path n _ _ _ _ he
        rw [List.length_append] at this
        simp at this; omega
    · rcases List.mem_cons.1 h with h | h
      · subst h
        show ps.length ≤ _; omega
      · obtain ⟨k, qs, z, rfl, hq, _⟩ := lin_mem _ _ _ h
        exact hq
theorem diffX_sum {n m : Nat} {x y : Tr} : sumBy cEn (diffX n m x y) ≤ 10000 := by
  unfold diffX
  split
  · rename_i hok
    obtain ⟨_, _, c1, _⟩ := ok_fine hok.1
    obtain ⟨_, _, c2, _⟩ := ok_fine hok.2
    have h1 := walkE_len 5 [] (some x) (some y)
    simp only [cntO] at h1
    have h2 : sumBy cEn (walkE 5 [] (some x) (some y)) ≤ 9 * (walkE 5 [] (some x) (some y)).length := sumBy_bound fun e he => by
      have := walkE_path _ _ _ _ _ he
      simp only [List.length_nil] at this
      simp only [cEn]; omega
    omega
  · simp [sumBy]

theorem law_DiffWalk {n m : Nat} {es es' : List Value} {x y : Tr} (h : RT n (Av.get w0 σ) es x) (h' : RT m (Av.get w0 σ) es' y) {R : Value → Vw → Prop} (hR : ∀ σ', R (.bool true) σ') : AC Try.prog w0 n_laws_FnExactDiffWalk [.agg ⟨es⟩, .agg ⟨es'⟩] σ R := by
  have h0 := h
  have h0' := h'
  obtain ⟨e0, e1, e2, e3, e4, rfl, _, hpv⟩ := RT.five h
  obtain ⟨e0', e1', e2', e3', e4', rfl, _, hpv'⟩ := RT.five h'
  refine ac_laws_FnExactDiffWalk ?_
  unfold vc_laws_FnExactDiffWalk
  rw [hpv, hpv']
  simp only [cellOf_agg, List.getD_cons_zero, List.getD_cons_succ]
  refine szTree n h0 (by omega) ?_
  rw [pBin_lt, pIf_d]
  refine ⟨fun _ => hR _, fun hlow => ?_⟩
  rw [Av.left_neg] at hlow
  rw [Av.left_in (by omega)]
  refine szTree m h0' (by omega) ?_
  rw [pBin_lt, pIf_d]
  refine ⟨fun _ => hR _, fun hlow' => ?_⟩
  rw [Av.left_neg] at hlow'
  have hsz : szT n x ≤ 1048576 := by omega
  have hsz' : szT m y ≤ 1048576 := by omega
  have hfit := fit_of n x (by omega)
  have hfit' := fit_of m y (by omega)
  have hcnt : cntT n x ≤ 1000000000000 := Nat.le_trans (cnt_le n x) (by omega)
  have hcnt' : cntT m y ≤ 1000000000000 := Nat.le_trans (cnt_le m y) (by omega)
  have hcT := cT_le n x
  have hcT' := cT_le m y
  have hsum := diffX_sum (n := n) (m := m) (x := x) (y := y)
  have ok := ok_rt w0 n
  have ok' := ok_rt w0 m
  refine toTree n h0 hfit fun es1 F1 s1 k1 o1 f1 => ?_
  refine toTree m (mono_rt m _ _ _ _ k1.le h0') hfit' fun es1' F1' s2 k2 o1' f1' => ?_
  have K2 := k1.trans k2
  refine spec_DiffWalk (mono_rt n _ _ _ _ k2.le (ok.rel _ _ _ _ o1)) (ok'.rel _ _ _ _ o1') hcnt hcnt' fun wv Fw s3 k3 ow fw => ?_
  have hw := ow.rel (ok_en w0)
  have K3 := K2.trans k3
  refine toTree n (mono_rt n _ _ _ _ K3.le h0) hfit fun es2 F2 s4 k4 o2 f2 => ?_
  have r2 := ok.rel _ _ _ _ o2
  obtain ⟨a2, b2, c2, d2, g2, rfl, q2, hp2⟩ := RT.five r2
  rw [hp2]
  simp only [cellOf_agg, List.getD_cons_zero, List.getD_cons_succ]
  refine toTree m (mono_rt m _ _ _ _ (K3.trans k4).le h0') hfit' fun es2' F2' s5 k5 o2' f2' => ?_
  have r2' := ok'.rel _ _ _ _ o2'
  obtain ⟨a2', b2', c2', d2', g2', rfl, q2', hp2'⟩ := RT.five r2'
  rw [hp2']
  simp only [cellOf_agg, List.getD_cons_zero, List.getD_cons_succ]
  refine impl_DiffWalk (mono_rt n _ _ _ _ k5.le r2) r2' hcnt hcnt' fun gv Fg s6 k6 og fg => ?_
  have k36 := (k4.trans k5).trans k6
  refine eqEntryS (og.rel (ok_en w0)) (hw.mono k36.le fun _ _ => mono_en k36.le) ?_
  rw [pUn_not, pIf_b]
  refine ⟨fun h => by simp at h, fun _ => ?_⟩
  have K6 := K3.trans k36
  refine toTree n (mono_rt n _ _ _ _ K6.le h0) hfit fun es3 F3 s7 k7 o3 f3 => ?_
  refine eqTree n (mono_rt n _ _ _ _ ((k5.trans k6).trans k7).le r2) (ok.rel _ _ _ _ o3) ?_
  rw [pUn_not, pIf_b]
  refine ⟨fun h => by simp at h, fun _ => ?_⟩
  refine toTree m (mono_rt m _ _ _ _ (K6.trans k7).le h0') hfit' fun es3' F3' s8 k8 o3' f3' => ?_
  refine eqTree m (mono_rt m _ _ _ _ ((k6.trans k7).trans k8).le r2') (ok'.rel _ _ _ _ o3') ?_
  rw [pUn_not, pIf_b]
  refine ⟨fun h => by simp at h, fun _ => ?_⟩
  -- the marks of the arguments
  have o28 := ok.frame _ s8 _ _ _ o2 ((((k5.trans k6).trans k7).trans k8).but_at fun b hb => (ok.dom _ _ _ _ o2 b hb).2)
  refine markTree (k := 1) o28 (by omega) fun s9 k9 _ => ?_
  have o28' := ok'.frame _ s8 _ _ _ o2' (((k6.trans k7).trans k8).but_at fun b hb => (ok'.dom _ _ _ _ o2' b hb).2)
  have o29' := ok'.frame _ s9 _ _ _ o28' (k9.at (fun b hb => (ok'.dom _ _ _ _ o28' b hb).2) fun b hb hb' => (ok.dom _ _ _ _ o2 b hb').2 (f2' b hb))
  refine markTree (k := 1 + cT n x - 3) o29' (by omega) fun s10 k10 _ => ?_
  rw [pBin_lt, pIf_d]
  refine ⟨fun h => by omega, fun _ => ?_⟩
  have k38 := (k36.trans k7).trans k8
  have kw10 : Keeps s3 s10 := k10.old (k9.old k38 f2) fun b hb => none_old k4 (f2' b hb)
  have g8 := og.frame (ok_en w0) ((k7.trans k8).but_at fun b hb => (og.dom (ok_en w0) b hb).2)
  have g9 := g8.frame (ok_en w0) (k9.at (fun b hb => (g8.dom (ok_en w0) b hb).2) fun b hb hb' => (ok.dom _ _ _ _ o2 b hb').2 (none_old k5 (fg b hb)))
  have g10 := g9.frame (ok_en w0) (k10.at (fun b hb => (g9.dom (ok_en w0) b hb).2) fun b hb hb' => (ok'.dom _ _ _ _ o2' b hb').2 (fg b hb))
  refine eqEntryS (g10.rel (ok_en w0)) (hw.mono kw10.le fun _ _ => mono_en kw10.le) ?_
  rw [pUn_not, pIf_b]
  refine ⟨fun h => by simp at h, fun _ => ?_⟩
  refine markEntryS (k := 1) g10 (by omega) fun s11 k11 g11 => ?_
  refine heldEntryS (k := 1) (g11.rel (ok_en w0)) (by omega) fun s12 k12 => ?_
  rw [pBin_lt, pIf_d]
  refine ⟨fun h => by omega, fun _ => ?_⟩
  rw [pBin_ne, pIf_d]
  refine ⟨fun h => absurd rfl h, fun _ => ?_⟩
  have g12 := g11.frame (ok_en w0) (k12.but_at fun b hb => (g11.dom (ok_en w0) b hb).2)
  have kw12 : Keeps s3 s12 := (k11.old kw10 fun b hb => none_old (k4.trans k5) (fg b hb)).trans k12
  have K12 : Keeps σ s12 := K3.trans kw12
  refine toTree n (mono_rt n _ _ _ _ K12.le h0) hfit fun es4 F4 s13 k13 o4 f4 => ?_
  refine toTree m (mono_rt m _ _ _ _ (K12.trans k13).le h0') hfit' fun es4' F4' s14 k14 o4' f4' => ?_
  refine impl_DiffWalk (mono_rt n _ _ _ _ k14.le (ok.rel _ _ _ _ o4)) (ok'.rel _ _ _ _ o4') hcnt hcnt' fun hv Fh s15 k15 oh fh => ?_
  have k1215 := (k13.trans k14).trans k15
  have kw15 := kw12.trans k1215
  refine eqEntryS (oh.rel (ok_en w0)) (hw.mono kw15.le fun _ _ => mono_en kw15.le) ?_
  rw [pUn_not, pIf_b]
  refine ⟨fun h => by simp at h, fun _ => ?_⟩
  have g15 := g12.frame (ok_en w0) (k1215.but_at fun b hb => (g12.dom (ok_en w0) b hb).2)
  refine heldEntryS (k := 1) (g15.rel (ok_en w0)) (by omega) fun s16 k16 => ?_
  rw [pBin_lt, pIf_d]
  refine ⟨fun h => by omega, fun _ => ?_⟩
  rw [pBin_ne, pIf_d]
  exact ⟨fun h => absurd rfl h, fun _ => hR _⟩
end
end Go.Proofs.Ytlbpnfhhoalenaa

/- The law FnExactDiffWalk holds: it returns true, and the input reads as it did. No condition. -/
namespace Go.Proofs.Ytlbpnfhhoalenaa.fnExactDiffWalk
open Go.ChangeShapes Go.WideShapes Go.ChangeAt Go.RowKit Go.Av
set_option linter.unusedVariables false
set_option linter.unusedSimpArgs false
theorem own : ownKnob Try.prog.godebug = none := by kernel_rfl
theorem laidOut : laidOutB Try.prog = true := by kernel_rfl
set_option maxRecDepth 100000 in
theorem lifted (os : Os) (started : os.Started) (H : Type) (enc : TypeId × Value → H) :
    ReturnsInHanded {} Try.checked os 8 .any (Rows.fnExactDiffWalkSpec.pre6 enc Try.prog Try.f8 Rows.fnExactDiffWalkRow.domain false) (Rows.fnExactDiffWalkSpec.post enc Try.prog Try.f8 false true false false) := by
  refine returnsInHanded_of_change_sized (C := Try.checked) own started (by kernel_rfl) Try.func8
    (ChangeSpec.witness6 (enc := enc) (C := Try.checked) false ⟨#[], #[.agg #[.bool false, .int .i64 0, .string ⟨#[]⟩, .slice none 0 0, .slice none 0 0], .agg #[.bool false, .int .i64 0, .string ⟨#[]⟩, .slice none 0 0, .slice none 0 0]], []⟩ 8 (by kernel_rfl) (by kernel_rfl) (by kernel_rfl) (by kernel_rfl)) ?_
  intro W base args ds gs before hval0 hW hcnd hsz0 _
  have hval : ∀ (j : Nat) t v, Try.f8.params[j]? = some t → args[j]? = some v → Value.okWide Try.prog W .any base t v := hval0
  have hW' := hW
  obtain ⟨p, q, hA0, hV, rfl, hfz, hnd⟩ := hW
  have hA : DataW.TrodAll enc Try.prog W 0 (fun _ => true) true Try.f8.params.toList args.toList ds p := hA0
  rw [Try.params8] at hA hval
  obtain ⟨v0, v1, d0, d1, p0, p1, rfl, rfl, hpp, h0, h1⟩ := trodAll_two hA
  obtain ⟨rfl, rfl⟩ := trodVars_none hV
  have hT0 : Try.prog.underlying 32 = some (.struct (fsOf Try.prog 32)) := by kernel_rfl
  obtain ⟨c0, rfl, hc0⟩ := okWide_struct hT0 (hval 0 32 v0 rfl rfl)
  have hT1 : Try.prog.underlying 32 = some (.struct (fsOf Try.prog 32)) := by kernel_rfl
  obtain ⟨c1, rfl, hc1⟩ := okWide_struct hT1 (hval 1 32 v1 rfl rfl)
  have h0k := h0
  obtain ⟨fuel0, hf0⟩ := h0
  have h1k := h1
  obtain ⟨fuel1, hf1⟩ := h1
  clear hA0 hval0 hsz0
  simp only [List.append_nil] at hW'
  have hlt : ∀ x ∈ p, x.block < W.heap.size := fun x hx => by simpa using hW'.lt x hx
  have hargs0 : ∀ (W' : World), Below W.heap.size W W' → DataW.Trod enc Try.prog W' 0 (fun b => decide (b < W.heap.size)) true 32 (.agg c0) d0 p0 :=
    fun W' hn => Below.trod laidOut (by kernel_rfl) (of_decide_eq_true (by kernel_rfl)) h0k hn (fun x hx => hlt x (by rw [hpp]; simp [hx]))
  have hargs1 : ∀ (W' : World), Below W.heap.size W W' → DataW.Trod enc Try.prog W' 0 (fun b => decide (b < W.heap.size)) true 32 (.agg c1) d1 p1 :=
    fun W' hn => Below.trod laidOut (by kernel_rfl) (of_decide_eq_true (by kernel_rfl)) h1k hn (fun x hx => hlt x (by rw [hpp]; simp [hx]))
  have hl0 : c0.toList.length = 5 := by rw [Array.length_toList, hc0]; kernel_rfl
  obtain ⟨x0, r0⟩ := open_tree fuel0 c0.toList _ hf0 hl0
  have hl1 : c1.toList.length = 5 := by rw [Array.length_toList, hc1]; kernel_rfl
  obtain ⟨x1, r1⟩ := open_tree fuel1 c1.toList _ hf1 hl1
  refine ((law_DiffWalk (R := fun v _ => v = .bool true) r0 r1 (by intros; rfl)).calls).mono fun e W' ⟨v, σ', he, hv, bel⟩ => ?_
  subst he hv
  have hW'' := hW'
  rw [hpp] at hW''
  exact ⟨_, rfl, _, _, _, [], _, [], hW'', trodAll_mk1 (shut_bool Try.underlying4 _), trodAll_mk2 (hargs0 W' bel) (hargs1 W' bel), rfl, bel.frame _, fun h => by cases h⟩
theorem over : Rows.fnExactDiffWalkRow.holds Try.pinned (OpenSpec.ofChange Rows.fnExactDiffWalkSpec) :=
  OpenClaim.holds_of_wide 8 Try.f8 rfl rfl rfl rfl rfl rfl rfl ⟨rfl, rfl, rfl, rfl, rfl⟩ rfl rfl rfl rfl rfl (by kernel_rfl) Try.func8 (by kernel_rfl)
    (of_decide_eq_true (by kernel_rfl)) (by unfold Func.isWrapper; first | (rw [if_pos (by decide +kernel)]; kernel_rfl) | (rw [if_neg (by decide +kernel)]; exact ⟨rfl, rfl⟩))
    (fun os started H enc _ => lifted os started H enc)
theorem proved : Rows.FnExactDiffWalkSaid := over
end Go.Proofs.Ytlbpnfhhoalenaa.fnExactDiffWalk
namespace Go.Proofs.Ytlbpnfhhoalenaa
/-- The row, under a short name, for the claim. -/
theorem fnExactDiffWalk_holds : Rows.FnExactDiffWalkSaid := fnExactDiffWalk.proved
end Go.Proofs.Ytlbpnfhhoalenaa
