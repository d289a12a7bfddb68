/- The law FnExactTrailOf holds: it returns true, and the input reads as it did. No condition. This is part 6 of 6 of its proof. -/
import Derived.Test.YtkblkdnnncklgaaXFnExactTrailOf5
import Derived.WideShapes
import Derived.ProofKit
import Derived.Below
import Derived.Test.YtkblkdnnncklgaaRows
import Derived.WalkKit
import Derived.OpenShut
import Derived.ShutString
import Derived.ChangeOld
import Derived.Carry
import Derived.SizedLaws

/- Trees: sound by the program's own reading. -/
set_option linter.unusedVariables false
set_option linter.unusedSimpArgs false
namespace Go.Proofs.Ytkblkdnnncklgaa
open Go Go.Av

section
variable {w0 : World}

theorem impl_sound : ∀ (n : Nat) {σ : Vw} {es : List Value} {x : Tr} {k : Int} {R : Value → Vw → Prop}, RT n (Av.get w0 σ) es x → (0 ≤ k ∧ k ≤ 5) → R (.bool (soundB n x k)) σ → AC Try.prog w0 n_impl_Tree_sound [.agg ⟨es⟩, .int .i64 k] σ R
  | 0, _, _, _, _, _, h, _, _ => h.elim
  | n + 1, σ, es, .mk d m t ns ks, k, R, h, hk, hR => by
    have h0 := h
    obtain ⟨u, w, rfl, h2, h3, h4, h5⟩ := h
    refine ac_impl_Tree_sound ?_
    unfold vc_impl_Tree_sound
    have hl := h4.le
    rw [pVal_5 rfl rfl rfl h4.one h5.one]
    simp only [cellOf_agg, List.getD_cons_zero, List.getD_cons_succ]
    have no : soundB (n + 1) (.mk d m t ns ks) k = false → R (.bool false) σ := fun e => by rw [e] at hR; exact hR
    refine ac_impl_modeOk ?_
    unfold vc_impl_modeOk
    refine impl_within ?_
    show pUn .not (.bool _) _
    rw [pUn_not, pIf_b]
    refine ⟨fun hb => no (by simp at hb; simp [soundB, plainB, hb]), fun hm => ?_⟩
    have hm' : inB m 0 7 = true := by simpa using hm
    rw [pBin_gt, pIf_d]
    refine ⟨fun hb => no (by have : ¬ k ≤ 4 := by omega
                             simp [soundB, this]), fun hle => ?_⟩
    have hle' : k ≤ 4 := by omega
    rw [h4.len, h5.len, pBin_ne, pIf_d]
    refine ⟨fun hne => no (by have : ¬ ns.length = ks.length := by omega
                              simp [soundB, plainB, this]), fun heq => ?_⟩
    have heq' : ns.length = ks.length := by omega
    rw [pUn_not, pIf_b]
    refine ⟨fun hd => ?_, fun hd => ?_⟩
    · have hd' : d = false := by simpa using hd
      subst hd'
      rw [pLenS_s, pBin_le, pIf_d]
      refine ⟨fun htx => ?_, fun htx => no (by have : ¬ t.size ≤ 24 := by omega
                                               simp [soundB, plainB, this])⟩
      rw [h4.len, pBin_eq]
      have e : soundB (n + 1) (.mk false m t ns ks) k = decide ((ns.length : Int) = 0) := by
        have e1 : t.size ≤ 24 := by omega
        by_cases hz : ns.length = 0
        · have hkz : ks = [] := List.length_eq_zero_iff.1 (by omega)
          have hnz : ns = [] := List.length_eq_zero_iff.1 hz
          subst hkz hnz
          simp [soundB, plainB, hm', hle', e1, allB]
        · have hz' : ¬ ((ns.length : Int) = 0) := by omega
          have hz2 : ¬ (ks.length = 0) := by omega
          simp [soundB, plainB, heq', hz', hz2]
      rw [e] at hR; exact hR
    · have hd' : d = true := by simpa using hd
      subst hd'
      rw [pBin_sne, pIf_d]
      refine ⟨fun htx => no (by simp [soundB, plainB, htx]), fun htx => ?_⟩
      have htx' := Decidable.not_not.1 htx
      rw [h4.len]
      refine loop_rule (m := ns.length) (fun c l s => ∃ j, s = σ ∧ c + j = ns.length ∧ (∀ (i : Nat) (x : ByteArray), i < j → ns[i]? = some x → nameAt ns i x = true) ∧ (∀ (i : Nat) (x : Tr), i < j → ks[i]? = some x → soundB n x (k + 1) = true) ∧ l = [.int .i64 k, .bool false, u, .int .i64 ns.length, .int .i64 (j : Nat), .bool true, .int .i64 m, .string t, u, w]) ?_ ⟨0, rfl, by omega, fun i x h => by omega, fun i x h => by omega, rfl⟩
      rintro c l s L ⟨j, rfl, hc, ht, hkd, rfl⟩ hL
      simp only [vget, List.getD_cons_zero, List.getD_cons_succ]
      rw [pBin_lt, pIf_d]
      refine ⟨fun hj => ?_, fun hj => ?_⟩
      · have hx := List.getElem?_eq_getElem (show j < ns.length by omega)
        generalize hxj : ns[j] = x at hx
        have hkk := List.getElem?_eq_getElem (show j < ks.length by omega)
        generalize hkj : ks[j] = kid at hkk
        have bad : nameAt ns j x = false → R (.bool false) s := fun hb => no (by
          have : ¬ namesP ns := fun hh => by rw [hh j x hx] at hb; cases hb
          simp [soundB, plainB, this])
        have last : nameAt ns j x = true → pIndexAddr 5 w (.int .i64 j) (fun v35 => pLoad w0 5 v35 s (fun g36 => pBin Try.prog 3 .add (.int .i64 k) (.int .i64 1) (fun v37 => AC Try.prog w0 n_impl_Tree_sound [.agg ⟨[g36 0, g36 1, g36 2, g36 3, g36 4]⟩, v37] s (fun v38 s39 => pUn .not v38 (fun v40 => pIf v40 (R (.bool false) s39) (pBin Try.prog 3 .add (.int .i64 j) (.int .i64 1) (fun v41 => L [.int .i64 k, .bool false, u, .int .i64 ns.length, v41, .bool true, .int .i64 m, .string t, u, w] s39))))))) := by
          intro hgood
          refine h5.at hkk fun g hg => ?_
          rw [pBin_add (by omega)]
          refine impl_sound n (x := kid) hg (by omega) ?_
          rw [pUn_not, pIf_b]
          refine ⟨fun hb => no ?_, fun hb => ?_⟩
          · have := allB_bad (p := fun x => soundB n x (k + 1)) hkk (by simpa using hb)
            simp [soundB, this]
          · rw [pBin_add (by omega)]
            refine hL _ _ (c - 1) (by omega) ⟨j + 1, rfl, by omega, fun i y hi he => ?_, fun i y hi he => ?_, rfl⟩
            · by_cases e : i = j
              · subst e; rw [hx] at he; cases he; exact hgood
              · exact ht i y (by omega) he
            · by_cases e : i = j
              · subst e; rw [hkk] at he; cases he; simpa using hb
              · exact hkd i y (by omega) he
        refine RSl.at1 h4 hx fun g hg hs => ?_
        rw [hg]
        refine impl_nameOk hs ?_
        rw [pUn_not, pIf_b]
        refine ⟨fun hb => bad (by simp at hb; simp [nameAt, hb]), fun hg => ?_⟩
        have hg' : nameOk x = true := by simpa using hg
        rw [pBin_gt, pIf_d]
        refine ⟨fun hpos => ?_, fun h0 => ?_⟩
        · obtain ⟨i, rfl⟩ : ∃ i, j = i + 1 := ⟨j - 1, by omega⟩
          rw [pBin_sub (by omega)]
          have hy := List.getElem?_eq_getElem (show i < ns.length by omega)
          generalize hyi : ns[i] = y at hy
          rw [show ((i + 1 : Nat) : Int) - 1 = (i : Nat) by omega]
          refine RSl.at1 h4 hy fun g2 hg2 hs2 => ?_
          have hpl : prevLt ns (i + 1) x = strLt y x := by simp [prevLt, hy]
          rw [hg2, pBin_sge, pIf_b]
          refine ⟨fun hb => bad (by simp at hb; simp [nameAt, hpl, hb]), fun hb => ?_⟩
          exact last (by simp at hb; simp [nameAt, hg', hpl, hb])
        · have : j = 0 := by omega
          subst this
          exact last (by simp [nameAt, hg', prevLt])
      · have hj' : j = ns.length := by omega
        subst hj'
        have e1 : namesP ns := fun i x he => ht i x (List.getElem?_eq_some_iff.1 he).1 he
        have e2 : allB (fun x => soundB n x (k + 1)) ks = true := allB_iff.2 fun i x he => hkd i x (by have := (List.getElem?_eq_some_iff.1 he).1; omega) he
        have e : soundB (n + 1) (.mk true m t ns ks) k = true := by simp [soundB, plainB, hm', heq', e1, htx', hle', e2]
        rw [e] at hR; exact hR
end
end Go.Proofs.Ytkblkdnnncklgaa

/- Trees: how many paths; the laws 'TreeOk' and 'TreeCount', of the functions alone. -/
set_option linter.unusedVariables false
set_option linter.unusedSimpArgs false
namespace Go.Proofs.Ytkblkdnnncklgaa
open Go Go.Av

def cntT : Nat → Tr → Nat
  | 0, _ => 0
  | n + 1, .mk d m t ns ks => ks.length + sumBy (cntT n) ks
theorem sumBy_mono {α : Type} {f g : α → Nat} : ∀ {xs : List α}, (∀ x, x ∈ xs → f x ≤ g x) → sumBy f xs ≤ sumBy g xs
  | [], _ => by simp [sumBy]
  | a :: r, h => by
    have := sumBy_mono (xs := r) fun x hx => h x (List.mem_cons_of_mem _ hx)
    have := h a List.mem_cons_self
    simp only [sumBy]; omega
theorem sumBy_one {α : Type} {f : α → Nat} : ∀ {xs : List α}, sumBy (fun x => f x + 1) xs = sumBy f xs + xs.length
  | [] => by simp [sumBy]
  | a :: r => by have := sumBy_one (f := f) (xs := r); simp only [sumBy, List.length_cons, this]; omega
theorem cnt_le : ∀ (n : Nat) (x : Tr), cntT n x ≤ szT n x
  | 0, _ => by simp [cntT, szT]
  | n + 1, .mk d m t ns ks => by
    have := sumBy_mono (xs := ks) fun x _ => cnt_le n x
    simp only [cntT, szT]; omega

section
variable {w0 : World}

theorem spec_Count : ∀ (n : Nat) {σ : Vw} {es : List Value} {x : Tr} {R : Value → Vw → Prop}, RT n (Av.get w0 σ) es x → cntT n x ≤ 1000000000000 → R (.int .i64 (cntT n x)) σ → AC Try.prog w0 n_spec_l1Count [.agg ⟨es⟩] σ R
  | 0, _, _, _, _, h, _, _ => h.elim
  | n + 1, σ, es, .mk d m t ns ks, R, h, hb, hR => by
    obtain ⟨u, w, rfl, h2, h3, h4, h5⟩ := h
    refine ac_spec_l1Count ?_
    unfold vc_spec_l1Count
    rw [pVal_5 rfl rfl rfl h4.one h5.one]
    simp only [cellOf_agg, List.getD_cons_zero, List.getD_cons_succ]
    simp only [cntT] at hb hR
    rw [h5.len]
    refine loop_rule (m := ks.length) (fun c l s => ∃ j, s = σ ∧ c + j = ks.length ∧ l = [.int .i64 ((ks.length + sumBy (cntT n) (ks.take j) : Nat) : Int), .int .i64 (j : Nat), .bool d, .int .i64 m, .string t, u, w]) ?_ ⟨0, rfl, by omega, by simp [sumBy]⟩
    rintro c l s L ⟨j, rfl, hc, rfl⟩ hL
    simp only [vget, List.getD_cons_zero, List.getD_cons_succ]
    rw [h5.len, pBin_lt, pIf_d]
    refine ⟨fun hj => ?_, fun hj => ?_⟩
    · have hx := List.getElem?_eq_getElem (show j < ks.length by omega)
      generalize hxj : ks[j] = x at hx
      refine h5.at hx fun g hg => ?_
      have ht := sumBy_take (f := cntT n) hx
      have hle := sumBy_le (f := cntT n) (xs := ks) (j + 1)
      refine spec_Count n (x := x) hg (by omega) ?_
      rw [pBin_add (by omega), pBin_add (by omega)]
      refine hL _ _ (c - 1) (by omega) ⟨j + 1, rfl, by omega, ?_⟩
      rw [ht]
      congr 2
      omega
    · have hj' : j = ks.length := by omega
      subst hj'
      rw [List.take_length]
      exact hR

theorem impl_paths : ∀ (n : Nat) {σ : Vw} {es : List Value} {x : Tr} {R : Value → Vw → Prop}, RT n (Av.get w0 σ) es x → cntT n x ≤ 1000000000000 → R (.int .i64 ((cntT n x + 1 : Nat) : Int)) σ → AC Try.prog w0 n_impl_Tree_paths [.agg ⟨es⟩] σ R
  | 0, _, _, _, _, h, _, _ => h.elim
  | n + 1, σ, es, .mk d m t ns ks, R, h, hb, hR => by
    obtain ⟨u, w, rfl, h2, h3, h4, h5⟩ := h
    refine ac_impl_Tree_paths ?_
    unfold vc_impl_Tree_paths
    rw [pVal_5 rfl rfl rfl h4.one h5.one]
    simp only [cellOf_agg, List.getD_cons_zero, List.getD_cons_succ]
    simp only [cntT] at hb hR
    rw [h5.len]
    refine loop_rule (m := ks.length) (fun c l s => ∃ j, s = σ ∧ c + j = ks.length ∧ l = [.int .i64 ((1 + sumBy (fun x => cntT n x + 1) (ks.take j) : Nat) : Int), w, .int .i64 ks.length, .int .i64 (j : Nat)]) ?_ ⟨0, rfl, by omega, by simp [sumBy]⟩
    have hsum := sumBy_one (f := cntT n) (xs := ks)
    rintro c l s L ⟨j, rfl, hc, rfl⟩ hL
    simp only [vget, List.getD_cons_zero, List.getD_cons_succ]
    rw [pBin_lt, pIf_d]
    refine ⟨fun hj => ?_, fun hj => ?_⟩
    · have hx := List.getElem?_eq_getElem (show j < ks.length by omega)
      generalize hxj : ks[j] = x at hx
      refine h5.at hx fun g hg => ?_
      have ht := sumBy_take (f := fun x => cntT n x + 1) hx
      have hle := sumBy_le (f := fun x => cntT n x + 1) (xs := ks) (j + 1)
      have hin : ∀ (A : Prop), A → pVal true 5 (.agg ⟨[g 0, g 1, g 2, g 3, g 4]⟩) A := fun A hA => ⟨⟨_, rfl, rfl, (by
        obtain _ | n := n
        · exact hg.elim
        · obtain ⟨d', m', t', ns', ks'⟩ := x
          obtain ⟨u', w', e, _, _, q4, q5⟩ := hg
          have e' : [g 0, g 1, g 2, g 3, g 4] = [.bool d', .int .i64 m', .string t', u', w'] := e
          rw [e']
          intro c hc
          simp at hc
          rcases hc with rfl | rfl | rfl | rfl | rfl
          · rfl
          · rfl
          · rfl
          · exact q4.one
          · exact q5.one)⟩, hA⟩
      refine hin _ ?_
      refine impl_paths n (x := x) hg (by omega) ?_
      rw [pBin_add (by omega), pBin_add (by omega)]
      refine hL _ _ (c - 1) (by omega) ⟨j + 1, rfl, by omega, ?_⟩
      rw [ht]
      congr 2
      omega
    · have hj' : j = ks.length := by omega
      subst hj'
      rw [List.take_length, hsum]
      show R (.int .i64 _) s
      rw [show ((1 + (sumBy (cntT n) ks + ks.length) : Nat) : Int) = ((ks.length + sumBy (cntT n) ks + 1 : Nat) : Int) by omega]
      exact hR
end
end Go.Proofs.Ytkblkdnnncklgaa

/- Trees: the laws 'TreeOk' and 'TreeCount', of the functions alone. -/
set_option linter.unusedVariables false
set_option linter.unusedSimpArgs false
namespace Go.Proofs.Ytkblkdnnncklgaa
open Go Go.Av

def isDir : Tr → Bool
  | .mk d _ _ _ _ => d
noncomputable def treeOk (n : Nat) (x : Tr) : Bool := isDir x && (soundB n x 0 && decide (cntT n x ≤ 30))
noncomputable def treeCount (n : Nat) (x : Tr) : Int := if treeOk n x = true then cntT n x else 0

section
variable {w0 : World} {σ : Vw}

theorem RT.five {n : Nat} {rd : Addr → Option Value} {es : List Value} {x : Tr} (h : RT n rd es x) : ∃ a b c d e, es = [a, b, c, d, e] ∧ a = .bool (isDir x) ∧ ∀ A : Prop, pVal true 5 (.agg ⟨es⟩) A ↔ A := by
  obtain _ | n := n
  · exact h.elim
  · obtain ⟨d', m', t', ns', ks'⟩ := x
    obtain ⟨u', w', rfl, _, _, q4, q5⟩ := h
    exact ⟨_, _, _, _, _, rfl, rfl, fun A => pVal_5 rfl rfl rfl q4.one q5.one⟩

theorem spec_TreeOk {n : Nat} {es : List Value} {x : Tr} {R : Value → Vw → Prop} (h : RT n (Av.get w0 σ) es x) (hb : cntT n x ≤ 1000000000000) (hR : R (.bool (treeOk n x)) σ) : AC Try.prog w0 n_spec_TreeOk [.agg ⟨es⟩] σ R := by
  have h0 := h
  obtain ⟨a, b, c, d, e, rfl, rfl, hp⟩ := RT.five h
  refine ac_spec_TreeOk ?_
  unfold vc_spec_TreeOk
  rw [hp]
  simp only [cellOf_agg, List.getD_cons_zero, List.getD_cons_succ]
  rw [pIf_b]
  refine ⟨fun hd => ?_, fun hd => by simpa [treeOk, hd] using hR⟩
  refine spec_Parts n h0 (by omega) ?_
  rw [pIf_b]
  refine ⟨fun hs => ?_, fun hs => by simpa [treeOk, hs] using hR⟩
  refine spec_Count n h0 hb ?_
  rw [pBin_le]
  have : treeOk n x = decide ((cntT n x : Int) ≤ 30) := by
    simp only [treeOk, hd, hs, Bool.true_and]
    congr 1; apply propext; omega
  rw [this] at hR; exact hR

theorem impl_TreeOk {n : Nat} {es : List Value} {x : Tr} {R : Value → Vw → Prop} (h : RT n (Av.get w0 σ) es x) (hb : cntT n x ≤ 1000000000000) (hR : R (.bool (treeOk n x)) σ) : AC Try.prog w0 n_impl_TreeOk [.agg ⟨es⟩] σ R := by
  have h0 := h
  obtain ⟨a, b, c, d, e, rfl, rfl, hp⟩ := RT.five h
  refine ac_impl_TreeOk ?_
  unfold vc_impl_TreeOk
  rw [hp]
  simp only [cellOf_agg, List.getD_cons_zero, List.getD_cons_succ]
  rw [pIf_b]
  refine ⟨fun hd => ?_, fun hd => by simpa [treeOk, hd] using hR⟩
  refine impl_sound n h0 (by omega) ?_
  rw [pIf_b]
  refine ⟨fun hs => ?_, fun hs => by simpa [treeOk, hs] using hR⟩
  refine impl_paths n h0 hb ?_
  rw [pBin_le]
  have : treeOk n x = decide (((cntT n x + 1 : Nat) : Int) ≤ 31) := by
    simp only [treeOk, hd, hs, Bool.true_and]
    congr 1; apply propext; omega
  rw [this] at hR; exact hR

theorem spec_TreeCount {n : Nat} {es : List Value} {x : Tr} {R : Value → Vw → Prop} (h : RT n (Av.get w0 σ) es x) (hb : cntT n x ≤ 1000000000000) (hR : R (.int .i64 (treeCount n x)) σ) : AC Try.prog w0 n_spec_TreeCount [.agg ⟨es⟩] σ R := by
  have h0 := h
  obtain ⟨a, b, c, d, e, rfl, rfl, hp⟩ := RT.five h
  refine ac_spec_TreeCount ?_
  unfold vc_spec_TreeCount
  rw [hp]
  simp only [cellOf_agg, List.getD_cons_zero, List.getD_cons_succ]
  refine spec_TreeOk h0 hb ?_
  rw [pUn_not, pIf_b]
  refine ⟨fun hn => by simp at hn; simpa [treeCount, hn] using hR, fun hn => ?_⟩
  refine spec_Count n h0 hb ?_
  simp at hn
  simpa [treeCount, hn] using hR

theorem impl_TreeCount {n : Nat} {es : List Value} {x : Tr} {R : Value → Vw → Prop} (h : RT n (Av.get w0 σ) es x) (hb : cntT n x ≤ 1000000000000) (hR : R (.int .i64 (treeCount n x)) σ) : AC Try.prog w0 n_impl_TreeCount [.agg ⟨es⟩] σ R := by
  have h0 := h
  obtain ⟨a, b, c, d, e, rfl, rfl, hp⟩ := RT.five h
  refine ac_impl_TreeCount ?_
  unfold vc_impl_TreeCount
  rw [hp]
  simp only [cellOf_agg, List.getD_cons_zero, List.getD_cons_succ]
  refine impl_TreeOk h0 hb ?_
  rw [pUn_not, pIf_b]
  refine ⟨fun hn => by simp at hn; simpa [treeCount, hn] using hR, fun hn => ?_⟩
  refine impl_paths n h0 hb ?_
  rw [pBin_sub (by omega)]
  simp at hn
  rw [show ((cntT n x + 1 : Nat) : Int) - 1 = (cntT n x : Int) by omega]
  simpa [treeCount, hn] using hR

end
end Go.Proofs.Ytkblkdnnncklgaa

/- The plain side, part 3: what the statement's reading of an argument says of the cells. -/
set_option linter.unusedVariables false
set_option linter.unusedSimpArgs false
namespace Go.Av
open Go Go.RowKit

def σ0 : Vw := fun _ => none

section
variable {H : Type} {enc : TypeId × Value → H} {P : Program} {W : World} {fuel : Nat} {cs : List Value} {x : DataW H × List MemPlace}

theorem sat0 (W : World) : Sat W σ0 W := ⟨Below.refl _ _, fun b r h => by cases h⟩

theorem get0 {a : Addr} {v : Value} (h : W.cell? a = some v) {σ : Vw} : Av.get W σ a = some v := by
  have hlt : a.block < W.heap.size := by
    rcases Nat.lt_or_ge a.block W.heap.size with h1 | h1
    · exact h1
    · have : W.heap[a.block]? = none := Array.getElem?_eq_none h1
      unfold World.cell? at h
      simp [this] at h
  unfold Av.get
  rw [if_pos hlt]; exact h

theorem listOf {α : Type} (p : Nat → α → Prop) : ∀ (n : Nat), (∀ i, i < n → ∃ x, p i x) → ∃ xs : List α, xs.length = n ∧ ∀ (j : Nat) (x : α), xs[j]? = some x → p j x
  | 0, _ => ⟨[], rfl, fun j x h => by simp at h⟩
  | n + 1, h => by
    obtain ⟨xs, hl, hx⟩ := listOf p n (fun i hi => h i (by omega))
    obtain ⟨y, hy⟩ := h n (by omega)
    refine ⟨xs ++ [y], by simp [hl], fun j x hj => ?_⟩
    by_cases e : j < xs.length
    · rw [List.getElem?_append_left e] at hj; exact hx j x hj
    · rw [List.getElem?_append_right (by omega)] at hj
      have : j - xs.length = 0 := by
        rcases Nat.eq_zero_or_pos (j - xs.length) with h0 | h0
        · exact h0
        · rw [List.getElem?_eq_none (by simp; omega)] at hj; cases hj
      rw [this] at hj
      simp at hj
      subst hj
      have : j = n := by omega
      subst this; exact hy

/-- A slice is opened, its elements by a rule of their own. -/
theorem open_rsl {α : Type} {t e n : Nat} {R : (Addr → Option Value) → List Value → α → Prop} {spare : Nat → Bool} (ht : P.underlying t = some (.slice e)) (hc : P.cellsOf e = n)
    (hR : ∀ (fuel : Nat) (es : List Value) (y : DataW H × List MemPlace), DataW.trod enc P W 0 spare true fuel e es = some y → es.length = n → ∃ x, R (Av.get W σ0) es x) (h : DataW.trod enc P W 0 spare true fuel t cs = some x) : ∃ v xs, cs = [v] ∧ RSl n R (Av.get W σ0) v xs := by
  rcases DataW.trod_slice ht h with ⟨rfl, _⟩ | ⟨a, len, cap, elems, rest, m, _, rfl, _, hb, hl, hm, hlen, hel, _, _⟩
  · exact ⟨_, [], rfl, none, 0, rfl, by simp, fun j x hj => by simp at hj⟩
  · have each : ∀ i, i < len → ∃ x : α, ∃ es : List Value, es.length = n ∧ (∀ k, k < n → Av.get W σ0 (a.add (i * n + k)) = es[k]?) ∧ R (Av.get W σ0) es x := by
      intro i hi
      have h1 := hel i hi
      rw [hc, List.getElem?_eq_getElem (by omega), Option.bind_eq_some_iff] at h1
      obtain ⟨es, h2, h3⟩ := h1
      obtain ⟨_, hes, hcell⟩ := World.cells?_some h2
      obtain ⟨x, hx⟩ := hR m es _ h3 hes
      refine ⟨x, es, hes, fun k hk => ?_, hx⟩
      have := hcell k hk
      rw [add_add] at this
      have hlt : k < es.length := by omega
      rw [List.getElem?_eq_getElem hlt] at this ⊢
      exact get0 this
    obtain ⟨xs, hxl, hxs⟩ := listOf _ len each
    have hmax : cap ≤ 9223372036854775807 := by have : maxLen = 9223372036854775807 := by decide
                                                omega
    refine ⟨_, xs, rfl, some a, cap, by rw [hxl], ⟨by omega, hmax⟩, fun j x hj => ?_⟩
    obtain ⟨es, g1, g2, g3⟩ := hxs j x hj
    exact ⟨a, es, rfl, g1, g2, g3⟩

theorem open_rs {e : Nat} {spare : Nat → Bool} (he : P.underlying e = some .string) : ∀ (fuel : Nat) (es : List Value) (y : DataW H × List MemPlace), DataW.trod enc P W 0 spare true fuel e es = some y → es.length = 1 → ∃ s, RS (Av.get W σ0) es s := by
  intro fuel es y h _
  obtain ⟨s, rfl, _, hm⟩ := DataW.trod_string he h
  exact ⟨s, rfl, by have : maxLen = 9223372036854775807 := by decide
                    omega⟩

def fsOf (P : Program) (t : Nat) : Array Field := match P.underlying t with | some (.struct fs) => fs | _ => #[]

theorem open_field {t : Nat} {spare : Nat → Bool} (ht : P.underlying t = some (.struct (fsOf P t))) (i ft off n : Nat) (hf : (fsOf P t)[i]?.map (fun f => (f.type, f.offset)) = some (ft, off)) (hn : P.cellsOf ft = n) (h : DataW.trod enc P W 0 spare true fuel t cs = some x) :
    ∃ (fuel' : Nat) (y : DataW H × List MemPlace), DataW.trod enc P W 0 spare true fuel' ft ((cs.drop off).take n) = some y := by
  obtain ⟨xs, m, _, _, _, hl, hall⟩ := DataW.trod_struct ht h
  cases hc : (fsOf P t)[i]? with
  | none => rw [hc] at hf; cases hf
  | some f =>
    rw [hc] at hf
    simp only [Option.map_some, Option.some.injEq, Prod.mk.injEq] at hf
    obtain ⟨rfl, rfl⟩ := hf
    have h1 := hall i f hc
    have hlt : i < xs.length := by rw [hl]; exact (Array.getElem?_eq_some_iff.1 hc).1
    rw [List.getElem?_eq_getElem hlt, hn] at h1
    exact ⟨m, _, h1⟩

/-- From the functions to the statement. -/
theorem AC.calls {f : FuncId} {args : List Value} {R : Value → Vw → Prop} (h : AC P W f args σ0 R) : Calls P f args.toArray W fun e W' => ∃ v σ', e = .returned v ∧ R v σ' ∧ Below W.heap.size W W' :=
  (h.2 W (sat0 W)).mono fun e W' ⟨v, σ', h1, h2, h3⟩ => ⟨v, σ', h1, h2, h3.sat.bel⟩
end
end Go.Av

/- The plain side, part 4: what the statement's reading of an argument says, with the fuel told; numbers, bools, texts. -/
set_option linter.unusedVariables false
set_option linter.unusedSimpArgs false
namespace Go.Av
open Go Go.RowKit

theorem RSl.imp {α : Type} {n : Nat} {R R' : (Addr → Option Value) → List Value → α → Prop} {rd : Addr → Option Value} {v : Value} {xs : List α} (h : RSl n R rd v xs) (hR : ∀ es x, R rd es x → R' rd es x) : RSl n R' rd v xs := by
  obtain ⟨A, cap, h1, h2, h3⟩ := h
  refine ⟨A, cap, h1, h2, fun j x hj => ?_⟩
  obtain ⟨a, es, h4, h5, h6, h7⟩ := h3 j x hj
  exact ⟨a, es, h4, h5, h6, hR _ _ h7⟩

section
variable {H : Type} {enc : TypeId × Value → H} {P : Program} {W : World} {fuel : Nat} {cs : List Value} {x : DataW H × List MemPlace}

/-- A slice is opened, its elements by a rule of their own, at less fuel. -/
theorem open_rsl' {α : Type} {t e n : Nat} {R : (Addr → Option Value) → List Value → α → Prop} {spare : Nat → Bool} (ht : P.underlying t = some (.slice e)) (hc : P.cellsOf e = n)
    (hR : ∀ (m : Nat) (es : List Value) (y : DataW H × List MemPlace), m < fuel → DataW.trod enc P W 0 spare true m e es = some y → es.length = n → ∃ x, R (Av.get W σ0) es x) (h : DataW.trod enc P W 0 spare true fuel t cs = some x) : ∃ v xs, cs = [v] ∧ RSl n R (Av.get W σ0) v xs := by
  rcases DataW.trod_slice ht h with ⟨rfl, _⟩ | ⟨a, len, cap, elems, rest, m, hm1, rfl, _, hb, hl, hm, hlen, hel, _, _⟩
  · exact ⟨_, [], rfl, none, 0, rfl, by simp, fun j x hj => by simp at hj⟩
  · have each : ∀ i, i < len → ∃ x : α, ∃ es : List Value, es.length = n ∧ (∀ k, k < n → Av.get W σ0 (a.add (i * n + k)) = es[k]?) ∧ R (Av.get W σ0) es x := by
      intro i hi
      have h1 := hel i hi
      rw [hc, List.getElem?_eq_getElem (by omega), Option.bind_eq_some_iff] at h1
      obtain ⟨es, h2, h3⟩ := h1
      obtain ⟨_, hes, hcell⟩ := World.cells?_some h2
      obtain ⟨x, hx⟩ := hR m es _ (by omega) h3 hes
      refine ⟨x, es, hes, fun k hk => ?_, hx⟩
      have := hcell k hk
      rw [add_add] at this
      have hlt : k < es.length := by omega
      rw [List.getElem?_eq_getElem hlt] at this ⊢
      exact get0 this
    obtain ⟨xs, hxl, hxs⟩ := listOf _ len each
    have hmax : cap ≤ 9223372036854775807 := by have : maxLen = 9223372036854775807 := by decide
                                                omega
    refine ⟨_, xs, rfl, some a, cap, by rw [hxl], ⟨by omega, hmax⟩, fun j x hj => ?_⟩
    obtain ⟨es, g1, g2, g3⟩ := hxs j x hj
    exact ⟨a, es, rfl, g1, g2, g3⟩

theorem open_field' {t : Nat} {spare : Nat → Bool} (ht : P.underlying t = some (.struct (fsOf P t))) (i ft off n : Nat) (hf : (fsOf P t)[i]?.map (fun f => (f.type, f.offset)) = some (ft, off)) (hn : P.cellsOf ft = n) (h : DataW.trod enc P W 0 spare true fuel t cs = some x) :
    ∃ (fuel' : Nat) (y : DataW H × List MemPlace), fuel' < fuel ∧ DataW.trod enc P W 0 spare true fuel' ft ((cs.drop off).take n) = some y := by
  obtain ⟨xs, m, hm, _, _, hl, hall⟩ := DataW.trod_struct ht h
  cases hc : (fsOf P t)[i]? with
  | none => rw [hc] at hf; cases hf
  | some f =>
    rw [hc] at hf
    simp only [Option.map_some, Option.some.injEq, Prod.mk.injEq] at hf
    obtain ⟨rfl, rfl⟩ := hf
    have h1 := hall i f hc
    have hlt : i < xs.length := by rw [hl]; exact (Array.getElem?_eq_some_iff.1 hc).1
    rw [List.getElem?_eq_getElem hlt, hn] at h1
    exact ⟨m, _, by omega, h1⟩

theorem open_int {t : Nat} {spare : Nat → Bool} (ht : P.underlying t = some (.int .i64)) (h : DataW.trod enc P W 0 spare true fuel t cs = some x) : ∃ n : Int, cs = [.int .i64 n] ∧ -9223372036854775808 ≤ n ∧ n ≤ 9223372036854775807 := by
  obtain ⟨n, rfl, _, hw⟩ := DataW.trod_int ht h
  refine ⟨n, rfl, ?_⟩
  have e1 : IntKind.i64.min = -9223372036854775808 := by decide
  have e2 : IntKind.i64.max = 9223372036854775807 := by decide
  simp only [Lit.wf, Bool.and_eq_true, decide_eq_true_eq, e1, e2] at hw
  exact ⟨hw.1, hw.2⟩
theorem open_str {t : Nat} {spare : Nat → Bool} (ht : P.underlying t = some .string) (h : DataW.trod enc P W 0 spare true fuel t cs = some x) : ∃ s : ByteArray, cs = [.string s] ∧ s.size ≤ 9223372036854775807 := by
  obtain ⟨s, rfl, _, hm⟩ := DataW.trod_string ht h
  exact ⟨s, rfl, by have : maxLen = 9223372036854775807 := by decide
                    omega⟩
theorem open_bool {t : Nat} {spare : Nat → Bool} (ht : P.underlying t = some .bool) (h : DataW.trod enc P W 0 spare true fuel t cs = some x) : ∃ b : Bool, cs = [.bool b] := by
  obtain ⟨b, rfl, _⟩ := DataW.trod_bool ht h
  exact ⟨b, rfl⟩
end
end Go.Av

/- How a tree is opened that came with the call. -/
set_option linter.unusedVariables false
set_option linter.unusedSimpArgs false
namespace Go.Proofs.Ytkblkdnnncklgaa
open Go Go.Av Go.RowKit

theorem RT_up : ∀ (n : Nat) (rd : Addr → Option Value) (es : List Value) (x : Tr), RT n rd es x → RT (n + 1) rd es x
  | 0, _, _, _, h => h.elim
  | n + 1, rd, es, .mk d m t ns ks, h => by
    obtain ⟨u, w, h1, h2, h3, h4, h5⟩ := h
    exact ⟨u, w, h1, h2, h3, h4, h5.imp fun es x h => RT_up n rd es x h⟩
theorem RT_le {n m : Nat} (h : n ≤ m) {rd : Addr → Option Value} {es : List Value} {x : Tr} (hr : RT n rd es x) : RT m rd es x := by
  obtain ⟨k, rfl⟩ := Nat.exists_eq_add_of_le h
  clear h
  induction k with
  | zero => exact hr
  | succ k ih => exact RT_up _ _ _ _ ih

theorem cut5 {es : List Value} {a b c d e : Value} (hl : es.length = 5) (h0 : (es.drop 0).take 1 = [a]) (h1 : (es.drop 1).take 1 = [b]) (h2 : (es.drop 2).take 1 = [c]) (h3 : (es.drop 3).take 1 = [d]) (h4 : (es.drop 4).take 1 = [e]) : es = [a, b, c, d, e] := by
  match es, hl with
  | [p, q, r, s, t], _ =>
    simp at h0 h1 h2 h3 h4
    subst h0 h1 h2 h3 h4
    rfl

theorem open_tree {H : Type} {enc : TypeId × Value → H} {W : World} {spare : Nat → Bool} : ∀ (fuel : Nat) (es : List Value) (y : DataW H × List MemPlace), DataW.trod enc Try.prog W 0 spare true fuel t_laws_Tree es = some y → es.length = 5 → ∃ x, RT fuel (Av.get W σ0) es x := by
  intro fuel
  induction fuel using Nat.strongRecOn with
  | _ fuel ih =>
    intro es y h hl
    have hT : Try.prog.underlying t_laws_Tree = some (.struct (fsOf Try.prog t_laws_Tree)) := by kernel_rfl
    obtain ⟨f0, y0, l0, h0⟩ := open_field' hT 0 t_bool 0 1 (by kernel_rfl) (by kernel_rfl) h
    obtain ⟨f1, y1, l1, h1⟩ := open_field' hT 1 t_int 1 1 (by kernel_rfl) (by kernel_rfl) h
    obtain ⟨f2, y2, l2, h2⟩ := open_field' hT 2 t_string 2 1 (by kernel_rfl) (by kernel_rfl) h
    obtain ⟨f3, y3, l3, h3⟩ := open_field' hT 3 t_s_string 3 1 (by kernel_rfl) (by kernel_rfl) h
    obtain ⟨f4, y4, l4, h4⟩ := open_field' hT 4 t_s_laws_Tree 4 1 (by kernel_rfl) (by kernel_rfl) h
    obtain ⟨b, hb⟩ := open_bool (by kernel_rfl) h0
    obtain ⟨m, hm, hm2⟩ := open_int (by kernel_rfl) h1
    obtain ⟨t, ht, ht2⟩ := open_str (by kernel_rfl) h2
    obtain ⟨u, ns, hu, hus⟩ := open_rsl (t := t_s_string) (e := t_string) (by kernel_rfl) (by kernel_rfl) (open_rs (by kernel_rfl)) h3
    obtain ⟨w, ks, hw, hws⟩ := open_rsl' (R := RT (fuel - 1)) (t := t_s_laws_Tree) (e := t_laws_Tree) (n := 5) (by kernel_rfl) (by kernel_rfl) (fun m' es' y' hm' ht' hl' => by
      obtain ⟨x, hx⟩ := ih m' (by omega) es' y' ht' hl'
      exact ⟨x, RT_le (by omega) hx⟩) h4
    have e := cut5 hl hb hm ht hu hw
    refine ⟨.mk b m t ns ks, ?_⟩
    obtain ⟨n, rfl⟩ : ∃ n, fuel = n + 1 := ⟨fuel - 1, by omega⟩
    exact ⟨u, w, e, hm2, ht2, hus, hws⟩
end Go.Proofs.Ytkblkdnnncklgaa

/- Lists in rows of our own, written element by element: the focus on one element, and the loops that mark and that look at marks. -/
set_option linter.unusedVariables false
set_option linter.unusedSimpArgs false
namespace Go.Av
open Go Go.RowKit

/-- Every row but those of F stays as it is. -/
def KeepsBut (F : List Nat) (σ σ' : Vw) : Prop := ∀ b r, σ b = some r → b ∉ F → σ' b = some r
theorem KeepsBut.refl (F : List Nat) (σ : Vw) : KeepsBut F σ σ := fun _ _ h _ => h
theorem Keeps.but {F : List Nat} {σ σ' : Vw} (h : Keeps σ σ') : KeepsBut F σ σ' := fun b r hb _ => h b r hb
theorem KeepsBut.trans {F : List Nat} {σ σ' σ'' : Vw} (h : KeepsBut F σ σ') (h' : KeepsBut F σ' σ'') : KeepsBut F σ σ'' := fun b r hb hF => h' b r (h b r hb hF) hF
theorem KeepsBut.mono {F F' : List Nat} {σ σ' : Vw} (h : KeepsBut F σ σ') (hF : ∀ b, b ∈ F → b ∈ F') : KeepsBut F' σ σ' := fun b r hb h' => h b r hb fun hb' => h' (hF b hb')
/-- What is older than F stays. -/
theorem KeepsBut.old {F : List Nat} {σ0 σ σ' : Vw} (h : KeepsBut F σ σ') (h0 : Keeps σ0 σ) (hF : ∀ b, b ∈ F → σ0 b = none) : Keeps σ0 σ' := fun b r hb => h b r (h0 b r hb) fun hb' => by rw [hF b hb'] at hb; cases hb
theorem KeepsBut.at {F G : List Nat} {σ σ' : Vw} (h : KeepsBut F σ σ') (hG : ∀ b, b ∈ G → σ b ≠ none) (hd : ∀ b, b ∈ G → b ∉ F) : ∀ b, b ∈ G → σ' b = σ b := fun b hb => by
  cases hs : σ b with
  | none => exact absurd hs (hG b hb)
  | some r => exact h b r hs (hd b hb)
theorem KeepsBut.put {F : List Nat} {σ : Vw} {b : Nat} {r : Row} (hb : b ∈ F) : KeepsBut F σ (σ.put b r) := fun i x hi hF => by
  have : i ≠ b := fun e => hF (e ▸ hb)
  simp [Vw.put, this, hi]

section
variable {P : Program} {w0 : World} {σ σ' : Vw} {α : Type}

theorem nodup_at {l : List (List Nat)} {i j : Nat} {f g : List Nat} (h : l.flatten.Nodup) (hi : l[i]? = some f) (hj : l[j]? = some g) (hij : i ≠ j) : ∀ b, b ∈ f → b ∉ g := by
  induction l generalizing i j with
  | nil => simp at hi
  | cons a r ih =>
    rw [List.flatten_cons, List.nodup_append] at h
    intro b hb hb'
    cases i with
    | zero =>
      cases j with
      | zero => exact hij rfl
      | succ j =>
        simp at hi hj
        subst hi
        exact h.2.2 b hb b (List.mem_flatten.2 ⟨g, List.mem_of_getElem? hj, hb'⟩) rfl
    | succ i =>
      cases j with
      | zero =>
        simp at hi hj
        subst hj
        exact h.2.2 b hb' b (List.mem_flatten.2 ⟨f, List.mem_of_getElem? hi, hb⟩) rfl
      | succ j =>
        simp at hi hj
        exact ih h.2.1 hi hj (fun e => hij (by rw [e])) b hb hb'

theorem split_at {l : List (List Value)} {j : Nat} {c : List Value} (hj : l[j]? = some c) : l.flatten = (l.take j).flatten ++ (c ++ (l.drop (j + 1)).flatten) := by
  have hlt := (List.getElem?_eq_some_iff.1 hj).1
  have e : l = l.take j ++ (c :: l.drop (j + 1)) := by
    have := List.take_append_drop j l
    rw [List.drop_eq_getElem_cons hlt] at this
    have hc : l[j] = c := (List.getElem?_eq_some_iff.1 hj).2
    rw [hc] at this
    exact this.symm
  calc l.flatten = (l.take j ++ (c :: l.drop (j + 1))).flatten := by rw [← e]
    _ = _ := by rw [List.flatten_append, List.flatten_cons]

/-- One element of a list of our own, and how the list is put together again behind a change of it. -/
theorem OSl.focus {n : Nat} {Rel : (Addr → Option Value) → List Value → α → Prop} {O : Vw → List Nat → List Value → α → Prop} (ok : OOk w0 n Rel O) {F : List Nat} {v : Value} {xs : List α} (h : OSl w0 n O σ F v xs) {j : Nat} {x : α} (hj : xs[j]? = some x) :
    ∃ (b o : Nat) (f : List Nat) (c A C : List Value) (r : Row), (∀ K : Value → Prop, K (.pointer (some ⟨b, o, none⟩)) → pIndexAddr n v (.int .i64 j) K) ∧ w0.heap.size ≤ b ∧ σ b = some r ∧ r.cells = A ++ (c ++ C) ∧ A.length = o ∧ O σ f c x ∧ b ∈ F ∧ (∀ i, i ∈ f → i ∈ F ∧ i ≠ b) ∧
      ∀ (σ' : Vw) (c' : List Value) (x' : α) (r' : Row), σ' b = some r' → r'.cells = A ++ (c' ++ C) → O σ' f c' x' → (∀ i, i ∈ F → i ≠ b → i ∉ f → σ' i = σ i) → OSl w0 n O σ' F v (xs.set j x') := by
  obtain ⟨h1, h2, ⟨rfl, rfl, _⟩ | ⟨b, off, cap, r, pre, post, css, Fs, rfl, gc, g2, g3, g4, g5, g6, g7, g8, g9⟩⟩ := h
  · simp at hj
  have hlt : j < xs.length := (List.getElem?_eq_some_iff.1 hj).1
  have hcj := List.getElem?_eq_getElem (show j < css.length by omega)
  have hfj := List.getElem?_eq_getElem (show j < Fs.length by omega)
  generalize hce : css[j]'(by omega) = c at hcj
  generalize hfe : Fs[j]'(by omega) = f at hfj
  have hO := g9 j c x f hcj hj hfj
  have hn : ∀ c, c ∈ css → c.length = n := fun c hc => by
    obtain ⟨i, hi⟩ := List.getElem?_of_mem hc
    have hil : i < css.length := (List.getElem?_eq_some_iff.1 hi).1
    exact ok.len _ _ _ _ (g9 i c _ _ hi (List.getElem?_eq_getElem (by omega)) (List.getElem?_eq_getElem (by omega)))
  have hA : (pre ++ (css.take j).flatten).length = off + j * n := by
    rw [List.length_append, g5, flat_len _ fun c hc => hn c (List.mem_of_mem_take hc), List.length_take]
    congr 2; omega
  rw [g8] at h2
  have hbf : b ∉ f := fun hb => (List.nodup_cons.1 h2).1 (List.mem_flatten.2 ⟨f, List.mem_of_getElem? hfj, hb⟩)
  refine ⟨b, off + j * n, f, c, pre ++ (css.take j).flatten, (css.drop (j + 1)).flatten ++ post, r, fun K hK => ?_, g2, g3, ?_, hA, hO, by rw [g8]; exact List.mem_cons_self, fun i hi => ⟨?_, fun e => hbf (e ▸ hi)⟩, ?_⟩
  · refine ⟨⟨b, off, none⟩, xs.length, cap, .i64, j, rfl, rfl, by omega, by omega, ?_⟩
    rw [addr_add]; exact hK
  · rw [g4, split_at hcj]; simp only [List.append_assoc]
  · rw [g8]; exact List.mem_cons_of_mem _ (List.mem_flatten.2 ⟨f, List.mem_of_getElem? hfj, hi⟩)
  · intro σ' c' x' r' hr' hcells hO' hrest
    have hlen' := ok.len _ _ _ _ hO'
    refine ⟨by rw [List.length_set]; exact h1, by rw [g8]; exact h2, .inr ⟨b, off, cap, r', pre, post, css.set j c', Fs, by rw [List.length_set], by rw [List.length_set]; exact gc, g2, hr', ?_, g5, by rw [List.length_set, List.length_set]; exact g6, by rw [List.length_set]; exact g7, g8, ?_⟩⟩
    · have hcj' : (css.set j c')[j]? = some c' := List.getElem?_set_self (by omega)
      rw [hcells, split_at hcj', List.take_set_of_le (Nat.le_refl j), List.drop_set_of_lt (by omega)]
      simp only [List.append_assoc]
    · intro i ci y fi e1 e2 e3
      by_cases hij : j = i
      · subst hij
        rw [List.getElem?_set_self (by omega)] at e1 e2
        cases e1; cases e2
        rw [hfj] at e3; cases e3
        exact hO'
      · rw [List.getElem?_set_ne hij] at e1 e2
        refine ok.frame _ _ _ _ _ (g9 i ci y fi e1 e2 e3) fun k hk => ?_
        have hkF : k ∈ Fs.flatten := List.mem_flatten.2 ⟨fi, List.mem_of_getElem? e3, hk⟩
        exact hrest k (by rw [g8]; exact List.mem_cons_of_mem _ hkF) (fun e => (List.nodup_cons.1 h2).1 (e ▸ hkF)) (nodup_at (List.nodup_cons.1 h2).2 e3 hfj (fun e => hij e.symm) k hk)

/-- A field of an element is written. -/
theorem field_store {b o off : Nat} {r : Row} {A c C : List Value} {y : Value} {K : Vw → Prop} (hr : σ b = some r) (hc : r.cells = A ++ (c ++ C)) (hA : A.length = o) (hoff : off < c.length) (hy : y.oneCell' = true)
    (hK : K (σ.put b { r with cells := A ++ (c.set off y ++ C) })) : pField off (.pointer (some ⟨b, o, none⟩)) fun q => pVal false 1 y (pStore q [y] σ K) := by
  rw [pField_s, pVal1 hy, addr_add]
  refine ⟨b, o + off, r, rfl, hr, ?_, ?_⟩
  · rw [hc]; simp only [List.length_append, List.length_singleton]; omega
  · have e : setAt r.cells (o + off) [y] = A ++ (c.set off y ++ C) := by
      simp only [setAt]
      rw [hc, List.set_append_right _ _ (by omega), List.set_append_left _ _ (by omega), hA]
      congr 3; omega
    rw [e]; exact hK
theorem elem_store {b o : Nat} {r : Row} {A C : List Value} {x y : Value} {K : Vw → Prop} (hr : σ b = some r) (hc : r.cells = A ++ ([x] ++ C)) (hA : A.length = o) (hy : y.oneCell' = true)
    (hK : K (σ.put b { r with cells := A ++ ([y] ++ C) })) : pVal false 1 y (pStore (.pointer (some ⟨b, o, none⟩)) [y] σ K) := by
  rw [pVal1 hy]
  refine ⟨b, o, r, rfl, hr, ?_, ?_⟩
  · rw [hc]; simp only [List.length_append, List.length_singleton]; omega
  · have e : setAt r.cells o [y] = A ++ ([y] ++ C) := by
      simp only [setAt]
      rw [hc, List.set_append_right _ _ (by omega), hA, Nat.sub_self]; rfl
    rw [e]; exact hK
/-- A field of an element is read. -/
theorem field_load {b o off : Nat} {r : Row} {A c C : List Value} {y : Value} {K : (Nat → Value) → Prop} (hb : w0.heap.size ≤ b) (hr : σ b = some r) (hc : r.cells = A ++ (c ++ C)) (hA : A.length = o) (hoff : c[off]? = some y)
    (hK : ∀ g : Nat → Value, g 0 = y → K g) : pField off (.pointer (some ⟨b, o, none⟩)) fun q => pLoad w0 1 q σ K := by
  rw [pField_s, addr_add]
  refine ⟨_, fun _ => y, rfl, fun j hj => ?_, hK _ rfl⟩
  have : j = 0 := by omega
  subst this
  have hlt : off < c.length := (List.getElem?_eq_some_iff.1 hoff).1
  rw [addr_add, get_row hb hr, hc, List.getElem?_append_right (by omega), List.getElem?_append_left (by omega)]
  rw [show o + off + 0 - A.length = off by omega]; exact hoff

/-! ### Marks -/
def mkS (mk : Nat → α → α) (cnt : α → Nat) : Nat → List α → List α
  | _, [] => []
  | k, x :: r => mk k x :: mkS mk cnt (k + cnt x) r
theorem mkS_len {mk : Nat → α → α} {cnt : α → Nat} : ∀ {xs : List α} {k : Nat}, (mkS mk cnt k xs).length = xs.length
  | [], _ => rfl
  | x :: r, k => by simp [mkS, mkS_len (xs := r)]
theorem mkS_snoc {mk : Nat → α → α} {cnt : α → Nat} {x : α} : ∀ {xs : List α} {k : Nat}, mkS mk cnt k (xs ++ [x]) = mkS mk cnt k xs ++ [mk (k + sumBy cnt xs) x]
  | [], k => by simp [mkS, sumBy]
  | y :: r, k => by simp [mkS, sumBy, mkS_snoc (xs := r), Nat.add_assoc]
theorem mkS_get {mk : Nat → α → α} {cnt : α → Nat} : ∀ {xs : List α} {k j : Nat} {x : α}, xs[j]? = some x → (mkS mk cnt k xs)[j]? = some (mk (k + sumBy cnt (xs.take j)) x)
  | [], k, j, x, h => by simp at h
  | y :: r, k, 0, x, h => by simp at h; subst h; simp [mkS, sumBy]
  | y :: r, k, j + 1, x, h => by
    have := mkS_get (mk := mk) (cnt := cnt) (k := k + cnt y) (xs := r) (j := j) (by simpa using h)
    simp only [mkS, List.getElem?_cons_succ, this, List.take_succ_cons, sumBy, Nat.add_assoc]

/-- A loop that marks. -/
theorem mark_loop {T n : Nat} {Rel : (Addr → Option Value) → List Value → α → Prop} {O : Vw → List Nat → List Value → α → Prop} (ok : OOk w0 n Rel O) {mk : Nat → α → α} {cnt : α → Nat} {F : List Nat} {v : Value} {xs : List α} {k : Nat} {R : Value → Vw → Prop}
    {BODY : List Value → (AX → List Value → Vw → Prop) → Vw → Prop}
    (h : OSl w0 n O σ F v xs) (hk : k + sumBy cnt xs ≤ 1000000000000)
    (hB : ∀ (j : Nat) (x : α) (k' : Nat) (s : Vw) (ys : List α) (K : AX → List Value → Vw → Prop), j < ys.length → ys.length = xs.length → KeepsBut F σ s → x ∈ xs → k' + cnt x ≤ 1000000000000 → OSl w0 n O s F v ys → ys[j]? = some x →
      (∀ s', KeepsBut F s s' → OSl w0 n O s' F v (ys.set j (mk k' x)) → K .normal [v, .int .i64 ((k' + cnt x : Nat) : Int), .int .i64 ((j : Int) + 1)] s') → BODY [v, .int .i64 (k' : Nat), .int .i64 (j : Nat)] K s)
    (hR : ∀ s', KeepsBut F σ s' → OSl w0 n O s' F v (mkS mk cnt k xs) → R (.int .i64 ((k + sumBy cnt xs : Nat) : Int)) s') :
    pLoop (fun l K s => pLen (vget l 0) (fun v3 => pBin P T .lss (vget l 2) v3 (fun v4 => pIf v4 (BODY l K s) (K (.exit 0) [vget l 0, vget l 1, vget l 2] s)))) [v, .int .i64 (k : Nat), .int .i64 0] σ
      (fun x l s => match x with | .normal => R (vget l 1) s | .ret => False | .exit i => (match Nat.beq i 0 with | true => R (vget l 1) s | false => False)) := by
  have hl : xs.length ≤ 9223372036854775807 := h.1
  refine loop_rule (m := xs.length) (fun c l s => ∃ j, c + j = xs.length ∧ KeepsBut F σ s ∧ OSl w0 n O s F v (mkS mk cnt k (xs.take j) ++ xs.drop j) ∧ l = [v, .int .i64 ((k + sumBy cnt (xs.take j) : Nat) : Int), .int .i64 (j : Nat)]) ?_ ⟨0, by omega, KeepsBut.refl _ _, by simpa [mkS] using h, by simp [sumBy]⟩
  rintro c l s L ⟨j, hc, hkb, hO, rfl⟩ hL
  simp only [vget, List.getD_cons_zero, List.getD_cons_succ]
  have hlen : (mkS mk cnt k (xs.take j) ++ xs.drop j).length = xs.length := by simp [mkS_len]; omega
  have hrel := hO.rel ok
  rw [hrel.len, hlen, pBin_lt, pIf_d]
  refine ⟨fun hj => ?_, fun hj => ?_⟩
  · have hj' : j < xs.length := by omega
    have hx := List.getElem?_eq_getElem hj'
    have ht := sumBy_take (f := cnt) hx
    have hle := sumBy_le (f := cnt) (xs := xs) (j + 1)
    have htl : (mkS mk cnt k (xs.take j)).length = j := by rw [mkS_len, List.length_take]; omega
    refine hB j xs[j] (k + sumBy cnt (xs.take j)) s _ _ (by rw [hlen]; exact hj') hlen hkb (List.getElem_mem hj') (by omega) hO ?_ fun s' hk' hO' => ?_
    · rw [List.getElem?_append_right (by omega), htl, Nat.sub_self, List.getElem?_drop, Nat.add_zero, hx]
    · refine hL _ _ (c - 1) (by omega) ⟨j + 1, by omega, hkb.trans hk', ?_, ?_⟩
      · have e : (mkS mk cnt k (xs.take j) ++ xs.drop j).set j (mk (k + sumBy cnt (xs.take j)) xs[j]) = mkS mk cnt k (xs.take (j + 1)) ++ xs.drop (j + 1) := by
          rw [List.set_append_right _ _ (by omega), htl, Nat.sub_self, List.drop_eq_getElem_cons hj', List.set_cons_zero, List.take_add_one, hx, Option.toList_some, mkS_snoc]
          simp
        rw [e] at hO'; exact hO'
      · rw [ht]
        congr 2
        · congr 1; omega
  · have hj' : j = xs.length := by omega
    subst hj'
    rw [List.take_length] at hO ⊢
    rw [List.drop_length, List.append_nil] at hO
    exact hR s hkb hO

/-- A loop that looks at marks. -/
theorem held_loop {T n : Nat} {Rel : (Addr → Option Value) → List Value → α → Prop} (hmono : ∀ rd rd' es x, Le rd rd' → Rel rd es x → Rel rd' es x) {mk : Nat → α → α} {cnt : α → Nat} {v : Value} {xs : List α} {k : Nat} {R : Value → Vw → Prop}
    {BODY : List Value → (AX → List Value → Vw → Prop) → Vw → Prop}
    (h : RSl n Rel (Av.get w0 σ) v (mkS mk cnt k xs)) (hk : k + sumBy cnt xs ≤ 1000000000000)
    (hB : ∀ (j : Nat) (x : α) (k' : Nat) (s : Vw) (K : AX → List Value → Vw → Prop), j < xs.length → Keeps σ s → x ∈ xs → k' + cnt x ≤ 1000000000000 → RSl n Rel (Av.get w0 s) v (mkS mk cnt k xs) → (mkS mk cnt k xs)[j]? = some (mk k' x) →
      (∀ s', Keeps s s' → K .normal [v, .int .i64 ((k' + cnt x : Nat) : Int), .int .i64 0, .int .i64 ((j : Int) + 1)] s') → BODY [v, .int .i64 (k' : Nat), .int .i64 0, .int .i64 (j : Nat)] K s)
    (hR : ∀ s', Keeps σ s' → R (.int .i64 ((k + sumBy cnt xs : Nat) : Int)) s') :
    pLoop (fun l K s => pLen (vget l 0) (fun v3 => pBin P T .lss (vget l 3) v3 (fun v4 => pIf v4 (BODY l K s) (K (.exit 0) [vget l 0, vget l 1, vget l 2, vget l 3] s)))) [v, .int .i64 (k : Nat), .int .i64 0, .int .i64 0] σ
      (fun x l s => match x with | .normal => R (vget l 1) s | .ret => R (vget l 2) s | .exit i => (match Nat.beq i 0 with | true => R (vget l 1) s | false => False)) := by
  have hl : xs.length ≤ 9223372036854775807 := by have := h.le; rwa [mkS_len] at this
  refine loop_rule (m := xs.length) (fun c l s => ∃ j, c + j = xs.length ∧ Keeps σ s ∧ l = [v, .int .i64 ((k + sumBy cnt (xs.take j) : Nat) : Int), .int .i64 0, .int .i64 (j : Nat)]) ?_ ⟨0, by omega, Keeps.refl _, by simp [sumBy]⟩
  rintro c l s L ⟨j, hc, hkb, rfl⟩ hL
  simp only [vget, List.getD_cons_zero, List.getD_cons_succ]
  have h' := h.mono hkb.le fun es x => hmono _ _ es x hkb.le
  rw [h'.len, mkS_len, pBin_lt, pIf_d]
  refine ⟨fun hj => ?_, fun hj => ?_⟩
  · have hj' : j < xs.length := by omega
    have hx := List.getElem?_eq_getElem hj'
    have ht := sumBy_take (f := cnt) hx
    have hle := sumBy_le (f := cnt) (xs := xs) (j + 1)
    refine hB j xs[j] (k + sumBy cnt (xs.take j)) s _ hj' hkb (List.getElem_mem hj') (by omega) h' (mkS_get hx) fun s' hk' => ?_
    refine hL _ _ (c - 1) (by omega) ⟨j + 1, by omega, hkb.trans hk', ?_⟩
    rw [ht]
    congr 2
    · congr 1; omega
  · have hj' : j = xs.length := by omega
    subst hj'
    rw [List.take_length]
    exact hR s hkb
end
end Go.Av

/- The plain side, part 5: more operations at known values. -/
set_option linter.unusedVariables false
set_option linter.unusedSimpArgs false
namespace Go.Av
open Go Go.RowKit IntWalk

section
variable {P : Program} {w0 : World} {σ σ' : Vw}
theorem pConv_s {k k' : IntKind} {n : Int} {K : Value → Prop} : pConvInt k (.int k' n) K ↔ K (.int k (k.wrap n)) :=
  ⟨fun ⟨_, _, h, hK⟩ => by cases h; exact hK, fun h => ⟨_, _, rfl, h⟩⟩
theorem pConv_u8 {k' : IntKind} {n : Int} {K : Value → Prop} (h : 0 ≤ n ∧ n ≤ 255) : pConvInt .u8 (.int k' n) K ↔ K (.int .u8 n) := by rw [pConv_s, u8_in n h]
theorem pConv_i64 {k' : IntKind} {n : Int} {K : Value → Prop} (h : -9223372036854775808 ≤ n ∧ n ≤ 9223372036854775807) : pConvInt .i64 (.int k' n) K ↔ K (.int .i64 n) := by rw [pConv_s, i64_in n h]
theorem pConv_u64 {k' : IntKind} {n : Int} {K : Value → Prop} (h : 0 ≤ n ∧ n ≤ 18446744073709551615) : pConvInt .u64 (.int k' n) K ↔ K (.int .u64 n) := by rw [pConv_s, u64_in n h]
theorem pBin_rem {T : Nat} {k : IntKind} {a b : Int} {K : Value → Prop} (h : 0 ≤ a ∧ 0 < b) : pBin P T .rem (.int k a) (.int k b) K ↔ K (.int k (a % b)) :=
  pBin_i (by simp only [aint]; rw [if_neg (by omega), Int.tmod_eq_emod_of_nonneg h.1])
theorem pBin_quo {T : Nat} {a b : Int} {K : Value → Prop} (h : 0 ≤ a ∧ a ≤ 9223372036854775807 ∧ 0 < b) : pBin P T .quo (.int .i64 a) (.int .i64 b) K ↔ K (.int .i64 (a / b)) :=
  pBin_i (by simp only [aint]; rw [if_neg (by omega), i64_quo a b (by omega)])
theorem pBin_cat {T : Nat} {a b : ByteArray} {K : Value → Prop} (h : a.size + b.size ≤ 9223372036854775807) : pBin P T .add (.string a) (.string b) K ↔ K (.string (a ++ b)) :=
  pBin_s (by
    have e : IntKind.i64.max = 9223372036854775807 := by decide
    simp only [astr, e]
    rw [if_neg (by omega)])
theorem pMin_s {k : IntKind} {a b : Int} {K : Value → Prop} : pMin (.int k a) (.int k b) K ↔ K (.int k (min a b)) := by
  have e : (if b < a then b else a) = min a b := by split <;> omega
  exact ⟨fun ⟨_, _, _, h1, h2, hK⟩ => by cases h1; cases h2; rw [e] at hK; exact hK, fun hK => ⟨_, _, _, rfl, rfl, by rw [e]; exact hK⟩⟩
theorem pMax_s {k : IntKind} {a b : Int} {K : Value → Prop} : pMax (.int k a) (.int k b) K ↔ K (.int k (max a b)) := by
  have e : (if b > a then b else a) = max a b := by split <;> omega
  exact ⟨fun ⟨_, _, _, h1, h2, hK⟩ => by cases h1; cases h2; rw [e] at hK; exact hK, fun hK => ⟨_, _, _, rfl, rfl, by rw [e]; exact hK⟩⟩
theorem pExtract_s {vs : List Value} {i : Nat} {v : Value} {K : Value → Prop} (h : vs[i]? = some v) : pExtract (.tuple ⟨vs⟩) i K ↔ K v := by
  obtain ⟨hl, he⟩ := List.getElem?_eq_some_iff.1 h
  exact ⟨fun ⟨_, e, hl', hK⟩ => by cases e; rw [he] at hK; exact hK, fun hK => ⟨_, rfl, hl, by rw [he]; exact hK⟩⟩
theorem pIndexStr_s {s : ByteArray} {j : Nat} {K : Value → Prop} (h : j < s.size) (hK : K (.int .u8 ((s[j]'h).toNat : Int))) : pIndexStr (.string s) (.int .i64 j) K :=
  ⟨s, .i64, j, rfl, rfl, by omega, h, hK⟩
theorem pSliceStr_s {s : ByteArray} {lo hi : Option Value} {l h : Int} {K : Value → Prop} (hl : boundOf 0 lo = some l) (hh : boundOf s.size hi = some h) (h0 : 0 ≤ l ∧ l ≤ h ∧ h ≤ s.size) (hK : K (.string (s.extract l.toNat h.toNat))) : pSliceStr (.string s) lo hi K :=
  ⟨s, l, h, rfl, hl, hh, h0.1, h0.2.1, h0.2.2, hK⟩
theorem pLoad_row {b o n : Nat} {r : Row} {A c C : List Value} {K : (Nat → Value) → Prop} (hb : w0.heap.size ≤ b) (hr : σ b = some r) (hc : r.cells = A ++ (c ++ C)) (hA : A.length = o) (hn : c.length = n)
    (hK : ∀ g : Nat → Value, expl g 0 n = c → K g) : pLoad w0 n (.pointer (some ⟨b, o, none⟩)) σ K := by
  refine ⟨_, fun i => c.getD i undef, rfl, fun j hj => ?_, hK _ ?_⟩
  · rw [addr_add, get_row hb hr, hc, List.getElem?_append_right (by omega), List.getElem?_append_left (by omega)]
    rw [show o + j - A.length = j by omega]
    simp only [List.getD_eq_getElem?_getD, List.getElem?_eq_getElem (show j < c.length by omega), Option.getD_some]
  · apply List.ext_getElem?
    intro i
    by_cases hi : i < n
    · rw [expl_get _ _ _ _ hi, Nat.zero_add, List.getD_eq_getElem?_getD, List.getElem?_eq_getElem (by omega)]; rfl
    · rw [List.getElem?_eq_none (by rw [length_expl]; omega), List.getElem?_eq_none (by omega)]
end
end Go.Av

/- Lists that grow by append, in a row of our own; elements that need no row; elements that are read in what is older. -/
set_option linter.unusedVariables false
set_option linter.unusedSimpArgs false
namespace Go.Av
open Go Go.RowKit

section
variable {P : Program} {w0 : World} {σ σ' : Vw} {α : Type}

/-! ### Elements that are read by a reader that is fixed -/
def RB (Rel : (Addr → Option Value) → List Value → α → Prop) (rd0 : Addr → Option Value) (rd : Addr → Option Value) (es : List Value) (x : α) : Prop := Rel rd0 es x
def OB (Rel : (Addr → Option Value) → List Value → α → Prop) (rd0 : Addr → Option Value) (σ : Vw) (F : List Nat) (es : List Value) (x : α) : Prop := F = [] ∧ Rel rd0 es x
/-- What a rule of reading must keep. -/
structure ROk (n : Nat) (Rel : (Addr → Option Value) → List Value → α → Prop) : Prop where
  mono : ∀ rd rd' es x, Le rd rd' → Rel rd es x → Rel rd' es x
  len : ∀ rd es x, Rel rd es x → es.length = n
  one : ∀ rd es x, Rel rd es x → ∀ c, c ∈ es → c.oneCell' = true
theorem ok_base {n : Nat} {Rel : (Addr → Option Value) → List Value → α → Prop} (ok : ROk n Rel) (w0 : World) (rd0 : Addr → Option Value) : OOk w0 n (RB Rel rd0) (OB Rel rd0) := by
  refine ⟨?_, ?_, ?_, ?_, ?_, ?_⟩
  · rintro σ F es x ⟨_, h⟩; exact h
  · rintro σ σ' F es x h _; exact h
  · rintro σ F es x ⟨rfl, _⟩ b hb; cases hb
  · rintro σ F es x ⟨rfl, _⟩; exact List.nodup_nil
  · rintro σ F es x ⟨_, h⟩; exact ok.len _ _ _ h
  · rintro σ F es x ⟨_, h⟩; exact ok.one _ _ _ h
theorem RSl.unbase {n : Nat} {Rel : (Addr → Option Value) → List Value → α → Prop} (ok : ROk n Rel) {rd0 rd : Addr → Option Value} {v : Value} {xs : List α} (h : RSl n (RB Rel rd0) rd v xs) (hle : Le rd0 rd) : RSl n Rel rd v xs :=
  h.imp fun es x hx => ok.mono _ _ _ _ hle hx

/-! ### Elements that need no row -/
def RFl (enc : α → List Value) (good : α → Prop) (rd : Addr → Option Value) (es : List Value) (x : α) : Prop := es = enc x ∧ good x
def OFl (enc : α → List Value) (good : α → Prop) (σ : Vw) (F : List Nat) (es : List Value) (x : α) : Prop := F = [] ∧ es = enc x ∧ good x
theorem rok_fl {n : Nat} {enc : α → List Value} {good : α → Prop} (hl : ∀ x, (enc x).length = n) (ho : ∀ x c, c ∈ enc x → c.oneCell' = true) : ROk n (RFl enc good) :=
  ⟨fun _ _ _ _ _ h => h, fun _ _ x h => by rw [h.1]; exact hl x, fun _ _ x h => by rw [h.1]; exact ho x⟩
theorem ok_fl {n : Nat} {enc : α → List Value} {good : α → Prop} (hl : ∀ x, (enc x).length = n) (ho : ∀ x c, c ∈ enc x → c.oneCell' = true) (w0 : World) : OOk w0 n (RFl enc good) (OFl enc good) := by
  refine ⟨?_, ?_, ?_, ?_, ?_, ?_⟩
  · rintro σ F es x ⟨_, h⟩; exact h
  · rintro σ σ' F es x h _; exact h
  · rintro σ F es x ⟨rfl, _⟩ b hb; cases hb
  · rintro σ F es x ⟨rfl, _⟩; exact List.nodup_nil
  · rintro σ F es x ⟨_, h, _⟩; rw [h]; exact hl x
  · rintro σ F es x ⟨_, h, _⟩; rw [h]; exact ho x

/-! ### Growing lists -/
def OAcc (w0 : World) (ety n : Nat) (O : Vw → List Nat → List Value → α → Prop) (σ : Vw) (F : List Nat) (v : Value) (xs : List α) : Prop :=
  xs.length ≤ 9223372036854775807 ∧ F.Nodup ∧ ((v = .slice none 0 0 ∧ xs = [] ∧ F = []) ∨
  ∃ (b cap : Nat) (css : List (List Value)) (Fs : List (List Nat)), v = .slice (some ⟨b, 0, none⟩) xs.length cap ∧ (xs.length ≤ cap ∧ cap ≤ 9223372036854775807) ∧ w0.heap.size ≤ b ∧ σ b = some ⟨ety, css.flatten, cap * n, (0, 0)⟩ ∧
    css.length = xs.length ∧ Fs.length = xs.length ∧ F = b :: Fs.flatten ∧ ∀ (j : Nat) (c : List Value) (x : α) (f : List Nat), css[j]? = some c → xs[j]? = some x → Fs[j]? = some f → O σ f c x)

theorem OAcc.osl {ety n : Nat} {O : Vw → List Nat → List Value → α → Prop} {F : List Nat} {v : Value} {xs : List α} (h : OAcc w0 ety n O σ F v xs) : OSl w0 n O σ F v xs := by
  obtain ⟨h1, h2, h3 | ⟨b, cap, css, Fs, g1, g2, g3, g4, g5, g6, g7, g8⟩⟩ := h
  · exact ⟨h1, h2, .inl h3⟩
  · exact ⟨h1, h2, .inr ⟨b, 0, cap, _, [], [], css, Fs, g1, g2, g3, g4, by simp, rfl, g5, g6, g7, g8⟩⟩
theorem OAcc.frame {ety n : Nat} {Rel : (Addr → Option Value) → List Value → α → Prop} {O : Vw → List Nat → List Value → α → Prop} (ok : OOk w0 n Rel O) {F : List Nat} {v : Value} {xs : List α} (h : OAcc w0 ety n O σ F v xs) (hF : ∀ b, b ∈ F → σ' b = σ b) : OAcc w0 ety n O σ' F v xs := by
  obtain ⟨h1, h2, h3 | ⟨b, cap, css, Fs, g1, g2, g3, g4, g5, g6, g7, g8⟩⟩ := h
  · exact ⟨h1, h2, .inl h3⟩
  · refine ⟨h1, h2, .inr ⟨b, cap, css, Fs, g1, g2, g3, by rw [hF b (by rw [g7]; exact List.mem_cons_self)]; exact g4, g5, g6, g7, fun j c x f e1 e2 e3 => ?_⟩⟩
    refine ok.frame _ _ _ _ _ (g8 j c x f e1 e2 e3) fun i hi => hF i ?_
    rw [g7]
    exact List.mem_cons_of_mem _ (List.mem_flatten.2 ⟨f, List.mem_of_getElem? e3, hi⟩)
theorem OAcc.dom {ety n : Nat} {Rel : (Addr → Option Value) → List Value → α → Prop} {O : Vw → List Nat → List Value → α → Prop} (ok : OOk w0 n Rel O) {F : List Nat} {v : Value} {xs : List α} (h : OAcc w0 ety n O σ F v xs) : ∀ b, b ∈ F → w0.heap.size ≤ b ∧ σ b ≠ none := h.osl.dom ok
theorem OAcc.nil {ety n : Nat} {O : Vw → List Nat → List Value → α → Prop} : OAcc w0 ety n O σ [] (.slice none 0 0) [] := ⟨by simp, by simp, .inl ⟨rfl, rfl, rfl⟩⟩
theorem OAcc.new {ety n b : Nat} {O : Vw → List Nat → List Value → α → Prop} (hb : w0.heap.size ≤ b) : OAcc w0 ety n O (σ.put b ⟨ety, [], 0, (0, 0)⟩) [b] (.slice (some ⟨b, 0, none⟩) 0 0) [] :=
  ⟨by simp, by simp, .inr ⟨b, 0, [], [], rfl, by simp, hb, by rw [put_at]; simp, rfl, rfl, rfl, fun j c x f h => by simp at h⟩⟩

theorem Keeps.but_at {F : List Nat} (h : Keeps σ σ') (hF : ∀ b, b ∈ F → σ b ≠ none) : ∀ b, b ∈ F → σ' b = σ b := fun b hb => by
  cases hs : σ b with
  | none => exact absurd hs (hF b hb)
  | some r => exact h b r hs

/-- Elements are appended, each with rows of its own. -/
theorem OAcc.pushX {ety n bytes m : Nat} {Rel : (Addr → Option Value) → List Value → α → Prop} {O : Vw → List Nat → List Value → α → Prop} (ok : OOk w0 n Rel O) {F : List Nat} {v : Value} {xs ys : List α} {nss : List (List Value)} {Gs : List (List Nat)} {new : List Value}
    (h : OAcc w0 ety n O σ F v xs) (hm : ys.length = m) (hnl : nss.length = m) (hGl : Gs.length = m) (hnew : new = nss.flatten) (hO : ∀ (j : Nat) (c : List Value) (y : α) (g : List Nat), nss[j]? = some c → ys[j]? = some y → Gs[j]? = some g → O σ g c y)
    (hG : Gs.flatten.Nodup) (hGF : ∀ i, i ∈ Gs.flatten → i ∉ F) (hlen : xs.length + m ≤ 1000000000000) (hbytes : bytes ≤ 140) {K : Value → Vw → Prop}
    (hK : ∀ v' F' σ', Ext σ σ' → KeepsBut F σ σ' → OAcc w0 ety n O σ' F' v' (xs ++ ys) → (∀ i, i ∈ F' → i ∈ F ∨ i ∈ Gs.flatten ∨ σ i = none) → K v' σ') : pAppend w0 ety n bytes v m new σ K := by
  have hb47 : (xs.length + m) * bytes ≤ 2 ^ 47 := by
    have h1 : (xs.length + m) * bytes ≤ 1000000000000 * 140 := Nat.mul_le_mul hlen hbytes
    have h2 : (2 : Nat) ^ 47 = 140737488355328 := by decide
    omega
  have hn2 : ∀ c, c ∈ nss → c.length = n := fun c hc => by
    obtain ⟨i, hi⟩ := List.getElem?_of_mem hc
    have hil : i < nss.length := (List.getElem?_eq_some_iff.1 hi).1
    exact ok.len _ _ _ _ (hO i c _ _ hi (List.getElem?_eq_getElem (by omega)) (List.getElem?_eq_getElem (by omega)))
  have hnewl : new.length = m * n := by rw [hnew, flat_len _ hn2, hnl]
  have hGdom : ∀ i, i ∈ Gs.flatten → σ i ≠ none := fun i hi => by
    obtain ⟨j, f, e1, e2⟩ := mem_flat hi
    have hj : j < Gs.length := (List.getElem?_eq_some_iff.1 e1).1
    exact (ok.dom _ _ _ _ (hO j _ _ f (List.getElem?_eq_getElem (by omega)) (List.getElem?_eq_getElem (by omega)) e1) i e2).2
  obtain ⟨h1, h2, ⟨rfl, rfl, rfl⟩ | ⟨b, cap, css, Fs, rfl, g2, g3, g4, g5, g6, g7, g8⟩⟩ := h
  · refine .inr ⟨0, [], ⟨by simp, .inl ⟨rfl, rfl⟩⟩, hnewl, by simpa using (by omega : m ≤ 9223372036854775807), by simpa using hb47, fun v' σ' hg => ?_⟩
    rcases hg with ⟨rfl, rfl, _, h0, _⟩ | ⟨b', c', rfl, g1, g2, rfl, g3, g4⟩
    · have : m = 0 := by omega
      subst this
      have hy : ys = [] := List.length_eq_zero_iff.1 hm
      subst hy
      exact hK _ [] _ (Ext.refl _) (KeepsBut.refl _ _) (by simpa using OAcc.nil) (fun i hi => by cases hi)
    · have hb' : σ b' = none := by
        rcases g4 with h | ⟨n0, c0, h⟩
        · exact h
        · cases h
      have hbG : b' ∉ Gs.flatten := fun hi => hGdom b' hi hb'
      refine hK _ (b' :: Gs.flatten) _ (Keeps.put hb').ext (Keeps.put hb').but ?_ fun i hi => ?_
      · refine ⟨by simp; omega, List.nodup_cons.2 ⟨hbG, hG⟩, .inr ⟨b', c', nss, Gs, by simp [hm], by simp [hm]; omega, g3, by rw [put_at]; simp [hnew], by simp [hm, hnl], by simp [hm, hGl], rfl, fun j c x f e1 e2 e3 => ?_⟩⟩
        simp only [List.nil_append] at e2
        refine ok.frame _ _ _ _ _ (hO j c x f e1 e2 e3) fun i hi => ?_
        have : i ≠ b' := fun e => hbG (e ▸ List.mem_flatten.2 ⟨f, List.mem_of_getElem? e3, hi⟩)
        simp [Vw.put, this]
      · rcases List.mem_cons.1 hi with e | e
        · rw [e]; exact .inr (.inr hb')
        · exact .inr (.inl e)
  · have hn1 : ∀ c, c ∈ css → c.length = n := fun c hc => by
      obtain ⟨i, hi⟩ := List.getElem?_of_mem hc
      have hil : i < css.length := (List.getElem?_eq_some_iff.1 hi).1
      exact ok.len _ _ _ _ (g8 i c _ _ hi (List.getElem?_eq_getElem (by omega)) (List.getElem?_eq_getElem (by omega)))
    have g4' := g4
    rw [g7] at h2
    have hbFs : b ∉ Fs.flatten := (List.nodup_cons.1 h2).1
    have hbG : b ∉ Gs.flatten := fun hi => hGF b hi (by rw [g7]; exact List.mem_cons_self)
    have hFsdom : ∀ i, i ∈ Fs.flatten → σ i ≠ none := fun i hi => by
      obtain ⟨j, f, e1, e2⟩ := mem_flat hi
      have hj : j < Fs.length := (List.getElem?_eq_some_iff.1 e1).1
      exact (ok.dom _ _ _ _ (g8 j _ _ f (List.getElem?_eq_getElem (by omega)) (List.getElem?_eq_getElem (by omega)) e1) i e2).2
    refine .inr ⟨xs.length, css.flatten, ⟨by rw [flat_len _ hn1, g5], .inr ⟨b, cap, rfl, g4, g2.1, g2.2⟩⟩, hnewl, by omega, hb47, fun v' σ' hg => ?_⟩
    rcases hg with ⟨rfl, rfl, h, _⟩ | ⟨b', c', rfl, k1, k2, rfl, k3, k4⟩
    · cases h
    · have hb' : b' ∉ Fs.flatten ∧ b' ∉ Gs.flatten ∧ (b' = b ∨ σ b' = none) := by
        rcases k4 with h | ⟨n0, c0, h⟩
        · exact ⟨fun hi => hFsdom b' hi h, fun hi => hGdom b' hi h, .inr h⟩
        · cases h; exact ⟨hbFs, hbG, .inl rfl⟩
      refine hK _ (b' :: (Fs ++ Gs).flatten) _ ?_ ?_ ?_ fun i hi => ?_
      · rcases hb'.2.2 with rfl | h
        · intro i r hi
          by_cases e : i = b'
          · subst e
            rw [g4'] at hi; cases hi
            exact ⟨_, put_at, List.prefix_append _ _⟩
          · exact ⟨r, by simp [Vw.put, e, hi], List.prefix_refl _⟩
        · exact (Keeps.put h).ext
      · rcases hb'.2.2 with rfl | h
        · exact KeepsBut.put (by rw [g7]; exact List.mem_cons_self)
        · exact (Keeps.put h).but
      · refine ⟨by simp; omega, ?_, .inr ⟨b', c', css ++ nss, Fs ++ Gs, by simp [hm], by simp [hm]; omega, k3, by rw [put_at, hnew]; simp, by simp [hm, hnl, g5], by simp [hm, hGl, g6], rfl, fun j c x f e1 e2 e3 => ?_⟩⟩
        · rw [List.flatten_append, List.nodup_cons]
          refine ⟨fun hi => ?_, List.nodup_append.2 ⟨(List.nodup_cons.1 h2).2, hG, fun a ha d hd e => hGF d hd (by rw [g7, ← e]; exact List.mem_cons_of_mem _ ha)⟩⟩
          rcases List.mem_append.1 hi with h | h
          · exact hb'.1 h
          · exact hb'.2.1 h
        · have hput : ∀ i, i ≠ b' → (σ.put b' ⟨ety, css.flatten ++ new, c' * n, (0, 0)⟩) i = σ i := fun i hi => by simp [Vw.put, hi]
          by_cases hj : j < xs.length
          · rw [List.getElem?_append_left (by omega)] at e1 e2 e3
            exact ok.frame _ _ _ _ _ (g8 j c x f e1 e2 e3) fun i hi => hput i fun e => hb'.1 (e ▸ List.mem_flatten.2 ⟨f, List.mem_of_getElem? e3, hi⟩)
          · rw [List.getElem?_append_right (by omega)] at e1 e2 e3
            rw [g5] at e1; rw [g6] at e3
            exact ok.frame _ _ _ _ _ (hO _ c x f e1 e2 e3) fun i hi => hput i fun e => hb'.2.1 (e ▸ List.mem_flatten.2 ⟨f, List.mem_of_getElem? e3, hi⟩)
      · rw [g7]
        rcases List.mem_cons.1 hi with e | e
        · rw [e]
          rcases hb'.2.2 with rfl | h
          · exact .inl List.mem_cons_self
          · exact .inr (.inr h)
        · rw [List.flatten_append] at e
          rcases List.mem_append.1 e with h | h
          · exact .inl (List.mem_cons_of_mem _ h)
          · exact .inr (.inl h)

/-- One element is appended. -/
theorem OAcc.oneX {ety n bytes : Nat} {Rel : (Addr → Option Value) → List Value → α → Prop} {O : Vw → List Nat → List Value → α → Prop} (ok : OOk w0 n Rel O) {F f : List Nat} {v : Value} {xs : List α} {y : α} {es : List Value}
    (h : OAcc w0 ety n O σ F v xs) (hy : O σ f es y) (hf : ∀ i, i ∈ f → i ∉ F) (hlen : xs.length + 1 ≤ 1000000000000) (hbytes : bytes ≤ 140) {K : Value → Vw → Prop}
    (hK : ∀ v' F' σ', Ext σ σ' → KeepsBut F σ σ' → OAcc w0 ety n O σ' F' v' (xs ++ [y]) → (∀ i, i ∈ F' → i ∈ F ∨ i ∈ f ∨ σ i = none) → K v' σ') : allOne es ∧ pAppend w0 ety n bytes v 1 es σ K := by
  refine ⟨ok.one _ _ _ _ hy, ?_⟩
  refine h.pushX ok (ys := [y]) (nss := [es]) (Gs := [f]) rfl rfl rfl (by simp) (fun j c z g e1 e2 e3 => ?_) (by simpa using ok.nodup _ _ _ _ hy) (by simpa using hf) hlen hbytes (by simpa using hK)
  cases j with
  | zero => simp at e1 e2 e3; subst e1 e2 e3; exact hy
  | succ j => simp at e1

/-- All elements of a list that is read are appended; they need no rows of their own. -/
theorem OAcc.allX {ety n bytes : Nat} {Rel Rel0 : (Addr → Option Value) → List Value → α → Prop} {O : Vw → List Nat → List Value → α → Prop} (ok : OOk w0 n Rel O) {rd0 : Addr → Option Value} {F : List Nat} {v s : Value} {xs ys : List α}
    (h : OAcc w0 ety n O σ F v xs) (hs : RSl n Rel0 rd0 s ys) (hle : Le rd0 (Av.get w0 σ)) (hO : ∀ es y, Rel0 rd0 es y → O σ [] es y) (hlen : xs.length + ys.length ≤ 1000000000000) (hbytes : bytes ≤ 140) {K : Value → Vw → Prop}
    (hK : ∀ v' F' σ', Ext σ σ' → KeepsBut F σ σ' → OAcc w0 ety n O σ' F' v' (xs ++ ys) → (∀ i, i ∈ F' → i ∈ F ∨ σ i = none) → K v' σ') : pAppendS w0 ety n bytes v s σ K := by
  obtain ⟨A, cap, rfl, hc, hel⟩ := hs
  obtain ⟨css, hcl, hcs⟩ := listOf (fun i (c : List Value) => ∃ a y, A = some a ∧ ys[i]? = some y ∧ c.length = n ∧ (∀ k, k < n → rd0 (a.add (i * n + k)) = c[k]?) ∧ Rel0 rd0 c y) ys.length (fun i hi => by
    obtain ⟨a, es, h1, h2, h3, h4⟩ := hel i _ (List.getElem?_eq_getElem hi)
    exact ⟨es, a, _, h1, List.getElem?_eq_getElem hi, h2, h3, h4⟩)
  have hn : ∀ c, c ∈ css → c.length = n := fun c hc => by
    obtain ⟨i, hi⟩ := List.getElem?_of_mem hc
    obtain ⟨_, _, _, _, h, _⟩ := hcs i c hi
    exact h
  refine ⟨A, ys.length, cap, css.flatten, rfl, by rw [flat_len _ hn, hcl], ?_, ?_, ?_⟩
  · intro c hc
    obtain ⟨es, he, hce⟩ := List.mem_flatten.1 hc
    obtain ⟨i, hi⟩ := List.getElem?_of_mem he
    obtain ⟨a, y, _, _, _, _, hR⟩ := hcs i es hi
    exact ok.one _ _ _ _ (hO _ _ hR) c hce
  · intro j hj
    rw [flat_len _ hn, hcl] at hj
    have hn0 : 0 < n := by
      rcases Nat.eq_zero_or_pos n with e | e
      · subst e; omega
      · exact e
    have hq : j / n < css.length := by rw [hcl]; exact (Nat.div_lt_iff_lt_mul hn0).2 hj
    obtain ⟨a, y, hA, hy, hl, hk, hR⟩ := hcs (j / n) _ (List.getElem?_eq_getElem hq)
    have hr : j % n < n := Nat.mod_lt _ hn0
    have hdm : j / n * n + j % n = j := by rw [Nat.mul_comm]; exact Nat.div_add_mod j n
    refine ⟨a, hA, ?_⟩
    have e1 := flat_get css hn (j / n) _ (List.getElem?_eq_getElem hq) (j % n) hr
    rw [hdm] at e1
    have e2 := hk (j % n) hr
    rw [hdm, ← e1] at e2
    have hj' : j < css.flatten.length := by rw [flat_len _ hn, hcl]; exact hj
    rw [List.getElem?_eq_getElem hj'] at e2
    exact hle _ _ e2
  · refine h.pushX ok (ys := ys) (nss := css) (Gs := List.replicate ys.length []) rfl hcl (by simp) rfl (fun j c y g e1 e2 e3 => ?_) (by simp) (by simp) hlen hbytes (by simpa using hK)
    obtain ⟨a, y', _, hy, _, _, hR⟩ := hcs j c e1
    rw [e2] at hy; cases hy
    rw [List.getElem?_replicate] at e3
    split at e3
    · cases e3; exact hO _ _ hR
    · cases e3

/-- All elements of a list of our own are appended, with their rows. -/
theorem OAcc.allOwnX {ety n bytes : Nat} {Rel : (Addr → Option Value) → List Value → α → Prop} {O : Vw → List Nat → List Value → α → Prop} (ok : OOk w0 n Rel O) {F G : List Nat} {v s : Value} {xs ys : List α}
    (h : OAcc w0 ety n O σ F v xs) (hs : OSl w0 n O σ G s ys) (hGF : ∀ i, i ∈ G → i ∉ F) (hlen : xs.length + ys.length ≤ 1000000000000) (hbytes : bytes ≤ 140) {K : Value → Vw → Prop}
    (hK : ∀ v' F' σ', Ext σ σ' → KeepsBut F σ σ' → OAcc w0 ety n O σ' F' v' (xs ++ ys) → (∀ i, i ∈ F' → i ∈ F ∨ i ∈ G ∨ σ i = none) → K v' σ') : pAppendS w0 ety n bytes v s σ K := by
  obtain ⟨s1, s2, ⟨rfl, rfl, rfl⟩ | ⟨b, off, cap, r, pre, post, css, Gs, rfl, gc, g2, g3, g4, g5, g6, g7, g8, g9⟩⟩ := hs
  · refine ⟨none, 0, 0, [], rfl, by simp, by simp, fun j hj => by simp at hj, ?_⟩
    exact h.pushX ok (ys := []) (nss := []) (Gs := []) rfl rfl rfl rfl (fun j c y g e1 => by simp at e1) (by simp) (by simp) (by simpa using hlen) hbytes (by simpa using hK)
  · have hn : ∀ c, c ∈ css → c.length = n := fun c hc => by
      obtain ⟨i, hi⟩ := List.getElem?_of_mem hc
      have hil : i < css.length := (List.getElem?_eq_some_iff.1 hi).1
      exact ok.len _ _ _ _ (g9 i c _ _ hi (List.getElem?_eq_getElem (by omega)) (List.getElem?_eq_getElem (by omega)))
    rw [g8] at s2
    refine ⟨_, ys.length, cap, css.flatten, rfl, by rw [flat_len _ hn, g6], ?_, ?_, ?_⟩
    · intro c hc
      obtain ⟨es, he, hce⟩ := List.mem_flatten.1 hc
      obtain ⟨i, hi⟩ := List.getElem?_of_mem he
      have hil : i < css.length := (List.getElem?_eq_some_iff.1 hi).1
      exact ok.one _ _ _ _ (g9 i es _ _ hi (List.getElem?_eq_getElem (by omega)) (List.getElem?_eq_getElem (by omega))) c hce
    · intro j hj
      refine ⟨_, rfl, ?_⟩
      rw [addr_add, get_row g2 g3, g4, List.getElem?_append_right (by omega), List.getElem?_append_left (by omega), ← List.getElem?_eq_getElem hj]
      congr 1; omega
    · refine h.pushX ok (ys := ys) (nss := css) (Gs := Gs) rfl g6 g7 rfl g9 (List.nodup_cons.1 s2).2 (fun i hi => hGF i (by rw [g8]; exact List.mem_cons_of_mem _ hi)) hlen hbytes fun v' F' σ' k0 k1 k2 k3 => hK v' F' σ' k0 k1 k2 fun i hi => ?_
      rcases k3 i hi with h | h | h
      · exact .inl h
      · exact .inr (.inl (by rw [g8]; exact List.mem_cons_of_mem _ h))
      · exact .inr (.inr h)
theorem OAcc.push {ety n bytes m : Nat} {Rel : (Addr → Option Value) → List Value → α → Prop} {O : Vw → List Nat → List Value → α → Prop} (ok : OOk w0 n Rel O) {F : List Nat} {v : Value} {xs ys : List α} {nss : List (List Value)} {Gs : List (List Nat)} {new : List Value}
    (h : OAcc w0 ety n O σ F v xs) (hm : ys.length = m) (hnl : nss.length = m) (hGl : Gs.length = m) (hnew : new = nss.flatten) (hO : ∀ (j : Nat) (c : List Value) (y : α) (g : List Nat), nss[j]? = some c → ys[j]? = some y → Gs[j]? = some g → O σ g c y)
    (hG : Gs.flatten.Nodup) (hGF : ∀ i, i ∈ Gs.flatten → i ∉ F) (hlen : xs.length + m ≤ 1000000000000) (hbytes : bytes ≤ 140) {K : Value → Vw → Prop}
    (hK : ∀ v' F' σ', KeepsBut F σ σ' → OAcc w0 ety n O σ' F' v' (xs ++ ys) → (∀ i, i ∈ F' → i ∈ F ∨ i ∈ Gs.flatten ∨ σ i = none) → K v' σ') : pAppend w0 ety n bytes v m new σ K :=
  OAcc.pushX ok h hm hnl hGl hnew hO hG hGF hlen hbytes fun v' F' σ' _ => hK v' F' σ'
theorem OAcc.one {ety n bytes : Nat} {Rel : (Addr → Option Value) → List Value → α → Prop} {O : Vw → List Nat → List Value → α → Prop} (ok : OOk w0 n Rel O) {F f : List Nat} {v : Value} {xs : List α} {y : α} {es : List Value}
    (h : OAcc w0 ety n O σ F v xs) (hy : O σ f es y) (hf : ∀ i, i ∈ f → i ∉ F) (hlen : xs.length + 1 ≤ 1000000000000) (hbytes : bytes ≤ 140) {K : Value → Vw → Prop}
    (hK : ∀ v' F' σ', KeepsBut F σ σ' → OAcc w0 ety n O σ' F' v' (xs ++ [y]) → (∀ i, i ∈ F' → i ∈ F ∨ i ∈ f ∨ σ i = none) → K v' σ') : allOne es ∧ pAppend w0 ety n bytes v 1 es σ K :=
  OAcc.oneX ok h hy hf hlen hbytes fun v' F' σ' _ => hK v' F' σ'
theorem OAcc.all {ety n bytes : Nat} {Rel Rel0 : (Addr → Option Value) → List Value → α → Prop} {O : Vw → List Nat → List Value → α → Prop} (ok : OOk w0 n Rel O) {rd0 : Addr → Option Value} {F : List Nat} {v s : Value} {xs ys : List α}
    (h : OAcc w0 ety n O σ F v xs) (hs : RSl n Rel0 rd0 s ys) (hle : Le rd0 (Av.get w0 σ)) (hO : ∀ es y, Rel0 rd0 es y → O σ [] es y) (hlen : xs.length + ys.length ≤ 1000000000000) (hbytes : bytes ≤ 140) {K : Value → Vw → Prop}
    (hK : ∀ v' F' σ', KeepsBut F σ σ' → OAcc w0 ety n O σ' F' v' (xs ++ ys) → (∀ i, i ∈ F' → i ∈ F ∨ σ i = none) → K v' σ') : pAppendS w0 ety n bytes v s σ K :=
  OAcc.allX ok h hs hle hO hlen hbytes fun v' F' σ' _ => hK v' F' σ'
theorem OAcc.allOwn {ety n bytes : Nat} {Rel : (Addr → Option Value) → List Value → α → Prop} {O : Vw → List Nat → List Value → α → Prop} (ok : OOk w0 n Rel O) {F G : List Nat} {v s : Value} {xs ys : List α}
    (h : OAcc w0 ety n O σ F v xs) (hs : OSl w0 n O σ G s ys) (hGF : ∀ i, i ∈ G → i ∉ F) (hlen : xs.length + ys.length ≤ 1000000000000) (hbytes : bytes ≤ 140) {K : Value → Vw → Prop}
    (hK : ∀ v' F' σ', KeepsBut F σ σ' → OAcc w0 ety n O σ' F' v' (xs ++ ys) → (∀ i, i ∈ F' → i ∈ F ∨ i ∈ G ∨ σ i = none) → K v' σ') : pAppendS w0 ety n bytes v s σ K :=
  OAcc.allOwnX ok h hs hGF hlen hbytes fun v' F' σ' _ => hK v' F' σ'
end
end Go.Av

/- A part of a list that is read; slices of texts. -/
set_option linter.unusedVariables false
set_option linter.unusedSimpArgs false
namespace Go.Av
open Go Go.RowKit

section
variable {P : Program} {w0 : World} {σ σ' : Vw} {α : Type}

theorem RSl.slice {n : Nat} {R : (Addr → Option Value) → List Value → α → Prop} {rd : Addr → Option Value} {v : Value} {xs : List α} (h : RSl n R rd v xs) {lo hi : Option Value} {l u : Nat} (hl : boundOf 0 lo = some (l : Int)) (hu : boundOf xs.length hi = some (u : Int)) (hlu : l ≤ u) (hux : u ≤ xs.length) {K : Value → Prop}
    (hK : ∀ v', RSl n R rd v' ((xs.take u).drop l) → K v') : pSlice n v lo hi K := by
  obtain ⟨A, cap, rfl, h2, h3⟩ := h
  refine ⟨A, xs.length, cap, l, u, rfl, hl, hu, by omega, by omega, by omega, hK _ ?_⟩
  have hlen : ((xs.take u).drop l).length = u - l := by rw [List.length_drop, List.length_take]; omega
  simp only [Int.toNat_natCast]
  refine ⟨if cap = l then A else Option.map (fun x => x.add (l * n)) A, cap - l, by rw [hlen], by rw [hlen]; omega, fun j x hj => ?_⟩
  rw [List.getElem?_drop] at hj
  have hlt : l + j < u := by
    rcases Nat.lt_or_ge (l + j) u with h | h
    · exact h
    · rw [List.getElem?_eq_none (by rw [List.length_take]; omega)] at hj; cases hj
  rw [List.getElem?_take_of_lt hlt] at hj
  obtain ⟨a, es, rfl, g1, g2, g3⟩ := h3 _ x hj
  refine ⟨a.add (l * n), es, ?_, g1, fun i hi => ?_, g3⟩
  · rw [if_neg (by omega)]; rfl
  · rw [add_add, ← g2 i hi]
    congr 2
    rw [Nat.add_mul]; omega

/-- A field of an element is read. -/
theorem RSl.atp {n : Nat} {R : (Addr → Option Value) → List Value → α → Prop} {v : Value} {xs : List α} (h : RSl n R (Av.get w0 σ) v xs) {j : Nat} {x : α} (hj : xs[j]? = some x) {K : Value → (Nat → Value) → Prop} (hK : ∀ (p : Value) (g : Nat → Value), R (Av.get w0 σ) (expl g 0 n) x → K p g) :
    pIndexAddr n v (.int .i64 j) fun p => pLoad w0 n p σ (K p) := by
  have h' := h
  obtain ⟨A, cap, rfl, _, h3⟩ := h
  obtain ⟨a, es, rfl, h5, h6, h7⟩ := h3 j x hj
  have hlt : j < xs.length := (List.getElem?_eq_some_iff.1 hj).1
  refine ⟨a, xs.length, cap, .i64, j, rfl, rfl, by omega, by omega, a.add (j * n), fun i => es.getD i undef, rfl, fun i hi => ?_, hK _ _ ?_⟩
  · have := h6 i hi
    have hlt : i < es.length := by omega
    rw [add_add]
    show Av.get w0 σ (a.add (j * n + i)) = _
    rw [this, List.getElem?_eq_getElem hlt]
    simp only [List.getD_eq_getElem?_getD, List.getElem?_eq_getElem hlt, Option.getD_some]
  · have : expl (fun i => es.getD i undef) 0 n = es := by
      apply List.ext_getElem?
      intro i
      by_cases hi : i < n
      · rw [expl_get _ _ _ _ hi, Nat.zero_add, List.getD_eq_getElem?_getD]
        have hlt : i < es.length := by omega
        rw [List.getElem?_eq_getElem hlt]; rfl
      · rw [List.getElem?_eq_none (by rw [length_expl]; omega), List.getElem?_eq_none (by omega)]
    rw [this]; exact h7
theorem RSl.atfp {n : Nat} {R : (Addr → Option Value) → List Value → α → Prop} {v : Value} {xs : List α} (h : RSl n R (Av.get w0 σ) v xs) {j : Nat} {x : α} (hj : xs[j]? = some x) (o : Nat) (ho : o < n) {K : Value → (Nat → Value) → Prop} (hK : ∀ (q : Value) (es : List Value) (g : Nat → Value), R (Av.get w0 σ) es x → es[o]? = some (g 0) → K q g) :
    pIndexAddr n v (.int .i64 j) fun p => pField o p fun q => pLoad w0 1 q σ (K q) := by
  obtain ⟨A, cap, rfl, _, h3⟩ := h
  obtain ⟨a, es, rfl, h5, h6, h7⟩ := h3 j x hj
  have hlt : j < xs.length := (List.getElem?_eq_some_iff.1 hj).1
  refine ⟨a, xs.length, cap, .i64, j, rfl, rfl, by omega, by omega, a.add (j * n), rfl, (a.add (j * n)).add o, fun _ => es.getD o undef, rfl, fun i hi => ?_, hK _ es _ h7 ?_⟩
  · have e : i = 0 := by omega
    subst e
    have := h6 o ho
    rw [add_add, add_add, Nat.add_zero, this, List.getElem?_eq_getElem (by omega)]
    simp only [List.getD_eq_getElem?_getD, List.getElem?_eq_getElem (show o < es.length by omega), Option.getD_some]
  · simp only [List.getD_eq_getElem?_getD, List.getElem?_eq_getElem (show o < es.length by omega), Option.getD_some]

theorem RSl.atf {n : Nat} {R : (Addr → Option Value) → List Value → α → Prop} {v : Value} {xs : List α} (h : RSl n R (Av.get w0 σ) v xs) {j : Nat} {x : α} (hj : xs[j]? = some x) (o : Nat) (ho : o < n) {K : (Nat → Value) → Prop} (hK : ∀ (es : List Value) (g : Nat → Value), R (Av.get w0 σ) es x → es[o]? = some (g 0) → K g) :
    pIndexAddr n v (.int .i64 j) fun p => pField o p fun q => pLoad w0 1 q σ K :=
  h.atfp hj o ho fun q => hK

/-- A run of rounds over a list. -/
theorem foldl_take {β : Type} {f : β → α → β} {b : β} {xs : List α} {j : Nat} {x : α} (hj : xs[j]? = some x) : (xs.take (j + 1)).foldl f b = f ((xs.take j).foldl f b) x := by
  rw [List.take_add_one, hj, Option.toList_some, List.foldl_append]; rfl
end
end Go.Av

/- What is at a path of a tree, by either reading. -/
set_option linter.unusedVariables false
set_option linter.unusedSimpArgs false
namespace Go.Proofs.Ytkblkdnnncklgaa
open Go Go.Av

/-- The first place of a text. -/
def nidx : List ByteArray → ByteArray → Option Nat
  | [], _ => none
  | s :: r, x => if s = x then some 0 else (nidx r x).map (· + 1)
theorem nidx_some {ns : List ByteArray} {x : ByteArray} : ∀ {j : Nat}, nidx ns x = some j → ns[j]? = some x := by
  induction ns with
  | nil => intro j h; simp [nidx] at h
  | cons s r ih =>
    intro j h
    unfold nidx at h
    split at h
    · rename_i e; cases h; simp [e]
    · cases hr : nidx r x with
      | none => rw [hr] at h; cases h
      | some i => rw [hr] at h; cases h; simpa using ih hr
theorem nidx_at {ns : List ByteArray} {x : ByteArray} : ∀ {j : Nat}, ns[j]? = some x → (∀ (i : Nat) (y : ByteArray), i < j → ns[i]? = some y → y ≠ x) → nidx ns x = some j := by
  induction ns with
  | nil => intro j h; simp at h
  | cons s r ih =>
    intro j h hn
    unfold nidx
    cases j with
    | zero => simp at h; rw [if_pos h]
    | succ j =>
      rw [if_neg (hn 0 s (by omega) rfl), ih (by simpa using h) fun i y hi hy => hn (i + 1) y (by omega) (by simpa using hy)]
      rfl
theorem nidx_none {ns : List ByteArray} {x : ByteArray} (h : ∀ (i : Nat) (y : ByteArray), ns[i]? = some y → y ≠ x) : nidx ns x = none := by
  induction ns with
  | nil => rfl
  | cons s r ih =>
    unfold nidx
    rw [if_neg (h 0 s rfl), ih fun i y hy => h (i + 1) y (by simpa using hy)]
    rfl
/-- A place as a number, -1 for none. -/
def placeI : Option Nat → Int
  | some j => j
  | none => -1

/-- Names and parts are as many, all the way down. -/
def wfT : Nat → Tr → Prop
  | 0, _ => True
  | n + 1, .mk d m t ns ks => ns.length = ks.length ∧ ∀ k, k ∈ ks → wfT n k
theorem sound_wf : ∀ (n : Nat) (x : Tr) (k : Int), soundB n x k = true → wfT n x
  | 0, _, _, _ => trivial
  | n + 1, .mk d m t ns ks, k, h => by
    simp only [soundB, plainB, Bool.and_eq_true, decide_eq_true_eq] at h
    refine ⟨h.1.2.1, fun x hx => ?_⟩
    obtain ⟨j, hj⟩ := List.getElem?_of_mem hx
    exact sound_wf n x (k + 1) (allB_iff.1 h.2.2 j x hj)
def kidT : Tr → ByteArray → Option Tr
  | .mk _ _ _ ns ks, x => (nidx ns x).bind fun j => ks[j]?
def atT : Tr → List ByteArray → Option Tr
  | t, [] => some t
  | t, x :: r => (kidT t x).bind fun k => atT k r
def zeroT : Tr := .mk false 0 ⟨#[]⟩ [] []
theorem RT_zero (n : Nat) (rd : Addr → Option Value) : RT (n + 1) rd [.bool false, .int .i64 0, .string ⟨#[]⟩, .slice none 0 0, .slice none 0 0] zeroT :=
  ⟨_, _, rfl, by omega, by show 0 ≤ _; omega, ⟨none, 0, rfl, by simp, fun j x h => by simp at h⟩, ⟨none, 0, rfl, by simp, fun j x h => by simp at h⟩⟩
theorem wf_up : ∀ {n : Nat} {x : Tr}, wfT (n + 1) x → wfT n x
  | 0, _, _ => trivial
  | n + 1, .mk d m t ns ks, h => ⟨h.1, fun k hk => wf_up (h.2 k hk)⟩

section
variable {w0 : World} {σ : Vw}

theorem find_names {v : Value} {ns : List ByteArray} {x : ByteArray} (h : RSl 1 RS (Av.get w0 σ) v ns) {R : Value → Vw → Prop} (hR : R (.int .i64 (placeI (nidx ns x))) σ) : AC Try.prog w0 n_slices_Index_string_string [v, .string x] σ R := by
  refine ac_slices_Index_string_string ?_
  unfold vc_slices_Index_string_string
  have hl := h.le
  rw [h.len]
  refine loop_rule (m := ns.length) (fun c l s => ∃ j, s = σ ∧ c + j = ns.length ∧ (∀ (i : Nat) (y : ByteArray), i < j → ns[i]? = some y → y ≠ x) ∧ l = [v, .string x, .int .i64 0, .int .i64 ns.length, .int .i64 (j : Nat)]) ?_ ⟨0, rfl, by omega, fun i y h => by omega, rfl⟩
  rintro c l s L ⟨j, rfl, hc, ht, rfl⟩ hL
  simp only [vget, List.getD_cons_zero, List.getD_cons_succ]
  rw [pBin_lt, pIf_d]
  refine ⟨fun hj => ?_, fun hj => ?_⟩
  · have hx := List.getElem?_eq_getElem (show j < ns.length by omega)
    generalize hxj : ns[j] = y at hx
    refine RSl.at1 h hx fun g hg hs => ?_
    rw [hg, pBin_seq, pIf_d]
    refine ⟨fun he => ?_, fun hne => ?_⟩
    · subst he
      rw [nidx_at hx ht] at hR
      exact hR
    · rw [pBin_add (by omega)]
      refine hL _ _ (c - 1) (by omega) ⟨j + 1, rfl, by omega, fun i z hi hz => ?_, rfl⟩
      by_cases e : i = j
      · subst e; rw [hx] at hz; cases hz; exact fun e => hne e.symm
      · exact ht i z (by omega) hz
  · rw [nidx_none fun i y hy => ht i y (by have := (List.getElem?_eq_some_iff.1 hy).1; omega) hy] at hR
    exact hR

theorem spec_Find {n : Nat} {es : List Value} {d : Bool} {m : Int} {t : ByteArray} {ns : List ByteArray} {ks : List Tr} {x : ByteArray} (h : RT n (Av.get w0 σ) es (.mk d m t ns ks)) {R : Value → Vw → Prop} (hR : R (.int .i64 (placeI (nidx ns x))) σ) : AC Try.prog w0 n_spec_l1Find [.agg ⟨es⟩, .string x] σ R := by
  obtain _ | n := n
  · exact h.elim
  obtain ⟨u, w, rfl, h2, h3, h4, h5⟩ := h
  refine ac_spec_l1Find ?_
  unfold vc_spec_l1Find
  have hl := h4.le
  rw [pVal_5 rfl rfl rfl h4.one h5.one]
  simp only [cellOf_agg, List.getD_cons_zero, List.getD_cons_succ]
  refine loop_rule (m := ns.length) (fun c l s => ∃ j, s = σ ∧ c + j = ns.length ∧ (∀ (i : Nat) (y : ByteArray), i < j → ns[i]? = some y → y ≠ x) ∧ l = [.string x, .int .i64 0, .int .i64 (j : Nat), .bool d, .int .i64 m, .string t, u, w]) ?_ ⟨0, rfl, by omega, fun i y h => by omega, rfl⟩
  rintro c l s L ⟨j, rfl, hc, ht, rfl⟩ hL
  simp only [vget, List.getD_cons_zero, List.getD_cons_succ]
  rw [h4.len, pBin_lt, pIf_d]
  refine ⟨fun hj => ?_, fun hj => ?_⟩
  · have hx := List.getElem?_eq_getElem (show j < ns.length by omega)
    generalize hxj : ns[j] = y at hx
    refine RSl.at1 h4 hx fun g hg hs => ?_
    rw [hg, pBin_seq, pIf_d]
    refine ⟨fun he => ?_, fun hne => ?_⟩
    · subst he
      rw [nidx_at hx ht] at hR
      exact hR
    · rw [pBin_add (by omega)]
      refine hL _ _ (c - 1) (by omega) ⟨j + 1, rfl, by omega, fun i z hi hz => ?_, rfl⟩
      by_cases e : i = j
      · subst e; rw [hx] at hz; cases hz; exact hne
      · exact ht i z (by omega) hz
  · rw [nidx_none fun i y hy => ht i y (by have := (List.getElem?_eq_some_iff.1 hy).1; omega) hy] at hR
    exact hR

/-- What a kid is read as. -/
theorem kid_some {n : Nat} {d : Bool} {m : Int} {t : ByteArray} {ns : List ByteArray} {ks : List Tr} {x : ByteArray} (hw : wfT (n + 1) (.mk d m t ns ks)) {j : Nat} (hj : nidx ns x = some j) : ∃ k, ks[j]? = some k ∧ kidT (.mk d m t ns ks) x = some k ∧ wfT n k := by
  have h1 := nidx_some hj
  have hlt := (List.getElem?_eq_some_iff.1 h1).1
  have hw1 := hw.1
  have hk := List.getElem?_eq_getElem (show j < ks.length by omega)
  refine ⟨_, hk, ?_, hw.2 _ (List.getElem_mem _)⟩
  simp only [kidT, hj, Option.bind_some, hk]

theorem spec_At : ∀ (ps : List ByteArray) {n : Nat} {σ : Vw} {es : List Value} {v : Value} {x : Tr} {R : Value → Vw → Prop}, RT n (Av.get w0 σ) es x → wfT n x → RSl 1 RS (Av.get w0 σ) v ps →
    (∀ es', RT n (Av.get w0 σ) es' ((atT x ps).getD zeroT) → R (.tuple ⟨[.agg ⟨es'⟩, .bool (atT x ps).isSome]⟩) σ) → AC Try.prog w0 n_spec_l1At [.agg ⟨es⟩, v] σ R
  | ps, 0, _, _, _, _, _, h, _, _, _ => h.elim
  | ps, n + 1, σ, es, v, .mk d m t ns ks, R, h, hw, hp, hR => by
    have h0 := h
    obtain ⟨u, w, rfl, h2, h3, h4, h5⟩ := h
    refine ac_spec_l1At ?_
    unfold vc_spec_l1At
    have e5 : ∀ A : Prop, pVal true 5 (.agg ⟨[.bool d, .int .i64 m, .string t, u, w]⟩) A ↔ A := fun A => pVal_5 rfl rfl rfl h4.one h5.one
    rw [e5]
    simp only [cellOf_agg, List.getD_cons_zero, List.getD_cons_succ]
    rw [hp.len, pBin_eq, pIf_d]
    cases ps with
    | nil =>
      refine ⟨fun _ => ?_, fun h => absurd rfl h⟩
      rw [e5]
      exact hR _ h0
    | cons p r =>
      refine ⟨fun h => by simp at h; omega, fun _ => ?_⟩
      refine RSl.at1 (w0 := w0) (σ := σ) hp (j := 0) (x := p) rfl fun g hg hs => ?_
      rw [hg]
      refine spec_Find h0 ?_
      rw [pBin_lt, pIf_d]
      cases hj : nidx ns p with
      | none =>
        refine ⟨fun _ => ?_, fun h => absurd (show (-1 : Int) < 0 by omega) h⟩
        rw [pVal_5 rfl rfl rfl rfl rfl]
        have : atT (.mk d m t ns ks) (p :: r) = none := by simp [atT, kidT, hj]
        rw [this] at hR
        exact hR _ (RT_zero n _)
      | some j =>
        refine ⟨fun h => by simp only [placeI] at h; omega, fun _ => ?_⟩
        obtain ⟨k, hk1, hk2, hk3⟩ := kid_some hw hj
        have hat : atT (.mk d m t ns ks) (p :: r) = atT k r := by simp only [atT, hk2, Option.bind_some]
        rw [hat] at hR
        refine h5.at hk1 fun g8 hg8 => ?_
        refine hp.slice (l := 1) (u := (p :: r).length) rfl rfl (by simp) (Nat.le_refl _) fun v9 hv9 => ?_
        rw [List.take_length, List.drop_one, List.tail_cons] at hv9
        refine spec_At r hg8 hk3 hv9 fun es' he' => ?_
        rw [pExtract_s rfl, pExtract_s rfl]
        have hn : RT (n + 1) (Av.get w0 σ) es' ((atT k r).getD zeroT) := RT_up _ _ _ _ he'
        obtain ⟨a, b, c, d', e, rfl, _, hpv⟩ := RT.five hn
        rw [hpv]
        exact hR _ hn

/-- A pointer to a tree. -/
def PT (n : Nat) (rd : Addr → Option Value) (p : Value) (x : Tr) : Prop := ∃ a es, p = .pointer (some a) ∧ es.length = 5 ∧ (∀ i, i < 5 → rd (a.add i) = es[i]?) ∧ RT n rd es x
theorem PT.mono {n : Nat} {rd rd' : Addr → Option Value} {p : Value} {x : Tr} (h : PT n rd p x) (hl : Le rd rd') : PT n rd' p x := by
  obtain ⟨a, es, h1, h2, h3, h4⟩ := h
  refine ⟨a, es, h1, h2, fun i hi => ?_, mono_rt n _ _ _ _ hl h4⟩
  have := h3 i hi
  rw [List.getElem?_eq_getElem (by omega)] at this ⊢
  exact hl _ _ this
theorem PT.up {n : Nat} {rd : Addr → Option Value} {p : Value} {x : Tr} (h : PT n rd p x) : PT (n + 1) rd p x := by
  obtain ⟨a, es, h1, h2, h3, h4⟩ := h
  exact ⟨a, es, h1, h2, h3, RT_up _ _ _ _ h4⟩
/-- A field behind a pointer is read. -/
theorem PT.ld {n : Nat} {p : Value} {x : Tr} (h : PT n (Av.get w0 σ) p x) (o : Nat) (ho : o < 5) {K : (Nat → Value) → Prop} (hK : ∀ (es : List Value) (g : Nat → Value), RT n (Av.get w0 σ) es x → es[o]? = some (g 0) → K g) : pNil p (pField o p fun q => pLoad w0 1 q σ K) := by
  obtain ⟨a, es, rfl, h5, h6, h7⟩ := h
  rw [pNil_s, pField_s]
  refine ⟨_, fun _ => es.getD o undef, rfl, fun i hi => ?_, hK es _ h7 ?_⟩
  · have e : i = 0 := by omega
    subst e
    have := h6 o ho
    rw [add_add, Nat.add_zero, this, List.getElem?_eq_getElem (by omega)]
    simp only [List.getD_eq_getElem?_getD, List.getElem?_eq_getElem (show o < es.length by omega), Option.getD_some]
  · simp only [List.getD_eq_getElem?_getD, List.getElem?_eq_getElem (show o < es.length by omega), Option.getD_some]
/-- The address of an element. -/
theorem RSl.ptr {n k : Nat} {v : Value} {xs : List Tr} (h : RSl 5 (RT n) (Av.get w0 σ) v xs) {j : Nat} {x : Tr} (hj : xs[j]? = some x) {K : Value → Prop} (hK : ∀ p, PT n (Av.get w0 σ) p x → K p) : pIndexAddr 5 v (.int .i64 j) K := by
  obtain ⟨A, cap, rfl, _, h3⟩ := h
  obtain ⟨a, es, rfl, h5, h6, h7⟩ := h3 j x hj
  have hlt : j < xs.length := (List.getElem?_eq_some_iff.1 hj).1
  refine ⟨a, xs.length, cap, .i64, j, rfl, rfl, by omega, by omega, hK _ ⟨_, es, rfl, h5, fun i hi => ?_, h7⟩⟩
  have := h6 i hi
  rw [Int.toNat_natCast, add_add]; exact this

/-- What is at a name, by pointers: a pointer, or nil. -/
def PO (n : Nat) (rd : Addr → Option Value) (p : Value) : Option Tr → Prop
  | some x => PT n rd p x
  | none => p = .pointer none
theorem PO.mono {n : Nat} {rd rd' : Addr → Option Value} {p : Value} {o : Option Tr} (h : PO n rd p o) (hl : Le rd rd') : PO n rd' p o := by
  cases o with
  | none => exact h
  | some x => exact PT.mono h hl

theorem impl_kid {n : Nat} {p : Value} {x : Tr} {name : ByteArray} {R : Value → Vw → Prop} (h : PT (n + 1) (Av.get w0 σ) p x) (hw : wfT (n + 1) x) (hR : ∀ q, PO n (Av.get w0 σ) q (kidT x name) → R q σ) : AC Try.prog w0 n_p_impl_Tree_kid [p, .string name] σ R := by
  obtain ⟨d, m, t, ns, ks⟩ := x
  refine ac_p_impl_Tree_kid ?_
  unfold vc_p_impl_Tree_kid
  refine h.ld 3 (by omega) fun es g he hg => ?_
  obtain ⟨u, w, rfl, h2, h3, h4, h5⟩ := he
  simp only [List.getElem?_cons_zero, List.getElem?_cons_succ, Option.some.injEq] at hg
  rw [← hg]
  refine find_names h4 ?_
  rw [pBin_lt, pIf_d]
  cases hj : nidx ns name with
  | none =>
    refine ⟨fun _ => hR _ (by simp only [kidT, hj, Option.bind_none]; rfl), fun h => absurd (show (-1 : Int) < 0 by omega) h⟩
  | some j =>
    refine ⟨fun h => by simp only [placeI] at h; omega, fun _ => ?_⟩
    obtain ⟨k, hk1, hk2, hk3⟩ := kid_some hw hj
    have hlt := (List.getElem?_eq_some_iff.1 hk1).1
    refine h.ld 4 (by omega) fun es g he hg => ?_
    obtain ⟨u', w', rfl, h2', h3', h4', h5'⟩ := he
    simp only [List.getElem?_cons_zero, List.getElem?_cons_succ, Option.some.injEq] at hg
    rw [← hg, h5'.len]
    simp only [placeI]
    rw [pBin_ge, pIf_d]
    refine ⟨fun h => by omega, fun _ => ?_⟩
    refine h.ld 4 (by omega) fun es g he hg => ?_
    obtain ⟨u2, w2, rfl, h22, h32, h42, h52⟩ := he
    simp only [List.getElem?_cons_zero, List.getElem?_cons_succ, Option.some.injEq] at hg
    rw [← hg]
    refine RSl.ptr (k := 0) h52 hk1 fun q hq => hR q ?_
    rw [hk2]; exact hq

theorem wf_RT_up : ∀ {n : Nat} {rd : Addr → Option Value} {es : List Value} {x : Tr}, RT n rd es x → wfT n x → wfT (n + 1) x
  | 0, _, _, _, h, _ => h.elim
  | n + 1, rd, es, .mk d m t ns ks, h, hw => by
    obtain ⟨u, w, h1, h2, h3, h4, A, cap, _, _, h5⟩ := h
    refine ⟨hw.1, fun k hk => ?_⟩
    obtain ⟨j, hj⟩ := List.getElem?_of_mem hk
    obtain ⟨a, es', _, _, _, h6⟩ := h5 j k hj
    exact wf_RT_up h6 (hw.2 k hk)

theorem pBin_nil {T : Nat} {p : Option Addr} {K : Value → Prop} (hT : ∃ e, Try.prog.underlying T = some (.pointer e)) : pBin Try.prog T .eql (.pointer p) (.pointer none) K ↔ K (.bool p.isNone) := by
  obtain ⟨e, he⟩ := hT
  have h : abinT Try.prog T .eql (.pointer p) (.pointer none) = some (.bool p.isNone) := by simp only [abinT, he]
  exact ⟨fun ⟨_, h', hK⟩ => by rw [h] at h'; cases h'; exact hK, fun hK => ⟨_, h, hK⟩⟩
theorem ptr_tree : ∃ e, Try.prog.underlying t_p_impl_Tree = some (.pointer e) := ⟨t_impl_Tree, by kernel_rfl⟩

theorem impl_at {n : Nat} {p v : Value} {x : Tr} {ps : List ByteArray} {R : Value → Vw → Prop} (h : PT (n + 1) (Av.get w0 σ) p x) (hw : wfT (n + 1) x) (hp : RSl 1 RS (Av.get w0 σ) v ps) (hR : ∀ q, PO (n + 1) (Av.get w0 σ) q (atT x ps) → R q σ) : AC Try.prog w0 n_p_impl_Tree_at [p, v] σ R := by
  refine ac_p_impl_Tree_at ?_
  unfold vc_p_impl_Tree_at
  have hl := hp.le
  rw [hp.len]
  refine loop_rule (m := ps.length) (fun c l s => ∃ (j : Nat) (q : Value) (y : Tr), s = σ ∧ c + j = ps.length ∧ PT (n + 1) (Av.get w0 σ) q y ∧ wfT (n + 1) y ∧ atT y (ps.drop j) = atT x ps ∧ l = [q, .pointer none, v, .int .i64 ps.length, .int .i64 (j : Nat)]) ?_ ⟨0, p, x, rfl, by omega, h, hw, rfl, rfl⟩
  rintro c l s L ⟨j, q, y, rfl, hc, hq, hy, hat, rfl⟩ hL
  simp only [vget, List.getD_cons_zero, List.getD_cons_succ]
  rw [pBin_lt, pIf_d]
  refine ⟨fun hj => ?_, fun hj => ?_⟩
  · have hx := List.getElem?_eq_getElem (show j < ps.length by omega)
    have hd : ps.drop j = ps[j] :: ps.drop (j + 1) := List.drop_eq_getElem_cons (by omega)
    rw [hd] at hat
    generalize hxj : ps[j] = z at hx hat
    refine RSl.at1 hp hx fun g hg hs => ?_
    rw [hg]
    refine impl_kid hq hy fun q' hq' => ?_
    cases hk : kidT y z with
    | none =>
      rw [hk] at hq'
      obtain rfl : q' = .pointer none := hq'
      rw [pBin_nil ptr_tree]
      rw [pIf_b]
      refine ⟨fun _ => hR _ ?_, fun h => by cases h⟩
      have : atT x ps = none := by rw [← hat]; simp only [atT, hk, Option.bind_none]
      rw [this]; exact rfl
    | some y' =>
      rw [hk] at hq'
      have hq2 : PT n (Av.get w0 s) q' y' := hq'
      obtain ⟨a, es, rfl, r1, r2, r3⟩ := hq2
      rw [pBin_nil ptr_tree]
      rw [pIf_b]
      refine ⟨fun h => (by cases h), fun _ => ?_⟩
      rw [pBin_add (by omega)]
      have hw' : wfT n y' := by
        obtain ⟨d, m, t, ns, ks⟩ := y
        cases hj : nidx ns z with
        | none => simp only [kidT, hj, Option.bind_none] at hk; cases hk
        | some i =>
          obtain ⟨k, _, hk2, hk3⟩ := kid_some hy hj
          rw [hk] at hk2; cases hk2; exact hk3
      refine hL _ _ (c - 1) (by omega) ⟨j + 1, _, y', rfl, by omega, PT.up ⟨a, es, rfl, r1, r2, r3⟩, wf_RT_up r3 hw', ?_, rfl⟩
      rw [← hat]; simp only [atT, hk, Option.bind_some]
  · have hj' : j = ps.length := by omega
    subst hj'
    rw [List.drop_length] at hat
    have : atT x ps = some y := by rw [← hat]; rfl
    refine hR q ?_
    rw [this]; exact hq
end
end Go.Proofs.Ytkblkdnnncklgaa

/- Marks of texts. -/
set_option linter.unusedVariables false
set_option linter.unusedSimpArgs false
namespace Go.Proofs.Ytkblkdnnncklgaa
open Go Go.Av

/-- How many figures a number has. -/
def figs (k : Nat) : Nat := if h : k = 0 then 0 else figs (k / 10) + 1
termination_by k
theorem figs_le (k : Nat) : figs k ≤ k := by
  induction k using Nat.strongRecOn with
  | _ k ih =>
    rw [figs]
    by_cases h : k = 0
    · simp [h]
    · rw [dif_neg h]
      have := ih (k / 10) (by omega)
      omega
def digit (n : Nat) : ByteArray := strOfNums [((48 + n % 10 : Nat) : Int)]
theorem size_strOfNums (xs : List Int) : (strOfNums xs).size = xs.length := by
  simp [strOfNums, ByteArray.size]
/-- The figures of a number, ahead of a text. -/
def mtxt (k : Nat) (out : ByteArray) : ByteArray := if h : k = 0 then out else mtxt (k / 10) (digit k ++ out)
termination_by k
theorem mtxt_size (k : Nat) : ∀ out, (mtxt k out).size = out.size + figs k := by
  induction k using Nat.strongRecOn with
  | _ k ih =>
    intro out
    rw [mtxt, figs]
    by_cases h : k = 0
    · simp [h]
    · rw [dif_neg h, dif_neg h, ih (k / 10) (by omega), ByteArray.size_append, digit, size_strOfNums]
      simp; omega
/-- What marks the number k. -/
def mtext (k : Nat) : ByteArray := if k = 0 then ⟨#[109, 48]⟩ else ⟨#[109]⟩ ++ mtxt k ⟨#[]⟩
theorem mtext_size {k : Nat} (h : k ≤ 1000000000000) : (mtext k).size ≤ 9223372036854775807 := by
  unfold mtext
  split
  · show 2 ≤ _; omega
  · rw [ByteArray.size_append, mtxt_size]
    have := figs_le k
    show 1 + (0 + _) ≤ _
    omega

section
variable {w0 : World} {σ : Vw}

theorem markText {k : Nat} (hk : k ≤ 1000000000000) {R : Value → Vw → Prop} (hR : ∀ σ', Keeps σ σ' → R (.string (mtext k)) σ') : AC Try.prog w0 n_laws_markText [.int .i64 (k : Nat)] σ R := by
  refine ac_laws_markText ?_
  unfold vc_laws_markText
  rw [pBin_le, pIf_d]
  refine ⟨fun h => ?_, fun h => ?_⟩
  · have : k = 0 := by omega
    subst this
    exact hR σ (Keeps.refl σ)
  · have hk0 : k ≠ 0 := by omega
    have e : mtext k = ⟨#[109]⟩ ++ mtxt k ⟨#[]⟩ := by rw [mtext, if_neg hk0]
    rw [e] at hR
    have hf := figs_le k
    refine loop_rule (m := figs k) (fun m l s => ∃ (n : Nat) (out : ByteArray), m = figs n ∧ n ≤ k ∧ out.size + figs n ≤ 1000000000000 ∧ mtxt n out = mtxt k ⟨#[]⟩ ∧ Keeps σ s ∧ l = [.int .i64 (n : Nat), .string out]) ?_ ⟨k, ⟨#[]⟩, rfl, Nat.le_refl _, by show 0 + _ ≤ _; omega, rfl, Keeps.refl σ, rfl⟩
    rintro m l s L ⟨n, out, rfl, hn, hsz, hm, hkp, rfl⟩ hL
    simp only [vget, List.getD_cons_zero, List.getD_cons_succ]
    rw [pBin_gt, pIf_d]
    refine ⟨fun hpos => ?_, fun h0 => ?_⟩
    · have hn0 : n ≠ 0 := by omega
      have hfig : figs n = figs (n / 10) + 1 := by rw [figs, dif_neg hn0]
      rw [pBin_rem (by omega), pBin_add (by omega)]
      show pConvInt .u8 _ _
      rw [pConv_u8 (by omega), show (48 + ((n : Int) % 10)) = ((48 + n % 10 : Nat) : Int) by omega, pVal1 rfl]
      intro b h1 h2
      refine pStr1 (by rw [get_row h1 put_at]; rfl) ?_
      show pBin Try.prog 9 .add (.string (digit n)) _ _
      have hd : (digit n).size = 1 := by rw [digit, size_strOfNums]; rfl
      rw [pBin_cat (by omega)]
      rw [pBin_quo (by omega), show ((n : Int) / 10) = ((n / 10 : Nat) : Int) by omega]
      refine hL _ _ (figs (n / 10)) hfig.symm ⟨n / 10, digit n ++ out, rfl, by omega, by rw [ByteArray.size_append, hd]; omega, ?_, hkp.trans (Keeps.put h2), rfl⟩
      rw [← hm]; conv => rhs; rw [mtxt, dif_neg hn0]
    · have hn0 : n = 0 := by omega
      subst hn0
      rw [mtxt, dif_pos rfl] at hm
      subst hm
      have hs := mtxt_size k ⟨#[]⟩
      show pBin Try.prog 9 .add (.string ⟨#[109]⟩) _ _
      rw [pBin_cat (by rw [hs]; show 1 + (0 + _) ≤ _; omega)]
      exact hR s hkp

abbrev mkTexts (k : Nat) (xs : List ByteArray) : List ByteArray := mkS (fun k _ => mtext k) (fun _ => 1) k xs
theorem sum_one {α : Type} (xs : List α) : sumBy (fun _ => 1) xs = xs.length := by
  induction xs with
  | nil => rfl
  | cons a r ih => simp only [sumBy, ih, List.length_cons]; omega

theorem markStringS {F : List Nat} {v : Value} {xs : List ByteArray} {k : Nat} (h : OStrs w0 σ F v xs) (hk : k + xs.length ≤ 1000000000000) {R : Value → Vw → Prop}
    (hR : ∀ σ', KeepsBut F σ σ' → OStrs w0 σ' F v (mkTexts k xs) → R (.int .i64 ((k + xs.length : Nat) : Int)) σ') : AC Try.prog w0 n_laws_markStringS [v, .int .i64 (k : Nat)] σ R := by
  refine ac_laws_markStringS ?_
  unfold vc_laws_markStringS
  have e := sum_one xs
  rw [← e] at hk hR
  refine mark_loop (ok_str w0) (mk := fun k _ => mtext k) (cnt := fun _ => 1) h hk ?_ hR
  intro j x k' s ys K hj hlen hkb hx hk' hO hyj hK
  simp only [vget, List.getD_cons_zero, List.getD_cons_succ]
  refine markText (by omega) fun s1 k1 => ?_
  have hO1 := hO.frame (ok_str w0) (σ' := s1) (fun b hb => by
    cases hs : s b with
    | none => exact absurd hs (hO.dom (ok_str w0) b hb).2
    | some r => exact k1 b r hs)
  obtain ⟨b, o, f, c, A, C, r, hix, hb, hr, hc, hA, hOx, hbF, hf, hput⟩ := hO1.focus (ok_str w0) hyj
  obtain ⟨rfl, rfl, hsz⟩ := hOx
  refine hix _ ?_
  refine elem_store hr hc hA rfl ?_
  rw [pBin_add (by omega)]
  rw [pBin_add (by have := h.1; omega)]
  have hO2 := hput (s1.put b { r with cells := A ++ ([.string (mtext k')] ++ C) }) [.string (mtext k')] (mtext k') _ put_at rfl ⟨rfl, rfl, mtext_size (by omega)⟩ (fun i hi hne _ => by simp [Vw.put, hne])
  have := hK _ (k1.but.trans (KeepsBut.put hbF)) hO2
  simpa using this

theorem heldStringS {v : Value} {xs : List ByteArray} {k : Nat} (h : RSl 1 RS (Av.get w0 σ) v (mkTexts k xs)) (hk : k + xs.length ≤ 1000000000000) {R : Value → Vw → Prop}
    (hR : ∀ σ', Keeps σ σ' → R (.int .i64 ((k + xs.length : Nat) : Int)) σ') : AC Try.prog w0 n_laws_heldStringS [v, .int .i64 (k : Nat)] σ R := by
  refine ac_laws_heldStringS ?_
  unfold vc_laws_heldStringS
  have e := sum_one xs
  rw [← e] at hk hR
  refine held_loop (n := 1) (Rel := RS) (fun _ _ _ _ hl h => mono_rs hl h) (mk := fun k _ => mtext k) (cnt := fun _ => 1) h hk ?_ hR
  intro j x k' s K hj hkb hx hk' hrd hyj hK
  simp only [vget, List.getD_cons_zero, List.getD_cons_succ]
  have hl := h.le
  rw [mkS_len] at hl
  refine RSl.atp hrd hyj fun p g hg => ?_
  obtain ⟨hg, hs⟩ := hg
  simp only [expl, List.cons.injEq, and_true] at hg
  refine markText (by omega) fun s1 k1 => ⟨k1.stay, ?_⟩
  rw [hg, pBin_sne, pIf_d]
  refine ⟨fun h => absurd rfl h, fun _ => ?_⟩
  rw [pBin_add (by omega)]
  rw [pBin_add (by omega)]
  have := hK _ k1
  simpa using this
end
end Go.Proofs.Ytkblkdnnncklgaa

/- Reading and listing: the functions 'TreeRead' and 'TreeList' by either text. -/
set_option linter.unusedVariables false
set_option linter.unusedSimpArgs false
namespace Go.Proofs.Ytkblkdnnncklgaa
open Go Go.Av

def kidsOf : Tr → List Tr
  | .mk _ _ _ _ ks => ks
def namesOf : Tr → List ByteArray
  | .mk _ _ _ ns _ => ns
def dataOf : Tr → ByteArray
  | .mk _ _ t _ _ => t
def modeOf : Tr → Int
  | .mk _ m _ _ _ => m
/-- What holds of a part and of all below. -/
def AllT (P : Tr → Prop) : Nat → Tr → Prop
  | 0, _ => True
  | n + 1, x => P x ∧ ∀ k, k ∈ kidsOf x → AllT P n k
theorem all_up {P : Tr → Prop} : ∀ {n : Nat} {rd : Addr → Option Value} {es : List Value} {x : Tr}, RT n rd es x → AllT P n x → AllT P (n + 1) x
  | 0, _, _, _, h, _ => h.elim
  | n + 1, rd, es, .mk d m t ns ks, h, hw => by
    obtain ⟨u, w, h1, h2, h3, h4, A, cap, _, _, h5⟩ := h
    refine ⟨hw.1, fun k hk => ?_⟩
    obtain ⟨j, hj⟩ := List.getElem?_of_mem hk
    obtain ⟨a, es', _, _, _, h6⟩ := h5 j k hj
    exact all_up h6 (hw.2 k hk)
/-- What can be read. -/
def IsT (n : Nat) (x : Tr) : Prop := ∃ rd es, RT n rd es x
theorem kid_mem {x : Tr} {nm : ByteArray} {k : Tr} (h : kidT x nm = some k) : k ∈ kidsOf x := by
  obtain ⟨d, m, t, ns, ks⟩ := x
  simp only [kidT, Option.bind_eq_some_iff] at h
  obtain ⟨j, _, hj⟩ := h
  exact List.mem_of_getElem? hj
theorem isT_kid {n : Nat} {x k : Tr} (h : IsT (n + 1) x) (hk : k ∈ kidsOf x) : IsT n k := by
  obtain ⟨d, m, t, ns, ks⟩ := x
  obtain ⟨rd, es, u, w, h1, h2, h3, h4, A, cap, _, _, h5⟩ := h
  obtain ⟨j, hj⟩ := List.getElem?_of_mem hk
  obtain ⟨a, es', _, _, _, h6⟩ := h5 j k hj
  exact ⟨rd, es', h6⟩
theorem at_all {P : Tr → Prop} : ∀ (ps : List ByteArray) {n : Nat} {x y : Tr}, IsT n x → AllT P n x → atT x ps = some y → IsT n y ∧ AllT P n y
  | [], n, x, y, h, ha, he => by cases he; exact ⟨h, ha⟩
  | p :: r, 0, x, y, ⟨_, _, h⟩, ha, he => h.elim
  | p :: r, n + 1, x, y, h, ha, he => by
    simp only [atT, Option.bind_eq_some_iff] at he
    obtain ⟨k, hk, he⟩ := he
    have hm := kid_mem hk
    obtain ⟨⟨rd, es, h1⟩, h2⟩ := at_all r (isT_kid h hm) (ha.2 k hm) he
    exact ⟨⟨rd, es, RT_up _ _ _ _ h1⟩, all_up h1 h2⟩
theorem all_imp {P Q : Tr → Prop} (hPQ : ∀ x, P x → Q x) : ∀ {n : Nat} {x : Tr}, AllT P n x → AllT Q n x
  | 0, _, _ => trivial
  | n + 1, x, h => ⟨hPQ _ h.1, fun k hk => all_imp hPQ (h.2 k hk)⟩
theorem fit_all : ∀ {n : Nat} {x : Tr}, fitT n x → AllT (fun x => (namesOf x).length ≤ 1000000000000 ∧ (kidsOf x).length ≤ 1000000000000) n x
  | 0, _, _ => trivial
  | n + 1, .mk d m t ns ks, h => ⟨⟨h.1, h.2.1⟩, fun k hk => fit_all (h.2.2 k hk)⟩

noncomputable def readT (n : Nat) (x : Tr) (ps : List ByteArray) (a c : Int) : ByteArray × Int :=
  if treeOk n x = true then
    if a < 0 ∨ c < 0 then (⟨#[]⟩, 2)
    else match atT x ps with
      | none => (⟨#[]⟩, 3)
      | some y => if isDir y = true then (⟨#[]⟩, 4) else ((dataOf y).extract (min a (dataOf y).size).toNat (min (a + c) (dataOf y).size).toNat, 0)
  else (⟨#[]⟩, 1)
noncomputable def listT (n : Nat) (x : Tr) (ps : List ByteArray) : List ByteArray × Int :=
  if treeOk n x = true then match atT x ps with
    | none => ([], 3)
    | some y => if isDir y = true then (namesOf y, 0) else ([], 4)
  else ([], 1)

theorem extract_none {t : ByteArray} {i j : Nat} (h : min j t.size ≤ i) : t.extract i j = ⟨#[]⟩ := by
  have := (ByteArray.extract_eq_empty_iff (b := t) (i := i) (j := j)).2 h
  exact this

section
variable {w0 : World} {σ : Vw}

theorem RT.cells {n : Nat} {rd : Addr → Option Value} {es : List Value} {x : Tr} (h : RT n rd es x) : ∃ u w, es = [.bool (isDir x), .int .i64 (modeOf x), .string (dataOf x), u, w] ∧ (-9223372036854775808 ≤ modeOf x ∧ modeOf x ≤ 9223372036854775807) ∧ (dataOf x).size ≤ 9223372036854775807 ∧ RSl 1 RS rd u (namesOf x) ∧ RSl 5 (RT n) rd w (kidsOf x) ∧ ∀ A : Prop, pVal true 5 (.agg ⟨es⟩) A ↔ A := by
  obtain _ | n := n
  · exact h.elim
  · obtain ⟨d, m, t, ns, ks⟩ := x
    obtain ⟨u, w, rfl, h2, h3, h4, h5⟩ := h
    exact ⟨u, w, rfl, h2, h3, h4, h5.imp fun es x h => RT_up n rd es x h, fun A => pVal_5 rfl rfl rfl h4.one h5.one⟩

theorem spec_TreeRead {n : Nat} {es : List Value} {v : Value} {x : Tr} {ps : List ByteArray} {a c : Int} (h : RT n (Av.get w0 σ) es x) (hp : RSl 1 RS (Av.get w0 σ) v ps) (hb : cntT n x ≤ 1000000000000) (ha : -9223372036854775808 ≤ a ∧ a ≤ 9223372036854775807) (hc : -9223372036854775808 ≤ c ∧ c ≤ 9223372036854775807) {R : Value → Vw → Prop}
    (hR : R (.tuple ⟨[.string (readT n x ps a c).1, .int .i64 (readT n x ps a c).2]⟩) σ) : AC Try.prog w0 n_spec_TreeRead [.agg ⟨es⟩, v, .int .i64 a, .int .i64 c] σ R := by
  have h0 := h
  obtain ⟨_, _, _, _, _, rfl, _, hpv⟩ := RT.five h
  refine ac_spec_TreeRead ?_
  unfold vc_spec_TreeRead
  rw [hpv]
  simp only [cellOf_agg, List.getD_cons_zero, List.getD_cons_succ]
  refine spec_TreeOk h0 hb ?_
  rw [pUn_not, pIf_b]
  refine ⟨fun hn => by simp at hn; simpa [readT, hn] using hR, fun hn => ?_⟩
  have hok : treeOk n x = true := by simpa using hn
  have hwf : wfT n x := by simp only [treeOk, Bool.and_eq_true] at hok; exact sound_wf n x 0 hok.2.1
  simp only [readT, hok, if_true] at hR
  refine spec_At ps h0 hwf hp fun es' he' => ?_
  rw [pExtract_s rfl, pExtract_s rfl]
  obtain ⟨u, w, rfl, _, hs, _, _, hpv'⟩ := RT.cells he'
  rw [hpv', pBin_lt, pIf_d]
  refine ⟨fun h1 => by rw [if_pos (.inl h1)] at hR; exact hR, fun h1 => ?_⟩
  rw [pBin_lt, pIf_d]
  refine ⟨fun h2 => by rw [if_pos (.inr h2)] at hR; exact hR, fun h2 => ?_⟩
  rw [if_neg (by omega)] at hR
  rw [pUn_not, pIf_b]
  cases hat : atT x ps with
  | none =>
    rw [hat] at hR
    exact ⟨fun _ => hR, fun h => by simp at h⟩
  | some y =>
    rw [hat] at hR hs
    refine ⟨fun h => by simp at h, fun _ => ?_⟩
    simp only [cellOf_agg, List.getD_cons_zero, List.getD_cons_succ, Option.getD_some] at hs hR ⊢
    rw [pIf_b]
    refine ⟨fun hd => by rw [if_pos hd] at hR; exact hR, fun hd => ?_⟩
    rw [if_neg (by rw [hd]; simp)] at hR
    rw [pLenS_s, pBin_ge, pIf_d]
    refine ⟨fun hge => ?_, fun hlt => ?_⟩
    · rw [extract_none (by omega)] at hR; exact hR
    · rw [pLenS_s, pBin_sub (by omega), pBin_gt, pIf_d]
      refine ⟨fun hgt => ?_, fun hle => ?_⟩
      · refine pSliceStr_s (l := a) (h := (dataOf y).size) rfl rfl (by omega) ?_
        rw [show (min a ((dataOf y).size : Int)) = a by omega, show (min (a + c) ((dataOf y).size : Int)) = (dataOf y).size by omega] at hR
        exact hR
      · rw [pBin_add (by omega)]
        refine pSliceStr_s (l := a) (h := a + c) rfl rfl (by omega) ?_
        rw [show (min a ((dataOf y).size : Int)) = a by omega, show (min (a + c) ((dataOf y).size : Int)) = a + c by omega] at hR
        exact hR

/-- A tree that is put into a row of our own. -/
theorem PT.new {n b : Nat} {es : List Value} {x : Tr} (h : RT n (Av.get w0 σ) es x) (hb : w0.heap.size ≤ b) (hn : σ b = none) {ety c : Nat} : PT n (Av.get w0 (σ.put b ⟨ety, es, c, (0, 0)⟩)) (.pointer (some ⟨b, 0, none⟩)) x := by
  have hl : es.length = 5 := by obtain ⟨_, _, _, _, _, rfl, _⟩ := RT.five h; rfl
  refine ⟨_, es, rfl, hl, fun i hi => ?_, mono_rt n _ _ _ _ (Keeps.put hn).le h⟩
  rw [addr_add, get_row hb put_at, Nat.zero_add]
theorem PT.load {n : Nat} {p : Value} {x : Tr} (h : PT n (Av.get w0 σ) p x) {K : (Nat → Value) → Prop} (hK : ∀ g : Nat → Value, RT n (Av.get w0 σ) (expl g 0 5) x → K g) : pLoad w0 5 p σ K := by
  obtain ⟨a, es, rfl, h5, h6, h7⟩ := h
  refine ⟨a, fun i => es.getD i undef, rfl, fun i hi => ?_, hK _ ?_⟩
  · rw [h6 i hi, List.getElem?_eq_getElem (by omega)]
    simp only [List.getD_eq_getElem?_getD, List.getElem?_eq_getElem (show i < es.length by omega), Option.getD_some]
  · have : expl (fun i => es.getD i undef) 0 5 = es := by
      match es, h5 with
      | [a, b, c, d, e], _ => rfl
    rw [this]; exact h7

theorem impl_TreeRead {n : Nat} {es : List Value} {v : Value} {x : Tr} {ps : List ByteArray} {a c : Int} (h : RT n (Av.get w0 σ) es x) (hp : RSl 1 RS (Av.get w0 σ) v ps) (hb : cntT n x ≤ 1000000000000) (ha : -9223372036854775808 ≤ a ∧ a ≤ 9223372036854775807) (hc : -9223372036854775808 ≤ c ∧ c ≤ 9223372036854775807) {R : Value → Vw → Prop}
    (hR : ∀ σ', Keeps σ σ' → R (.tuple ⟨[.string (readT n x ps a c).1, .int .i64 (readT n x ps a c).2]⟩) σ') : AC Try.prog w0 n_impl_TreeRead [.agg ⟨es⟩, v, .int .i64 a, .int .i64 c] σ R := by
  have h0 := h
  obtain ⟨e0, e1, e2, e3, e4, rfl, _, hpv⟩ := RT.five h
  refine ac_impl_TreeRead ?_
  unfold vc_impl_TreeRead
  rw [hpv]
  simp only [cellOf_agg, List.getD_cons_zero, List.getD_cons_succ]
  intro b h1 h2
  have k1 : Keeps σ (σ.put b ⟨t_impl_Tree, [e0, e1, e2, e3, e4], 5, (0, 0)⟩) := Keeps.put h2
  have hq := PT.new (ety := t_impl_Tree) (c := 5) h0 h1 h2
  refine PT.load hq fun g hg => ?_
  refine impl_TreeOk hg hb ?_
  rw [pUn_not, pIf_b]
  refine ⟨fun hn => ?_, fun hn => ?_⟩
  · simp at hn
    have := hR _ k1
    simpa [readT, hn] using this
  have hok : treeOk n x = true := by simpa using hn
  have hwf : wfT n x := by simp only [treeOk, Bool.and_eq_true] at hok; exact sound_wf n x 0 hok.2.1
  have hR1 := hR _ k1
  simp only [readT, hok, if_true] at hR1
  rw [pBin_lt, pIf_d]
  refine ⟨fun h1 => by rw [if_pos (.inl h1)] at hR1; exact hR1, fun h1 => ?_⟩
  rw [pBin_lt, pIf_d]
  refine ⟨fun h2 => by rw [if_pos (.inr h2)] at hR1; exact hR1, fun h2 => ?_⟩
  rw [if_neg (by omega)] at hR1
  obtain _ | n := n
  · exact h0.elim
  refine impl_at hq hwf (hp.mono k1.le fun _ _ h => h) fun q hq' => ?_
  cases hat : atT x ps with
  | none =>
    rw [hat] at hR1 hq'
    obtain rfl : q = .pointer none := hq'
    rw [pBin_nil ptr_tree, pIf_b]
    exact ⟨fun _ => hR1, fun h => by simp at h⟩
  | some y =>
    rw [hat] at hR1 hq'
    have hq2 : PT (n + 1) _ q y := hq'
    obtain ⟨aq, esq, rfl, _⟩ := id hq2
    rw [pBin_nil ptr_tree, pIf_b]
    refine ⟨fun h => by simp at h, fun _ => ?_⟩
    refine hq2.ld 0 (by omega) fun es g he hg => ?_
    obtain ⟨u, w, rfl, _, hs, _, _, _⟩ := RT.cells he
    simp only [List.getElem?_cons_zero, List.getElem?_cons_succ, Option.some.injEq] at hg
    rw [← hg, pIf_b]
    simp only at hR1
    refine ⟨fun hd => by rw [if_pos hd] at hR1; exact hR1, fun hd => ?_⟩
    rw [if_neg (by rw [hd]; simp)] at hR1
    refine hq2.ld 2 (by omega) fun es g2 he hg2 => ?_
    obtain ⟨u, w, rfl, _, _, _, _, _⟩ := RT.cells he
    simp only [List.getElem?_cons_zero, List.getElem?_cons_succ, Option.some.injEq] at hg2
    refine hq2.ld 2 (by omega) fun es g3 he hg3 => ?_
    obtain ⟨u, w, rfl, _, _, _, _, _⟩ := RT.cells he
    simp only [List.getElem?_cons_zero, List.getElem?_cons_succ, Option.some.injEq] at hg3
    rw [← hg2, ← hg3, pLenS_s, pMin_s]
    refine pSliceStr_s (l := min a (dataOf y).size) (h := (dataOf y).size) rfl rfl (by omega) ?_
    rw [pLenS_s, pMin_s]
    have hsz : ((dataOf y).extract (min a ((dataOf y).size : Int)).toNat ((dataOf y).size : Int).toNat).size = (dataOf y).size - (min a ((dataOf y).size : Int)).toNat := by rw [ByteArray.size_extract]; omega
    refine pSliceStr_s (l := 0) (h := min c _) rfl rfl (by omega) ?_
    rw [ByteArray.extract_extract, hsz]
    rw [show (min a ((dataOf y).size : Int)).toNat + (0 : Int).toNat = (min a ((dataOf y).size : Int)).toNat by omega,
      show min ((min a ((dataOf y).size : Int)).toNat + (min c (((dataOf y).size - (min a ((dataOf y).size : Int)).toNat : Nat) : Int)).toNat) ((dataOf y).size : Int).toNat = (min (a + c) ((dataOf y).size : Int)).toNat by omega]
    exact hR1
end
end Go.Proofs.Ytkblkdnnncklgaa

/- Marks of trees. -/
set_option linter.unusedVariables false
set_option linter.unusedSimpArgs false
namespace Go.Proofs.Ytkblkdnnncklgaa
open Go Go.Av

def cT : Nat → Tr → Nat
  | 0, _ => 0
  | n + 1, .mk d m t ns ks => 3 + ns.length + sumBy (cT n) ks
noncomputable def mkT : Nat → Nat → Tr → Tr
  | 0, _, x => x
  | n + 1, k, .mk d m t ns ks => .mk (decide ((k : Int) % 3 = 0)) ((k + 1 : Nat) : Int) (mtext (k + 2)) (mkTexts (k + 3) ns) (mkS (mkT n) (cT n) (k + 3 + ns.length) ks)

theorem cT_le : ∀ (n : Nat) (x : Tr), cT n x ≤ 3 + 4 * szT n x
  | 0, _ => by simp [cT]
  | n + 1, .mk d m t ns ks => by
    have h : ∀ (l : List Tr), sumBy (cT n) l ≤ 3 * l.length + 4 * sumBy (szT n) l := by
      intro l
      induction l with
      | nil => simp [sumBy]
      | cons a r ih => have := cT_le n a; simp only [sumBy, List.length_cons]; omega
    have := h ks
    simp only [cT, szT]; omega

section
variable {w0 : World} {σ : Vw}

theorem markTreeS : ∀ (n : Nat) {σ : Vw} {F : List Nat} {v : Value} {xs : List Tr} {k : Nat} {R : Value → Vw → Prop}, OSl w0 5 (OT w0 n) σ F v xs → k + sumBy (cT n) xs ≤ 1000000000000 →
    (∀ σ', KeepsBut F σ σ' → OSl w0 5 (OT w0 n) σ' F v (mkS (mkT n) (cT n) k xs) → R (.int .i64 ((k + sumBy (cT n) xs : Nat) : Int)) σ') → AC Try.prog w0 n_laws_markTreeS [v, .int .i64 (k : Nat)] σ R := by
  intro n
  induction n using Nat.strongRecOn with
  | _ n ih =>
    intro σ F v xs k R h hk hR
    refine ac_laws_markTreeS ?_
    unfold vc_laws_markTreeS
    refine mark_loop (ok_rt w0 n) (mk := mkT n) (cnt := cT n) h hk ?_ hR
    intro j x k' s ys K hj hlen hkb hx hk' hO hyj hK
    simp only [vget, List.getD_cons_zero, List.getD_cons_succ]
    obtain ⟨b, o, f, c, A, C, r, hix, hb, hr, hc, hA, hOx, hbF, hf, hput⟩ := hO.focus (ok_rt w0 n) hyj
    obtain _ | n := n
    · exact hOx.elim
    obtain ⟨d, m, t, ns, ks⟩ := x
    obtain ⟨u, w, F1, F2, rfl, h2, h3, h4, h5, rfl, hnd⟩ := hOx
    simp only [cT] at hk'
    have hb1 : b ∉ F1 := fun e => (hf b (List.mem_append_left _ e)).2 rfl
    have hb2 : b ∉ F2 := fun e => (hf b (List.mem_append_right _ e)).2 rfl
    rw [pBin_rem (by omega), pBin_eq]
    refine hix _ ?_
    refine field_store hr hc hA (by show 0 < 5; omega) rfl ?_
    simp only [List.set_cons_zero, List.set_cons_succ]
    rw [pBin_add (by omega)]
    refine hix _ ?_
    refine field_store put_at rfl hA (by show 1 < 5; omega) rfl ?_
    simp only [List.set_cons_zero, List.set_cons_succ]
    rw [put_put, pBin_add (by omega)]
    rw [show ((k' : Nat) : Int) + 1 + 1 = ((k' + 2 : Nat) : Int) by omega]
    refine markText (by omega) fun s1 k1 => ?_
    refine hix _ ?_
    refine field_store (k1 _ _ put_at) rfl hA (by show 2 < 5; omega) rfl ?_
    simp only [List.set_cons_zero, List.set_cons_succ]
    rw [pBin_add (by omega)]
    refine hix _ ?_
    refine field_load hb put_at rfl hA (y := u) rfl fun g hg => ?_
    rw [hg]
    generalize hcs : [Value.bool (decide ((k' : Int) % 3 = 0)), Value.int .i64 ((k' : Int) + 1), Value.string (mtext (k' + 2)), u, w] = cs
    generalize hs2 : s1.put b _ = s2
    have hs2b : ∃ r2, s2 b = some r2 ∧ r2.cells = A ++ (cs ++ C) := by rw [← hs2, ← hcs]; exact ⟨_, put_at, rfl⟩
    have hs2o : ∀ i, i ≠ b → ∀ ri, s i = some ri → s2 i = some ri := fun i hi ri hri => by
      rw [← hs2]
      simp only [Vw.put, hi, if_false]
      exact k1 i ri (by simp [Vw.put, hi, hri])
    have kb2 : KeepsBut F s s2 := fun i ri hri hiF => hs2o i (fun e => hiF (e ▸ hbF)) ri hri
    clear hs2
    have fr : ∀ {G : List Nat}, (∀ i, i ∈ G → i ≠ b) → (∀ i, i ∈ G → s i ≠ none) → ∀ i, i ∈ G → s2 i = s i := fun h1 h2 i hi => by
      cases hs : s i with
      | none => exact absurd hs (h2 i hi)
      | some ri => exact hs2o i (h1 i hi) ri hs
    have o4 := h4.frame (ok_str w0) (fr (fun i hi e => hb1 (e ▸ hi)) fun i hi => (h4.dom (ok_str w0) i hi).2)
    have o5 := h5.frame (ok_rt w0 n) (fr (fun i hi e => hb2 (e ▸ hi)) fun i hi => (h5.dom (ok_rt w0 n) i hi).2)
    rw [show ((k' + 2 : Nat) : Int) + 1 = ((k' + 3 : Nat) : Int) by omega]
    refine markStringS o4 (by omega) fun s3 k3 o4' => ?_
    obtain ⟨r2, hr2, hc2⟩ := hs2b
    have hr3 := k3 b r2 hr2 hb1
    have hd12 : ∀ i, i ∈ F2 → i ∉ F1 := fun i hi hi' => (List.nodup_append.1 hnd).2.2 i hi' i hi rfl
    have o5' := o5.frame (ok_rt w0 n) (k3.at (fun i hi => (o5.dom (ok_rt w0 n) i hi).2) hd12)
    refine hix _ ?_
    refine field_load hb hr3 hc2 hA (y := w) (by rw [← hcs]; rfl) fun g2 hg2 => ?_
    rw [hg2]
    refine ih n (by omega) o5' (by omega) fun s4 k4 o5'' => ?_
    have hr4 := k4 b r2 hr3 hb2
    have o4'' := o4'.frame (ok_str w0) (k4.at (fun i hi => (o4'.dom (ok_str w0) i hi).2) fun i hi hi' => hd12 i hi' hi)
    rw [pBin_add (by have := h.1; omega)]
    have kf1 : ∀ i, i ∈ F1 → i ∈ F := fun i hi => (hf i (List.mem_append_left _ hi)).1
    have kf2 : ∀ i, i ∈ F2 → i ∈ F := fun i hi => (hf i (List.mem_append_right _ hi)).1
    have := hK s4 (kb2.trans ((k3.mono kf1).trans (k4.mono kf2))) (hput s4 cs (mkT (n + 1) k' (.mk d m t ns ks)) r2 hr4 hc2 ?_ ?_)
    · simp only [cT] at this
      rw [show (k' + (3 + ns.length + sumBy (cT n) ks) : Nat) = k' + 3 + ns.length + sumBy (cT n) ks by omega] at this
      exact this
    · refine ⟨u, w, F1, F2, by rw [← hcs]; simp, ⟨by omega, by omega⟩, mtext_size (by omega), o4'', o5'', rfl, hnd⟩
    · intro i hi hne hif
      have d := hO.dom (ok_rt w0 (n + 1)) i hi
      cases hs : s i with
      | none => exact absurd hs d.2
      | some ri => exact k4 i ri (k3 i ri (hs2o i hne ri hs) fun e => hif (List.mem_append_left _ e)) fun e => hif (List.mem_append_right _ e)

theorem markTree {n : Nat} {F : List Nat} {es : List Value} {x : Tr} {k : Nat} {R : Value → Vw → Prop} (h : OT w0 n σ F es x) (hk : k + cT n x ≤ 1000000000000) (hR : ∀ σ', KeepsBut F σ σ' → (k : Int) ≤ ((k + cT n x : Nat) : Int) → R (.int .i64 ((k + cT n x - 3 : Nat) : Int)) σ') : AC Try.prog w0 n_laws_markTree [.agg ⟨es⟩, .int .i64 (k : Nat)] σ R := by
  obtain _ | n := n
  · exact h.elim
  obtain ⟨d, m, t, ns, ks⟩ := x
  obtain ⟨u, w, F1, F2, rfl, h2, h3, h4, h5, rfl, hnd⟩ := h
  refine ac_laws_markTree ?_
  unfold vc_laws_markTree
  rw [pVal_5 rfl rfl rfl (OSl.one' h4) (OSl.one' h5)]
  simp only [cellOf_agg, List.getD_cons_zero, List.getD_cons_succ]
  simp only [cT] at hk hR
  refine markStringS h4 (by omega) fun s3 k3 o4' => ?_
  have hd12 : ∀ i, i ∈ F2 → i ∉ F1 := fun i hi hi' => (List.nodup_append.1 hnd).2.2 i hi' i hi rfl
  have o5' := h5.frame (ok_rt w0 n) (k3.at (fun i hi => (h5.dom (ok_rt w0 n) i hi).2) hd12)
  refine markTreeS n o5' (by omega) fun s4 k4 o5'' => ?_
  have := hR s4 ((k3.mono fun i hi => List.mem_append_left _ hi).trans (k4.mono fun i hi => List.mem_append_right _ hi)) (by omega)
  rw [show (k + (3 + ns.length + sumBy (cT n) ks) - 3 : Nat) = k + ns.length + sumBy (cT n) ks by omega] at this
  exact this
end
end Go.Proofs.Ytkblkdnnncklgaa

/- The laws 'TreeRead' and 'TreeList', of the functions alone. -/
set_option linter.unusedVariables false
set_option linter.unusedSimpArgs false
namespace Go.Proofs.Ytkblkdnnncklgaa
open Go Go.Av

section
variable {w0 : World} {σ : Vw}

theorem listT_len {n : Nat} {x : Tr} {ps : List ByteArray} (h : IsT n x) (hf : fitT n x) : (listT n x ps).1.length ≤ 1000000000000 := by
  unfold listT
  split
  · cases hat : atT x ps with
    | none => simp
    | some y =>
      obtain ⟨h1, h2⟩ := at_all ps h (fit_all hf) hat
      simp only
      split
      · obtain _ | n := n
        · obtain ⟨_, _, h1⟩ := h1; exact h1.elim
        · exact h2.1.1
      · simp
  · simp

theorem sz_all : ∀ {n : Nat} {x : Tr} {b : Nat}, szT n x ≤ b → AllT (fun x => (namesOf x).length ≤ b) n x
  | 0, _, _, _ => trivial
  | n + 1, .mk d m t ns ks, b, h => by
    simp only [szT] at h
    refine ⟨by show ns.length ≤ b; omega, fun k hk => sz_all ?_⟩
    have := sumBy_mem (f := szT n) (show k ∈ ks from hk)
    omega
theorem listT_len2 {n : Nat} {x : Tr} {ps : List ByteArray} {b : Nat} (h : IsT n x) (hf : szT n x ≤ b) : (listT n x ps).1.length ≤ b := by
  unfold listT
  split
  · cases hat : atT x ps with
    | none => simp
    | some y =>
      obtain ⟨h1, h2⟩ := at_all ps h (sz_all hf) hat
      simp only
      split
      · obtain _ | n := n
        · obtain ⟨_, _, h1⟩ := h1; exact h1.elim
        · exact h2.1
      · simp
  · simp

/-- A list of texts, empty, in a row of our own. -/
theorem strs_new {b : Nat} (hb : w0.heap.size ≤ b) {ety : Nat} : OStrs w0 (σ.put b ⟨ety, [], 0, (0, 0)⟩) [b] (.slice (some ⟨b, 0, none⟩) 0 0) [] := (OAcc.new (O := OStr) hb).osl

theorem fresh_of {F F' : List Nat} {σ σ1 : Vw} (k : Keeps σ σ1) (hF : ∀ i, i ∈ F → σ i = none) (h : ∀ i, i ∈ F' → i ∈ F ∨ σ1 i = none) : ∀ i, i ∈ F' → σ i = none := fun i hi => by
  rcases h i hi with e | e
  · exact hF i e
  · cases hs : σ i with
    | none => rfl
    | some r => rw [k i r hs] at e; cases e

theorem spec_TreeList {n : Nat} {es : List Value} {v : Value} {x : Tr} {ps : List ByteArray} (h : RT n (Av.get w0 σ) es x) (hp : RSl 1 RS (Av.get w0 σ) v ps) (hb : cntT n x ≤ 1000000000000) (hf : fitT n x) {R : Value → Vw → Prop}
    (hR : ∀ v' F σ', Keeps σ σ' → OStrs w0 σ' F v' (listT n x ps).1 → (∀ b, b ∈ F → σ b = none) → R (.tuple ⟨[v', .int .i64 (listT n x ps).2]⟩) σ') : AC Try.prog w0 n_spec_TreeList [.agg ⟨es⟩, v] σ R := by
  have h0 := h
  have hlen := listT_len (ps := ps) ⟨_, _, h⟩ hf
  obtain ⟨_, _, _, _, _, rfl, _, hpv⟩ := RT.five h
  refine ac_spec_TreeList ?_
  unfold vc_spec_TreeList
  rw [hpv]
  simp only [cellOf_agg, List.getD_cons_zero, List.getD_cons_succ]
  have fin : ∀ c : Int, listT n x ps = ([], c) → pNew w0 t_string [] σ (fun n3 s4 => R (.tuple (⟨[.slice (some (Addr.mk n3 0 none)) 0 0, .int .i64 c]⟩)) s4) := fun c hc => by
    rw [hc] at hR
    exact fun b h1 h2 => hR _ [b] _ (Keeps.put h2) (strs_new h1) fun i hi => by rw [List.mem_singleton.1 hi]; exact h2
  refine spec_TreeOk h0 hb ?_
  rw [pUn_not, pIf_b]
  refine ⟨fun hn => fin 1 (by simp at hn; simp [listT, hn]), fun hn => ?_⟩
  have hok : treeOk n x = true := by simpa using hn
  have hwf : wfT n x := by simp only [treeOk, Bool.and_eq_true] at hok; exact sound_wf n x 0 hok.2.1
  refine spec_At ps h0 hwf hp fun es' he' => ?_
  rw [pExtract_s rfl, pExtract_s rfl]
  obtain ⟨u, w, rfl, _, _, hs, _, hpv'⟩ := RT.cells he'
  rw [hpv', pUn_not, pIf_b]
  cases hat : atT x ps with
  | none => exact ⟨fun _ => fin 3 (by simp [listT, hok, hat]), fun h => by simp at h⟩
  | some y =>
    rw [hat] at hs
    refine ⟨fun h => by simp at h, fun _ => ?_⟩
    simp only [cellOf_agg, List.getD_cons_zero, List.getD_cons_succ, Option.getD_some] at hs ⊢
    rw [pUn_not, pIf_b]
    refine ⟨fun hd => fin 4 (by simp at hd; simp [listT, hok, hat, hd]), fun hd => ?_⟩
    have e : listT n x ps = (namesOf y, 0) := by simp at hd; simp [listT, hok, hat, hd]
    rw [e] at hR hlen
    intro b h1 h2
    refine (OAcc.new (w0 := w0) (σ := σ) (ety := t_string) (n := 1) (O := OStr) h1).all (ok_str w0) hs (Keeps.put h2).le (fun es y hy => ⟨rfl, hy⟩) (by simpa using hlen) (by omega) fun v' F' σ' k1 o1 f1 => ?_
    have hbn : ∀ i, i ∈ [b] → σ i = none := fun i hi => by rw [List.mem_singleton.1 hi]; exact h2
    exact hR v' F' σ' (k1.old (Keeps.put h2) hbn) (by simpa using o1.osl) (fresh_of (Keeps.put h2) hbn f1)

theorem impl_TreeList {n : Nat} {es : List Value} {v : Value} {x : Tr} {ps : List ByteArray} (h : RT n (Av.get w0 σ) es x) (hp : RSl 1 RS (Av.get w0 σ) v ps) (hb : cntT n x ≤ 1000000000000) (hf : fitT n x) {R : Value → Vw → Prop}
    (hR : ∀ v' F σ', Keeps σ σ' → OStrs w0 σ' F v' (listT n x ps).1 → (∀ b, b ∈ F → σ b = none) → R (.tuple ⟨[v', .int .i64 (listT n x ps).2]⟩) σ') : AC Try.prog w0 n_impl_TreeList [.agg ⟨es⟩, v] σ R := by
  have h0 := h
  have hlen := listT_len (ps := ps) ⟨_, _, h⟩ hf
  obtain ⟨e0, e1, e2, e3, e4, rfl, _, hpv⟩ := RT.five h
  refine ac_impl_TreeList ?_
  unfold vc_impl_TreeList
  rw [hpv]
  simp only [cellOf_agg, List.getD_cons_zero, List.getD_cons_succ]
  intro b h1 h2
  have k1 : Keeps σ (σ.put b ⟨t_impl_Tree, [e0, e1, e2, e3, e4], 5, (0, 0)⟩) := Keeps.put h2
  have hq := PT.new (ety := t_impl_Tree) (c := 5) h0 h1 h2
  generalize hs1 : σ.put b ⟨t_impl_Tree, [e0, e1, e2, e3, e4], 5, (0, 0)⟩ = s1 at k1 hq
  have back : ∀ i, s1 i = none → σ i = none := fun i hi => by
    cases hs : σ i with
    | none => rfl
    | some r => rw [k1 i r hs] at hi; cases hi
  have fin : ∀ c : Int, listT n x ps = ([], c) → pNew w0 t_string [] s1 (fun n3 s4 => R (.tuple (⟨[.slice (some (Addr.mk n3 0 none)) 0 0, .int .i64 c]⟩)) s4) := fun c hc => by
    rw [hc] at hR
    exact fun b' h1 h2 => hR _ [b'] _ (k1.trans (Keeps.put h2)) (strs_new h1) fun i hi => by rw [List.mem_singleton.1 hi]; exact back _ h2
  refine PT.load hq fun g hg => ?_
  refine impl_TreeOk hg hb ?_
  rw [pUn_not, pIf_b]
  refine ⟨fun hn => fin 1 (by simp at hn; simp [listT, hn]), fun hn => ?_⟩
  have hok : treeOk n x = true := by simpa using hn
  have hwf : wfT n x := by simp only [treeOk, Bool.and_eq_true] at hok; exact sound_wf n x 0 hok.2.1
  obtain _ | n := n
  · exact h0.elim
  refine impl_at hq hwf (hp.mono k1.le fun _ _ h => h) fun q hq' => ?_
  cases hat : atT x ps with
  | none =>
    rw [hat] at hq'
    obtain rfl : q = .pointer none := hq'
    rw [pBin_nil ptr_tree, pIf_b]
    exact ⟨fun _ => fin 3 (by simp [listT, hok, hat]), fun h => by simp at h⟩
  | some y =>
    rw [hat] at hq'
    have hq2 : PT (n + 1) _ q y := hq'
    obtain ⟨aq, esq, rfl, _⟩ := id hq2
    rw [pBin_nil ptr_tree, pIf_b]
    refine ⟨fun h => by simp at h, fun _ => ?_⟩
    refine hq2.ld 0 (by omega) fun es g he hg => ?_
    obtain ⟨u, w, rfl, _, _, _, _, _⟩ := RT.cells he
    simp only [List.getElem?_cons_zero, List.getElem?_cons_succ, Option.some.injEq] at hg
    rw [← hg, pUn_not, pIf_b]
    refine ⟨fun hd => fin 4 (by simp at hd; simp [listT, hok, hat, hd]), fun hd => ?_⟩
    have e : listT (n + 1) x ps = (namesOf y, 0) := by simp at hd; simp [listT, hok, hat, hd]
    rw [e] at hR hlen
    intro b' h1' h2'
    have k2 := Keeps.put (r := ⟨t_string, [], 0, (0, 0)⟩) h2'
    refine (hq2.mono k2.le).ld 3 (by omega) fun es g2 he hg2 => ?_
    obtain ⟨u, w, rfl, _, _, hs, _, _⟩ := RT.cells he
    simp only [List.getElem?_cons_zero, List.getElem?_cons_succ, Option.some.injEq] at hg2
    rw [← hg2]
    refine (OAcc.new (w0 := w0) (σ := s1) (ety := t_string) (n := 1) (O := OStr) h1').all (ok_str w0) hs (Le.refl _) (fun es y hy => ⟨rfl, hy⟩) (by simpa using hlen) (by omega) fun v' F' σ' k3 o1 f1 => ?_
    have hbn : ∀ i, i ∈ [b'] → s1 i = none := fun i hi => by rw [List.mem_singleton.1 hi]; exact h2'
    exact hR v' F' σ' (k1.trans (k3.old k2 hbn)) (by simpa using o1.osl) fun i hi => back i (fresh_of k2 hbn f1 i hi)

end
end Go.Proofs.Ytkblkdnnncklgaa

/- Rows of our own: cells stored, an element taken out in place, the copy of two lists in any order. -/
set_option linter.unusedVariables false
set_option linter.unusedSimpArgs false
namespace Go.Av
open Go Go.RowKit

section
variable {P : Program} {w0 : World} {σ σ' : Vw} {α γ : Type}

theorem cell_store {b o : Nat} {r : Row} {A c C new : List Value} {K : Vw → Prop} (hr : σ b = some r) (hc : r.cells = A ++ (c ++ C)) (hA : A.length = o) (hl : c.length = new.length)
    (hK : K (σ.put b { r with cells := A ++ (new ++ C) })) : pStore (.pointer (some ⟨b, o, none⟩)) new σ K := by
  refine ⟨b, o, r, rfl, hr, by rw [hc]; simp only [List.length_append]; omega, ?_⟩
  rw [hc, ← hA, setAt_mid A c new C hl]
  exact hK

/-- An element of a list of our own is written, all its cells. -/
theorem OSl.store {n : Nat} {Rel : (Addr → Option Value) → List Value → α → Prop} {O : Vw → List Nat → List Value → α → Prop} (ok : OOk w0 n Rel O) {F : List Nat} {v : Value} {xs : List α} (h : OSl w0 n O σ F v xs) {j : Nat} {x y : α} {new : List Value} (hj : xs[j]? = some x)
    (hO : ∀ f c σ', O σ f c x → O σ' f new y) (hn : new.length = n) {K : Vw → Prop}
    (hK : ∀ σ', KeepsBut F σ σ' → OSl w0 n O σ' F v (xs.set j y) → K σ') : pIndexAddr n v (.int .i64 j) fun p => pStore p new σ K := by
  obtain ⟨b, o, f, c, A, C, r, hix, hb, hr, hc, hA, hOx, hbF, hf, hput⟩ := h.focus ok hj
  refine hix _ ?_
  have hcl := ok.len _ _ _ _ hOx
  refine cell_store hr hc hA (by rw [hcl, hn]) ?_
  exact hK _ (KeepsBut.put hbF) (hput _ new y _ put_at rfl (hO _ _ _ hOx) fun i hi hne _ => by simp [Vw.put, hne])

def Vclone2 (w0 : World) (e1 n1 b1 e2 n2 b2 : Nat) (u v : Value) (σ : Vw) (K : Value → Value → Vw → Prop) : Prop :=
  (pNew w0 e1 [] σ (fun x0 s1 => (pAppendS w0 e1 n1 b1 (.slice (some (Addr.mk x0 0 none)) 0 0) u s1 (fun v2 s3 => pNew w0 e2 [] s3 (fun x4 s5 => pAppendS w0 e2 n2 b2 (.slice (some (Addr.mk x4 0 none)) 0 0) v s5 (fun v6 s7 => K v2 v6 s7)))) ∧
    (pNew w0 e2 [] s1 (fun x8 s9 => pAppendS w0 e1 n1 b1 (.slice (some (Addr.mk x0 0 none)) 0 0) u s9 (fun v10 s11 => pAppendS w0 e2 n2 b2 (.slice (some (Addr.mk x8 0 none)) 0 0) v s11 (fun v12 s13 => K v10 v12 s13)))))) ∧
  (pNew w0 e2 [] σ (fun x14 s15 => pNew w0 e1 [] s15 (fun x16 s17 => pAppendS w0 e1 n1 b1 (.slice (some (Addr.mk x16 0 none)) 0 0) u s17 (fun v18 s19 => pAppendS w0 e2 n2 b2 (.slice (some (Addr.mk x14 0 none)) 0 0) v s19 (fun v20 s21 => K v18 v20 s21)))))

theorem fresh_in {F F' : List Nat} {σ s : Vw} (k : Keeps σ s) (hF : ∀ i, i ∈ F → σ i = none) (h : ∀ i, i ∈ F' → i ∈ F ∨ s i = none) : ∀ i, i ∈ F' → σ i = none := fun i hi => by
  rcases h i hi with e | e
  · exact hF i e
  · cases hs : σ i with
    | none => rfl
    | some r => rw [k i r hs] at e; cases e
theorem KeepsBut.dom {F : List Nat} {σ σ' : Vw} (k : KeepsBut F σ σ') {i : Nat} (h : σ i ≠ none) (hF : i ∉ F) : σ' i ≠ none := by
  cases hs : σ i with
  | none => exact absurd hs h
  | some r => rw [k i r hs hF]; simp

theorem clone2 {e1 n1 b1 e2 n2 b2 : Nat} {R1 : (Addr → Option Value) → List Value → α → Prop} {O1 : Vw → List Nat → List Value → α → Prop} {R2 : (Addr → Option Value) → List Value → γ → Prop} {O2 : Vw → List Nat → List Value → γ → Prop}
    (ok1 : OOk w0 n1 R1 O1) (ok2 : OOk w0 n2 R2 O2) (hO1 : ∀ rd s es y, R1 rd es y → O1 s [] es y) (hO2 : ∀ rd s es y, R2 rd es y → O2 s [] es y) {u v : Value} {xs : List α} {ys : List γ}
    (hu : RSl n1 R1 (Av.get w0 σ) u xs) (hv : RSl n2 R2 (Av.get w0 σ) v ys) (hx : xs.length ≤ 1000000000000) (hy : ys.length ≤ 1000000000000) (hb1 : b1 ≤ 140) (hb2 : b2 ≤ 140) {K : Value → Value → Vw → Prop}
    (hK : ∀ u' F v' G σ', Keeps σ σ' → OAcc w0 e1 n1 O1 σ' F u' xs → OAcc w0 e2 n2 O2 σ' G v' ys → (∀ i, i ∈ F → σ i = none) → (∀ i, i ∈ G → σ i = none) → (∀ i, i ∈ F → i ∉ G) → K u' v' σ') : Vclone2 w0 e1 n1 b1 e2 n2 b2 u v σ K := by
  have nof : ∀ {σ s : Vw} {i : Nat}, Keeps σ s → s i = none → σ i = none := fun {σ s i} k hi => by
    cases hs : σ i with
    | none => rfl
    | some r => rw [k i r hs] at hi; cases hi
  refine ⟨fun x0 h1 h2 => ⟨?_, fun x8 h3 h4 => ?_⟩, fun x14 h1 h2 x16 h3 h4 => ?_⟩
  · have k0 : Keeps σ (σ.put x0 ⟨e1, [], 0, (0, 0)⟩) := Keeps.put h2
    refine OAcc.allX (F := [x0]) ok1 (OAcc.new h1) hu k0.le (hO1 _ _) (by simpa using hx) hb1 fun u' F s ex k1 o1 f1 x4 h3 h4 => ?_
    have hF0 : ∀ i, i ∈ [x0] → σ i = none := fun i hi => by rw [List.mem_singleton.1 hi]; exact h2
    have hF := fresh_in k0 hF0 f1
    have k1' := k1.old k0 hF0
    have k2 : Keeps s (s.put x4 ⟨e2, [], 0, (0, 0)⟩) := Keeps.put h4
    have o1' := o1.frame ok1 (k2.but_at fun b hb => (o1.dom ok1 b hb).2)
    refine OAcc.allX (F := [x4]) ok2 (OAcc.new h3) hv (k1'.trans k2).le (hO2 _ _) (by simpa using hy) hb2 fun v' G s' ex k3 o2 f2 => ?_
    have hG0 : ∀ i, i ∈ [x4] → s i = none := fun i hi => by rw [List.mem_singleton.1 hi]; exact h4
    have hG := fresh_in k2 hG0 f2
    have k3' := k3.old k2 hG0
    have o1'' := o1.frame ok1 (k3'.but_at fun b hb => (o1.dom ok1 b hb).2)
    refine hK u' F v' G s' (k1'.trans k3') (by simpa using o1'') (by simpa using o2) hF (fun i hi => nof k1' (hG i hi)) fun i hi hi' => (o1.dom ok1 i hi).2 (hG i hi')
  · have k0 : Keeps σ (σ.put x0 ⟨e1, [], 0, (0, 0)⟩) := Keeps.put h2
    have k1 : Keeps (σ.put x0 ⟨e1, [], 0, (0, 0)⟩) ((σ.put x0 ⟨e1, [], 0, (0, 0)⟩).put x8 ⟨e2, [], 0, (0, 0)⟩) := Keeps.put h4
    have a1 : OAcc w0 e1 n1 O1 (σ.put x0 ⟨e1, [], 0, (0, 0)⟩) [x0] (.slice (some ⟨x0, 0, none⟩) 0 0) [] := OAcc.new h1
    have a1' := a1.frame ok1 (k1.but_at fun b hb => (a1.dom ok1 b hb).2)
    have a2 : OAcc w0 e2 n2 O2 ((σ.put x0 ⟨e1, [], 0, (0, 0)⟩).put x8 ⟨e2, [], 0, (0, 0)⟩) [x8] (.slice (some ⟨x8, 0, none⟩) 0 0) [] := OAcc.new h3
    have hF0 : ∀ i, i ∈ [x0] → σ i = none := fun i hi => by rw [List.mem_singleton.1 hi]; exact h2
    have hG0 : ∀ i, i ∈ [x8] → σ i = none := fun i hi => by rw [List.mem_singleton.1 hi]; exact nof k0 h4
    have hne : x8 ≠ x0 := fun e => by rw [e, put_at] at h4; cases h4
    have k01 := k0.trans k1
    refine OAcc.allX (F := [x0]) ok1 a1' hu k01.le (hO1 _ _) (by simpa using hx) hb1 fun u' F s ex k2 o1 f1 => ?_
    have hF := fresh_in k01 hF0 f1
    have k2' := k2.old k01 hF0
    have a2' := a2.frame ok2 (k2.at (fun b hb => (a2.dom ok2 b hb).2) fun b hb hb' => hne ((List.mem_singleton.1 hb).symm.trans (List.mem_singleton.1 hb')))
    have hFG : x8 ∉ F := fun hi => by
      rcases f1 _ hi with e | e
      · exact hne (List.mem_singleton.1 e)
      · rw [put_at] at e; cases e
    refine OAcc.allX (F := [x8]) ok2 a2' hv k2'.le (hO2 _ _) (by simpa using hy) hb2 fun v' G s' ex k3 o2 f2 => ?_
    have o1' := o1.frame ok1 (k3.at (fun b hb => (o1.dom ok1 b hb).2) fun b hb hb' => hFG ((List.mem_singleton.1 hb') ▸ hb))
    refine hK u' F v' G s' (k3.old k2' hG0) (by simpa using o1') (by simpa using o2) hF (fresh_in k2' hG0 f2) fun i hi hi' => ?_
    rcases f2 i hi' with e | e
    · exact hFG ((List.mem_singleton.1 e) ▸ hi)
    · exact (o1.dom ok1 i hi).2 e
  · have k0 : Keeps σ (σ.put x14 ⟨e2, [], 0, (0, 0)⟩) := Keeps.put h2
    have k1 : Keeps (σ.put x14 ⟨e2, [], 0, (0, 0)⟩) ((σ.put x14 ⟨e2, [], 0, (0, 0)⟩).put x16 ⟨e1, [], 0, (0, 0)⟩) := Keeps.put h4
    have a2 : OAcc w0 e2 n2 O2 (σ.put x14 ⟨e2, [], 0, (0, 0)⟩) [x14] (.slice (some ⟨x14, 0, none⟩) 0 0) [] := OAcc.new h1
    have a2' := a2.frame ok2 (k1.but_at fun b hb => (a2.dom ok2 b hb).2)
    have a1 : OAcc w0 e1 n1 O1 ((σ.put x14 ⟨e2, [], 0, (0, 0)⟩).put x16 ⟨e1, [], 0, (0, 0)⟩) [x16] (.slice (some ⟨x16, 0, none⟩) 0 0) [] := OAcc.new h3
    have hG0 : ∀ i, i ∈ [x14] → σ i = none := fun i hi => by rw [List.mem_singleton.1 hi]; exact h2
    have hF0 : ∀ i, i ∈ [x16] → σ i = none := fun i hi => by rw [List.mem_singleton.1 hi]; exact nof k0 h4
    have hne : x16 ≠ x14 := fun e => by rw [e, put_at] at h4; cases h4
    have k01 := k0.trans k1
    refine OAcc.allX (F := [x16]) ok1 a1 hu k01.le (hO1 _ _) (by simpa using hx) hb1 fun u' F s ex k2 o1 f1 => ?_
    have hF := fresh_in k01 hF0 f1
    have k2' := k2.old k01 hF0
    have a2'' := a2'.frame ok2 (k2.at (fun b hb => (a2'.dom ok2 b hb).2) fun b hb hb' => hne ((List.mem_singleton.1 hb').symm.trans (List.mem_singleton.1 hb)))
    have hFG : x14 ∉ F := fun hi => by
      rcases f1 _ hi with e | e
      · exact hne (List.mem_singleton.1 e).symm
      · exact absurd e (a2'.dom ok2 x14 (List.mem_singleton.2 rfl)).2
    refine OAcc.allX (F := [x14]) ok2 a2'' hv k2'.le (hO2 _ _) (by simpa using hy) hb2 fun v' G s' ex k3 o2 f2 => ?_
    have o1' := o1.frame ok1 (k3.at (fun b hb => (o1.dom ok1 b hb).2) fun b hb hb' => hFG ((List.mem_singleton.1 hb') ▸ hb))
    refine hK u' F v' G s' (k3.old k2' hG0) (by simpa using o1') (by simpa using o2) hF (fresh_in k2' hG0 f2) fun i hi hi' => ?_
    rcases f2 i hi' with e | e
    · exact hFG ((List.mem_singleton.1 e) ▸ hi)
    · exact (o1.dom ok1 i hi).2 e

/-! ### An element is taken out, in place -/
def VDel (P : Program) (w0 : World) (T ety n bytes : Nat) (z : List Value) (a0 a1 a2 : Value) (σ : Vw) (R : Value → Vw → Prop) : Prop :=
  pLen a0 (fun v0 => pSlice3 n a0 (some a1) (some a2) (some v0) (fun v1 => pBin P T .eql a1 a2 (fun v2 => pIf v2 (R a0 σ) (pLen a0 (fun v3 => pSlice n a0 none (some a1) (fun v4 => pSlice n a0 (some a2) none (fun v5 => pAppendS w0 ety n bytes v4 v5 σ (fun v6 s7 => pLen v6 (fun v8 => pSlice n v6 (some v8) (some v3) (fun v9 => pClear n z v9 s7 (fun s10 => R v6 s10)))))))))))

theorem del_row {T ety n bytes b off cap j : Nat} {z : List Value} {r : Row} {pre post : List Value} {css : List (List Value)} (hz : z.length = n) (hz1 : ∀ c, c ∈ z → c.oneCell' = true) (hb : w0.heap.size ≤ b) (hr : σ b = some r) (hc : r.cells = pre ++ (css.flatten ++ post)) (hpre : pre.length = off)
    (hn : ∀ c, c ∈ css → c.length = n) (h1 : ∀ c, c ∈ css → ∀ u, u ∈ c → u.oneCell' = true) (hn0 : 0 < n) (hcap : css.length ≤ cap ∧ cap ≤ 9223372036854775807) (hj : j < css.length) {R : Value → Vw → Prop}
    (hR : R (.slice (some ⟨b, off, none⟩) (css.length - 1) cap) (σ.put b { r with cells := pre ++ ((css.take j ++ css.drop (j + 1)).flatten ++ (z ++ post)) })) :
    VDel P w0 T ety n bytes z (.slice (some ⟨b, off, none⟩) css.length cap) (.int .i64 (j : Nat)) (.int .i64 ((j : Int) + 1)) σ R := by
  obtain ⟨m, hm⟩ : ∃ m, css.length = j + 1 + m := ⟨css.length - (j + 1), by omega⟩
  have hcj := List.getElem?_eq_getElem hj
  have htl : ∀ c, c ∈ css.take j → c.length = n := fun c hc => hn c (List.mem_of_mem_take hc)
  have hdl : ∀ c, c ∈ css.drop (j + 1) → c.length = n := fun c hc => hn c (List.mem_of_mem_drop hc)
  have hfl := split_at hcj
  have hcl := hn _ (List.getElem_mem hj)
  have htlen : (css.take j).flatten.length = j * n := by rw [flat_len _ htl, List.length_take, Nat.min_eq_left (by omega)]
  have hdlen : (css.drop (j + 1)).flatten.length = m * n := by rw [flat_len _ hdl, List.length_drop]; congr 1; omega
  unfold VDel
  rw [pLen_s]
  refine ⟨some ⟨b, off, none⟩, css.length, cap, (j : Int), (j : Int) + 1, (css.length : Int), rfl, rfl, rfl, rfl, rfl, rfl, by omega, by omega, by omega, by omega, ?_⟩
  rw [pBin_eq, pIf_d]
  refine ⟨fun h => by omega, fun _ => ?_⟩
  rw [pLen_s]
  refine ⟨some ⟨b, off, none⟩, css.length, cap, 0, (j : Int), rfl, rfl, rfl, by omega, by omega, by omega, ?_⟩
  refine ⟨some ⟨b, off, none⟩, css.length, cap, (j : Int) + 1, (css.length : Int), rfl, rfl, rfl, by omega, by omega, by omega, ?_⟩
  have e0 : (if cap = (0 : Int).toNat then some (Addr.mk b off none) else (some (Addr.mk b off none)).map (·.add ((0 : Int).toNat * n))) = some (Addr.mk b off none) := by
    split
    · rfl
    · simp [Addr.add]
  rw [e0]
  simp only [Int.toNat_natCast, Int.toNat_zero, Nat.sub_zero]
  have ej : ((j : Int) + 1).toNat = j + 1 := by omega
  rw [ej]
  have hcells : r.cells = (pre ++ (css.take j).flatten) ++ ((css[j] ++ (css.drop (j + 1)).flatten) ++ post) := by rw [hc, hfl]; simp
  -- what is moved
  refine ⟨_, css.length - (j + 1), cap - (j + 1), (css.drop (j + 1)).flatten, rfl, by rw [hdlen]; congr 1; omega, fun u hu => ?_, fun i hi => ?_, .inl ⟨b, off, j, cap, r, rfl, hr, by omega, by rw [hdlen]; congr 1; omega, fun u hu => ?_, ?_, ?_⟩⟩
  · obtain ⟨c, hc1, hc2⟩ := List.mem_flatten.1 hu
    exact h1 c (List.mem_of_mem_drop hc1) u hc2
  · have hi' : i < m * n := by rw [← hdlen]; exact hi
    have hcapne : ¬ cap = j + 1 := fun e => by
      have : m = 0 := by omega
      subst this; omega
    refine ⟨_, by rw [if_neg hcapne]; rfl, ?_⟩
    rw [add_add, addr_add, get_row hb hr, hc, ← List.getElem?_eq_getElem hi]
    rw [List.getElem?_append_right (by omega), hpre]
    have e2 : off + ((j + 1) * n + i) - off = (j + 1) * n + i := by omega
    have hlt : (j + 1) * n + i < css.flatten.length := by
      rw [flat_len _ hn, hm, Nat.add_mul (j + 1)]; omega
    rw [e2, List.getElem?_append_left hlt]
    have h3 : css.flatten = (css.take (j + 1)).flatten ++ (css.drop (j + 1)).flatten := by rw [← List.flatten_append, List.take_append_drop]
    have h4 : (css.take (j + 1)).flatten.length = (j + 1) * n := by
      rw [flat_len _ fun c hc => hn c (List.mem_of_mem_take hc), List.length_take, Nat.min_eq_left (by omega)]
    rw [h3, List.getElem?_append_right (by omega), h4]
    congr 1; omega
  · obtain ⟨c, hc1, hc2⟩ := List.mem_flatten.1 hu
    exact h1 c (List.mem_of_mem_drop hc1) u hc2
  · rw [hcells]; simp only [List.length_append]; omega
  · -- the cells behind it
    generalize hDe : (css.drop (j + 1)).flatten = D at *
    generalize hTe : (css.take j).flatten = T' at *
    generalize hce : css[j] = cj at *
    have hB : (cj ++ D).length = n + m * n := by rw [List.length_append, hcl, hdlen]
    have hsplit : cj ++ D = (cj ++ D).take (m * n) ++ (cj ++ D).drop (m * n) := (List.take_append_drop _ _).symm
    have hold : ((cj ++ D).take (m * n)).length = D.length := by rw [List.length_take, hB, hdlen]; omega
    have hlast : ((cj ++ D).drop (m * n)).length = n := by rw [List.length_drop, hB]; omega
    have hset : setAt r.cells (off + j * n) D = (pre ++ T') ++ (D ++ ((cj ++ D).drop (m * n) ++ post)) := by
      have hA : (pre ++ T').length = off + j * n := by rw [List.length_append, hpre, htlen]
      have hcells2 : r.cells = (pre ++ T') ++ ((cj ++ D).take (m * n) ++ ((cj ++ D).drop (m * n) ++ post)) := by
        rw [hcells, ← List.append_assoc ((cj ++ D).take (m * n)), List.take_append_drop]
      rw [hcells2, ← hA, setAt_mid _ _ _ _ hold]
    rw [hset]
    have e3 : j + (css.length - (j + 1)) = css.length - 1 := by omega
    rw [e3, pLen_s]
    refine ⟨some ⟨b, off, none⟩, css.length - 1, cap, ((css.length - 1 : Nat) : Int), (css.length : Int), rfl, rfl, rfl, by omega, by omega, by omega, ?_⟩
    simp only [Int.toNat_natCast]
    have e4 : css.length - (css.length - 1) = 1 := by omega
    have hcapne : ¬ cap = css.length - 1 := by omega
    rw [e4, if_neg hcapne]
    refine ⟨hz, hz1, _, 1, cap - (css.length - 1), rfl, .inr ⟨b, off + (css.length - 1) * n, _, by simp [addr_add], by omega, put_at, ?_, ?_⟩⟩
    · simp only [List.length_append, hpre, htlen, hdlen, hlast]
      have : (css.length - 1) * n = j * n + m * n := by rw [← Nat.add_mul]; congr 1; omega
      omega
    · have e5 : (List.replicate 1 z).flatten = z := by simp
      have hA2 : (pre ++ T' ++ D).length = off + (css.length - 1) * n := by
        simp only [List.length_append, hpre, htlen, hdlen]
        have : (css.length - 1) * n = j * n + m * n := by rw [← Nat.add_mul]; congr 1; omega
        omega
      simp only
      rw [e5]
      have e6 : (pre ++ T') ++ (D ++ ((cj ++ D).drop (m * n) ++ post)) = (pre ++ T' ++ D) ++ ((cj ++ D).drop (m * n) ++ post) := by simp
      rw [e6, ← hA2, setAt_mid _ _ _ _ (by rw [hlast, hz]), put_put]
      have e7 : (pre ++ T' ++ D) ++ (z ++ post) = pre ++ ((css.take j ++ css.drop (j + 1)).flatten ++ (z ++ post)) := by
        rw [List.flatten_append, hTe, hDe]; simp
      rw [e7]
      exact hR

/-- An element of a list of our own is taken out: what is read then. -/
theorem OSl.del {T ety n bytes j : Nat} {z : List Value} {Rel : (Addr → Option Value) → List Value → α → Prop} {O : Vw → List Nat → List Value → α → Prop} (ok : OOk w0 n Rel O) (hO : ∀ s s' f es y, O s f es y → f = [] ∧ O s' f es y) (hz : z.length = n) (hz1 : ∀ c, c ∈ z → c.oneCell' = true) (hn0 : 0 < n) {F : List Nat} {v : Value} {xs : List α}
    (h : OSl w0 n O σ F v xs) (hj : j < xs.length) {R : Value → Vw → Prop} (hR : ∀ v' σ', KeepsBut F σ σ' → RSl n Rel (Av.get w0 σ') v' (xs.take j ++ xs.drop (j + 1)) → R v' σ') : VDel P w0 T ety n bytes z v (.int .i64 (j : Nat)) (.int .i64 ((j : Int) + 1)) σ R := by
  obtain ⟨g1, g2, ⟨rfl, rfl, _⟩ | ⟨b, off, cap, r, pre, post, css, Fs, rfl, gc, g3, g4, g5, g6, g7, g8, g9, g10⟩⟩ := h
  · simp at hj
  · have each : ∀ (i : Nat) (c : List Value), css[i]? = some c → ∃ x f, xs[i]? = some x ∧ O σ f c x := fun i c hi => by
      have hlt : i < css.length := (List.getElem?_eq_some_iff.1 hi).1
      exact ⟨_, _, List.getElem?_eq_getElem (by omega), g10 i c _ _ hi (List.getElem?_eq_getElem (by omega)) (List.getElem?_eq_getElem (by omega))⟩
    have hn : ∀ c, c ∈ css → c.length = n := fun c hc => by obtain ⟨i, hi⟩ := List.getElem?_of_mem hc; obtain ⟨x, f, _, ho⟩ := each i c hi; exact ok.len _ _ _ _ ho
    have h1 : ∀ c, c ∈ css → ∀ u, u ∈ c → u.oneCell' = true := fun c hc => by obtain ⟨i, hi⟩ := List.getElem?_of_mem hc; obtain ⟨x, f, _, ho⟩ := each i c hi; exact ok.one _ _ _ _ ho
    rw [← g7]
    refine del_row hz hz1 g3 g4 g5 g6 hn h1 hn0 (by rw [g7]; exact gc) (by omega) (hR _ _ (KeepsBut.put (by rw [g9]; exact List.mem_cons_self)) ?_)
    have hlen : (xs.take j ++ xs.drop (j + 1)).length = css.length - 1 := by simp only [List.length_append, List.length_take, List.length_drop]; omega
    refine ⟨_, cap, by rw [hlen], by rw [hlen]; omega, fun i x hi => ?_⟩
    -- the cells of the element
    have hget : ∃ c f, (css.take j ++ css.drop (j + 1))[i]? = some c ∧ O σ f c x := by
      by_cases hij : i < j
      · rw [List.getElem?_append_left (by rw [List.length_take]; omega), List.getElem?_take_of_lt hij] at hi
        refine ⟨css[i]'(by omega), _, ?_, g10 i _ x _ (List.getElem?_eq_getElem (by omega)) hi (List.getElem?_eq_getElem (by omega))⟩
        rw [List.getElem?_append_left (by rw [List.length_take]; omega), List.getElem?_take_of_lt hij]
        exact List.getElem?_eq_getElem (by omega)
      · rw [List.getElem?_append_right (by rw [List.length_take]; omega), List.getElem?_drop, List.length_take, Nat.min_eq_left (by omega)] at hi
        have hlt : j + 1 + (i - j) < xs.length := (List.getElem?_eq_some_iff.1 hi).1
        refine ⟨css[j + 1 + (i - j)]'(by omega), _, ?_, g10 _ _ x _ (List.getElem?_eq_getElem (by omega)) hi (List.getElem?_eq_getElem (by omega))⟩
        rw [List.getElem?_append_right (by rw [List.length_take]; omega), List.getElem?_drop, List.length_take, Nat.min_eq_left (by omega)]
        exact List.getElem?_eq_getElem (by omega)
    obtain ⟨c, f, hci, ho⟩ := hget
    have hn' : ∀ c, c ∈ css.take j ++ css.drop (j + 1) → c.length = n := fun c hc => by
      rcases List.mem_append.1 hc with h | h
      · exact hn c (List.mem_of_mem_take h)
      · exact hn c (List.mem_of_mem_drop h)
    obtain ⟨rfl, ho'⟩ := hO σ (σ.put b { r with cells := pre ++ ((css.take j ++ css.drop (j + 1)).flatten ++ (z ++ post)) }) f c x ho
    refine ⟨_, c, rfl, ok.len _ _ _ _ ho, fun k hk => ?_, ok.rel _ _ _ _ ho'⟩
    rw [addr_add, get_row g3 put_at]
    simp only
    rw [List.getElem?_append_right (by omega), show off + (i * n + k) - pre.length = i * n + k by omega, List.getElem?_append_left, flat_get _ hn' i c hci k hk]
    have hil : i < (css.take j ++ css.drop (j + 1)).length := (List.getElem?_eq_some_iff.1 hci).1
    rw [flat_len _ hn']
    calc i * n + k < i * n + n := by omega
      _ = (i + 1) * n := by rw [Nat.add_mul, Nat.one_mul]
      _ ≤ (css.take j ++ css.drop (j + 1)).length * n := Nat.mul_le_mul_right n hil
end
end Go.Av

/- 'TreeAt': copies of trees by either hand; marks of trees that are results; the law. -/
set_option linter.unusedVariables false
set_option linter.unusedSimpArgs false
namespace Go.Proofs.Ytkblkdnnncklgaa
open Go Go.Av

theorem none_at {σ s : Vw} (k : Keeps σ s) {i : Nat} (h : s i = none) : σ i = none := by
  cases hs : σ i with
  | none => rfl
  | some r => rw [k i r hs] at h; cases h
noncomputable def topT : Nat → Nat → Tr → Tr
  | 0, _, x => x
  | n + 1, k, .mk d m t ns ks => .mk d m t (mkTexts k ns) (mkS (mkT n) (cT n) (k + ns.length) ks)
theorem sumBy_congr {α : Type} {f g : α → Nat} : ∀ {xs : List α}, (∀ x, x ∈ xs → f x = g x) → sumBy f xs = sumBy g xs
  | [], _ => rfl
  | x :: xs, h => by simp only [sumBy]; rw [h x (by simp), sumBy_congr fun y hy => h y (by simp [hy])]
theorem sz_up : ∀ {n : Nat} {x : Tr}, IsT n x → szT (n + 1) x = szT n x
  | 0, _, ⟨_, _, h⟩ => h.elim
  | n + 1, .mk d m t ns ks, h => by
    have : sumBy (szT (n + 1)) ks = sumBy (szT n) ks := sumBy_congr fun k hk => sz_up (isT_kid h hk)
    show t.size + (ns.length + sumS ns) + (ks.length + sumBy (szT (n + 1)) ks) = t.size + (ns.length + sumS ns) + (ks.length + sumBy (szT n) ks)
    rw [this]
theorem sz_at : ∀ (ps : List ByteArray) {n : Nat} {x y : Tr}, IsT n x → atT x ps = some y → IsT n y ∧ szT n y ≤ szT n x
  | [], n, x, y, h, e => by cases e; exact ⟨h, Nat.le_refl _⟩
  | p :: r, 0, x, y, ⟨_, _, h⟩, e => h.elim
  | p :: r, n + 1, .mk d m t ns ks, y, h, e => by
    simp only [atT, Option.bind_eq_some_iff] at e
    obtain ⟨k, hk, e⟩ := e
    have hm := kid_mem hk
    have hi := isT_kid h hm
    obtain ⟨h1, h2⟩ := sz_at r hi e
    have h3 := sumBy_mem (f := szT n) (show k ∈ ks from hm)
    have h4 := sz_up h1
    obtain ⟨rd, es, h1⟩ := h1
    refine ⟨⟨rd, es, RT_up _ _ _ _ h1⟩, ?_⟩
    rw [h4]
    show _ ≤ t.size + (ns.length + sumS ns) + (ks.length + sumBy (szT n) ks)
    omega
noncomputable def atX (n : Nat) (x : Tr) (ps : List ByteArray) : Tr × Bool := if treeOk n x = true then ((atT x ps).getD zeroT, (atT x ps).isSome) else (zeroT, false)
theorem sz_zero : ∀ n, szT n zeroT = 0
  | 0 => rfl
  | n + 1 => rfl
theorem atX_sz {n : Nat} {x : Tr} {ps : List ByteArray} (h : IsT n x) : szT n (atX n x ps).1 ≤ szT n x := by
  unfold atX
  split
  · cases e : atT x ps with
    | none => simp [sz_zero]
    | some y => exact (sz_at ps h e).2
  · simp [sz_zero]

section
variable {w0 : World} {σ : Vw}

theorem heldTreeS : ∀ (n : Nat) {σ : Vw} {v : Value} {xs : List Tr} {k : Nat} {R : Value → Vw → Prop}, RSl 5 (RT n) (Av.get w0 σ) v (mkS (mkT n) (cT n) k xs) → k + sumBy (cT n) xs ≤ 1000000000000 →
    (∀ σ', Keeps σ σ' → R (.int .i64 ((k + sumBy (cT n) xs : Nat) : Int)) σ') → AC Try.prog w0 n_laws_heldTreeS [v, .int .i64 (k : Nat)] σ R := by
  intro n
  induction n using Nat.strongRecOn with
  | _ n ih =>
    intro σ v xs k R h hk hR
    refine ac_laws_heldTreeS ?_
    unfold vc_laws_heldTreeS
    refine held_loop (n := 5) (Rel := RT n) (fun _ _ _ _ hl h => mono_rt n _ _ _ _ hl h) (mk := mkT n) (cnt := cT n) h hk ?_ hR
    intro j x k' s K hj hkb hx hk' hrd hyj hK
    have hl := h.le
    rw [mkS_len] at hl
    simp only [vget, List.getD_cons_zero, List.getD_cons_succ]
    obtain _ | n := n
    · refine hrd.atf hyj 0 (by omega) fun es g h1 _ => h1.elim
    obtain ⟨d, m, t, ns, ks⟩ := x
    simp only [cT] at hk' hK
    refine hrd.atf hyj 0 (by omega) fun es g h1 hg => ?_
    obtain ⟨u, w, rfl, _⟩ := h1
    simp only [List.getElem?_cons_zero, List.getElem?_cons_succ, Option.some.injEq] at hg
    rw [← hg, pBin_rem (by omega), pBin_eq, pBin_b (v := .bool false) (by kernel_rfl) (by simp), pIf_b]
    refine ⟨nofun, fun _ => ?_⟩
    rw [pBin_add (by omega)]
    refine hrd.atf hyj 1 (by omega) fun es g h1 hg => ?_
    obtain ⟨u, w, rfl, _⟩ := h1
    simp only [List.getElem?_cons_zero, List.getElem?_cons_succ, Option.some.injEq] at hg
    rw [← hg, pBin_ne, pIf_d]
    refine ⟨fun h => absurd (by omega) h, fun _ => ?_⟩
    rw [pBin_add (by omega), show ((k' : Nat) : Int) + 1 + 1 = ((k' + 2 : Nat) : Int) by omega]
    refine hrd.atfp hyj 2 (by omega) fun q es g h1 hg => ?_
    obtain ⟨u, w, rfl, _⟩ := h1
    simp only [List.getElem?_cons_zero, List.getElem?_cons_succ, Option.some.injEq] at hg
    refine markText (k := k' + 2) (by omega) fun s1 k1 => ⟨k1.stay, ?_⟩
    rw [← hg, pBin_sne, pIf_d]
    refine ⟨fun h => absurd rfl h, fun _ => ?_⟩
    rw [pBin_add (by omega), show ((k' + 2 : Nat) : Int) + 1 = ((k' + 3 : Nat) : Int) by omega]
    have hrd1 := hrd.mono k1.le fun es x => mono_rt (n + 1) _ _ es x k1.le
    refine hrd1.atf hyj 3 (by omega) fun es g h1 hg => ?_
    obtain ⟨u, w, rfl, _, _, hu, _⟩ := h1
    simp only [List.getElem?_cons_zero, List.getElem?_cons_succ, Option.some.injEq] at hg
    rw [← hg]
    refine heldStringS hu (by omega) fun s2 k2 => ?_
    rw [pBin_lt, pIf_d]
    refine ⟨fun h => by omega, fun _ => ?_⟩
    have hrd2 := hrd1.mono k2.le fun es x => mono_rt (n + 1) _ _ es x k2.le
    refine hrd2.atf hyj 4 (by omega) fun es g h1 hg => ?_
    obtain ⟨u', w', rfl, _, _, _, hw⟩ := h1
    simp only [List.getElem?_cons_zero, List.getElem?_cons_succ, Option.some.injEq] at hg
    rw [← hg]
    refine ih n (by omega) hw (by omega) fun s3 k3 => ?_
    rw [pBin_lt, pIf_d]
    refine ⟨fun h => by omega, fun _ => ?_⟩
    rw [pBin_add (by omega)]
    have := hK s3 ((k1.trans k2).trans k3)
    rw [show (k' + (3 + ns.length + sumBy (cT n) ks) : Nat) = k' + 3 + ns.length + sumBy (cT n) ks by omega] at this
    exact this

theorem cT_pos {n : Nat} {x : Tr} (h : IsT n x) : 3 ≤ cT n x := by
  obtain ⟨_, _, h⟩ := h
  obtain _ | n := n
  · exact h.elim
  obtain ⟨d, m, t, ns, ks⟩ := x
  simp only [cT]; omega
theorem heldTree {n : Nat} {es : List Value} {x : Tr} {k : Nat} {R : Value → Vw → Prop} (h : RT n (Av.get w0 σ) es (topT n k x)) (hk : k + cT n x ≤ 1000000000000) (hR : ∀ σ', Keeps σ σ' → R (.int .i64 ((k + cT n x - 3 : Nat) : Int)) σ') : AC Try.prog w0 n_laws_heldTree [.agg ⟨es⟩, .int .i64 (k : Nat)] σ R := by
  obtain _ | n := n
  · exact h.elim
  obtain ⟨d, m, t, ns, ks⟩ := x
  obtain ⟨u, w, rfl, h2, h3, h4, h5⟩ := h
  refine ac_laws_heldTree ?_
  unfold vc_laws_heldTree
  rw [pVal_5 rfl rfl rfl h4.one h5.one]
  simp only [cellOf_agg, List.getD_cons_zero, List.getD_cons_succ]
  simp only [cT] at hk hR
  refine heldStringS h4 (by omega) fun s1 k1 => ?_
  rw [pBin_lt, pIf_d]
  refine ⟨fun h => by omega, fun _ => ?_⟩
  refine heldTreeS n (h5.mono k1.le fun es x => mono_rt n _ _ es x k1.le) (by omega) fun s2 k2 => ?_
  rw [pBin_lt, pIf_d]
  refine ⟨fun h => by omega, fun _ => ?_⟩
  have := hR s2 (k1.trans k2)
  rw [show (k + (3 + ns.length + sumBy (cT n) ks) - 3 : Nat) = k + ns.length + sumBy (cT n) ks by omega] at this
  exact this
theorem markTop {n : Nat} {F : List Nat} {es : List Value} {x : Tr} {k : Nat} {R : Value → Vw → Prop} (h : OT w0 n σ F es x) (hk : k + cT n x ≤ 1000000000000) (hR : ∀ σ', KeepsBut F σ σ' → OT w0 n σ' F es (topT n k x) → R (.int .i64 ((k + cT n x - 3 : Nat) : Int)) σ') : AC Try.prog w0 n_laws_markTree [.agg ⟨es⟩, .int .i64 (k : Nat)] σ R := by
  obtain _ | n := n
  · exact h.elim
  obtain ⟨d, m, t, ns, ks⟩ := x
  obtain ⟨u, w, F1, F2, rfl, h2, h3, h4, h5, rfl, hnd⟩ := h
  refine ac_laws_markTree ?_
  unfold vc_laws_markTree
  rw [pVal_5 rfl rfl rfl (OSl.one' h4) (OSl.one' h5)]
  simp only [cellOf_agg, List.getD_cons_zero, List.getD_cons_succ]
  simp only [cT] at hk hR
  refine markStringS h4 (by omega) fun s3 k3 o4' => ?_
  have hd12 : ∀ i, i ∈ F2 → i ∉ F1 := fun i hi hi' => (List.nodup_append.1 hnd).2.2 i hi' i hi rfl
  have o5' := h5.frame (ok_rt w0 n) (k3.at (fun i hi => (h5.dom (ok_rt w0 n) i hi).2) hd12)
  refine markTreeS n o5' (by omega) fun s4 k4 o5'' => ?_
  have o4'' := o4'.frame (ok_str w0) (k4.at (fun i hi => (o4'.dom (ok_str w0) i hi).2) fun i hi hi' => hd12 i hi' hi)
  have := hR s4 ((k3.mono fun i hi => List.mem_append_left _ hi).trans (k4.mono fun i hi => List.mem_append_right _ hi)) ⟨u, w, F1, F2, rfl, h2, h3, o4'', o5'', rfl, hnd⟩
  rw [show (k + (3 + ns.length + sumBy (cT n) ks) - 3 : Nat) = k + ns.length + sumBy (cT n) ks by omega] at this
  exact this

theorem spec_l1Copy : ∀ (n : Nat) {σ : Vw} {es : List Value} {x : Tr} {R : Value → Vw → Prop}, RT n (Av.get w0 σ) es x → fitT n x → (∀ es' F σ', Keeps σ σ' → OT w0 n σ' F es' x → (∀ b, b ∈ F → σ b = none) → R (.agg ⟨es'⟩) σ') → AC Try.prog w0 n_spec_l1Copy [.agg ⟨es⟩] σ R
  | 0, _, _, _, _, h, _, _ => h.elim
  | n + 1, σ, es, .mk d md t ns ks, R, h, hf, hR => by
    obtain ⟨u, w, rfl, h2, h3, h4, h5⟩ := h
    obtain ⟨f1, f2, f3⟩ := hf
    refine ac_spec_l1Copy ?_
    unfold vc_spec_l1Copy
    rw [pVal_5 rfl rfl rfl h4.one h5.one]
    simp only [cellOf_agg, List.getD_cons_zero, List.getD_cons_succ]
    intro b hb1 hb2
    have kb : Keeps σ (σ.put b ⟨t_string, [], 0, (0, 0)⟩) := Keeps.put hb2
    have hb0 : ∀ i, i ∈ [b] → σ i = none := fun i hi => by rw [List.mem_singleton.1 hi]; exact hb2
    refine (OAcc.new (w0 := w0) (σ := σ) (ety := t_string) (n := 1) (O := OStr) hb1).all (ok_str w0) h4 kb.le (fun es y hy => ⟨rfl, hy⟩) (by simpa using f1) (by omega) fun u' F1 s1 k1 o1 g1 => ?_
    have K1 := k1.old kb hb0
    have hF1 := fresh_in kb hb0 g1
    rw [List.nil_append] at o1
    have hl5 := h5.le
    rw [pVal1 rfl, pVal1 rfl, pVal1 rfl, pVal1 (OSl.one' o1.osl), pVal_5 rfl rfl rfl (OSl.one' o1.osl) rfl]
    refine loop_rule (m := ks.length) (fun m l s => ∃ (j : Nat) (v' : Value) (F2 : List Nat), m + j = ks.length ∧ Keeps σ s ∧ OStrs w0 s F1 u' ns ∧ OAcc w0 t_impl_Tree 5 (OT w0 n) s F2 v' (ks.take j) ∧ (∀ i, i ∈ F2 → σ i = none) ∧ (∀ i, i ∈ F1 → i ∉ F2) ∧
        l = [.int .i64 (j : Nat), .bool d, .int .i64 md, .string t, u, w, .bool false, .int .i64 0, .string ⟨#[]⟩, .slice none 0 0, .slice none 0 0, .bool d, .int .i64 md, .string t, u', v']) ?_
      ⟨0, _, [], by omega, K1, o1.osl, OAcc.nil, by simp, by simp, rfl⟩
    rintro m l s L ⟨j, v', F2, hm, ks', p1, p2, hF2, hd, rfl⟩ hL
    simp only [vget, List.getD_cons_zero, List.getD_cons_succ]
    have h5' := h5.mono ks'.le fun es x => mono_rt n _ _ es x ks'.le
    rw [h5'.len, pBin_lt, pIf_d]
    refine ⟨fun hi => ?_, fun hi => ?_⟩
    · have hx := List.getElem?_eq_getElem (show j < ks.length by omega)
      generalize hxi : ks[j]'(by omega) = y at hx
      refine h5'.at hx fun g hg => ?_
      refine spec_l1Copy n hg (f3 y (List.mem_of_getElem? hx)) fun es3 F3 s3 k3 o3 g3 => ?_
      obtain ⟨a, b', c, d', e, rfl, _, hpv⟩ := RT.five ((ok_rt w0 n).rel _ _ _ _ o3)
      rw [hpv]
      simp only [cellOf_agg, List.getD_cons_zero, List.getD_cons_succ]
      have p2' := p2.frame (ok_rt w0 n) (k3.but_at fun b hb => (p2.dom (ok_rt w0 n) b hb).2)
      have p1' := p1.frame (ok_str w0) (k3.but_at fun b hb => (p1.dom (ok_str w0) b hb).2)
      refine p2'.one (ok_rt w0 n) o3 (fun i hi hi' => (p2.dom (ok_rt w0 n) i hi').2 (g3 i hi)) (by rw [List.length_take]; omega) (by omega) fun v4 F4 s4 k4 o4 g4 => ?_
      rw [pVal1 (OSl.one' o4.osl), pBin_add (by omega)]
      have K3 := ks'.trans k3
      have hF3 : ∀ i, i ∈ F3 → σ i = none := fun i hi => none_at ks' (g3 i hi)
      refine hL _ _ (m - 1) (by omega) ⟨j + 1, v4, F4, by omega, k4.old K3 hF2, p1'.frame (ok_str w0) (k4.at (fun i hi => (p1'.dom (ok_str w0) i hi).2) hd), ?_, fun i hi => ?_, fun i hi hi' => ?_, rfl⟩
      · rw [List.take_add_one, hx]; exact o4
      · rcases g4 i hi with h | h | h
        · exact hF2 i h
        · exact hF3 i h
        · exact none_at K3 h
      · rcases g4 i hi' with h | h | h
        · exact hd i hi h
        · exact (p1.dom (ok_str w0) i hi).2 (g3 i h)
        · exact (p1'.dom (ok_str w0) i hi).2 h
    · have e : j = ks.length := by omega
      subst e
      rw [List.take_length] at p2
      rw [pVal_5 rfl rfl rfl (OSl.one' p1) (OSl.one' p2.osl)]
      refine hR _ (F1 ++ F2) s ks' ⟨u', v', F1, F2, rfl, h2, h3, p1, p2.osl, rfl, List.nodup_append.2 ⟨p1.2.1, p2.osl.2.1, fun a ha b hb e => hd a ha (e ▸ hb)⟩⟩ fun i hi => ?_
      rcases List.mem_append.1 hi with h | h
      · exact hF1 i h
      · exact hF2 i h

theorem impl_Tree_clone : ∀ (n : Nat) {σ : Vw} {es : List Value} {x : Tr} {R : Value → Vw → Prop}, RT n (Av.get w0 σ) es x → fitT n x → (∀ es' F σ', Keeps σ σ' → OT w0 n σ' F es' x → (∀ b, b ∈ F → σ b = none) → R (.agg ⟨es'⟩) σ') → AC Try.prog w0 n_impl_Tree_clone [.agg ⟨es⟩] σ R
  | 0, _, _, _, _, h, _, _ => h.elim
  | n + 1, σ, es, .mk d md t ns ks, R, h, hf, hR => by
    obtain ⟨u, w, rfl, h2, h3, h4, h5⟩ := h
    obtain ⟨f1, f2, f3⟩ := hf
    refine ac_impl_Tree_clone ?_
    unfold vc_impl_Tree_clone
    rw [pVal_5 rfl rfl rfl h4.one h5.one]
    simp only [cellOf_agg, List.getD_cons_zero, List.getD_cons_succ]
    intro b hb1 hb2
    have kb : Keeps σ (σ.put b ⟨t_impl_Tree, [], 0, (0, 0)⟩) := Keeps.put hb2
    have hb0 : ∀ i, i ∈ [b] → σ i = none := fun i hi => by rw [List.mem_singleton.1 hi]; exact hb2
    have hl5 := h5.le
    rw [h5.len]
    refine loop_rule (m := ks.length) (fun m l s => ∃ (j : Nat) (v' : Value) (F2 : List Nat), m + j = ks.length ∧ Keeps σ s ∧ OAcc w0 t_impl_Tree 5 (OT w0 n) s F2 v' (ks.take j) ∧ (∀ i, i ∈ F2 → σ i = none) ∧
        l = [v', w, .int .i64 (ks.length : Nat), .int .i64 (j : Nat), .bool d, .int .i64 md, .string t, u, w, .bool false, .int .i64 0, .string ⟨#[]⟩, .slice none 0 0, .slice none 0 0]) ?_
      ⟨0, _, [b], by omega, kb, OAcc.new hb1, hb0, rfl⟩
    rintro m l s L ⟨j, v', F2, hm, ks', p2, hF2, rfl⟩ hL
    simp only [vget, List.getD_cons_zero, List.getD_cons_succ]
    have h5' := h5.mono ks'.le fun es x => mono_rt n _ _ es x ks'.le
    rw [pBin_lt, pIf_d]
    refine ⟨fun hi => ?_, fun hi => ?_⟩
    · have hx := List.getElem?_eq_getElem (show j < ks.length by omega)
      generalize hxi : ks[j]'(by omega) = y at hx
      refine h5'.at hx fun g hg => ?_
      obtain ⟨_, _, _, _, _, he, _, hpg⟩ := RT.five hg
      show pVal true 5 (.agg ⟨expl g 0 5⟩) _
      rw [hpg]
      refine impl_Tree_clone n hg (f3 y (List.mem_of_getElem? hx)) fun es3 F3 s3 k3 o3 g3 => ?_
      obtain ⟨a, b', c, d', e, rfl, _, hpv⟩ := RT.five ((ok_rt w0 n).rel _ _ _ _ o3)
      rw [hpv]
      simp only [cellOf_agg, List.getD_cons_zero, List.getD_cons_succ]
      have p2' := p2.frame (ok_rt w0 n) (k3.but_at fun b hb => (p2.dom (ok_rt w0 n) b hb).2)
      refine p2'.one (ok_rt w0 n) o3 (fun i hi hi' => (p2.dom (ok_rt w0 n) i hi').2 (g3 i hi)) (by rw [List.length_take]; omega) (by omega) fun v4 F4 s4 k4 o4 g4 => ?_
      rw [pBin_add (by omega)]
      have K3 := ks'.trans k3
      have hF3 : ∀ i, i ∈ F3 → σ i = none := fun i hi => none_at ks' (g3 i hi)
      refine hL _ _ (m - 1) (by omega) ⟨j + 1, v4, F4, by omega, k4.old K3 hF2, ?_, fun i hi => ?_, rfl⟩
      · rw [List.take_add_one, hx]; exact o4
      · rcases g4 i hi with h | h | h
        · exact hF2 i h
        · exact hF3 i h
        · exact none_at K3 h
    · have e : j = ks.length := by omega
      subst e
      rw [List.take_length] at p2
      intro c hc1 hc2
      have kc : Keeps s (s.put c ⟨t_string, [], 0, (0, 0)⟩) := Keeps.put hc2
      have hc0 : ∀ i, i ∈ [c] → s i = none := fun i hi => by rw [List.mem_singleton.1 hi]; exact hc2
      have K := ks'.trans kc
      refine (OAcc.new (w0 := w0) (σ := s) (ety := t_string) (n := 1) (O := OStr) hc1).all (ok_str w0) h4 K.le (fun es y hy => ⟨rfl, hy⟩) (by simpa using f1) (by omega) fun u' F1 s1 k1 o1 g1 => ?_
      rw [List.nil_append] at o1
      have K1 := k1.old kc hc0
      have hF1 := fresh_in kc hc0 g1
      have q2 := p2.frame (ok_rt w0 n) (K1.but_at fun b hb => (p2.dom (ok_rt w0 n) b hb).2)
      have hd : ∀ i, i ∈ F1 → i ∉ F2 := fun i hi hi' => (p2.dom (ok_rt w0 n) i hi').2 (hF1 i hi)
      rw [pVal1 (OSl.one' o1.osl), pVal1 (OSl.one' q2.osl), pVal_5 rfl rfl rfl (OSl.one' o1.osl) (OSl.one' q2.osl)]
      refine hR _ (F1 ++ F2) s1 (ks'.trans K1) ⟨u', v', F1, F2, rfl, h2, h3, o1.osl, q2.osl, rfl, List.nodup_append.2 ⟨o1.osl.2.1, q2.osl.2.1, fun a ha b hb e => hd a ha (e ▸ hb)⟩⟩ fun i hi => ?_
      rcases List.mem_append.1 hi with h | h
      · exact none_at ks' (hF1 i h)
      · exact hF2 i h

theorem nil_tree {n : Nat} : OT w0 (n + 1) σ [] [.bool false, .int .i64 0, .string ⟨#[]⟩, .slice none 0 0, .slice none 0 0] zeroT :=
  ⟨_, _, [], [], rfl, by omega, by show 0 ≤ _; omega, ⟨by simp, by simp, .inl ⟨rfl, rfl, rfl⟩⟩, ⟨by simp, by simp, .inl ⟨rfl, rfl, rfl⟩⟩, rfl, by simp⟩

abbrev OutT (w0 : World) (n : Nat) (σ : Vw) (y : Tr × Bool) (R : Value → Vw → Prop) : Prop :=
  ∀ es' F σ', Keeps σ σ' → OT w0 n σ' F es' y.1 → (∀ b, b ∈ F → σ b = none) → R (.tuple ⟨[.agg ⟨es'⟩, .bool y.2]⟩) σ'

theorem spec_TreeAt {n : Nat} {es : List Value} {v : Value} {x : Tr} {ps : List ByteArray} (h : RT n (Av.get w0 σ) es x) (hp : RSl 1 RS (Av.get w0 σ) v ps) (hb : szT n x ≤ 1000000000000) {R : Value → Vw → Prop}
    (hR : OutT w0 n σ (atX n x ps) R) : AC Try.prog w0 n_spec_TreeAt [.agg ⟨es⟩, v] σ R := by
  have h0 := h
  have hsz := atX_sz (ps := ps) ⟨_, _, h⟩
  have hcnt : cntT n x ≤ 1000000000000 := Nat.le_trans (cnt_le n x) hb
  obtain ⟨_, _, _, _, _, rfl, _, hpv⟩ := RT.five h
  refine ac_spec_TreeAt ?_
  unfold vc_spec_TreeAt
  rw [hpv]
  simp only [cellOf_agg, List.getD_cons_zero, List.getD_cons_succ]
  refine spec_TreeOk h0 hcnt ?_
  rw [pUn_not, pIf_b]
  obtain _ | n := n
  · exact h0.elim
  refine ⟨fun hn => ?_, fun hn => ?_⟩
  · have e : atX (n + 1) x ps = (zeroT, false) := by simp at hn; simp [atX, hn]
    rw [e] at hR
    rw [pVal_5 rfl rfl rfl rfl rfl]
    exact hR _ [] σ (Keeps.refl _) nil_tree (by simp)
  have hok : treeOk (n + 1) x = true := by simpa using hn
  have hwf : wfT (n + 1) x := by simp only [treeOk, Bool.and_eq_true] at hok; exact sound_wf (n + 1) x 0 hok.2.1
  have e : atX (n + 1) x ps = ((atT x ps).getD zeroT, (atT x ps).isSome) := by simp [atX, hok]
  rw [e] at hR hsz
  refine spec_At ps h0 hwf hp fun es' he' => ?_
  rw [pExtract_s rfl, pExtract_s rfl]
  obtain ⟨a, b, c, d, e, rfl, _, hpv'⟩ := RT.five he'
  rw [hpv']
  simp only [cellOf_agg, List.getD_cons_zero, List.getD_cons_succ]
  refine spec_l1Copy (n + 1) he' (fit_of _ _ (Nat.le_trans hsz hb)) fun es2 F s2 k2 o2 f2 => ?_
  obtain ⟨a, b, c, d, e, rfl, _, hpv'⟩ := RT.five ((ok_rt w0 (n + 1)).rel _ _ _ _ o2)
  rw [hpv']
  simp only [cellOf_agg, List.getD_cons_zero, List.getD_cons_succ]
  exact hR _ F s2 k2 o2 f2

theorem impl_TreeAt {n : Nat} {es : List Value} {v : Value} {x : Tr} {ps : List ByteArray} (h : RT n (Av.get w0 σ) es x) (hp : RSl 1 RS (Av.get w0 σ) v ps) (hb : szT n x ≤ 1000000000000) {R : Value → Vw → Prop}
    (hR : OutT w0 n σ (atX n x ps) R) : AC Try.prog w0 n_impl_TreeAt [.agg ⟨es⟩, v] σ R := by
  have h0 := h
  have hsz := atX_sz (ps := ps) ⟨_, _, h⟩
  have hcnt : cntT n x ≤ 1000000000000 := Nat.le_trans (cnt_le n x) hb
  obtain ⟨e0, e1, e2, e3, e4, rfl, _, hpv⟩ := RT.five h
  refine ac_impl_TreeAt ?_
  unfold vc_impl_TreeAt
  rw [hpv]
  simp only [cellOf_agg, List.getD_cons_zero, List.getD_cons_succ]
  intro b h1 h2
  have k1 : Keeps σ (σ.put b ⟨t_impl_Tree, [e0, e1, e2, e3, e4], 5, (0, 0)⟩) := Keeps.put h2
  have hq := PT.new (ety := t_impl_Tree) (c := 5) h0 h1 h2
  generalize hs1 : σ.put b ⟨t_impl_Tree, [e0, e1, e2, e3, e4], 5, (0, 0)⟩ = s1 at k1 hq
  refine PT.load hq fun g hg => ?_
  refine impl_TreeOk hg hcnt ?_
  rw [pUn_not, pIf_b]
  obtain _ | n := n
  · exact h0.elim
  refine ⟨fun hn => ?_, fun hn => ?_⟩
  · have e : atX (n + 1) x ps = (zeroT, false) := by simp at hn; simp [atX, hn]
    rw [e] at hR
    rw [pVal_5 rfl rfl rfl rfl rfl]
    exact hR _ [] s1 k1 nil_tree (by simp)
  have hok : treeOk (n + 1) x = true := by simpa using hn
  have hwf : wfT (n + 1) x := by simp only [treeOk, Bool.and_eq_true] at hok; exact sound_wf (n + 1) x 0 hok.2.1
  have e : atX (n + 1) x ps = ((atT x ps).getD zeroT, (atT x ps).isSome) := by simp [atX, hok]
  rw [e] at hR hsz
  refine impl_at hq hwf (hp.mono k1.le fun _ _ h => h) fun q hq' => ?_
  cases hat : atT x ps with
  | none =>
    rw [hat] at hq' hR
    obtain rfl : q = .pointer none := hq'
    rw [pBin_nil ptr_tree, pIf_b]
    refine ⟨fun _ => ?_, fun h => by simp at h⟩
    rw [pVal_5 rfl rfl rfl rfl rfl]
    exact hR _ [] s1 k1 nil_tree (by simp)
  | some y =>
    rw [hat] at hq' hR hsz
    have hq2 : PT (n + 1) _ q y := hq'
    obtain ⟨aq, esq, rfl, _⟩ := id hq2
    rw [pBin_nil ptr_tree, pIf_b]
    refine ⟨fun h => by simp at h, fun _ => ?_⟩
    rw [pNil_s]
    refine hq2.load fun g hg => ?_
    refine impl_Tree_clone (n + 1) hg (fit_of _ _ (Nat.le_trans hsz hb)) fun es2 F s2 k2 o2 f2 => ?_
    obtain ⟨a, b, c, d, e, rfl, _, hpv'⟩ := RT.five ((ok_rt w0 (n + 1)).rel _ _ _ _ o2)
    rw [hpv']
    simp only [cellOf_agg, List.getD_cons_zero, List.getD_cons_succ]
    exact hR _ F s2 (k1.trans k2) o2 fun i hi => none_at k1 (f2 i hi)

theorem law_TreeAt {n : Nat} {es : List Value} {v : Value} {x : Tr} {ps : List ByteArray} (h : RT n (Av.get w0 σ) es x) (hp : RSl 1 RS (Av.get w0 σ) v ps) {R : Value → Vw → Prop} (hR : ∀ σ', R (.bool true) σ') :
    AC Try.prog w0 n_laws_FnExactTreeAt [.agg ⟨es⟩, v] σ R := by
  have h0 := h
  have hat := atX_sz (ps := ps) ⟨_, _, h⟩
  obtain ⟨e0, e1, e2, e3, e4, rfl, _, hpv⟩ := RT.five h
  refine ac_laws_FnExactTreeAt ?_
  unfold vc_laws_FnExactTreeAt
  rw [hpv]
  simp only [cellOf_agg, List.getD_cons_zero, List.getD_cons_succ]
  refine szTree n h0 (by omega) ?_
  rw [pBin_lt, pIf_d]
  refine ⟨fun _ => hR _, fun hb => ?_⟩
  rw [Av.left_neg] at hb
  rw [Av.left_in (by omega)]
  refine szStringS hp (by omega) ?_
  rw [pBin_lt, pIf_d]
  refine ⟨fun _ => hR _, fun hb2 => ?_⟩
  have hsz : szT n x ≤ 1048576 := by omega
  have hfit := fit_of n x (by omega)
  have hcT := cT_le n x
  have hcY := cT_le n (atX n x ps).1
  have hpl : ps.length ≤ 1048576 := by
    have e : left (1048576 - (szT n x : Int)) (ps.length + sumS ps) = Av.left (1048576 - (szT n x : Int)) (ps.length + sumS ps) := rfl
    rw [e, Av.left_neg] at hb2; omega
  have ok := ok_rt w0 n
  have eb : ∀ (b : Bool) (K : Value → Prop), pBin Try.prog 4 .neq (.bool b) (.bool b) K ↔ K (.bool false) := fun b K => pBin_b (by kernel_rfl) (by simp)
  refine toTree n h0 hfit fun es1 F1 s1 k1 o1 f1 => ?_
  refine toStringS' (hp.mono k1.le fun _ _ h => h) (by omega) fun v1 G1 s2 k2 p1 g1 => ?_
  refine spec_TreeAt (mono_rt n _ _ _ _ k2.le (ok.rel _ _ _ _ o1)) (p1.rel (ok_str w0)) (by omega) fun ew Fw s3 k3 ow fw => ?_
  rw [pExtract_s rfl, pExtract_s rfl]
  have hw := ok.rel _ _ _ _ ow
  obtain ⟨aw, bw, cw, dw, ew', rfl, _, hpw⟩ := RT.five hw
  rw [hpw]
  simp only [cellOf_agg, List.getD_cons_zero, List.getD_cons_succ]
  have K3 := (k1.trans k2).trans k3
  refine toTree n (mono_rt n _ _ _ _ K3.le h0) hfit fun es2 F2 s4 k4 o2 f2 => ?_
  have r2 := ok.rel _ _ _ _ o2
  obtain ⟨a2, b2, c2, d2, e2, rfl, q2, hp2⟩ := RT.five r2
  rw [hp2]
  simp only [cellOf_agg, List.getD_cons_zero, List.getD_cons_succ]
  refine toStringS' (hp.mono (K3.trans k4).le fun _ _ h => h) (by omega) fun v2 G2 s5 k5 p2 g2 => ?_
  refine impl_TreeAt (mono_rt n _ _ _ _ k5.le r2) (p2.rel (ok_str w0)) (by omega) fun eg Fg s6 k6 og fg => ?_
  rw [pExtract_s rfl, pExtract_s rfl]
  have rg := ok.rel _ _ _ _ og
  obtain ⟨ag, bg, cg, dg, eg', rfl, _, hpg⟩ := RT.five rg
  rw [hpg]
  simp only [cellOf_agg, List.getD_cons_zero, List.getD_cons_succ]
  have k36 := (k4.trans k5).trans k6
  refine eqTree n rg (mono_rt n _ _ _ _ k36.le hw) ?_
  rw [pUn_not, pIf_b]
  refine ⟨fun h => by simp at h, fun _ => ?_⟩
  rw [eb, pIf_b]
  refine ⟨nofun, fun _ => ?_⟩
  have K6 := K3.trans k36
  refine toTree n (mono_rt n _ _ _ _ K6.le h0) hfit fun es3 F3 s7 k7 o3 f3 => ?_
  refine eqTree n (mono_rt n _ _ _ _ ((k5.trans k6).trans k7).le r2) (ok.rel _ _ _ _ o3) ?_
  rw [pUn_not, pIf_b]
  refine ⟨fun h => by simp at h, fun _ => ?_⟩
  refine toStringS' (hp.mono (K6.trans k7).le fun _ _ h => h) (by omega) fun v3 G3 s8 k8 p3 g3 => ?_
  refine eqStringS ((p2.rel (ok_str w0)).mono ((k6.trans k7).trans k8).le fun _ _ h => h) (p3.rel (ok_str w0)) ?_
  rw [pUn_not, pIf_b]
  refine ⟨fun h => by simp at h, fun _ => ?_⟩
  have o28 := ok.frame _ s8 _ _ _ o2 ((((k5.trans k6).trans k7).trans k8).but_at fun b hb => (ok.dom _ _ _ _ o2 b hb).2)
  refine markTree (k := 1) o28 (by omega) fun s9 k9 _ => ?_
  have p28 := p2.frame (ok_str w0) (((k6.trans k7).trans k8).but_at fun b hb => (p2.dom (ok_str w0) b hb).2)
  have p29 := p28.frame (ok_str w0) (k9.at (fun b hb => (p28.dom (ok_str w0) b hb).2) fun b hb hb' => (ok.dom _ _ _ _ o2 b hb').2 (g2 b hb))
  refine markStringS p29 (by omega) fun s10 k10 _ => ?_
  rw [pBin_lt, pIf_d]
  refine ⟨fun h => by omega, fun _ => ?_⟩
  have k38 := (k36.trans k7).trans k8
  have kw10 : Keeps s3 s10 := k10.old (k9.old k38 f2) fun b hb => none_at k4 (g2 b hb)
  have g8 := ok.frame _ s8 _ _ _ og ((k7.trans k8).but_at fun b hb => (ok.dom _ _ _ _ og b hb).2)
  have g9 := ok.frame _ s9 _ _ _ g8 (k9.at (fun b hb => (ok.dom _ _ _ _ g8 b hb).2) fun b hb hb' => (ok.dom _ _ _ _ o2 b hb').2 (none_at k5 (fg b hb)))
  have g10 := ok.frame _ s10 _ _ _ g9 (k10.at (fun b hb => (ok.dom _ _ _ _ g9 b hb).2) fun b hb hb' => (p2.dom (ok_str w0) b hb').2 (fg b hb))
  refine eqTree n (ok.rel _ _ _ _ g10) (mono_rt n _ _ _ _ kw10.le hw) ?_
  rw [pUn_not, pIf_b]
  refine ⟨fun h => by simp at h, fun _ => ?_⟩
  rw [eb, pIf_b]
  refine ⟨nofun, fun _ => ?_⟩
  refine markTop (k := 1) g10 (by omega) fun s11 k11 g11 => ?_
  refine heldTree (k := 1) (ok.rel _ _ _ _ g11) (by omega) fun s12 k12 => ?_
  rw [pBin_lt, pIf_d]
  refine ⟨fun h => by omega, fun _ => ?_⟩
  rw [pBin_ne, pIf_d]
  refine ⟨fun h => absurd rfl h, fun _ => ?_⟩
  have g12 := ok.frame _ s12 _ _ _ g11 (k12.but_at fun b hb => (ok.dom _ _ _ _ g11 b hb).2)
  have kw12 : Keeps s3 s12 := (k11.old kw10 fun b hb => none_at (k4.trans k5) (fg b hb)).trans k12
  have K12 : Keeps σ s12 := K3.trans kw12
  refine toTree n (mono_rt n _ _ _ _ K12.le h0) hfit fun es4 F4 s13 k13 o4 f4 => ?_
  refine toStringS' (hp.mono (K12.trans k13).le fun _ _ h => h) (by omega) fun v4 G4 s14 k14 p4 g4 => ?_
  refine impl_TreeAt (mono_rt n _ _ _ _ k14.le (ok.rel _ _ _ _ o4)) (p4.rel (ok_str w0)) (by omega) fun eh Fh s15 k15 oh fh => ?_
  rw [pExtract_s rfl, pExtract_s rfl]
  have rh := ok.rel _ _ _ _ oh
  obtain ⟨ah, bh, ch, dh, eh', rfl, _, hph⟩ := RT.five rh
  rw [hph]
  simp only [cellOf_agg, List.getD_cons_zero, List.getD_cons_succ]
  have k1215 := (k13.trans k14).trans k15
  refine eqTree n rh (mono_rt n _ _ _ _ (kw12.trans k1215).le hw) ?_
  rw [pUn_not, pIf_b]
  refine ⟨fun h => by simp at h, fun _ => ?_⟩
  rw [eb, pIf_b]
  refine ⟨nofun, fun _ => ?_⟩
  have g15 := ok.frame _ s15 _ _ _ g12 (k1215.but_at fun b hb => (ok.dom _ _ _ _ g12 b hb).2)
  refine heldTree (k := 1) (ok.rel _ _ _ _ g15) (by omega) fun s16 k16 => ?_
  rw [pBin_lt, pIf_d]
  refine ⟨fun h => by omega, fun _ => ?_⟩
  rw [pBin_ne, pIf_d]
  exact ⟨fun h => absurd rfl h, fun _ => hR _⟩
end
end Go.Proofs.Ytkblkdnnncklgaa

/- Calls; marks of marks; the trail of a call by either hand; the law 'TrailOf'. -/
set_option linter.unusedVariables false
set_option linter.unusedSimpArgs false
namespace Go.Proofs.Ytkblkdnnncklgaa
open Go Go.Av

/-- A call: its kind, its path, where to, a number, bytes. -/
abbrev Cl := Int × List ByteArray × List ByteArray × Int × ByteArray
abbrev i64r (n : Int) : Prop := -9223372036854775808 ≤ n ∧ n ≤ 9223372036854775807
def RCl (rd : Addr → Option Value) (es : List Value) (c : Cl) : Prop := ∃ u w, es = [.int .i64 c.1, u, w, .int .i64 c.2.2.2.1, .string c.2.2.2.2] ∧ RSl 1 RS rd u c.2.1 ∧ RSl 1 RS rd w c.2.2.1 ∧ i64r c.1 ∧ i64r c.2.2.2.1 ∧ c.2.2.2.2.size ≤ 9223372036854775807
def OCl (w0 : World) (σ : Vw) (F : List Nat) (es : List Value) (c : Cl) : Prop := ∃ u w F1 F2, es = [.int .i64 c.1, u, w, .int .i64 c.2.2.2.1, .string c.2.2.2.2] ∧ OStrs w0 σ F1 u c.2.1 ∧ OStrs w0 σ F2 w c.2.2.1 ∧ (i64r c.1 ∧ i64r c.2.2.2.1 ∧ c.2.2.2.2.size ≤ 9223372036854775807) ∧ F = F1 ++ F2 ∧ F.Nodup
def szCl (c : Cl) : Nat := (c.2.1.length + sumS c.2.1) + (c.2.2.1.length + sumS c.2.2.1) + c.2.2.2.2.size
noncomputable def pathB (xs : List ByteArray) : Bool := allNames xs && inB xs.length 1 4
noncomputable def callOk (c : Cl) : Bool :=
  inB c.1 1 6 && (pathB c.2.1 && (if c.1 = 1 ∨ c.1 = 6 then inB c.2.2.2.1 0 7 else if c.1 = 2 ∨ c.1 = 3 then inB c.2.2.2.1 0 24 else if c.1 = 5 then pathB c.2.2.1 else true))
noncomputable def ofT (n : Nat) (x : Tr) (c : Cl) : List Mk :=
  if treeOk n x = false then [] else if callOk c = false then []
  else if c.1 = 5 then [(c.2.1, isDir ((atT x c.2.1).getD zeroT)), (c.2.2.1, isDir ((atT x c.2.1).getD zeroT))] else [(c.2.1, false)]

section
variable {w0 : World} {σ : Vw}

theorem ok_cl (w0 : World) : OOk w0 5 RCl (OCl w0) := by
  refine ⟨?_, ?_, ?_, ?_, ?_, ?_⟩
  · rintro σ F es x ⟨u, w, F1, F2, h1, h2, h3, h4, rfl, h5⟩; exact ⟨u, w, h1, h2.rel (ok_str w0), h3.rel (ok_str w0), h4⟩
  · rintro σ σ' F es x ⟨u, w, F1, F2, h1, h2, h3, h4, rfl, h5⟩ hF
    exact ⟨u, w, F1, F2, h1, h2.frame (ok_str w0) fun b hb => hF b (List.mem_append_left _ hb), h3.frame (ok_str w0) fun b hb => hF b (List.mem_append_right _ hb), h4, rfl, h5⟩
  · rintro σ F es x ⟨u, w, F1, F2, h1, h2, h3, h4, rfl, h5⟩ b hb
    rcases List.mem_append.1 hb with h | h
    · exact h2.dom (ok_str w0) b h
    · exact h3.dom (ok_str w0) b h
  · rintro σ F es x ⟨u, w, F1, F2, h1, h2, h3, h4, rfl, h5⟩; exact h5
  · rintro σ F es x ⟨u, w, F1, F2, rfl, h2, h3, h4, h5⟩; rfl
  · rintro σ F es x ⟨u, w, F1, F2, rfl, h2, h3, h4, h5⟩ c hc
    simp at hc
    rcases hc with rfl | rfl | rfl | rfl | rfl
    · rfl
    · exact OSl.one' h2
    · exact OSl.one' h3
    · rfl
    · rfl
theorem mono_cl {rd rd' : Addr → Option Value} {es : List Value} {x : Cl} (hl : Le rd rd') (h : RCl rd es x) : RCl rd' es x := by
  obtain ⟨u, w, h1, h2, h3, h4⟩ := h; exact ⟨u, w, h1, h2.mono hl fun _ _ h => h, h3.mono hl fun _ _ h => h, h4⟩
theorem RCl.five {rd : Addr → Option Value} {es : List Value} {x : Cl} (h : RCl rd es x) {A : Prop} : pVal true 5 (.agg ⟨es⟩) A ↔ A := by
  obtain ⟨u, w, rfl, h2, h3, _⟩ := h; exact pVal_5 rfl h2.one h3.one rfl rfl
theorem RCl.shape {rd : Addr → Option Value} {es : List Value} {x : Cl} (h : RCl rd es x) : ∃ a b c d e, es = [a, b, c, d, e] := by obtain ⟨u, w, h1, _⟩ := h; exact ⟨_, _, _, _, _, h1⟩

theorem szCall {es : List Value} {x : Cl} {m : Int} {R : Value → Vw → Prop} (h : RCl (Av.get w0 σ) es x) (hm : 0 ≤ m ∧ m ≤ 9223372036854775807) (hR : R (.int .i64 (Av.left m (szCl x))) σ) : AC Try.prog w0 n_laws_szCall [.agg ⟨es⟩, .int .i64 m] σ R := by
  obtain ⟨k, p, t, a, d⟩ := x
  have h5 := h.five (A := True)
  obtain ⟨u, w, rfl, hu, hw, hk, ha, hd⟩ := h
  simp only at hd hu hw
  refine ac_laws_szCall ?_
  unfold vc_laws_szCall
  rw [pVal_5 rfl hu.one hw.one rfl rfl]
  simp only [cellOf_agg, List.getD_cons_zero, List.getD_cons_succ]
  have hsz : szCl (k, p, t, a, d) = (p.length + sumS p) + (t.length + sumS t) + d.size := rfl
  have low : m < (szCl (k, p, t, a, d) : Nat) → R (.int .i64 (-1)) σ := fun hlt => by rw [Av.left_low hlt] at hR; exact hR
  have el : ∀ (m : Int) (t : Nat), left m t = Av.left m t := fun _ _ => rfl
  refine szStringS hu hm ?_
  rw [el, pBin_lt, pIf_d]
  refine ⟨fun hlt => low (by rw [Av.left_neg] at hlt; omega), fun hge => ?_⟩
  rw [Av.left_neg] at hge
  rw [Av.left_in (by omega)]
  refine szStringS hw (by omega) ?_
  rw [el, pBin_lt, pIf_d]
  refine ⟨fun hlt => low (by rw [Av.left_neg] at hlt; omega), fun hge2 => ?_⟩
  rw [Av.left_neg] at hge2
  rw [Av.left_in (by omega), pLenS_s, pBin_sub (by omega), pBin_lt, pIf_d]
  refine ⟨fun hlt => low (by omega), fun hge3 => ?_⟩
  rw [Av.left_in (by omega)] at hR
  rw [show m - ((p.length + sumS p : Nat) : Int) - ((t.length + sumS t : Nat) : Int) - (d.size : Int) = m - ((szCl (k, p, t, a, d) : Nat) : Int) by omega]
  exact hR

theorem toCall {es : List Value} {x : Cl} {R : Value → Vw → Prop} (h : RCl (Av.get w0 σ) es x) (hp : x.2.1.length ≤ 1000000000000) (ht : x.2.2.1.length ≤ 1000000000000) (hR : ∀ es' F σ', Keeps σ σ' → OCl w0 σ' F es' x → (∀ b, b ∈ F → σ b = none) → R (.agg ⟨es'⟩) σ') : AC Try.prog w0 n_laws_toCall [.agg ⟨es⟩] σ R := by
  obtain ⟨k, p, t, a, d⟩ := x
  obtain ⟨u, w, rfl, hu, hw, hk⟩ := h
  simp only at hu hw hp ht
  refine ac_laws_toCall ?_
  unfold vc_laws_toCall
  rw [pVal_5 rfl hu.one hw.one rfl rfl]
  simp only [cellOf_agg, List.getD_cons_zero, List.getD_cons_succ]
  rw [pVal1 rfl]
  refine toStringS' hu hp fun u' F1 s1 k1 o1 f1 => ?_
  rw [pVal1 (OSl.one' o1)]
  refine toStringS' (hw.mono k1.le fun _ _ h => h) ht fun w' F2 s2 k2 o2 f2 => ?_
  rw [pVal1 (OSl.one' o2), pVal1 rfl, pVal1 rfl, pVal_5 rfl (OSl.one' o1) (OSl.one' o2) rfl rfl]
  have o1' := o1.frame (ok_str w0) (k2.but_at fun b hb => (o1.dom (ok_str w0) b hb).2)
  refine hR _ (F1 ++ F2) s2 (k1.trans k2) ⟨u', w', F1, F2, rfl, o1', o2, hk, rfl, List.nodup_append.2 ⟨o1.2.1, o2.2.1, fun a ha b hb e => (o1.dom (ok_str w0) a ha).2 (f2 a (e ▸ hb))⟩⟩ fun i hi => ?_
  rcases List.mem_append.1 hi with h | h
  · exact f1 i h
  · exact none_at k1 (f2 i h)

theorem eqCall {es es' : List Value} {x y : Cl} {R : Value → Vw → Prop} (h : RCl (Av.get w0 σ) es x) (h' : RCl (Av.get w0 σ) es' y) (hR : R (.bool (decide (x = y))) σ) : AC Try.prog w0 n_laws_eqCall [.agg ⟨es⟩, .agg ⟨es'⟩] σ R := by
  obtain ⟨k, p, t, a, d⟩ := x
  obtain ⟨k', p', t', a', d'⟩ := y
  obtain ⟨u, w, rfl, hu, hw, _⟩ := h
  obtain ⟨u', w', rfl, hu', hw', _⟩ := h'
  refine ac_laws_eqCall ?_
  unfold vc_laws_eqCall
  rw [pVal_5 rfl hu.one hw.one rfl rfl, pVal_5 rfl hu'.one hw'.one rfl rfl]
  simp only [cellOf_agg, List.getD_cons_zero, List.getD_cons_succ]
  have no : ¬ ((k, p, t, a, d) : Cl) = (k', p', t', a', d') → R (.bool false) σ := fun h => by rw [decide_eq_false h] at hR; exact hR
  rw [pBin_ne, pIf_d]
  refine ⟨fun e => no (fun h => e (by simp at h; exact h.1)), fun e1 => ?_⟩
  refine eqStringS hu hu' ?_
  rw [pUn_not, pIf_b]
  refine ⟨fun e => no (fun h => by simp at h e; exact e h.2.1), fun e2 => ?_⟩
  refine eqStringS hw hw' ?_
  rw [pUn_not, pIf_b]
  refine ⟨fun e => no (fun h => by simp at h e; exact e h.2.2.1), fun e3 => ?_⟩
  rw [pBin_ne, pIf_d]
  refine ⟨fun e => no (fun h => e (by simp at h; exact h.2.2.2.1)), fun e4 => ?_⟩
  rw [pBin_sne, pIf_d]
  refine ⟨fun e => no (fun h => e (by simp at h; exact h.2.2.2.2)), fun e5 => ?_⟩
  have : ((k, p, t, a, d) : Cl) = (k', p', t', a', d') := by
    simp at e2 e3
    rw [Decidable.not_not.1 e1, e2, e3, Decidable.not_not.1 e4, Decidable.not_not.1 e5]
  rw [decide_eq_true this] at hR; exact hR

theorem markCall {F : List Nat} {es : List Value} {x : Cl} {k : Nat} (h : OCl w0 σ F es x) (hk : k + (x.2.1.length + x.2.2.1.length) ≤ 1000000000000) {R : Value → Vw → Prop}
    (hR : ∀ σ', KeepsBut F σ σ' → R (.int .i64 ((k + x.2.1.length + x.2.2.1.length : Nat) : Int)) σ') : AC Try.prog w0 n_laws_markCall [.agg ⟨es⟩, .int .i64 (k : Nat)] σ R := by
  have h0 := (ok_cl w0).rel _ _ _ _ h
  obtain ⟨u, w, F1, F2, rfl, hu, hw, _, rfl, hnd⟩ := h
  refine ac_laws_markCall ?_
  unfold vc_laws_markCall
  rw [h0.five]
  refine markStringS hu (by omega) fun s1 k1 _ => ?_
  have hd : ∀ i, i ∈ F2 → i ∉ F1 := fun i hi hi' => (List.nodup_append.1 hnd).2.2 i hi' i hi rfl
  refine markStringS (hw.frame (ok_str w0) (k1.at (fun b hb => (hw.dom (ok_str w0) b hb).2) hd)) (by omega) fun s2 k2 _ => ?_
  exact hR s2 ((k1.mono fun b hb => List.mem_append_left _ hb).trans (k2.mono fun b hb => List.mem_append_right _ hb))

/-! ### Marks of marks -/
def cMk (m : Mk) : Nat := m.1.length + 1
noncomputable def mkMk (k : Nat) (m : Mk) : Mk := (mkTexts k m.1, decide (((k + m.1.length : Nat) : Int) % 3 = 0))
theorem markMarkS {F : List Nat} {v : Value} {xs : List Mk} {k : Nat} (h : OSl w0 2 (OMk w0) σ F v xs) (hk : k + sumBy cMk xs ≤ 1000000000000) {R : Value → Vw → Prop}
    (hR : ∀ σ', KeepsBut F σ σ' → OSl w0 2 (OMk w0) σ' F v (mkS mkMk cMk k xs) → R (.int .i64 ((k + sumBy cMk xs : Nat) : Int)) σ') : AC Try.prog w0 n_laws_markMarkS [v, .int .i64 (k : Nat)] σ R := by
  refine ac_laws_markMarkS ?_
  unfold vc_laws_markMarkS
  refine mark_loop (ok_mk w0) (mk := mkMk) (cnt := cMk) h hk ?_ hR
  intro j x k' s ys K hj hlen hkb hx hk' hO hyj hK
  simp only [vget, List.getD_cons_zero, List.getD_cons_succ]
  obtain ⟨b, o, f, c, A, C, r, hix, hb, hr, hc, hA, hOx, hbF, hf, hput⟩ := hO.focus (ok_mk w0) hyj
  obtain ⟨p, d⟩ := x
  obtain ⟨u, rfl, h4⟩ := hOx
  simp only [cMk] at hk' hK h4
  have hb1 : b ∉ f := fun e => (hf b e).2 rfl
  refine hix _ ?_
  refine field_load hb hr hc hA (y := u) rfl fun g hg => ?_
  rw [hg]
  refine markStringS h4 (by omega) fun s3 k3 o4' => ?_
  have hr3 := k3 b r hr hb1
  rw [pBin_rem (by omega), pBin_eq]
  refine hix _ ?_
  refine field_store hr3 hc hA (by show 1 < 2; omega) rfl ?_
  simp only [List.set_cons_zero, List.set_cons_succ]
  rw [pBin_add (by omega), pBin_add (by have := h.1; omega)]
  have kf : ∀ i, i ∈ f → i ∈ F := fun i hi => (hf i hi).1
  generalize hs4 : s3.put b _ = s4
  have hs4b : ∃ r2, s4 b = some r2 ∧ r2.cells = A ++ ([u, Value.bool (decide (((k' + p.length : Nat) : Int) % 3 = 0))] ++ C) := by rw [← hs4]; exact ⟨_, put_at, rfl⟩
  have hs4o : ∀ i, i ≠ b → s4 i = s3 i := fun i hi => by rw [← hs4]; simp [Vw.put, hi]
  clear hs4
  obtain ⟨r2, hr2, hc2⟩ := hs4b
  have o5 := o4'.frame (ok_str w0) (σ' := s4) fun i hi => hs4o i fun e => hb1 (e ▸ hi)
  have kb : KeepsBut F s s4 := fun i ri hri hiF => by
    rw [hs4o i fun e => hiF (e ▸ hbF)]
    exact k3 i ri hri fun e => hiF (kf i e)
  have := hK s4 kb (hput s4 _ (mkMk k' (p, d)) r2 hr2 hc2 ⟨u, rfl, o5⟩ fun i hi hne hif => ?_)
  · rw [show (k' + (p.length + 1) : Nat) = k' + p.length + 1 by omega] at this
    exact this
  · have dd := hO.dom (ok_mk w0) i hi
    rw [hs4o i hne]
    cases hs : s i with
    | none => exact absurd hs dd.2
    | some ri => exact k3 i ri hs hif
theorem heldMarkS {v : Value} {xs : List Mk} {k : Nat} (h : RSl 2 RMk (Av.get w0 σ) v (mkS mkMk cMk k xs)) (hk : k + sumBy cMk xs ≤ 1000000000000) {R : Value → Vw → Prop}
    (hR : ∀ σ', Keeps σ σ' → R (.int .i64 ((k + sumBy cMk xs : Nat) : Int)) σ') : AC Try.prog w0 n_laws_heldMarkS [v, .int .i64 (k : Nat)] σ R := by
  refine ac_laws_heldMarkS ?_
  unfold vc_laws_heldMarkS
  refine held_loop (n := 2) (Rel := RMk) (fun _ _ _ _ hl h => mono_mk hl h) (mk := mkMk) (cnt := cMk) h hk ?_ hR
  intro j x k' s K hj hkb hx hk' hrd hyj hK
  have hl := h.le
  rw [mkS_len] at hl
  obtain ⟨p, d⟩ := x
  simp only [cMk] at hk' hK
  simp only [vget, List.getD_cons_zero, List.getD_cons_succ]
  refine hrd.atf hyj 0 (by omega) fun es g h1 hg => ?_
  obtain ⟨u, rfl, h2⟩ := h1
  simp only [List.getElem?_cons_zero, List.getElem?_cons_succ, Option.some.injEq] at hg
  rw [← hg]
  have h2 : RSl 1 RS (Av.get w0 s) u (mkTexts k' p) := h2
  refine heldStringS h2 (by omega) fun s1 k1 => ?_
  rw [pBin_lt, pIf_d]
  refine ⟨fun h => by omega, fun _ => ?_⟩
  have hrd1 := hrd.mono k1.le fun es x => mono_mk k1.le
  refine hrd1.atf hyj 1 (by omega) fun es g h1 hg => ?_
  obtain ⟨u', rfl, _⟩ := h1
  simp only [List.getElem?_cons_zero, List.getElem?_cons_succ, Option.some.injEq] at hg
  rw [← hg, pBin_rem (by omega), pBin_eq, pBin_b (v := .bool false) (by kernel_rfl) (by simp [mkMk]), pIf_b]
  refine ⟨nofun, fun _ => ?_⟩
  rw [pBin_add (by omega), pBin_add (by omega)]
  have := hK s1 k1
  rw [show (k' + (p.length + 1) : Nat) = k' + p.length + 1 by omega] at this
  exact this

/-! ### When a call is one -/
theorem callOk_no {k a : Int} {p t : List ByteArray} {d : ByteArray} (h : ¬ (1 ≤ k ∧ k ≤ 6)) : callOk (k, p, t, a, d) = false := by
  have : inB k 1 6 = false := by simp only [inB]; simpa using h
  simp [callOk, this]
theorem callOk_path {k a : Int} {p t : List ByteArray} {d : ByteArray} (h : pathB p = false) : callOk (k, p, t, a, d) = false := by simp [callOk, h]

theorem inB_yes {k lo hi : Int} (h : lo ≤ k ∧ k ≤ hi) : inB k lo hi = true := by simp [inB, h]

set_option maxRecDepth 20000 in
set_option maxHeartbeats 4000000 in
theorem spec_l2CallOk {es : List Value} {c : Cl} (h : RCl (Av.get w0 σ) es c) {R : Value → Vw → Prop} (hR : R (.bool (callOk c)) σ) : AC Try.prog w0 n_spec_l2CallOk [.agg ⟨es⟩] σ R := by
  obtain ⟨k, p, t, a, d⟩ := c
  obtain ⟨u, w, rfl, hu, hw, _⟩ := h
  refine ac_spec_l2CallOk ?_
  unfold vc_spec_l2CallOk
  rw [pVal_5 rfl hu.one hw.one rfl rfl]
  simp only [cellOf_agg, List.getD_cons_zero, List.getD_cons_succ]
  simp only at hu hw
  have A7 : k = 1 ∨ k = 6 → AC Try.prog w0 n_spec_l2PathOk [u] σ (fun v1 s2 => pIf v1 (AC Try.prog w0 n_spec_l1In [.int .i64 a, .int .i64 0, .int .i64 7] s2 (fun v3 s4 => R v3 s4)) (R (.bool false) s2)) := fun hk => by
    refine spec_PathOk hu (pIf_b.2 ⟨fun e => spec_In ?_, fun e => ?_⟩)
    · have : callOk (k, p, t, a, d) = inB a 0 7 := by
        simp only [callOk]
        rw [if_pos hk, inB_yes (by omega), show pathB p = true from e]; simp
      rw [this] at hR; exact hR
    · rw [callOk_path e] at hR; exact hR
  have A24 : k = 2 ∨ k = 3 → AC Try.prog w0 n_spec_l2PathOk [u] σ (fun v1 s2 => pIf v1 (AC Try.prog w0 n_spec_l1In [.int .i64 a, .int .i64 0, .int .i64 24] s2 (fun v3 s4 => R v3 s4)) (R (.bool false) s2)) := fun hk => by
    refine spec_PathOk hu (pIf_b.2 ⟨fun e => spec_In ?_, fun e => ?_⟩)
    · have : callOk (k, p, t, a, d) = inB a 0 24 := by
        simp only [callOk]
        rw [if_neg (by omega), if_pos hk, inB_yes (by omega), show pathB p = true from e]; simp
      rw [this] at hR; exact hR
    · rw [callOk_path e] at hR; exact hR
  have A4 : k = 4 → AC Try.prog w0 n_spec_l2PathOk [u] σ (fun v1 s2 => R v1 s2) := fun hk => by
    refine spec_PathOk hu ?_
    have : callOk (k, p, t, a, d) = pathB p := by
      simp only [callOk]
      rw [if_neg (by omega), if_neg (by omega), if_neg (by omega), inB_yes (by omega)]; simp
    rw [this] at hR; exact hR
  have A5 : k = 5 → AC Try.prog w0 n_spec_l2PathOk [u] σ (fun v1 s2 => pIf v1 (AC Try.prog w0 n_spec_l2PathOk [w] s2 (fun v3 s4 => R v3 s4)) (R (.bool false) s2)) := fun hk => by
    refine spec_PathOk hu (pIf_b.2 ⟨fun e => spec_PathOk hw ?_, fun e => ?_⟩)
    · have : callOk (k, p, t, a, d) = pathB t := by
        simp only [callOk]
        rw [if_neg (by omega), if_neg (by omega), if_pos hk, inB_yes (by omega), show pathB p = true from e]; simp
      rw [this] at hR; exact hR
    · rw [callOk_path e] at hR; exact hR
  have A0 : ¬ (1 ≤ k ∧ k ≤ 6) → R (.bool false) σ := fun hk => by rw [callOk_no hk] at hR; exact hR
  clear hR
  repeat' (first | (with_reducible refine pBin_eq.2 ?_; with_reducible refine pIf_d.2 ⟨fun _ => ?_, fun _ => ?_⟩) | with_reducible refine pIf_d.2 ⟨fun _ => ?_, fun _ => ?_⟩)
  all_goals first | (exfalso; omega) | (with_reducible refine A7 ?_; omega) | (with_reducible refine A24 ?_; omega) | (with_reducible refine A4 ?_; omega) | (with_reducible refine A5 ?_; omega) | (with_reducible refine A0 ?_; omega)

set_option maxRecDepth 20000 in
set_option maxHeartbeats 4000000 in
theorem impl_Call_isCall {es : List Value} {c : Cl} (h : RCl (Av.get w0 σ) es c) {R : Value → Vw → Prop} (hR : R (.bool (callOk c)) σ) : AC Try.prog w0 n_impl_Call_isCall [.agg ⟨es⟩] σ R := by
  obtain ⟨k, p, t, a, d⟩ := c
  obtain ⟨u, w, rfl, hu, hw, _⟩ := h
  refine ac_impl_Call_isCall ?_
  unfold vc_impl_Call_isCall
  rw [pVal_5 rfl hu.one hw.one rfl rfl]
  simp only [cellOf_agg, List.getD_cons_zero, List.getD_cons_succ]
  simp only at hu hw
  refine impl_within ?_
  rw [pUn_not, pIf_b]
  refine ⟨fun e => ?_, fun e => ?_⟩
  · have e' : inB k 1 6 = false := by simpa using e
    rw [show callOk (k, p, t, a, d) = false by simp [callOk, e']] at hR; exact hR
  have hk6 : inB k 1 6 = true := by simpa using e
  have hk : 1 ≤ k ∧ k ≤ 6 := by simpa [inB] using hk6
  refine impl_namesOk hu ?_
  rw [pUn_not, pIf_b]
  refine ⟨fun e => ?_, fun e => ?_⟩
  · have e' : pathB p = false := (Bool.not_eq_true' (pathB p)).mp e
    rw [callOk_path e'] at hR; exact hR
  have hp : pathB p = true := (Bool.not_eq_false' (pathB p)).mp e
  have e0 : callOk (k, p, t, a, d) = (if k = 1 ∨ k = 6 then inB a 0 7 else if k = 2 ∨ k = 3 then inB a 0 24 else if k = 5 then pathB t else true) := by
    simp only [callOk]
    rw [hk6, hp]; simp
  rw [e0] at hR
  clear e0
  have A7 : k = 1 ∨ k = 6 → AC Try.prog w0 n_impl_modeOk [.int .i64 a] σ (fun v1 s2 => R v1 s2) := fun hk => by
    refine ac_impl_modeOk ?_
    unfold vc_impl_modeOk
    refine impl_within ?_
    rw [if_pos hk] at hR; exact hR
  have A24 : k = 2 ∨ k = 3 → AC Try.prog w0 n_impl_within [.int .i64 a, .int .i64 0, .int .i64 24] σ (fun v3 s4 => R v3 s4) := fun hk => by
    refine impl_within ?_
    rw [if_neg (by omega), if_pos hk] at hR; exact hR
  have A5 : k = 5 → AC Try.prog w0 n_impl_namesOk [w, .int .i64 1] σ (fun v3 s4 => R v3 s4) := fun hk => by
    refine impl_namesOk hw ?_
    rw [if_neg (by omega), if_neg (by omega), if_pos hk] at hR; exact hR
  have A4 : k = 4 → R (.bool true) σ := fun hk => by
    rw [if_neg (by omega), if_neg (by omega), if_neg (by omega)] at hR; exact hR
  clear hR
  repeat' (first | (with_reducible refine pBin_eq.2 ?_; with_reducible refine pIf_d.2 ⟨fun _ => ?_, fun _ => ?_⟩) | with_reducible refine pIf_d.2 ⟨fun _ => ?_, fun _ => ?_⟩)
  all_goals first | (exfalso; omega) | (with_reducible refine A7 ?_; omega) | (with_reducible refine A24 ?_; omega) | (with_reducible refine A4 ?_; omega) | (with_reducible refine A5 ?_; omega)

/-! ### Lists of one mark or two, in a row of our own -/
theorem one_mark {b ety : Nat} {v : Value} {p : List ByteArray} {d : Bool} {F : List Nat} (h : OStrs w0 σ F v p) (hb : w0.heap.size ≤ b) (hn : σ b = none) :
    OSl w0 2 (OMk w0) (σ.put b ⟨ety, [v, .bool d], 2, (0, 0)⟩) (b :: F) (.slice (some ⟨b, 0, none⟩) 1 1) [(p, d)] := by
  have hF : ∀ i, i ∈ F → i ≠ b := fun i hi e => (h.dom (ok_str w0) i hi).2 (e ▸ hn)
  refine ⟨by simp, List.nodup_cons.2 ⟨fun e => hF b e rfl, h.2.1⟩, .inr ⟨b, 0, 1, _, [], [], [[v, .bool d]], [F], rfl, by simp, hb, put_at, by simp, rfl, rfl, rfl, by simp, fun j c x f e1 e2 e3 => ?_⟩⟩
  cases j with
  | zero =>
    simp at e1 e2 e3
    subst e1 e2 e3
    exact ⟨v, rfl, h.frame (ok_str w0) fun i hi => by simp [Vw.put, hF i hi]⟩
  | succ j => simp at e1
theorem two_marks {b ety : Nat} {v v' : Value} {p p' : List ByteArray} {d d' : Bool} {F F' : List Nat} (h : OStrs w0 σ F v p) (h' : OStrs w0 σ F' v' p') (hd : ∀ i, i ∈ F → i ∉ F') (hb : w0.heap.size ≤ b) (hn : σ b = none) :
    OSl w0 2 (OMk w0) (σ.put b ⟨ety, [v, .bool d, v', .bool d'], 4, (0, 0)⟩) (b :: (F ++ F')) (.slice (some ⟨b, 0, none⟩) 2 2) [(p, d), (p', d')] := by
  have hF : ∀ i, i ∈ F → i ≠ b := fun i hi e => (h.dom (ok_str w0) i hi).2 (e ▸ hn)
  have hF' : ∀ i, i ∈ F' → i ≠ b := fun i hi e => (h'.dom (ok_str w0) i hi).2 (e ▸ hn)
  refine ⟨by simp, List.nodup_cons.2 ⟨fun e => ?_, List.nodup_append.2 ⟨h.2.1, h'.2.1, fun x hx y hy e => hd x hx (e ▸ hy)⟩⟩, .inr ⟨b, 0, 2, _, [], [], [[v, .bool d], [v', .bool d']], [F, F'], rfl, by simp, hb, put_at, by simp, rfl, rfl, rfl, by simp, fun j c x f e1 e2 e3 => ?_⟩⟩
  · rcases List.mem_append.1 e with e | e
    · exact hF b e rfl
    · exact hF' b e rfl
  · match j with
    | 0 =>
      simp at e1 e2 e3
      subst e1 e2 e3
      exact ⟨v, rfl, h.frame (ok_str w0) fun i hi => by simp [Vw.put, hF i hi]⟩
    | 1 =>
      simp at e1 e2 e3
      subst e1 e2 e3
      exact ⟨v', rfl, h'.frame (ok_str w0) fun i hi => by simp [Vw.put, hF' i hi]⟩
    | j + 2 => simp at e1
/-- .. and as they are read, of lists that may be another's. -/
theorem one_read {b ety : Nat} {v : Value} {p : List ByteArray} {d : Bool} (h : RSl 1 RS (Av.get w0 σ) v p) (hb : w0.heap.size ≤ b) (hn : σ b = none) :
    RSl 2 RMk (Av.get w0 (σ.put b ⟨ety, [v, .bool d], 2, (0, 0)⟩)) (.slice (some ⟨b, 0, none⟩) 1 1) [(p, d)] := by
  refine ⟨_, 1, rfl, by simp, fun j x hj => ⟨_, [v, .bool d], rfl, rfl, fun i hi => ?_, ?_⟩⟩
  · have hj0 : j = 0 := by have := (List.getElem?_eq_some_iff.1 hj).1; simp at this; omega
    subst hj0
    rw [addr_add, get_row hb put_at]; congr 1; omega
  · have hj0 : j = 0 := by have := (List.getElem?_eq_some_iff.1 hj).1; simp at this; omega
    subst hj0
    simp at hj
    subst hj
    exact ⟨v, rfl, h.mono (Keeps.put hn).le fun _ _ h => h⟩
theorem two_read {b ety : Nat} {v v' : Value} {p p' : List ByteArray} {d d' : Bool} (h : RSl 1 RS (Av.get w0 σ) v p) (h' : RSl 1 RS (Av.get w0 σ) v' p') (hb : w0.heap.size ≤ b) (hn : σ b = none) :
    RSl 2 RMk (Av.get w0 (σ.put b ⟨ety, [v, .bool d, v', .bool d'], 4, (0, 0)⟩)) (.slice (some ⟨b, 0, none⟩) 2 2) [(p, d), (p', d')] := by
  refine ⟨_, 2, rfl, by simp, fun j x hj => ?_⟩
  have hj2 : j < 2 := by have := (List.getElem?_eq_some_iff.1 hj).1; simpa using this
  match j, hj2 with
  | 0, _ =>
    simp at hj
    subst hj
    refine ⟨_, [v, .bool d], rfl, rfl, fun i hi => ?_, v, rfl, h.mono (Keeps.put hn).le fun _ _ h => h⟩
    rw [addr_add, get_row hb put_at]
    match i, hi with
    | 0, _ => rfl
    | 1, _ => rfl
  | 1, _ =>
    simp at hj
    subst hj
    refine ⟨_, [v', .bool d'], rfl, rfl, fun i hi => ?_, v', rfl, h'.mono (Keeps.put hn).le fun _ _ h => h⟩
    rw [addr_add, get_row hb put_at]
    match i, hi with
    | 0, _ => rfl
    | 1, _ => rfl

theorem impl_cloneMarks {v : Value} {ms : List Mk} (h : RSl 2 RMk (Av.get w0 σ) v ms) (hl : ms.length ≤ 1000000000) (hp : ∀ m, m ∈ ms → m.1.length ≤ 1000000000) {R : Value → Vw → Prop}
    (hR : ∀ v' F σ', Keeps σ σ' → OAcc w0 t_impl_Mark 2 (OMk w0) σ' F v' ms → (∀ b, b ∈ F → σ b = none) → R v' σ') : AC Try.prog w0 n_impl_cloneMarks [v] σ R := by
  refine ac_impl_cloneMarks ?_
  unfold vc_impl_cloneMarks
  intro b h1 h2
  have kb : Keeps σ (σ.put b ⟨t_impl_Mark, [], 0, (0, 0)⟩) := Keeps.put h2
  have hb0 : ∀ i, i ∈ [b] → σ i = none := fun i hi => by rw [List.mem_singleton.1 hi]; exact h2
  rw [h.len]
  refine loop_rule (m := ms.length) (fun m l s => ∃ (j : Nat) (v' : Value) (F : List Nat), m + j = ms.length ∧ Keeps σ s ∧ OAcc w0 t_impl_Mark 2 (OMk w0) s F v' (ms.take j) ∧ (∀ i, i ∈ F → σ i = none) ∧ l = [v', v, .int .i64 (ms.length : Nat), .int .i64 (j : Nat)]) ?_
    ⟨0, _, [b], by omega, kb, OAcc.new h1, hb0, rfl⟩
  rintro m l s L ⟨j, v', F, hm, ks, ho, hF, rfl⟩ hL
  simp only [vget, List.getD_cons_zero, List.getD_cons_succ]
  have h' := h.mono ks.le fun es x => mono_mk ks.le
  rw [pBin_lt, pIf_d]
  refine ⟨fun hi => ?_, fun hi => ?_⟩
  · have hx := List.getElem?_eq_getElem (show j < ms.length by omega)
    generalize hxi : ms[j]'(by omega) = y at hx
    have hyl := hp y (List.mem_of_getElem? hx)
    refine h'.at hx fun g hg => ?_
    obtain ⟨u, hg, hu⟩ := hg
    simp only [expl, List.cons.injEq, and_true] at hg
    obtain ⟨g0, g1⟩ := hg
    rw [g0, g1, pVal_2 hu.one rfl]
    intro c h3 h4
    have kc : Keeps s (s.put c ⟨t_string, [], 0, (0, 0)⟩) := Keeps.put h4
    have hc0 : ∀ i, i ∈ [c] → s i = none := fun i hi => by rw [List.mem_singleton.1 hi]; exact h4
    refine (OAcc.new (w0 := w0) (σ := s) (ety := t_string) (n := 1) (O := OStr) h3).all (ok_str w0) hu kc.le (fun es y hy => ⟨rfl, hy⟩) (by simp; omega) (by omega) fun u' F1 s1 k1 o1 g1 => ?_
    rw [List.nil_append] at o1
    have K1 := k1.old kc hc0
    have hF1 := fresh_in kc hc0 g1
    rw [pVal1 (OSl.one' o1.osl), pVal1 rfl, pVal_2 (OSl.one' o1.osl) rfl]
    have ho1 := ho.frame (ok_mk w0) (K1.but_at fun b hb => (ho.dom (ok_mk w0) b hb).2)
    refine ho1.one (ok_mk w0) (f := F1) (y := y) ⟨u', rfl, o1.osl⟩ (fun i hi hi' => (ho.dom (ok_mk w0) i hi').2 (hF1 i hi)) (by rw [List.length_take]; omega) (by omega) fun v4 F4 s4 k4 o4 g4 => ?_
    rw [pBin_add (by omega)]
    have KS := ks.trans K1
    refine hL _ _ (m - 1) (by omega) ⟨j + 1, v4, F4, by omega, k4.old KS hF, ?_, fun i hi => ?_, rfl⟩
    · rw [List.take_add_one, hx]; exact o4
    · rcases g4 i hi with h | h | h
      · exact hF i h
      · exact none_at ks (hF1 i h)
      · exact none_at KS h
  · have e : j = ms.length := by omega
    subst e
    rw [List.take_length] at ho
    exact hR v' F s ks ho hF

theorem ofT_5 {n : Nat} {x : Tr} {c : Cl} (hok : treeOk n x = true) (hco : callOk c = true) (h5 : c.1 = 5) : ofT n x c = [(c.2.1, isDir ((atT x c.2.1).getD zeroT)), (c.2.2.1, isDir ((atT x c.2.1).getD zeroT))] := by
  unfold ofT; rw [if_neg (by rw [hok]; simp), if_neg (by rw [hco]; simp), if_pos h5]
theorem ofT_1 {n : Nat} {x : Tr} {c : Cl} (hok : treeOk n x = true) (hco : callOk c = true) (h5 : ¬ c.1 = 5) : ofT n x c = [(c.2.1, false)] := by
  unfold ofT; rw [if_neg (by rw [hok]; simp), if_neg (by rw [hco]; simp), if_neg h5]

abbrev OutM (w0 : World) (σ : Vw) (ms : List Mk) (R : Value → Vw → Prop) : Prop :=
  ∀ v F σ', Keeps σ σ' → OSl w0 2 (OMk w0) σ' F v ms → (∀ b, b ∈ F → σ b = none) → R v σ'

theorem marks_none {ety : Nat} {R : Value → Vw → Prop} (hR : OutM w0 σ [] R) : pNew w0 ety [] σ (fun n3 s4 => R (.slice (some (Addr.mk n3 0 none)) 0 0) s4) := fun b h1 h2 =>
  hR _ [b] _ (Keeps.put h2) (OAcc.new (ety := ety) h1).osl fun i hi => by rw [List.mem_singleton.1 hi]; exact h2

theorem copy_path {v : Value} {xs : List ByteArray} (h : RSl 1 RS (Av.get w0 σ) v xs) (hl : xs.length ≤ 1000000000) {K : Value → Vw → Prop}
    (hK : ∀ v' F σ', Keeps σ σ' → OStrs w0 σ' F v' xs → (∀ b, b ∈ F → σ b = none) → K v' σ') : pNew w0 t_string [] σ (fun n0 s1 => pAppendS w0 t_string 1 16 (.slice (some (Addr.mk n0 0 none)) 0 0) v s1 (fun v2 s3 => K v2 s3)) := by
  intro b h1 h2
  have kb : Keeps σ (σ.put b ⟨t_string, [], 0, (0, 0)⟩) := Keeps.put h2
  have hb0 : ∀ i, i ∈ [b] → σ i = none := fun i hi => by rw [List.mem_singleton.1 hi]; exact h2
  refine (OAcc.new (w0 := w0) (σ := σ) (ety := t_string) (n := 1) (O := OStr) h1).all (ok_str w0) h kb.le (fun es y hy => ⟨rfl, hy⟩) (by simp; omega) (by omega) fun v' F' σ' k1 o1 f1 => ?_
  exact hK v' F' σ' (k1.old kb hb0) (by simpa using o1.osl) (fresh_in kb hb0 f1)

theorem path_len {p : List ByteArray} (h : pathB p = true) : p.length ≤ 4 := by
  simp only [pathB, Bool.and_eq_true, inB, decide_eq_true_eq] at h; omega
theorem callOk_of {c : Cl} (h : callOk c = true) : pathB c.2.1 = true ∧ (c.1 = 5 → pathB c.2.2.1 = true) := by
  simp only [callOk, Bool.and_eq_true] at h
  refine ⟨h.2.1, fun e => ?_⟩
  have := h.2.2
  rw [if_neg (by omega), if_neg (by omega), if_pos e] at this; exact this

theorem spec_TrailOf {n : Nat} {es cs : List Value} {x : Tr} {c : Cl} (h : RT n (Av.get w0 σ) es x) (hc : RCl (Av.get w0 σ) cs c) (hb : szT n x ≤ 1000000000000) {R : Value → Vw → Prop}
    (hR : OutM w0 σ (ofT n x c) R) : AC Try.prog w0 n_spec_TrailOf [.agg ⟨es⟩, .agg ⟨cs⟩] σ R := by
  have h0 := h
  have hc0 := hc
  have hcnt : cntT n x ≤ 1000000000000 := Nat.le_trans (cnt_le n x) hb
  obtain ⟨_, _, _, _, _, rfl, _, hpv⟩ := RT.five h
  obtain ⟨k, p, t, a, d⟩ := c
  have h5 : ∀ A : Prop, pVal true 5 (.agg ⟨cs⟩) A ↔ A := fun A => hc.five
  obtain ⟨u, w, rfl, hu, hw, _⟩ := hc
  simp only at hu hw
  refine ac_spec_TrailOf ?_
  unfold vc_spec_TrailOf
  rw [hpv, h5]
  simp only [cellOf_agg, List.getD_cons_zero, List.getD_cons_succ]
  refine spec_TreeOk h0 hcnt ?_
  rw [pUn_not, pIf_b]
  refine ⟨fun hn => marks_none (by simp at hn; rw [show ofT n x (k, p, t, a, d) = [] by simp [ofT, hn]] at hR; exact hR), fun hn => ?_⟩
  have hok : treeOk n x = true := by simpa using hn
  refine spec_l2CallOk hc0 ?_
  rw [pUn_not, pIf_b]
  refine ⟨fun hn => marks_none (by simp at hn; rw [show ofT n x (k, p, t, a, d) = [] by simp [ofT, hok, hn]] at hR; exact hR), fun hn => ?_⟩
  have hco : callOk (k, p, t, a, d) = true := by simpa using hn
  obtain ⟨hp1, hp2⟩ := callOk_of hco
  have hpl := path_len hp1
  simp only at hpl
  refine copy_path hu (by omega) fun v1 F1 s1 k1 o1 f1 => ?_
  rw [pBin_ne, pIf_d]
  refine ⟨fun h5 => ?_, fun h5 => ?_⟩
  · rw [pVal1 (OSl.one' o1), pVal_2 (OSl.one' o1) rfl]
    rw [show ofT n x (k, p, t, a, d) = [(p, false)] from ofT_1 hok hco h5] at hR
    intro b hb1 hb2
    refine hR _ (b :: F1) _ (k1.trans (Keeps.put hb2)) (one_mark o1 hb1 hb2) fun i hi => ?_
    rcases List.mem_cons.1 hi with rfl | hi
    · exact none_at k1 hb2
    · exact f1 i hi
  · have h5 : k = 5 := Decidable.not_not.1 h5
    have hpt := path_len (hp2 h5)
    simp only at hpt
    have hwf : wfT n x := by simp only [treeOk, Bool.and_eq_true] at hok; exact sound_wf n x 0 hok.2.1
    refine spec_At p (mono_rt n _ _ _ _ k1.le h0) hwf (hu.mono k1.le fun _ _ h => h) fun es' he' => ?_
    rw [pExtract_s rfl, pExtract_s rfl]
    obtain ⟨xa, xb, xc, xd, xe, rfl, rfl, hpv'⟩ := RT.five he'
    rw [hpv', pVal1 (OSl.one' o1)]
    simp only [cellOf_agg, List.getD_cons_zero, List.getD_cons_succ]
    rw [pVal1 rfl]
    refine copy_path (hw.mono k1.le fun _ _ h => h) (by omega) fun v2 F2 s2 k2 o2 f2 => ?_
    rw [pVal1 (OSl.one' o2), pVal1 rfl, pVal_2 (OSl.one' o1) rfl, pVal_2 (OSl.one' o2) rfl]
    rw [show ofT n x (k, p, t, a, d) = [(p, isDir ((atT x p).getD zeroT)), (t, isDir ((atT x p).getD zeroT))] from ofT_5 hok hco h5] at hR
    have o1' := o1.frame (ok_str w0) (k2.but_at fun b hb => (o1.dom (ok_str w0) b hb).2)
    intro b hb1 hb2
    refine hR _ (b :: (F1 ++ F2)) _ ((k1.trans k2).trans (Keeps.put hb2)) (two_marks o1' o2 (fun i hi hi' => (o1.dom (ok_str w0) i hi).2 (f2 i hi')) hb1 hb2) fun i hi => ?_
    rcases List.mem_cons.1 hi with rfl | hi
    · exact none_at (k1.trans k2) hb2
    · rcases List.mem_append.1 hi with hi | hi
      · exact f1 i hi
      · exact none_at k1 (f2 i hi)

theorem pBin_nnil {T : Nat} {p : Option Addr} {K : Value → Prop} (hT : ∃ e, Try.prog.underlying T = some (.pointer e)) : pBin Try.prog T .neq (.pointer p) (.pointer none) K ↔ K (.bool p.isSome) := by
  obtain ⟨e, he⟩ := hT
  have h : abinT Try.prog T .neq (.pointer p) (.pointer none) = some (.bool p.isSome) := by simp only [abinT, he]; cases p <;> rfl
  exact ⟨fun ⟨_, h', hK⟩ => by rw [h] at h'; cases h'; exact hK, fun hK => ⟨_, h, hK⟩⟩

theorem impl_marksOf {n : Nat} {es cs : List Value} {x : Tr} {c : Cl} (h : RT n (Av.get w0 σ) es x) (hc : RCl (Av.get w0 σ) cs c) (hok : treeOk n x = true) {R : Value → Vw → Prop}
    (hR : OutM w0 σ (ofT n x c) R) : AC Try.prog w0 n_impl_Tree_marksOf [.agg ⟨es⟩, .agg ⟨cs⟩] σ R := by
  have h0 := h
  obtain ⟨e0, e1, e2, e3, e4, rfl, _, hpv⟩ := RT.five h
  obtain ⟨k, p, t, a, d⟩ := c
  have h5 : ∀ A : Prop, pVal true 5 (.agg ⟨cs⟩) A ↔ A := fun A => hc.five
  have hc0 := hc
  obtain ⟨u, w, rfl, hu, hw, _⟩ := hc
  simp only at hu hw
  refine ac_impl_Tree_marksOf ?_
  unfold vc_impl_Tree_marksOf
  rw [hpv]
  simp only [cellOf_agg, List.getD_cons_zero, List.getD_cons_succ]
  intro b h1 h2
  have k1 : Keeps σ (σ.put b ⟨t_impl_Tree, [e0, e1, e2, e3, e4], 5, (0, 0)⟩) := Keeps.put h2
  have hq := PT.new (ety := t_impl_Tree) (c := 5) h0 h1 h2
  generalize hs1 : σ.put b ⟨t_impl_Tree, [e0, e1, e2, e3, e4], 5, (0, 0)⟩ = s1 at k1 hq
  rw [h5]
  refine impl_Call_isCall (mono_cl k1.le hc0) ?_
  have out1 : ∀ {ms : List Mk} {s : Vw}, ofT n x (k, p, t, a, d) = ms → Keeps s1 s → OutM w0 s ms R := fun e k2 v F σ' kk oo ff => by
    subst e
    exact hR v F σ' ((k1.trans k2).trans kk) oo fun i hi => none_at (k1.trans k2) (ff i hi)
  rw [pUn_not, pIf_b]
  refine ⟨fun hn => marks_none (out1 (by simp at hn; simp [ofT, hok, hn]) (Keeps.refl _)), fun hn => ?_⟩
  have hco : callOk (k, p, t, a, d) = true := by simpa using hn
  obtain ⟨hp1, hp2⟩ := callOk_of hco
  have hpl := path_len hp1
  simp only at hpl
  rw [pVal1 hu.one, pVal_2 hu.one rfl]
  intro c hc1 hc2
  have k2 : Keeps s1 (s1.put c ⟨t_impl_Mark, [u, .bool false], 2, (0, 0)⟩) := Keeps.put hc2
  have m1 := one_read (d := false) (ety := t_impl_Mark) (hu.mono k1.le fun _ _ h => h) hc1 hc2
  have hu2 := hu.mono (k1.trans k2).le fun _ _ h => h
  have hw2 := hw.mono (k1.trans k2).le fun _ _ h => h
  have hq2 := hq.mono k2.le
  generalize hs2 : s1.put c ⟨t_impl_Mark, [u, .bool false], 2, (0, 0)⟩ = s2 at k2 m1 hu2 hw2 hq2
  rw [pBin_eq, pIf_d]
  refine ⟨fun h5 => ?_, fun h5 => ?_⟩
  · have hpt := path_len (hp2 h5)
    simp only at hpt
    have hwf : wfT n x := by simp only [treeOk, Bool.and_eq_true] at hok; exact sound_wf n x 0 hok.2.1
    obtain _ | n := n
    · exact h0.elim
    have e2 : ofT (n + 1) x (k, p, t, a, d) = [(p, isDir ((atT x p).getD zeroT)), (t, isDir ((atT x p).getD zeroT))] := ofT_5 hok hco h5
    have hml : ∀ (D : Bool) (m : Mk), m ∈ [(p, D), (t, D)] → m.1.length ≤ 1000000000 := fun D m hm => by
      simp at hm
      rcases hm with rfl | rfl
      · show p.length ≤ _; omega
      · show t.length ≤ _; omega
    refine impl_at hq2 hwf hu2 fun q hq' => ?_
    cases hat : atT x p with
    | none =>
      rw [hat] at hq' e2
      obtain rfl : q = .pointer none := hq'
      rw [pBin_nnil ptr_tree, pIf_b]
      refine ⟨fun h => by simp at h, fun _ => ?_⟩
      rw [pVal1 hu2.one, pVal1 rfl, pVal1 hw2.one, pVal1 rfl, pVal_2 hu2.one rfl, pVal_2 hw2.one rfl]
      intro c' hc1' hc2'
      have m2 := two_read (d := false) (d' := false) (ety := t_impl_Mark) hu2 hw2 hc1' hc2'
      refine impl_cloneMarks m2 (by simp) (hml false) fun v' F s3 k3 o3 f3 => ?_
      exact out1 e2 (k2.trans (Keeps.put hc2')) v' F s3 k3 o3.osl f3
    | some y =>
      rw [hat] at hq' e2
      have hqy : PT (n + 1) _ q y := hq'
      obtain ⟨aq, esq, rfl, _⟩ := id hqy
      rw [pBin_nnil ptr_tree, pIf_b]
      refine ⟨fun _ => ?_, fun h => by simp at h⟩
      refine hqy.ld 0 (by omega) fun es g he hg => ?_
      obtain ⟨_, _, _, _, _, rfl, rfl, _⟩ := RT.five he
      simp only [List.getElem?_cons_zero, List.getElem?_cons_succ, Option.some.injEq] at hg
      rw [← hg, pVal1 hu2.one, pVal1 rfl, pVal1 hw2.one, pVal1 rfl, pVal_2 hu2.one rfl, pVal_2 hw2.one rfl]
      intro c' hc1' hc2'
      have m2 := two_read (d := isDir y) (d' := isDir y) (ety := t_impl_Mark) hu2 hw2 hc1' hc2'
      refine impl_cloneMarks m2 (by simp) (hml (isDir y)) fun v' F s3 k3 o3 f3 => ?_
      exact out1 e2 (k2.trans (Keeps.put hc2')) v' F s3 k3 o3.osl f3
  · refine impl_cloneMarks m1 (by simp) (fun m hm => by simp at hm; subst hm; show p.length ≤ _; omega) fun v' F s3 k3 o3 f3 => ?_
    exact out1 (ofT_1 hok hco h5) k2 v' F s3 k3 o3.osl f3

theorem impl_TrailOf {n : Nat} {es cs : List Value} {x : Tr} {c : Cl} (h : RT n (Av.get w0 σ) es x) (hc : RCl (Av.get w0 σ) cs c) (hb : szT n x ≤ 1000000000000) {R : Value → Vw → Prop}
    (hR : OutM w0 σ (ofT n x c) R) : AC Try.prog w0 n_impl_TrailOf [.agg ⟨es⟩, .agg ⟨cs⟩] σ R := by
  have h0 := h
  have hcnt : cntT n x ≤ 1000000000000 := Nat.le_trans (cnt_le n x) hb
  obtain ⟨_, _, _, _, _, rfl, _, hpv⟩ := RT.five h
  have hc0 := hc
  obtain ⟨_, _, _, _, _, rfl⟩ := hc.shape
  refine ac_impl_TrailOf ?_
  unfold vc_impl_TrailOf
  rw [hpv, hc0.five]
  simp only [cellOf_agg, List.getD_cons_zero, List.getD_cons_succ]
  refine impl_TreeOk h0 hcnt ?_
  rw [pUn_not, pIf_b]
  refine ⟨fun hn => marks_none (by simp at hn; rw [show ofT n x c = [] by simp [ofT, hn]] at hR; exact hR), fun hn => ?_⟩
  exact impl_marksOf h0 hc0 (by simpa using hn) hR

theorem ofT_len (n : Nat) (x : Tr) (c : Cl) : sumBy cMk (ofT n x c) ≤ 10 := by
  unfold ofT
  split
  · simp [sumBy]
  · split
    · simp [sumBy]
    · rename_i h
      obtain ⟨h1, h2⟩ := callOk_of (by simpa using h)
      have h1 := path_len h1
      split
      · rename_i h5
        have h2 := path_len (h2 h5)
        simp only [sumBy, cMk]; omega
      · simp only [sumBy, cMk]; omega

theorem law_TrailOf {n : Nat} {es cs : List Value} {x : Tr} {c : Cl} (h : RT n (Av.get w0 σ) es x) (hc : RCl (Av.get w0 σ) cs c) {R : Value → Vw → Prop} (hR : ∀ σ', R (.bool true) σ') :
    AC Try.prog w0 n_laws_FnExactTrailOf [.agg ⟨es⟩, .agg ⟨cs⟩] σ R := by
  have h0 := h
  have hml := ofT_len n x c
  obtain ⟨e0, e1, e2, e3, e4, rfl, _, hpv⟩ := RT.five h
  have hc0 := hc
  obtain ⟨_, _, _, _, _, rfl⟩ := hc.shape
  refine ac_laws_FnExactTrailOf ?_
  unfold vc_laws_FnExactTrailOf
  rw [hpv, hc0.five]
  simp only [cellOf_agg, List.getD_cons_zero, List.getD_cons_succ]
  refine szTree n h0 (by omega) ?_
  rw [pBin_lt, pIf_d]
  refine ⟨fun _ => hR _, fun hb => ?_⟩
  rw [Av.left_neg] at hb
  rw [Av.left_in (by omega)]
  refine szCall hc0 (by omega) ?_
  rw [pBin_lt, pIf_d]
  refine ⟨fun _ => hR _, fun hb2 => ?_⟩
  rw [Av.left_neg] at hb2
  have hsz : szT n x ≤ 1048576 := by omega
  have hfit := fit_of n x (by omega)
  have hcT := cT_le n x
  have hcl : szCl c ≤ 1048576 := by omega
  have hl1 : c.2.1.length ≤ 1048576 := by unfold szCl at hcl; omega
  have hl2 : c.2.2.1.length ≤ 1048576 := by unfold szCl at hcl; omega
  have ok := ok_rt w0 n
  have okc := ok_cl w0
  have okm := ok_mk w0
  refine toTree n h0 hfit fun es1 F1 s1 k1 o1 f1 => ?_
  refine toCall (mono_cl k1.le hc0) (by omega) (by omega) fun cs1 G1 s2 k2 p1 g1 => ?_
  refine spec_TrailOf (mono_rt n _ _ _ _ k2.le (ok.rel _ _ _ _ o1)) (okc.rel _ _ _ _ p1) (by omega) fun wv Fw s3 k3 ow fw => ?_
  have hw := ow.rel okm
  have K3 := (k1.trans k2).trans k3
  refine toTree n (mono_rt n _ _ _ _ K3.le h0) hfit fun es2 F2 s4 k4 o2 f2 => ?_
  have r2 := ok.rel _ _ _ _ o2
  obtain ⟨a2, b2, c2, d2, e2, rfl, q2, hp2⟩ := RT.five r2
  rw [hp2]
  simp only [cellOf_agg, List.getD_cons_zero, List.getD_cons_succ]
  refine toCall (mono_cl (K3.trans k4).le hc0) (by omega) (by omega) fun cs2 G2 s5 k5 p2 g2 => ?_
  have rc2 := okc.rel _ _ _ _ p2
  rw [rc2.five]
  obtain ⟨_, _, _, _, _, rfl⟩ := rc2.shape
  simp only [cellOf_agg, List.getD_cons_zero, List.getD_cons_succ]
  refine impl_TrailOf (mono_rt n _ _ _ _ k5.le r2) rc2 (by omega) fun gv Fg s6 k6 og fg => ?_
  have rg := og.rel okm
  have k36 := (k4.trans k5).trans k6
  refine eqMarkS rg (hw.mono k36.le fun _ _ => mono_mk k36.le) ?_
  rw [pUn_not, pIf_b]
  refine ⟨fun h => by simp at h, fun _ => ?_⟩
  have K6 := K3.trans k36
  refine toTree n (mono_rt n _ _ _ _ K6.le h0) hfit fun es3 F3 s7 k7 o3 f3 => ?_
  refine eqTree n (mono_rt n _ _ _ _ ((k5.trans k6).trans k7).le r2) (ok.rel _ _ _ _ o3) ?_
  rw [pUn_not, pIf_b]
  refine ⟨fun h => by simp at h, fun _ => ?_⟩
  refine toCall (mono_cl (K6.trans k7).le hc0) (by omega) (by omega) fun cs3 G3 s8 k8 p3 g3 => ?_
  refine eqCall (mono_cl ((k6.trans k7).trans k8).le rc2) (okc.rel _ _ _ _ p3) ?_
  rw [pUn_not, pIf_b]
  refine ⟨fun h => by simp at h, fun _ => ?_⟩
  have o28 := ok.frame _ s8 _ _ _ o2 ((((k5.trans k6).trans k7).trans k8).but_at fun b hb => (ok.dom _ _ _ _ o2 b hb).2)
  refine markTree (k := 1) o28 (by omega) fun s9 k9 _ => ?_
  have p28 := okc.frame _ s8 _ _ _ p2 (((k6.trans k7).trans k8).but_at fun b hb => (okc.dom _ _ _ _ p2 b hb).2)
  have p29 := okc.frame _ s9 _ _ _ p28 (k9.at (fun b hb => (okc.dom _ _ _ _ p28 b hb).2) fun b hb hb' => (ok.dom _ _ _ _ o2 b hb').2 (g2 b hb))
  refine markCall p29 (by omega) fun s10 k10 => ?_
  rw [pBin_lt, pIf_d]
  refine ⟨fun h => by omega, fun _ => ?_⟩
  have k38 := (k36.trans k7).trans k8
  have kw10 : Keeps s3 s10 := k10.old (k9.old k38 f2) fun b hb => none_at k4 (g2 b hb)
  have g8 := og.frame okm ((k7.trans k8).but_at fun b hb => (og.dom okm b hb).2)
  have g9 := g8.frame okm (k9.at (fun b hb => (g8.dom okm b hb).2) fun b hb hb' => (ok.dom _ _ _ _ o2 b hb').2 (none_at k5 (fg b hb)))
  have g10 := g9.frame okm (k10.at (fun b hb => (g9.dom okm b hb).2) fun b hb hb' => (okc.dom _ _ _ _ p2 b hb').2 (fg b hb))
  refine eqMarkS (g10.rel okm) (hw.mono kw10.le fun _ _ => mono_mk kw10.le) ?_
  rw [pUn_not, pIf_b]
  refine ⟨fun h => by simp at h, fun _ => ?_⟩
  refine markMarkS (k := 1) g10 (by omega) fun s11 k11 g11 => ?_
  refine heldMarkS (k := 1) (g11.rel okm) (by omega) fun s12 k12 => ?_
  rw [pBin_lt, pIf_d]
  refine ⟨fun h => by omega, fun _ => ?_⟩
  rw [pBin_ne, pIf_d]
  refine ⟨fun h => absurd rfl h, fun _ => ?_⟩
  have g12 := g11.frame okm (k12.but_at fun b hb => (g11.dom okm b hb).2)
  have kw12 : Keeps s3 s12 := (k11.old kw10 fun b hb => none_at (k4.trans k5) (fg b hb)).trans k12
  have K12 : Keeps σ s12 := K3.trans kw12
  refine toTree n (mono_rt n _ _ _ _ K12.le h0) hfit fun es4 F4 s13 k13 o4 f4 => ?_
  refine toCall (mono_cl (K12.trans k13).le hc0) (by omega) (by omega) fun cs4 G4 s14 k14 p4 g4 => ?_
  refine impl_TrailOf (mono_rt n _ _ _ _ k14.le (ok.rel _ _ _ _ o4)) (okc.rel _ _ _ _ p4) (by omega) fun hv Fh s15 k15 oh fh => ?_
  have k1215 := (k13.trans k14).trans k15
  refine eqMarkS (oh.rel okm) (hw.mono (kw12.trans k1215).le fun _ _ => mono_mk (kw12.trans k1215).le) ?_
  rw [pUn_not, pIf_b]
  refine ⟨fun h => by simp at h, fun _ => ?_⟩
  have g15 := g12.frame okm (k1215.but_at fun b hb => (g12.dom okm b hb).2)
  refine heldMarkS (k := 1) (g15.rel okm) (by omega) fun s16 k16 => ?_
  rw [pBin_lt, pIf_d]
  refine ⟨fun h => by omega, fun _ => ?_⟩
  rw [pBin_ne, pIf_d]
  exact ⟨fun h => absurd rfl h, fun _ => hR _⟩
end

theorem open_call {H : Type} {enc : TypeId × Value → H} {W : World} {spare : Nat → Bool} (fuel : Nat) (es : List Value) (y : DataW H × List MemPlace) (h : DataW.trod enc Try.prog W 0 spare true fuel t_laws_Call es = some y) (hl : es.length = 5) : ∃ x, RCl (Av.get W σ0) es x := by
  have hT : Try.prog.underlying t_laws_Call = some (.struct (fsOf Try.prog t_laws_Call)) := by kernel_rfl
  obtain ⟨f0, y0, l0, h0⟩ := open_field' hT 0 t_int 0 1 (by kernel_rfl) (by kernel_rfl) h
  obtain ⟨f1, y1, l1, h1⟩ := open_field' hT 1 t_s_string 1 1 (by kernel_rfl) (by kernel_rfl) h
  obtain ⟨f2, y2, l2, h2⟩ := open_field' hT 2 t_s_string 2 1 (by kernel_rfl) (by kernel_rfl) h
  obtain ⟨f3, y3, l3, h3⟩ := open_field' hT 3 t_int 3 1 (by kernel_rfl) (by kernel_rfl) h
  obtain ⟨f4, y4, l4, h4⟩ := open_field' hT 4 t_string 4 1 (by kernel_rfl) (by kernel_rfl) h
  obtain ⟨m, hm, hm2⟩ := open_int (by kernel_rfl) h0
  obtain ⟨u, ns, hu, hus⟩ := open_rsl (t := t_s_string) (e := t_string) (by kernel_rfl) (by kernel_rfl) (open_rs (by kernel_rfl)) h1
  obtain ⟨w, ts, hw, hws⟩ := open_rsl (t := t_s_string) (e := t_string) (by kernel_rfl) (by kernel_rfl) (open_rs (by kernel_rfl)) h2
  obtain ⟨k, hk, hk2⟩ := open_int (by kernel_rfl) h3
  obtain ⟨s, hs, hs2⟩ := open_str (by kernel_rfl) h4
  exact ⟨(m, ns, ts, k, s), u, w, cut5 hl hm hu hw hk hs, hus, hws, hm2, hk2, hs2⟩
end Go.Proofs.Ytkblkdnnncklgaa

/- The law FnExactTrailOf holds: it returns true, and the input reads as it did. No condition. -/
namespace Go.Proofs.Ytkblkdnnncklgaa.fnExactTrailOf
open Go.ChangeShapes Go.WideShapes Go.ChangeAt Go.RowKit Go.Av
set_option linter.unusedVariables false
set_option linter.unusedSimpArgs false
theorem own : ownKnob Try.prog.godebug = none := by kernel_rfl
theorem laidOut : laidOutB Try.prog = true := by kernel_rfl
set_option maxRecDepth 100000 in
theorem lifted (os : Os) (started : os.Started) (H : Type) (enc : TypeId × Value → H) :
    ReturnsInHanded {} Try.checked os 5 .any (Rows.fnExactTrailOfSpec.pre6 enc Try.prog Try.f5 Rows.fnExactTrailOfRow.domain false) (Rows.fnExactTrailOfSpec.post enc Try.prog Try.f5 false true false false) := by
  refine returnsInHanded_of_change_sized (C := Try.checked) own started (by kernel_rfl) Try.func5
    (ChangeSpec.witness6 (enc := enc) (C := Try.checked) false ⟨#[], #[.agg #[.bool false, .int .i64 0, .string ⟨#[]⟩, .slice none 0 0, .slice none 0 0], .agg #[.int .i64 0, .slice none 0 0, .slice none 0 0, .int .i64 0, .string ⟨#[]⟩]], []⟩ 8 (by kernel_rfl) (by kernel_rfl) (by kernel_rfl) (by kernel_rfl)) ?_
  intro W base args ds gs before hval0 hW hcnd hsz0 _
  have hval : ∀ (j : Nat) t v, Try.f5.params[j]? = some t → args[j]? = some v → Value.okWide Try.prog W .any base t v := hval0
  have hW' := hW
  obtain ⟨p, q, hA0, hV, rfl, hfz, hnd⟩ := hW
  have hA : DataW.TrodAll enc Try.prog W 0 (fun _ => true) true Try.f5.params.toList args.toList ds p := hA0
  rw [Try.params5] at hA hval
  obtain ⟨v0, v1, d0, d1, p0, p1, rfl, rfl, hpp, h0, h1⟩ := trodAll_two hA
  obtain ⟨rfl, rfl⟩ := trodVars_none hV
  have hT0 : Try.prog.underlying 32 = some (.struct (fsOf Try.prog 32)) := by kernel_rfl
  obtain ⟨c0, rfl, hc0⟩ := okWide_struct hT0 (hval 0 32 v0 rfl rfl)
  have hT1 : Try.prog.underlying 47 = some (.struct (fsOf Try.prog 47)) := by kernel_rfl
  obtain ⟨c1, rfl, hc1⟩ := okWide_struct hT1 (hval 1 47 v1 rfl rfl)
  have h0k := h0
  obtain ⟨fuel0, hf0⟩ := h0
  have h1k := h1
  obtain ⟨fuel1, hf1⟩ := h1
  clear hA0 hval0 hsz0
  simp only [List.append_nil] at hW'
  have hlt : ∀ x ∈ p, x.block < W.heap.size := fun x hx => by simpa using hW'.lt x hx
  have hargs0 : ∀ (W' : World), Below W.heap.size W W' → DataW.Trod enc Try.prog W' 0 (fun b => decide (b < W.heap.size)) true 32 (.agg c0) d0 p0 :=
    fun W' hn => Below.trod laidOut (by kernel_rfl) (of_decide_eq_true (by kernel_rfl)) h0k hn (fun x hx => hlt x (by rw [hpp]; simp [hx]))
  have hargs1 : ∀ (W' : World), Below W.heap.size W W' → DataW.Trod enc Try.prog W' 0 (fun b => decide (b < W.heap.size)) true 47 (.agg c1) d1 p1 :=
    fun W' hn => Below.trod laidOut (by kernel_rfl) (of_decide_eq_true (by kernel_rfl)) h1k hn (fun x hx => hlt x (by rw [hpp]; simp [hx]))
  have hl0 : c0.toList.length = 5 := by rw [Array.length_toList, hc0]; kernel_rfl
  obtain ⟨x0, r0⟩ := open_tree fuel0 c0.toList _ hf0 hl0
  have hl1 : c1.toList.length = 5 := by rw [Array.length_toList, hc1]; kernel_rfl
  obtain ⟨x1, r1⟩ := open_call fuel1 c1.toList _ hf1 hl1
  refine ((law_TrailOf (R := fun v _ => v = .bool true) r0 r1 (by intros; rfl)).calls).mono fun e W' ⟨v, σ', he, hv, bel⟩ => ?_
  subst he hv
  have hW'' := hW'
  rw [hpp] at hW''
  exact ⟨_, rfl, _, _, _, [], _, [], hW'', trodAll_mk1 (shut_bool Try.underlying4 _), trodAll_mk2 (hargs0 W' bel) (hargs1 W' bel), rfl, bel.frame _, fun h => by cases h⟩
theorem over : Rows.fnExactTrailOfRow.holds Try.pinned (OpenSpec.ofChange Rows.fnExactTrailOfSpec) :=
  OpenClaim.holds_of_wide 5 Try.f5 rfl rfl rfl rfl rfl rfl rfl ⟨rfl, rfl, rfl, rfl, rfl⟩ rfl rfl rfl rfl rfl (by kernel_rfl) Try.func5 (by kernel_rfl)
    (of_decide_eq_true (by kernel_rfl)) (by unfold Func.isWrapper; first | (rw [if_pos (by decide +kernel)]; kernel_rfl) | (rw [if_neg (by decide +kernel)]; exact ⟨rfl, rfl⟩))
    (fun os started H enc _ => lifted os started H enc)
theorem proved : Rows.FnExactTrailOfSaid := over
end Go.Proofs.Ytkblkdnnncklgaa.fnExactTrailOf
namespace Go.Proofs.Ytkblkdnnncklgaa
/-- The row, under a short name, for the claim. -/
theorem fnExactTrailOf_holds : Rows.FnExactTrailOfSaid := fnExactTrailOf.proved
end Go.Proofs.Ytkblkdnnncklgaa
