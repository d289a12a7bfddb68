/- The law FnTrailAdd holds: it returns true, and the input reads as it did. No condition. This is part 4 of 5 of its proof. -/
import Derived.Test.YtkbhjejalkbogaaGreatXFnTrailAdd3
import Derived.Shelf.Small.Bits
import Derived.Shelf.Strconv.Itoa0
import Derived.Shelf.Sort.Plain
import Derived.Shelf.Slices.CompactS
import Derived.Shelf.Slices.Cells
import Derived.Shelf.Slices.In.SortNone
import Derived.Test.YtkbhjejalkbogaaGreatProg
import Derived.Lib.AppendIntMem
import Derived.Lib.Join
import Derived.Lib.SlicesCompact
import Derived.Sort.Walk0

/- Trees: sound by either reading. -/
set_option linter.unusedVariables false
set_option linter.unusedSimpArgs false
namespace Go.Proofs.YtkbhjejalkbogaaGreat
open Go Go.Av

section
variable {w0 : World}

theorem spec_Parts : ∀ (n : Nat) {σ : Vw} {es : List Value} {x : Tr} {k : Int} {R : Value → Vw → Prop}, RT n (Av.get w0 σ) es x → (0 ≤ k ∧ k ≤ 5) → R (.bool (soundB n x k)) σ → AC Tryz.prog w0 n_spec_l1Parts [.agg ⟨es⟩, .int .i64 k] σ R
  | 0, _, _, _, _, _, h, _, _ => h.elim
  | n + 1, σ, es, .mk d m t ns ks, k, R, h, hk, hR => by
    have h0 := h
    obtain ⟨u, w, rfl, h2, h3, h4, h5⟩ := h
    refine ac_spec_l1Parts ?_
    unfold vc_spec_l1Parts
    have hl := h5.le
    rw [pVal_5 rfl rfl rfl h4.one h5.one]
    simp only [cellOf_agg, List.getD_cons_zero, List.getD_cons_succ]
    refine spec_Plain h0 ?_
    rw [pUn_not, pIf_b]
    refine ⟨fun hb => ?_, fun hg => ?_⟩
    · have : soundB (n + 1) (.mk d m t ns ks) k = false := by simp at hb; simp [soundB, hb]
      rw [this] at hR; exact hR
    have hg' : plainB (.mk d m t ns ks) = true := by simpa using hg
    rw [pBin_gt, pIf_d]
    refine ⟨fun hb => ?_, fun hle => ?_⟩
    · have : soundB (n + 1) (.mk d m t ns ks) k = false := by
        have : ¬ k ≤ 4 := by omega
        simp [soundB, this]
      rw [this] at hR; exact hR
    have hle' : k ≤ 4 := by omega
    have hs : soundB (n + 1) (.mk d m t ns ks) k = allB (fun x => soundB n x (k + 1)) ks := by simp [soundB, hg', hle']
    rw [hs] at hR
    refine loop_rule (m := ks.length) (fun c l s => ∃ j, s = σ ∧ c + j = ks.length ∧ (∀ (i : Nat) (x : Tr), i < j → ks[i]? = some x → soundB n x (k + 1) = true) ∧ l = [.int .i64 k, .bool false, .int .i64 (j : Nat), .bool d, .int .i64 m, .string t, u, w]) ?_ ⟨0, rfl, by omega, fun i x h => by omega, rfl⟩
    rintro c l s L ⟨j, rfl, hc, ht, rfl⟩ hL
    simp only [vget, List.getD_cons_zero, List.getD_cons_succ]
    rw [h5.len, pBin_lt, pIf_d]
    refine ⟨fun hj => ?_, fun hj => ?_⟩
    · have hx := List.getElem?_eq_getElem (show j < ks.length by omega)
      generalize hxj : ks[j] = x at hx
      refine h5.at hx fun g hg => ?_
      rw [pBin_add (by omega)]
      refine spec_Parts n (x := x) hg (by omega) ?_
      rw [pUn_not, pIf_b]
      refine ⟨fun hb => ?_, fun hb => ?_⟩
      · rw [allB_bad hx (by simpa using hb)] at hR; exact hR
      · rw [pBin_add (by omega)]
        refine hL _ _ (c - 1) (by omega) ⟨j + 1, rfl, by omega, fun i y hi he => ?_, rfl⟩
        by_cases e : i = j
        · subst e; rw [hx] at he; cases he; simpa using hb
        · exact ht i y (by omega) he
    · have hj' : j = ks.length := by omega
      subst hj'
      rw [allB_iff.2 fun i x he => ht i x (List.getElem?_eq_some_iff.1 he).1 he] at hR
      exact hR
end
end Go.Proofs.YtkbhjejalkbogaaGreat

/- Trees: sound by the program's own reading. -/
set_option linter.unusedVariables false
set_option linter.unusedSimpArgs false
namespace Go.Proofs.YtkbhjejalkbogaaGreat
open Go Go.Av

section
variable {w0 : World}

theorem impl_sound : ∀ (n : Nat) {σ : Vw} {es : List Value} {x : Tr} {k : Int} {R : Value → Vw → Prop}, RT n (Av.get w0 σ) es x → (0 ≤ k ∧ k ≤ 5) → R (.bool (soundB n x k)) σ → AC Tryz.prog w0 n_impl_Tree_sound [.agg ⟨es⟩, .int .i64 k] σ R
  | 0, _, _, _, _, _, h, _, _ => h.elim
  | n + 1, σ, es, .mk d m t ns ks, k, R, h, hk, hR => by
    have h0 := h
    obtain ⟨u, w, rfl, h2, h3, h4, h5⟩ := h
    refine ac_impl_Tree_sound ?_
    unfold vc_impl_Tree_sound
    have hl := h4.le
    rw [pVal_5 rfl rfl rfl h4.one h5.one]
    simp only [cellOf_agg, List.getD_cons_zero, List.getD_cons_succ]
    have no : soundB (n + 1) (.mk d m t ns ks) k = false → R (.bool false) σ := fun e => by rw [e] at hR; exact hR
    refine ac_impl_modeOk ?_
    unfold vc_impl_modeOk
    refine impl_within ?_
    show pUn .not (.bool _) _
    rw [pUn_not, pIf_b]
    refine ⟨fun hb => no (by simp at hb; simp [soundB, plainB, hb]), fun hm => ?_⟩
    have hm' : inB m 0 7 = true := by simpa using hm
    rw [pBin_gt, pIf_d]
    refine ⟨fun hb => no (by have : ¬ k ≤ 4 := by omega
                             simp [soundB, this]), fun hle => ?_⟩
    have hle' : k ≤ 4 := by omega
    rw [h4.len, h5.len, pBin_ne, pIf_d]
    refine ⟨fun hne => no (by have : ¬ ns.length = ks.length := by omega
                              simp [soundB, plainB, this]), fun heq => ?_⟩
    have heq' : ns.length = ks.length := by omega
    rw [pUn_not, pIf_b]
    refine ⟨fun hd => ?_, fun hd => ?_⟩
    · have hd' : d = false := by simpa using hd
      subst hd'
      rw [pLenS_s, pBin_le, pIf_d]
      refine ⟨fun htx => ?_, fun htx => no (by have : ¬ t.size ≤ 24 := by omega
                                               simp [soundB, plainB, this])⟩
      rw [h4.len, pBin_eq]
      have e : soundB (n + 1) (.mk false m t ns ks) k = decide ((ns.length : Int) = 0) := by
        have e1 : t.size ≤ 24 := by omega
        by_cases hz : ns.length = 0
        · have hkz : ks = [] := List.length_eq_zero_iff.1 (by omega)
          have hnz : ns = [] := List.length_eq_zero_iff.1 hz
          subst hkz hnz
          simp [soundB, plainB, hm', hle', e1, allB]
        · have hz' : ¬ ((ns.length : Int) = 0) := by omega
          have hz2 : ¬ (ks.length = 0) := by omega
          simp [soundB, plainB, heq', hz', hz2]
      rw [e] at hR; exact hR
    · have hd' : d = true := by simpa using hd
      subst hd'
      rw [pBin_sne, pIf_d]
      refine ⟨fun htx => no (by simp [soundB, plainB, htx]), fun htx => ?_⟩
      have htx' := Decidable.not_not.1 htx
      rw [h4.len]
      refine loop_rule (m := ns.length) (fun c l s => ∃ j, s = σ ∧ c + j = ns.length ∧ (∀ (i : Nat) (x : ByteArray), i < j → ns[i]? = some x → nameAt ns i x = true) ∧ (∀ (i : Nat) (x : Tr), i < j → ks[i]? = some x → soundB n x (k + 1) = true) ∧ l = [.int .i64 k, .bool false, u, .int .i64 ns.length, .int .i64 (j : Nat), .bool true, .int .i64 m, .string t, u, w]) ?_ ⟨0, rfl, by omega, fun i x h => by omega, fun i x h => by omega, rfl⟩
      rintro c l s L ⟨j, rfl, hc, ht, hkd, rfl⟩ hL
      simp only [vget, List.getD_cons_zero, List.getD_cons_succ]
      rw [pBin_lt, pIf_d]
      refine ⟨fun hj => ?_, fun hj => ?_⟩
      · have hx := List.getElem?_eq_getElem (show j < ns.length by omega)
        generalize hxj : ns[j] = x at hx
        have hkk := List.getElem?_eq_getElem (show j < ks.length by omega)
        generalize hkj : ks[j] = kid at hkk
        have bad : nameAt ns j x = false → R (.bool false) s := fun hb => no (by
          have : ¬ namesP ns := fun hh => by rw [hh j x hx] at hb; cases hb
          simp [soundB, plainB, this])
        have last : nameAt ns j x = true → pIndexAddr 5 w (.int .i64 j) (fun v35 => pLoad w0 5 v35 s (fun g36 => pBin Tryz.prog 3 .add (.int .i64 k) (.int .i64 1) (fun v37 => AC Tryz.prog w0 n_impl_Tree_sound [.agg ⟨[g36 0, g36 1, g36 2, g36 3, g36 4]⟩, v37] s (fun v38 s39 => pUn .not v38 (fun v40 => pIf v40 (R (.bool false) s39) (pBin Tryz.prog 3 .add (.int .i64 j) (.int .i64 1) (fun v41 => L [.int .i64 k, .bool false, u, .int .i64 ns.length, v41, .bool true, .int .i64 m, .string t, u, w] s39))))))) := by
          intro hgood
          refine h5.at hkk fun g hg => ?_
          rw [pBin_add (by omega)]
          refine impl_sound n (x := kid) hg (by omega) ?_
          rw [pUn_not, pIf_b]
          refine ⟨fun hb => no ?_, fun hb => ?_⟩
          · have := allB_bad (p := fun x => soundB n x (k + 1)) hkk (by simpa using hb)
            simp [soundB, this]
          · rw [pBin_add (by omega)]
            refine hL _ _ (c - 1) (by omega) ⟨j + 1, rfl, by omega, fun i y hi he => ?_, fun i y hi he => ?_, rfl⟩
            · by_cases e : i = j
              · subst e; rw [hx] at he; cases he; exact hgood
              · exact ht i y (by omega) he
            · by_cases e : i = j
              · subst e; rw [hkk] at he; cases he; simpa using hb
              · exact hkd i y (by omega) he
        refine RSl.at1 h4 hx fun g hg hs => ?_
        rw [hg]
        refine impl_nameOk hs ?_
        rw [pUn_not, pIf_b]
        refine ⟨fun hb => bad (by simp at hb; simp [nameAt, hb]), fun hg => ?_⟩
        have hg' : nameOk x = true := by simpa using hg
        rw [pBin_gt, pIf_d]
        refine ⟨fun hpos => ?_, fun h0 => ?_⟩
        · obtain ⟨i, rfl⟩ : ∃ i, j = i + 1 := ⟨j - 1, by omega⟩
          rw [pBin_sub (by omega)]
          have hy := List.getElem?_eq_getElem (show i < ns.length by omega)
          generalize hyi : ns[i] = y at hy
          rw [show ((i + 1 : Nat) : Int) - 1 = (i : Nat) by omega]
          refine RSl.at1 h4 hy fun g2 hg2 hs2 => ?_
          have hpl : prevLt ns (i + 1) x = strLt y x := by simp [prevLt, hy]
          rw [hg2, pBin_sge, pIf_b]
          refine ⟨fun hb => bad (by simp at hb; simp [nameAt, hpl, hb]), fun hb => ?_⟩
          exact last (by simp at hb; simp [nameAt, hg', hpl, hb])
        · have : j = 0 := by omega
          subst this
          exact last (by simp [nameAt, hg', prevLt])
      · have hj' : j = ns.length := by omega
        subst hj'
        have e1 : namesP ns := fun i x he => ht i x (List.getElem?_eq_some_iff.1 he).1 he
        have e2 : allB (fun x => soundB n x (k + 1)) ks = true := allB_iff.2 fun i x he => hkd i x (by have := (List.getElem?_eq_some_iff.1 he).1; omega) he
        have e : soundB (n + 1) (.mk true m t ns ks) k = true := by simp [soundB, plainB, hm', heq', e1, htx', hle', e2]
        rw [e] at hR; exact hR
end
end Go.Proofs.YtkbhjejalkbogaaGreat

/- Trees: how many paths; the laws 'TreeOk' and 'TreeCount', of the functions alone. -/
set_option linter.unusedVariables false
set_option linter.unusedSimpArgs false
namespace Go.Proofs.YtkbhjejalkbogaaGreat
open Go Go.Av

def cntT : Nat → Tr → Nat
  | 0, _ => 0
  | n + 1, .mk d m t ns ks => ks.length + sumBy (cntT n) ks
theorem sumBy_mono {α : Type} {f g : α → Nat} : ∀ {xs : List α}, (∀ x, x ∈ xs → f x ≤ g x) → sumBy f xs ≤ sumBy g xs
  | [], _ => by simp [sumBy]
  | a :: r, h => by
    have := sumBy_mono (xs := r) fun x hx => h x (List.mem_cons_of_mem _ hx)
    have := h a List.mem_cons_self
    simp only [sumBy]; omega
theorem sumBy_one {α : Type} {f : α → Nat} : ∀ {xs : List α}, sumBy (fun x => f x + 1) xs = sumBy f xs + xs.length
  | [] => by simp [sumBy]
  | a :: r => by have := sumBy_one (f := f) (xs := r); simp only [sumBy, List.length_cons, this]; omega
theorem cnt_le : ∀ (n : Nat) (x : Tr), cntT n x ≤ szT n x
  | 0, _ => by simp [cntT, szT]
  | n + 1, .mk d m t ns ks => by
    have := sumBy_mono (xs := ks) fun x _ => cnt_le n x
    simp only [cntT, szT]; omega

section
variable {w0 : World}

theorem spec_Count : ∀ (n : Nat) {σ : Vw} {es : List Value} {x : Tr} {R : Value → Vw → Prop}, RT n (Av.get w0 σ) es x → cntT n x ≤ 1000000000000 → R (.int .i64 (cntT n x)) σ → AC Tryz.prog w0 n_spec_l1Count [.agg ⟨es⟩] σ R
  | 0, _, _, _, _, h, _, _ => h.elim
  | n + 1, σ, es, .mk d m t ns ks, R, h, hb, hR => by
    obtain ⟨u, w, rfl, h2, h3, h4, h5⟩ := h
    refine ac_spec_l1Count ?_
    unfold vc_spec_l1Count
    rw [pVal_5 rfl rfl rfl h4.one h5.one]
    simp only [cellOf_agg, List.getD_cons_zero, List.getD_cons_succ]
    simp only [cntT] at hb hR
    rw [h5.len]
    refine loop_rule (m := ks.length) (fun c l s => ∃ j, s = σ ∧ c + j = ks.length ∧ l = [.int .i64 ((ks.length + sumBy (cntT n) (ks.take j) : Nat) : Int), .int .i64 (j : Nat), .bool d, .int .i64 m, .string t, u, w]) ?_ ⟨0, rfl, by omega, by simp [sumBy]⟩
    rintro c l s L ⟨j, rfl, hc, rfl⟩ hL
    simp only [vget, List.getD_cons_zero, List.getD_cons_succ]
    rw [h5.len, pBin_lt, pIf_d]
    refine ⟨fun hj => ?_, fun hj => ?_⟩
    · have hx := List.getElem?_eq_getElem (show j < ks.length by omega)
      generalize hxj : ks[j] = x at hx
      refine h5.at hx fun g hg => ?_
      have ht := sumBy_take (f := cntT n) hx
      have hle := sumBy_le (f := cntT n) (xs := ks) (j + 1)
      refine spec_Count n (x := x) hg (by omega) ?_
      rw [pBin_add (by omega), pBin_add (by omega)]
      refine hL _ _ (c - 1) (by omega) ⟨j + 1, rfl, by omega, ?_⟩
      rw [ht]
      congr 2
      omega
    · have hj' : j = ks.length := by omega
      subst hj'
      rw [List.take_length]
      exact hR

theorem impl_paths : ∀ (n : Nat) {σ : Vw} {es : List Value} {x : Tr} {R : Value → Vw → Prop}, RT n (Av.get w0 σ) es x → cntT n x ≤ 1000000000000 → R (.int .i64 ((cntT n x + 1 : Nat) : Int)) σ → AC Tryz.prog w0 n_impl_Tree_paths [.agg ⟨es⟩] σ R
  | 0, _, _, _, _, h, _, _ => h.elim
  | n + 1, σ, es, .mk d m t ns ks, R, h, hb, hR => by
    obtain ⟨u, w, rfl, h2, h3, h4, h5⟩ := h
    refine ac_impl_Tree_paths ?_
    unfold vc_impl_Tree_paths
    rw [pVal_5 rfl rfl rfl h4.one h5.one]
    simp only [cellOf_agg, List.getD_cons_zero, List.getD_cons_succ]
    simp only [cntT] at hb hR
    rw [h5.len]
    refine loop_rule (m := ks.length) (fun c l s => ∃ j, s = σ ∧ c + j = ks.length ∧ l = [.int .i64 ((1 + sumBy (fun x => cntT n x + 1) (ks.take j) : Nat) : Int), w, .int .i64 ks.length, .int .i64 (j : Nat)]) ?_ ⟨0, rfl, by omega, by simp [sumBy]⟩
    have hsum := sumBy_one (f := cntT n) (xs := ks)
    rintro c l s L ⟨j, rfl, hc, rfl⟩ hL
    simp only [vget, List.getD_cons_zero, List.getD_cons_succ]
    rw [pBin_lt, pIf_d]
    refine ⟨fun hj => ?_, fun hj => ?_⟩
    · have hx := List.getElem?_eq_getElem (show j < ks.length by omega)
      generalize hxj : ks[j] = x at hx
      refine h5.at hx fun g hg => ?_
      have ht := sumBy_take (f := fun x => cntT n x + 1) hx
      have hle := sumBy_le (f := fun x => cntT n x + 1) (xs := ks) (j + 1)
      have hin : ∀ (A : Prop), A → pVal true 5 (.agg ⟨[g 0, g 1, g 2, g 3, g 4]⟩) A := fun A hA => ⟨⟨_, rfl, rfl, (by
        obtain _ | n := n
        · exact hg.elim
        · obtain ⟨d', m', t', ns', ks'⟩ := x
          obtain ⟨u', w', e, _, _, q4, q5⟩ := hg
          have e' : [g 0, g 1, g 2, g 3, g 4] = [.bool d', .int .i64 m', .string t', u', w'] := e
          rw [e']
          intro c hc
          simp at hc
          rcases hc with rfl | rfl | rfl | rfl | rfl
          · rfl
          · rfl
          · rfl
          · exact q4.one
          · exact q5.one)⟩, hA⟩
      refine hin _ ?_
      refine impl_paths n (x := x) hg (by omega) ?_
      rw [pBin_add (by omega), pBin_add (by omega)]
      refine hL _ _ (c - 1) (by omega) ⟨j + 1, rfl, by omega, ?_⟩
      rw [ht]
      congr 2
      omega
    · have hj' : j = ks.length := by omega
      subst hj'
      rw [List.take_length, hsum]
      show R (.int .i64 _) s
      rw [show ((1 + (sumBy (cntT n) ks + ks.length) : Nat) : Int) = ((ks.length + sumBy (cntT n) ks + 1 : Nat) : Int) by omega]
      exact hR
end
end Go.Proofs.YtkbhjejalkbogaaGreat

/- Trees: the laws 'TreeOk' and 'TreeCount', of the functions alone. -/
set_option linter.unusedVariables false
set_option linter.unusedSimpArgs false
namespace Go.Proofs.YtkbhjejalkbogaaGreat
open Go Go.Av

def isDir : Tr → Bool
  | .mk d _ _ _ _ => d
noncomputable def treeOk (n : Nat) (x : Tr) : Bool := isDir x && (soundB n x 0 && decide (cntT n x ≤ 30))
section
variable {w0 : World} {σ : Vw}

theorem RT.five {n : Nat} {rd : Addr → Option Value} {es : List Value} {x : Tr} (h : RT n rd es x) : ∃ a b c d e, es = [a, b, c, d, e] ∧ a = .bool (isDir x) ∧ ∀ A : Prop, pVal true 5 (.agg ⟨es⟩) A ↔ A := by
  obtain _ | n := n
  · exact h.elim
  · obtain ⟨d', m', t', ns', ks'⟩ := x
    obtain ⟨u', w', rfl, _, _, q4, q5⟩ := h
    exact ⟨_, _, _, _, _, rfl, rfl, fun A => pVal_5 rfl rfl rfl q4.one q5.one⟩

theorem spec_TreeOk {n : Nat} {es : List Value} {x : Tr} {R : Value → Vw → Prop} (h : RT n (Av.get w0 σ) es x) (hb : cntT n x ≤ 1000000000000) (hR : R (.bool (treeOk n x)) σ) : AC Tryz.prog w0 n_spec_TreeOk [.agg ⟨es⟩] σ R := by
  have h0 := h
  obtain ⟨a, b, c, d, e, rfl, rfl, hp⟩ := RT.five h
  refine ac_spec_TreeOk ?_
  unfold vc_spec_TreeOk
  rw [hp]
  simp only [cellOf_agg, List.getD_cons_zero, List.getD_cons_succ]
  rw [pIf_b]
  refine ⟨fun hd => ?_, fun hd => by simpa [treeOk, hd] using hR⟩
  refine spec_Parts n h0 (by omega) ?_
  rw [pIf_b]
  refine ⟨fun hs => ?_, fun hs => by simpa [treeOk, hs] using hR⟩
  refine spec_Count n h0 hb ?_
  rw [pBin_le]
  have : treeOk n x = decide ((cntT n x : Int) ≤ 30) := by
    simp only [treeOk, hd, hs, Bool.true_and]
    congr 1; apply propext; omega
  rw [this] at hR; exact hR

theorem impl_TreeOk {n : Nat} {es : List Value} {x : Tr} {R : Value → Vw → Prop} (h : RT n (Av.get w0 σ) es x) (hb : cntT n x ≤ 1000000000000) (hR : R (.bool (treeOk n x)) σ) : AC Tryz.prog w0 n_impl_TreeOk [.agg ⟨es⟩] σ R := by
  have h0 := h
  obtain ⟨a, b, c, d, e, rfl, rfl, hp⟩ := RT.five h
  refine ac_impl_TreeOk ?_
  unfold vc_impl_TreeOk
  rw [hp]
  simp only [cellOf_agg, List.getD_cons_zero, List.getD_cons_succ]
  rw [pIf_b]
  refine ⟨fun hd => ?_, fun hd => by simpa [treeOk, hd] using hR⟩
  refine impl_sound n h0 (by omega) ?_
  rw [pIf_b]
  refine ⟨fun hs => ?_, fun hs => by simpa [treeOk, hs] using hR⟩
  refine impl_paths n h0 hb ?_
  rw [pBin_le]
  have : treeOk n x = decide (((cntT n x + 1 : Nat) : Int) ≤ 31) := by
    simp only [treeOk, hd, hs, Bool.true_and]
    congr 1; apply propext; omega
  rw [this] at hR; exact hR

end
end Go.Proofs.YtkbhjejalkbogaaGreat

/- How a tree is opened that came with the call. -/
set_option linter.unusedVariables false
set_option linter.unusedSimpArgs false
namespace Go.Proofs.YtkbhjejalkbogaaGreat
open Go Go.Av Go.RowKit

theorem RT_up : ∀ (n : Nat) (rd : Addr → Option Value) (es : List Value) (x : Tr), RT n rd es x → RT (n + 1) rd es x
  | 0, _, _, _, h => h.elim
  | n + 1, rd, es, .mk d m t ns ks, h => by
    obtain ⟨u, w, h1, h2, h3, h4, h5⟩ := h
    exact ⟨u, w, h1, h2, h3, h4, h5.imp fun es x h => RT_up n rd es x h⟩
theorem RT_le {n m : Nat} (h : n ≤ m) {rd : Addr → Option Value} {es : List Value} {x : Tr} (hr : RT n rd es x) : RT m rd es x := by
  obtain ⟨k, rfl⟩ := Nat.exists_eq_add_of_le h
  clear h
  induction k with
  | zero => exact hr
  | succ k ih => exact RT_up _ _ _ _ ih

end Go.Proofs.YtkbhjejalkbogaaGreat

/- What is at a path of a tree, by either reading. -/
set_option linter.unusedVariables false
set_option linter.unusedSimpArgs false
namespace Go.Proofs.YtkbhjejalkbogaaGreat
open Go Go.Av

/-- The first place of a text. -/
def nidx : List ByteArray → ByteArray → Option Nat
  | [], _ => none
  | s :: r, x => if s = x then some 0 else (nidx r x).map (· + 1)
theorem nidx_some {ns : List ByteArray} {x : ByteArray} : ∀ {j : Nat}, nidx ns x = some j → ns[j]? = some x := by
  induction ns with
  | nil => intro j h; simp [nidx] at h
  | cons s r ih =>
    intro j h
    unfold nidx at h
    split at h
    · rename_i e; cases h; simp [e]
    · cases hr : nidx r x with
      | none => rw [hr] at h; cases h
      | some i => rw [hr] at h; cases h; simpa using ih hr
theorem nidx_at {ns : List ByteArray} {x : ByteArray} : ∀ {j : Nat}, ns[j]? = some x → (∀ (i : Nat) (y : ByteArray), i < j → ns[i]? = some y → y ≠ x) → nidx ns x = some j := by
  induction ns with
  | nil => intro j h; simp at h
  | cons s r ih =>
    intro j h hn
    unfold nidx
    cases j with
    | zero => simp at h; rw [if_pos h]
    | succ j =>
      rw [if_neg (hn 0 s (by omega) rfl), ih (by simpa using h) fun i y hi hy => hn (i + 1) y (by omega) (by simpa using hy)]
      rfl
theorem nidx_none {ns : List ByteArray} {x : ByteArray} (h : ∀ (i : Nat) (y : ByteArray), ns[i]? = some y → y ≠ x) : nidx ns x = none := by
  induction ns with
  | nil => rfl
  | cons s r ih =>
    unfold nidx
    rw [if_neg (h 0 s rfl), ih fun i y hy => h (i + 1) y (by simpa using hy)]
    rfl
/-- A place as a number, -1 for none. -/
def placeI : Option Nat → Int
  | some j => j
  | none => -1

/-- Names and parts are as many, all the way down. -/
def wfT : Nat → Tr → Prop
  | 0, _ => True
  | n + 1, .mk d m t ns ks => ns.length = ks.length ∧ ∀ k, k ∈ ks → wfT n k
theorem sound_wf : ∀ (n : Nat) (x : Tr) (k : Int), soundB n x k = true → wfT n x
  | 0, _, _, _ => trivial
  | n + 1, .mk d m t ns ks, k, h => by
    simp only [soundB, plainB, Bool.and_eq_true, decide_eq_true_eq] at h
    refine ⟨h.1.2.1, fun x hx => ?_⟩
    obtain ⟨j, hj⟩ := List.getElem?_of_mem hx
    exact sound_wf n x (k + 1) (allB_iff.1 h.2.2 j x hj)
def kidT : Tr → ByteArray → Option Tr
  | .mk _ _ _ ns ks, x => (nidx ns x).bind fun j => ks[j]?
def atT : Tr → List ByteArray → Option Tr
  | t, [] => some t
  | t, x :: r => (kidT t x).bind fun k => atT k r
def zeroT : Tr := .mk false 0 ⟨#[]⟩ [] []
theorem RT_zero (n : Nat) (rd : Addr → Option Value) : RT (n + 1) rd [.bool false, .int .i64 0, .string ⟨#[]⟩, .slice none 0 0, .slice none 0 0] zeroT :=
  ⟨_, _, rfl, by omega, by show 0 ≤ _; omega, ⟨none, 0, rfl, by simp, fun j x h => by simp at h⟩, ⟨none, 0, rfl, by simp, fun j x h => by simp at h⟩⟩
section
variable {w0 : World} {σ : Vw}

theorem find_names {v : Value} {ns : List ByteArray} {x : ByteArray} (h : RSl 1 RS (Av.get w0 σ) v ns) {R : Value → Vw → Prop} (hR : R (.int .i64 (placeI (nidx ns x))) σ) : AC Tryz.prog w0 n_slices_Index_string_string [v, .string x] σ R := by
  refine ac_slices_Index_string_string ?_
  unfold vc_slices_Index_string_string
  have hl := h.le
  rw [h.len]
  refine loop_rule (m := ns.length) (fun c l s => ∃ j, s = σ ∧ c + j = ns.length ∧ (∀ (i : Nat) (y : ByteArray), i < j → ns[i]? = some y → y ≠ x) ∧ l = [v, .string x, .int .i64 0, .int .i64 ns.length, .int .i64 (j : Nat)]) ?_ ⟨0, rfl, by omega, fun i y h => by omega, rfl⟩
  rintro c l s L ⟨j, rfl, hc, ht, rfl⟩ hL
  simp only [vget, List.getD_cons_zero, List.getD_cons_succ]
  rw [pBin_lt, pIf_d]
  refine ⟨fun hj => ?_, fun hj => ?_⟩
  · have hx := List.getElem?_eq_getElem (show j < ns.length by omega)
    generalize hxj : ns[j] = y at hx
    refine RSl.at1 h hx fun g hg hs => ?_
    rw [hg, pBin_seq, pIf_d]
    refine ⟨fun he => ?_, fun hne => ?_⟩
    · subst he
      rw [nidx_at hx ht] at hR
      exact hR
    · rw [pBin_add (by omega)]
      refine hL _ _ (c - 1) (by omega) ⟨j + 1, rfl, by omega, fun i z hi hz => ?_, rfl⟩
      by_cases e : i = j
      · subst e; rw [hx] at hz; cases hz; exact fun e => hne e.symm
      · exact ht i z (by omega) hz
  · rw [nidx_none fun i y hy => ht i y (by have := (List.getElem?_eq_some_iff.1 hy).1; omega) hy] at hR
    exact hR

theorem spec_Find {n : Nat} {es : List Value} {d : Bool} {m : Int} {t : ByteArray} {ns : List ByteArray} {ks : List Tr} {x : ByteArray} (h : RT n (Av.get w0 σ) es (.mk d m t ns ks)) {R : Value → Vw → Prop} (hR : R (.int .i64 (placeI (nidx ns x))) σ) : AC Tryz.prog w0 n_spec_l1Find [.agg ⟨es⟩, .string x] σ R := by
  obtain _ | n := n
  · exact h.elim
  obtain ⟨u, w, rfl, h2, h3, h4, h5⟩ := h
  refine ac_spec_l1Find ?_
  unfold vc_spec_l1Find
  have hl := h4.le
  rw [pVal_5 rfl rfl rfl h4.one h5.one]
  simp only [cellOf_agg, List.getD_cons_zero, List.getD_cons_succ]
  refine loop_rule (m := ns.length) (fun c l s => ∃ j, s = σ ∧ c + j = ns.length ∧ (∀ (i : Nat) (y : ByteArray), i < j → ns[i]? = some y → y ≠ x) ∧ l = [.string x, .int .i64 0, .int .i64 (j : Nat), .bool d, .int .i64 m, .string t, u, w]) ?_ ⟨0, rfl, by omega, fun i y h => by omega, rfl⟩
  rintro c l s L ⟨j, rfl, hc, ht, rfl⟩ hL
  simp only [vget, List.getD_cons_zero, List.getD_cons_succ]
  rw [h4.len, pBin_lt, pIf_d]
  refine ⟨fun hj => ?_, fun hj => ?_⟩
  · have hx := List.getElem?_eq_getElem (show j < ns.length by omega)
    generalize hxj : ns[j] = y at hx
    refine RSl.at1 h4 hx fun g hg hs => ?_
    rw [hg, pBin_seq, pIf_d]
    refine ⟨fun he => ?_, fun hne => ?_⟩
    · subst he
      rw [nidx_at hx ht] at hR
      exact hR
    · rw [pBin_add (by omega)]
      refine hL _ _ (c - 1) (by omega) ⟨j + 1, rfl, by omega, fun i z hi hz => ?_, rfl⟩
      by_cases e : i = j
      · subst e; rw [hx] at hz; cases hz; exact hne
      · exact ht i z (by omega) hz
  · rw [nidx_none fun i y hy => ht i y (by have := (List.getElem?_eq_some_iff.1 hy).1; omega) hy] at hR
    exact hR

/-- What a kid is read as. -/
theorem kid_some {n : Nat} {d : Bool} {m : Int} {t : ByteArray} {ns : List ByteArray} {ks : List Tr} {x : ByteArray} (hw : wfT (n + 1) (.mk d m t ns ks)) {j : Nat} (hj : nidx ns x = some j) : ∃ k, ks[j]? = some k ∧ kidT (.mk d m t ns ks) x = some k ∧ wfT n k := by
  have h1 := nidx_some hj
  have hlt := (List.getElem?_eq_some_iff.1 h1).1
  have hw1 := hw.1
  have hk := List.getElem?_eq_getElem (show j < ks.length by omega)
  refine ⟨_, hk, ?_, hw.2 _ (List.getElem_mem _)⟩
  simp only [kidT, hj, Option.bind_some, hk]

theorem spec_At : ∀ (ps : List ByteArray) {n : Nat} {σ : Vw} {es : List Value} {v : Value} {x : Tr} {R : Value → Vw → Prop}, RT n (Av.get w0 σ) es x → wfT n x → RSl 1 RS (Av.get w0 σ) v ps →
    (∀ es', RT n (Av.get w0 σ) es' ((atT x ps).getD zeroT) → R (.tuple ⟨[.agg ⟨es'⟩, .bool (atT x ps).isSome]⟩) σ) → AC Tryz.prog w0 n_spec_l1At [.agg ⟨es⟩, v] σ R
  | ps, 0, _, _, _, _, _, h, _, _, _ => h.elim
  | ps, n + 1, σ, es, v, .mk d m t ns ks, R, h, hw, hp, hR => by
    have h0 := h
    obtain ⟨u, w, rfl, h2, h3, h4, h5⟩ := h
    refine ac_spec_l1At ?_
    unfold vc_spec_l1At
    have e5 : ∀ A : Prop, pVal true 5 (.agg ⟨[.bool d, .int .i64 m, .string t, u, w]⟩) A ↔ A := fun A => pVal_5 rfl rfl rfl h4.one h5.one
    rw [e5]
    simp only [cellOf_agg, List.getD_cons_zero, List.getD_cons_succ]
    rw [hp.len, pBin_eq, pIf_d]
    cases ps with
    | nil =>
      refine ⟨fun _ => ?_, fun h => absurd rfl h⟩
      rw [e5]
      exact hR _ h0
    | cons p r =>
      refine ⟨fun h => by simp at h; omega, fun _ => ?_⟩
      refine RSl.at1 (w0 := w0) (σ := σ) hp (j := 0) (x := p) rfl fun g hg hs => ?_
      rw [hg]
      refine spec_Find h0 ?_
      rw [pBin_lt, pIf_d]
      cases hj : nidx ns p with
      | none =>
        refine ⟨fun _ => ?_, fun h => absurd (show (-1 : Int) < 0 by omega) h⟩
        rw [pVal_5 rfl rfl rfl rfl rfl]
        have : atT (.mk d m t ns ks) (p :: r) = none := by simp [atT, kidT, hj]
        rw [this] at hR
        exact hR _ (RT_zero n _)
      | some j =>
        refine ⟨fun h => by simp only [placeI] at h; omega, fun _ => ?_⟩
        obtain ⟨k, hk1, hk2, hk3⟩ := kid_some hw hj
        have hat : atT (.mk d m t ns ks) (p :: r) = atT k r := by simp only [atT, hk2, Option.bind_some]
        rw [hat] at hR
        refine h5.at hk1 fun g8 hg8 => ?_
        refine hp.slice (l := 1) (u := (p :: r).length) rfl rfl (by simp) (Nat.le_refl _) fun v9 hv9 => ?_
        rw [List.take_length, List.drop_one, List.tail_cons] at hv9
        refine spec_At r hg8 hk3 hv9 fun es' he' => ?_
        rw [pExtract_s rfl, pExtract_s rfl]
        have hn : RT (n + 1) (Av.get w0 σ) es' ((atT k r).getD zeroT) := RT_up _ _ _ _ he'
        obtain ⟨a, b, c, d', e, rfl, _, hpv⟩ := RT.five hn
        rw [hpv]
        exact hR _ hn

/-- A pointer to a tree. -/
def PT (n : Nat) (rd : Addr → Option Value) (p : Value) (x : Tr) : Prop := ∃ a es, p = .pointer (some a) ∧ es.length = 5 ∧ (∀ i, i < 5 → rd (a.add i) = es[i]?) ∧ RT n rd es x
theorem PT.mono {n : Nat} {rd rd' : Addr → Option Value} {p : Value} {x : Tr} (h : PT n rd p x) (hl : Le rd rd') : PT n rd' p x := by
  obtain ⟨a, es, h1, h2, h3, h4⟩ := h
  refine ⟨a, es, h1, h2, fun i hi => ?_, mono_rt n _ _ _ _ hl h4⟩
  have := h3 i hi
  rw [List.getElem?_eq_getElem (by omega)] at this ⊢
  exact hl _ _ this
theorem PT.up {n : Nat} {rd : Addr → Option Value} {p : Value} {x : Tr} (h : PT n rd p x) : PT (n + 1) rd p x := by
  obtain ⟨a, es, h1, h2, h3, h4⟩ := h
  exact ⟨a, es, h1, h2, h3, RT_up _ _ _ _ h4⟩
/-- A field behind a pointer is read. -/
theorem PT.ld {n : Nat} {p : Value} {x : Tr} (h : PT n (Av.get w0 σ) p x) (o : Nat) (ho : o < 5) {K : (Nat → Value) → Prop} (hK : ∀ (es : List Value) (g : Nat → Value), RT n (Av.get w0 σ) es x → es[o]? = some (g 0) → K g) : pNil p (pField o p fun q => pLoad w0 1 q σ K) := by
  obtain ⟨a, es, rfl, h5, h6, h7⟩ := h
  rw [pNil_s, pField_s]
  refine ⟨_, fun _ => es.getD o undef, rfl, fun i hi => ?_, hK es _ h7 ?_⟩
  · have e : i = 0 := by omega
    subst e
    have := h6 o ho
    rw [add_add, Nat.add_zero, this, List.getElem?_eq_getElem (by omega)]
    simp only [List.getD_eq_getElem?_getD, List.getElem?_eq_getElem (show o < es.length by omega), Option.getD_some]
  · simp only [List.getD_eq_getElem?_getD, List.getElem?_eq_getElem (show o < es.length by omega), Option.getD_some]
/-- The address of an element. -/
theorem RSl.ptr {n k : Nat} {v : Value} {xs : List Tr} (h : RSl 5 (RT n) (Av.get w0 σ) v xs) {j : Nat} {x : Tr} (hj : xs[j]? = some x) {K : Value → Prop} (hK : ∀ p, PT n (Av.get w0 σ) p x → K p) : pIndexAddr 5 v (.int .i64 j) K := by
  obtain ⟨A, cap, rfl, _, h3⟩ := h
  obtain ⟨a, es, rfl, h5, h6, h7⟩ := h3 j x hj
  have hlt : j < xs.length := (List.getElem?_eq_some_iff.1 hj).1
  refine ⟨a, xs.length, cap, .i64, j, rfl, rfl, by omega, by omega, hK _ ⟨_, es, rfl, h5, fun i hi => ?_, h7⟩⟩
  have := h6 i hi
  rw [Int.toNat_natCast, add_add]; exact this

/-- What is at a name, by pointers: a pointer, or nil. -/
def PO (n : Nat) (rd : Addr → Option Value) (p : Value) : Option Tr → Prop
  | some x => PT n rd p x
  | none => p = .pointer none
theorem impl_kid {n : Nat} {p : Value} {x : Tr} {name : ByteArray} {R : Value → Vw → Prop} (h : PT (n + 1) (Av.get w0 σ) p x) (hw : wfT (n + 1) x) (hR : ∀ q, PO n (Av.get w0 σ) q (kidT x name) → R q σ) : AC Tryz.prog w0 n_p_impl_Tree_kid [p, .string name] σ R := by
  obtain ⟨d, m, t, ns, ks⟩ := x
  refine ac_p_impl_Tree_kid ?_
  unfold vc_p_impl_Tree_kid
  refine h.ld 3 (by omega) fun es g he hg => ?_
  obtain ⟨u, w, rfl, h2, h3, h4, h5⟩ := he
  simp only [List.getElem?_cons_zero, List.getElem?_cons_succ, Option.some.injEq] at hg
  rw [← hg]
  refine find_names h4 ?_
  rw [pBin_lt, pIf_d]
  cases hj : nidx ns name with
  | none =>
    refine ⟨fun _ => hR _ (by simp only [kidT, hj, Option.bind_none]; rfl), fun h => absurd (show (-1 : Int) < 0 by omega) h⟩
  | some j =>
    refine ⟨fun h => by simp only [placeI] at h; omega, fun _ => ?_⟩
    obtain ⟨k, hk1, hk2, hk3⟩ := kid_some hw hj
    have hlt := (List.getElem?_eq_some_iff.1 hk1).1
    refine h.ld 4 (by omega) fun es g he hg => ?_
    obtain ⟨u', w', rfl, h2', h3', h4', h5'⟩ := he
    simp only [List.getElem?_cons_zero, List.getElem?_cons_succ, Option.some.injEq] at hg
    rw [← hg, h5'.len]
    simp only [placeI]
    rw [pBin_ge, pIf_d]
    refine ⟨fun h => by omega, fun _ => ?_⟩
    refine h.ld 4 (by omega) fun es g he hg => ?_
    obtain ⟨u2, w2, rfl, h22, h32, h42, h52⟩ := he
    simp only [List.getElem?_cons_zero, List.getElem?_cons_succ, Option.some.injEq] at hg
    rw [← hg]
    refine RSl.ptr (k := 0) h52 hk1 fun q hq => hR q ?_
    rw [hk2]; exact hq

theorem wf_RT_up : ∀ {n : Nat} {rd : Addr → Option Value} {es : List Value} {x : Tr}, RT n rd es x → wfT n x → wfT (n + 1) x
  | 0, _, _, _, h, _ => h.elim
  | n + 1, rd, es, .mk d m t ns ks, h, hw => by
    obtain ⟨u, w, h1, h2, h3, h4, A, cap, _, _, h5⟩ := h
    refine ⟨hw.1, fun k hk => ?_⟩
    obtain ⟨j, hj⟩ := List.getElem?_of_mem hk
    obtain ⟨a, es', _, _, _, h6⟩ := h5 j k hj
    exact wf_RT_up h6 (hw.2 k hk)

theorem pBin_nil {T : Nat} {p : Option Addr} {K : Value → Prop} (hT : ∃ e, Tryz.prog.underlying T = some (.pointer e)) : pBin Tryz.prog T .eql (.pointer p) (.pointer none) K ↔ K (.bool p.isNone) := by
  obtain ⟨e, he⟩ := hT
  have h : abinT Tryz.prog T .eql (.pointer p) (.pointer none) = some (.bool p.isNone) := by simp only [abinT, he]
  exact ⟨fun ⟨_, h', hK⟩ => by rw [h] at h'; cases h'; exact hK, fun hK => ⟨_, h, hK⟩⟩
theorem ptr_tree : ∃ e, Tryz.prog.underlying t_p_impl_Tree = some (.pointer e) := ⟨t_impl_Tree, by kernel_rfl⟩

theorem impl_at {n : Nat} {p v : Value} {x : Tr} {ps : List ByteArray} {R : Value → Vw → Prop} (h : PT (n + 1) (Av.get w0 σ) p x) (hw : wfT (n + 1) x) (hp : RSl 1 RS (Av.get w0 σ) v ps) (hR : ∀ q, PO (n + 1) (Av.get w0 σ) q (atT x ps) → R q σ) : AC Tryz.prog w0 n_p_impl_Tree_at [p, v] σ R := by
  refine ac_p_impl_Tree_at ?_
  unfold vc_p_impl_Tree_at
  have hl := hp.le
  rw [hp.len]
  refine loop_rule (m := ps.length) (fun c l s => ∃ (j : Nat) (q : Value) (y : Tr), s = σ ∧ c + j = ps.length ∧ PT (n + 1) (Av.get w0 σ) q y ∧ wfT (n + 1) y ∧ atT y (ps.drop j) = atT x ps ∧ l = [q, .pointer none, v, .int .i64 ps.length, .int .i64 (j : Nat)]) ?_ ⟨0, p, x, rfl, by omega, h, hw, rfl, rfl⟩
  rintro c l s L ⟨j, q, y, rfl, hc, hq, hy, hat, rfl⟩ hL
  simp only [vget, List.getD_cons_zero, List.getD_cons_succ]
  rw [pBin_lt, pIf_d]
  refine ⟨fun hj => ?_, fun hj => ?_⟩
  · have hx := List.getElem?_eq_getElem (show j < ps.length by omega)
    have hd : ps.drop j = ps[j] :: ps.drop (j + 1) := List.drop_eq_getElem_cons (by omega)
    rw [hd] at hat
    generalize hxj : ps[j] = z at hx hat
    refine RSl.at1 hp hx fun g hg hs => ?_
    rw [hg]
    refine impl_kid hq hy fun q' hq' => ?_
    cases hk : kidT y z with
    | none =>
      rw [hk] at hq'
      obtain rfl : q' = .pointer none := hq'
      rw [pBin_nil ptr_tree]
      rw [pIf_b]
      refine ⟨fun _ => hR _ ?_, fun h => by cases h⟩
      have : atT x ps = none := by rw [← hat]; simp only [atT, hk, Option.bind_none]
      rw [this]; exact rfl
    | some y' =>
      rw [hk] at hq'
      have hq2 : PT n (Av.get w0 s) q' y' := hq'
      obtain ⟨a, es, rfl, r1, r2, r3⟩ := hq2
      rw [pBin_nil ptr_tree]
      rw [pIf_b]
      refine ⟨fun h => (by cases h), fun _ => ?_⟩
      rw [pBin_add (by omega)]
      have hw' : wfT n y' := by
        obtain ⟨d, m, t, ns, ks⟩ := y
        cases hj : nidx ns z with
        | none => simp only [kidT, hj, Option.bind_none] at hk; cases hk
        | some i =>
          obtain ⟨k, _, hk2, hk3⟩ := kid_some hy hj
          rw [hk] at hk2; cases hk2; exact hk3
      refine hL _ _ (c - 1) (by omega) ⟨j + 1, _, y', rfl, by omega, PT.up ⟨a, es, rfl, r1, r2, r3⟩, wf_RT_up r3 hw', ?_, rfl⟩
      rw [← hat]; simp only [atT, hk, Option.bind_some]
  · have hj' : j = ps.length := by omega
    subst hj'
    rw [List.drop_length] at hat
    have : atT x ps = some y := by rw [← hat]; rfl
    refine hR q ?_
    rw [this]; exact hq
end
end Go.Proofs.YtkbhjejalkbogaaGreat

/- Marks of texts. -/
set_option linter.unusedVariables false
set_option linter.unusedSimpArgs false
namespace Go.Proofs.YtkbhjejalkbogaaGreat
open Go Go.Av

theorem size_strOfNums (xs : List Int) : (strOfNums xs).size = xs.length := by
  simp [strOfNums, ByteArray.size]
section
variable {w0 : World} {σ : Vw}

end
end Go.Proofs.YtkbhjejalkbogaaGreat

/- Reading and listing: the functions 'TreeRead' and 'TreeList' by either text. -/
set_option linter.unusedVariables false
set_option linter.unusedSimpArgs false
namespace Go.Proofs.YtkbhjejalkbogaaGreat
open Go Go.Av

def kidsOf : Tr → List Tr
  | .mk _ _ _ _ ks => ks
def namesOf : Tr → List ByteArray
  | .mk _ _ _ ns _ => ns
def dataOf : Tr → ByteArray
  | .mk _ _ t _ _ => t
def modeOf : Tr → Int
  | .mk _ m _ _ _ => m
/-- What can be read. -/
def IsT (n : Nat) (x : Tr) : Prop := ∃ rd es, RT n rd es x
theorem kid_mem {x : Tr} {nm : ByteArray} {k : Tr} (h : kidT x nm = some k) : k ∈ kidsOf x := by
  obtain ⟨d, m, t, ns, ks⟩ := x
  simp only [kidT, Option.bind_eq_some_iff] at h
  obtain ⟨j, _, hj⟩ := h
  exact List.mem_of_getElem? hj
theorem isT_kid {n : Nat} {x k : Tr} (h : IsT (n + 1) x) (hk : k ∈ kidsOf x) : IsT n k := by
  obtain ⟨d, m, t, ns, ks⟩ := x
  obtain ⟨rd, es, u, w, h1, h2, h3, h4, A, cap, _, _, h5⟩ := h
  obtain ⟨j, hj⟩ := List.getElem?_of_mem hk
  obtain ⟨a, es', _, _, _, h6⟩ := h5 j k hj
  exact ⟨rd, es', h6⟩
section
variable {w0 : World} {σ : Vw}

theorem RT.cells {n : Nat} {rd : Addr → Option Value} {es : List Value} {x : Tr} (h : RT n rd es x) : ∃ u w, es = [.bool (isDir x), .int .i64 (modeOf x), .string (dataOf x), u, w] ∧ (-9223372036854775808 ≤ modeOf x ∧ modeOf x ≤ 9223372036854775807) ∧ (dataOf x).size ≤ 9223372036854775807 ∧ RSl 1 RS rd u (namesOf x) ∧ RSl 5 (RT n) rd w (kidsOf x) ∧ ∀ A : Prop, pVal true 5 (.agg ⟨es⟩) A ↔ A := by
  obtain _ | n := n
  · exact h.elim
  · obtain ⟨d, m, t, ns, ks⟩ := x
    obtain ⟨u, w, rfl, h2, h3, h4, h5⟩ := h
    exact ⟨u, w, rfl, h2, h3, h4, h5.imp fun es x h => RT_up n rd es x h, fun A => pVal_5 rfl rfl rfl h4.one h5.one⟩

/-- A tree that is put into a row of our own. -/
theorem PT.new {n b : Nat} {es : List Value} {x : Tr} (h : RT n (Av.get w0 σ) es x) (hb : w0.heap.size ≤ b) (hn : σ b = none) {ety c : Nat} : PT n (Av.get w0 (σ.put b ⟨ety, es, c, (0, 0)⟩)) (.pointer (some ⟨b, 0, none⟩)) x := by
  have hl : es.length = 5 := by obtain ⟨_, _, _, _, _, rfl, _⟩ := RT.five h; rfl
  refine ⟨_, es, rfl, hl, fun i hi => ?_, mono_rt n _ _ _ _ (Keeps.put hn).le h⟩
  rw [addr_add, get_row hb put_at, Nat.zero_add]
end
end Go.Proofs.YtkbhjejalkbogaaGreat

/- Marks of trees. -/
set_option linter.unusedVariables false
set_option linter.unusedSimpArgs false
namespace Go.Proofs.YtkbhjejalkbogaaGreat
open Go Go.Av

section
variable {w0 : World} {σ : Vw}

end
end Go.Proofs.YtkbhjejalkbogaaGreat

/- The laws 'TreeRead' and 'TreeList', of the functions alone. -/
set_option linter.unusedVariables false
set_option linter.unusedSimpArgs false
namespace Go.Proofs.YtkbhjejalkbogaaGreat
open Go Go.Av

section
variable {w0 : World} {σ : Vw}

end
end Go.Proofs.YtkbhjejalkbogaaGreat

/- 'TreeAt': copies of trees by either hand; marks of trees that are results; the law. -/
set_option linter.unusedVariables false
set_option linter.unusedSimpArgs false
namespace Go.Proofs.YtkbhjejalkbogaaGreat
open Go Go.Av

theorem none_at {σ s : Vw} (k : Keeps σ s) {i : Nat} (h : s i = none) : σ i = none := by
  cases hs : σ i with
  | none => rfl
  | some r => rw [k i r hs] at h; cases h
theorem sumBy_congr {α : Type} {f g : α → Nat} : ∀ {xs : List α}, (∀ x, x ∈ xs → f x = g x) → sumBy f xs = sumBy g xs
  | [], _ => rfl
  | x :: xs, h => by simp only [sumBy]; rw [h x (by simp), sumBy_congr fun y hy => h y (by simp [hy])]
theorem sz_up : ∀ {n : Nat} {x : Tr}, IsT n x → szT (n + 1) x = szT n x
  | 0, _, ⟨_, _, h⟩ => h.elim
  | n + 1, .mk d m t ns ks, h => by
    have : sumBy (szT (n + 1)) ks = sumBy (szT n) ks := sumBy_congr fun k hk => sz_up (isT_kid h hk)
    show t.size + (ns.length + sumS ns) + (ks.length + sumBy (szT (n + 1)) ks) = t.size + (ns.length + sumS ns) + (ks.length + sumBy (szT n) ks)
    rw [this]
theorem sz_at : ∀ (ps : List ByteArray) {n : Nat} {x y : Tr}, IsT n x → atT x ps = some y → IsT n y ∧ szT n y ≤ szT n x
  | [], n, x, y, h, e => by cases e; exact ⟨h, Nat.le_refl _⟩
  | p :: r, 0, x, y, ⟨_, _, h⟩, e => h.elim
  | p :: r, n + 1, .mk d m t ns ks, y, h, e => by
    simp only [atT, Option.bind_eq_some_iff] at e
    obtain ⟨k, hk, e⟩ := e
    have hm := kid_mem hk
    have hi := isT_kid h hm
    obtain ⟨h1, h2⟩ := sz_at r hi e
    have h3 := sumBy_mem (f := szT n) (show k ∈ ks from hm)
    have h4 := sz_up h1
    obtain ⟨rd, es, h1⟩ := h1
    refine ⟨⟨rd, es, RT_up _ _ _ _ h1⟩, ?_⟩
    rw [h4]
    show _ ≤ t.size + (ns.length + sumS ns) + (ks.length + sumBy (szT n) ks)
    omega
theorem sz_zero : ∀ n, szT n zeroT = 0
  | 0 => rfl
  | n + 1 => rfl
section
variable {w0 : World} {σ : Vw}

theorem spec_l1Copy : ∀ (n : Nat) {σ : Vw} {es : List Value} {x : Tr} {R : Value → Vw → Prop}, RT n (Av.get w0 σ) es x → fitT n x → (∀ es' F σ', Keeps σ σ' → OT w0 n σ' F es' x → (∀ b, b ∈ F → σ b = none) → R (.agg ⟨es'⟩) σ') → AC Tryz.prog w0 n_spec_l1Copy [.agg ⟨es⟩] σ R
  | 0, _, _, _, _, h, _, _ => h.elim
  | n + 1, σ, es, .mk d md t ns ks, R, h, hf, hR => by
    obtain ⟨u, w, rfl, h2, h3, h4, h5⟩ := h
    obtain ⟨f1, f2, f3⟩ := hf
    refine ac_spec_l1Copy ?_
    unfold vc_spec_l1Copy
    rw [pVal_5 rfl rfl rfl h4.one h5.one]
    simp only [cellOf_agg, List.getD_cons_zero, List.getD_cons_succ]
    intro b hb1 hb2
    have kb : Keeps σ (σ.put b ⟨t_string, [], 0, (0, 0)⟩) := Keeps.put hb2
    have hb0 : ∀ i, i ∈ [b] → σ i = none := fun i hi => by rw [List.mem_singleton.1 hi]; exact hb2
    refine (OAcc.new (w0 := w0) (σ := σ) (ety := t_string) (n := 1) (O := OStr) hb1).all (ok_str w0) h4 kb.le (fun es y hy => ⟨rfl, hy⟩) (by simpa using f1) (by omega) fun u' F1 s1 k1 o1 g1 => ?_
    have K1 := k1.old kb hb0
    have hF1 := fresh_in kb hb0 g1
    rw [List.nil_append] at o1
    have hl5 := h5.le
    rw [pVal1 rfl, pVal1 rfl, pVal1 rfl, pVal1 (OSl.one' o1.osl), pVal_5 rfl rfl rfl (OSl.one' o1.osl) rfl]
    refine loop_rule (m := ks.length) (fun m l s => ∃ (j : Nat) (v' : Value) (F2 : List Nat), m + j = ks.length ∧ Keeps σ s ∧ OStrs w0 s F1 u' ns ∧ OAcc w0 t_impl_Tree 5 (OT w0 n) s F2 v' (ks.take j) ∧ (∀ i, i ∈ F2 → σ i = none) ∧ (∀ i, i ∈ F1 → i ∉ F2) ∧
        l = [.int .i64 (j : Nat), .bool d, .int .i64 md, .string t, u, w, .bool false, .int .i64 0, .string ⟨#[]⟩, .slice none 0 0, .slice none 0 0, .bool d, .int .i64 md, .string t, u', v']) ?_
      ⟨0, _, [], by omega, K1, o1.osl, OAcc.nil, by simp, by simp, rfl⟩
    rintro m l s L ⟨j, v', F2, hm, ks', p1, p2, hF2, hd, rfl⟩ hL
    simp only [vget, List.getD_cons_zero, List.getD_cons_succ]
    have h5' := h5.mono ks'.le fun es x => mono_rt n _ _ es x ks'.le
    rw [h5'.len, pBin_lt, pIf_d]
    refine ⟨fun hi => ?_, fun hi => ?_⟩
    · have hx := List.getElem?_eq_getElem (show j < ks.length by omega)
      generalize hxi : ks[j]'(by omega) = y at hx
      refine h5'.at hx fun g hg => ?_
      refine spec_l1Copy n hg (f3 y (List.mem_of_getElem? hx)) fun es3 F3 s3 k3 o3 g3 => ?_
      obtain ⟨a, b', c, d', e, rfl, _, hpv⟩ := RT.five ((ok_rt w0 n).rel _ _ _ _ o3)
      rw [hpv]
      simp only [cellOf_agg, List.getD_cons_zero, List.getD_cons_succ]
      have p2' := p2.frame (ok_rt w0 n) (k3.but_at fun b hb => (p2.dom (ok_rt w0 n) b hb).2)
      have p1' := p1.frame (ok_str w0) (k3.but_at fun b hb => (p1.dom (ok_str w0) b hb).2)
      refine p2'.one (ok_rt w0 n) o3 (fun i hi hi' => (p2.dom (ok_rt w0 n) i hi').2 (g3 i hi)) (by rw [List.length_take]; omega) (by omega) fun v4 F4 s4 k4 o4 g4 => ?_
      rw [pVal1 (OSl.one' o4.osl), pBin_add (by omega)]
      have K3 := ks'.trans k3
      have hF3 : ∀ i, i ∈ F3 → σ i = none := fun i hi => none_at ks' (g3 i hi)
      refine hL _ _ (m - 1) (by omega) ⟨j + 1, v4, F4, by omega, k4.old K3 hF2, p1'.frame (ok_str w0) (k4.at (fun i hi => (p1'.dom (ok_str w0) i hi).2) hd), ?_, fun i hi => ?_, fun i hi hi' => ?_, rfl⟩
      · rw [List.take_add_one, hx]; exact o4
      · rcases g4 i hi with h | h | h
        · exact hF2 i h
        · exact hF3 i h
        · exact none_at K3 h
      · rcases g4 i hi' with h | h | h
        · exact hd i hi h
        · exact (p1.dom (ok_str w0) i hi).2 (g3 i h)
        · exact (p1'.dom (ok_str w0) i hi).2 h
    · have e : j = ks.length := by omega
      subst e
      rw [List.take_length] at p2
      rw [pVal_5 rfl rfl rfl (OSl.one' p1) (OSl.one' p2.osl)]
      refine hR _ (F1 ++ F2) s ks' ⟨u', v', F1, F2, rfl, h2, h3, p1, p2.osl, rfl, List.nodup_append.2 ⟨p1.2.1, p2.osl.2.1, fun a ha b hb e => hd a ha (e ▸ hb)⟩⟩ fun i hi => ?_
      rcases List.mem_append.1 hi with h | h
      · exact hF1 i h
      · exact hF2 i h

end
end Go.Proofs.YtkbhjejalkbogaaGreat

/- Lists of our own that grow, whose elements are read where they lie, old or new: what an append keeps. -/
set_option linter.unusedVariables false
set_option linter.unusedSimpArgs false
namespace Go.Av
open Go Go.RowKit

section
variable {P : Program} {w0 : World} {σ σ' : Vw} {α : Type}

theorem OAcc.rebase {ety n : Nat} {Rel : (Addr → Option Value) → List Value → α → Prop} (ok : ROk n Rel) {rd rd' : Addr → Option Value} {F : List Nat} {v : Value} {xs : List α} (h : OAcc w0 ety n (OB Rel rd) σ F v xs) (hle : Le rd rd') : OAcc w0 ety n (OB Rel rd') σ F v xs := by
  obtain ⟨h1, h2, h3 | ⟨b, cap, css, Fs, g1, g2, g3, g4, g5, g6, g7, g8⟩⟩ := h
  · exact ⟨h1, h2, .inl h3⟩
  · exact ⟨h1, h2, .inr ⟨b, cap, css, Fs, g1, g2, g3, g4, g5, g6, g7, fun j c x f e1 e2 e3 => by
      have := g8 j c x f e1 e2 e3
      exact ⟨this.1, ok.mono _ _ _ _ hle this.2⟩⟩⟩

/-- A list that grows in a row of our own. -/
def GA (w0 : World) (ety n : Nat) (Rel : (Addr → Option Value) → List Value → α → Prop) (σ : Vw) (F : List Nat) (v : Value) (xs : List α) : Prop :=
  OAcc w0 ety n (OB Rel (Av.get w0 σ)) σ F v xs

variable {ety n : Nat} {Rel : (Addr → Option Value) → List Value → α → Prop}
theorem GA.dom (ok : ROk n Rel) {F : List Nat} {v : Value} {xs : List α} (h : GA w0 ety n Rel σ F v xs) : ∀ b, b ∈ F → w0.heap.size ≤ b ∧ σ b ≠ none := OAcc.dom (ok_base ok w0 _) h
theorem GA.frame (ok : ROk n Rel) {F : List Nat} {v : Value} {xs : List α} (h : GA w0 ety n Rel σ F v xs) (hF : ∀ b, b ∈ F → σ' b = σ b) (hx : Ext σ σ') : GA w0 ety n Rel σ' F v xs :=
  OAcc.rebase ok (OAcc.frame (ok_base ok w0 _) h hF) hx.le
theorem GA.keep (ok : ROk n Rel) {F : List Nat} {v : Value} {xs : List α} (h : GA w0 ety n Rel σ F v xs) (k : Keeps σ σ') : GA w0 ety n Rel σ' F v xs := h.frame ok (k.but_at fun b hb => (h.dom ok b hb).2) k.ext
theorem GA.rsl (ok : ROk n Rel) {F : List Nat} {v : Value} {xs : List α} (h : GA w0 ety n Rel σ F v xs) : RSl n Rel (Av.get w0 σ) v xs :=
  (OSl.rel (ok_base ok w0 _) (OAcc.osl h)).unbase ok (Le.refl _)
theorem GA.nil : GA w0 ety n Rel σ [] (.slice none 0 0) [] := OAcc.nil
theorem GA.push (ok : ROk n Rel) {bytes : Nat} {F : List Nat} {v : Value} {xs : List α} {y : α} {es : List Value} (h : GA w0 ety n Rel σ F v xs) (hy : Rel (Av.get w0 σ) es y) (hl : xs.length ≤ 100000000000) (hb : bytes ≤ 140) {K : Value → Vw → Prop}
    (hK : ∀ v' F' σ', Ext σ σ' → KeepsBut F σ σ' → GA w0 ety n Rel σ' F' v' (xs ++ [y]) → (∀ i, i ∈ F' → i ∈ F ∨ σ i = none) → K v' σ') : allOne es ∧ pAppend w0 ety n bytes v 1 es σ K :=
  OAcc.oneX (ok_base ok w0 _) (f := []) h ⟨rfl, hy⟩ (fun i hi => by cases hi) (by omega) hb fun v' F' σ' x k o f => hK v' F' σ' x k (OAcc.rebase ok o x.le) fun i hi => by
    rcases f i hi with e | e | e
    · exact .inl e
    · cases e
    · exact .inr e
theorem GA.cell {F : List Nat} {v : Value} {xs : List α} (h : GA w0 ety n Rel σ F v xs) : v.oneCell' = true := by
  obtain ⟨_, _, ⟨rfl, _⟩ | ⟨_, _, _, _, rfl, _⟩⟩ := h <;> rfl
/-- Two rows of our own, none of both. -/
def Apart (F G : List Nat) : Prop := ∀ i, i ∈ F → i ∉ G
theorem Apart.symm {F G : List Nat} (h : Apart F G) : Apart G F := fun i hi hi' => h i hi' hi
theorem Apart.grow {F F' G : List Nat} (h : Apart F G) (hG : ∀ b, b ∈ G → σ b ≠ none) (hF : ∀ i, i ∈ F' → i ∈ F ∨ σ i = none) : Apart F' G := fun i hi hi' => by
  rcases hF i hi with e | e
  · exact h i e hi'
  · exact hG i hi' e
theorem GA.other (ok : ROk n Rel) {F G : List Nat} {v : Value} {xs : List α} (h : GA w0 ety n Rel σ G v xs) (hd : Apart F G) (x : Ext σ σ') (k : KeepsBut F σ σ') : GA w0 ety n Rel σ' G v xs :=
  h.frame ok (k.at (fun b hb => (h.dom ok b hb).2) fun b hb hb' => hd b hb' hb) x
end
end Go.Av
namespace Go.Proofs.YtkbhjejalkbogaaGreat
open Go Go.Av
theorem rok_s : ROk 1 RS := ⟨fun _ _ _ _ _ h => h, fun _ _ _ h => by rw [h.1]; rfl, fun _ _ _ h c hc => by rw [h.1] at hc; rw [List.mem_singleton.1 hc]; rfl⟩
theorem rok_rt : ∀ n, ROk 5 (RT n)
  | 0 => ⟨fun _ _ _ _ _ h => h.elim, fun _ _ _ h => h.elim, fun _ _ _ h => h.elim⟩
  | n + 1 => by
    refine ⟨fun rd rd' es x hl h => mono_rt _ _ _ _ _ hl h, fun rd es x h => ?_, fun rd es x h c hc => ?_⟩
    · obtain ⟨d, m, t, ns, ks⟩ := x
      obtain ⟨u, w, rfl, _⟩ := h; rfl
    · obtain ⟨d, m, t, ns, ks⟩ := x
      obtain ⟨u, w, rfl, _, _, hu, hw⟩ := h
      simp at hc
      rcases hc with rfl | rfl | rfl | rfl | rfl
      · rfl
      · rfl
      · rfl
      · exact hu.one
      · exact hw.one
end Go.Proofs.YtkbhjejalkbogaaGreat

/- A tree in which something else is set at a path, by the reference's hand: that it is one, and not too large. -/
set_option linter.unusedVariables false
set_option linter.unusedSimpArgs false
namespace Go.Proofs.YtkbhjejalkbogaaGreat
open Go Go.Av

theorem sz_more {n m : Nat} {x : Tr} (h : IsT n x) (hm : n ≤ m) : szT m x = szT n x := by
  obtain ⟨k, rfl⟩ := Nat.exists_eq_add_of_le hm
  clear hm
  induction k with
  | zero => rfl
  | succ k ih =>
    obtain ⟨rd, es, h1⟩ := h
    rw [← ih]
    exact sz_up ⟨rd, es, RT_le (Nat.le_add_right n k) h1⟩
theorem wf_more {n m : Nat} {rd : Addr → Option Value} {es : List Value} {x : Tr} (h : RT n rd es x) (hw : wfT n x) (hm : n ≤ m) : wfT m x := by
  obtain ⟨k, rfl⟩ := Nat.exists_eq_add_of_le hm
  clear hm
  induction k with
  | zero => exact hw
  | succ k ih => exact wf_RT_up (RT_le (Nat.le_add_right n k) h) ih
theorem RT.isT {n : Nat} {rd : Addr → Option Value} {es : List Value} {x : Tr} (h : RT n rd es x) : IsT n x := ⟨rd, es, h⟩
theorem RT.shape {n : Nat} {rd : Addr → Option Value} {es : List Value} {x : Tr} (h : RT n rd es x) : ∃ a b c d e, es = [a, b, c, d, e] ∧ (∀ A : Prop, pVal true 5 (.agg ⟨[a, b, c, d, e]⟩) A ↔ A) := by
  obtain ⟨u, w, rfl, _, _, _, _, h⟩ := h.cells
  exact ⟨_, _, _, _, _, rfl, h⟩

def nmW (l : List ByteArray) : Nat := l.length + sumS l
def kdW (n : Nat) (l : List Tr) : Nat := l.length + sumBy (szT n) l
theorem nmW_snoc {l : List ByteArray} {x : ByteArray} : nmW (l ++ [x]) = nmW l + (1 + x.size) := by
  have : ∀ l : List ByteArray, sumS (l ++ [x]) = sumS l + x.size := fun l => by
    induction l with
    | nil => simp [sumS]
    | cons a r ih => simp only [List.cons_append, sumS, ih]; omega
  simp only [nmW, List.length_append, List.length_singleton, this]; omega
theorem kdW_snoc {n : Nat} {l : List Tr} {x : Tr} : kdW n (l ++ [x]) = kdW n l + (1 + szT n x) := by
  have : ∀ l : List Tr, sumBy (szT n) (l ++ [x]) = sumBy (szT n) l + szT n x := fun l => by
    induction l with
    | nil => simp [sumBy]
    | cons a r ih => simp only [List.cons_append, sumBy, ih]; omega
  simp only [kdW, List.length_append, List.length_singleton, this]; omega
theorem nmW_take {l : List ByteArray} {j : Nat} {x : ByteArray} (h : l[j]? = some x) : nmW (l.take (j + 1)) = nmW (l.take j) + (1 + x.size) := by
  rw [List.take_add_one, h]; exact nmW_snoc
theorem kd_mul {n C : Nat} : ∀ {l : List Tr}, sumBy (fun k => (szT n k + 1) * C) l = kdW n l * C
  | [] => by simp [kdW, sumBy]
  | a :: r => by
    have := kd_mul (n := n) (C := C) (l := r)
    simp only [sumBy, this, kdW, List.length_cons]
    rw [← Nat.add_mul]
    congr 1; omega

section
variable {w0 : World} {σ : Vw}

/-- How far a tree has come that is put together part by part. -/
def SetS (w0 : World) (σ : Vw) (N T : Nat) (s : Vw) (u w : Value) : Prop := ∃ F1 F2 ys zs, Keeps σ s ∧ GA w0 t_string 1 RS s F1 u ys ∧ GA w0 t_impl_Tree 5 (RT N) s F2 w zs ∧ Apart F1 F2 ∧ (∀ b, b ∈ F1 → σ b = none) ∧ (∀ b, b ∈ F2 → σ b = none) ∧ ys.length = zs.length ∧ (∀ z, z ∈ zs → wfT N z) ∧ nmW ys + kdW N zs ≤ T
theorem SetS.le {N T T' : Nat} {s : Vw} {u w : Value} (h : SetS w0 σ N T s u w) (hT : T ≤ T') : SetS w0 σ N T' s u w := by
  obtain ⟨F1, F2, ys, zs, h1, h2, h3, h4, h5, h6, h7, h8, h9⟩ := h
  exact ⟨F1, F2, ys, zs, h1, h2, h3, h4, h5, h6, h7, h8, by omega⟩
theorem SetS.keep {N T : Nat} {s s' : Vw} {u w : Value} (h : SetS w0 σ N T s u w) (k : Keeps s s') : SetS w0 σ N T s' u w := by
  obtain ⟨F1, F2, ys, zs, h1, h2, h3, h4, h5, h6, h7, h8, h9⟩ := h
  exact ⟨F1, F2, ys, zs, h1.trans k, h2.keep rok_s k, h3.keep (rok_rt N) k, h4, h5, h6, h7, h8, h9⟩
theorem SetS.nil {N : Nat} : SetS w0 σ N 0 σ (.slice none 0 0) (.slice none 0 0) :=
  ⟨[], [], [], [], Keeps.refl _, GA.nil, GA.nil, fun i h => by (cases h), fun i h => by (cases h), fun i h => by (cases h), rfl, fun z h => by (cases h), by simp [nmW, kdW, sumS, sumBy]⟩
theorem SetS.keeps {N T : Nat} {s : Vw} {u w : Value} (h : SetS w0 σ N T s u w) : Keeps σ s := by obtain ⟨F1, F2, ys, zs, h1, _⟩ := h; exact h1
/-- A name and a part are added. -/
theorem SetS.add {N T : Nat} {s : Vw} {u w : Value} {nm : ByteArray} {es : List Value} {y : Tr} (h : SetS w0 σ N T s u w) (hn : nm.size ≤ 9223372036854775807) (hy : RT N (Av.get w0 s) es y) (hw : wfT N y) (hT : T ≤ 100000000000) {K : Value → Value → Vw → Prop}
    (hK : ∀ u' w' s', SetS w0 σ N (T + (1 + nm.size) + (1 + szT N y)) s' u' w' → K u' w' s') :
    pVal false 1 (.string nm) (allOne [.string nm] ∧ pAppend w0 t_string 1 16 u 1 [.string nm] s (fun u' s1 => pVal false 1 u' (pVal true 5 (.agg ⟨es⟩) (allOne es ∧ pAppend w0 t_impl_Tree 5 80 w 1 es s1 (fun w' s2 => pVal false 1 w' (K u' w' s2)))))) := by
  obtain ⟨F1, F2, ys, zs, h1, h2, h3, h4, h5, h6, h7, h8, h9⟩ := h
  obtain ⟨a, b, c, d, e, rfl, hp⟩ := hy.shape
  have l1 : ys.length ≤ 100000000000 := by simp only [nmW] at h9; omega
  rw [pVal1 rfl]
  refine h2.push rok_s ⟨rfl, hn⟩ l1 (by omega) fun u' F1' s1 x1 k1 g1 f1 => ?_
  rw [pVal1 g1.cell, hp]
  have h3' := h3.other (rok_rt N) h4 x1 k1
  refine h3'.push (rok_rt N) (mono_rt N _ _ _ _ x1.le hy) (by omega) (by omega) fun w' F2' s2 x2 k2 g2 f2 => ?_
  rw [pVal1 g2.cell]
  have a1 : Apart F1' F2 := h4.grow (fun b hb => (h3.dom (rok_rt N) b hb).2) f1
  have a2 : Apart F2' F1' := a1.symm.grow (fun b hb => (g1.dom rok_s b hb).2) f2
  have K1 := k1.old h1 h5
  have n1 : ∀ b, b ∈ F1' → σ b = none := fun b hb => by
    rcases f1 b hb with e | e
    · exact h5 b e
    · exact none_at h1 e
  have n2 : ∀ b, b ∈ F2' → σ b = none := fun b hb => by
    rcases f2 b hb with e | e
    · exact h6 b e
    · exact none_at K1 e
  refine hK _ _ _ ⟨F1', F2', ys ++ [nm], zs ++ [y], k2.old K1 h6, g1.other rok_s a1.symm x2 k2, g2, a2.symm, n1, n2, by simp [h7], fun z hz => ?_, ?_⟩
  · rcases List.mem_append.1 hz with e | e
    · exact h8 z e
    · rw [List.mem_singleton.1 e]; exact hw
  · rw [nmW_snoc, kdW_snoc]; omega
/-- What is put together is a tree. -/
theorem SetS.tree {N T : Nat} {s : Vw} {u w : Value} (h : SetS w0 σ N T s u w) {d : Bool} {m : Int} {t : ByteArray} (hm : -9223372036854775808 ≤ m ∧ m ≤ 9223372036854775807) (ht : t.size ≤ 9223372036854775807) :
    ∃ y, RT (N + 1) (Av.get w0 s) [.bool d, .int .i64 m, .string t, u, w] y ∧ wfT (N + 1) y ∧ szT (N + 1) y ≤ t.size + T := by
  obtain ⟨F1, F2, ys, zs, h1, h2, h3, h4, h5, h6, h7, h8, h9⟩ := h
  refine ⟨.mk d m t ys zs, ⟨u, w, rfl, hm, ht, h2.rsl rok_s, h3.rsl (rok_rt N)⟩, ⟨h7, h8⟩, ?_⟩
  show t.size + (ys.length + sumS ys) + (zs.length + sumBy (szT N) zs) ≤ _
  simp only [nmW, kdW] at h9; omega

set_option maxHeartbeats 4000000 in
theorem spec_l2Set {k : Nat} {P : Nat} {gone : Bool} {z : Tr} : ∀ (n : Nat) {σ : Vw} {es ez : List Value} {u : Value} {x : Tr} {ps : List ByteArray}, RT n (Av.get w0 σ) es x → wfT n x → RSl 1 RS (Av.get w0 σ) u ps → ps ≠ [] → RT k (Av.get w0 σ) ez z → wfT k z → (∀ s, s ∈ ps → s.size ≤ P) → (szT n x + 1) * (P + szT k z + 4) ≤ 100000000000 →
    ∀ {R : Value → Vw → Prop}, (∀ es' y σ', Keeps σ σ' → RT (n + k) (Av.get w0 σ') es' y → wfT (n + k) y → szT (n + k) y + 1 ≤ (szT n x + 1) * (P + szT k z + 4) → R (.agg ⟨es'⟩) σ') → AC Tryz.prog w0 n_spec_l2Set [.agg ⟨es⟩, u, .agg ⟨ez⟩, .bool gone] σ R
  | 0, _, _, _, _, _, _, h, _, _, _, _, _, _, _, _, _ => h.elim
  | n + 1, σ, es, ez, u, .mk d md t ns ks, ps, h, hw, hu, hne, hz, hwz, hP, hbig, R, hR => by
    obtain ⟨un, wk, rfl, hmd, ht, hun, hwk⟩ := h
    obtain ⟨z0, z1, z2, z3, z4, rfl, hpz⟩ := hz.shape
    refine ac_spec_l2Set ?_
    unfold vc_spec_l2Set
    rw [pVal_5 rfl rfl rfl hun.one hwk.one, hpz]
    simp only [cellOf_agg, List.getD_cons_zero, List.getD_cons_succ]
    rw [pVal1 rfl, pVal1 rfl, pVal1 rfl, pVal_5 rfl rfl rfl rfl rfl]
    obtain ⟨p0, hp0⟩ : ∃ p0, ps[0]? = some p0 := ⟨_, List.getElem?_eq_getElem (List.length_pos_iff.2 hne)⟩
    have hp0s := hP p0 (List.mem_of_getElem? hp0)
    have hwl := hw.1
    have hl1 := hun.le
    have hl2 := hu.le
    have hszk : szT (n + k) z = szT k z := sz_more hz.isT (by omega)
    have hszx : szT (n + 1) (.mk d md t ns ks) = t.size + nmW ns + kdW n ks := rfl
    rw [hszx] at hbig hR
    generalize hC : P + szT k z + 4 = C at *
    have hmul : (t.size + nmW ns + kdW n ks + 1) * C = t.size * C + nmW ns * C + kdW n ks * C + C := by rw [Nat.add_mul, Nat.add_mul, Nat.add_mul, Nat.one_mul]
    have hC4 : 4 ≤ C := by omega
    have hm1 : t.size ≤ t.size * C := Nat.le_mul_of_pos_right _ (by omega)
    have hm2 : nmW ns ≤ nmW ns * C := Nat.le_mul_of_pos_right _ (by omega)
    -- what stands so far, by the number of rounds
    have bnd : ∀ (i : Nat), nmW (ns.take i) + sumBy (fun k => (szT n k + 1) * C) (ks.take i) ≤ nmW ns + kdW n ks * C := fun i => by
      have h1 := sumBy_le (f := fun k => (szT n k + 1) * C) (xs := ks) i
      rw [kd_mul (l := ks)] at h1
      have h2 : nmW (ns.take i) ≤ nmW ns := by
        have := sumBy_le (f := ByteArray.size) (xs := ns) i
        rw [← sumS_eq, ← sumS_eq] at this
        simp only [nmW, List.length_take]; omega
      omega
    refine loop_rule (m := ns.length) (fun c l s => ∃ (i : Nat) (done : Bool) (v22 v23 : Value), c + i = ns.length ∧ SetS w0 σ (n + k) (nmW (ns.take i) + sumBy (fun k => (szT n k + 1) * C) (ks.take i) + (if done = true then C - 2 else 0)) s v22 v23 ∧
        l = [u, .bool gone, .bool done, .int .i64 (i : Nat), .bool d, .int .i64 md, .string t, un, wk, z0, z1, z2, z3, z4, .bool false, .int .i64 0, .string ⟨#[]⟩, .slice none 0 0, .slice none 0 0, .bool d, .int .i64 md, .string t, v22, v23]) ?_
      ⟨0, false, _, _, by omega, (SetS.nil (w0 := w0) (σ := σ)).le (by omega), rfl⟩
    rintro c l s L ⟨i, done, v22, v23, hc, hS, rfl⟩ hL
    simp only [vget, List.getD_cons_zero, List.getD_cons_succ]
    have ks0 := hS.keeps
    have hns := hun.mono ks0.le fun _ _ h => h
    have hus := hu.mono ks0.le fun _ _ h => h
    rw [hns.len, pBin_lt, pIf_d]
    have fin : ∀ (s : Vw) (v22 v23 : Value) (T : Nat), SetS w0 σ (n + k) T s v22 v23 → T ≤ nmW ns + kdW n ks * C + (C - 2) → pVal true 5 (.agg (⟨[.bool d, .int .i64 md, .string t, v22, v23]⟩)) (R (.agg (⟨[.bool d, .int .i64 md, .string t, v22, v23]⟩)) s) := fun s v22 v23 T hS hT => by
      obtain ⟨y, hy, hwy, hsz⟩ := hS.tree (d := d) hmd ht
      obtain ⟨_, _, _, _, _, _, _, hp5⟩ := hy.five
      rw [hp5]
      refine hR _ y s hS.keeps ?_ ?_ ?_
      · rw [Nat.add_right_comm]; exact hy
      · rw [Nat.add_right_comm]; exact hwy
      · rw [Nat.add_right_comm]; omega
    refine ⟨fun hi => ?_, fun hi => ?_⟩
    · have hx := List.getElem?_eq_getElem (show i < ns.length by omega)
      have hy := List.getElem?_eq_getElem (show i < ks.length by omega)
      generalize ns[i]'(by omega) = nm at hx
      generalize ks[i]'(by omega) = kid at hy
      have hb1 := bnd i
      have hb2 := bnd (i + 1)
      have t1 := nmW_take hx
      have t2 := sumBy_take (f := fun k => (szT n k + 1) * C) hy
      have hkid1 : szT n kid + 1 ≤ (szT n kid + 1) * C := Nat.le_mul_of_pos_right _ (by omega)
      refine RSl.at1 hns hx fun g6 hg6 hnm => ?_
      rw [hg6]
      have KID : (nm = p0 → 2 ≤ ps.length) → ∀ (done : Bool) (s : Vw) (v22 v23 : Value), SetS w0 σ (n + k) (nmW (ns.take i) + sumBy (fun k => (szT n k + 1) * C) (ks.take i) + (if done = true then C - 2 else 0)) s v22 v23 →
          pIndexAddr 5 wk (.int .i64 (i : Nat)) (fun v212 => pLoad w0 5 v212 s (fun g213 => pVal true 5 (.agg (⟨[g213 0, g213 1, g213 2, g213 3, g213 4]⟩)) (pIndexAddr 1 u (.int .i64 0) (fun v214 => pLoad w0 1 v214 s (fun g215 => pBin Tryz.prog 9 .eql (.string nm) (g215 0) (fun v216 => pIf v216
            (pSlice 1 u (some (.int .i64 1)) none (fun v217 => AC Tryz.prog w0 n_spec_l2Set ([.agg (⟨[g213 0, g213 1, g213 2, g213 3, g213 4]⟩), v217, .agg (⟨[z0, z1, z2, z3, z4]⟩), .bool gone]) s (fun v218 s219 => pVal true 5 v218 (pVal false 1 (.string nm) (allOne [.string nm] ∧ pAppend w0 t_string 1 16 v22 1 [.string nm] s219 (fun v220 s221 => pVal false 1 v220 (pVal true 5 (.agg (⟨[cellOf v218 0, cellOf v218 1, cellOf v218 2, cellOf v218 3, cellOf v218 4]⟩)) (allOne [cellOf v218 0, cellOf v218 1, cellOf v218 2, cellOf v218 3, cellOf v218 4] ∧ pAppend w0 t_impl_Tree 5 80 v23 1 [cellOf v218 0, cellOf v218 1, cellOf v218 2, cellOf v218 3, cellOf v218 4] s221 (fun v222 s223 => pVal false 1 v222 (pBin Tryz.prog 3 .add (.int .i64 (i : Nat)) (.int .i64 1) (fun v224 => L [u, .bool gone, .bool done, v224, .bool d, .int .i64 md, .string t, un, wk, z0, z1, z2, z3, z4, .bool false, .int .i64 0, .string ⟨#[]⟩, .slice none 0 0, .slice none 0 0, .bool d, .int .i64 md, .string t, v220, v222] s223)))))))))))
            (pVal false 1 (.string nm) (allOne [.string nm] ∧ pAppend w0 t_string 1 16 v22 1 [.string nm] s (fun v225 s226 => pVal false 1 v225 (pVal true 5 (.agg (⟨[g213 0, g213 1, g213 2, g213 3, g213 4]⟩)) (allOne [g213 0, g213 1, g213 2, g213 3, g213 4] ∧ pAppend w0 t_impl_Tree 5 80 v23 1 [g213 0, g213 1, g213 2, g213 3, g213 4] s226 (fun v227 s228 => pVal false 1 v227 (pBin Tryz.prog 3 .add (.int .i64 (i : Nat)) (.int .i64 1) (fun v229 => L [u, .bool gone, .bool done, v229, .bool d, .int .i64 md, .string t, un, wk, z0, z1, z2, z3, z4, .bool false, .int .i64 0, .string ⟨#[]⟩, .slice none 0 0, .slice none 0 0, .bool d, .int .i64 md, .string t, v225, v227] s228)))))))))))))) := fun hq done s v22 v23 hS => by
        have ks0 := hS.keeps
        have hus := hu.mono ks0.le fun _ _ h => h
        have hks := hwk.mono ks0.le fun es x => mono_rt n _ _ es x ks0.le
        have hT : nmW (ns.take i) + sumBy (fun k => (szT n k + 1) * C) (ks.take i) + (if done = true then C - 2 else 0) ≤ 100000000000 := by split <;> omega
        have hmem := List.mem_of_getElem? hy
        refine hks.at hy fun g hg => ?_
        simp only [expl] at hg
        obtain ⟨_, _, _, _, _, _, _, hp5⟩ := hg.five
        rw [hp5]
        refine RSl.at1 hus hp0 fun g0 hg0 _ => ?_
        rw [hg0, pBin_seq, pIf_d]
        refine ⟨fun e => ?_, fun e => ?_⟩
        · have hlen := hq e
          refine RSl.slice (n := 1) hus (l := 1) (u := ps.length) rfl rfl (by omega) (Nat.le_refl _) fun v' hv' => ?_
          rw [List.take_length] at hv'
          refine spec_l2Set (P := P) n hg (hw.2 kid hmem) hv' (fun e0 => by have := congrArg List.length e0; simp at this; omega) (mono_rt k _ _ _ _ ks0.le hz) hwz (fun s hs => hP s (List.mem_of_mem_drop hs)) (by rw [hC]; omega) fun es' y s' k' hy' hwy hsz => ?_
          rw [hC] at hsz
          obtain ⟨a, b, c', d', e', rfl, hpy⟩ := hy'.shape
          rw [hpy]
          simp only [cellOf_agg, List.getD_cons_zero, List.getD_cons_succ]
          refine (hS.keep k').add hnm hy' hwy hT fun u' w' s' h' => ?_
          rw [pBin_add (by omega)]
          refine hL _ _ (c - 1) (by omega) ⟨i + 1, done, u', w', by omega, h'.le ?_, rfl⟩
          rw [t1, t2]; omega
        · refine hS.add hnm (RT_le (Nat.le_add_right n k) hg) (wf_more hg (hw.2 kid hmem) (Nat.le_add_right n k)) hT fun u' w' s' h' => ?_
          rw [pBin_add (by omega)]
          refine hL _ _ (c - 1) (by omega) ⟨i + 1, done, u', w', by omega, h'.le ?_, rfl⟩
          rw [t1, t2, sz_more hg.isT (Nat.le_add_right n k)]
          omega
      have D2 : ∀ (KP : Prop) (done : Bool) (s : Vw) (v22 v23 : Value), SetS w0 σ (n + k) (nmW (ns.take i) + sumBy (fun k => (szT n k + 1) * C) (ks.take i) + (if done = true then C - 2 else 0)) s v22 v23 → ((nm = p0 → 2 ≤ ps.length) → KP) →
          pIndexAddr 1 u (.int .i64 0) (fun v62 => pLoad w0 1 v62 s (fun g63 => pBin Tryz.prog 9 .eql (.string nm) (g63 0) (fun v64 => pIf v64 (pLen u (fun v65 => pBin Tryz.prog 3 .eql v65 (.int .i64 1) (fun v66 => pIf v66 (pBin Tryz.prog 3 .add (.int .i64 (i : Nat)) (.int .i64 1) (fun v67 => L [u, .bool gone, .bool done, v67, .bool d, .int .i64 md, .string t, un, wk, z0, z1, z2, z3, z4, .bool false, .int .i64 0, .string ⟨#[]⟩, .slice none 0 0, .slice none 0 0, .bool d, .int .i64 md, .string t, v22, v23] s)) KP))) KP))) := fun KP done s v22 v23 hS hKP => by
        have ks0 := hS.keeps
        have hus := hu.mono ks0.le fun _ _ h => h
        refine RSl.at1 hus hp0 fun g0 hg0 _ => ?_
        rw [hg0, pBin_seq, pIf_d]
        refine ⟨fun e => ?_, fun e => hKP fun e' => absurd e' e⟩
        rw [hus.len, pBin_eq, pIf_d]
        refine ⟨fun e1 => ?_, fun e1 => hKP fun _ => by have := List.length_pos_iff.2 hne; omega⟩
        rw [pBin_add (by omega)]
        refine hL _ _ (c - 1) (by omega) ⟨i + 1, done, v22, v23, by omega, hS.le ?_, rfl⟩
        rw [t1, t2]; omega
      rw [hus.len, pBin_eq, pIf_d]
      refine ⟨fun hl => ?_, fun hl => D2 _ done s v22 v23 hS fun hq => KID hq done s v22 v23 hS⟩
      rw [pUn_not, pIf_b]
      refine ⟨fun hd => ?_, fun hd => D2 _ done s v22 v23 hS fun hq => KID hq done s v22 v23 hS⟩
      rw [pUn_not, pIf_b]
      refine ⟨fun hg => ?_, fun hg => D2 _ done s v22 v23 hS fun hq => KID hq done s v22 v23 hS⟩
      refine RSl.at1 hus hp0 fun g0 hg0 _ => ?_
      rw [hg0, pBin_sge, pIf_b]
      refine ⟨fun hge => ?_, fun hge => D2 _ done s v22 v23 hS fun hq => KID hq done s v22 v23 hS⟩
      refine RSl.at1 hus hp0 fun g1 hg1 hps => ?_
      rw [hg1]
      have hd0 : done = false := by simpa using hd
      subst hd0
      refine hS.add hps (RT_le (Nat.le_add_left k n) (mono_rt k _ _ _ _ ks0.le hz)) (wf_more hz hwz (Nat.le_add_left k n)) (by rw [if_neg (by simp)]; omega) fun u' w' s' h' => ?_
      have h'' := h'.le (T' := nmW (ns.take i) + sumBy (fun k => (szT n k + 1) * C) (ks.take i) + (if true = true then C - 2 else 0)) (by rw [if_neg (by simp), if_pos rfl]; omega)
      exact D2 _ true s' u' w' h'' fun hq => KID hq true s' u' w' h''
    · have e : i = ns.length := by omega
      subst e
      have hb := bnd ns.length
      show pLen u _
      rw [hus.len, pBin_eq, pIf_d]
      have last := fin s v22 v23 _ hS (by split <;> omega)
      refine ⟨fun hl => ?_, fun hl => last⟩
      show pUn .not (.bool done) _
      rw [pUn_not, pIf_b]
      refine ⟨fun hd => ?_, fun hd => last⟩
      show pUn .not (.bool gone) _
      rw [pUn_not, pIf_b]
      refine ⟨fun hg => ?_, fun hg => last⟩
      have hd0 : done = false := by simpa using hd
      subst hd0
      refine RSl.at1 hus hp0 fun g1 hg1 hps => ?_
      rw [hg1]
      refine hS.add hps (RT_le (Nat.le_add_left k n) (mono_rt k _ _ _ _ ks0.le hz)) (wf_more hz hwz (Nat.le_add_left k n)) (by rw [if_neg (by simp)]; omega) fun u' w' s' h' => ?_
      exact fin s' u' w' _ h' (by rw [if_neg (by simp)]; omega)
end
end Go.Proofs.YtkbhjejalkbogaaGreat

/- Texts as lists of bytes; what is cut at a byte; decimals. Plain. -/
set_option linter.unusedVariables false
set_option linter.unusedSimpArgs false
namespace Go.Av
open Go Go.RowKit

abbrev bl (s : ByteArray) : List UInt8 := s.data.toList
def ofL (l : List UInt8) : ByteArray := ⟨l.toArray⟩
theorem bl_ofL (l : List UInt8) : bl (ofL l) = l := rfl
theorem bl_inj {a b : ByteArray} (h : bl a = bl b) : a = b := by
  cases a; cases b
  simp only [ByteArray.mk.injEq]
  exact Array.toList_inj.1 h
theorem size_bl (s : ByteArray) : (bl s).length = s.size := by
  show s.data.toList.length = s.data.size
  simp
theorem size_ofL (l : List UInt8) : (ofL l).size = l.length := by rw [← size_bl, bl_ofL]
theorem bl_append (a b : ByteArray) : bl (a ++ b) = bl a ++ bl b := by
  show (a ++ b).data.toList = _
  rw [ByteArray.data_append, Array.toList_append]
theorem ofL_append (a b : List UInt8) : ofL a ++ ofL b = ofL (a ++ b) := bl_inj (by rw [bl_append, bl_ofL, bl_ofL, bl_ofL])
theorem bl_byte (n : Nat) : bl (strOfNums [((n % 256 : Nat) : Int)]) = [UInt8.ofNat n] := by
  simp only [bl, strOfNums, List.map_cons, List.map_nil]
  congr 1
  apply UInt8.toNat_inj.1
  simp
  omega

/-! ### Decimals -/
def dig (n : Nat) : UInt8 := UInt8.ofNat (48 + n % 10)
def decL (k : Nat) : List UInt8 := if h : k < 10 then [dig k] else decL (k / 10) ++ [dig k]
termination_by k
decreasing_by omega
theorem decL_small {k : Nat} (h : k < 10) : decL k = [dig k] := by rw [decL, dif_pos h]
theorem decL_big {k : Nat} (h : ¬ k < 10) : decL k = decL (k / 10) ++ [dig k] := by rw [decL, dif_neg h]
theorem decL_len (k : Nat) : 1 ≤ (decL k).length ∧ (decL k).length ≤ k / 10 + 1 := by
  induction k using Nat.strongRecOn with
  | _ k ih =>
    by_cases h : k < 10
    · rw [decL_small h]; simp
    · rw [decL_big h]
      have := ih (k / 10) (by omega)
      simp only [List.length_append, List.length_singleton]
      omega
/-- A number's figures. -/
def decN (k : Nat) : ByteArray := ofL (decL k)
def minText : ByteArray := ⟨#[45, 57, 50, 50, 51, 51, 55, 50, 48, 51, 54, 56, 53, 52, 55, 55, 53, 56, 48, 56]⟩
def decZ (n : Int) : ByteArray := if n < 0 then ⟨#[45]⟩ ++ decN (-n).toNat else decN n.toNat
theorem decN_size (k : Nat) : 1 ≤ (decN k).size ∧ (decN k).size ≤ k / 10 + 1 := by
  rw [decN, size_ofL]; exact decL_len k
theorem decZ_nat (k : Nat) : decZ (k : Int) = decN k := by
  unfold decZ
  rw [if_neg (by omega), Int.toNat_natCast]
end Go.Av

/- Bytes written into a text, by the reference's hand: how many they are. -/
set_option linter.unusedVariables false
set_option linter.unusedSimpArgs false
namespace Go.Proofs.YtkbhjejalkbogaaGreat
open Go Go.Av

section
variable {w0 : World} {σ : Vw}

/-- Bytes in a row of our own, n of them in sight. -/
def BR (w0 : World) (σ0 σ : Vw) (v : Value) (n : Nat) : Prop := ∃ b c r, v = .slice (some ⟨b, 0, none⟩) n c ∧ n ≤ c ∧ w0.heap.size ≤ b ∧ σ b = some r ∧ σ0 b = none ∧ Keeps σ0 σ ∧ (∀ i, i < n → ∃ x : Int, r.cells[i]? = some (.int .u8 x)) ∧
  (r.cells.length = c ∨ (c ≤ 9223372036854775807 ∧ r.cells.length = n ∧ r.ety = t_uint8 ∧ r.cap = c ∧ r.fz = (0, 0)))

theorem setAt_get {l new : List Value} {o i : Nat} (h : o + new.length ≤ l.length) : (setAt l o new)[i]? = if i < o then l[i]? else if i < o + new.length then new[i - o]? else l[i]? := by
  have e : l = l.take o ++ ((l.drop o).take new.length ++ (l.drop o).drop new.length) := by rw [List.take_append_drop, List.take_append_drop]
  have ho : (l.take o).length = o := by rw [List.length_take]; omega
  have hn : ((l.drop o).take new.length).length = new.length := by rw [List.length_take, List.length_drop]; omega
  have hset : setAt l o new = l.take o ++ (new ++ (l.drop o).drop new.length) := by
    conv => lhs; rw [e]
    have := setAt_mid (l.take o) ((l.drop o).take new.length) new ((l.drop o).drop new.length) hn
    rw [ho] at this
    exact this
  rw [hset]
  split
  · rename_i h1
    rw [List.getElem?_append_left (by omega), List.getElem?_take_of_lt h1]
  · split
    · rw [List.getElem?_append_right (by omega), ho, List.getElem?_append_left (by omega)]
    · rw [List.getElem?_append_right (by omega), ho, List.getElem?_append_right (by omega), List.drop_drop, List.getElem?_drop]
      congr 1; omega
theorem setAt_len {l new : List Value} {o : Nat} (h : o + new.length ≤ l.length) : (setAt l o new).length = l.length := by
  have e : l = l.take o ++ ((l.drop o).take new.length ++ (l.drop o).drop new.length) := by rw [List.take_append_drop, List.take_append_drop]
  have ho : (l.take o).length = o := by rw [List.length_take]; omega
  have hn : ((l.drop o).take new.length).length = new.length := by rw [List.length_take, List.length_drop]; omega
  have hset : setAt l o new = l.take o ++ (new ++ (l.drop o).drop new.length) := by
    conv => lhs; rw [e]
    have := setAt_mid (l.take o) ((l.drop o).take new.length) new ((l.drop o).drop new.length) hn
    rw [ho] at this
    exact this
  rw [hset]
  simp only [List.length_append, ho, List.length_drop]; omega

theorem BR.start {s : ByteArray} (hs : s.size ≤ 1000000) {K : Value → Vw → Prop} (hK : ∀ v σ', BR w0 σ σ' v s.size → K v σ') : pBytes w0 t_uint8 (.string s) σ K := by
  refine ⟨s, rfl, fun b c h1 h2 h3 => hK _ _ ⟨b, c, _, rfl, h3, h1, put_at, h2, Keeps.put h2, fun i hi => ?_, .inl ?_⟩⟩
  · have hl : s.data.toList.length = s.size := Array.length_toList
    have hi' : i < s.data.toList.length := by omega
    refine ⟨(s.data.toList[i].toNat : Int), ?_⟩
    rw [List.getElem?_append_left (by rw [List.length_map]; exact hi'), List.getElem?_map, List.getElem?_eq_getElem hi']; rfl
  · have : s.data.toList.length = s.size := Array.length_toList
    simp only [List.length_append, List.length_map, this, List.length_replicate]; omega
theorem BR.push {s : Vw} {v : Value} {n : Nat} {x : Int} (h : BR w0 σ s v n) (hn : n ≤ 10000000) {K : Value → Vw → Prop} (hK : ∀ v' s', BR w0 σ s' v' (n + 1) → K v' s') : allOne [.int .u8 x] ∧ pAppend w0 t_uint8 1 1 v 1 [.int .u8 x] s K := by
  refine ⟨fun c hc => by rw [List.mem_singleton.1 hc]; rfl, ?_⟩
  obtain ⟨b, c, r, rfl, h1, h2, h3, h4, h5, h6, h7⟩ := h
  rcases h7 with h7 | ⟨h8, h9, h10, h11, h12⟩
  · by_cases hc : n < c
    · refine .inl ⟨b, 0, n, c, r, rfl, h3, by omega, rfl, fun u hu => by rw [List.mem_singleton.1 hu]; rfl, by simp; omega, hK _ _ ⟨b, c, _, rfl, by omega, h2, put_at, h4, h5.fill h4, fun i hi => ?_, .inl ?_⟩⟩
      · simp only
        rw [setAt_get (by simp; omega)]
        simp only [Nat.mul_one, Nat.zero_add, List.length_singleton]
        split
        · rename_i hlt; exact h6 i hlt
        · first | rw [if_pos (by omega), show i - n = 0 by omega] | rw [show i - n = 0 by omega]
          exact ⟨x, rfl⟩
      · simp only
        rw [setAt_len (by simp; omega)]; exact h7
    · have hcn : c = n := by omega
      subst hcn
      refine .inr (.inr ⟨b, c, r, rfl, h3, by omega, by omega, rfl, by omega, by omega, fun b' c' q1 q2 q3 q4 => hK _ _ ⟨b', c', _, rfl, q3, q1, put_at, none_at h5 q2, h5.trans (Keeps.put q2), fun i hi => ?_, .inr ⟨q4, by simp [h7], rfl, by simp, rfl⟩⟩⟩)
      simp only
      by_cases hi2 : i < c
      · rw [List.getElem?_append_left (by omega)]; exact h6 i hi2
      · rw [List.getElem?_append_right (by omega), h7, show i - c = 0 by omega]; exact ⟨x, rfl⟩
  · obtain ⟨ety, cells, cap, fz⟩ := r
    simp only at h9 h10 h11 h12 h6
    subst h10 h11 h12
    refine .inr (.inl ⟨n, cells, ⟨by omega, .inr ⟨b, cap, rfl, by rw [h3, Nat.mul_one], h1, h8⟩⟩, rfl, by omega, by omega, fun v' s' hg => ?_⟩)
    rcases hg with ⟨_, _, hv, _⟩ | ⟨b', c', rfl, g1, g2, rfl, g3, g4⟩
    · cases hv
    · refine hK _ _ ⟨b', c', _, rfl, g1, g3, put_at, ?_, ?_, fun i hi => ?_, .inr ⟨g2, by simp [h9], rfl, by simp, rfl⟩⟩
      · rcases g4 with e | ⟨_, _, e⟩
        · exact none_at h5 e
        · cases e; exact h4
      · rcases g4 with e | ⟨_, _, e⟩
        · exact h5.trans (Keeps.put e)
        · cases e; exact h5.fill h4
      · simp only
        by_cases hi2 : i < n
        · rw [List.getElem?_append_left (by omega)]; exact h6 i hi2
        · rw [List.getElem?_append_right (by omega), h9, show i - n = 0 by omega]; exact ⟨x, rfl⟩
theorem BR.set {s : Vw} {v : Value} {n j : Nat} {x : Int} (h : BR w0 σ s v n) (hj : j < n) {K : Vw → Prop} (hK : ∀ s', BR w0 σ s' v n → K s') : pIndexAddr 1 v (.int .i64 (j : Nat)) (fun p => pVal false 1 (.int .u8 x) (pStore p [.int .u8 x] s K)) := by
  obtain ⟨b, c, r, rfl, h1, h2, h3, h4, h5, h6, h7⟩ := h
  have hcl : n ≤ r.cells.length := by rcases h7 with h | h <;> omega
  refine ⟨⟨b, 0, none⟩, n, c, .i64, j, rfl, rfl, by omega, by omega, ?_⟩
  show pVal false 1 (.int .u8 x) (pStore _ _ _ _)
  rw [pVal1 rfl, addr_add]
  refine ⟨b, _, r, rfl, h3, by simp; omega, hK _ ⟨b, c, _, rfl, h1, h2, put_at, h4, h5.fill h4, fun i hi => ?_, ?_⟩⟩
  · simp only
    rw [setAt_get (by simp; omega)]
    simp only [Int.toNat_natCast, Nat.mul_one, Nat.zero_add, List.length_singleton]
    split
    · exact h6 i hi
    · split
      · rw [show i - j = 0 by omega]; exact ⟨x, rfl⟩
      · exact h6 i hi
  · simp only
    rw [setAt_len (by simp; omega)]
    exact h7
theorem BR.str {s : Vw} {v : Value} {n : Nat} (h : BR w0 σ s v n) {K : Value → Prop} (hK : ∀ t : ByteArray, t.size = n → K (.string t)) : pStr w0 v s K := by
  obtain ⟨b, c, r, rfl, h1, h2, h3, h4, h5, h6, h7⟩ := h
  obtain ⟨xs, e1, e2⟩ := listOf (fun i (x : Int) => r.cells[i]? = some (.int .u8 x)) n h6
  refine .inr ⟨b, 0, n, c, xs, rfl, e1, fun j hj => ?_, hK _ (by rw [size_strOfNums, e1])⟩
  rw [Nat.zero_add, get_row h2 h3]
  have := e2 j _ (List.getElem?_eq_getElem (show j < xs.length by omega))
  rw [this, List.getD_eq_getElem?_getD, List.getElem?_eq_getElem (by omega)]; rfl

theorem spec_l2Write {s d : ByteArray} {a : Nat} (hs : s.size ≤ 1000000) (hd : d.size ≤ 1000000) (ha : a ≤ 1000000) {R : Value → Vw → Prop} (hR : ∀ t σ', Keeps σ σ' → t.size ≤ s.size + a + d.size → R (.string t) σ') : AC Tryz.prog w0 n_spec_l2Write [.string s, .int .i64 (a : Nat), .string d] σ R := by
  refine ac_spec_l2Write ?_
  unfold vc_spec_l2Write
  refine BR.start hs fun v0 s1 h0 => ?_
  refine loop_rule (m := a + d.size) (fun m l st => ∃ (n : Nat) (v : Value), a + d.size ≤ m + n ∧ n ≤ s.size + a + d.size ∧ BR w0 σ st v n ∧ l = [.int .i64 (a : Nat), .string d, v]) ?_ ⟨s.size, v0, by omega, by omega, h0, rfl⟩
  rintro m l st L ⟨n, v, hm, hn, hb, rfl⟩ hL
  simp only [vget, List.getD_cons_zero, List.getD_cons_succ]
  have hlen : ∀ {K : Value → Prop}, pLen v K ↔ K (.int .i64 (n : Nat)) := by
    obtain ⟨b, c, r, rfl, _⟩ := hb
    exact pLen_s
  rw [hlen, pLenS_s, pBin_add (by omega), pBin_lt, pIf_d]
  refine ⟨fun hlt => ?_, fun hge => ?_⟩
  · rw [pVal1 rfl]
    exact hb.push (by omega) fun v' s' h' => hL _ _ (m - 1) (by omega) ⟨n + 1, v', by omega, by omega, h', rfl⟩
  · show pLoop _ _ _ _
    refine loop_rule (m := d.size) (fun m l st => ∃ j : Nat, m + j = d.size ∧ BR w0 σ st v n ∧ l = [.int .i64 (a : Nat), .string d, v, .int .i64 (j : Nat)]) ?_ ⟨0, by omega, hb, rfl⟩
    rintro m' l st' L' ⟨j, hm', hb', rfl⟩ hL'
    simp only [vget, List.getD_cons_zero, List.getD_cons_succ]
    rw [pLenS_s, pBin_lt, pIf_d]
    refine ⟨fun hlt => ?_, fun hge2 => ?_⟩
    · rw [pBin_add (by omega)]
      refine pIndexStr_s (by omega) ?_
      rw [show ((a : Nat) : Int) + ((j : Nat) : Int) = ((a + j : Nat) : Int) by omega]
      refine hb'.set (by omega) fun s' h' => ?_
      rw [pBin_add (by omega)]
      exact hL' _ _ (m' - 1) (by omega) ⟨j + 1, by omega, h', rfl⟩
    · show pStr w0 v st' _
      refine hb'.str fun t ht => hR t st' ?_ (by omega)
      obtain ⟨_, _, _, _, _, _, _, _, h5, _⟩ := hb'
      exact h5
end
end Go.Proofs.YtkbhjejalkbogaaGreat

/- Marks of marks. -/
set_option linter.unusedVariables false
set_option linter.unusedSimpArgs false
namespace Go.Proofs.YtkbhjejalkbogaaGreat
open Go Go.Av

section
variable {w0 : World} {σ : Vw}

/-! ### Marks of marks -/
end
end Go.Proofs.YtkbhjejalkbogaaGreat

/- Calls; marks of marks; the trail of a call by either hand; the law 'TrailOf'. -/
set_option linter.unusedVariables false
set_option linter.unusedSimpArgs false
namespace Go.Proofs.YtkbhjejalkbogaaGreat
open Go Go.Av

/-- A call: its kind, its path, where to, a number, bytes. -/
abbrev Cl := Int × List ByteArray × List ByteArray × Int × ByteArray
abbrev i64r (n : Int) : Prop := -9223372036854775808 ≤ n ∧ n ≤ 9223372036854775807
def RCl (rd : Addr → Option Value) (es : List Value) (c : Cl) : Prop := ∃ u w, es = [.int .i64 c.1, u, w, .int .i64 c.2.2.2.1, .string c.2.2.2.2] ∧ RSl 1 RS rd u c.2.1 ∧ RSl 1 RS rd w c.2.2.1 ∧ i64r c.1 ∧ i64r c.2.2.2.1 ∧ c.2.2.2.2.size ≤ 9223372036854775807
noncomputable def pathB (xs : List ByteArray) : Bool := allNames xs && inB xs.length 1 4
noncomputable def callOk (c : Cl) : Bool :=
  inB c.1 1 6 && (pathB c.2.1 && (if c.1 = 1 ∨ c.1 = 6 then inB c.2.2.2.1 0 7 else if c.1 = 2 ∨ c.1 = 3 then inB c.2.2.2.1 0 24 else if c.1 = 5 then pathB c.2.2.1 else true))
noncomputable def ofT (n : Nat) (x : Tr) (c : Cl) : List Mk :=
  if treeOk n x = false then [] else if callOk c = false then []
  else if c.1 = 5 then [(c.2.1, isDir ((atT x c.2.1).getD zeroT)), (c.2.2.1, isDir ((atT x c.2.1).getD zeroT))] else [(c.2.1, false)]

section
variable {w0 : World} {σ : Vw}

theorem mono_cl {rd rd' : Addr → Option Value} {es : List Value} {x : Cl} (hl : Le rd rd') (h : RCl rd es x) : RCl rd' es x := by
  obtain ⟨u, w, h1, h2, h3, h4⟩ := h; exact ⟨u, w, h1, h2.mono hl fun _ _ h => h, h3.mono hl fun _ _ h => h, h4⟩
theorem RCl.five {rd : Addr → Option Value} {es : List Value} {x : Cl} (h : RCl rd es x) {A : Prop} : pVal true 5 (.agg ⟨es⟩) A ↔ A := by
  obtain ⟨u, w, rfl, h2, h3, _⟩ := h; exact pVal_5 rfl h2.one h3.one rfl rfl
theorem RCl.shape {rd : Addr → Option Value} {es : List Value} {x : Cl} (h : RCl rd es x) : ∃ a b c d e, es = [a, b, c, d, e] := by obtain ⟨u, w, h1, _⟩ := h; exact ⟨_, _, _, _, _, h1⟩

theorem callOk_no {k a : Int} {p t : List ByteArray} {d : ByteArray} (h : ¬ (1 ≤ k ∧ k ≤ 6)) : callOk (k, p, t, a, d) = false := by
  have : inB k 1 6 = false := by simp only [inB]; simpa using h
  simp [callOk, this]
theorem callOk_path {k a : Int} {p t : List ByteArray} {d : ByteArray} (h : pathB p = false) : callOk (k, p, t, a, d) = false := by simp [callOk, h]

theorem inB_yes {k lo hi : Int} (h : lo ≤ k ∧ k ≤ hi) : inB k lo hi = true := by simp [inB, h]

set_option maxRecDepth 20000 in
set_option maxHeartbeats 4000000 in
theorem spec_l2CallOk {es : List Value} {c : Cl} (h : RCl (Av.get w0 σ) es c) {R : Value → Vw → Prop} (hR : R (.bool (callOk c)) σ) : AC Tryz.prog w0 n_spec_l2CallOk [.agg ⟨es⟩] σ R := by
  obtain ⟨k, p, t, a, d⟩ := c
  obtain ⟨u, w, rfl, hu, hw, _⟩ := h
  refine ac_spec_l2CallOk ?_
  unfold vc_spec_l2CallOk
  rw [pVal_5 rfl hu.one hw.one rfl rfl]
  simp only [cellOf_agg, List.getD_cons_zero, List.getD_cons_succ]
  simp only at hu hw
  have A7 : k = 1 ∨ k = 6 → AC Tryz.prog w0 n_spec_l2PathOk [u] σ (fun v1 s2 => pIf v1 (AC Tryz.prog w0 n_spec_l1In [.int .i64 a, .int .i64 0, .int .i64 7] s2 (fun v3 s4 => R v3 s4)) (R (.bool false) s2)) := fun hk => by
    refine spec_PathOk hu (pIf_b.2 ⟨fun e => spec_In ?_, fun e => ?_⟩)
    · have : callOk (k, p, t, a, d) = inB a 0 7 := by
        simp only [callOk]
        rw [if_pos hk, inB_yes (by omega), show pathB p = true from e]; simp
      rw [this] at hR; exact hR
    · rw [callOk_path e] at hR; exact hR
  have A24 : k = 2 ∨ k = 3 → AC Tryz.prog w0 n_spec_l2PathOk [u] σ (fun v1 s2 => pIf v1 (AC Tryz.prog w0 n_spec_l1In [.int .i64 a, .int .i64 0, .int .i64 24] s2 (fun v3 s4 => R v3 s4)) (R (.bool false) s2)) := fun hk => by
    refine spec_PathOk hu (pIf_b.2 ⟨fun e => spec_In ?_, fun e => ?_⟩)
    · have : callOk (k, p, t, a, d) = inB a 0 24 := by
        simp only [callOk]
        rw [if_neg (by omega), if_pos hk, inB_yes (by omega), show pathB p = true from e]; simp
      rw [this] at hR; exact hR
    · rw [callOk_path e] at hR; exact hR
  have A4 : k = 4 → AC Tryz.prog w0 n_spec_l2PathOk [u] σ (fun v1 s2 => R v1 s2) := fun hk => by
    refine spec_PathOk hu ?_
    have : callOk (k, p, t, a, d) = pathB p := by
      simp only [callOk]
      rw [if_neg (by omega), if_neg (by omega), if_neg (by omega), inB_yes (by omega)]; simp
    rw [this] at hR; exact hR
  have A5 : k = 5 → AC Tryz.prog w0 n_spec_l2PathOk [u] σ (fun v1 s2 => pIf v1 (AC Tryz.prog w0 n_spec_l2PathOk [w] s2 (fun v3 s4 => R v3 s4)) (R (.bool false) s2)) := fun hk => by
    refine spec_PathOk hu (pIf_b.2 ⟨fun e => spec_PathOk hw ?_, fun e => ?_⟩)
    · have : callOk (k, p, t, a, d) = pathB t := by
        simp only [callOk]
        rw [if_neg (by omega), if_neg (by omega), if_pos hk, inB_yes (by omega), show pathB p = true from e]; simp
      rw [this] at hR; exact hR
    · rw [callOk_path e] at hR; exact hR
  have A0 : ¬ (1 ≤ k ∧ k ≤ 6) → R (.bool false) σ := fun hk => by rw [callOk_no hk] at hR; exact hR
  clear hR
  repeat' (first | (with_reducible refine pBin_eq.2 ?_; with_reducible refine pIf_d.2 ⟨fun _ => ?_, fun _ => ?_⟩) | with_reducible refine pIf_d.2 ⟨fun _ => ?_, fun _ => ?_⟩)
  all_goals first | (exfalso; omega) | (with_reducible refine A7 ?_; omega) | (with_reducible refine A24 ?_; omega) | (with_reducible refine A4 ?_; omega) | (with_reducible refine A5 ?_; omega) | (with_reducible refine A0 ?_; omega)

set_option maxRecDepth 20000 in
set_option maxHeartbeats 4000000 in
theorem impl_Call_isCall {es : List Value} {c : Cl} (h : RCl (Av.get w0 σ) es c) {R : Value → Vw → Prop} (hR : R (.bool (callOk c)) σ) : AC Tryz.prog w0 n_impl_Call_isCall [.agg ⟨es⟩] σ R := by
  obtain ⟨k, p, t, a, d⟩ := c
  obtain ⟨u, w, rfl, hu, hw, _⟩ := h
  refine ac_impl_Call_isCall ?_
  unfold vc_impl_Call_isCall
  rw [pVal_5 rfl hu.one hw.one rfl rfl]
  simp only [cellOf_agg, List.getD_cons_zero, List.getD_cons_succ]
  simp only at hu hw
  refine impl_within ?_
  rw [pUn_not, pIf_b]
  refine ⟨fun e => ?_, fun e => ?_⟩
  · have e' : inB k 1 6 = false := by simpa using e
    rw [show callOk (k, p, t, a, d) = false by simp [callOk, e']] at hR; exact hR
  have hk6 : inB k 1 6 = true := by simpa using e
  have hk : 1 ≤ k ∧ k ≤ 6 := by simpa [inB] using hk6
  refine impl_namesOk hu ?_
  rw [pUn_not, pIf_b]
  refine ⟨fun e => ?_, fun e => ?_⟩
  · have e' : pathB p = false := (Bool.not_eq_true' (pathB p)).mp e
    rw [callOk_path e'] at hR; exact hR
  have hp : pathB p = true := (Bool.not_eq_false' (pathB p)).mp e
  have e0 : callOk (k, p, t, a, d) = (if k = 1 ∨ k = 6 then inB a 0 7 else if k = 2 ∨ k = 3 then inB a 0 24 else if k = 5 then pathB t else true) := by
    simp only [callOk]
    rw [hk6, hp]; simp
  rw [e0] at hR
  clear e0
  have A7 : k = 1 ∨ k = 6 → AC Tryz.prog w0 n_impl_modeOk [.int .i64 a] σ (fun v1 s2 => R v1 s2) := fun hk => by
    refine ac_impl_modeOk ?_
    unfold vc_impl_modeOk
    refine impl_within ?_
    rw [if_pos hk] at hR; exact hR
  have A24 : k = 2 ∨ k = 3 → AC Tryz.prog w0 n_impl_within [.int .i64 a, .int .i64 0, .int .i64 24] σ (fun v3 s4 => R v3 s4) := fun hk => by
    refine impl_within ?_
    rw [if_neg (by omega), if_pos hk] at hR; exact hR
  have A5 : k = 5 → AC Tryz.prog w0 n_impl_namesOk [w, .int .i64 1] σ (fun v3 s4 => R v3 s4) := fun hk => by
    refine impl_namesOk hw ?_
    rw [if_neg (by omega), if_neg (by omega), if_pos hk] at hR; exact hR
  have A4 : k = 4 → R (.bool true) σ := fun hk => by
    rw [if_neg (by omega), if_neg (by omega), if_neg (by omega)] at hR; exact hR
  clear hR
  repeat' (first | (with_reducible refine pBin_eq.2 ?_; with_reducible refine pIf_d.2 ⟨fun _ => ?_, fun _ => ?_⟩) | with_reducible refine pIf_d.2 ⟨fun _ => ?_, fun _ => ?_⟩)
  all_goals first | (exfalso; omega) | (with_reducible refine A7 ?_; omega) | (with_reducible refine A24 ?_; omega) | (with_reducible refine A4 ?_; omega) | (with_reducible refine A5 ?_; omega)

/-! ### Lists of one mark or two, in a row of our own -/
theorem one_mark {b ety : Nat} {v : Value} {p : List ByteArray} {d : Bool} {F : List Nat} (h : OStrs w0 σ F v p) (hb : w0.heap.size ≤ b) (hn : σ b = none) :
    OSl w0 2 (OMk w0) (σ.put b ⟨ety, [v, .bool d], 2, (0, 0)⟩) (b :: F) (.slice (some ⟨b, 0, none⟩) 1 1) [(p, d)] := by
  have hF : ∀ i, i ∈ F → i ≠ b := fun i hi e => (h.dom (ok_str w0) i hi).2 (e ▸ hn)
  refine ⟨by simp, List.nodup_cons.2 ⟨fun e => hF b e rfl, h.2.1⟩, .inr ⟨b, 0, 1, _, [], [], [[v, .bool d]], [F], rfl, by simp, hb, put_at, by simp, rfl, rfl, rfl, by simp, fun j c x f e1 e2 e3 => ?_⟩⟩
  cases j with
  | zero =>
    simp at e1 e2 e3
    subst e1 e2 e3
    exact ⟨v, rfl, h.frame (ok_str w0) fun i hi => by simp [Vw.put, hF i hi]⟩
  | succ j => simp at e1
theorem two_marks {b ety : Nat} {v v' : Value} {p p' : List ByteArray} {d d' : Bool} {F F' : List Nat} (h : OStrs w0 σ F v p) (h' : OStrs w0 σ F' v' p') (hd : ∀ i, i ∈ F → i ∉ F') (hb : w0.heap.size ≤ b) (hn : σ b = none) :
    OSl w0 2 (OMk w0) (σ.put b ⟨ety, [v, .bool d, v', .bool d'], 4, (0, 0)⟩) (b :: (F ++ F')) (.slice (some ⟨b, 0, none⟩) 2 2) [(p, d), (p', d')] := by
  have hF : ∀ i, i ∈ F → i ≠ b := fun i hi e => (h.dom (ok_str w0) i hi).2 (e ▸ hn)
  have hF' : ∀ i, i ∈ F' → i ≠ b := fun i hi e => (h'.dom (ok_str w0) i hi).2 (e ▸ hn)
  refine ⟨by simp, List.nodup_cons.2 ⟨fun e => ?_, List.nodup_append.2 ⟨h.2.1, h'.2.1, fun x hx y hy e => hd x hx (e ▸ hy)⟩⟩, .inr ⟨b, 0, 2, _, [], [], [[v, .bool d], [v', .bool d']], [F, F'], rfl, by simp, hb, put_at, by simp, rfl, rfl, rfl, by simp, fun j c x f e1 e2 e3 => ?_⟩⟩
  · rcases List.mem_append.1 e with e | e
    · exact hF b e rfl
    · exact hF' b e rfl
  · match j with
    | 0 =>
      simp at e1 e2 e3
      subst e1 e2 e3
      exact ⟨v, rfl, h.frame (ok_str w0) fun i hi => by simp [Vw.put, hF i hi]⟩
    | 1 =>
      simp at e1 e2 e3
      subst e1 e2 e3
      exact ⟨v', rfl, h'.frame (ok_str w0) fun i hi => by simp [Vw.put, hF' i hi]⟩
    | j + 2 => simp at e1
/-- .. and as they are read, of lists that may be another's. -/
theorem one_read {b ety : Nat} {v : Value} {p : List ByteArray} {d : Bool} (h : RSl 1 RS (Av.get w0 σ) v p) (hb : w0.heap.size ≤ b) (hn : σ b = none) :
    RSl 2 RMk (Av.get w0 (σ.put b ⟨ety, [v, .bool d], 2, (0, 0)⟩)) (.slice (some ⟨b, 0, none⟩) 1 1) [(p, d)] := by
  refine ⟨_, 1, rfl, by simp, fun j x hj => ⟨_, [v, .bool d], rfl, rfl, fun i hi => ?_, ?_⟩⟩
  · have hj0 : j = 0 := by have := (List.getElem?_eq_some_iff.1 hj).1; simp at this; omega
    subst hj0
    rw [addr_add, get_row hb put_at]; congr 1; omega
  · have hj0 : j = 0 := by have := (List.getElem?_eq_some_iff.1 hj).1; simp at this; omega
    subst hj0
    simp at hj
    subst hj
    exact ⟨v, rfl, h.mono (Keeps.put hn).le fun _ _ h => h⟩
theorem two_read {b ety : Nat} {v v' : Value} {p p' : List ByteArray} {d d' : Bool} (h : RSl 1 RS (Av.get w0 σ) v p) (h' : RSl 1 RS (Av.get w0 σ) v' p') (hb : w0.heap.size ≤ b) (hn : σ b = none) :
    RSl 2 RMk (Av.get w0 (σ.put b ⟨ety, [v, .bool d, v', .bool d'], 4, (0, 0)⟩)) (.slice (some ⟨b, 0, none⟩) 2 2) [(p, d), (p', d')] := by
  refine ⟨_, 2, rfl, by simp, fun j x hj => ?_⟩
  have hj2 : j < 2 := by have := (List.getElem?_eq_some_iff.1 hj).1; simpa using this
  match j, hj2 with
  | 0, _ =>
    simp at hj
    subst hj
    refine ⟨_, [v, .bool d], rfl, rfl, fun i hi => ?_, v, rfl, h.mono (Keeps.put hn).le fun _ _ h => h⟩
    rw [addr_add, get_row hb put_at]
    match i, hi with
    | 0, _ => rfl
    | 1, _ => rfl
  | 1, _ =>
    simp at hj
    subst hj
    refine ⟨_, [v', .bool d'], rfl, rfl, fun i hi => ?_, v', rfl, h'.mono (Keeps.put hn).le fun _ _ h => h⟩
    rw [addr_add, get_row hb put_at]
    match i, hi with
    | 0, _ => rfl
    | 1, _ => rfl

theorem impl_cloneMarks {v : Value} {ms : List Mk} (h : RSl 2 RMk (Av.get w0 σ) v ms) (hl : ms.length ≤ 1000000000) (hp : ∀ m, m ∈ ms → m.1.length ≤ 1000000000) {R : Value → Vw → Prop}
    (hR : ∀ v' F σ', Keeps σ σ' → OAcc w0 t_impl_Mark 2 (OMk w0) σ' F v' ms → (∀ b, b ∈ F → σ b = none) → R v' σ') : AC Tryz.prog w0 n_impl_cloneMarks [v] σ R := by
  refine ac_impl_cloneMarks ?_
  unfold vc_impl_cloneMarks
  intro b h1 h2
  have kb : Keeps σ (σ.put b ⟨t_impl_Mark, [], 0, (0, 0)⟩) := Keeps.put h2
  have hb0 : ∀ i, i ∈ [b] → σ i = none := fun i hi => by rw [List.mem_singleton.1 hi]; exact h2
  rw [h.len]
  refine loop_rule (m := ms.length) (fun m l s => ∃ (j : Nat) (v' : Value) (F : List Nat), m + j = ms.length ∧ Keeps σ s ∧ OAcc w0 t_impl_Mark 2 (OMk w0) s F v' (ms.take j) ∧ (∀ i, i ∈ F → σ i = none) ∧ l = [v', v, .int .i64 (ms.length : Nat), .int .i64 (j : Nat)]) ?_
    ⟨0, _, [b], by omega, kb, OAcc.new h1, hb0, rfl⟩
  rintro m l s L ⟨j, v', F, hm, ks, ho, hF, rfl⟩ hL
  simp only [vget, List.getD_cons_zero, List.getD_cons_succ]
  have h' := h.mono ks.le fun es x => mono_mk ks.le
  rw [pBin_lt, pIf_d]
  refine ⟨fun hi => ?_, fun hi => ?_⟩
  · have hx := List.getElem?_eq_getElem (show j < ms.length by omega)
    generalize hxi : ms[j]'(by omega) = y at hx
    have hyl := hp y (List.mem_of_getElem? hx)
    refine h'.at hx fun g hg => ?_
    obtain ⟨u, hg, hu⟩ := hg
    simp only [expl, List.cons.injEq, and_true] at hg
    obtain ⟨g0, g1⟩ := hg
    rw [g0, g1, pVal_2 hu.one rfl]
    intro c h3 h4
    have kc : Keeps s (s.put c ⟨t_string, [], 0, (0, 0)⟩) := Keeps.put h4
    have hc0 : ∀ i, i ∈ [c] → s i = none := fun i hi => by rw [List.mem_singleton.1 hi]; exact h4
    refine (OAcc.new (w0 := w0) (σ := s) (ety := t_string) (n := 1) (O := OStr) h3).all (ok_str w0) hu kc.le (fun es y hy => ⟨rfl, hy⟩) (by simp; omega) (by omega) fun u' F1 s1 k1 o1 g1 => ?_
    rw [List.nil_append] at o1
    have K1 := k1.old kc hc0
    have hF1 := fresh_in kc hc0 g1
    rw [pVal1 (OSl.one' o1.osl), pVal1 rfl, pVal_2 (OSl.one' o1.osl) rfl]
    have ho1 := ho.frame (ok_mk w0) (K1.but_at fun b hb => (ho.dom (ok_mk w0) b hb).2)
    refine ho1.one (ok_mk w0) (f := F1) (y := y) ⟨u', rfl, o1.osl⟩ (fun i hi hi' => (ho.dom (ok_mk w0) i hi').2 (hF1 i hi)) (by rw [List.length_take]; omega) (by omega) fun v4 F4 s4 k4 o4 g4 => ?_
    rw [pBin_add (by omega)]
    have KS := ks.trans K1
    refine hL _ _ (m - 1) (by omega) ⟨j + 1, v4, F4, by omega, k4.old KS hF, ?_, fun i hi => ?_, rfl⟩
    · rw [List.take_add_one, hx]; exact o4
    · rcases g4 i hi with h | h | h
      · exact hF i h
      · exact none_at ks (hF1 i h)
      · exact none_at KS h
  · have e : j = ms.length := by omega
    subst e
    rw [List.take_length] at ho
    exact hR v' F s ks ho hF

theorem ofT_5 {n : Nat} {x : Tr} {c : Cl} (hok : treeOk n x = true) (hco : callOk c = true) (h5 : c.1 = 5) : ofT n x c = [(c.2.1, isDir ((atT x c.2.1).getD zeroT)), (c.2.2.1, isDir ((atT x c.2.1).getD zeroT))] := by
  unfold ofT; rw [if_neg (by rw [hok]; simp), if_neg (by rw [hco]; simp), if_pos h5]
theorem ofT_1 {n : Nat} {x : Tr} {c : Cl} (hok : treeOk n x = true) (hco : callOk c = true) (h5 : ¬ c.1 = 5) : ofT n x c = [(c.2.1, false)] := by
  unfold ofT; rw [if_neg (by rw [hok]; simp), if_neg (by rw [hco]; simp), if_neg h5]

abbrev OutM (w0 : World) (σ : Vw) (ms : List Mk) (R : Value → Vw → Prop) : Prop :=
  ∀ v F σ', Keeps σ σ' → OSl w0 2 (OMk w0) σ' F v ms → (∀ b, b ∈ F → σ b = none) → R v σ'

theorem marks_none {ety : Nat} {R : Value → Vw → Prop} (hR : OutM w0 σ [] R) : pNew w0 ety [] σ (fun n3 s4 => R (.slice (some (Addr.mk n3 0 none)) 0 0) s4) := fun b h1 h2 =>
  hR _ [b] _ (Keeps.put h2) (OAcc.new (ety := ety) h1).osl fun i hi => by rw [List.mem_singleton.1 hi]; exact h2

theorem copy_path {v : Value} {xs : List ByteArray} (h : RSl 1 RS (Av.get w0 σ) v xs) (hl : xs.length ≤ 1000000000) {K : Value → Vw → Prop}
    (hK : ∀ v' F σ', Keeps σ σ' → OStrs w0 σ' F v' xs → (∀ b, b ∈ F → σ b = none) → K v' σ') : pNew w0 t_string [] σ (fun n0 s1 => pAppendS w0 t_string 1 16 (.slice (some (Addr.mk n0 0 none)) 0 0) v s1 (fun v2 s3 => K v2 s3)) := by
  intro b h1 h2
  have kb : Keeps σ (σ.put b ⟨t_string, [], 0, (0, 0)⟩) := Keeps.put h2
  have hb0 : ∀ i, i ∈ [b] → σ i = none := fun i hi => by rw [List.mem_singleton.1 hi]; exact h2
  refine (OAcc.new (w0 := w0) (σ := σ) (ety := t_string) (n := 1) (O := OStr) h1).all (ok_str w0) h kb.le (fun es y hy => ⟨rfl, hy⟩) (by simp; omega) (by omega) fun v' F' σ' k1 o1 f1 => ?_
  exact hK v' F' σ' (k1.old kb hb0) (by simpa using o1.osl) (fresh_in kb hb0 f1)

theorem path_len {p : List ByteArray} (h : pathB p = true) : p.length ≤ 4 := by
  simp only [pathB, Bool.and_eq_true, inB, decide_eq_true_eq] at h; omega
theorem callOk_of {c : Cl} (h : callOk c = true) : pathB c.2.1 = true ∧ (c.1 = 5 → pathB c.2.2.1 = true) := by
  simp only [callOk, Bool.and_eq_true] at h
  refine ⟨h.2.1, fun e => ?_⟩
  have := h.2.2
  rw [if_neg (by omega), if_neg (by omega), if_pos e] at this; exact this

theorem spec_TrailOf {n : Nat} {es cs : List Value} {x : Tr} {c : Cl} (h : RT n (Av.get w0 σ) es x) (hc : RCl (Av.get w0 σ) cs c) (hb : szT n x ≤ 1000000000000) {R : Value → Vw → Prop}
    (hR : OutM w0 σ (ofT n x c) R) : AC Tryz.prog w0 n_spec_TrailOf [.agg ⟨es⟩, .agg ⟨cs⟩] σ R := by
  have h0 := h
  have hc0 := hc
  have hcnt : cntT n x ≤ 1000000000000 := Nat.le_trans (cnt_le n x) hb
  obtain ⟨_, _, _, _, _, rfl, _, hpv⟩ := RT.five h
  obtain ⟨k, p, t, a, d⟩ := c
  have h5 : ∀ A : Prop, pVal true 5 (.agg ⟨cs⟩) A ↔ A := fun A => hc.five
  obtain ⟨u, w, rfl, hu, hw, _⟩ := hc
  simp only at hu hw
  refine ac_spec_TrailOf ?_
  unfold vc_spec_TrailOf
  rw [hpv, h5]
  simp only [cellOf_agg, List.getD_cons_zero, List.getD_cons_succ]
  refine spec_TreeOk h0 hcnt ?_
  rw [pUn_not, pIf_b]
  refine ⟨fun hn => marks_none (by simp at hn; rw [show ofT n x (k, p, t, a, d) = [] by simp [ofT, hn]] at hR; exact hR), fun hn => ?_⟩
  have hok : treeOk n x = true := by simpa using hn
  refine spec_l2CallOk hc0 ?_
  rw [pUn_not, pIf_b]
  refine ⟨fun hn => marks_none (by simp at hn; rw [show ofT n x (k, p, t, a, d) = [] by simp [ofT, hok, hn]] at hR; exact hR), fun hn => ?_⟩
  have hco : callOk (k, p, t, a, d) = true := by simpa using hn
  obtain ⟨hp1, hp2⟩ := callOk_of hco
  have hpl := path_len hp1
  simp only at hpl
  refine copy_path hu (by omega) fun v1 F1 s1 k1 o1 f1 => ?_
  rw [pBin_ne, pIf_d]
  refine ⟨fun h5 => ?_, fun h5 => ?_⟩
  · rw [pVal1 (OSl.one' o1), pVal_2 (OSl.one' o1) rfl]
    rw [show ofT n x (k, p, t, a, d) = [(p, false)] from ofT_1 hok hco h5] at hR
    intro b hb1 hb2
    refine hR _ (b :: F1) _ (k1.trans (Keeps.put hb2)) (one_mark o1 hb1 hb2) fun i hi => ?_
    rcases List.mem_cons.1 hi with rfl | hi
    · exact none_at k1 hb2
    · exact f1 i hi
  · have h5 : k = 5 := Decidable.not_not.1 h5
    have hpt := path_len (hp2 h5)
    simp only at hpt
    have hwf : wfT n x := by simp only [treeOk, Bool.and_eq_true] at hok; exact sound_wf n x 0 hok.2.1
    refine spec_At p (mono_rt n _ _ _ _ k1.le h0) hwf (hu.mono k1.le fun _ _ h => h) fun es' he' => ?_
    rw [pExtract_s rfl, pExtract_s rfl]
    obtain ⟨xa, xb, xc, xd, xe, rfl, rfl, hpv'⟩ := RT.five he'
    rw [hpv', pVal1 (OSl.one' o1)]
    simp only [cellOf_agg, List.getD_cons_zero, List.getD_cons_succ]
    rw [pVal1 rfl]
    refine copy_path (hw.mono k1.le fun _ _ h => h) (by omega) fun v2 F2 s2 k2 o2 f2 => ?_
    rw [pVal1 (OSl.one' o2), pVal1 rfl, pVal_2 (OSl.one' o1) rfl, pVal_2 (OSl.one' o2) rfl]
    rw [show ofT n x (k, p, t, a, d) = [(p, isDir ((atT x p).getD zeroT)), (t, isDir ((atT x p).getD zeroT))] from ofT_5 hok hco h5] at hR
    have o1' := o1.frame (ok_str w0) (k2.but_at fun b hb => (o1.dom (ok_str w0) b hb).2)
    intro b hb1 hb2
    refine hR _ (b :: (F1 ++ F2)) _ ((k1.trans k2).trans (Keeps.put hb2)) (two_marks o1' o2 (fun i hi hi' => (o1.dom (ok_str w0) i hi).2 (f2 i hi')) hb1 hb2) fun i hi => ?_
    rcases List.mem_cons.1 hi with rfl | hi
    · exact none_at (k1.trans k2) hb2
    · rcases List.mem_append.1 hi with hi | hi
      · exact f1 i hi
      · exact none_at k1 (f2 i hi)

theorem pBin_nnil {T : Nat} {p : Option Addr} {K : Value → Prop} (hT : ∃ e, Tryz.prog.underlying T = some (.pointer e)) : pBin Tryz.prog T .neq (.pointer p) (.pointer none) K ↔ K (.bool p.isSome) := by
  obtain ⟨e, he⟩ := hT
  have h : abinT Tryz.prog T .neq (.pointer p) (.pointer none) = some (.bool p.isSome) := by simp only [abinT, he]; cases p <;> rfl
  exact ⟨fun ⟨_, h', hK⟩ => by rw [h] at h'; cases h'; exact hK, fun hK => ⟨_, h, hK⟩⟩

theorem impl_marksOf {n : Nat} {es cs : List Value} {x : Tr} {c : Cl} (h : RT n (Av.get w0 σ) es x) (hc : RCl (Av.get w0 σ) cs c) (hok : treeOk n x = true) {R : Value → Vw → Prop}
    (hR : OutM w0 σ (ofT n x c) R) : AC Tryz.prog w0 n_impl_Tree_marksOf [.agg ⟨es⟩, .agg ⟨cs⟩] σ R := by
  have h0 := h
  obtain ⟨e0, e1, e2, e3, e4, rfl, _, hpv⟩ := RT.five h
  obtain ⟨k, p, t, a, d⟩ := c
  have h5 : ∀ A : Prop, pVal true 5 (.agg ⟨cs⟩) A ↔ A := fun A => hc.five
  have hc0 := hc
  obtain ⟨u, w, rfl, hu, hw, _⟩ := hc
  simp only at hu hw
  refine ac_impl_Tree_marksOf ?_
  unfold vc_impl_Tree_marksOf
  rw [hpv]
  simp only [cellOf_agg, List.getD_cons_zero, List.getD_cons_succ]
  intro b h1 h2
  have k1 : Keeps σ (σ.put b ⟨t_impl_Tree, [e0, e1, e2, e3, e4], 5, (0, 0)⟩) := Keeps.put h2
  have hq := PT.new (ety := t_impl_Tree) (c := 5) h0 h1 h2
  generalize hs1 : σ.put b ⟨t_impl_Tree, [e0, e1, e2, e3, e4], 5, (0, 0)⟩ = s1 at k1 hq
  rw [h5]
  refine impl_Call_isCall (mono_cl k1.le hc0) ?_
  have out1 : ∀ {ms : List Mk} {s : Vw}, ofT n x (k, p, t, a, d) = ms → Keeps s1 s → OutM w0 s ms R := fun e k2 v F σ' kk oo ff => by
    subst e
    exact hR v F σ' ((k1.trans k2).trans kk) oo fun i hi => none_at (k1.trans k2) (ff i hi)
  rw [pUn_not, pIf_b]
  refine ⟨fun hn => marks_none (out1 (by simp at hn; simp [ofT, hok, hn]) (Keeps.refl _)), fun hn => ?_⟩
  have hco : callOk (k, p, t, a, d) = true := by simpa using hn
  obtain ⟨hp1, hp2⟩ := callOk_of hco
  have hpl := path_len hp1
  simp only at hpl
  rw [pVal1 hu.one, pVal_2 hu.one rfl]
  intro c hc1 hc2
  have k2 : Keeps s1 (s1.put c ⟨t_impl_Mark, [u, .bool false], 2, (0, 0)⟩) := Keeps.put hc2
  have m1 := one_read (d := false) (ety := t_impl_Mark) (hu.mono k1.le fun _ _ h => h) hc1 hc2
  have hu2 := hu.mono (k1.trans k2).le fun _ _ h => h
  have hw2 := hw.mono (k1.trans k2).le fun _ _ h => h
  have hq2 := hq.mono k2.le
  generalize hs2 : s1.put c ⟨t_impl_Mark, [u, .bool false], 2, (0, 0)⟩ = s2 at k2 m1 hu2 hw2 hq2
  rw [pBin_eq, pIf_d]
  refine ⟨fun h5 => ?_, fun h5 => ?_⟩
  · have hpt := path_len (hp2 h5)
    simp only at hpt
    have hwf : wfT n x := by simp only [treeOk, Bool.and_eq_true] at hok; exact sound_wf n x 0 hok.2.1
    obtain _ | n := n
    · exact h0.elim
    have e2 : ofT (n + 1) x (k, p, t, a, d) = [(p, isDir ((atT x p).getD zeroT)), (t, isDir ((atT x p).getD zeroT))] := ofT_5 hok hco h5
    have hml : ∀ (D : Bool) (m : Mk), m ∈ [(p, D), (t, D)] → m.1.length ≤ 1000000000 := fun D m hm => by
      simp at hm
      rcases hm with rfl | rfl
      · show p.length ≤ _; omega
      · show t.length ≤ _; omega
    refine impl_at hq2 hwf hu2 fun q hq' => ?_
    cases hat : atT x p with
    | none =>
      rw [hat] at hq' e2
      obtain rfl : q = .pointer none := hq'
      rw [pBin_nnil ptr_tree, pIf_b]
      refine ⟨fun h => by simp at h, fun _ => ?_⟩
      rw [pVal1 hu2.one, pVal1 rfl, pVal1 hw2.one, pVal1 rfl, pVal_2 hu2.one rfl, pVal_2 hw2.one rfl]
      intro c' hc1' hc2'
      have m2 := two_read (d := false) (d' := false) (ety := t_impl_Mark) hu2 hw2 hc1' hc2'
      refine impl_cloneMarks m2 (by simp) (hml false) fun v' F s3 k3 o3 f3 => ?_
      exact out1 e2 (k2.trans (Keeps.put hc2')) v' F s3 k3 o3.osl f3
    | some y =>
      rw [hat] at hq' e2
      have hqy : PT (n + 1) _ q y := hq'
      obtain ⟨aq, esq, rfl, _⟩ := id hqy
      rw [pBin_nnil ptr_tree, pIf_b]
      refine ⟨fun _ => ?_, fun h => by simp at h⟩
      refine hqy.ld 0 (by omega) fun es g he hg => ?_
      obtain ⟨_, _, _, _, _, rfl, rfl, _⟩ := RT.five he
      simp only [List.getElem?_cons_zero, List.getElem?_cons_succ, Option.some.injEq] at hg
      rw [← hg, pVal1 hu2.one, pVal1 rfl, pVal1 hw2.one, pVal1 rfl, pVal_2 hu2.one rfl, pVal_2 hw2.one rfl]
      intro c' hc1' hc2'
      have m2 := two_read (d := isDir y) (d' := isDir y) (ety := t_impl_Mark) hu2 hw2 hc1' hc2'
      refine impl_cloneMarks m2 (by simp) (hml (isDir y)) fun v' F s3 k3 o3 f3 => ?_
      exact out1 e2 (k2.trans (Keeps.put hc2')) v' F s3 k3 o3.osl f3
  · refine impl_cloneMarks m1 (by simp) (fun m hm => by simp at hm; subst hm; show p.length ≤ _; omega) fun v' F s3 k3 o3 f3 => ?_
    exact out1 (ofT_1 hok hco h5) k2 v' F s3 k3 o3.osl f3

theorem impl_TrailOf {n : Nat} {es cs : List Value} {x : Tr} {c : Cl} (h : RT n (Av.get w0 σ) es x) (hc : RCl (Av.get w0 σ) cs c) (hb : szT n x ≤ 1000000000000) {R : Value → Vw → Prop}
    (hR : OutM w0 σ (ofT n x c) R) : AC Tryz.prog w0 n_impl_TrailOf [.agg ⟨es⟩, .agg ⟨cs⟩] σ R := by
  have h0 := h
  have hcnt : cntT n x ≤ 1000000000000 := Nat.le_trans (cnt_le n x) hb
  obtain ⟨_, _, _, _, _, rfl, _, hpv⟩ := RT.five h
  have hc0 := hc
  obtain ⟨_, _, _, _, _, rfl⟩ := hc.shape
  refine ac_impl_TrailOf ?_
  unfold vc_impl_TrailOf
  rw [hpv, hc0.five]
  simp only [cellOf_agg, List.getD_cons_zero, List.getD_cons_succ]
  refine impl_TreeOk h0 hcnt ?_
  rw [pUn_not, pIf_b]
  refine ⟨fun hn => marks_none (by simp at hn; rw [show ofT n x c = [] by simp [ofT, hn]] at hR; exact hR), fun hn => ?_⟩
  exact impl_marksOf h0 hc0 (by simpa using hn) hR

end

end Go.Proofs.YtkbhjejalkbogaaGreat

/- Entries of a layer: size, copy, comparison, marks. -/
set_option linter.unusedVariables false
set_option linter.unusedSimpArgs false
namespace Go.Proofs.YtkbhjejalkbogaaGreat
open Go Go.Av

section
variable {w0 : World} {σ : Vw}

end

end Go.Proofs.YtkbhjejalkbogaaGreat

/- A contract of the kit's, as one of ours. -/
set_option linter.unusedVariables false
set_option linter.unusedSimpArgs false
namespace Go.Av
open Go Go.RowKit

theorem Aft.below {w0 w w' : World} {σ : Vw} (h : Sat w0 σ w) (k : Below w.heap.size w w') : Aft w0 σ w σ w' := by
  refine ⟨⟨h.bel.trans (k.mono h.bel.size), fun b r hb => ?_⟩, k.size, fun b hb _ => k.block b hb, fun b r hb => .inl (by rw [hb]; simp)⟩
  obtain ⟨h1, cur, hc, h2⟩ := h.row b r hb
  exact ⟨h1, cur, (k.block b (h.lt hb)).trans hc, h2⟩

/-- What a call gives that leaves all that is there as it was. -/
theorem AC.of_calls {P : Program} {w0 : World} {f : FuncId} {args : List Value} {σ : Vw} {R : Value → Vw → Prop} (hf : ∃ fn, P.funcs[f]? = some fn ∧ (fn.name == "runtime.NumGoroutine") = false ∧ fn.body.isNone = false)
    (h : ∀ w, Sat w0 σ w → Calls P f args.toArray w fun e w' => ∃ v, e = .returned v ∧ R v σ ∧ Below w.heap.size w w') : AC P w0 f args σ R :=
  ⟨hf, fun w hw => (h w hw).mono fun e w' ⟨v, he, hR, hk⟩ => ⟨v, σ, he, hR, Aft.below hw hk⟩⟩
end Go.Av

/- A disk's rows: the law 'DiskOk', of the functions alone. -/
set_option linter.unusedVariables false
set_option linter.unusedSimpArgs false
namespace Go.Proofs.YtkbhjejalkbogaaGreat
open Go Go.Av

section
variable {w0 : World} {σ : Vw}

end
end Go.Proofs.YtkbhjejalkbogaaGreat

/- Writes of a disk: the law 'DiskWrite', of the functions alone. -/
set_option linter.unusedVariables false
set_option linter.unusedSimpArgs false
namespace Go.Proofs.YtkbhjejalkbogaaGreat
open Go Go.Av

section
variable {w0 : World} {σ : Vw}

end
end Go.Proofs.YtkbhjejalkbogaaGreat

/- The law 'DiskWrite', of the functions alone. -/
set_option linter.unusedVariables false
set_option linter.unusedSimpArgs false
namespace Go.Proofs.YtkbhjejalkbogaaGreat
open Go Go.Av

section
variable {w0 : World} {σ : Vw}

end
end Go.Proofs.YtkbhjejalkbogaaGreat

/-
  DERIVED: THE SHELF's CONTRACTS AT THIS DUMP, IN PLAIN WORDS (tools/lay-plain.mjs out of 'TryzShelf.lean', which tools/lay-shelf.mjs wrote): THE SAME DECLARATIONS UNDER THE SAME NAMES: 'import', 'namespace', 'open', 'def', 'theorem' AND NOTHING ELSE: no command of the shelf's: FOR A HAND-IN. Each laying: the table of numbers ('.._ren') and one theorem, a field a fact of the dump's own or the kernel's comparison; each contract: ONE APPLICATION.
-/
namespace Go.Proofs
open Go.Shelf
def Tryz.lays129_ren : Go.Shelf.Ren := ⟨fun | 129 => 167 | n => n, fun | 53 => 172 | 3 => 3 | 4 => 4 | 46 => 155 | 5 => 5 | 9 => 9 | n => n, fun | n => n⟩
theorem Tryz.lays129 : Go.Proofs.Lays.n129 Tryz.prog Tryz.lays129_ren := {
  mixed := by kernel_rfl
  f129 := Tryz.func167.trans (congrArg some (by kernel_rfl))
  t3 := Tryz.underlying3
  a3 := Tryz.isAgg3
  z3 := Tryz.sizeOf3
  v3 := Tryz.zeroValue3
  t4 := Tryz.underlying4
  a4 := Tryz.isAgg4
  z4 := Tryz.sizeOf4
  v4 := Tryz.zeroValue4
  t5 := Tryz.underlying5
  a5 := Tryz.isAgg5
  z5 := Tryz.sizeOf5
  v5 := Tryz.zeroValue5
  t9 := Tryz.underlying9
  a9 := Tryz.isAgg9
  z9 := Tryz.sizeOf9
  v9 := Tryz.zeroValue9
  t46 := Tryz.underlying155
  a46 := Tryz.isAgg155
  z46 := Tryz.sizeOf155
  v46 := Tryz.zeroValue155
  t53 := Tryz.underlying172
  a53 := Tryz.isAgg172
  z53 := Tryz.sizeOf172
  v53 := Tryz.zeroValue172 }
/-- bits.Len64: "Len64 returns the minimum number of bits required to represent x; the result is 0 for x == 0.": IT RETURNS 'Lib.bitLen x'; the world is as it was. ('h0', 'h1': x is a uint64.) (LAID: no walk: one application.) -/
theorem Tryz.bits_Len64 (x : Int) (w : World) (h0 : 0 ≤ x) (h1 : x ≤ 18446744073709551615) :
    Calls Tryz.prog 167 #[.int .u64 x] w fun e w' => e = .returned (.int .i64 (Lib.bitLen x.toNat)) ∧ w' = w := Any.bits_Len64 Tryz.lays129 x w h0 h1
end Go.Proofs

/- Decimals by either hand; how a text is cut into blocks. -/
set_option linter.unusedVariables false
set_option linter.unusedSimpArgs false
namespace Go.Proofs.YtkbhjejalkbogaaGreat
open Go Go.Av Go.RowKit

theorem nums_dig (n : Nat) : strOfNums [((48 + n % 10 : Nat) : Int)] = ofL [dig n] := by
  have h := bl_byte (48 + n % 10)
  rw [Nat.mod_eq_of_lt (by omega)] at h
  exact bl_inj (by rw [h, bl_ofL]; rfl)
theorem pUn_neg {n : Int} {K : Value → Prop} (h : -9223372036854775807 ≤ n ∧ n ≤ 9223372036854775807) : pUn .neg (.int .i64 n) K ↔ K (.int .i64 (-n)) := by
  have e : aun .neg (.int .i64 n) = some (.int .i64 (-n)) := by
    show some (Value.int .i64 (IntKind.i64.wrap (0 - n))) = _
    rw [IntWalk.i64_in (0 - n) (by omega), Int.zero_sub]
  exact ⟨fun ⟨_, h', hK⟩ => by rw [e] at h'; cases h'; exact hK, fun hK => ⟨_, e, hK⟩⟩
theorem dec_min : decZ (-9223372036854775808) = minText := by
  have : decL 9223372036854775808 = [57, 50, 50, 51, 51, 55, 50, 48, 51, 54, 56, 53, 52, 55, 55, 53, 56, 48, 56] := by
    simp [decL_big, decL_small, dig]
  unfold decZ
  rw [if_pos (by omega)]
  have e : (-(-9223372036854775808 : Int)).toNat = 9223372036854775808 := rfl
  rw [e, decN, this]
  rfl
theorem decN_big {k : Nat} (h : ¬ k < 10) : decN k = decN (k / 10) ++ ofL [dig k] := by
  rw [decN, decL_big h, ← ofL_append]; rfl

section
variable {w0 : World} {σ : Vw}

theorem dec_row {σ' : Vw} {k : Nat} {K : Vw → Value → Prop} (hK : ∀ s, Keeps σ' s → K s (.string (ofL [dig k]))) : pNew w0 5 [.int .u8 ((48 + k % 10 : Nat) : Int)] σ' (fun n s => pStr w0 (.slice (some (Addr.mk n 0 none)) 1 1) s (fun v => K s v)) := by
  intro b h1 h2
  refine pStr1 (by rw [get_row h1 put_at]; rfl) ?_
  rw [nums_dig]
  exact hK _ (Keeps.put h2)

end
end Go.Proofs.YtkbhjejalkbogaaGreat

/- Decimals of the tree's own hand; hex. -/
set_option linter.unusedVariables false
set_option linter.unusedSimpArgs false
namespace Go.Proofs.YtkbhjejalkbogaaGreat
open Go Go.Av Go.RowKit

section
variable {w0 : World} {σ : Vw}

theorem spec_l1Dec_nat : ∀ (k : Nat), k ≤ 9223372036854775807 → ∀ {σ : Vw} {R : Value → Vw → Prop}, (∀ σ', Keeps σ σ' → R (.string (decN k)) σ') → AC Tryz.prog w0 n_spec_l1Dec [.int .i64 (k : Nat)] σ R := by
  intro k
  induction k using Nat.strongRecOn with
  | _ k ih =>
    intro hk σ R hR
    refine ac_spec_l1Dec ?_
    unfold vc_spec_l1Dec
    rw [pBin_lt, pIf_d]
    refine ⟨fun h => by omega, fun _ => ?_⟩
    rw [pBin_lt, pIf_d]
    refine ⟨fun h => by omega, fun _ => ?_⟩
    rw [pBin_lt, pIf_d]
    refine ⟨fun h10 => ?_, fun h10 => ?_⟩
    · rw [pBin_add (by omega), pConv_u8 (by omega), pVal1 rfl, show (48 : Int) + (k : Nat) = ((48 + k % 10 : Nat) : Int) by omega]
      refine dec_row fun s k1 => ?_
      have := hR s k1
      rw [decN, decL_small (by omega)] at this
      exact this
    · have hb : ¬ k < 10 := by omega
      have hd := (decN_size (k / 10)).2
      rw [decN_big hb] at hR
      have hcat : ∀ K : Value → Prop, pBin Tryz.prog 9 .add (.string (decN (k / 10))) (.string (ofL [dig k])) K ↔ K (.string (decN (k / 10) ++ ofL [dig k])) := fun K => pBin_cat (by rw [size_ofL]; simp only [List.length_singleton]; omega)
      rw [pBin_quo (by omega), pBin_rem (by omega), pBin_add (by omega), pConv_u8 (by omega), show (48 : Int) + (k : Nat) % 10 = ((48 + k % 10 : Nat) : Int) by omega, show ((k : Nat) : Int) / 10 = ((k / 10 : Nat) : Int) by omega]
      refine ⟨ih (k / 10) (by omega) (by omega) fun s k1 => ?_, ?_⟩
      · rw [pVal1 rfl]
        refine dec_row fun s2 k2 => ?_
        rw [hcat]
        exact hR s2 (k1.trans k2)
      · rw [pVal1 rfl]
        refine dec_row fun s2 k2 => ?_
        refine ih (k / 10) (by omega) (by omega) fun s k1 => ⟨k1.ext, ?_⟩
        rw [hcat]
        exact hR s (k2.trans k1)

theorem spec_l1Dec {n : Int} {R : Value → Vw → Prop} (hn : -9223372036854775808 ≤ n ∧ n ≤ 9223372036854775807) (hR : ∀ σ', Keeps σ σ' → R (.string (decZ n)) σ') : AC Tryz.prog w0 n_spec_l1Dec [.int .i64 n] σ R := by
  by_cases h0 : 0 ≤ n
  · obtain ⟨k, rfl⟩ : ∃ k : Nat, n = k := ⟨n.toNat, by omega⟩
    rw [decZ_nat] at hR
    exact spec_l1Dec_nat k (by omega) hR
  refine ac_spec_l1Dec ?_
  unfold vc_spec_l1Dec
  rw [pBin_lt, pIf_d]
  refine ⟨fun h1 => ?_, fun h1 => ?_⟩
  · have : n = -9223372036854775808 := by omega
    subst this
    have := hR σ (Keeps.refl σ)
    rw [dec_min] at this
    exact this
  rw [pBin_lt, pIf_d]
  refine ⟨fun _ => ?_, fun h => by omega⟩
  rw [pUn_neg (by omega)]
  obtain ⟨k, hk⟩ : ∃ k : Nat, -n = k := ⟨(-n).toNat, by omega⟩
  rw [hk]
  have e : decZ n = ⟨#[45]⟩ ++ decN k := by
    unfold decZ
    rw [if_pos (by omega), hk, Int.toNat_natCast]
  rw [e] at hR
  refine spec_l1Dec_nat k (by omega) fun s k1 => ?_
  have hd := (decN_size k).2
  rw [pBin_cat (by show 1 + _ ≤ _; omega)]
  exact hR s k1


end
end Go.Proofs.YtkbhjejalkbogaaGreat

/- Paths and trails as texts; the law 'TrailShow'. -/
set_option linter.unusedVariables false
set_option linter.unusedSimpArgs false
namespace Go.Proofs.YtkbhjejalkbogaaGreat
open Go Go.Av Go.RowKit

section
variable {w0 : World} {σ : Vw}

end
end Go.Proofs.YtkbhjejalkbogaaGreat

/- Bytes in rows of our own; hex by the program's hand; a line of a tree. -/
set_option linter.unusedVariables false
set_option linter.unusedSimpArgs false
namespace Go.Proofs.YtkbhjejalkbogaaGreat
open Go Go.Av Go.RowKit

section
variable {w0 : World} {σ : Vw}

end
end Go.Proofs.YtkbhjejalkbogaaGreat

/- A tree as a text: what it is, and by the reference's hand; a line by the program's. -/
set_option linter.unusedVariables false
set_option linter.unusedSimpArgs false
namespace Go.Proofs.YtkbhjejalkbogaaGreat
open Go Go.Av Go.RowKit

/-- What is sound is short. -/
def shortT : Nat → Tr → Prop
  | 0, _ => False
  | n + 1, .mk d m t ns ks => (0 ≤ m ∧ m ≤ 7) ∧ t.size ≤ 24 ∧ ns.length = ks.length ∧ (∀ x, x ∈ ns → x.size ≤ 5) ∧ ∀ k, k ∈ ks → shortT n k
theorem sound_short : ∀ (n : Nat) (x : Tr) (k : Int), soundB n x k = true → shortT n x
  | 0, _, _, h => by simp [soundB] at h
  | n + 1, .mk d m t ns ks, k, h => by
    simp only [soundB, plainB, Bool.and_eq_true, decide_eq_true_eq, inB] at h
    obtain ⟨⟨h1, h2, h3⟩, _, h4⟩ := h
    refine ⟨h1, ?_, h2, fun x hx => ?_, fun c hc => ?_⟩
    · cases d
      · simp at h3; exact h3.1
      · simp at h3; rw [h3.2]; show 0 ≤ 24; omega
    · cases d
      · simp at h3; rw [h3.2] at hx; cases hx
      · simp at h3
        obtain ⟨j, hj⟩ := List.getElem?_of_mem hx
        have := h3.1 j x hj
        simp only [nameAt, nameOk, Bool.and_eq_true, decide_eq_true_eq, inB] at this
        omega
    · obtain ⟨j, hj⟩ := List.getElem?_of_mem hc
      exact sound_short n c _ (allB_iff.1 h4 j c hj)
section
variable {w0 : World} {σ : Vw}

end
end Go.Proofs.YtkbhjejalkbogaaGreat

/- What is said of a tree part by part, in order: a list. -/
set_option linter.unusedVariables false
set_option linter.unusedSimpArgs false
namespace Go.Proofs.YtkbhjejalkbogaaGreat
open Go Go.Av

section
variable {w0 : World} {σ : Vw} {α : Type}

/-- One element, in a row of its own. -/
theorem OAcc.single {ety n b : Nat} {Rel : (Addr → Option Value) → List Value → α → Prop} {O : Vw → List Nat → List Value → α → Prop} (ok : OOk w0 n Rel O) {es : List Value} {f : List Nat} {y : α} (hb : w0.heap.size ≤ b) (hn : σ b = none) (hy : O σ f es y) :
    OAcc w0 ety n O (σ.put b ⟨ety, es, es.length, (0, 0)⟩) (b :: f) (.slice (some ⟨b, 0, none⟩) 1 1) [y] := by
  have hf : ∀ i, i ∈ f → i ≠ b := fun i hi e => (ok.dom _ _ _ _ hy i hi).2 (e ▸ hn)
  refine ⟨by simp, List.nodup_cons.2 ⟨fun h => hf b h rfl, ok.nodup _ _ _ _ hy⟩, .inr ⟨b, 1, [es], [f], rfl, by simp, hb, ?_, rfl, rfl, by simp, fun j c x g e1 e2 e3 => ?_⟩⟩
  · rw [put_at, ok.len _ _ _ _ hy]; simp
  · cases j with
    | zero =>
      simp at e1 e2 e3
      subst e1 e2 e3
      exact ok.frame _ _ _ _ _ hy fun i hi => put_ne (hf i hi)
    | succ j => simp at e1

/-! ### By the reference's hand: a loop over the kids -/
/-! ### By the program's hand: a function value that is called part by part -/
end
end Go.Proofs.YtkbhjejalkbogaaGreat

/- A box into which one more is put; a row that stays. -/
set_option linter.unusedVariables false
set_option linter.unusedSimpArgs false
namespace Go.Proofs.YtkbhjejalkbogaaGreat
open Go Go.Av

section
variable {w0 : World} {σ : Vw} {α : Type}

end
end Go.Proofs.YtkbhjejalkbogaaGreat

/- Texts in order; two lists of named parts in step. -/
set_option linter.unusedVariables false
set_option linter.unusedSimpArgs false
namespace Go.Proofs.YtkbhjejalkbogaaGreat
open Go Go.Av

theorem bl_trans : ∀ (a b c : List UInt8), Op.bytesLess a b = true → Op.bytesLess b c = true → Op.bytesLess a c = true
  | _, [], _, h, _ => by simp [Op.bytesLess] at h
  | _, _ :: _, [], _, h => by simp [Op.bytesLess] at h
  | [], _ :: _, _ :: _, _, _ => by simp [Op.bytesLess]
  | x :: r, y :: q, z :: s, h, h' => by
    simp only [Op.bytesLess, Bool.or_eq_true, Bool.and_eq_true, decide_eq_true_eq, beq_iff_eq, UInt8.lt_iff_toNat_lt] at h h' ⊢
    rcases h with h | ⟨rfl, h⟩ <;> rcases h' with h' | ⟨rfl, h'⟩
    · left; omega
    · left; exact h
    · left; exact h'
    · right; exact ⟨rfl, bl_trans r q s h h'⟩
theorem strLt_trans {a b c : ByteArray} (h : strLt a b = true) (h' : strLt b c = true) : strLt a c = true := bl_trans _ _ _ h h'
theorem strLt_ne {a b : ByteArray} (h : strLt a b = true) : a ≠ b := fun e => by rw [e, strLt_irrefl] at h; cases h

/-! ### Sorted and compacted -/
section
variable {α : Type} [DecidableEq α] [Inhabited α]
end
/-! ### In step -/
abbrev Pr := ByteArray × Option Tr × Option Tr
def mrgK : List (ByteArray × Tr) → List (ByteArray × Tr) → List Pr
  | [], xb => xb.map fun y => (y.1, none, some y.2)
  | a :: xa, [] => (a :: xa).map fun y => (y.1, some y.2, none)
  | a :: xa, b :: xb =>
    if strLt a.1 b.1 = true then (a.1, some a.2, none) :: mrgK xa (b :: xb)
    else if strLt b.1 a.1 = true then (b.1, none, some b.2) :: mrgK (a :: xa) xb
    else (a.1, some a.2, some b.2) :: mrgK xa xb
termination_by xa xb => xa.length + xb.length

end Go.Proofs.YtkbhjejalkbogaaGreat

/- slices.Sort and slices.Compact on texts in rows of our own; the names of either of two parts. -/
set_option linter.unusedVariables false
set_option linter.unusedSimpArgs false
namespace Go.Proofs.YtkbhjejalkbogaaGreat
open Go Go.Av Go.RowKit Go.Sort

section
variable {w0 : World} {σ : Vw} {α : Type}

end
end Go.Proofs.YtkbhjejalkbogaaGreat

/- What becomes of a part, with all below: what it is; by the reference's hand. -/
set_option linter.unusedVariables false
set_option linter.unusedSimpArgs false
set_option maxRecDepth 20000
namespace Go.Proofs.YtkbhjejalkbogaaGreat
open Go Go.Av

def partsOf (x : Tr) : List (ByteArray × Tr) := (namesOf x).zip (kidsOf x)
section
variable {w0 : World} {σ : Vw}

end
end Go.Proofs.YtkbhjejalkbogaaGreat

/- What becomes of a part, with all below: by the program's hand. -/
set_option linter.unusedVariables false
set_option linter.unusedSimpArgs false
set_option maxRecDepth 20000
namespace Go.Proofs.YtkbhjejalkbogaaGreat
open Go Go.Av

theorem sound_down5 : ∀ (m n : Nat) (x : Tr) (k : Int), soundB n x k = true → 5 ≤ k + (m : Int) → (∀ rd es, RT n rd es x → RT m rd es x) ∧ shortT m x ∧ cntT m x ≤ cntT n x
  | m, 0, x, k, h, _ => by simp [soundB] at h
  | 0, n + 1, .mk d mo t ns ks, k, h, hk => by
    simp only [soundB, Bool.and_eq_true, decide_eq_true_eq] at h
    exact absurd h.2.1 (by omega)
  | m + 1, n + 1, .mk d mo t ns ks, k, h, hk => by
    have hs := sound_short (n + 1) _ k h
    simp only [soundB, Bool.and_eq_true, decide_eq_true_eq] at h
    have ih : ∀ y, y ∈ ks → (∀ rd es, RT n rd es y → RT m rd es y) ∧ shortT m y ∧ cntT m y ≤ cntT n y := fun y hy => by
      obtain ⟨j, hj⟩ := List.getElem?_of_mem hy
      exact sound_down5 m n y (k + 1) (allB_iff.1 h.2.2 j y hj) (by omega)
    refine ⟨fun rd es hr => ?_, ⟨hs.1, hs.2.1, hs.2.2.1, hs.2.2.2.1, fun y hy => (ih y hy).2.1⟩, ?_⟩
    · obtain ⟨u, w, h1, h2, h3, h4, A, cap, e1, e2, e3⟩ := hr
      refine ⟨u, w, h1, h2, h3, h4, A, cap, e1, e2, fun j y hj => ?_⟩
      obtain ⟨a, es', q1, q2, q3, q4⟩ := e3 j y hj
      exact ⟨a, es', q1, q2, q3, (ih y (List.mem_of_getElem? hj)).1 _ _ q4⟩
    · have := sumBy_mono (f := cntT m) (g := cntT n) (xs := ks) fun y hy => (ih y hy).2.2
      show ks.length + sumBy (cntT m) ks ≤ ks.length + sumBy (cntT n) ks
      omega
theorem short_wf : ∀ (n : Nat) (x : Tr), shortT n x → wfT n x
  | 0, _, _ => trivial
  | n + 1, .mk d m t ns ks, h => ⟨h.2.2.1, fun k hk => short_wf n k (h.2.2.2.2 k hk)⟩
section
variable {w0 : World} {σ : Vw}

end
end Go.Proofs.YtkbhjejalkbogaaGreat

/- A call done in a tree by the reference's hand: that it gives a tree, and not too large a one. -/
set_option linter.unusedVariables false
set_option linter.unusedSimpArgs false
namespace Go.Proofs.YtkbhjejalkbogaaGreat
open Go Go.Av

theorem short_sz : ∀ (n : Nat) (x : Tr), shortT n x → szT n x ≤ 24 + 31 * cntT n x
  | 0, _, h => h.elim
  | n + 1, .mk d m t ns ks, h => by
    obtain ⟨_, h2, h3, h4, h5⟩ := h
    have hk : ∀ l : List Tr, (∀ k, k ∈ l → shortT n k) → sumBy (szT n) l ≤ 24 * l.length + 31 * sumBy (cntT n) l := fun l hl => by
      induction l with
      | nil => simp [sumBy]
      | cons a r ih =>
        have := short_sz n a (hl a List.mem_cons_self)
        have := ih fun k hk => hl k (List.mem_cons_of_mem _ hk)
        simp only [sumBy, List.length_cons]; omega
    have hn : ∀ l : List ByteArray, (∀ s, s ∈ l → s.size ≤ 5) → sumS l ≤ 5 * l.length := fun l hl => by
      induction l with
      | nil => simp [sumS]
      | cons a r ih =>
        have := hl a List.mem_cons_self
        have := ih fun k hk => hl k (List.mem_cons_of_mem _ hk)
        simp only [sumS, List.length_cons]; omega
    have h6 := hk ks h5
    have h7 := hn ns h4
    show t.size + (ns.length + sumS ns) + (ks.length + sumBy (szT n) ks) ≤ 24 + 31 * (ks.length + sumBy (cntT n) ks)
    omega
theorem ok_small {n : Nat} {rd : Addr → Option Value} {es : List Value} {x : Tr} (h : RT n rd es x) (hok : treeOk n x = true) : RT 5 rd es x ∧ wfT 5 x ∧ szT 5 x ≤ 1000 := by
  simp only [treeOk, Bool.and_eq_true, decide_eq_true_eq] at hok
  obtain ⟨h1, h2, h3⟩ := sound_down5 5 n x 0 hok.2.1 (by omega)
  have := short_sz 5 x h2
  have := hok.2.2
  exact ⟨h1 _ _ h, short_wf 5 x h2, by omega⟩
theorem RT.data {n : Nat} {rd : Addr → Option Value} {a b u w : Value} {s t : ByteArray} {x : Tr} (h : RT n rd [a, b, .string s, u, w] x) (ht : t.size ≤ 9223372036854775807) : ∃ y, RT n rd [a, b, .string t, u, w] y ∧ (wfT n x → wfT n y) ∧ szT n y + s.size = szT n x + t.size := by
  obtain _ | n := n
  · exact h.elim
  · obtain ⟨d, m, t0, ns, ks⟩ := x
    obtain ⟨u', w', e, h2, h3, h4, h5⟩ := h
    simp only [List.cons.injEq, and_true, Value.string.injEq] at e
    obtain ⟨rfl, rfl, rfl, rfl, rfl⟩ := e
    refine ⟨.mk d m t ns ks, ⟨_, _, rfl, h2, ht, h4, h5⟩, fun h => h, ?_⟩
    show t.size + (ns.length + sumS ns) + (ks.length + sumBy (szT n) ks) + s.size = s.size + (ns.length + sumS ns) + (ks.length + sumBy (szT n) ks) + t.size
    omega
theorem RT.mode {n : Nat} {rd : Addr → Option Value} {a b u w c : Value} {k : Int} {x : Tr} (h : RT n rd [a, b, c, u, w] x) (hk : -9223372036854775808 ≤ k ∧ k ≤ 9223372036854775807) : ∃ y, RT n rd [a, .int .i64 k, c, u, w] y ∧ (wfT n x → wfT n y) ∧ szT n y = szT n x := by
  obtain _ | n := n
  · exact h.elim
  · obtain ⟨d, m, t0, ns, ks⟩ := x
    obtain ⟨u', w', e, h2, h3, h4, h5⟩ := h
    simp only [List.cons.injEq, and_true] at e
    obtain ⟨rfl, rfl, rfl, rfl, rfl⟩ := e
    exact ⟨.mk d k t0 ns ks, ⟨_, _, rfl, hk, h3, h4, h5⟩, fun h => h, rfl⟩
theorem wf_zero : ∀ n, wfT n zeroT
  | 0 => trivial
  | n + 1 => ⟨rfl, fun k hk => by cases hk⟩
theorem pathB_ok {xs : List ByteArray} (h : pathB xs = true) : xs ≠ [] ∧ ∀ s, s ∈ xs → s.size ≤ 5 := by
  simp only [pathB, Bool.and_eq_true, inB, decide_eq_true_eq] at h
  refine ⟨fun e => by rw [e] at h; simp at h, fun s hs => ?_⟩
  obtain ⟨j, hj⟩ := List.getElem?_of_mem hs
  have := allNames_iff.1 h.1 j s hj
  simp only [nameOk, Bool.and_eq_true, inB, decide_eq_true_eq] at this
  omega
theorem callOk_facts {c : Cl} (h : callOk c = true) : (c.2.1 ≠ [] ∧ ∀ s, s ∈ c.2.1 → s.size ≤ 5) ∧ (c.1 = 5 → c.2.2.1 ≠ [] ∧ ∀ s, s ∈ c.2.2.1 → s.size ≤ 5) ∧ ((c.1 = 2 ∨ c.1 = 3) → 0 ≤ c.2.2.2.1 ∧ c.2.2.2.1 ≤ 24) := by
  simp only [callOk, Bool.and_eq_true] at h
  obtain ⟨_, h1, h2⟩ := h
  refine ⟨pathB_ok h1, fun e => ?_, fun e => ?_⟩
  · rw [if_neg (by omega), if_neg (by omega), if_pos e] at h2
    exact pathB_ok h2
  · rw [if_neg (by omega), if_pos e] at h2
    simpa [inB] using h2

section
variable {w0 : World} {σ : Vw}

/-- What such a step gives. -/
abbrev OutD (w0 : World) (σ : Vw) (R : Value → Vw → Prop) : Prop := ∀ es y σ' (k : Int), Keeps σ σ' → RT 11 (Av.get w0 σ') es y → szT 11 y ≤ 40000000 → (0 ≤ k ∧ k ≤ 7) → R (.tuple ⟨[.agg ⟨es⟩, .int .i64 k]⟩) σ'

theorem spec_l2Parent {n : Nat} {es : List Value} {u : Value} {x : Tr} {ps : List ByteArray} (h : RT n (Av.get w0 σ) es x) (hw : wfT n x) (hu : RSl 1 RS (Av.get w0 σ) u ps) (hne : ps ≠ []) {R : Value → Vw → Prop} (hR : ∀ k : Int, 0 ≤ k ∧ k ≤ 7 → R (.int .i64 k) σ) : AC Tryz.prog w0 n_spec_l2Parent [.agg ⟨es⟩, u] σ R := by
  refine ac_spec_l2Parent ?_
  unfold vc_spec_l2Parent
  have hl := hu.le
  have hpos := List.length_pos_iff.2 hne
  have h0 := h
  obtain ⟨a, b, c, d, e, rfl, hp⟩ := h.shape
  rw [hp, hu.len, pBin_sub (by omega), show ((ps.length : Nat) : Int) - 1 = ((ps.length - 1 : Nat) : Int) by omega]
  refine RSl.take hu (by omega) fun v' hv' => ?_
  simp only [cellOf_agg, List.getD_cons_zero, List.getD_cons_succ]
  refine spec_At _ h0 hw hv' fun es' hy => ?_
  obtain ⟨u', w', rfl, _, _, _, _, hp'⟩ := hy.cells
  rw [pExtract_s rfl, pExtract_s rfl, hp', pUn_not, pIf_b]
  refine ⟨fun _ => hR 3 (by omega), fun _ => ?_⟩
  simp only [cellOf_agg, List.getD_cons_zero, List.getD_cons_succ]
  rw [pUn_not, pIf_b]
  exact ⟨fun _ => hR 4 (by omega), fun _ => hR 0 (by omega)⟩

theorem spec_l2Fits {n m : Nat} {es et : List Value} {x t : Tr} (h : RT n (Av.get w0 σ) es x) (ht : RT m (Av.get w0 σ) et t) (hc : cntT n x ≤ 1000000000000) {R : Value → Vw → Prop} (h6 : R (.tuple ⟨[.agg ⟨et⟩, .int .i64 6]⟩) σ) (h0 : R (.tuple ⟨[.agg ⟨es⟩, .int .i64 0]⟩) σ) : AC Tryz.prog w0 n_spec_l2Fits [.agg ⟨es⟩, .agg ⟨et⟩] σ R := by
  refine ac_spec_l2Fits ?_
  unfold vc_spec_l2Fits
  have h1 := h
  obtain ⟨a, b, c, d, e, rfl, hp⟩ := h.shape
  obtain ⟨a', b', c', d', e', rfl, hp'⟩ := ht.shape
  rw [hp, hp']
  simp only [cellOf_agg, List.getD_cons_zero, List.getD_cons_succ]
  refine spec_TreeOk h1 hc ?_
  rw [pUn_not, pIf_b, hp, hp']
  exact ⟨fun _ => h6, fun _ => h0⟩

theorem set_fits {n : Nat} {et ez : List Value} {u : Value} {t z tb : Tr} {eb : List Value} {ps : List ByteArray} (hn : n ≤ 6) (ht : RT n (Av.get w0 σ) et t) (hw : wfT n t) (hsz : szT n t ≤ 10000) (hb : RT 5 (Av.get w0 σ) eb tb) (hbs : szT 5 tb ≤ 1000) (hu : RSl 1 RS (Av.get w0 σ) u ps) (hne : ps ≠ []) (hps : ∀ s, s ∈ ps → s.size ≤ 5)
    (hz : RT 5 (Av.get w0 σ) ez z) (hwz : wfT 5 z) (hzs : szT 5 z ≤ 3000) {R : Value → Vw → Prop} (hR : OutD w0 σ R) :
    AC Tryz.prog w0 n_spec_l2Set [.agg ⟨et⟩, u, .agg ⟨ez⟩, .bool false] σ (fun v12 s13 => AC Tryz.prog w0 n_spec_l2Fits [v12, .agg ⟨eb⟩] s13 (fun v14 s15 => pExtract v14 0 (fun v16 => pExtract v14 1 (fun v17 => pVal true 5 v16 (R (.tuple (⟨[.agg (⟨[cellOf v16 0, cellOf v16 1, cellOf v16 2, cellOf v16 3, cellOf v16 4]⟩), v17]⟩)) s15))))) := by
  have hmul : (szT n t + 1) * (5 + szT 5 z + 4) ≤ 10001 * 3009 := Nat.mul_le_mul (by omega) (by omega)
  refine spec_l2Set (k := 5) (P := 5) n ht hw hu hne hz hwz hps (by omega) fun es' y σ' k hy hwy hys => ?_
  have hy11 : RT 11 (Av.get w0 σ') es' y := RT_le (by omega) hy
  have hys11 : szT 11 y ≤ 40000000 := by rw [sz_more hy.isT (by omega)]; omega
  have hb' := mono_rt 5 _ _ _ _ k.le hb
  have hcnt := cnt_le (n + 5) y
  have hb11 : RT 11 (Av.get w0 σ') eb tb := RT_le (by omega) hb'
  have hbs11 : szT 11 tb ≤ 40000000 := by rw [sz_more hb.isT (by omega)]; omega
  refine spec_l2Fits hy hb' (by omega) ?_ ?_
  · obtain ⟨a, b, c, d, e, rfl, hp⟩ := hb'.shape
    rw [pExtract_s rfl, pExtract_s rfl, hp]
    simp only [cellOf_agg, List.getD_cons_zero, List.getD_cons_succ]
    exact hR _ _ _ 6 k hb11 hbs11 (by omega)
  · obtain ⟨a, b, c, d, e, rfl, hp⟩ := hy.shape
    rw [pExtract_s rfl, pExtract_s rfl, hp]
    simp only [cellOf_agg, List.getD_cons_zero, List.getD_cons_succ]
    exact hR _ _ _ 0 k hy11 hys11 (by omega)
end
end Go.Proofs.YtkbhjejalkbogaaGreat

/- A call done in a tree by the reference's hand: files, moves, all of it. -/
set_option linter.unusedVariables false
set_option linter.unusedSimpArgs false
namespace Go.Proofs.YtkbhjejalkbogaaGreat
open Go Go.Av

theorem wf_at : ∀ (ps : List ByteArray) {n : Nat} {x y : Tr}, IsT n x → wfT n x → atT x ps = some y → wfT n y
  | [], _, _, _, _, hw, e => by cases e; exact hw
  | p :: r, 0, x, y, ⟨_, _, h⟩, _, e => h.elim
  | p :: r, n + 1, .mk d m t ns ks, y, h, hw, e => by
    simp only [atT, Option.bind_eq_some_iff] at e
    obtain ⟨k, hk, e⟩ := e
    have hm := kid_mem hk
    have hi := isT_kid h hm
    obtain ⟨rd, es, h1⟩ := (sz_at r hi e).1
    exact wf_more h1 (wf_at r hi (hw.2 k hm) e) (by omega)

section
variable {w0 : World} {σ : Vw}

theorem OutD.same {es : List Value} {x : Tr} {R : Value → Vw → Prop} (hR : OutD w0 σ R) (h : RT 5 (Av.get w0 σ) es x) (hs : szT 5 x ≤ 1000) {k : Int} (hk : 0 ≤ k ∧ k ≤ 7) : R (.tuple ⟨[.agg ⟨es⟩, .int .i64 k]⟩) σ :=
  hR _ _ _ k (Keeps.refl _) (RT_le (by omega) h) (by rw [sz_more h.isT (by omega)]; omega) hk
theorem OutD.keep {R : Value → Vw → Prop} (hR : OutD w0 σ R) {s : Vw} (k : Keeps σ s) : OutD w0 s R := fun es y s' c k' h1 h2 h3 => hR es y s' c (k.trans k') h1 h2 h3

set_option maxHeartbeats 4000000 in
theorem spec_l2File {es cs : List Value} {x : Tr} {c : Cl} (h : RT 5 (Av.get w0 σ) es x) (hw : wfT 5 x) (hs : szT 5 x ≤ 1000) (hc : RCl (Av.get w0 σ) cs c) (hok : callOk c = true) (hk : c.1 = 2 ∨ c.1 = 3) (hdl : c.2.2.2.2.size ≤ 1000000) {R : Value → Vw → Prop} (hR : OutD w0 σ R) : AC Tryz.prog w0 n_spec_l2File [.agg ⟨es⟩, .agg ⟨cs⟩] σ R := by
  obtain ⟨⟨hne, hps⟩, _, hat⟩ := callOk_facts hok
  obtain ⟨k, p, t, a, d⟩ := c
  simp only at hne hps hat hk
  have hat := hat hk
  refine ac_spec_l2File ?_
  unfold vc_spec_l2File
  have h0 := h
  obtain ⟨u, w, rfl, hu, hw', hkk, haa, hdd⟩ := hc
  simp only at hu hw' hkk haa hdd hdl
  obtain ⟨a0, a1, a2, a3, a4, rfl, hp⟩ := h.shape
  rw [hp, pVal_5 rfl hu.one hw'.one rfl rfl]
  simp only [cellOf_agg, List.getD_cons_zero, List.getD_cons_succ]
  refine spec_At _ h0 hw hu fun ez hz => ?_
  generalize hzz : (atT x p).getD zeroT = z at hz
  have hzsz : szT 5 z ≤ 1000 ∧ wfT 5 z := by
    cases hat2 : atT x p with
    | none => rw [hat2] at hzz; rw [← hzz]; exact ⟨by rw [show (none : Option Tr).getD zeroT = zeroT from rfl, sz_zero]; omega, wf_zero 5⟩
    | some y =>
      rw [hat2] at hzz
      have := (sz_at p h0.isT hat2).2
      have hwz : wfT 5 y := wf_at p h0.isT hw hat2
      rw [← hzz]; exact ⟨by show szT 5 y ≤ 1000; omega, hwz⟩
  obtain ⟨zu, zw, rfl, hz1, hz2, hz3, hz4, hzp⟩ := hz.cells
  rw [pExtract_s rfl, pExtract_s rfl, hzp]
  simp only [cellOf_agg, List.getD_cons_zero, List.getD_cons_succ]
  have hdz : (dataOf z).size ≤ 1000 := by
    obtain ⟨d', m', t', ns', ks'⟩ := z
    have : szT 5 (.mk d' m' t' ns' ks') = t'.size + (ns'.length + sumS ns') + (ks'.length + sumBy (szT 4) ks') := rfl
    show t'.size ≤ 1000
    omega
  have same : ∀ k : Int, 0 ≤ k ∧ k ≤ 7 → pVal true 5 (.agg (⟨[a0, a1, a2, a3, a4]⟩)) (R (.tuple (⟨[.agg (⟨[a0, a1, a2, a3, a4]⟩), .int .i64 k]⟩)) σ) := fun k hk => by
    rw [hp]; exact hR.same h0 hs hk
  have SET : ∀ (t' : ByteArray) (s : Vw), Keeps σ s → t'.size ≤ 1100 → pVal false 1 (.string t') (AC Tryz.prog w0 n_spec_l2Set [.agg ⟨[a0, a1, a2, a3, a4]⟩, u, .agg ⟨[.bool (isDir z), .int .i64 (modeOf z), .string t', zu, zw]⟩, .bool false] s (fun v12 s13 => AC Tryz.prog w0 n_spec_l2Fits [v12, .agg ⟨[a0, a1, a2, a3, a4]⟩] s13 (fun v14 s15 => pExtract v14 0 (fun v16 => pExtract v14 1 (fun v17 => pVal true 5 v16 (R (.tuple (⟨[.agg (⟨[cellOf v16 0, cellOf v16 1, cellOf v16 2, cellOf v16 3, cellOf v16 4]⟩), v17]⟩)) s15)))))) := fun t' s ks ht' => by
    rw [pVal1 rfl]
    obtain ⟨y, hy, hwy, hys⟩ := (mono_rt 5 _ _ _ _ ks.le hz).data (t := t') (by omega)
    have h0' := mono_rt 5 _ _ _ _ ks.le h0
    exact set_fits (by omega) h0' hw (by omega) h0' hs (hu.mono ks.le fun _ _ h => h) hne hps hy (hwy hzsz.2) (by omega) (hR.keep ks)
  obtain ⟨at', rfl⟩ : ∃ n : Nat, a = n := ⟨a.toNat, by omega⟩
  have TRUNC : pLenS (.string (dataOf z)) (fun v7 => pBin Tryz.prog 3 .gtr v7 (.int .i64 (at' : Nat)) (fun v8 => pIf v8 (pSliceStr (.string (dataOf z)) none (some (.int .i64 (at' : Nat))) (fun v9 => AC Tryz.prog w0 n_spec_l2Write ([v9, .int .i64 (at' : Nat), .string ({ data := #[] })]) σ (fun v10 s11 => pVal false 1 v10 (AC Tryz.prog w0 n_spec_l2Set [.agg ⟨[a0, a1, a2, a3, a4]⟩, u, .agg ⟨[.bool (isDir z), .int .i64 (modeOf z), v10, zu, zw]⟩, .bool false] s11 (fun v12 s13 => AC Tryz.prog w0 n_spec_l2Fits [v12, .agg ⟨[a0, a1, a2, a3, a4]⟩] s13 (fun v14 s15 => pExtract v14 0 (fun v16 => pExtract v14 1 (fun v17 => pVal true 5 v16 (R (.tuple (⟨[.agg (⟨[cellOf v16 0, cellOf v16 1, cellOf v16 2, cellOf v16 3, cellOf v16 4]⟩), v17]⟩)) s15)))))))))
      (AC Tryz.prog w0 n_spec_l2Write ([.string (dataOf z), .int .i64 (at' : Nat), .string ({ data := #[] })]) σ (fun v10 s11 => pVal false 1 v10 (AC Tryz.prog w0 n_spec_l2Set [.agg ⟨[a0, a1, a2, a3, a4]⟩, u, .agg ⟨[.bool (isDir z), .int .i64 (modeOf z), v10, zu, zw]⟩, .bool false] s11 (fun v12 s13 => AC Tryz.prog w0 n_spec_l2Fits [v12, .agg ⟨[a0, a1, a2, a3, a4]⟩] s13 (fun v14 s15 => pExtract v14 0 (fun v16 => pExtract v14 1 (fun v17 => pVal true 5 v16 (R (.tuple (⟨[.agg (⟨[cellOf v16 0, cellOf v16 1, cellOf v16 2, cellOf v16 3, cellOf v16 4]⟩), v17]⟩)) s15))))))))))  := by
    have e0 : (⟨#[]⟩ : ByteArray).size = 0 := rfl
    rw [pLenS_s, pBin_gt, pIf_d]
    refine ⟨fun hgt => ?_, fun hle => ?_⟩
    · refine pSliceStr_s (l := 0) (h := at') rfl rfl (by omega) ?_
      have hxs : ((dataOf z).extract (0 : Int).toNat ((at' : Nat) : Int).toNat).size ≤ 24 := by
        rw [ByteArray.size_extract]; omega
      exact spec_l2Write (by omega) (by omega) (by omega) fun t' s' k' ht' => SET t' s' k' (by omega)
    · exact spec_l2Write (by omega) (by omega) (by omega) fun t' s' k' ht' => SET t' s' k' (by omega)
  have WRITE : pLenS (.string d) (fun v26 => pBin Tryz.prog 3 .add v26 (.int .i64 (at' : Nat)) (fun v27 => pBin Tryz.prog 3 .gtr v27 (.int .i64 24) (fun v28 => pIf v28 (pVal true 5 (.agg (⟨[a0, a1, a2, a3, a4]⟩)) (R (.tuple (⟨[.agg (⟨[a0, a1, a2, a3, a4]⟩), .int .i64 6]⟩)) σ))
      (AC Tryz.prog w0 n_spec_l2Write ([.string (dataOf z), .int .i64 (at' : Nat), .string d]) σ (fun v10 s11 => pVal false 1 v10 (AC Tryz.prog w0 n_spec_l2Set [.agg ⟨[a0, a1, a2, a3, a4]⟩, u, .agg ⟨[.bool (isDir z), .int .i64 (modeOf z), v10, zu, zw]⟩, .bool false] s11 (fun v12 s13 => AC Tryz.prog w0 n_spec_l2Fits [v12, .agg ⟨[a0, a1, a2, a3, a4]⟩] s13 (fun v14 s15 => pExtract v14 0 (fun v16 => pExtract v14 1 (fun v17 => pVal true 5 v16 (R (.tuple (⟨[.agg (⟨[cellOf v16 0, cellOf v16 1, cellOf v16 2, cellOf v16 3, cellOf v16 4]⟩), v17]⟩)) s15))))))))))) := by
    rw [pLenS_s, pBin_add (by omega), pBin_gt, pIf_d]
    refine ⟨fun _ => same 6 (by omega), fun hle => ?_⟩
    exact spec_l2Write (by omega) (by omega) (by omega) fun t' s' k' ht' => SET t' s' k' (by omega)
  refine pIf_b.2 ⟨fun _ => pIf_b.2 ⟨fun _ => same 4 (by omega), fun _ => ?_⟩, fun _ => ?_⟩
  all_goals
    rw [pUn_not, pIf_b]
    refine ⟨fun _ => ?_, fun _ => ?_⟩
    · rw [pBin_eq, pIf_d]
      refine ⟨fun _ => same 3 (by omega), fun _ => ?_⟩
      rw [pBin_eq, pIf_d]
      exact ⟨fun _ => TRUNC, fun _ => WRITE⟩
    · rw [pBin_eq, pIf_d]
      exact ⟨fun _ => TRUNC, fun _ => WRITE⟩

theorem at_small {ps : List ByteArray} {x : Tr} {rd : Addr → Option Value} {es : List Value} (h : RT 5 rd es x) (hw : wfT 5 x) (hs : szT 5 x ≤ 1000) : szT 5 ((atT x ps).getD zeroT) ≤ 1000 ∧ wfT 5 ((atT x ps).getD zeroT) := by
  cases hat2 : atT x ps with
  | none => exact ⟨by rw [show (none : Option Tr).getD zeroT = zeroT from rfl, sz_zero]; omega, wf_zero 5⟩
  | some y => exact ⟨by have := (sz_at ps h.isT hat2).2; show szT 5 y ≤ 1000; omega, wf_at ps h.isT hw hat2⟩

set_option maxHeartbeats 4000000 in
theorem spec_l2Rename {es cs : List Value} {x : Tr} {c : Cl} (h : RT 5 (Av.get w0 σ) es x) (hw : wfT 5 x) (hs : szT 5 x ≤ 1000) (hc : RCl (Av.get w0 σ) cs c) (hok : callOk c = true) (hk : c.1 = 5) {R : Value → Vw → Prop} (hR : OutD w0 σ R) : AC Tryz.prog w0 n_spec_l2Rename [.agg ⟨es⟩, .agg ⟨cs⟩] σ R := by
  obtain ⟨⟨hne, hps⟩, hto, _⟩ := callOk_facts hok
  obtain ⟨k, p, t, a, d⟩ := c
  simp only at hne hps hto hk
  obtain ⟨hne2, hpt⟩ := hto hk
  refine ac_spec_l2Rename ?_
  unfold vc_spec_l2Rename
  have h0 := h
  obtain ⟨u, w, rfl, hu, hw', hkk, haa, hdd⟩ := hc
  simp only at hu hw' hkk haa hdd
  obtain ⟨a0, a1, a2, a3, a4, rfl, hp⟩ := h.shape
  rw [hp, pVal_5 rfl hu.one hw'.one rfl rfl]
  simp only [cellOf_agg, List.getD_cons_zero, List.getD_cons_succ]
  have same : ∀ k : Int, 0 ≤ k ∧ k ≤ 7 → pVal true 5 (.agg (⟨[a0, a1, a2, a3, a4]⟩)) (R (.tuple (⟨[.agg (⟨[a0, a1, a2, a3, a4]⟩), .int .i64 k]⟩)) σ) := fun k hk => by
    rw [hp]; exact hR.same h0 hs hk
  refine spec_At _ h0 hw hu fun ez hz => ?_
  obtain ⟨hzs, hzw⟩ := at_small (ps := p) h0 hw hs
  generalize (atT x p).getD zeroT = z at *
  have hz0 := hz
  obtain ⟨z0, z1, z2, z3, z4, rfl, hzp⟩ := hz.shape
  rw [pExtract_s rfl, pExtract_s rfl, hzp, pUn_not, pIf_b]
  refine ⟨fun _ => same 3 (by omega), fun _ => ?_⟩
  refine spec_Within hw' hu (pIf_b.2 ⟨fun _ => same 7 (by omega), fun _ => ?_⟩)
  refine spec_l2Parent h0 hw hw' hne2 fun k hk => ?_
  rw [pBin_ne, pIf_d]
  refine ⟨fun _ => same k hk, fun _ => ?_⟩
  refine spec_At _ h0 hw hw' fun ey hy => ?_
  obtain ⟨y0, y1, y2, y3, y4, rfl, hyp⟩ := hy.shape
  rw [pExtract_s rfl, pExtract_s rfl, hyp, pIf_b]
  refine ⟨fun _ => same 5 (by omega), fun _ => ?_⟩
  simp only [cellOf_agg, List.getD_cons_zero, List.getD_cons_succ]
  have hmul : (szT 5 x + 1) * (5 + szT 1 zeroT + 4) ≤ 1001 * 9 := by rw [sz_zero]; exact Nat.mul_le_mul (by omega) (by omega)
  refine spec_l2Set (k := 1) (P := 5) 5 h0 hw hu hne (RT_zero 0 _) (wf_zero 1) hps (by omega) fun es' y σ' k' hy' hwy hys => ?_
  have hys : szT 6 y + 1 ≤ (szT 5 x + 1) * (5 + szT 1 zeroT + 4) := hys
  refine set_fits (n := 6) (by omega) hy' hwy (by omega) (mono_rt 5 _ _ _ _ k'.le h0) hs (hw'.mono k'.le fun _ _ h => h) hne2 hpt (mono_rt 5 _ _ _ _ k'.le hz0) hzw (by omega) (hR.keep k')

theorem set_out {es ez : List Value} {u : Value} {x z : Tr} {ps : List ByteArray} {gone : Bool} (h : RT 5 (Av.get w0 σ) es x) (hw : wfT 5 x) (hs : szT 5 x ≤ 1000) (hu : RSl 1 RS (Av.get w0 σ) u ps) (hne : ps ≠ []) (hps : ∀ s, s ∈ ps → s.size ≤ 5) (hz : RT 5 (Av.get w0 σ) ez z) (hwz : wfT 5 z) (hzs : szT 5 z ≤ 1000) {R : Value → Vw → Prop} (hR : OutD w0 σ R) :
    AC Tryz.prog w0 n_spec_l2Set [.agg ⟨es⟩, u, .agg ⟨ez⟩, .bool gone] σ (fun v28 s29 => pVal true 5 v28 (R (.tuple (⟨[.agg (⟨[cellOf v28 0, cellOf v28 1, cellOf v28 2, cellOf v28 3, cellOf v28 4]⟩), .int .i64 0]⟩)) s29)) := by
  have hmul : (szT 5 x + 1) * (5 + szT 5 z + 4) ≤ 1001 * 1009 := Nat.mul_le_mul (by omega) (by omega)
  refine spec_l2Set (k := 5) (P := 5) 5 h hw hu hne hz hwz hps (by omega) fun es' y σ' k' hy hwy hys => ?_
  have hy11 : RT 11 (Av.get w0 σ') es' y := RT_le (by omega) hy
  have hs11 : szT 11 y ≤ 40000000 := by rw [sz_more hy.isT (by omega)]; omega
  obtain ⟨a, b, c, d, e, rfl, hp⟩ := hy.shape
  rw [hp]
  simp only [cellOf_agg, List.getD_cons_zero, List.getD_cons_succ]
  exact hR _ _ _ 0 k' hy11 hs11 (by omega)

theorem out_pass {R : Value → Vw → Prop} (hR : OutD w0 σ R) : OutD w0 σ (fun v15 s16 => pExtract v15 0 (fun v17 => pExtract v15 1 (fun v18 => pVal true 5 v17 (R (.tuple (⟨[.agg (⟨[cellOf v17 0, cellOf v17 1, cellOf v17 2, cellOf v17 3, cellOf v17 4]⟩), v18]⟩)) s16)))) := fun es y s' k k' h1 h2 h3 => by
  have h0 := h1
  obtain ⟨a, b, c, d, e, rfl, hp⟩ := h1.shape
  show pExtract _ _ _
  rw [pExtract_s rfl, pExtract_s rfl, hp]
  simp only [cellOf_agg, List.getD_cons_zero, List.getD_cons_succ]
  exact hR _ _ _ k k' h0 h2 h3

set_option maxHeartbeats 4000000 in
theorem spec_l2Do {es cs : List Value} {x : Tr} {c : Cl} (h : RT 5 (Av.get w0 σ) es x) (hw : wfT 5 x) (hs : szT 5 x ≤ 1000) (hc : RCl (Av.get w0 σ) cs c) (hok : callOk c = true) (hdl : c.2.2.2.2.size ≤ 1000000) {R : Value → Vw → Prop} (hR : OutD w0 σ R) : AC Tryz.prog w0 n_spec_l2Do [.agg ⟨es⟩, .agg ⟨cs⟩] σ R := by
  obtain ⟨⟨hne, hps⟩, _, _⟩ := callOk_facts hok
  have hc0 := hc
  obtain ⟨k, p, t, a, d⟩ := c
  simp only at hne hps
  refine ac_spec_l2Do ?_
  unfold vc_spec_l2Do
  have h0 := h
  obtain ⟨u, w, rfl, hu, hw', hkk, haa, hdd⟩ := hc
  simp only at hu hw' hkk haa hdd hdl
  obtain ⟨a0, a1, a2, a3, a4, rfl, hp⟩ := h.shape
  rw [hp, pVal_5 rfl hu.one hw'.one rfl rfl]
  simp only [cellOf_agg, List.getD_cons_zero, List.getD_cons_succ]
  have same : ∀ k : Int, 0 ≤ k ∧ k ≤ 7 → pVal true 5 (.agg (⟨[a0, a1, a2, a3, a4]⟩)) (R (.tuple (⟨[.agg (⟨[a0, a1, a2, a3, a4]⟩), .int .i64 k]⟩)) σ) := fun k hk => by
    rw [hp]; exact hR.same h0 hs hk
  refine spec_l2Parent h0 hw hu hne fun k2 hk2 => ?_
  rw [pBin_ne, pIf_d]
  refine ⟨fun _ => same k2 hk2, fun _ => ?_⟩
  refine spec_At _ h0 hw hu fun ez hz => ?_
  obtain ⟨hzs, hzw⟩ := at_small (ps := p) h0 hw hs
  generalize (atT x p).getD zeroT = z at *
  generalize (atT x p).isSome = there
  have hz0 := hz
  obtain ⟨zu, zw, rfl, hz1, hz2, hz3, hz4, hzp⟩ := hz.cells
  rw [pExtract_s rfl, pExtract_s rfl, hzp]
  simp only [cellOf_agg, List.getD_cons_zero, List.getD_cons_succ]
  have hnew : RT 5 (Av.get w0 σ) [.bool true, .int .i64 a, .string ⟨#[]⟩, .slice none 0 0, .slice none 0 0] (.mk true a ⟨#[]⟩ [] []) :=
    ⟨_, _, rfl, haa, by show 0 ≤ _; omega, ⟨none, 0, rfl, by simp, fun j x h => by simp at h⟩, ⟨none, 0, rfl, by simp, fun j x h => by simp at h⟩⟩
  have hnw : wfT 5 (.mk true a ⟨#[]⟩ [] []) := ⟨rfl, fun k hk => by cases hk⟩
  have hns : szT 5 (.mk true a ⟨#[]⟩ [] []) ≤ 1000 := by show 0 + (0 + 0) + (0 + 0) ≤ 1000; omega
  have FILE : k = 2 ∨ k = 3 → _ := fun hk => spec_l2File h0 hw hs hc0 hok hk hdl (out_pass hR)
  rw [pBin_eq, pIf_d]
  refine ⟨fun _ => pIf_b.2 ⟨fun _ => same 5 (by omega), fun _ => ?_⟩, fun _ => ?_⟩
  · rw [pVal1 rfl, pVal1 rfl]
    exact set_fits (by omega) h0 hw (by omega) h0 hs hu hne hps hnew hnw (by omega) hR
  rw [pBin_eq, pIf_d]
  have REST : pBin Tryz.prog 3 .eql (.int .i64 k) (.int .i64 5) (fun v37 => pIf v37 (AC Tryz.prog w0 n_spec_l2Rename ([.agg (⟨[a0, a1, a2, a3, a4]⟩), .agg (⟨[.int .i64 k, u, w, .int .i64 a, .string d]⟩)]) σ (fun v38 s39 => pExtract v38 0 (fun v40 => pExtract v38 1 (fun v41 => pVal true 5 v40 (R (.tuple (⟨[.agg (⟨[cellOf v40 0, cellOf v40 1, cellOf v40 2, cellOf v40 3, cellOf v40 4]⟩), v41]⟩)) s39)))))
      (pUn UnOp.not (.bool there) (fun v42 => pIf v42 (pVal true 5 (.agg (⟨[a0, a1, a2, a3, a4]⟩)) (R (.tuple (⟨[.agg (⟨[a0, a1, a2, a3, a4]⟩), .int .i64 3]⟩)) σ)) (pBin Tryz.prog 3 .eql (.int .i64 k) (.int .i64 4) (fun v43 => pIf v43 (pLen zu (fun v44 => pBin Tryz.prog 3 .gtr v44 (.int .i64 0) (fun v45 => pIf v45 (pVal true 5 (.agg (⟨[a0, a1, a2, a3, a4]⟩)) (R (.tuple (⟨[.agg (⟨[a0, a1, a2, a3, a4]⟩), .int .i64 5]⟩)) σ))
        (AC Tryz.prog w0 n_spec_l2Set ([.agg (⟨[a0, a1, a2, a3, a4]⟩), u, .agg (⟨[.bool false, .int .i64 0, .string ({ data := #[] }), .slice none 0 0, .slice none 0 0]⟩), .bool true]) σ (fun v46 s47 => pVal true 5 v46 (R (.tuple (⟨[.agg (⟨[cellOf v46 0, cellOf v46 1, cellOf v46 2, cellOf v46 3, cellOf v46 4]⟩), .int .i64 0]⟩)) s47))))))
        (pVal false 1 (.int .i64 a) (AC Tryz.prog w0 n_spec_l2Set ([.agg (⟨[a0, a1, a2, a3, a4]⟩), u, .agg (⟨[.bool (isDir z), .int .i64 a, .string (dataOf z), zu, zw]⟩), .bool false]) σ (fun v48 s49 => pVal true 5 v48 (R (.tuple (⟨[.agg (⟨[cellOf v48 0, cellOf v48 1, cellOf v48 2, cellOf v48 3, cellOf v48 4]⟩), .int .i64 0]⟩)) s49))))))))) := by
    rw [pBin_eq, pIf_d]
    refine ⟨fun hk => spec_l2Rename h0 hw hs hc0 hok hk (out_pass hR), fun _ => ?_⟩
    rw [pUn_not, pIf_b]
    refine ⟨fun _ => same 3 (by omega), fun _ => ?_⟩
    rw [pBin_eq, pIf_d]
    refine ⟨fun _ => ?_, fun _ => ?_⟩
    · rw [hz3.len, pBin_gt, pIf_d]
      refine ⟨fun _ => same 5 (by omega), fun _ => ?_⟩
      exact set_out h0 hw hs hu hne hps (RT_zero 4 _) (wf_zero 5) (by rw [sz_zero]; omega) hR
    · rw [pVal1 rfl]
      obtain ⟨y, hy, hyw, hys⟩ := hz0.mode haa
      exact set_out h0 hw hs hu hne hps hy (hyw hzw) (by omega) hR
  refine ⟨fun hk => ?_, fun hk => ?_⟩
  · rw [pIf_d]
    exact ⟨fun _ => FILE (by omega), fun h => absurd hk h⟩
  · rw [pBin_eq, pIf_d]
    exact ⟨fun hk => FILE (by omega), fun _ => REST⟩
end
end Go.Proofs.YtkbhjejalkbogaaGreat

/- The reader of a code that a draw is drawn from: a row of its own that is hidden from all else; its picks. -/
set_option linter.unusedVariables false
set_option linter.unusedSimpArgs false
namespace Go.Av
open Go Go.RowKit

/-- A view without a row. -/
def Vw.del (σ : Vw) (b : Nat) : Vw := fun i => if i = b then none else σ i
theorem del_at {σ : Vw} {b : Nat} : (σ.del b) b = none := by simp [Vw.del]
theorem del_ne {σ : Vw} {b i : Nat} (h : i ≠ b) : (σ.del b) i = σ i := by simp [Vw.del, h]
theorem del_put {σ : Vw} {b : Nat} {r : Row} (h : σ b = none) : (σ.put b r).del b = σ := by
  funext i
  by_cases e : i = b
  · subst e; simp [Vw.del, h]
  · simp [Vw.del, Vw.put, e]
theorem del_some {σ : Vw} {b i : Nat} {r : Row} (h : (σ.del b) i = some r) : i ≠ b ∧ σ i = some r := by
  by_cases e : i = b
  · subst e; rw [del_at] at h; cases h
  · exact ⟨e, by rw [del_ne e] at h; exact h⟩
theorem del_keeps {σ : Vw} {b : Nat} : Keeps (σ.del b) σ := fun i r h => (del_some h).2
theorem del_le {w0 : World} {σ : Vw} {b : Nat} : Le (Av.get w0 (σ.del b)) (Av.get w0 σ) := del_keeps.le

/-- A call does not see a row that is kept from it, and leaves it. -/
theorem AC.hide {P : Program} {w0 : World} {f : FuncId} {args : List Value} {σ : Vw} {R R' : Value → Vw → Prop} {b : Nat} {r : Row} (hb : σ b = some r) (h : AC P w0 f args (σ.del b) R) (hR : ∀ v σ', σ' b = none → R v σ' → R' v (σ'.put b r)) : AC P w0 f args σ R' := by
  refine ⟨h.1, fun w hw => ?_⟩
  have hs : Sat w0 (σ.del b) w := ⟨hw.bel, fun i r' hi => hw.row i r' (del_some hi).2⟩
  refine (h.2 w hs).mono ?_
  rintro e w' ⟨v, σ', he, hRv, ha⟩
  have hlt := hw.lt hb
  have hn : σ' b = none := by
    cases hc : σ' b with
    | none => rfl
    | some r' =>
      rcases ha.dom b r' hc with h1 | h1
      · exact absurd del_at h1
      · omega
  refine ⟨v, σ'.put b r, he, hR v σ' hn hRv, ⟨⟨ha.sat.bel, fun i r' hi => ?_⟩, ha.size, fun i hi hni => ?_, fun i r' hi => ?_⟩⟩
  · by_cases e : i = b
    · subst e
      rw [put_at] at hi; cases hi
      obtain ⟨h1, cur, h2, h3⟩ := hw.row i _ hb
      exact ⟨h1, cur, (ha.fr i hlt del_at).trans h2, h3⟩
    · rw [put_ne e] at hi
      exact ha.sat.row i r' hi
  · refine ha.fr i hi ?_
    by_cases e : i = b
    · subst e; exact del_at
    · rw [del_ne e]; exact hni
  · by_cases e : i = b
    · subst e; exact .inl (by rw [hb]; simp)
    · rw [put_ne e] at hi
      rcases ha.dom i r' hi with h1 | h1
      · exact .inl (by rw [del_ne e] at h1; exact h1)
      · exact .inr h1
end Go.Av
namespace Go.Proofs.YtkbhjejalkbogaaGreat
open Go Go.Av Go.RowKit

theorem pBin_xor {P : Program} {T : Nat} {a b : Int} {K : Value → Prop} (ha : 0 ≤ a ∧ a ≤ 9223372036854775807) (hb : 0 ≤ b ∧ b ≤ 9223372036854775807) (hK : ∀ c : Int, 0 ≤ c ∧ c ≤ 9223372036854775807 → K (.int .i64 c)) : pBin P T .xor (.int .i64 a) (.int .i64 b) K := by
  obtain ⟨m, rfl⟩ : ∃ m : Nat, a = m := ⟨a.toNat, by omega⟩
  obtain ⟨n, rfl⟩ : ∃ n : Nat, b = n := ⟨b.toNat, by omega⟩
  refine ⟨_, rfl, ?_⟩
  have h1 : (BitVec.ofInt 64 (m : Int) ^^^ BitVec.ofInt 64 (n : Int)).toNat = m ^^^ n := by
    rw [BitVec.toNat_xor]
    simp only [BitVec.ofInt_natCast, BitVec.toNat_ofNat]
    rw [Nat.mod_eq_of_lt (by omega), Nat.mod_eq_of_lt (by omega)]
  have h2 : m ^^^ n < 2 ^ 63 := Nat.xor_lt_two_pow (by omega) (by omega)
  show K (.int .i64 (IntKind.i64.wrap ((BitVec.ofInt 64 (m : Int) ^^^ BitVec.ofInt 64 (n : Int)).toNat : Int)))
  rw [h1, IntWalk.i64_in _ (by omega)]
  exact hK _ (by omega)
section
variable {w0 : World} {σ : Vw}

/-- A byte that is read. -/
def RU8 (rd : Addr → Option Value) (es : List Value) (x : Nat) : Prop := es = [.int .u8 (x : Int)] ∧ x ≤ 255
/-- The reader: its row, how far it has come at most. -/
def RD (w0 : World) (σ : Vw) (b p : Nat) : Prop := ∃ (u : Value) (q ety cap : Nat) (bs : List Nat), w0.heap.size ≤ b ∧ σ b = some ⟨ety, [u, .int .i64 (q : Nat)], cap, (0, 0)⟩ ∧ q ≤ p ∧ RSl 1 RU8 (Av.get w0 (fun _ => none)) u bs ∧ bs.length ≤ 2000

theorem RD.more {b p p' : Nat} (h : RD w0 σ b p) (hp : p ≤ p') : RD w0 σ b p' := by
  obtain ⟨u, q, ety, cap, bs, h1, h2, h3, h4⟩ := h
  exact ⟨u, q, ety, cap, bs, h1, h2, by omega, h4⟩
/-- The reader's row is not touched, the rest is kept. -/
theorem RD.keep {b p : Nat} {s : Vw} (h : RD w0 σ b p) (hb : s b = σ b) : RD w0 s b p := by
  obtain ⟨u, q, ety, cap, bs, h1, h2, h3, h4, h5⟩ := h
  exact ⟨u, q, ety, cap, bs, h1, by rw [hb]; exact h2, h3, h4, h5⟩
/-- Calls that have nothing to do with the reader. -/
theorem RD.hide {b p : Nat} (h : RD w0 σ b p) {f : FuncId} {args : List Value} {R R' : Value → Vw → Prop} (hc : AC Tryz.prog w0 f args (σ.del b) R) (hR : ∀ v s, Keeps (σ.del b) (s.del b) → RD w0 s b p → R v (s.del b) → R' v s) (hk : ∀ v s, R v s → Keeps (σ.del b) s) : AC Tryz.prog w0 f args σ R' := by
  obtain ⟨u, q, ety, cap, bs, h1, h2, h3, h4, h5⟩ := h
  refine AC.hide h2 hc fun v s hs hRv => ?_
  have hd : (s.put b ⟨ety, [u, .int .i64 (q : Nat)], cap, (0, 0)⟩).del b = s := del_put hs
  have k := hk v s hRv
  refine hR v _ (by rw [hd]; exact k) ⟨u, q, ety, cap, bs, h1, put_at, h3, h4, h5⟩ (by rw [hd]; exact hRv)
end
end Go.Proofs.YtkbhjejalkbogaaGreat

/- What is drawn from a code: numbers, names, bytes; a call done in a tree, in all. -/
set_option linter.unusedVariables false
set_option linter.unusedSimpArgs false
namespace Go.Proofs.YtkbhjejalkbogaaGreat
open Go Go.Av Go.RowKit

section
variable {w0 : World} {σ : Vw}

theorem spec_TreeDo {n : Nat} {es cs : List Value} {x : Tr} {c : Cl} (h : RT n (Av.get w0 σ) es x) (hs : szT n x ≤ 1000000000) (hc : RCl (Av.get w0 σ) cs c) (hdl : c.2.2.2.2.size ≤ 1000000) {R : Value → Vw → Prop} (hR : OutD w0 σ R) : AC Tryz.prog w0 n_spec_TreeDo [.agg ⟨es⟩, .agg ⟨cs⟩] σ R := by
  refine ac_spec_TreeDo ?_
  unfold vc_spec_TreeDo
  have h0 := h
  have hc0 := hc
  have hcnt := cnt_le n x
  obtain ⟨u, w, rfl, hu, hw', hkk, haa, hdd⟩ := hc
  obtain ⟨a0, a1, a2, a3, a4, rfl, hp⟩ := h.shape
  rw [hp, pVal_5 rfl hu.one hw'.one rfl rfl]
  simp only [cellOf_agg, List.getD_cons_zero, List.getD_cons_succ]
  refine spec_TreeOk h0 (by omega) ?_
  rw [pUn_not, pIf_b]
  refine ⟨fun _ => ?_, fun e => ?_⟩
  · rw [pVal_5 rfl rfl rfl rfl rfl]
    exact hR _ zeroT _ 1 (Keeps.refl _) (RT_zero 10 _) (by rw [sz_zero]; omega) (by omega)
  have hok : treeOk n x = true := by simpa using e
  obtain ⟨h5, hw5, hs5⟩ := ok_small h0 hok
  have pack : ∀ {m : Nat} {s : Vw} {ey : List Value} {y : Tr} {k : Int}, Keeps σ s → RT m (Av.get w0 s) ey y → m ≤ 11 → szT m y ≤ 40000000 → (0 ≤ k ∧ k ≤ 7) → AC Tryz.prog w0 n_spec_l1Copy [.agg ⟨ey⟩] s (fun v6 s7 => pVal true 5 v6 (R (.tuple (⟨[.agg (⟨[cellOf v6 0, cellOf v6 1, cellOf v6 2, cellOf v6 3, cellOf v6 4]⟩), .int .i64 k]⟩)) s7)) := fun {m s ey y k} ks hy hm hsz hk => by
    refine spec_l1Copy m hy (fit_of m y (by omega)) fun es' F s' k' o f => ?_
    have ho := (ok_rt w0 m).rel _ _ _ _ o
    have ho11 : RT 11 (Av.get w0 s') es' y := RT_le hm ho
    have hs11 : szT 11 y ≤ 40000000 := by rw [sz_more ho.isT hm]; omega
    obtain ⟨a, b, c, d, e, rfl, hp'⟩ := ho.shape
    rw [hp']
    simp only [cellOf_agg, List.getD_cons_zero, List.getD_cons_succ]
    exact hR _ _ _ k (ks.trans k') ho11 hs11 hk
  refine spec_l2CallOk hc0 ?_
  rw [pUn_not, pIf_b]
  refine ⟨fun _ => pack (Keeps.refl _) h5 (by omega) (by omega) (by omega), fun e => ?_⟩
  have hco : callOk c = true := by simpa using e
  refine spec_l2Do h5 hw5 hs5 hc0 hco hdl fun ey y s k ks hy hsy hk => ?_
  have hy0 := hy
  obtain ⟨b0, b1, b2, b3, b4, rfl, hp2⟩ := hy.shape
  rw [pExtract_s rfl, pExtract_s rfl, hp2]
  simp only [cellOf_agg, List.getD_cons_zero, List.getD_cons_succ]
  exact pack ks hy0 (by omega) hsy hk

/-! ### Picks -/
abbrev ptr (b : Nat) : Value := .pointer (some (Addr.mk b 0 none))
theorem spec_pick {b p n : Nat} (h : RD w0 σ b p) (hp : p ≤ 100000000) (hn : 0 < n ∧ n ≤ 1000000000) {R : Value → Vw → Prop} (hR : ∀ (k : Nat) s, k < n → RD w0 s b (p + 1) → s.del b = σ.del b → (∀ i, i ≠ b → s i = σ i) → R (.int .i64 (k : Nat)) s) : AC Tryz.prog w0 n_p_spec_l1Rd_pick [ptr b, .int .i64 (n : Nat)] σ R := by
  obtain ⟨u, q, ety, cap, bs, h1, h2, h3, h4, h5⟩ := h
  refine ac_p_spec_l1Rd_pick ?_
  unfold vc_p_spec_l1Rd_pick
  refine ⟨_, rfl, field_load (A := []) (C := []) (c := [u, .int .i64 (q : Nat)]) h1 h2 rfl rfl rfl fun g hg => ?_⟩
  rw [hg, pBin_add (by omega)]
  refine ⟨_, rfl, field_store (A := []) (C := []) (c := [u, .int .i64 (q : Nat)]) h2 rfl rfl (by show 1 < 2; omega) rfl ?_⟩
  simp only [List.nil_append, List.append_nil, List.set_cons_zero, List.set_cons_succ]
  generalize hs4 : σ.put b ⟨ety, [u, .int .i64 ((q : Int) + 1)], cap, (0, 0)⟩ = s4
  have hr4 : s4 b = some ⟨ety, [u, .int .i64 ((q : Int) + 1)], cap, (0, 0)⟩ := by rw [← hs4]; exact put_at
  have hd4 : s4.del b = σ.del b := by
    rw [← hs4]; funext i
    by_cases e : i = b
    · subst e; simp [Vw.del]
    · simp [Vw.del, Vw.put, e]
  have ho4 : ∀ i, i ≠ b → s4 i = σ i := fun i hi => by rw [← hs4, put_ne hi]
  have hu4 : RSl 1 RU8 (Av.get w0 s4) u bs := h4.mono (Keeps.le fun i r h => by cases h) fun _ _ h => h
  have hRD : RD w0 s4 b (p + 1) := ⟨u, q + 1, ety, cap, bs, h1, by rw [hr4]; rfl, by omega, h4, h5⟩
  have out : ∀ (k : Nat), k < n → R (.int .i64 (k : Nat)) s4 := fun k hk => hR k s4 hk hRD hd4 ho4
  clear hR hs4
  have ld0 : ∀ {K : (Nat → Value) → Prop}, (∀ g : Nat → Value, g 0 = u → K g) → pNil (ptr b) (pField 0 (ptr b) fun v => pLoad w0 1 v s4 K) := fun hK => ⟨_, rfl, field_load (A := []) (C := []) (c := [u, .int .i64 ((q : Int) + 1)]) h1 hr4 rfl rfl rfl hK⟩
  have ld1 : ∀ {K : (Nat → Value) → Prop}, (∀ g : Nat → Value, g 0 = .int .i64 ((q : Int) + 1) → K g) → pNil (ptr b) (pField 1 (ptr b) fun v => pLoad w0 1 v s4 K) := fun hK => ⟨_, rfl, field_load (A := []) (C := []) (c := [u, .int .i64 ((q : Int) + 1)]) h1 hr4 rfl rfl rfl hK⟩
  rw [pBin_lt, pIf_d]
  refine ⟨fun h => by omega, fun _ => ?_⟩
  refine ld0 fun g hg => ?_
  rw [hg, hu4.len, pBin_eq, pIf_d]
  refine ⟨fun _ => out 0 (by omega), fun hne => ?_⟩
  have hpos : 0 < bs.length := by omega
  refine ld1 fun g hg => ?_
  rw [hg, pBin_sub (by omega), show (q : Int) + 1 - 1 = (q : Nat) by omega]
  refine ld0 fun g hg => ?_
  rw [hg, hu4.len, pBin_lt, pIf_d]
  have byte : ∀ (j : Nat) (x : Nat), bs[j]? = some x → x ≤ 255 := fun j x hj => by
    obtain ⟨_, _, _, _, hh⟩ := h4
    obtain ⟨_, _, _, _, _, hx⟩ := hh j x hj
    exact hx.2
  refine ⟨fun hlt => ?_, fun hge => ?_⟩
  · refine ld0 fun g hg => ?_
    rw [hg]
    have hx := List.getElem?_eq_getElem (show q < bs.length by omega)
    generalize bs[q]'(by omega) = x at hx
    have hxb := byte q x hx
    refine hu4.at hx fun g hg => ?_
    obtain ⟨hg, _⟩ := hg
    simp only [expl, List.cons.injEq, and_true] at hg
    rw [hg, pConv_i64 (by omega), pBin_rem (by omega)]
    have : ((x : Nat) : Int) % ((n : Nat) : Int) = ((x % n : Nat) : Int) := by omega
    rw [this]
    exact out _ (Nat.mod_lt _ (by omega))
  · refine ld0 fun g hg => ?_
    rw [hg]
    refine ld0 fun g hg => ?_
    rw [hg, hu4.len, pBin_rem (by omega), show ((q : Nat) : Int) % ((bs.length : Nat) : Int) = ((q % bs.length : Nat) : Int) by omega]
    have hx := List.getElem?_eq_getElem (Nat.mod_lt q hpos)
    generalize bs[q % bs.length]'(Nat.mod_lt q hpos) = x at hx
    have hxb := byte _ x hx
    refine hu4.at hx fun g hg => ?_
    obtain ⟨hg, _⟩ := hg
    simp only [expl, List.cons.injEq, and_true] at hg
    rw [hg, pConv_i64 (by omega), pBin_mul (by omega)]
    refine ld0 fun g hg => ?_
    rw [hg, pBin_mul (by omega), pBin_add (by omega)]
    refine ld0 fun g hg => ?_
    have hm7 : (((q : Nat) : Int) * 7 + 3) % ((bs.length : Nat) : Int) = (((q * 7 + 3) % bs.length : Nat) : Int) := by
      have := Int.natCast_emod (q * 7 + 3) bs.length
      rw [show (((q * 7 + 3 : Nat)) : Int) = (q : Int) * 7 + 3 by omega] at this
      exact this.symm
    rw [hg, hu4.len, pBin_rem (by omega), hm7]
    have hy := List.getElem?_eq_getElem (Nat.mod_lt (q * 7 + 3) hpos)
    generalize bs[(q * 7 + 3) % bs.length]'(Nat.mod_lt (q * 7 + 3) hpos) = y at hy
    have hyb := byte _ y hy
    refine hu4.at hy fun g hg => ?_
    obtain ⟨hg, _⟩ := hg
    simp only [expl, List.cons.injEq, and_true] at hg
    rw [hg, pConv_i64 (by omega), pBin_mul (by omega), pBin_add (by omega), pBin_mul (by omega), pBin_add (by omega)]
    refine ld0 fun g hg => ?_
    have hq0 : ((q : Nat) : Int) / ((bs.length : Nat) : Int) = ((q / bs.length : Nat) : Int) := by omega
    have hq1 : q / bs.length ≤ q := Nat.div_le_self _ _
    rw [hg, hu4.len, pBin_quo (by omega), hq0]
    clear hq0
    generalize q / bs.length = z at hq1 ⊢
    rw [pBin_mul (by omega), pBin_add (by omega), pBin_quo (by omega)]
    refine pBin_xor (by omega) (by omega) fun c hc => ?_
    rw [pBin_rem (by omega)]
    obtain ⟨m, rfl⟩ : ∃ m : Nat, c = m := ⟨c.toNat, by omega⟩
    rw [show ((m : Nat) : Int) % ((n : Nat) : Int) = ((m % n : Nat) : Int) by omega]
    exact out _ (Nat.mod_lt _ (by omega))

theorem spec_of {b p : Nat} {w : Value} {xs : List ByteArray} (h : RD w0 σ b p) (hp : p ≤ 100000000) (hw : RSl 1 RS (Av.get w0 (σ.del b)) w xs) (hx : 0 < xs.length ∧ xs.length ≤ 1000000000) {R : Value → Vw → Prop} (hR : ∀ (x : ByteArray) s, x ∈ xs → RD w0 s b (p + 1) → s.del b = σ.del b → (∀ i, i ≠ b → s i = σ i) → R (.string x) s) : AC Tryz.prog w0 n_p_spec_l1Rd_of [ptr b, w] σ R := by
  refine ac_p_spec_l1Rd_of ?_
  unfold vc_p_spec_l1Rd_of
  rw [hw.len]
  refine spec_pick h hp hx fun k s hk hrd hd ho => ?_
  have hw' : RSl 1 RS (Av.get w0 s) w xs := hw.mono (by rw [← hd]; exact del_le) fun _ _ h => h
  have hkx := List.getElem?_eq_getElem hk
  refine RSl.at1 hw' hkx fun g hg _ => ?_
  rw [hg]
  exact hR _ s (List.mem_of_getElem? hkx) hrd hd ho
end
end Go.Proofs.YtkbhjejalkbogaaGreat

/- Names, bytes and paths that are drawn. -/
set_option linter.unusedVariables false
set_option linter.unusedSimpArgs false
namespace Go.Proofs.YtkbhjejalkbogaaGreat
open Go Go.Av Go.RowKit

theorem del_put_ne {σ : Vw} {b n : Nat} {r : Row} (h : n ≠ b) : (σ.put n r).del b = (σ.del b).put n r := by
  funext i
  by_cases e : i = b
  · subst e
    have : ¬ i = n := fun e => h e.symm
    simp [Vw.del, Vw.put, this]
  · simp [Vw.del, Vw.put, e]
theorem keeps_out {σ s : Vw} {b : Nat} (k : Keeps (σ.del b) (s.del b)) {i : Nat} {r : Row} (hi : i ≠ b) (h : σ i = some r) : s i = some r := by
  have := k i r (by rw [del_ne hi]; exact h)
  rw [del_ne hi] at this; exact this
theorem none_out {σ s : Vw} {b : Nat} (k : Keeps (σ.del b) (s.del b)) {i : Nat} (hi : i ≠ b) (h : s i = none) : σ i = none := by
  cases hs : σ i with
  | none => rfl
  | some r => rw [keeps_out k hi hs] at h; cases h

section
variable {w0 : World} {σ : Vw}

theorem RD.at {b p : Nat} (h : RD w0 σ b p) : σ b ≠ none := by obtain ⟨u, q, ety, cap, bs, h1, h2, _⟩ := h; rw [h2]; simp
/-- A new row beside the reader. -/
theorem RD.new {b p n : Nat} {r : Row} (h : RD w0 σ b p) (hn : σ n = none) : n ≠ b ∧ RD w0 (σ.put n r) b p ∧ Keeps (σ.del b) ((σ.put n r).del b) := by
  have hne : n ≠ b := fun e => h.at (e ▸ hn)
  have k : Keeps (σ.del b) ((σ.put n r).del b) := by rw [del_put_ne hne]; exact Keeps.put (by rw [del_ne hne]; exact hn)
  exact ⟨hne, h.keep (put_ne fun e => hne e.symm), k⟩
theorem row_strs {s : Vw} {b e c k : Nat} {z : Nat × Nat} {xs : List ByteArray} (hb : w0.heap.size ≤ b) (hr : s b = some ⟨e, xs.map Value.string, c, z⟩) (hx : ∀ x, x ∈ xs → x.size ≤ 9223372036854775807) (hk : xs.length ≤ k ∧ k ≤ 9223372036854775807) : RSl 1 RS (Av.get w0 s) (.slice (some ⟨b, 0, none⟩) xs.length k) xs := by
  refine ⟨some ⟨b, 0, none⟩, k, rfl, hk, fun j x hj => ⟨_, [.string x], rfl, rfl, fun i hi => ?_, rfl, hx x (List.mem_of_getElem? hj)⟩⟩
  have e : i = 0 := by omega
  subst e
  rw [addr_add, get_row hb hr]
  simp only [Nat.mul_one, Nat.add_zero, Nat.zero_add, List.getElem?_map, hj, Option.map_some]
  rfl
/-- One of some texts. -/
theorem of_lit {b p k : Nat} {xs : List ByteArray} (h : RD w0 σ b p) (hp : p ≤ 100000000) (hx : 0 < xs.length ∧ xs.length ≤ 1000) (hsz : ∀ x, x ∈ xs → x.size ≤ 1000000) (hk : xs.length = k) {cells : List Value} (hc : cells = xs.map Value.string) {R : Value → Vw → Prop} (hR : ∀ (x : ByteArray) s, x ∈ xs → RD w0 s b (p + 1) → Keeps (σ.del b) (s.del b) → R (.string x) s) :
    pNew w0 t_string cells σ (fun n0 s1 => AC Tryz.prog w0 n_p_spec_l1Rd_of [ptr b, .slice (some (Addr.mk n0 0 none)) k k] s1 R) := by
  intro n h1 h2
  subst hc hk
  obtain ⟨hne, hrd, kk⟩ := h.new (r := ⟨t_string, xs.map Value.string, (xs.map Value.string).length, (0, 0)⟩) h2
  refine spec_of hrd hp (row_strs h1 (by rw [del_ne hne]; exact put_at) (fun x hx => by have := hsz x hx; omega) (by omega)) (by omega) fun x s hx hrd' hd _ => hR x s hx hrd' (by rw [hd]; exact kk)

theorem spec_l4Name {b p : Nat} (h : RD w0 σ b p) (hp : p ≤ 100000000) {R : Value → Vw → Prop} (hR : ∀ (x : ByteArray) s, x.size ≤ 2 → RD w0 s b (p + 1) → Keeps (σ.del b) (s.del b) → R (.string x) s) : AC Tryz.prog w0 n_spec_l4Name [ptr b] σ R := by
  refine ac_spec_l4Name ?_
  unfold vc_spec_l4Name
  rw [pVal1 rfl, pVal1 rfl, pVal1 rfl, pVal1 rfl, pVal1 rfl]
  have hsz : ∀ x, x ∈ [(⟨#[97]⟩ : ByteArray), ⟨#[98]⟩, ⟨#[99]⟩, ⟨#[100, 49]⟩, ⟨#[101]⟩] → x.size ≤ 2 := by
    intro x hx
    simp at hx
    rcases hx with rfl | rfl | rfl | rfl | rfl <;> decide
  exact of_lit (xs := [(⟨#[97]⟩ : ByteArray), ⟨#[98]⟩, ⟨#[99]⟩, ⟨#[100, 49]⟩, ⟨#[101]⟩]) h hp (by simp) (fun x hx => by have := hsz x hx; omega) rfl rfl fun x s hx hrd k => hR x s (hsz x hx) hrd k

theorem spec_l1Many {s0 : ByteArray} {n : Nat} (hs : s0.size * n ≤ 1000000) (hs0 : s0.size ≤ 1000000) (hn : n ≤ 1000000) {R : Value → Vw → Prop} (hR : ∀ t : ByteArray, t.size ≤ s0.size * n → R (.string t) σ) : AC Tryz.prog w0 n_spec_l1Many [.string s0, .int .i64 (n : Nat)] σ R := by
  refine ac_spec_l1Many ?_
  unfold vc_spec_l1Many
  refine loop_rule (m := n) (fun m l st => ∃ (s out : ByteArray) (k : Nat), st = σ ∧ k ≤ m ∧ k ≤ n ∧ out.size + s.size * k ≤ s0.size * n ∧ l = [.string s, .int .i64 (k : Nat), .string out]) ?_ ⟨s0, ⟨#[]⟩, n, rfl, Nat.le_refl _, Nat.le_refl _, by show 0 + _ ≤ _; omega, rfl⟩
  rintro m l st L ⟨s, out, k, rfl, hk, hkn, hsz, rfl⟩ hL
  simp only [vget, List.getD_cons_zero, List.getD_cons_succ]
  rw [pBin_gt, pIf_d]
  refine ⟨fun hpos => ?_, fun _ => hR out (by omega)⟩
  have h1 : s.size ≤ s.size * k := Nat.le_mul_of_pos_right _ (by omega)
  have h2 : s.size * k = s.size * (k % 2) + 2 * (s.size * (k / 2)) := by
    have : k = k % 2 + 2 * (k / 2) := by omega
    conv => lhs; rw [this, Nat.mul_add]
    rw [Nat.mul_left_comm]
  have h3 : (s ++ s).size * (k / 2) = 2 * (s.size * (k / 2)) := by rw [ByteArray.size_append, ← Nat.two_mul, Nat.mul_assoc]
  have hq : ((k : Nat) : Int) / 2 = ((k / 2 : Nat) : Int) := by omega
  rw [pBin_rem (by omega), pBin_eq, pIf_d]
  refine ⟨fun hodd => ?_, fun heven => ?_⟩
  · have hk1 : k % 2 = 1 := by omega
    rw [hk1, Nat.mul_one] at h2
    rw [pBin_cat (by omega), pBin_cat (by omega), pBin_quo (by omega), hq]
    refine hL _ _ (m - 1) (by omega) ⟨s ++ s, out ++ s, k / 2, rfl, by omega, by omega, ?_, rfl⟩
    rw [h3, ByteArray.size_append]; omega
  · have hk1 : k % 2 = 0 := by omega
    rw [hk1, Nat.mul_zero] at h2
    rw [pBin_cat (by omega), pBin_quo (by omega), hq]
    refine hL _ _ (m - 1) (by omega) ⟨s ++ s, out, k / 2, rfl, by omega, by omega, ?_, rfl⟩
    rw [h3]; omega

theorem spec_l4Data {b p : Nat} (h : RD w0 σ b p) (hp : p ≤ 10000000) {R : Value → Vw → Prop} (hR : ∀ (x : ByteArray) s, x.size ≤ 1000 → RD w0 s b (p + 2) → Keeps (σ.del b) (s.del b) → R (.string x) s) : AC Tryz.prog w0 n_spec_l4Data [ptr b] σ R := by
  refine ac_spec_l4Data ?_
  unfold vc_spec_l4Data
  refine spec_pick (n := 25) h (by omega) (by omega) fun k s hk hrd hd _ => ?_
  have e1 : (⟨#[122]⟩ : ByteArray).size = 1 := rfl
  refine spec_l1Many (s0 := ⟨#[122]⟩) (n := k) (by rw [e1]; omega) (by rw [e1]; omega) (by omega) fun t ht => ?_
  rw [e1] at ht
  rw [pVal1 rfl, pVal1 rfl, pVal1 rfl, pVal1 rfl, pVal1 rfl, pVal1 rfl]
  have hsz : ∀ x, x ∈ [(⟨#[]⟩ : ByteArray), ⟨#[120]⟩, ⟨#[104, 101, 108, 108, 111]⟩, ⟨#[0, 255]⟩, ⟨#[48, 49, 50, 51, 52, 53, 54, 55, 56, 57]⟩, t] → x.size ≤ 24 := by
    intro x hx
    simp at hx
    rcases hx with rfl | rfl | rfl | rfl | rfl | rfl
    · decide
    · decide
    · decide
    · decide
    · decide
    · omega
  refine of_lit (xs := [(⟨#[]⟩ : ByteArray), ⟨#[120]⟩, ⟨#[104, 101, 108, 108, 111]⟩, ⟨#[0, 255]⟩, ⟨#[48, 49, 50, 51, 52, 53, 54, 55, 56, 57]⟩, t]) hrd (by omega) (by simp) (fun x hx => by have := hsz x hx; omega) rfl rfl fun x s' hx hrd' k' => hR x s' (by have := hsz x hx; omega) hrd' (by rw [← hd]; exact k')

theorem spec_l1Open {u : Value} {bs : List Nat} (h : RSl 1 RU8 (Av.get w0 (fun _ => none)) u bs) {R : Value → Vw → Prop} (hR : ∀ b s, RD w0 s b 0 → s.del b = σ → σ b = none → R (ptr b) s) : AC Tryz.prog w0 n_spec_l1Open [u] σ R := by
  refine ac_spec_l1Open ?_
  unfold vc_spec_l1Open
  have go : ∀ (v : Value) (cs : List Nat) (ety : Nat), RSl 1 RU8 (Av.get w0 (fun _ => none)) v cs → cs.length ≤ 2000 → pVal false 1 v (pVal true 2 (.agg (⟨[v, .int .i64 0]⟩)) (pNew w0 ety [v, .int .i64 0] σ (fun n3 s4 => R (.pointer (some (Addr.mk n3 0 none))) s4))) := fun v cs ety hv hl => by
    rw [pVal1 hv.one, pVal_2 hv.one rfl]
    intro n h1 h2
    have hd : (σ.put n ⟨ety, [v, .int .i64 0], 2, (0, 0)⟩).del n = σ := del_put h2
    exact hR n _ ⟨v, 0, ety, 2, cs, h1, put_at, Nat.le_refl _, hv, hl⟩ hd h2
  rw [h.len, pBin_gt, pIf_d]
  refine ⟨fun hgt => ?_, fun hle => go u bs _ h (by omega)⟩
  refine RSl.take (σ := fun _ => none) (j := 2000) h (by omega) fun v' hv' => go v' _ _ hv' (by rw [List.length_take]; omega)
end
end Go.Proofs.YtkbhjejalkbogaaGreat

/- Paths that are drawn in a tree. -/
set_option linter.unusedVariables false
set_option linter.unusedSimpArgs false
namespace Go.Proofs.YtkbhjejalkbogaaGreat
open Go Go.Av Go.RowKit

theorem kid_sz : ∀ {n : Nat} {y k : Tr}, IsT n y → k ∈ kidsOf y → szT n k ≤ szT n y
  | 0, _, _, ⟨_, _, h⟩, _ => h.elim
  | n + 1, .mk d m t ns ks, k, h, hk => by
    have h1 := sz_up (isT_kid h hk)
    have h2 := sumBy_mem (f := szT n) (show k ∈ ks from hk)
    rw [h1]
    show _ ≤ t.size + (ns.length + sumS ns) + (ks.length + sumBy (szT n) ks)
    omega
theorem names_sz {n : Nat} {y : Tr} (h : IsT n y) : (namesOf y).length ≤ szT n y := by
  obtain _ | n := n
  · obtain ⟨_, _, h⟩ := h; exact h.elim
  · obtain ⟨d, m, t, ns, ks⟩ := y
    show ns.length ≤ t.size + (ns.length + sumS ns) + (ks.length + sumBy (szT n) ks)
    omega
theorem kids_sz {n : Nat} {y : Tr} (h : IsT n y) : (kidsOf y).length ≤ szT n y := by
  obtain _ | n := n
  · obtain ⟨_, _, h⟩ := h; exact h.elim
  · obtain ⟨d, m, t, ns, ks⟩ := y
    show ks.length ≤ t.size + (ns.length + sumS ns) + (ks.length + sumBy (szT n) ks)
    omega

section
variable {w0 : World} {σ : Vw}

set_option maxHeartbeats 4000000 in
theorem spec_l4Path {b p n : Nat} {es : List Value} {x : Tr} (h : RD w0 σ b p) (hp : p ≤ 10000000) (ht : RT n (Av.get w0 (σ.del b)) es x) (hsz : szT n x ≤ 1000000000) {R : Value → Vw → Prop} (hR : ∀ (v : Value) (ps : List ByteArray) s, RD w0 s b (p + 20) → Keeps (σ.del b) (s.del b) → RSl 1 RS (Av.get w0 (s.del b)) v ps → (0 < ps.length ∧ ps.length ≤ 4) → R v s) : AC Tryz.prog w0 n_spec_l4Path [ptr b, .agg ⟨es⟩] σ R := by
  have ht0 := ht
  obtain ⟨c0, c1, c2, c3, c4, rfl, hp5⟩ := ht.shape
  refine ac_spec_l4Path ?_
  unfold vc_spec_l4Path
  rw [hp5]
  simp only [cellOf_agg, List.getD_cons_zero, List.getD_cons_succ]
  intro nb h1 h2
  obtain ⟨hne, hrd, kk⟩ := h.new (r := ⟨t_string, [], 0, (0, 0)⟩) h2
  rw [hp5]
  refine loop_rule (m := 4) (fun m l s => ∃ (v : Value) (F : List Nat) (out : List ByteArray) (y : Tr) (d0 d1 d2 d3 d4 : Value) (q : Nat), m + out.length = 4 ∧ RD w0 s b q ∧ q ≤ p + 5 * out.length ∧ Keeps (σ.del b) (s.del b) ∧ OAcc w0 t_string 1 OStr s F v out ∧ (∀ i, i ∈ F → σ i = none ∧ i ≠ b) ∧
      RT n (Av.get w0 (σ.del b)) [d0, d1, d2, d3, d4] y ∧ szT n y ≤ 1000000000 ∧ l = [ptr b, v, d0, d1, d2, d3, d4]) ?_
    ⟨_, [nb], [], x, c0, c1, c2, c3, c4, p, rfl, hrd, by simp, kk, OAcc.new h1, fun i hi => by rw [List.mem_singleton.1 hi]; exact ⟨h2, hne⟩, ht0, hsz, rfl⟩
  rintro m l s L ⟨v, F, out, y, d0, d1, d2, d3, d4, q, hm, hrd, hq, ks, ho, hF, hy, hys, rfl⟩ hL
  simp only [vget, List.getD_cons_zero, List.getD_cons_succ]
  have okS := ok_str w0
  have hlen : ∀ {K : Value → Prop}, pLen v K ↔ K (.int .i64 (out.length : Nat)) := (ho.osl.rel okS).len
  -- what is handed back
  have ret : ∀ {s' : Vw} {v' : Value} {F' : List Nat} {out' : List ByteArray} {q' : Nat}, RD w0 s' b q' → q' ≤ p + 20 → Keeps (σ.del b) (s'.del b) → OAcc w0 t_string 1 OStr s' F' v' out' → (∀ i, i ∈ F' → σ i = none ∧ i ≠ b) → (0 < out'.length ∧ out'.length ≤ 4) → R v' s' := fun {s' v' F' out' q'} hrd' hq' k' ho' hF' hl' => by
    refine hR v' out' s' (hrd'.more hq') k' ?_ hl'
    exact (OSl.frame okS ho'.osl fun i hi => del_ne (hF' i hi).2).rel okS
  rw [hlen, pBin_lt, pIf_d]
  have hy0 := hy
  obtain ⟨uu, ww, hcells, _, _, hnm, hkd, hp5'⟩ := hy.cells
  simp only [List.cons.injEq, and_true] at hcells
  obtain ⟨rfl, rfl, rfl, rfl, rfl⟩ := hcells
  have hn1 := names_sz hy.isT
  have hk1 := kids_sz hy.isT
  have hkB : RSl 5 (RB (RT n) (Av.get w0 (σ.del b))) (Av.get w0 (σ.del b)) d4 (kidsOf y) := hkd.imp fun es x hx => hx
  have mv : ∀ {s' : Vw}, Keeps (s.del b) (s'.del b) → OAcc w0 t_string 1 OStr s' F v out := fun {s'} k => OAcc.frame okS ho fun i hi => by
    cases hs : s i with
    | none => exact absurd hs (ho.dom okS i hi).2
    | some r => exact keeps_out k (hF i hi).2 hs
  obtain ⟨AP, hAP⟩ : ∃ AP : Value → Vw → Prop, AP = fun nmv s' => pVal false 1 nmv ((allOne [nmv]) ∧ (pAppend w0 t_string 1 16 v 1 [nmv] s' (fun v21 s22 => AC Tryz.prog w0 n_spec_l1Find ([.agg (⟨[.bool (isDir y), .int .i64 (modeOf y), .string (dataOf y), d3, d4]⟩), nmv]) s22 (fun v23 s24 => pBin Tryz.prog 3 .lss v23 (.int .i64 0) (fun v25 => pIf v25 (R v21 s24) (pLen d4 (fun v26 => pBin Tryz.prog 3 .geq v23 v26 (fun v27 => pIf v27 (R v21 s24) (pIndexAddr 5 d4 v23 (fun v28 => pLoad w0 5 v28 s24 (fun g29 => pVal true 5 (.agg (⟨[g29 0, g29 1, g29 2, g29 3, g29 4]⟩)) (L [ptr b, v21, g29 0, g29 1, g29 2, g29 3, g29 4] s24)))))))))))) := ⟨_, rfl⟩
  have APP : ∀ (nm : ByteArray) (s' : Vw) (q' : Nat), RD w0 s' b q' → q' ≤ p + 5 * out.length + 5 → Keeps (s.del b) (s'.del b) → out.length < 4 → nm.size ≤ 9223372036854775807 → AP (.string nm) s' := fun nm s' q' hrd' hq' k' hol hnm' => by
    rw [hAP]
    show pVal false 1 (.string nm) _
    rw [pVal1 rfl]
    refine (mv k').one okS (f := []) (y := nm) ⟨rfl, rfl, hnm'⟩ (fun i hi => by cases hi) (by omega) (by omega) fun v2 F2 s2 k2 o2 f2 => ?_
    have hbF : b ∉ F := fun hb => (hF b hb).2 rfl
    have hs2b : s2 b = s' b := by
      cases hb' : s' b with
      | none => exact absurd hb' hrd'.at
      | some r => exact k2 b r hb' hbF
    have ks' := ks.trans k'
    have K2 : Keeps (σ.del b) (s2.del b) := fun i r hi => by
      obtain ⟨e1, e2⟩ := del_some hi
      rw [del_ne e1]
      exact k2 i r (keeps_out ks' e1 e2) fun hi' => by rw [(hF i hi').1] at e2; cases e2
    have hF2 : ∀ i, i ∈ F2 → σ i = none ∧ i ≠ b := fun i hi => by
      rcases f2 i hi with e | e | e
      · exact hF i e
      · cases e
      · have hib : i ≠ b := fun e' => hrd'.at (e' ▸ e)
        exact ⟨none_out ks' hib e, hib⟩
    have hrd2 := hrd'.keep hs2b
    have hleB : Le (Av.get w0 (σ.del b)) (Av.get w0 s2) := (K2.trans del_keeps).le
    obtain ⟨dd, mm, tt, nn, kk'⟩ := y
    have hol2 : (out ++ [nm]).length = out.length + 1 := by simp
    refine spec_Find (mono_rt n _ _ _ _ hleB hy0) ?_
    rw [pBin_lt, pIf_d]
    refine ⟨fun _ => ret hrd2 (by omega) K2 o2 hF2 (by omega), fun hpos => ?_⟩
    rw [hkd.len, pBin_ge, pIf_d]
    refine ⟨fun _ => ret hrd2 (by omega) K2 o2 hF2 (by omega), fun hlt2 => ?_⟩
    obtain ⟨j, hj⟩ : ∃ j : Nat, placeI (nidx nn nm) = (j : Nat) := ⟨(placeI (nidx nn nm)).toNat, by omega⟩
    rw [hj] at hlt2 ⊢
    have hx := List.getElem?_eq_getElem (show j < (kidsOf (.mk dd mm tt nn kk')).length by omega)
    refine (hkB.mono hleB fun _ _ h => h).at hx fun g hg => ?_
    simp only [expl] at hg
    have hg : RT n (Av.get w0 (σ.del b)) [g 0, g 1, g 2, g 3, g 4] _ := hg
    obtain ⟨_, _, _, _, _, _, _, hpg⟩ := hg.five
    rw [hpg]
    refine hL _ _ (m - 1) (by omega) ⟨v2, F2, out ++ [nm], _, g 0, g 1, g 2, g 3, g 4, q', by omega, hrd2, by omega, K2, o2, hF2, hg, ?_, rfl⟩
    have := kid_sz hy0.isT (List.mem_of_getElem? hx)
    omega
  have STEP : ∀ (s' : Vw) (q' : Nat), RD w0 s' b q' → q' ≤ p + 5 * out.length + 1 → Keeps (s.del b) (s'.del b) → out.length < 4 →
      AC Tryz.prog w0 n_spec_l4Name [ptr b] s' (fun v9 s10 => pLen d3 (fun v11 => pBin Tryz.prog 3 .gtr v11 (.int .i64 0) (fun v12 => pIf v12 (AC Tryz.prog w0 n_p_spec_l1Rd_pick [ptr b, .int .i64 4] s10 (fun v13 s14 => pBin Tryz.prog 3 .gtr v13 (.int .i64 0) (fun v15 => pIf v15 (pLen d3 (fun v16 => AC Tryz.prog w0 n_p_spec_l1Rd_pick [ptr b, v16] s14 (fun v17 s18 => pIndexAddr 1 d3 v17 (fun v19 => pLoad w0 1 v19 s18 (fun g20 => AP (g20 0) s18)))))
        (AP v9 s14)))) (AP v9 s10)))) := fun s' q' hrd' hq' k' hol => by
    refine spec_l4Name hrd' (by omega) fun nm s1 hnm1 hrd1 k1 => ?_
    rw [hnm.len, pBin_gt, pIf_d]
    refine ⟨fun hpos => ?_, fun _ => APP nm s1 _ hrd1 (by omega) (k'.trans k1) hol (by omega)⟩
    refine spec_pick (n := 4) hrd1 (by omega) (by omega) fun j s2 hj hrd2 hd2 _ => ?_
    have k2 : Keeps (s1.del b) (s2.del b) := by rw [hd2]; exact Keeps.refl _
    rw [pBin_gt, pIf_d]
    refine ⟨fun _ => ?_, fun _ => APP nm s2 _ hrd2 (by omega) ((k'.trans k1).trans k2) hol (by omega)⟩
    rw [hnm.len]
    refine spec_pick hrd2 (by omega) (by omega) fun j3 s3 hj3 hrd3 hd3 _ => ?_
    have k3 : Keeps (s2.del b) (s3.del b) := by rw [hd3]; exact Keeps.refl _
    have K3 := ((k'.trans k1).trans k2).trans k3
    have hx := List.getElem?_eq_getElem hj3
    refine RSl.at1 (hnm.mono ((ks.trans K3).trans del_keeps).le fun _ _ h => h) hx fun g hg hgs => ?_
    rw [hg]
    exact APP _ s3 _ hrd3 (by omega) K3 hol hgs
  clear APP
  subst hAP
  refine ⟨fun hlt => ?_, fun hge => ret hrd (by omega) ks ho hF (by omega)⟩
  rw [hlen, pBin_eq, pIf_d]
  refine ⟨fun _ => STEP s q hrd (by omega) (Keeps.refl _) (by omega), fun hne0 => ?_⟩
  refine spec_pick (n := 3) hrd (by omega) (by omega) fun j s1 hj hrd1 hd1 _ => ?_
  have k1 : Keeps (s.del b) (s1.del b) := by rw [hd1]; exact Keeps.refl _
  rw [pBin_gt, pIf_d]
  refine ⟨fun _ => STEP s1 _ hrd1 (by omega) k1 (by omega), fun _ => ?_⟩
  exact ret hrd1 (by omega) (ks.trans k1) (mv k1) hF (by omega)
end
end Go.Proofs.YtkbhjejalkbogaaGreat

/- Calls that are drawn: their last turn. -/
set_option linter.unusedVariables false
set_option linter.unusedSimpArgs false
namespace Go.Proofs.YtkbhjejalkbogaaGreat
open Go Go.Av Go.RowKit

section
variable {w0 : World} {σ : Vw}

/-- One of some numbers. -/
theorem int_lit {b p m : Nat} {xs : List Int} (h : RD w0 σ b p) (hp : p ≤ 10000000) (hx : 0 < xs.length ∧ xs.length ≤ 1000) (hm : xs.length = m) {cells : List Value} (hc : cells = xs.map (Value.int .i64)) {ety : Nat} {K : Value → Vw → Prop} (hK : ∀ (x : Int) s, x ∈ xs → RD w0 s b (p + 1) → Keeps (σ.del b) (s.del b) → K (.int .i64 x) s) :
    pNew w0 ety cells σ (fun n s12 => AC Tryz.prog w0 n_p_spec_l1Rd_pick [ptr b, .int .i64 (m : Nat)] s12 (fun v13 s14 => pIndexAddr 1 (.slice (some (Addr.mk n 0 none)) m m) v13 (fun v15 => pLoad w0 1 v15 s14 (fun g16 => K (g16 0) s14)))) := by
  intro n h1 h2
  subst hc hm
  obtain ⟨hne, hrd, kk⟩ := h.new (r := ⟨ety, xs.map (Value.int .i64), (xs.map (Value.int .i64)).length, (0, 0)⟩) h2
  refine spec_pick hrd (by omega) (by omega) fun j s hj hrd' hd ho => ?_
  have hr : s n = some ⟨ety, xs.map (Value.int .i64), (xs.map (Value.int .i64)).length, (0, 0)⟩ := by rw [ho n hne]; exact put_at
  refine ⟨⟨n, 0, none⟩, xs.length, xs.length, .i64, j, rfl, rfl, by omega, by omega, ?_⟩
  refine ⟨_, fun _ => .int .i64 xs[j], rfl, fun i hi => ?_, hK _ s (List.getElem_mem hj) hrd' (by rw [hd]; exact kk)⟩
  have e : i = 0 := by omega
  subst e
  rw [add_add, addr_add, get_row h1 hr]
  simp only [Int.toNat_natCast, Nat.mul_one, Nat.add_zero, Nat.zero_add, List.getElem?_map, List.getElem?_eq_getElem hj, Option.map_some]

/-- What a drawn call is. -/
abbrev OutC (w0 : World) (σ : Vw) (b p : Nat) (R : Value → Vw → Prop) : Prop := ∀ cs (c : Cl) s, RD w0 s b p → Keeps (σ.del b) (s.del b) → RCl (Av.get w0 (s.del b)) cs c → c.2.2.2.2.size ≤ 1000 → R (.agg ⟨cs⟩) s
/-- A copy of a path in a row of our own. -/
theorem path_more' {b q n : Nat} {v : Value} {ps : List ByteArray} (h : RD w0 σ b q) (hv : RSl 1 RS (Av.get w0 (σ.del b)) v ps) (hl : ps.length ≤ 1000) (h1 : w0.heap.size ≤ n) (h2 : σ n = none) {K : Value → Vw → Prop} (hK : ∀ v' F s, RD w0 s b q → Keeps (σ.del b) (s.del b) → OAcc w0 t_string 1 OStr s F v' ps → (∀ i, i ∈ F → σ i = none ∧ i ≠ b) → K v' s) :
    pAppendS w0 t_string 1 16 (.slice (some (Addr.mk n 0 none)) 0 0) v (σ.put n ⟨t_string, [], 0, (0, 0)⟩) K := by
  obtain ⟨hne, hrd, kk⟩ := h.new (r := ⟨t_string, [], 0, (0, 0)⟩) h2
  refine (OAcc.new (w0 := w0) (σ := σ) (ety := t_string) (n := 1) (O := OStr) h1).all (ok_str w0) hv (kk.trans del_keeps).le (fun es y hy => ⟨rfl, hy⟩) (by simp; omega) (by omega) fun u' F1 s1 k1 o1 g1 => ?_
  rw [List.nil_append] at o1
  have hb1 : s1 b = (σ.put n ⟨t_string, [], 0, (0, 0)⟩) b := by
    cases hb : (σ.put n ⟨t_string, [], 0, (0, 0)⟩ : Vw) b with
    | none => exact absurd hb hrd.at
    | some r => exact k1 b r hb (fun e => hne (List.mem_singleton.1 e).symm)
  have K1 : Keeps (σ.del b) (s1.del b) := fun i r hi => by
    obtain ⟨e1, e2⟩ := del_some hi
    rw [del_ne e1]
    exact k1 i r (keeps_out kk e1 e2) fun hi' => by rw [List.mem_singleton.1 hi', h2] at e2; cases e2
  refine hK u' F1 s1 (hrd.keep hb1) K1 o1 fun i hi => ?_
  rcases g1 i hi with e | e
  · rw [List.mem_singleton.1 e]; exact ⟨h2, hne⟩
  · have hib : i ≠ b := fun e' => hrd.at (e' ▸ e)
    exact ⟨none_out kk hib e, hib⟩
theorem path_more {b q : Nat} {v : Value} {ps : List ByteArray} (h : RD w0 σ b q) (hv : RSl 1 RS (Av.get w0 (σ.del b)) v ps) (hl : ps.length ≤ 1000) {K : Value → Vw → Prop} (hK : ∀ v' F s, RD w0 s b q → Keeps (σ.del b) (s.del b) → OAcc w0 t_string 1 OStr s F v' ps → (∀ i, i ∈ F → σ i = none ∧ i ≠ b) → K v' s) :
    pNew w0 t_string [] σ (fun n21 s22 => pAppendS w0 t_string 1 16 (.slice (some (Addr.mk n21 0 none)) 0 0) v s22 K) := fun n h1 h2 => path_more' h hv hl h1 h2 hK
/-- A name is added to it. -/
theorem path_add {b q : Nat} {σ1 : Vw} {v : Value} {F : List Nat} {ps : List ByteArray} {nm : ByteArray} (h : RD w0 σ b q) (k0 : Keeps (σ1.del b) (σ.del b)) (ho : OAcc w0 t_string 1 OStr σ F v ps) (hF : ∀ i, i ∈ F → σ1 i = none ∧ i ≠ b) (hl : ps.length ≤ 1000) (hn : nm.size ≤ 1000000) {K : Value → Vw → Prop} (hK : ∀ v' s, RD w0 s b q → Keeps (σ1.del b) (s.del b) → RSl 1 RS (Av.get w0 (s.del b)) v' (ps ++ [nm]) → K v' s) :
    pVal false 1 (.string nm) (allOne [.string nm] ∧ pAppend w0 t_string 1 16 v 1 [.string nm] σ (fun v29 s30 => pVal false 1 v29 (K v29 s30))) := by
  rw [pVal1 rfl]
  refine ho.one (ok_str w0) (f := []) (y := nm) ⟨rfl, rfl, by omega⟩ (fun i hi => by cases hi) (by omega) (by omega) fun v2 F2 s2 k2 o2 f2 => ?_
  rw [pVal1 (OSl.one' o2.osl)]
  have hs2b : s2 b = σ b := by
    cases hb' : σ b with
    | none => exact absurd hb' h.at
    | some r => exact k2 b r hb' fun hb => (hF b hb).2 rfl
  have K2 : Keeps (σ1.del b) (s2.del b) := fun i r hi => by
    obtain ⟨e1, e2⟩ := del_some hi
    rw [del_ne e1]
    exact k2 i r (keeps_out k0 e1 e2) fun hi' => by rw [(hF i hi').1] at e2; cases e2
  have hF2 : ∀ i, i ∈ F2 → i ≠ b := fun i hi => by
    rcases f2 i hi with e | e | e
    · exact (hF i e).2
    · cases e
    · exact fun e' => h.at (e' ▸ e)
  exact hK v2 s2 (h.keep hs2b) K2 ((OSl.frame (ok_str w0) o2.osl fun i hi => del_ne (hF2 i hi)).rel (ok_str w0))

/-- The last turn of a drawn call. -/
theorem call_tail {b q : Nat} {k a : Int} {pv w : Value} {ps ts : List ByteArray} {d : ByteArray} (h : RD w0 σ b q) (hq : q ≤ 5000000) (hk : i64r k) (hv : RSl 1 RS (Av.get w0 (σ.del b)) pv ps) (hpl : ps.length ≤ 100) (hw : RSl 1 RS (Av.get w0 (σ.del b)) w ts) (ha : i64r a) (hdl : d.size ≤ 1000) {R : Value → Vw → Prop} (hR : OutC w0 σ b (q + 3) R) :
    AC Tryz.prog w0 n_p_spec_l1Rd_pick [ptr b, .int .i64 40] σ (fun v8 s9 => pBin Tryz.prog 3 .eql v8 (.int .i64 0) (fun v10 => pIf v10 (pVal false 1 (.int .i64 0) (pVal false 1 (.int .i64 7) (pVal false 1 (.int .i64 (-1)) (pNew w0 t_int [.int .i64 0, .int .i64 7, .int .i64 (-1)] s9 (fun n11 s12 => AC Tryz.prog w0 n_p_spec_l1Rd_pick [ptr b, .int .i64 3] s12 (fun v13 s14 => pIndexAddr 1 (.slice (some (Addr.mk n11 0 none)) 3 3) v13 (fun v15 => pLoad w0 1 v15 s14 (fun g16 => pVal false 1 (g16 0) (pVal true 5 (.agg (⟨[g16 0, pv, w, .int .i64 a, .string d]⟩)) (R (.agg (⟨[g16 0, pv, w, .int .i64 a, .string d]⟩)) s14)))))))))) (pBin Tryz.prog 3 .eql v8 (.int .i64 1) (fun v17 => pIf v17 (pNew w0 t_string [] s9 (fun n18 s19 => pVal false 1 (.slice (some (Addr.mk n18 0 none)) 0 0) (pVal true 5 (.agg (⟨[.int .i64 k, .slice (some (Addr.mk n18 0 none)) 0 0, w, .int .i64 a, .string d]⟩)) (R (.agg (⟨[.int .i64 k, .slice (some (Addr.mk n18 0 none)) 0 0, w, .int .i64 a, .string d]⟩)) s19)))) (pBin Tryz.prog 3 .eql v8 (.int .i64 2) (fun v20 => pIf v20 (pNew w0 t_string [] s9 (fun n21 s22 => pAppendS w0 t_string 1 16 (.slice (some (Addr.mk n21 0 none)) 0 0) pv s22 (fun v23 s24 => pVal false 1 (.string ({ data := #[] })) (pVal false 1 (.string ({ data := #[65] })) (pVal false 1 (.string ({ data := #[116, 111, 111, 108, 111, 110, 103] })) (pVal false 1 (.string ({ data := #[120] })) (pVal false 1 (.string ({ data := #[121] })) (pNew w0 t_string ([.string ({ data := #[] }), .string ({ data := #[65] }), .string ({ data := #[116, 111, 111, 108, 111, 110, 103] }), .string ({ data := #[120] }), .string ({ data := #[121] })]) s24 (fun n25 s26 => AC Tryz.prog w0 n_p_spec_l1Rd_of [ptr b, .slice (some (Addr.mk n25 0 none)) 5 5] s26 (fun v27 s28 => pVal false 1 v27 ((allOne [v27]) ∧ (pAppend w0 t_string 1 16 v23 1 [v27] s28 (fun v29 s30 => pVal false 1 v29 (pVal true 5 (.agg (⟨[.int .i64 k, v29, w, .int .i64 a, .string d]⟩)) (R (.agg (⟨[.int .i64 k, v29, w, .int .i64 a, .string d]⟩)) s30))))))))))))))) (pBin Tryz.prog 3 .eql v8 (.int .i64 3) (fun pv1 => pIf pv1 (pVal false 1 (.int .i64 (-1)) (pVal false 1 (.int .i64 8) (pVal false 1 (.int .i64 24) (pVal false 1 (.int .i64 25) (pNew w0 t_int [.int .i64 (-1), .int .i64 8, .int .i64 24, .int .i64 25] s9 (fun n32 s33 => AC Tryz.prog w0 n_p_spec_l1Rd_pick [ptr b, .int .i64 4] s33 (fun pv4 s35 => pIndexAddr 1 (.slice (some (Addr.mk n32 0 none)) 4 4) pv4 (fun pv6 => pLoad w0 1 pv6 s35 (fun g37 => pVal false 1 (g37 0) (pVal true 5 (.agg (⟨[.int .i64 k, pv, w, g37 0, .string d]⟩)) (R (.agg (⟨[.int .i64 k, pv, w, g37 0, .string d]⟩)) s35))))))))))) (pBin Tryz.prog 3 .eql v8 (.int .i64 4) (fun pv8 => pIf pv8 (AC Tryz.prog w0 n_p_spec_l1Rd_pick [ptr b, .int .i64 2] s9 (fun pv9 s40 => pBin Tryz.prog 3 .add (.int .i64 24) pv9 (fun v41 => AC Tryz.prog w0 n_spec_l1Many ([.string ({ data := #[113] }), v41]) s40 (fun v42 s43 => pVal false 1 v42 (pVal true 5 (.agg (⟨[.int .i64 k, pv, w, .int .i64 a, v42]⟩)) (R (.agg (⟨[.int .i64 k, pv, w, .int .i64 a, v42]⟩)) s43)))))) (pVal true 5 (.agg (⟨[.int .i64 k, pv, w, .int .i64 a, .string d]⟩)) (R (.agg (⟨[.int .i64 k, pv, w, .int .i64 a, .string d]⟩)) s9)))))))))))) := by
  have fin : ∀ (s : Vw) (k' a' : Int) (v' : Value) (ps' : List ByteArray) (d' : ByteArray) (q' : Nat), RD w0 s b q' → q' ≤ q + 3 → Keeps (σ.del b) (s.del b) → RSl 1 RS (Av.get w0 (s.del b)) v' ps' → i64r k' → i64r a' → d'.size ≤ 1000 → pVal true 5 (.agg (⟨[.int .i64 k', v', w, .int .i64 a', .string d']⟩)) (R (.agg (⟨[.int .i64 k', v', w, .int .i64 a', .string d']⟩)) s) := fun s k' a' v' ps' d' q' hrd hq' ks hv' hk' ha' hd' => by
    have hw' := hw.mono ks.le fun _ _ h => h
    rw [pVal_5 rfl hv'.one hw'.one rfl rfl]
    exact hR _ (k', ps', ts, a', d') s (hrd.more hq') ks ⟨v', w, rfl, hv', hw', hk', ha', by show d'.size ≤ _; omega⟩ hd'
  refine spec_pick (n := 40) h (by omega) (by omega) fun j s9 hj hrd9 hd9 ho9 => ?_
  have k9 : Keeps (σ.del b) (s9.del b) := by rw [hd9]; exact Keeps.refl _
  have hv9 := hv.mono k9.le fun _ _ h => h
  rw [pBin_eq, pIf_d]
  refine ⟨fun _ => ?_, fun _ => ?_⟩
  · rw [pVal1 rfl, pVal1 rfl, pVal1 rfl]
    refine int_lit (xs := [0, 7, -1]) hrd9 (by omega) (by simp) rfl rfl (K := fun x s => pVal false 1 x (pVal true 5 (.agg (⟨[x, pv, w, .int .i64 a, .string d]⟩)) (R (.agg (⟨[x, pv, w, .int .i64 a, .string d]⟩)) s))) fun x s hx hrd ks => ?_
    rw [pVal1 rfl]
    have hx : i64r x := by simp at hx; rcases hx with rfl | rfl | rfl <;> omega
    exact fin s x a pv ps d _ hrd (by omega) (k9.trans ks) (hv9.mono ks.le fun _ _ h => h) hx ha hdl
  rw [pBin_eq, pIf_d]
  refine ⟨fun _ => ?_, fun _ => ?_⟩
  · intro n h1 h2
    obtain ⟨hne, hrd, kk⟩ := hrd9.new (r := ⟨t_string, [], 0, (0, 0)⟩) h2
    rw [pVal1 rfl]
    refine fin _ k a _ [] d _ hrd (by omega) (k9.trans kk) ?_ hk ha hdl
    exact ⟨_, 0, rfl, by simp, fun j x h => by simp at h⟩
  rw [pBin_eq, pIf_d]
  refine ⟨fun _ => ?_, fun _ => ?_⟩
  · refine path_more hrd9 hv9 (by omega) fun v' F s hrd ks ho hF => ?_
    rw [pVal1 rfl, pVal1 rfl, pVal1 rfl, pVal1 rfl, pVal1 rfl]
    have hsz : ∀ x, x ∈ [(⟨#[]⟩ : ByteArray), ⟨#[65]⟩, ⟨#[116, 111, 111, 108, 111, 110, 103]⟩, ⟨#[120]⟩, ⟨#[121]⟩] → x.size ≤ 7 := by
      intro x hx
      simp at hx
      rcases hx with rfl | rfl | rfl | rfl | rfl <;> decide
    refine of_lit (xs := [(⟨#[]⟩ : ByteArray), ⟨#[65]⟩, ⟨#[116, 111, 111, 108, 111, 110, 103]⟩, ⟨#[120]⟩, ⟨#[121]⟩]) hrd (by omega) (by simp) (fun x hx => by have := hsz x hx; omega) rfl rfl fun x s2 hx hrd2 k2 => ?_
    have hxs := hsz x hx
    have ho2 : OAcc w0 t_string 1 OStr s2 F v' ps := OAcc.frame (ok_str w0) ho fun i hi => by
      cases hs : s i with
      | none => exact absurd hs (ho.dom (ok_str w0) i hi).2
      | some r => exact keeps_out k2 (hF i hi).2 hs
    refine path_add (σ1 := s9) hrd2 (ks.trans k2) ho2 hF (by omega) (by omega) fun v3 s3 hrd3 k3 hv3 => ?_
    exact fin s3 k a v3 _ d _ hrd3 (by omega) (k9.trans k3) hv3 hk ha hdl
  rw [pBin_eq, pIf_d]
  refine ⟨fun _ => ?_, fun _ => ?_⟩
  · rw [pVal1 rfl, pVal1 rfl, pVal1 rfl, pVal1 rfl]
    refine int_lit (xs := [-1, 8, 24, 25]) hrd9 (by omega) (by simp) rfl rfl (K := fun x s => pVal false 1 x (pVal true 5 (.agg (⟨[.int .i64 k, pv, w, x, .string d]⟩)) (R (.agg (⟨[.int .i64 k, pv, w, x, .string d]⟩)) s))) fun x s hx hrd ks => ?_
    rw [pVal1 rfl]
    have hx : i64r x := by simp at hx; rcases hx with rfl | rfl | rfl | rfl <;> omega
    exact fin s k x pv ps d _ hrd (by omega) (k9.trans ks) (hv9.mono ks.le fun _ _ h => h) hk hx hdl
  rw [pBin_eq, pIf_d]
  refine ⟨fun _ => ?_, fun _ => fin s9 k a pv ps d _ hrd9 (by omega) k9 hv9 hk ha hdl⟩
  refine spec_pick (n := 2) hrd9 (by omega) (by omega) fun j2 s4 hj2 hrd4 hd4 _ => ?_
  have k4 : Keeps (s9.del b) (s4.del b) := by rw [hd4]; exact Keeps.refl _
  rw [pBin_add (by omega), show (24 : Int) + (j2 : Nat) = ((24 + j2 : Nat) : Int) by omega]
  have e1 : (⟨#[113]⟩ : ByteArray).size = 1 := rfl
  refine spec_l1Many (s0 := ⟨#[113]⟩) (n := 24 + j2) (by rw [e1]; omega) (by rw [e1]; omega) (by omega) fun t ht => ?_
  rw [e1] at ht
  rw [pVal1 rfl]
  exact fin s4 k a pv ps t _ hrd4 (by omega) (k9.trans k4) (hv9.mono k4.le fun _ _ h => h) hk ha (by omega)
end
end Go.Proofs.YtkbhjejalkbogaaGreat

/- Calls that are drawn; calls done one behind another. -/
set_option linter.unusedVariables false
set_option linter.unusedSimpArgs false
namespace Go.Proofs.YtkbhjejalkbogaaGreat
open Go Go.Av Go.RowKit

section
variable {w0 : World} {σ : Vw}

theorem OutC.from {b p q : Nat} {s : Vw} {R : Value → Vw → Prop} (hR : OutC w0 σ b p R) (k : Keeps (σ.del b) (s.del b)) (hq : q ≤ p) : OutC w0 s b q R := fun cs c s' h1 h2 h3 h4 => hR cs c s' (h1.more hq) (k.trans h2) h3 h4
theorem nil_strs {rd : Addr → Option Value} : RSl 1 RS rd (.slice none 0 0) [] := ⟨none, 0, rfl, by simp, fun j x h => by simp at h⟩

set_option maxRecDepth 40000 in
set_option maxHeartbeats 16000000 in
theorem spec_l4Call {b p n : Nat} {es : List Value} {x : Tr} (h : RD w0 σ b p) (hp : p ≤ 1000000) (ht : RT n (Av.get w0 (σ.del b)) es x) (hsz : szT n x ≤ 1000000000) {R : Value → Vw → Prop} (hR : OutC w0 σ b (p + 60) R) : AC Tryz.prog w0 n_spec_l4Call [ptr b, .agg ⟨es⟩] σ R := by
  have ht0 := ht
  obtain ⟨c0, c1, c2, c3, c4, rfl, hp5⟩ := ht.shape
  refine ac_spec_l4Call ?_
  unfold vc_spec_l4Call
  rw [hp5]
  simp only [cellOf_agg, List.getD_cons_zero, List.getD_cons_succ]
  refine spec_pick (n := 6) h (by omega) (by omega) fun j s1 hj hrd1 hd1 _ => ?_
  have k1 : Keeps (σ.del b) (s1.del b) := by rw [hd1]; exact Keeps.refl _
  rw [pBin_add (by omega), show (1 : Int) + (j : Nat) = ((1 + j : Nat) : Int) by omega]
  refine spec_l4Path hrd1 (by omega) (mono_rt n _ _ _ _ k1.le ht0) hsz fun v3 ps s4 hrd4 k4 hv hpl => ?_
  have K4 := k1.trans k4
  have ht4 := mono_rt n _ _ _ _ K4.le ht0
  rw [pVal1 rfl, pVal1 hv.one, pVal_5 rfl hv.one rfl rfl rfl]
  generalize hkk : ((1 + j : Nat) : Int) = kk
  have hk : i64r kk := by omega
  have hn4 : RSl 1 RS (Av.get w0 (s4.del b)) (.slice none 0 0) [] := nil_strs
  have e0 : (⟨#[]⟩ : ByteArray).size ≤ 1000 := by decide
  have R4 := OutC.from hR K4 (q := p + 1 + 20 + 3) (by omega)
  refine pBin_eq.2 (pIf_d.2 ⟨fun hyes => ?_, fun hno => ?_⟩)
  · skip
    refine pIf_d.2 ⟨fun _ => ?_, fun hc => absurd hyes hc⟩
    refine spec_pick (n := 8) hrd4 (by omega) (by omega) fun j2 s5 hj2 hrd5 hd5 _ => ?_
    have k5 : Keeps (s4.del b) (s5.del b) := by rw [hd5]; exact Keeps.refl _
    rw [pVal1 rfl]
    exact call_tail hrd5 (by omega) hk (hv.mono k5.le fun _ _ h => h) (by omega) nil_strs (by omega) e0 (OutC.from hR (K4.trans k5) (by omega))
  · skip
    refine pBin_eq.2 (pIf_d.2 ⟨fun hyes => ?_, fun hno => ?_⟩)
    · skip
      refine spec_pick (n := 8) hrd4 (by omega) (by omega) fun j2 s5 hj2 hrd5 hd5 _ => ?_
      have k5 : Keeps (s4.del b) (s5.del b) := by rw [hd5]; exact Keeps.refl _
      rw [pVal1 rfl]
      exact call_tail hrd5 (by omega) hk (hv.mono k5.le fun _ _ h => h) (by omega) nil_strs (by omega) e0 (OutC.from hR (K4.trans k5) (by omega))
    · skip
      refine pBin_eq.2 (pIf_d.2 ⟨fun hyes => ?_, fun hno => ?_⟩)
      · skip
        refine pIf_d.2 ⟨fun _ => ?_, fun hc => absurd hyes hc⟩
        refine spec_pick (n := 4) hrd4 (by omega) (by omega) fun j2 s5 hj2 hrd5 hd5 _ => ?_
        have k5 : Keeps (s4.del b) (s5.del b) := by rw [hd5]; exact Keeps.refl _
        refine spec_pick (n := 4) hrd5 (by omega) (by omega) fun j3 s6 hj3 hrd6 hd6 _ => ?_
        have k6 : Keeps (s5.del b) (s6.del b) := by rw [hd6]; exact Keeps.refl _
        have hmul : j2 * j3 ≤ 3 * 3 := Nat.mul_le_mul (by omega) (by omega)
        have hcast : ((j2 : Nat) : Int) * ((j3 : Nat) : Int) = ((j2 * j3 : Nat) : Int) := (Int.natCast_mul _ _).symm
        rw [pBin_mul (by rw [hcast]; omega), hcast]
        generalize j2 * j3 = jj at hmul
        rw [pVal1 rfl, pBin_eq, pIf_d]
        refine ⟨fun _ => ?_, fun _ => call_tail hrd6 (by omega) hk (hv.mono (k5.trans k6).le fun _ _ h => h) (by omega) nil_strs (by omega) e0 (OutC.from hR (K4.trans (k5.trans k6)) (by omega))⟩
        refine spec_l4Data hrd6 (by omega) fun dt s7 hdt hrd7 k7 => ?_
        rw [pVal1 rfl]
        exact call_tail hrd7 (by omega) hk (hv.mono ((k5.trans k6).trans k7).le fun _ _ h => h) (by omega) nil_strs (by omega) hdt (OutC.from hR (K4.trans ((k5.trans k6).trans k7)) (by omega))
      · skip
        refine pBin_eq.2 (pIf_d.2 ⟨fun hyes => ?_, fun hno => ?_⟩)
        · skip
          refine spec_pick (n := 4) hrd4 (by omega) (by omega) fun j2 s5 hj2 hrd5 hd5 _ => ?_
          have k5 : Keeps (s4.del b) (s5.del b) := by rw [hd5]; exact Keeps.refl _
          refine spec_pick (n := 4) hrd5 (by omega) (by omega) fun j3 s6 hj3 hrd6 hd6 _ => ?_
          have k6 : Keeps (s5.del b) (s6.del b) := by rw [hd6]; exact Keeps.refl _
          have hmul : j2 * j3 ≤ 3 * 3 := Nat.mul_le_mul (by omega) (by omega)
          have hcast : ((j2 : Nat) : Int) * ((j3 : Nat) : Int) = ((j2 * j3 : Nat) : Int) := (Int.natCast_mul _ _).symm
          rw [pBin_mul (by rw [hcast]; omega), hcast]
          generalize j2 * j3 = jj at hmul
          rw [pVal1 rfl, pBin_eq, pIf_d]
          refine ⟨fun _ => ?_, fun _ => call_tail hrd6 (by omega) hk (hv.mono (k5.trans k6).le fun _ _ h => h) (by omega) nil_strs (by omega) e0 (OutC.from hR (K4.trans (k5.trans k6)) (by omega))⟩
          refine spec_l4Data hrd6 (by omega) fun dt s7 hdt hrd7 k7 => ?_
          rw [pVal1 rfl]
          exact call_tail hrd7 (by omega) hk (hv.mono ((k5.trans k6).trans k7).le fun _ _ h => h) (by omega) nil_strs (by omega) hdt (OutC.from hR (K4.trans ((k5.trans k6).trans k7)) (by omega))
        · skip
          refine pBin_eq.2 (pIf_d.2 ⟨fun hyes => ?_, fun hno => ?_⟩)
          · skip
            refine spec_l4Path hrd4 (by omega) ht4 hsz fun v5 qs s5 hrd5 k5 hv5 hql => ?_
            have hv3 := hv.mono k5.le fun _ _ h => h
            rw [pVal1 hv5.one]
            refine spec_pick (n := 2) hrd5 (by omega) (by omega) fun j2 s6 hj2 hrd6 hd6 _ => ?_
            have k6 : Keeps (s5.del b) (s6.del b) := by rw [hd6]; exact Keeps.refl _
            rw [pBin_eq, pIf_d]
            refine ⟨fun _ => ?_, fun _ => call_tail hrd6 (by omega) hk (hv3.mono k6.le fun _ _ h => h) (by omega) (hv5.mono k6.le fun _ _ h => h) (by omega) e0 (OutC.from hR (K4.trans (k5.trans k6)) (by omega))⟩
            intro n1 h1 h2
            rw [hv5.len, pBin_sub (by omega), show ((qs.length : Nat) : Int) - 1 = ((qs.length - 1 : Nat) : Int) by omega]
            refine RSl.take (hv5.mono k6.le fun _ _ h => h) (by omega) fun v7 hv7 => ?_
            refine path_more' hrd6 hv7 (by rw [List.length_take]; omega) h1 h2 fun v8 F s8 hrd8 k8 ho8 hF8 => ?_
            refine spec_l4Name hrd8 (by omega) fun nm s9 hnm hrd9 k9 => ?_
            have ho9 : OAcc w0 t_string 1 OStr s9 F v8 (qs.take (qs.length - 1)) := OAcc.frame (ok_str w0) ho8 fun i hi => by
              cases hs : s8 i with
              | none => exact absurd hs (ho8.dom (ok_str w0) i hi).2
              | some r => exact keeps_out k9 (hF8 i hi).2 hs
            refine path_add (σ1 := s6) hrd9 (k8.trans k9) ho9 hF8 (by rw [List.length_take]; omega) (by omega) fun v9 s10 hrd10 k10 hv10 => ?_
            exact call_tail hrd10 (by omega) hk ((hv3.mono k6.le fun _ _ h => h).mono k10.le fun _ _ h => h) (by omega) hv10 (by omega) e0 (OutC.from hR (K4.trans ((k5.trans k6).trans k10)) (by omega))
          · skip
            exact call_tail hrd4 (by omega) hk hv (by omega) hn4 (by omega) e0 R4
end
end Go.Proofs.YtkbhjejalkbogaaGreat

/- Calls done one behind another; trees that are drawn. -/
set_option linter.unusedVariables false
set_option linter.unusedSimpArgs false
set_option maxRecDepth 20000
namespace Go.Proofs.YtkbhjejalkbogaaGreat
open Go Go.Av Go.RowKit

section
variable {w0 : World} {σ : Vw}

theorem keeps_del {s : Vw} {b : Nat} (k : Keeps σ s) : Keeps (σ.del b) (s.del b) := fun i r hi => by
  obtain ⟨e1, e2⟩ := del_some hi
  rw [del_ne e1]; exact k i r e2
theorem RD.kept {b p : Nat} {s : Vw} (h : RD w0 σ b p) (k : Keeps σ s) : RD w0 s b p := by
  refine h.keep ?_
  cases hb : σ b with
  | none => exact absurd hb h.at
  | some r => exact k b r hb
/-- What a drawn tree is. -/
abbrev OutTR (w0 : World) (σ : Vw) (b p N S : Nat) (R : Value → Vw → Prop) : Prop := ∀ es y s, RD w0 s b p → Keeps (σ.del b) (s.del b) → RT N (Av.get w0 (s.del b)) es y → szT N y ≤ S → R (.agg ⟨es⟩) s
theorem TreeDo_rd {b p n : Nat} {es cs : List Value} {x : Tr} {c : Cl} (h : RD w0 σ b p) (ht : RT n (Av.get w0 (σ.del b)) es x) (hs : szT n x ≤ 1000000000) (hc : RCl (Av.get w0 (σ.del b)) cs c) (hdl : c.2.2.2.2.size ≤ 1000000) {R : Value → Vw → Prop}
    (hR : ∀ ey y s k, Keeps (σ.del b) (s.del b) → RD w0 s b p → RT 11 (Av.get w0 (s.del b)) ey y → szT 11 y ≤ 40000000 → (0 ≤ k ∧ k ≤ 7) → R (.tuple ⟨[.agg ⟨ey⟩, .int .i64 k]⟩) s) : AC Tryz.prog w0 n_spec_TreeDo [.agg ⟨es⟩, .agg ⟨cs⟩] σ R :=
  h.hide (R := fun v s => Keeps (σ.del b) s ∧ ∃ ey y k, v = .tuple ⟨[.agg ⟨ey⟩, .int .i64 k]⟩ ∧ RT 11 (Av.get w0 s) ey y ∧ szT 11 y ≤ 40000000 ∧ (0 ≤ k ∧ k ≤ 7))
    (spec_TreeDo ht hs hc hdl fun ey y s k k1 r1 r2 r3 => ⟨k1, ey, y, k, rfl, r1, r2, r3⟩)
    (fun v s k hrd ⟨_, ey, y, c, e, r1, r2, r3⟩ => by subst e; exact hR ey y s c k hrd r1 r2 r3) fun v s h => h.1

theorem spec_l4Calls {b p N S k : Nat} {es : List Value} {x : Tr} (h : RD w0 σ b p) (hp : p + 60 * k ≤ 900000) (hk : k ≤ 100) (hN : 11 ≤ N) (hS : 40000000 ≤ S ∧ S ≤ 900000000) (ht : RT N (Av.get w0 (σ.del b)) es x) (hs : szT N x ≤ S) {R : Value → Vw → Prop} (hR : OutTR w0 σ b (p + 60 * k) N S R) : AC Tryz.prog w0 n_spec_l4Calls [ptr b, .agg ⟨es⟩, .int .i64 (k : Nat)] σ R := by
  have ht0 := ht
  obtain ⟨c0, c1, c2, c3, c4, rfl, hp5⟩ := ht.shape
  refine ac_spec_l4Calls ?_
  unfold vc_spec_l4Calls
  rw [hp5]
  simp only [cellOf_agg, List.getD_cons_zero, List.getD_cons_succ]
  refine loop_rule (m := k) (fun m l s => ∃ (i q : Nat) (d0 d1 d2 d3 d4 : Value) (y : Tr), m = i ∧ i ≤ k ∧ q + 60 * i ≤ p + 60 * k ∧ RD w0 s b q ∧ Keeps (σ.del b) (s.del b) ∧ RT N (Av.get w0 (s.del b)) [d0, d1, d2, d3, d4] y ∧ szT N y ≤ S ∧
      l = [ptr b, .int .i64 (i : Nat), d0, d1, d2, d3, d4, .bool false, .int .i64 0, .string ⟨#[]⟩, .slice none 0 0, .slice none 0 0]) ?_
    ⟨k, p, c0, c1, c2, c3, c4, x, rfl, Nat.le_refl _, Nat.le_refl _, h, Keeps.refl _, ht0, hs, rfl⟩
  rintro m l s L ⟨i, q, d0, d1, d2, d3, d4, y, rfl, hi, hq, hrd, ks, hy, hys, rfl⟩ hL
  simp only [vget, List.getD_cons_zero, List.getD_cons_succ]
  rw [pBin_gt, pIf_d]
  have hy0 := hy
  have e5 := hy.shape
  have hp6 : ∀ A : Prop, pVal true 5 (.agg ⟨[d0, d1, d2, d3, d4]⟩) A ↔ A := by
    obtain ⟨_, _, _, _, _, e, hh⟩ := hy.shape
    cases e; exact hh
  refine ⟨fun hpos => ?_, fun _ => ?_⟩
  · refine spec_l4Call hrd (by omega) hy0 (by omega) fun cs c s1 hrd1 k1 hc hcs => ?_
    refine TreeDo_rd hrd1 (mono_rt _ _ _ _ _ k1.le hy0) (by omega) hc (by omega) fun ey z s2 cd k2 hrd2 hz hzs hcd => ?_
    have hz0 := hz
    obtain ⟨f0, f1, f2, f3, f4, rfl, hp7⟩ := hz.shape
    rw [pExtract_s rfl, pExtract_s rfl, hp7, pBin_eq, pIf_d]
    simp only [cellOf_agg, List.getD_cons_zero, List.getD_cons_succ]
    have hzN : RT N (Av.get w0 (s2.del b)) [f0, f1, f2, f3, f4] z := RT_le hN hz0
    have hzsN : szT N z ≤ S := by rw [sz_more hz0.isT hN]; omega
    refine ⟨fun _ => ?_, fun _ => ?_⟩
    · rw [hp7, pBin_sub (by omega)]
      exact hL _ _ (m - 1) (by omega) ⟨m - 1, q + 60, f0, f1, f2, f3, f4, z, rfl, by omega, by omega, hrd2, (ks.trans k1).trans k2, hzN, hzsN, by rw [show ((m : Nat) : Int) - 1 = ((m - 1 : Nat) : Int) by omega]⟩
    · rw [pBin_sub (by omega)]
      exact hL _ _ (m - 1) (by omega) ⟨m - 1, q + 60, d0, d1, d2, d3, d4, y, rfl, by omega, by omega, hrd2, (ks.trans k1).trans k2, mono_rt _ _ _ _ _ (k1.trans k2).le hy0, hys, by rw [show ((m : Nat) : Int) - 1 = ((m - 1 : Nat) : Int) by omega]⟩
  · show pVal true 5 (.agg ⟨[d0, d1, d2, d3, d4]⟩) _
    rw [hp6]
    exact hR _ y s (hrd.more (by omega)) ks hy0 hys

theorem i64_zero : i64r 0 := by omega
theorem i64_two : i64r 2 := by omega
theorem sz_dir0 {n : Nat} {m : Int} : szT n (.mk true m ⟨#[]⟩ [] []) = 0 := by
  cases n with
  | zero => rfl
  | succ n => rfl
theorem RT_dir0 (n : Nat) (rd : Addr → Option Value) {m : Int} (hm : -9223372036854775808 ≤ m ∧ m ≤ 9223372036854775807) : RT (n + 1) rd [.bool true, .int .i64 m, .string ⟨#[]⟩, .slice none 0 0, .slice none 0 0] (.mk true m ⟨#[]⟩ [] []) :=
  ⟨_, _, rfl, hm, by show 0 ≤ _; omega, ⟨none, 0, rfl, by simp, fun j x h => by simp at h⟩, ⟨none, 0, rfl, by simp, fun j x h => by simp at h⟩⟩

set_option maxHeartbeats 4000000 in
theorem spec_l4Tree {b p : Nat} (h : RD w0 σ b p) (hp : p ≤ 800000) {R : Value → Vw → Prop} (hR : OutTR w0 σ b (p + 700) 11 40000000 R) : AC Tryz.prog w0 n_spec_l4Tree [ptr b] σ R := by
  refine ac_spec_l4Tree ?_
  unfold vc_spec_l4Tree
  refine spec_pick (n := 8) h (by omega) (by omega) fun j s1 hj hrd1 hd1 _ => ?_
  have k1 : Keeps (σ.del b) (s1.del b) := by rw [hd1]; exact Keeps.refl _
  refine spec_pick (n := 2) hrd1 (by omega) (by omega) fun j2 s2 hj2 hrd2 hd2 _ => ?_
  have k2 : Keeps (s1.del b) (s2.del b) := by rw [hd2]; exact Keeps.refl _
  have hmul : j * j2 ≤ 7 * 1 := Nat.mul_le_mul (by omega) (by omega)
  have hcast : ((j : Nat) : Int) * ((j2 : Nat) : Int) = ((j * j2 : Nat) : Int) := (Int.natCast_mul _ _).symm
  rw [pBin_mul (by rw [hcast]; omega), hcast, pVal1 rfl, pVal1 rfl, pVal_5 rfl rfl rfl rfl rfl]
  generalize j * j2 = jj at hmul
  refine spec_pick (n := 12) hrd2 (by omega) (by omega) fun k s3 hk hrd3 hd3 _ => ?_
  have k3 : Keeps (s2.del b) (s3.del b) := by rw [hd3]; exact Keeps.refl _
  have K3 := (k1.trans k2).trans k3
  refine loop_rule (m := k) (fun m l s => ∃ (i q : Nat) (d0 d1 d2 d3 d4 : Value) (y : Tr), m = i ∧ i ≤ k ∧ q + 25 * i ≤ p + 3 + 25 * k ∧ RD w0 s b q ∧ Keeps (σ.del b) (s.del b) ∧ RT 11 (Av.get w0 (s.del b)) [d0, d1, d2, d3, d4] y ∧ szT 11 y ≤ 40000000 ∧
      l = [ptr b, .int .i64 (i : Nat), .bool false, .int .i64 0, .string ⟨#[]⟩, .slice none 0 0, .slice none 0 0, d0, d1, d2, d3, d4]) ?_
    ⟨k, p + 1 + 1 + 1, _, _, _, _, _, _, rfl, Nat.le_refl _, by omega, hrd3, K3, RT_dir0 10 _ (m := ((jj : Nat) : Int)) (by omega), by rw [sz_dir0]; omega, rfl⟩
  rintro m l s L ⟨i, q, d0, d1, d2, d3, d4, y, rfl, hi, hq, hrd, ks, hy, hys, rfl⟩ hL
  simp only [vget, List.getD_cons_zero, List.getD_cons_succ]
  have hy0 := hy
  have hp6 : ∀ A : Prop, pVal true 5 (.agg ⟨[d0, d1, d2, d3, d4]⟩) A ↔ A := by
    obtain ⟨_, _, _, _, _, e, hh⟩ := hy.shape
    cases e; exact hh
  rw [pBin_gt, pIf_d]
  refine ⟨fun hpos => ?_, fun _ => ?_⟩
  · refine spec_pick (n := 2) hrd (by omega) (by omega) fun j3 s4 hj3 hrd4 hd4 _ => ?_
    have k4 : Keeps (s.del b) (s4.del b) := by rw [hd4]; exact Keeps.refl _
    rw [pBin_add (by omega), show (1 : Int) + (j3 : Nat) = ((1 + j3 : Nat) : Int) by omega]
    refine spec_l4Path hrd4 (by omega) (mono_rt _ _ _ _ _ k4.le hy0) (by omega) fun pv ps s5 hrd5 k5 hv hpl => ?_
    rw [pVal1 rfl, pVal1 hv.one, pVal_5 rfl hv.one rfl rfl rfl]
    have K5 := (ks.trans k4).trans k5
    -- a call that is done
    have DO : ∀ (s6 : Vw) (q6 : Nat) (d : ByteArray), RD w0 s6 b q6 → q6 + 25 * (m - 1) ≤ p + 3 + 25 * k → Keeps (s5.del b) (s6.del b) → d.size ≤ 1000 →
        AC Tryz.prog w0 n_spec_TreeDo ([.agg (⟨[d0, d1, d2, d3, d4]⟩), .agg (⟨[.int .i64 ((1 + j3 : Nat) : Int), pv, .slice none 0 0, .int .i64 0, .string d]⟩)]) s6 (fun v19 s20 => pExtract v19 0 (fun v21 => pExtract v19 1 (fun v22 => pVal true 5 v21 (pBin Tryz.prog 3 .eql v22 (.int .i64 0) (fun v23 => pIf v23 (pVal true 5 (.agg (⟨[cellOf v21 0, cellOf v21 1, cellOf v21 2, cellOf v21 3, cellOf v21 4]⟩)) (pBin Tryz.prog 3 .sub (.int .i64 (m : Nat)) (.int .i64 1) (fun v24 => L [ptr b, v24, .bool false, .int .i64 0, .string ⟨#[]⟩, .slice none 0 0, .slice none 0 0, cellOf v21 0, cellOf v21 1, cellOf v21 2, cellOf v21 3, cellOf v21 4] s20))) (pBin Tryz.prog 3 .sub (.int .i64 (m : Nat)) (.int .i64 1) (fun v25 => L [ptr b, v25, .bool false, .int .i64 0, .string ⟨#[]⟩, .slice none 0 0, .slice none 0 0, d0, d1, d2, d3, d4] s20))))))) := by
      intro s6 q6 d hrd6 hq6 k6 hd
      have kk := (k4.trans k5).trans k6
      refine TreeDo_rd hrd6 (mono_rt _ _ _ _ _ kk.le hy0) (by omega) (c := (((1 + j3 : Nat) : Int), ps, [], 0, d)) ⟨pv, _, rfl, hv.mono k6.le fun _ _ h => h, nil_strs, by show i64r _; omega, i64_zero, by show d.size ≤ _; omega⟩ (by show d.size ≤ _; omega) fun ey z s7 cd k7 hrd7 hz hzs hcd => ?_
      have hz0 := hz
      obtain ⟨f0, f1, f2, f3, f4, rfl, hp7⟩ := hz.shape
      rw [pExtract_s rfl, pExtract_s rfl, hp7, pBin_eq, pIf_d]
      simp only [cellOf_agg, List.getD_cons_zero, List.getD_cons_succ]
      refine ⟨fun _ => ?_, fun _ => ?_⟩
      · rw [hp7, pBin_sub (by omega)]
        exact hL _ _ (m - 1) (by omega) ⟨m - 1, q6, f0, f1, f2, f3, f4, z, rfl, by omega, by omega, hrd7, (ks.trans kk).trans k7, hz0, by omega, by rw [show ((m : Nat) : Int) - 1 = ((m - 1 : Nat) : Int) by omega]⟩
      · rw [pBin_sub (by omega)]
        exact hL _ _ (m - 1) (by omega) ⟨m - 1, q6, d0, d1, d2, d3, d4, y, rfl, by omega, by omega, hrd7, (ks.trans kk).trans k7, mono_rt _ _ _ _ _ (kk.trans k7).le hy0, hys, by rw [show ((m : Nat) : Int) - 1 = ((m - 1 : Nat) : Int) by omega]⟩
    rw [pBin_eq, pIf_d]
    refine ⟨fun _ => ?_, fun _ => DO s5 _ ⟨#[]⟩ hrd5 (by omega) (Keeps.refl _) (by decide)⟩
    refine spec_l4Data hrd5 (by omega) fun d s6 hd hrd6 k6 => ?_
    rw [pVal1 rfl]
    exact DO s6 _ d hrd6 (by omega) k6 hd
  · show AC Tryz.prog w0 n_p_spec_l1Rd_pick [ptr b, .int .i64 6] s _
    refine spec_pick (n := 6) hrd (by omega) (by omega) fun j4 s4 hj4 hrd4 hd4 _ => ?_
    have k4 : Keeps (s.del b) (s4.del b) := by rw [hd4]; exact Keeps.refl _
    refine spec_l4Calls hrd4 (by omega) (by omega) (Nat.le_refl _) (S := 40000000) (by omega) (mono_rt _ _ _ _ _ k4.le hy0) hys fun ey z s5 hrd5 k5 hz hzs => ?_
    have hz0 := hz
    obtain ⟨f0, f1, f2, f3, f4, rfl, hp7⟩ := hz.shape
    rw [hp7]
    simp only [cellOf_agg, List.getD_cons_zero, List.getD_cons_succ]
    exact hR _ z s5 (hrd5.more (by omega)) ((ks.trans k4).trans k5) hz0 hzs

theorem spec_l4Full {b p : Nat} (h : RD w0 σ b p) (hp : p ≤ 800000) {R : Value → Vw → Prop} (hR : OutTR w0 σ b (p + 700) 11 40000000 R) : AC Tryz.prog w0 n_spec_l4Full [ptr b] σ R := by
  refine ac_spec_l4Full ?_
  unfold vc_spec_l4Full
  rw [pVal1 rfl, pVal_5 rfl rfl rfl rfl rfl]
  refine loop_rule (m := 30) (fun m l s => ∃ (i q : Nat) (d0 d1 d2 d3 d4 : Value) (y : Tr), m + i = 30 ∧ q ≤ p + i ∧ RD w0 s b q ∧ Keeps (σ.del b) (s.del b) ∧ RT 11 (Av.get w0 (s.del b)) [d0, d1, d2, d3, d4] y ∧ szT 11 y ≤ 40000000 ∧
      l = [ptr b, .int .i64 (i : Nat), .bool false, .int .i64 0, .string ⟨#[]⟩, .slice none 0 0, .slice none 0 0, d0, d1, d2, d3, d4]) ?_
    ⟨0, p, _, _, _, _, _, _, rfl, by omega, h, Keeps.refl _, RT_dir0 10 _ (m := 0) (by omega), by rw [sz_dir0]; omega, rfl⟩
  rintro m l s L ⟨i, q, d0, d1, d2, d3, d4, y, hmi, hq, hrd, ks, hy, hys, rfl⟩ hL
  simp only [vget, List.getD_cons_zero, List.getD_cons_succ]
  have hy0 := hy
  have hp6 : ∀ A : Prop, pVal true 5 (.agg ⟨[d0, d1, d2, d3, d4]⟩) A ↔ A := by
    obtain ⟨_, _, _, _, _, e, hh⟩ := hy.shape
    cases e; exact hh
  refine spec_pick (n := 3) hrd (by omega) (by omega) fun j s1 hj hrd1 hd1 _ => ?_
  have k1 : Keeps (s.del b) (s1.del b) := by rw [hd1]; exact Keeps.refl _
  rw [pBin_sub (by omega), pBin_lt, pIf_d]
  refine ⟨fun hlt => ?_, fun _ => ?_⟩
  · rw [pBin_add (by omega), show (100 : Int) + (i : Nat) = ((100 + i : Nat) : Int) by omega]
    refine spec_l1Dec (by omega) fun s2 k2 => ?_
    have hrd2 := hrd1.kept k2
    have hz10 := decZ_nat (100 + i)
    have hsz := (decN_size (100 + i)).2
    rw [pBin_cat (by rw [hz10]; show 1 + _ ≤ _; omega), pVal1 rfl]
    intro n h1 h2
    obtain ⟨hne, hrd3, kk⟩ := hrd2.new (r := ⟨t_string, [.string (⟨#[102]⟩ ++ decZ ((100 + i : Nat) : Int))], 1, (0, 0)⟩) h2
    rw [pVal1 rfl, pVal1 rfl]
    have hrow := row_strs (xs := [⟨#[102]⟩ ++ decZ ((100 + i : Nat) : Int)]) (k := 1) (s := (s2.put n ⟨t_string, [.string (⟨#[102]⟩ ++ decZ ((100 + i : Nat) : Int))], 1, (0, 0)⟩).del b) h1 (by rw [del_ne hne]; exact put_at) (fun x hx => by
      rw [List.mem_singleton.1 hx, ByteArray.size_append, hz10]; show 1 + _ ≤ _; omega) (by simp)
    have K3 := (k1.trans (keeps_del k2)).trans kk
    refine TreeDo_rd hrd3 (mono_rt _ _ _ _ _ K3.le hy0) (by omega) (c := (2, [⟨#[102]⟩ ++ decZ ((100 + i : Nat) : Int)], [], 0, ⟨#[]⟩)) ⟨_, _, rfl, hrow, nil_strs, i64_two, i64_zero, by show 0 ≤ _; omega⟩ (by show 0 ≤ _; omega) fun ey z s7 cd k7 hrd7 hz hzs hcd => ?_
    have hz0 := hz
    obtain ⟨f0, f1, f2, f3, f4, rfl, hp7⟩ := hz.shape
    rw [pExtract_s rfl, pExtract_s rfl, hp7]
    simp only [cellOf_agg, List.getD_cons_zero, List.getD_cons_succ]
    rw [pBin_add (by omega)]
    exact hL _ _ (m - 1) (by omega) ⟨i + 1, q + 1, f0, f1, f2, f3, f4, z, by omega, by omega, hrd7, (ks.trans K3).trans k7, hz0, by omega, by simp⟩
  · show pVal true 5 (.agg ⟨[d0, d1, d2, d3, d4]⟩) _
    rw [hp6]
    exact hR _ y s1 (hrd1.more (by omega)) (ks.trans k1) (mono_rt _ _ _ _ _ k1.le hy0) hys
end
end Go.Proofs.YtkbhjejalkbogaaGreat

/- A tree that is drawn and spoilt: a copy in rows of our own that is written. -/
set_option linter.unusedVariables false
set_option linter.unusedSimpArgs false
set_option maxRecDepth 20000
namespace Go.Av
open Go Go.RowKit
/-- A view without some rows. -/
def Vw.delF (σ : Vw) (F : List Nat) : Vw := fun i => if i ∈ F then none else σ i
theorem delF_in {σ : Vw} {F : List Nat} {i : Nat} (h : i ∈ F) : (σ.delF F) i = none := by simp [Vw.delF, h]
theorem delF_out {σ : Vw} {F : List Nat} {i : Nat} (h : i ∉ F) : (σ.delF F) i = σ i := by simp [Vw.delF, h]
theorem delF_keeps {σ : Vw} {F : List Nat} : Keeps (σ.delF F) σ := fun i r h => by
  by_cases hi : i ∈ F
  · rw [delF_in hi] at h; cases h
  · rw [delF_out hi] at h; exact h
theorem delF_some {σ : Vw} {F : List Nat} {i : Nat} {r : Row} (h : (σ.delF F) i = some r) : i ∉ F ∧ σ i = some r := by
  by_cases hi : i ∈ F
  · rw [delF_in hi] at h; cases h
  · rw [delF_out hi] at h; exact ⟨hi, h⟩
section
variable {w0 : World} {σ : Vw} {α : Type}
/-- Elements in rows of their own are read where they lie. -/
theorem OAcc.to_base {ety n : Nat} {Rel : (Addr → Option Value) → List Value → α → Prop} {O : Vw → List Nat → List Value → α → Prop} (ok : OOk w0 n Rel O) {F D : List Nat} {v : Value} {xs : List α} (h : OAcc w0 ety n O σ F v xs) (hD : ∀ i, i ∈ F → i ∉ D) :
    ∃ F2, (∀ i, i ∈ F2 → i ∈ F) ∧ OAcc w0 ety n (OB Rel (Av.get w0 (σ.delF (D ++ F2)))) σ F2 v xs := by
  obtain ⟨h1, h2, ⟨rfl, rfl, rfl⟩ | ⟨b, cap, css, Fs, g1, g2, g3, g4, g5, g6, g7, g8⟩⟩ := h
  · exact ⟨[], fun i h => h, OAcc.nil⟩
  · subst g7
    refine ⟨[b], fun i h => by rw [List.mem_singleton.1 h]; exact List.mem_cons_self, h1, by simp, .inr ⟨b, cap, css, List.replicate xs.length [], g1, g2, g3, g4, g5, by simp, by simp, fun j c x f e1 e2 e3 => ?_⟩⟩
    rw [List.getElem?_replicate] at e3
    split at e3
    · cases e3
      refine ⟨rfl, ?_⟩
      have hjl : j < Fs.length := by have := (List.getElem?_eq_some_iff.1 e2).1; omega
      have e4 := List.getElem?_eq_getElem hjl
      have hO := g8 j c x _ e1 e2 e4
      have hmem : ∀ i, i ∈ Fs[j] → i ∈ Fs.flatten := fun i hi => List.mem_flatten.2 ⟨_, List.getElem_mem hjl, hi⟩
      refine ok.rel _ _ _ _ (ok.frame _ (σ.delF (D ++ [b])) _ _ _ hO fun i hi => delF_out fun hi' => ?_)
      have hif := hmem i hi
      rcases List.mem_append.1 hi' with e | e
      · exact hD i (List.mem_cons_of_mem _ hif) e
      · rw [List.mem_singleton.1 e] at hif
        exact (List.nodup_cons.1 h2).1 hif
    · cases e3
theorem pIndexAddr_mono {n : Nat} {v i : Value} {K K' : Value → Prop} (h : pIndexAddr n v i K) (hK : ∀ p, K p → K' p) : pIndexAddr n v i K' := by
  obtain ⟨a, len, cap, k, m, h1, h2, h3, h4, h5⟩ := h
  exact ⟨a, len, cap, k, m, h1, h2, h3, h4, hK _ h5⟩
end
end Go.Av
namespace Go.Proofs.YtkbhjejalkbogaaGreat
open Go Go.Av Go.RowKit

section
variable {w0 : World} {σ : Vw}

theorem spec_l1CopyA {n : Nat} {es : List Value} {d : Bool} {md : Int} {t : ByteArray} {ns : List ByteArray} {ks : List Tr} {R : Value → Vw → Prop} (h : RT (n + 1) (Av.get w0 σ) es (.mk d md t ns ks)) (hf : fitT (n + 1) (.mk d md t ns ks))
    (hR : ∀ u w F1 F2 s, Keeps σ s → OAcc w0 t_string 1 OStr s F1 u ns → OAcc w0 t_impl_Tree 5 (OT w0 n) s F2 w ks → (∀ i, i ∈ F1 → σ i = none) → (∀ i, i ∈ F2 → σ i = none) → (∀ i, i ∈ F1 → i ∉ F2) → R (.agg ⟨[.bool d, .int .i64 md, .string t, u, w]⟩) s) : AC Tryz.prog w0 n_spec_l1Copy [.agg ⟨es⟩] σ R := by
  obtain ⟨u, w, rfl, h2, h3, h4, h5⟩ := h
  obtain ⟨f1, f2, f3⟩ := hf
  refine ac_spec_l1Copy ?_
  unfold vc_spec_l1Copy
  rw [pVal_5 rfl rfl rfl h4.one h5.one]
  simp only [cellOf_agg, List.getD_cons_zero, List.getD_cons_succ]
  intro b hb1 hb2
  have kb : Keeps σ (σ.put b ⟨t_string, [], 0, (0, 0)⟩) := Keeps.put hb2
  have hb0 : ∀ i, i ∈ [b] → σ i = none := fun i hi => by rw [List.mem_singleton.1 hi]; exact hb2
  refine (OAcc.new (w0 := w0) (σ := σ) (ety := t_string) (n := 1) (O := OStr) hb1).all (ok_str w0) h4 kb.le (fun es y hy => ⟨rfl, hy⟩) (by simpa using f1) (by omega) fun u' F1 s1 k1 o1 g1 => ?_
  have K1 := k1.old kb hb0
  have hF1 := fresh_in kb hb0 g1
  rw [List.nil_append] at o1
  have hl5 := h5.le
  rw [pVal1 rfl, pVal1 rfl, pVal1 rfl, pVal1 (OSl.one' o1.osl), pVal_5 rfl rfl rfl (OSl.one' o1.osl) rfl]
  refine loop_rule (m := ks.length) (fun m l s => ∃ (j : Nat) (v' : Value) (F2 : List Nat), m + j = ks.length ∧ Keeps σ s ∧ OAcc w0 t_string 1 OStr s F1 u' ns ∧ OAcc w0 t_impl_Tree 5 (OT w0 n) s F2 v' (ks.take j) ∧ (∀ i, i ∈ F2 → σ i = none) ∧ (∀ i, i ∈ F1 → i ∉ F2) ∧
      l = [.int .i64 (j : Nat), .bool d, .int .i64 md, .string t, u, w, .bool false, .int .i64 0, .string ⟨#[]⟩, .slice none 0 0, .slice none 0 0, .bool d, .int .i64 md, .string t, u', v']) ?_
    ⟨0, _, [], by omega, K1, o1, OAcc.nil, by simp, by simp, rfl⟩
  rintro m l s L ⟨j, v', F2, hm, ks', p1, p2, hF2, hd, rfl⟩ hL
  simp only [vget, List.getD_cons_zero, List.getD_cons_succ]
  have h5' := h5.mono ks'.le fun es x => mono_rt n _ _ es x ks'.le
  rw [h5'.len, pBin_lt, pIf_d]
  refine ⟨fun hi => ?_, fun hi => ?_⟩
  · have hx := List.getElem?_eq_getElem (show j < ks.length by omega)
    generalize hxi : ks[j]'(by omega) = y at hx
    refine h5'.at hx fun g hg => ?_
    refine spec_l1Copy n hg (f3 y (List.mem_of_getElem? hx)) fun es3 F3 s3 k3 o3 g3 => ?_
    obtain ⟨a, b', c, d', e, rfl, _, hpv⟩ := RT.five ((ok_rt w0 n).rel _ _ _ _ o3)
    rw [hpv]
    simp only [cellOf_agg, List.getD_cons_zero, List.getD_cons_succ]
    have p2' := p2.frame (ok_rt w0 n) (k3.but_at fun b hb => (p2.dom (ok_rt w0 n) b hb).2)
    have p1' := p1.frame (ok_str w0) (k3.but_at fun b hb => (p1.dom (ok_str w0) b hb).2)
    refine p2'.one (ok_rt w0 n) o3 (fun i hi hi' => (p2.dom (ok_rt w0 n) i hi').2 (g3 i hi)) (by rw [List.length_take]; omega) (by omega) fun v4 F4 s4 k4 o4 g4 => ?_
    rw [pVal1 (OSl.one' o4.osl), pBin_add (by omega)]
    have K3 := ks'.trans k3
    have hF3 : ∀ i, i ∈ F3 → σ i = none := fun i hi => none_at ks' (g3 i hi)
    refine hL _ _ (m - 1) (by omega) ⟨j + 1, v4, F4, by omega, k4.old K3 hF2, p1'.frame (ok_str w0) (k4.at (fun i hi => (p1'.dom (ok_str w0) i hi).2) hd), ?_, fun i hi => ?_, fun i hi hi' => ?_, rfl⟩
    · rw [List.take_add_one, hx]; exact o4
    · rcases g4 i hi with h | h | h
      · exact hF2 i h
      · exact hF3 i h
      · exact none_at K3 h
    · rcases g4 i hi' with h | h | h
      · exact hd i hi h
      · exact (p1.dom (ok_str w0) i hi).2 (g3 i h)
      · exact (p1'.dom (ok_str w0) i hi).2 h
  · have e : j = ks.length := by omega
    subst e
    rw [List.take_length] at p2
    rw [pVal_5 rfl rfl rfl (OSl.one' p1.osl) (OSl.one' p2.osl)]
    exact hR u' v' F1 F2 s ks' p1 p2 hF1 hF2 hd

/-- A tree in rows of our own, beside a reader. -/
def SP (w0 : World) (σ : Vw) (b q N : Nat) (s : Vw) (u w : Value) (ns : List ByteArray) (ks : List Tr) : Prop := ∃ F1 F2, RD w0 s b q ∧ Keeps (σ.del b) (s.del b) ∧ (∀ i, i ∈ F1 → (σ.del b) i = none ∧ i ≠ b) ∧ (∀ i, i ∈ F2 → (σ.del b) i = none ∧ i ≠ b) ∧ (∀ i, i ∈ F1 → i ∉ F2) ∧
  OAcc w0 t_string 1 OStr s F1 u ns ∧ OAcc w0 t_impl_Tree 5 (OB (RT N) (Av.get w0 (s.delF (b :: (F1 ++ F2))))) s F2 w ks
theorem SP.next {b q q' N : Nat} {s s' : Vw} {u w : Value} {ns : List ByteArray} {ks : List Tr} (h : SP w0 σ b q N s u w ns ks) (hrd : RD w0 s' b q') (k : Keeps (s.del b) (s'.del b)) : SP w0 σ b q' N s' u w ns ks := by
  obtain ⟨F1, F2, h1, h2, h3, h4, h5, h6, h7⟩ := h
  have okB := ok_base (rok_rt N) w0 (Av.get w0 (s.delF (b :: (F1 ++ F2))))
  have kp : ∀ i, i ≠ b → s i ≠ none → s' i = s i := fun i hi hn => by
    cases hs : s i with
    | none => exact absurd hs hn
    | some r => exact keeps_out k hi hs
  refine ⟨F1, F2, hrd, h2.trans k, h3, h4, h5, h6.frame (ok_str w0) fun i hi => kp i (h3 i hi).2 (h6.dom (ok_str w0) i hi).2, ?_⟩
  refine OAcc.rebase (rok_rt N) (OAcc.frame okB h7 fun i hi => kp i (h4 i hi).2 (h7.dom okB i hi).2) (Keeps.le fun i r hi => ?_)
  obtain ⟨e1, e2⟩ := delF_some hi
  rw [delF_out e1]
  exact keeps_out k (fun e => e1 (by rw [e]; exact List.mem_cons_self)) e2
theorem SP.rd {b q N : Nat} {s : Vw} {u w : Value} {ns : List ByteArray} {ks : List Tr} (h : SP w0 σ b q N s u w ns ks) : RD w0 s b q := by obtain ⟨F1, F2, h1, _⟩ := h; exact h1
theorem SP.keeps {b q N : Nat} {s : Vw} {u w : Value} {ns : List ByteArray} {ks : List Tr} (h : SP w0 σ b q N s u w ns ks) : Keeps (σ.del b) (s.del b) := by obtain ⟨F1, F2, h1, h2, _⟩ := h; exact h2
/-- It is a tree. -/
theorem SP.tree {b q N : Nat} {s : Vw} {u w : Value} {ns : List ByteArray} {ks : List Tr} (h : SP w0 σ b q N s u w ns ks) {d : Bool} {m : Int} {t : ByteArray} (hm : -9223372036854775808 ≤ m ∧ m ≤ 9223372036854775807) (ht : t.size ≤ 9223372036854775807) :
    RT (N + 1) (Av.get w0 (s.del b)) [.bool d, .int .i64 m, .string t, u, w] (.mk d m t ns ks) := by
  obtain ⟨F1, F2, h1, h2, h3, h4, h5, h6, h7⟩ := h
  have okB := ok_base (rok_rt N) w0 (Av.get w0 (s.delF (b :: (F1 ++ F2))))
  refine ⟨u, w, rfl, hm, ht, (h6.frame (σ' := s.del b) (ok_str w0) fun i hi => del_ne (h3 i hi).2).osl.rel (ok_str w0), ?_⟩
  refine RSl.unbase (rok_rt N) ((OAcc.osl (OAcc.frame (σ' := s.del b) okB h7 fun i hi => del_ne (h4 i hi).2)).rel okB) (Keeps.le fun i r hi => ?_)
  obtain ⟨e1, e2⟩ := delF_some hi
  rw [del_ne fun e => e1 (by rw [e]; exact List.mem_cons_self)]; exact e2
theorem SP.ones {b q N : Nat} {s : Vw} {u w : Value} {ns : List ByteArray} {ks : List Tr} (h : SP w0 σ b q N s u w ns ks) : u.oneCell' = true ∧ w.oneCell' = true := by
  obtain ⟨F1, F2, h1, h2, h3, h4, h5, h6, h7⟩ := h
  exact ⟨OSl.one' h6.osl, OSl.one' h7.osl⟩
/-- A name and an empty part are added. -/
theorem SP.name {b q N : Nat} {s : Vw} {u w : Value} {ns : List ByteArray} {ks : List Tr} (h : SP w0 σ b q N s u w ns ks) {nm : ByteArray} (hn : nm.size ≤ 1000000) (hl : ns.length ≤ 100000000000) {K : Value → Vw → Prop}
    (hK : ∀ u' s', SP w0 σ b q N s' u' w (ns ++ [nm]) ks → K u' s') : allOne [.string nm] ∧ pAppend w0 t_string 1 16 u 1 [.string nm] s K := by
  obtain ⟨F1, F2, h1, h2, h3, h4, h5, h6, h7⟩ := h
  have okB := ok_base (rok_rt N) w0 (Av.get w0 (s.delF (b :: (F1 ++ F2))))
  refine h6.one (ok_str w0) (f := []) (y := nm) ⟨rfl, rfl, by omega⟩ (fun i hi => by cases hi) (by omega) (by omega) fun u' F1' s' k o f => ?_
  have hbF : b ∉ F1 := fun hb => (h3 b hb).2 rfl
  have hsb : s' b = s b := by
    cases hb : s b with
    | none => exact absurd hb h1.at
    | some r => exact k b r hb hbF
  have hsk : Keeps (σ.del b) (s'.del b) := fun i r hi => by
    obtain ⟨e1, e2⟩ := del_some hi
    have e3 := h2 i r hi
    rw [del_ne e1] at e3 ⊢
    exact k i r e3 fun hf => by rw [(h3 i hf).1] at hi; cases hi
  have hF1' : ∀ i, i ∈ F1' → (σ.del b) i = none ∧ i ≠ b := fun i hi => by
    rcases f i hi with e | e | e
    · exact h3 i e
    · cases e
    · have hib : i ≠ b := fun e' => h1.at (e' ▸ e)
      refine ⟨?_, hib⟩
      rw [del_ne hib]; exact none_out h2 hib e
  refine hK u' s' ⟨F1', F2, h1.keep hsb, hsk, hF1', h4, fun i hi hi' => ?_, o, ?_⟩
  · rcases f i hi with e | e | e
    · exact h5 i e hi'
    · cases e
    · exact (h7.dom okB i hi').2 e
  · refine OAcc.rebase (rok_rt N) (OAcc.frame okB h7 fun i hi => ?_) (Keeps.le fun i r hi => ?_)
    · cases hs : s i with
      | none => exact absurd hs (h7.dom okB i hi).2
      | some r => exact k i r hs fun hf => h5 i hf hi
    · obtain ⟨e1, e2⟩ := delF_some hi
      have e3 : i ∉ F1 := fun h => e1 (by simp [h])
      have e4 : i ∉ F2 := fun h => e1 (by simp [h])
      have e5 : i ≠ b := fun h => e1 (by simp [h])
      rw [delF_out]
      · exact k i r e2 e3
      · intro h
        simp only [List.mem_cons, List.mem_append] at h
        rcases h with h | h | h
        · exact e5 h
        · rcases f i h with e | e | e
          · exact e3 e
          · cases e
          · rw [e2] at e; cases e
        · exact e4 h
theorem SP.kid {b q N : Nat} {s : Vw} {u w : Value} {ns : List ByteArray} {ks : List Tr} (h : SP w0 σ b q (N + 1) s u w ns ks) (hl : ks.length ≤ 100000000000) {K : Value → Vw → Prop}
    (hK : ∀ w' s', SP w0 σ b q (N + 1) s' u w' ns (ks ++ [zeroT]) → K w' s') : allOne [.bool false, .int .i64 0, .string ⟨#[]⟩, .slice none 0 0, .slice none 0 0] ∧ pAppend w0 t_impl_Tree 5 80 w 1 [.bool false, .int .i64 0, .string ⟨#[]⟩, .slice none 0 0, .slice none 0 0] s K := by
  obtain ⟨F1, F2, h1, h2, h3, h4, h5, h6, h7⟩ := h
  have okB := ok_base (rok_rt (N + 1)) w0 (Av.get w0 (s.delF (b :: (F1 ++ F2))))
  refine h7.one okB (f := []) (y := zeroT) ⟨rfl, RT_zero N _⟩ (fun i hi => by cases hi) (by omega) (by omega) fun w' F2' s' k o f => ?_
  have hbF : b ∉ F2 := fun hb => (h4 b hb).2 rfl
  have hsb : s' b = s b := by
    cases hb : s b with
    | none => exact absurd hb h1.at
    | some r => exact k b r hb hbF
  have hsk : Keeps (σ.del b) (s'.del b) := fun i r hi => by
    obtain ⟨e1, e2⟩ := del_some hi
    have e3 := h2 i r hi
    rw [del_ne e1] at e3 ⊢
    exact k i r e3 fun hf => by rw [(h4 i hf).1] at hi; cases hi
  have hF2' : ∀ i, i ∈ F2' → (σ.del b) i = none ∧ i ≠ b := fun i hi => by
    rcases f i hi with e | e | e
    · exact h4 i e
    · cases e
    · have hib : i ≠ b := fun e' => h1.at (e' ▸ e)
      refine ⟨?_, hib⟩
      rw [del_ne hib]; exact none_out h2 hib e
  refine hK w' s' ⟨F1, F2', h1.keep hsb, hsk, h3, hF2', fun i hi hi' => ?_, h6.frame (ok_str w0) fun i hi => ?_, OAcc.rebase (rok_rt (N + 1)) o (Keeps.le fun i r hi => ?_)⟩
  · rcases f i hi' with e | e | e
    · exact h5 i hi e
    · cases e
    · exact (h6.dom (ok_str w0) i hi).2 e
  · cases hs : s i with
    | none => exact absurd hs (h6.dom (ok_str w0) i hi).2
    | some r => exact k i r hs (h5 i hi)
  · obtain ⟨e1, e2⟩ := delF_some hi
    have e3 : i ∉ F1 := fun h => e1 (by simp [h])
    have e4 : i ∉ F2 := fun h => e1 (by simp [h])
    have e5 : i ≠ b := fun h => e1 (by simp [h])
    rw [delF_out]
    · exact k i r e2 e4
    · intro h
      simp only [List.mem_cons, List.mem_append] at h
      rcases h with h | h | h
      · exact e5 h
      · exact e3 h
      · rcases f i h with e | e | e
        · exact e4 e
        · cases e
        · rw [e2] at e; cases e

/-- A copy. -/
theorem copy_sp {b q n : Nat} {es : List Value} {d : Bool} {md : Int} {t : ByteArray} {ns : List ByteArray} {ks : List Tr} {N : Nat} (hrd : RD w0 σ b q) (h : RT (n + 1) (Av.get w0 (σ.del b)) es (.mk d md t ns ks)) (hf : fitT (n + 1) (.mk d md t ns ks)) (hN : n ≤ N) {R : Value → Vw → Prop}
    (hR : ∀ u w s, SP w0 σ b q N s u w ns ks → R (.agg ⟨[.bool d, .int .i64 md, .string t, u, w]⟩) s) : AC Tryz.prog w0 n_spec_l1Copy [.agg ⟨es⟩] σ R := by
  refine hrd.hide (R := fun v s => Keeps (σ.del b) s ∧ ∃ u w F1 F2, v = .agg ⟨[.bool d, .int .i64 md, .string t, u, w]⟩ ∧ OAcc w0 t_string 1 OStr s F1 u ns ∧ OAcc w0 t_impl_Tree 5 (OT w0 n) s F2 w ks ∧ (∀ i, i ∈ F1 → (σ.del b) i = none) ∧ (∀ i, i ∈ F2 → (σ.del b) i = none) ∧ (∀ i, i ∈ F1 → i ∉ F2))
    (spec_l1CopyA h hf fun u w F1 F2 s k o1 o2 f1 f2 hd => ⟨k, u, w, F1, F2, rfl, o1, o2, f1, f2, hd⟩) (fun v s k hrd' hh => ?_) fun v s h => h.1
  obtain ⟨_, u, w, F1, F2, rfl, o1, o2, f1, f2, hd⟩ := hh
  have hb1 : ∀ i, i ∈ F1 → i ≠ b := fun i hi e => (o1.dom (ok_str w0) i hi).2 (by rw [e]; exact del_at)
  have hb2 : ∀ i, i ∈ F2 → i ≠ b := fun i hi e => (o2.dom (ok_rt w0 n) i hi).2 (by rw [e]; exact del_at)
  have o1' := o1.frame (σ' := s) (ok_str w0) fun i hi => (del_ne (hb1 i hi)).symm
  have o2' := o2.frame (σ' := s) (ok_rt w0 n) fun i hi => (del_ne (hb2 i hi)).symm
  obtain ⟨F3, h3, o3⟩ := OAcc.to_base (ok_rt w0 n) (D := b :: F1) o2' fun i hi hi' => by
    rcases List.mem_cons.1 hi' with e | e
    · exact hb2 i hi e
    · exact hd i e hi
  have o4 : OAcc w0 t_impl_Tree 5 (OB (RT N) (Av.get w0 (s.delF (b :: (F1 ++ F3))))) s F3 w ks := by
    obtain ⟨g1, g2, g3 | ⟨b0, cap, css, Fs, q1, q2, q3, q4, q5, q6, q7, q8⟩⟩ := o3
    · exact ⟨g1, g2, .inl g3⟩
    · exact ⟨g1, g2, .inr ⟨b0, cap, css, Fs, q1, q2, q3, q4, q5, q6, q7, fun j c x f e1 e2 e3 => by
        have := q8 j c x f e1 e2 e3
        exact ⟨this.1, RT_le hN this.2⟩⟩⟩
  exact hR u w s ⟨F1, F3, hrd', k, fun i hi => ⟨f1 i hi, hb1 i hi⟩, fun i hi => ⟨f2 i (h3 i hi), hb2 i (h3 i hi)⟩, fun i hi hi' => hd i hi (h3 i hi'), o1', o4⟩
end
end Go.Proofs.YtkbhjejalkbogaaGreat

/- A tree that is drawn and spoilt; any tree that is drawn; what the laws on trees draw. -/
set_option linter.unusedVariables false
set_option linter.unusedSimpArgs false
set_option maxRecDepth 20000
namespace Go.Av
open Go Go.RowKit
/-- What a call leaves, with the rows that were kept from it. -/
def Vw.mergeF (σ : Vw) (F : List Nat) (σ' : Vw) : Vw := fun i => if i ∈ F then σ i else σ' i
theorem mergeF_in {σ σ' : Vw} {F : List Nat} {i : Nat} (h : i ∈ F) : σ.mergeF F σ' i = σ i := by simp [Vw.mergeF, h]
theorem mergeF_out {σ σ' : Vw} {F : List Nat} {i : Nat} (h : i ∉ F) : σ.mergeF F σ' i = σ' i := by simp [Vw.mergeF, h]
theorem delF_mergeF {σ σ' : Vw} {F : List Nat} (h : ∀ i, i ∈ F → σ' i = none) : (σ.mergeF F σ').delF F = σ' := by
  funext i
  by_cases hi : i ∈ F
  · rw [delF_in hi, h i hi]
  · rw [delF_out hi, mergeF_out hi]
theorem AC.hideF {P : Program} {w0 : World} {f : FuncId} {args : List Value} {σ : Vw} {R R' : Value → Vw → Prop} {F : List Nat} (h : AC P w0 f args (σ.delF F) R) (hR : ∀ v σ', (∀ i, i ∈ F → σ i ≠ none → σ' i = none) → R v σ' → R' v (σ.mergeF F σ')) : AC P w0 f args σ R' := by
  refine ⟨h.1, fun w hw => ?_⟩
  have hs : Sat w0 (σ.delF F) w := ⟨hw.bel, fun i r' hi => hw.row i r' (delF_keeps i r' hi)⟩
  refine (h.2 w hs).mono ?_
  rintro e w' ⟨v, σ', he, hRv, ha⟩
  have hn : ∀ i, i ∈ F → σ i ≠ none → σ' i = none := fun i hi hne => by
    cases hc : σ' i with
    | none => rfl
    | some r' =>
      rcases ha.dom i r' hc with h1 | h1
      · exact absurd (delF_in hi) h1
      · cases hs' : σ i with
        | none => exact absurd hs' hne
        | some r => have := hw.lt hs'; omega
  refine ⟨v, σ.mergeF F σ', he, hR v σ' hn hRv, ⟨⟨ha.sat.bel, fun i r' hi => ?_⟩, ha.size, fun i hi hni => ?_, fun i r' hi => ?_⟩⟩
  · by_cases e : i ∈ F
    · rw [mergeF_in e] at hi
      obtain ⟨h1, cur, h2, h3⟩ := hw.row i _ hi
      exact ⟨h1, cur, (ha.fr i (hw.lt hi) (delF_in e)).trans h2, h3⟩
    · rw [mergeF_out e] at hi
      exact ha.sat.row i r' hi
  · refine ha.fr i hi ?_
    by_cases e : i ∈ F
    · exact delF_in e
    · rw [delF_out e]; exact hni
  · by_cases e : i ∈ F
    · rw [mergeF_in e] at hi; exact .inl (by rw [hi]; simp)
    · rw [mergeF_out e] at hi
      rcases ha.dom i r' hi with h1 | h1
      · exact .inl (by rw [delF_out e] at h1; exact h1)
      · exact .inr h1
theorem del_delF {σ : Vw} {F : List Nat} {b : Nat} : (σ.delF F).del b = σ.delF (b :: F) := by
  funext i
  by_cases e : i = b
  · subst e; rw [del_at, delF_in List.mem_cons_self]
  · rw [del_ne e]
    by_cases hi : i ∈ F
    · rw [delF_in hi, delF_in (List.mem_cons_of_mem _ hi)]
    · rw [delF_out hi, delF_out (by simp [e, hi])]
end Go.Av
namespace Go.Proofs.YtkbhjejalkbogaaGreat
open Go Go.Av Go.RowKit

theorem sumBy_set {α : Type} {f : α → Nat} : ∀ {l : List α} {j : Nat} {x y : α}, l[j]? = some x → sumBy f (l.set j y) + f x = sumBy f l + f y
  | a :: r, 0, x, y, h => by
    simp at h; subst h
    simp only [List.set_cons_zero, sumBy]; omega
  | a :: r, j + 1, x, y, h => by
    have := sumBy_set (f := f) (l := r) (y := y) (show r[j]? = some x by simpa using h)
    simp only [List.set_cons_succ, sumBy]; omega
  | [], j, x, y, h => by simp at h
theorem kdW_more {n m : Nat} {ks : List Tr} (h : ∀ k, k ∈ ks → IsT n k) (hm : n ≤ m) : kdW m ks = kdW n ks := by
  unfold kdW
  rw [sumBy_congr fun k hk => sz_more (h k hk) hm]

theorem RT_down : ∀ (n m : Nat) (rd : Addr → Option Value) (es : List Value) (x : Tr), RT m rd es x → IsT n x → RT n rd es x
  | 0, _, _, _, _, _, ⟨_, _, h⟩ => h.elim
  | n + 1, 0, _, _, _, h, _ => h.elim
  | n + 1, m + 1, rd, es, .mk d mo t ns ks, h, hs => by
    obtain ⟨u, w, h1, h2, h3, h4, A, cap, e1, e2, e3⟩ := h
    refine ⟨u, w, h1, h2, h3, h4, A, cap, e1, e2, fun j y hj => ?_⟩
    obtain ⟨a, es', q1, q2, q3, q4⟩ := e3 j y hj
    exact ⟨a, es', q1, q2, q3, RT_down n m rd es' y q4 (isT_kid hs (List.mem_of_getElem? hj))⟩

section
variable {w0 : World} {σ : Vw}

def VSW (w0 : World) (pb x0 x1 x2 x3 x4 : Value) (s : Vw) (R : Value → Vw → Prop) : Prop :=
  AC Tryz.prog w0 n_p_spec_l1Rd_pick [pb, .int .i64 8] s (fun v16 s17 => pBin Tryz.prog 3 .eql v16 (.int .i64 0) (fun v18 => pIf v18 (pVal false 1 (.int .i64 (-1)) (pVal false 1 (.int .i64 7) (pVal false 1 (.int .i64 8) (pNew w0 t_int [.int .i64 (-1), .int .i64 7, .int .i64 8] s17 (fun n19 s20 => AC Tryz.prog w0 n_p_spec_l1Rd_pick [pb, .int .i64 3] s20 (fun v21 s22 => pIndexAddr 1 (.slice (some (Addr.mk n19 0 none)) 3 3) v21 (fun v23 => pLoad w0 1 v23 s22 (fun g24 => pVal false 1 (g24 0) (pVal true 5 (.agg (⟨[x0, g24 0, x2, x3, x4]⟩)) (R (.agg (⟨[x0, g24 0, x2, x3, x4]⟩)) s22)))))))))) (pBin Tryz.prog 3 .eql v16 (.int .i64 1) (fun v25 => pIf v25 (pUn UnOp.not (x0) (fun v26 => pVal false 1 v26 (pVal true 5 (.agg (⟨[v26, x1, x2, x3, x4]⟩)) (R (.agg (⟨[v26, x1, x2, x3, x4]⟩)) s17)))) (pBin Tryz.prog 3 .eql v16 (.int .i64 2) (fun v27 => pIf v27 (pBin Tryz.prog t_string .add (x2) (.string ({ data := #[120] })) (fun v28 => pVal false 1 v28 (pVal true 5 (.agg (⟨[x0, x1, v28, x3, x4]⟩)) (R (.agg (⟨[x0, x1, v28, x3, x4]⟩)) s17)))) (pBin Tryz.prog 3 .eql v16 (.int .i64 3) (fun v29 => pIf v29 (pVal false 1 (.string ({ data := #[122, 122] })) (pVal false 1 (.string ({ data := #[] })) (pVal false 1 (.string ({ data := #[97] })) (pVal false 1 (.string ({ data := #[90] })) (pVal false 1 (.string ({ data := #[116, 111, 111, 108, 111, 110, 103] })) (pNew w0 t_string ([.string ({ data := #[122, 122] }), .string ({ data := #[] }), .string ({ data := #[97] }), .string ({ data := #[90] }), .string ({ data := #[116, 111, 111, 108, 111, 110, 103] })]) s17 (fun n30 s31 => AC Tryz.prog w0 n_p_spec_l1Rd_of [pb, .slice (some (Addr.mk n30 0 none)) 5 5] s31 (fun v32 s33 => pVal false 1 v32 ((allOne [v32]) ∧ (pAppend w0 t_string 1 16 (x3) 1 [v32] s33 (fun v34 s35 => pVal false 1 v34 (pVal true 5 (.agg (⟨[.bool false, .int .i64 0, .string ({ data := #[] }), .slice none 0 0, .slice none 0 0]⟩)) ((allOne ([.bool false, .int .i64 0, .string ({ data := #[] }), .slice none 0 0, .slice none 0 0])) ∧ (pAppend w0 t_impl_Tree 5 80 (x4) 1 ([.bool false, .int .i64 0, .string ({ data := #[] }), .slice none 0 0, .slice none 0 0]) s35 (fun v36 s37 => pVal false 1 v36 (pVal true 5 (.agg (⟨[x0, x1, x2, v34, v36]⟩)) (R (.agg (⟨[x0, x1, x2, v34, v36]⟩)) s37))))))))))))))))) (pBin Tryz.prog 3 .eql v16 (.int .i64 4) (fun v38 => pIf v38 (pVal false 1 (.string ({ data := #[122, 122, 122] })) ((allOne ([.string ({ data := #[122, 122, 122] })])) ∧ (pAppend w0 t_string 1 16 (x3) 1 ([.string ({ data := #[122, 122, 122] })]) s17 (fun v39 s40 => pVal false 1 v39 (pVal true 5 (.agg (⟨[x0, x1, x2, v39, x4]⟩)) (R (.agg (⟨[x0, x1, x2, v39, x4]⟩)) s40)))))) (pBin Tryz.prog 3 .eql v16 (.int .i64 5) (fun v41 => pIf v41 (AC Tryz.prog w0 n_p_spec_l1Rd_pick [pb, .int .i64 2] s17 (fun v42 s43 => pBin Tryz.prog 3 .add (.int .i64 24) v42 (fun v44 => AC Tryz.prog w0 n_spec_l1Many ([.string ({ data := #[100] }), v44]) s43 (fun v45 s46 => pVal false 1 v45 (pVal true 5 (.agg (⟨[x0, x1, v45, x3, x4]⟩)) (R (.agg (⟨[x0, x1, v45, x3, x4]⟩)) s46)))))) (pBin Tryz.prog 3 .eql v16 (.int .i64 6) (fun v47 => pIf v47 (pLoop (fun l48 K49 s50 => AC Tryz.prog w0 n_p_spec_l1Rd_pick [vget l48 0, .int .i64 2] s50 (fun v51 s52 => pBin Tryz.prog 3 .add (.int .i64 4) v51 (fun v53 => pBin Tryz.prog 3 .lss (vget l48 1) v53 (fun v54 => pIf v54 (pVal false 1 (.string ({ data := #[110] })) (pNew w0 t_string ([.string ({ data := #[110] })]) s52 (fun n55 s56 => pVal true 5 (.agg (⟨[vget l48 7, vget l48 8, vget l48 9, vget l48 10, vget l48 11]⟩)) (pNew w0 t_impl_Tree [vget l48 7, vget l48 8, vget l48 9, vget l48 10, vget l48 11] s56 (fun n57 s58 => pVal false 1 (.bool true) (pVal false 1 (.slice (some (Addr.mk n55 0 none)) 1 1) (pVal false 1 (.slice (some (Addr.mk n57 0 none)) 1 1) (pVal true 5 (.agg (⟨[.bool true, .int .i64 0, .string ({ data := #[] }), .slice (some (Addr.mk n55 0 none)) 1 1, .slice (some (Addr.mk n57 0 none)) 1 1]⟩)) (pBin Tryz.prog 3 .add (vget l48 1) (.int .i64 1) (fun v59 => K49 AX.normal ([vget l48 0, v59, vget l48 2, vget l48 3, vget l48 4, vget l48 5, vget l48 6, .bool true, .int .i64 0, .string ({ data := #[] }), .slice (some (Addr.mk n55 0 none)) 1 1, .slice (some (Addr.mk n57 0 none)) 1 1]) s58)))))))))) (K49 (AX.exit 3) [vget l48 0, vget l48 1, vget l48 2, vget l48 3, vget l48 4, vget l48 5, vget l48 6, vget l48 7, vget l48 8, vget l48 9, vget l48 10, vget l48 11] s52))))) ([pb, .int .i64 0, .bool false, .int .i64 0, .string ({ data := #[] }), .slice none 0 0, .slice none 0 0, x0, x1, x2, x3, x4]) s17 (fun x60 l61 s62 => match x60 with | .normal => pVal true 5 (.agg (⟨[vget l61 7, vget l61 8, vget l61 9, vget l61 10, vget l61 11]⟩)) (R (.agg (⟨[vget l61 7, vget l61 8, vget l61 9, vget l61 10, vget l61 11]⟩)) s62) | .ret => R (.agg (⟨[vget l61 2, vget l61 3, vget l61 4, vget l61 5, vget l61 6]⟩)) s62 | .exit i63 => (match Nat.beq i63 3 with | true => pVal true 5 (.agg (⟨[vget l61 7, vget l61 8, vget l61 9, vget l61 10, vget l61 11]⟩)) (R (.agg (⟨[vget l61 7, vget l61 8, vget l61 9, vget l61 10, vget l61 11]⟩)) s62) | false => (match Nat.beq i63 0 with | true => pVal true 5 (.agg (⟨[vget l61 7, vget l61 8, vget l61 9, vget l61 10, vget l61 11]⟩)) (R (.agg (⟨[vget l61 7, vget l61 8, vget l61 9, vget l61 10, vget l61 11]⟩)) s62) | false => False)))) (pLoop (fun l64 K65 s66 => pBin Tryz.prog 3 .lss (vget l64 0) (.int .i64 30) (fun v67 => pIf v67 (pBin Tryz.prog 3 .add (.int .i64 100) (vget l64 0) (fun v68 => AC Tryz.prog w0 n_spec_l1Dec [v68] s66 (fun v69 s70 => pBin Tryz.prog t_string .add (.string ({ data := #[122, 122] })) v69 (fun v71 => pVal false 1 v71 ((allOne [v71]) ∧ (pAppend w0 t_string 1 16 (vget l64 9) 1 [v71] s70 (fun v72 s73 => pVal false 1 v72 (pVal true 5 (.agg (⟨[.bool false, .int .i64 0, .string ({ data := #[] }), .slice none 0 0, .slice none 0 0]⟩)) ((allOne ([.bool false, .int .i64 0, .string ({ data := #[] }), .slice none 0 0, .slice none 0 0])) ∧ (pAppend w0 t_impl_Tree 5 80 (vget l64 10) 1 ([.bool false, .int .i64 0, .string ({ data := #[] }), .slice none 0 0, .slice none 0 0]) s73 (fun v74 s75 => pVal false 1 v74 (pBin Tryz.prog 3 .add (vget l64 0) (.int .i64 1) (fun v76 => K65 AX.normal [v76, vget l64 1, vget l64 2, vget l64 3, vget l64 4, vget l64 5, vget l64 6, vget l64 7, vget l64 8, v72, v74] s75))))))))))))) (K65 (AX.exit 1) [vget l64 0, vget l64 1, vget l64 2, vget l64 3, vget l64 4, vget l64 5, vget l64 6, vget l64 7, vget l64 8, vget l64 9, vget l64 10] s66))) ([.int .i64 0, .bool false, .int .i64 0, .string ({ data := #[] }), .slice none 0 0, .slice none 0 0, x0, x1, x2, x3, x4]) s17 (fun x77 l78 s79 => match x77 with | .normal => pVal true 5 (.agg (⟨[vget l78 6, vget l78 7, vget l78 8, vget l78 9, vget l78 10]⟩)) (R (.agg (⟨[vget l78 6, vget l78 7, vget l78 8, vget l78 9, vget l78 10]⟩)) s79) | .ret => R (.agg (⟨[vget l78 1, vget l78 2, vget l78 3, vget l78 4, vget l78 5]⟩)) s79 | .exit i80 => (match Nat.beq i80 1 with | true => pVal true 5 (.agg (⟨[vget l78 6, vget l78 7, vget l78 8, vget l78 9, vget l78 10]⟩)) (R (.agg (⟨[vget l78 6, vget l78 7, vget l78 8, vget l78 9, vget l78 10]⟩)) s79) | false => (match Nat.beq i80 0 with | true => pVal true 5 (.agg (⟨[vget l78 6, vget l78 7, vget l78 8, vget l78 9, vget l78 10]⟩)) (R (.agg (⟨[vget l78 6, vget l78 7, vget l78 8, vget l78 9, vget l78 10]⟩)) s79) | false => False))))))))))))))))))

set_option maxHeartbeats 8000000 in
/-- A tree of our own is spoilt in one place. -/
theorem spoil_here {b q n : Nat} {s : Vw} {d : Bool} {m : Int} {t : ByteArray} {u w : Value} {ns : List ByteArray} {ks : List Tr} (h : SP w0 σ b q (n + 5) s u w ns ks) (hq : q ≤ 1000000) (hm : i64r m) (ht : t.size ≤ 100000000) (hk : ∀ k, k ∈ ks → IsT n k) (hx : IsT (n + 1) (.mk d m t ns ks)) (hsz : nmW ns + kdW n ks ≤ 100000000) {R : Value → Vw → Prop}
    (hR : OutTR w0 σ b (q + 15) (n + 6) (t.size + nmW ns + kdW n ks + 400) R) : VSW w0 (ptr b) (.bool d) (.int .i64 m) (.string t) u w s R := by
  unfold VSW
  have hkd : kdW (n + 5) ks = kdW n ks := kdW_more hk (by omega)
  have hl1 : ns.length ≤ 100000000 := by unfold nmW at hsz; omega
  have hl2 : ks.length ≤ 100000000 := by unfold kdW at hsz; omega
  -- what is handed back
  have fin : ∀ {s' : Vw} {q' : Nat} {d' : Bool} {m' : Int} {t' : ByteArray} {u' w' : Value} {ns' : List ByteArray} {ks' : List Tr}, SP w0 σ b q' (n + 5) s' u' w' ns' ks' → q' ≤ q + 15 → i64r m' → t'.size ≤ 200000000 → t'.size + nmW ns' + kdW (n + 5) ks' ≤ t.size + nmW ns + kdW n ks + 400 →
      pVal true 5 (.agg ⟨[.bool d', .int .i64 m', .string t', u', w']⟩) (R (.agg ⟨[.bool d', .int .i64 m', .string t', u', w']⟩) s') := fun {s' q' d' m' t' u' w' ns' ks'} h' hq' hm' ht' hsz' => by
    obtain ⟨o1, o2⟩ := h'.ones
    rw [pVal_5 rfl rfl rfl o1 o2]
    refine hR _ _ s' (h'.rd.more hq') h'.keeps (h'.tree (d := d') (m := m') (t := t') hm' (by omega)) ?_
    show t'.size + (ns'.length + sumS ns') + (ks'.length + sumBy (szT (n + 5)) ks') ≤ _
    unfold nmW kdW at hsz' ⊢
    omega
  obtain ⟨o1, o2⟩ := h.ones
  refine spec_pick (n := 8) h.rd (by omega) (by omega) fun j s1 hj hrd1 hd1 _ => ?_
  have k1 : Keeps (s.del b) (s1.del b) := by rw [hd1]; exact Keeps.refl _
  have h1 := h.next hrd1 k1
  rw [pBin_eq, pIf_d]
  refine ⟨fun _ => ?_, fun _ => ?_⟩
  · rw [pVal1 rfl, pVal1 rfl, pVal1 rfl]
    refine int_lit (xs := [-1, 7, 8]) hrd1 (by omega) (by simp) rfl rfl (K := fun x s => pVal false 1 x (pVal true 5 (.agg (⟨[.bool d, x, .string t, u, w]⟩)) (R (.agg (⟨[.bool d, x, .string t, u, w]⟩)) s))) fun x s2 hx hrd2 k2 => ?_
    rw [pVal1 rfl]
    have hx : i64r x := by simp at hx; rcases hx with rfl | rfl | rfl <;> omega
    exact fin (h1.next hrd2 k2) (by omega) hx (by omega) (by rw [hkd]; omega)
  rw [pBin_eq, pIf_d]
  refine ⟨fun _ => ?_, fun _ => ?_⟩
  · rw [pUn_not, pVal1 rfl]
    exact fin h1 (by omega) hm (by omega) (by rw [hkd]; omega)
  rw [pBin_eq, pIf_d]
  refine ⟨fun _ => ?_, fun _ => ?_⟩
  · have e1 : (⟨#[120]⟩ : ByteArray).size = 1 := rfl
    rw [pBin_cat (by rw [e1]; omega), pVal1 rfl]
    exact fin h1 (by omega) hm (by rw [ByteArray.size_append, e1]; omega) (by rw [hkd, ByteArray.size_append, e1]; omega)
  rw [pBin_eq, pIf_d]
  refine ⟨fun _ => ?_, fun _ => ?_⟩
  · rw [pVal1 rfl, pVal1 rfl, pVal1 rfl, pVal1 rfl, pVal1 rfl]
    have hsz7 : ∀ x, x ∈ [(⟨#[122, 122]⟩ : ByteArray), ⟨#[]⟩, ⟨#[97]⟩, ⟨#[90]⟩, ⟨#[116, 111, 111, 108, 111, 110, 103]⟩] → x.size ≤ 7 := by
      intro x hx
      simp at hx
      rcases hx with rfl | rfl | rfl | rfl | rfl <;> decide
    refine of_lit (xs := [(⟨#[122, 122]⟩ : ByteArray), ⟨#[]⟩, ⟨#[97]⟩, ⟨#[90]⟩, ⟨#[116, 111, 111, 108, 111, 110, 103]⟩]) hrd1 (by omega) (by simp) (fun x hx => by have := hsz7 x hx; omega) rfl rfl fun x s2 hx hrd2 k2 => ?_
    have hxs := hsz7 x hx
    rw [pVal1 rfl]
    refine (h1.next hrd2 k2).name (by omega) (by omega) fun u2 s3 h3 => ?_
    rw [pVal1 h3.ones.1, pVal_5 rfl rfl rfl rfl rfl]
    refine h3.kid (N := n + 4) (by omega) fun w2 s4 h4 => ?_
    rw [pVal1 h4.ones.2]
    exact fin h4 (by omega) hm (by omega) (by rw [nmW_snoc, kdW_snoc, hkd, sz_zero]; omega)
  rw [pBin_eq, pIf_d]
  refine ⟨fun _ => ?_, fun _ => ?_⟩
  · rw [pVal1 rfl]
    have e1 : (⟨#[122, 122, 122]⟩ : ByteArray).size = 3 := rfl
    refine h1.name (by rw [e1]; omega) (by omega) fun u2 s3 h3 => ?_
    rw [pVal1 h3.ones.1]
    exact fin h3 (by omega) hm (by omega) (by rw [nmW_snoc, hkd, e1]; omega)
  rw [pBin_eq, pIf_d]
  refine ⟨fun _ => ?_, fun _ => ?_⟩
  · refine spec_pick (n := 2) hrd1 (by omega) (by omega) fun j2 s2 hj2 hrd2 hd2 _ => ?_
    have k2 : Keeps (s1.del b) (s2.del b) := by rw [hd2]; exact Keeps.refl _
    rw [pBin_add (by omega), show (24 : Int) + (j2 : Nat) = ((24 + j2 : Nat) : Int) by omega]
    have e1 : (⟨#[100]⟩ : ByteArray).size = 1 := rfl
    refine spec_l1Many (s0 := ⟨#[100]⟩) (n := 24 + j2) (by rw [e1]; omega) (by rw [e1]; omega) (by omega) fun t2 ht2 => ?_
    rw [e1] at ht2
    rw [pVal1 rfl]
    exact fin (h1.next hrd2 k2) (by omega) hm (by omega) (by rw [hkd]; omega)
  rw [pBin_eq, pIf_d]
  refine ⟨fun _ => ?_, fun _ => ?_⟩
  · -- wrapped
    refine loop_rule (m := 5) (fun mm l st => ∃ (i q' : Nat) (d0 : Bool) (m0 : Int) (t0 : ByteArray) (u0 w0' : Value) (y : Tr), mm + i = 5 ∧ q' ≤ q + 1 + i ∧ RD w0 st b q' ∧ Keeps (σ.del b) (st.del b) ∧ RT (n + 1 + i) (Av.get w0 (st.del b)) [.bool d0, .int .i64 m0, .string t0, u0, w0'] y ∧ szT (n + 1 + i) y ≤ t.size + nmW ns + kdW n ks + 10 * i ∧
        l = [ptr b, .int .i64 (i : Nat), .bool false, .int .i64 0, .string ⟨#[]⟩, .slice none 0 0, .slice none 0 0, .bool d0, .int .i64 m0, .string t0, u0, w0']) ?_
      ⟨0, q + 1, d, m, t, u, w, _, rfl, by omega, hrd1, h1.keeps, RT_down _ _ _ _ _ (h1.tree (d := d) (m := m) (t := t) hm (by omega)) hx, by
        show t.size + (ns.length + sumS ns) + (ks.length + sumBy (szT n) ks) ≤ _
        unfold nmW kdW at *
        omega, rfl⟩
    rintro mm l st L ⟨i, q', d0, m0, t0, u0, w0', y, hmi, hq', hrd, ks0, hy, hys, rfl⟩ hL
    simp only [vget, List.getD_cons_zero, List.getD_cons_succ]
    have hy0 := hy
    obtain ⟨uu, ww, hcells, hmy, hty, hny, hky, hp5⟩ := hy.cells
    simp only [List.cons.injEq, and_true] at hcells
    obtain ⟨ec1, ec2, ec3, rfl, rfl⟩ := hcells
    have hp6 : ∀ A : Prop, pVal true 5 (.agg ⟨[.bool d0, .int .i64 m0, .string t0, u0, w0']⟩) A ↔ A := fun A => pVal_5 rfl rfl rfl hny.one hky.one
    refine spec_pick (n := 2) hrd (by omega) (by omega) fun j2 s2 hj2 hrd2 hd2 _ => ?_
    have k2 : Keeps (st.del b) (s2.del b) := by rw [hd2]; exact Keeps.refl _
    rw [pBin_add (by omega), pBin_lt, pIf_d]
    refine ⟨fun hlt => ?_, fun _ => ?_⟩
    · rw [pVal1 rfl]
      intro n1 g1 g2
      obtain ⟨hne1, hrd3, k3⟩ := hrd2.new (r := ⟨t_string, [.string ⟨#[110]⟩], 1, (0, 0)⟩) g2
      have r1 : (s2.put n1 ⟨t_string, [.string ⟨#[110]⟩], 1, (0, 0)⟩) n1 = some ⟨t_string, [.string ⟨#[110]⟩], 1, (0, 0)⟩ := put_at
      show pVal true 5 _ _
      generalize Vw.put s2 n1 _ = s3 at hrd3 k3 r1
      rw [hp6]
      intro n2 g3 g4
      obtain ⟨hne2, hrd4, k4⟩ := hrd3.new (r := ⟨t_impl_Tree, [.bool d0, .int .i64 m0, .string t0, u0, w0'], 5, (0, 0)⟩) g4
      have hn12 : n1 ≠ n2 := fun e => by rw [← e, r1] at g4; cases g4
      have r2 : (s3.put n2 ⟨t_impl_Tree, [.bool d0, .int .i64 m0, .string t0, u0, w0'], 5, (0, 0)⟩) n2 = some ⟨t_impl_Tree, [.bool d0, .int .i64 m0, .string t0, u0, w0'], 5, (0, 0)⟩ := put_at
      have r1' : (s3.put n2 ⟨t_impl_Tree, [.bool d0, .int .i64 m0, .string t0, u0, w0'], 5, (0, 0)⟩) n1 = some ⟨t_string, [.string ⟨#[110]⟩], 1, (0, 0)⟩ := by rw [put_ne hn12]; exact r1
      show pVal false 1 _ _
      generalize Vw.put s3 n2 _ = s4 at hrd4 k4 r1' r2
      rw [pVal1 rfl, pVal1 rfl, pVal1 rfl, pVal_5 rfl rfl rfl rfl rfl, pBin_add (by omega)]
      have K4 := (k2.trans k3).trans k4
      have e1 : (⟨#[110]⟩ : ByteArray).size = 1 := rfl
      have hr1 : RSl 1 RS (Av.get w0 (s4.del b)) (.slice (some ⟨n1, 0, none⟩) 1 1) [⟨#[110]⟩] := row_strs (xs := [⟨#[110]⟩]) (k := 1) g1 (by rw [del_ne hne1]; exact r1') (fun x hx => by rw [List.mem_singleton.1 hx, e1]; omega) (by simp)
      have hr2 : RSl 5 (RT (n + 1 + i)) (Av.get w0 (s4.del b)) (.slice (some ⟨n2, 0, none⟩) 1 1) [y] := by
        refine ⟨some ⟨n2, 0, none⟩, 1, rfl, by simp, fun jj x hx => ?_⟩
        have hjj : jj = 0 := by have := (List.getElem?_eq_some_iff.1 hx).1; simp at this; exact this
        subst hjj
        cases hx
        refine ⟨_, [.bool d0, .int .i64 m0, .string t0, u0, w0'], rfl, rfl, fun ii hii => ?_, mono_rt _ _ _ _ _ K4.le hy0⟩
        rw [addr_add, get_row g3 (by rw [del_ne hne2]; exact r2)]
        simp
      refine hL _ _ (mm - 1) (by omega) ⟨i + 1, q' + 1, true, 0, ⟨#[]⟩, _, _, .mk true 0 ⟨#[]⟩ [⟨#[110]⟩] [y], by omega, by omega, hrd4, ks0.trans K4, ⟨_, _, rfl, by omega, by show 0 ≤ _; omega, hr1, hr2⟩, ?_, by simp⟩
      show (0 : Nat) + (1 + (1 + 0)) + (1 + (szT (n + 1 + i) y + 0)) ≤ _
      omega
    · show pVal true 5 (.agg ⟨[.bool d0, .int .i64 m0, .string t0, u0, w0']⟩) _
      rw [hp6]
      refine hR _ y s2 (hrd2.more (by omega)) (ks0.trans k2) (RT_le (by omega) (mono_rt _ _ _ _ _ k2.le hy0)) ?_
      rw [sz_more hy0.isT (by omega)]; omega
  · -- full of names
    refine loop_rule (m := 30) (fun mm l st => ∃ (i : Nat) (u' w' : Value) (ns' : List ByteArray) (ks' : List Tr), mm + i = 30 ∧ SP w0 σ b (q + 1) (n + 5) st u' w' ns' ks' ∧ nmW ns' + kdW (n + 5) ks' ≤ nmW ns + kdW n ks + 12 * i ∧
        l = [.int .i64 (i : Nat), .bool false, .int .i64 0, .string ⟨#[]⟩, .slice none 0 0, .slice none 0 0, .bool d, .int .i64 m, .string t, u', w']) ?_ ⟨0, u, w, ns, ks, rfl, h1, by rw [hkd]; omega, rfl⟩
    rintro mm l st L ⟨i, u', w', ns', ks', hmi, hsp, hw', rfl⟩ hL
    simp only [vget, List.getD_cons_zero, List.getD_cons_succ]
    rw [pBin_lt, pIf_d]
    refine ⟨fun hlt => ?_, fun _ => ?_⟩
    · rw [pBin_add (by omega), show (100 : Int) + (i : Nat) = ((100 + i : Nat) : Int) by omega]
      refine spec_l1Dec (by omega) fun s2 k2 => ?_
      have h2 := hsp.next (hsp.rd.kept k2) (keeps_del k2)
      have hz10 := decZ_nat (100 + i)
      have hszd := (decN_size (100 + i)).2
      have hd3 : (decN (100 + i)).size ≤ 3 := by
        rw [decN, size_ofL]
        have : ∀ k : Fin 30, (decL (100 + k.val)).length ≤ 3 := by
          intro k
          rw [decL_big (by omega), decL_big (by omega), decL_small (by omega)]; simp
        exact this ⟨i, by omega⟩
      have e1 : (⟨#[122, 122]⟩ : ByteArray).size = 2 := rfl
      rw [pBin_cat (by rw [hz10, e1]; omega), pVal1 rfl]
      have hl1' : ns'.length ≤ 200000000 := by unfold nmW at hw' hsz; omega
      have hl2' : ks'.length ≤ 200000000 := by unfold kdW at hw' hsz; omega
      refine h2.name (by rw [ByteArray.size_append, hz10, e1]; omega) (by omega) fun u2 s3 h3 => ?_
      rw [pVal1 h3.ones.1, pVal_5 rfl rfl rfl rfl rfl]
      refine h3.kid (N := n + 4) (by omega) fun w2 s4 h4 => ?_
      rw [pVal1 h4.ones.2, pBin_add (by omega)]
      exact hL _ _ (mm - 1) (by omega) ⟨i + 1, u2, w2, _, _, by omega, h4, by rw [nmW_snoc, kdW_snoc, sz_zero, ByteArray.size_append, hz10, e1]; omega, by simp⟩
    · show pVal true 5 (.agg ⟨[.bool d, .int .i64 m, .string t, u', w']⟩) _
      exact fin hsp (by omega) hm (by omega) (by omega)
theorem spec_l4Spoil : ∀ (n : Nat) {σ : Vw} {b p : Nat} {es : List Value} {x : Tr} {R : Value → Vw → Prop}, RD w0 σ b p → p + 20 * n ≤ 900000 → RT n (Av.get w0 (σ.del b)) es x → szT n x ≤ 90000000 → OutTR w0 σ b (p + 20 * n) (n + 5) (szT n x + 400) R → AC Tryz.prog w0 n_spec_l4Spoil [ptr b, .agg ⟨es⟩] σ R
  | 0, _, _, _, _, _, _, _, _, h, _, _ => h.elim
  | n + 1, σ, b, p, es, .mk d m t ns ks, R, h, hp, ht, hsz, hR => by
    have ht0 := ht
    have hkT : ∀ k, k ∈ ks → IsT n k := fun k hk => isT_kid (x := .mk d m t ns ks) ht.isT hk
    obtain ⟨c0, c1, c2, c3, c4, rfl, hp5⟩ := ht.shape
    obtain ⟨u0, w0', hcells, hmr, htr, hny, hky, _⟩ := ht.cells
    have hszx : szT (n + 1) (.mk d m t ns ks) = t.size + nmW ns + kdW n ks := rfl
    rw [hszx] at hsz hR
    refine ac_spec_l4Spoil ?_
    unfold vc_spec_l4Spoil
    rw [hp5]
    simp only [cellOf_agg, List.getD_cons_zero, List.getD_cons_succ]
    refine copy_sp (N := n + 5) h ht0 (fit_of _ _ (by rw [hszx]; omega)) (by omega) fun u w s hsp => ?_
    obtain ⟨o1, o2⟩ := hsp.ones
    rw [pVal_5 rfl rfl rfl o1 o2]
    simp only [cellOf_agg, List.getD_cons_zero, List.getD_cons_succ]
    have hl : ∀ {K : Value → Prop}, pLen w K ↔ K (.int .i64 (ks.length : Nat)) := by
      obtain ⟨F1, F2, _, _, _, _, _, _, h7⟩ := hsp
      exact ((OAcc.osl h7).rel (ok_base (rok_rt (n + 5)) w0 _)).len
    have hl2 : ks.length ≤ 90000000 := by unfold kdW at hsz; omega
    have here : ∀ (s' : Vw) (q : Nat), SP w0 σ b q (n + 5) s' u w ns ks → q + 15 ≤ p + 20 * (n + 1) → VSW w0 (ptr b) (.bool d) (.int .i64 m) (.string t) u w s' R := fun s' q h' hq =>
      spoil_here h' (by omega) hmr (by omega) hkT ht0.isT (by omega) fun es y s'' r1 r2 r3 r4 => hR es y s'' (r1.more hq) r2 r3 r4
    rw [hl, pBin_gt, pIf_d]
    refine ⟨fun hpos => ?_, fun _ => here s p hsp (by omega)⟩
    refine spec_pick (n := 2) hsp.rd (by omega) (by omega) fun j s1 hj hrd1 hd1 _ => ?_
    have k1 : Keeps (s.del b) (s1.del b) := by rw [hd1]; exact Keeps.refl _
    have h1 := hsp.next hrd1 k1
    rw [pBin_eq, pIf_d]
    refine ⟨fun _ => ?_, fun _ => here s1 (p + 1) h1 (by omega)⟩
    rw [hl]
    refine spec_pick hrd1 (by omega) (by omega) fun k s2 hk hrd2 hd2 _ => ?_
    have k2 : Keeps (s1.del b) (s2.del b) := by rw [hd2]; exact Keeps.refl _
    obtain ⟨F1, F2, q1, q2, q3, q4, q5, q6, q7⟩ := h1.next hrd2 k2
    have okB := ok_base (rok_rt (n + 5)) w0 (Av.get w0 (s2.delF (b :: (F1 ++ F2))))
    have hkx := List.getElem?_eq_getElem hk
    generalize ks[k]'hk = y at hkx
    have hyT := hkT y (List.mem_of_getElem? hkx)
    have hym : szT n y ≤ kdW n ks := by have := sumBy_mem (f := szT n) (List.mem_of_getElem? hkx); unfold kdW; omega
    refine ((OAcc.osl q7).rel okB).at hkx fun g hg => ?_
    have hg : RT (n + 5) (Av.get w0 (s2.delF (b :: (F1 ++ F2)))) (expl g 0 5) y := hg
    have hbG : b ∉ F1 ++ F2 := fun hb => by
      rcases List.mem_append.1 hb with e | e
      · exact (q3 b e).2 rfl
      · exact (q4 b e).2 rfl
    have hrdF : RD w0 (s2.delF (F1 ++ F2)) b (p + 1 + 1) := q1.keep (delF_out hbG)
    refine AC.hideF (F := F1 ++ F2) (R := fun v s' => RD w0 s' b (p + 1 + 1 + 20 * n) ∧ Keeps (s2.delF (b :: (F1 ++ F2))) (s'.del b) ∧ ∃ ey z, v = .agg ⟨ey⟩ ∧ RT (n + 5) (Av.get w0 (s'.del b)) ey z ∧ szT (n + 5) z ≤ szT n y + 400)
      (spec_l4Spoil n hrdF (by omega) (RT_down _ _ _ _ _ (by rw [del_delF]; exact hg) hyT) (by omega) fun ey z s' r1 r2 r3 r4 => ⟨r1, by rw [← del_delF]; exact r2, ey, z, rfl, r3, r4⟩) fun v s' hn hh => ?_
    obtain ⟨r1, r2, ey, z, rfl, r3, r4⟩ := hh
    -- the rows that were kept from it come back
    have hdom : ∀ i, i ∈ F1 ++ F2 → s2 i ≠ none := fun i hi => by
      rcases List.mem_append.1 hi with e | e
      · exact (q6.dom (ok_str w0) i e).2
      · exact (q7.dom okB i e).2
    have hdm : (s2.mergeF (F1 ++ F2) s').delF (F1 ++ F2) = s' := delF_mergeF fun i hi => hn i hi (hdom i hi)
    have hmo : ∀ i, i ∉ F1 ++ F2 → (s2.mergeF (F1 ++ F2) s') i = s' i := fun i hi => mergeF_out hi
    have hmi : ∀ i, i ∈ F1 ++ F2 → (s2.mergeF (F1 ++ F2) s') i = s2 i := fun i hi => mergeF_in hi
    generalize s2.mergeF (F1 ++ F2) s' = s3 at hdm hmo hmi
    have hbase : s'.del b = s3.delF (b :: (F1 ++ F2)) := by rw [← hdm, del_delF]
    rw [hbase] at r2 r3
    have hrd3 : RD w0 s3 b (p + 1 + 1 + 20 * n) := r1.keep (hmo b hbG)
    have k23 : Keeps (s2.del b) (s3.del b) := fun i r hi => by
      obtain ⟨e1, e2⟩ := del_some hi
      rw [del_ne e1]
      by_cases hi' : i ∈ F1 ++ F2
      · rw [hmi i hi']; exact e2
      · have hib : i ∉ b :: (F1 ++ F2) := fun h => by
          rcases List.mem_cons.1 h with h | h
          · exact e1 h
          · exact hi' h
        have := r2 i r (by rw [delF_out hib]; exact e2)
        rw [delF_out hib] at this
        exact this
    have q7' : OAcc w0 t_impl_Tree 5 (OB (RT (n + 5)) (Av.get w0 (s3.delF (b :: (F1 ++ F2))))) s3 F2 w ks :=
      OAcc.rebase (rok_rt (n + 5)) (OAcc.frame okB q7 fun i hi => hmi i (List.mem_append_right _ hi)) r2.le
    have okB' := ok_base (rok_rt (n + 5)) w0 (Av.get w0 (s3.delF (b :: (F1 ++ F2))))
    have q6' : OAcc w0 t_string 1 OStr s3 F1 u ns := q6.frame (ok_str w0) fun i hi => hmi i (List.mem_append_left _ hi)
    have hr3 := r3
    obtain ⟨e0, e1, e2, e3, e4, rfl, hp6⟩ := r3.shape
    refine pIndexAddr_mono (OSl.store okB' (y := z) (new := [e0, e1, e2, e3, e4]) (OAcc.osl q7') hkx (fun f c s'' ho => ⟨ho.1, hr3⟩) rfl (K := fun s4 => pVal true 5 (.agg (⟨[.bool d, .int .i64 m, .string t, u, w]⟩)) (R (.agg (⟨[.bool d, .int .i64 m, .string t, u, w]⟩)) s4)) fun s4 k34 o4 => ?_) fun pp hh => by
      rw [hp6]
      simp only [cellOf_agg, List.getD_cons_zero, List.getD_cons_succ]
      exact hh
    rw [pVal_5 rfl rfl rfl o1 o2]
    have hbF2 : b ∉ F2 := fun h => hbG (List.mem_append_right _ h)
    have hs4b : s4 b = s3 b := by
      cases hb : s3 b with
      | none => exact absurd hb hrd3.at
      | some r => exact k34 b r hb hbF2
    have K4 : Keeps (σ.del b) (s4.del b) := fun i r hi => by
      obtain ⟨e1', e2'⟩ := del_some hi
      have e3' := (q2.trans k23) i r hi
      rw [del_ne e1'] at e3' ⊢
      exact k34 i r e3' fun hf => by rw [(q4 i hf).1] at hi; cases hi
    have hnm : RSl 1 RS (Av.get w0 (s4.del b)) u ns := (OSl.frame (σ' := s4.del b) (ok_str w0) q6'.osl fun i hi => by
      rw [del_ne (q3 i hi).2]
      cases hs : s3 i with
      | none => exact absurd hs (q6'.dom (ok_str w0) i hi).2
      | some r => exact k34 i r hs (q5 i hi)).rel (ok_str w0)
    have hkd : RSl 5 (RT (n + 5)) (Av.get w0 (s4.del b)) w (ks.set k z) := by
      refine RSl.unbase (rok_rt (n + 5)) ((OSl.frame (σ' := s4.del b) okB' o4 fun i hi => del_ne (q4 i hi).2).rel okB') (Keeps.le fun i r hi => ?_)
      obtain ⟨g1, g2⟩ := delF_some hi
      have g3 : i ≠ b := fun e => g1 (by simp [e])
      rw [del_ne g3]
      exact k34 i r g2 fun e => g1 (by simp [e])
    refine hR _ (.mk d m t ns (ks.set k z)) s4 ((hrd3.keep hs4b).more (by omega)) K4 ⟨u, w, rfl, hmr, htr, hnm, hkd⟩ ?_
    show t.size + (ns.length + sumS ns) + ((ks.set k z).length + sumBy (szT (n + 5)) (ks.set k z)) ≤ _
    have hset := sumBy_set (f := szT (n + 5)) (y := z) hkx
    have hyy : szT (n + 5) y = szT n y := sz_more hyT (by omega)
    have hkk := kdW_more hkT (show n ≤ n + 5 by omega)
    rw [List.length_set]
    unfold nmW kdW at *
    omega

theorem spec_l4Any {b p : Nat} (h : RD w0 σ b p) (hp : p ≤ 700000) {R : Value → Vw → Prop} (hR : OutTR w0 σ b (p + 1000) 16 50000000 R) : AC Tryz.prog w0 n_spec_l4Any [ptr b] σ R := by
  refine ac_spec_l4Any ?_
  unfold vc_spec_l4Any
  refine spec_pick (n := 24) h (by omega) (by omega) fun j s1 hj hrd1 hd1 _ => ?_
  have k1 : Keeps (σ.del b) (s1.del b) := by rw [hd1]; exact Keeps.refl _
  have out : ∀ {es : List Value} {y : Tr} {s : Vw} {q N : Nat}, RD w0 s b q → q ≤ p + 1000 → Keeps (σ.del b) (s.del b) → RT N (Av.get w0 (s.del b)) es y → N ≤ 16 → szT N y ≤ 50000000 → pVal true 5 (.agg ⟨es⟩) (R (.agg (⟨[cellOf (.agg ⟨es⟩) 0, cellOf (.agg ⟨es⟩) 1, cellOf (.agg ⟨es⟩) 2, cellOf (.agg ⟨es⟩) 3, cellOf (.agg ⟨es⟩) 4]⟩)) s) := fun {es y s q N} r1 r2 r3 r4 r5 r6 => by
    have r40 := r4
    obtain ⟨f0, f1, f2, f3, f4, rfl, hp7⟩ := r4.shape
    rw [hp7]
    simp only [cellOf_agg, List.getD_cons_zero, List.getD_cons_succ]
    exact hR _ y s (r1.more r2) r3 (RT_le r5 r40) (by rw [sz_more r40.isT r5]; exact r6)
  rw [pBin_eq, pIf_d]
  refine ⟨fun _ => ?_, fun _ => ?_⟩
  · refine spec_l4Tree hrd1 (by omega) fun es y s2 hrd2 k2 hy hys => ?_
    refine spec_l4Spoil 11 hrd2 (by omega) hy (by omega) fun es' z s3 hrd3 k3 hz hzs => ?_
    exact out hrd3 (by omega) ((k1.trans k2).trans k3) hz (Nat.le_refl _) (by omega)
  rw [pBin_eq, pIf_d]
  refine ⟨fun _ => ?_, fun _ => ?_⟩
  · refine spec_l4Full hrd1 (by omega) fun es y s2 hrd2 k2 hy hys => ?_
    exact out hrd2 (by omega) (k1.trans k2) hy (by omega) (by omega)
  · refine spec_l4Tree hrd1 (by omega) fun es y s2 hrd2 k2 hy hys => ?_
    exact out hrd2 (by omega) (k1.trans k2) hy (by omega) (by omega)
end
end Go.Proofs.YtkbhjejalkbogaaGreat
