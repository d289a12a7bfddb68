/- Pages: the chain of a text by the program's own reading. -/
import Derived.Test.YtkndffhcncmbjaaF1
set_option linter.unusedVariables false
set_option linter.unusedSimpArgs false
namespace Go.Proofs.Ytkndffhcncmbjaa
open Go Go.Av

section
variable {w0 : World} {σ : Vw}

theorem impl_pieces {n s : Int} (h : 0 ≤ n ∧ n ≤ 1000000000000 ∧ 0 < s ∧ s ≤ 1000000) {R : Value → Vw → Prop} (hR : R (.int .i64 ((n + s - 1) / s)) σ) : AC Try.prog w0 n_impl_pieces [.int .i64 n, .int .i64 s] σ R := by
  refine ac_impl_pieces ?_
  unfold vc_impl_pieces
  rw [pBin_add (by omega), pBin_sub (by omega), pBin_quo (by omega)]
  exact hR

theorem has_int {v : Value} {xs : List Nat} {a : Int} (h : RSl 1 RN (Av.get w0 σ) v xs) {R : Value → Vw → Prop} (hR : ∀ b : Bool, (b = true ↔ ∃ i : Nat, i ∈ xs ∧ a = i) → R (.bool b) σ) : AC Try.prog w0 n_slices_Contains_int_int [v, .int .i64 a] σ R := by
  refine ac_slices_Contains_int_int ?_
  unfold vc_slices_Contains_int_int
  refine ac_slices_Index_int_int ?_
  unfold vc_slices_Index_int_int
  have hl := h.le
  rw [h.len]
  refine loop_rule (m := xs.length) (fun c l s => ∃ j, s = σ ∧ c + j = xs.length ∧ (∀ (i y : Nat), i < j → xs[i]? = some y → a ≠ y) ∧ l = [v, .int .i64 a, .int .i64 0, .int .i64 xs.length, .int .i64 (j : Nat)]) ?_ ⟨0, rfl, by omega, fun i y h => by omega, rfl⟩
  rintro c l s L ⟨j, rfl, hc, ht, rfl⟩ hL
  simp only [vget, List.getD_cons_zero, List.getD_cons_succ]
  rw [pBin_lt, pIf_d]
  refine ⟨fun hj => ?_, fun hj => ?_⟩
  · have hx := List.getElem?_eq_getElem (show j < xs.length by omega)
    generalize hxj : xs[j] = y at hx
    refine h.at hx fun g hg => ?_
    obtain ⟨hg, hs⟩ := hg
    simp only [expl, encN, List.cons.injEq, and_true] at hg
    rw [hg, pBin_eq, pIf_d]
    refine ⟨fun he => ?_, fun hne => ?_⟩
    · rw [pBin_ge]
      have e : decide ((0 : Int) ≤ (j : Nat)) = true := by simp
      rw [e]
      exact hR true ⟨fun _ => ⟨y, List.mem_of_getElem? hx, he⟩, fun _ => rfl⟩
    · rw [pBin_add (by omega)]
      refine hL _ _ (c - 1) (by omega) ⟨j + 1, rfl, by omega, fun i z hi hz => ?_, rfl⟩
      by_cases e : i = j
      · subst e; rw [hx] at hz; cases hz; exact hne
      · exact ht i z (by omega) hz
  · show pBin Try.prog 3 .geq (.int .i64 (-1)) (.int .i64 0) _
    rw [pBin_ge]
    have e : decide ((0 : Int) ≤ -1) = false := by decide
    rw [e]
    refine hR false ⟨fun h => (by cases h), fun ⟨i, hi, he⟩ => ?_⟩
    obtain ⟨k, hk⟩ := List.getElem?_of_mem hi
    exact absurd he (ht k i (by have := (List.getElem?_eq_some_iff.1 hk).1; omega) hk)

theorem impl_Chain {es : List Value} {x : Pgs} {n : Pn} (h : RPgs (Av.get w0 σ) es x) (hn : goodPn n) (h96 : x.1.length = 96) (hsz : 0 ≤ n.size ∧ n.size ≤ 3000) {R : Value → Vw → Prop}
    (hR : ∀ v F σ', Keeps σ σ' → OSl w0 1 ON σ' F v ((chI x.1 n).getD []) ∨ chI x.1 n = none → (∀ i, i ∈ F → σ i = none) → R (.tuple ⟨[v, .bool (chI x.1 n).isSome]⟩) σ') : AC Try.prog w0 n_impl_Pages_chain [.agg ⟨es⟩, .agg ⟨encPn n⟩] σ R := by
  refine ac_impl_Pages_chain ?_
  unfold vc_impl_Pages_chain
  have he : ∀ a : Int, (fun a : Int => a = -1) a → a < 0 := fun a (h : a = -1) => by omega
  rw [h.two, pn_three]
  obtain ⟨u, w, rfl, hu, hw⟩ := h
  simp only [cellOf_agg, List.getD_cons_zero, List.getD_cons_succ, encPn]
  intro b h1 h2
  have ha := OAcc.new (w0 := w0) (σ := σ) (ety := t_int) (n := 1) (O := ON) h1
  have bad : ∀ (v : Value) (F : List Nat) (s : Vw), Keeps σ s → (∀ i, i ∈ F → σ i = none) → chI x.1 n = none → R (.tuple ⟨[v, .bool false]⟩) s := fun v F s hk hF hc => by
    have := hR v F s hk (.inr hc) hF
    rw [hc] at this; exact this
  refine impl_pieces (by omega) ?_
  obtain ⟨q, hq⟩ : ∃ q : Nat, (n.size + 40 - 1) / 40 = q := ⟨((n.size + 40 - 1) / 40).toNat, by omega⟩
  rw [hq]
  refine loop_rule (m := q) (fun c l s => ∃ (k : Nat) (out : List Nat) (v : Value) (F : List Nat) (a : Int), c + k = q ∧ out.length = k ∧ out.Nodup ∧ rng a ∧ Keeps σ s ∧ (∀ i, i ∈ F → σ i = none) ∧ OAcc w0 t_int 1 ON s F v out ∧ At (fun a => a = -1) x.1 n.first n.size out a (if n.size - k * 40 < 0 then 0 else n.size - k * 40) ∧
      l = [.slice none 0 0, .bool false, v, .int .i64 a, .int .i64 q, .int .i64 (k : Nat), u, w, .string n.name, .int .i64 n.first, .int .i64 n.size]) ?_
    ⟨0, [], _, [b], n.first, by omega, rfl, by simp, hn.2.1, Keeps.put h2, fun i hi => by rw [List.mem_singleton.1 hi]; exact h2, ha, by
      rw [show (if n.size - (0 : Nat) * 40 < 0 then 0 else n.size - (0 : Nat) * 40) = n.size by split <;> omega]; exact At.start, rfl⟩
  rintro c l s L ⟨k, out, v, F, a, hc, hol, hnd, hra, hk, hF, ho, hat, rfl⟩ hL
  simp only [vget, List.getD_cons_zero, List.getD_cons_succ]
  have hus := hu.mono hk.le fun _ _ h => h
  rw [pBin_lt, pIf_d]
  refine ⟨fun hlt => ?_, fun hge => ?_⟩
  · have hpos : 0 < n.size - (k : Int) * 40 := by omega
    rw [if_neg (by omega)] at hat
    rw [pBin_mul (by omega), pBin_sub (by omega), pMin_s]
    refine impl_within ?_
    rw [pUn_not, pIf_b]
    have nop : ∀ (P : Prop), (∀ (i : Nat) (p : Pg), a = i → x.1[i]? = some p → (out ++ [i]).Nodup → p.used = true → (p.data.size : Int) = min 40 (n.size - k * 40) → False) → chI x.1 n = none := fun P hP => hat.fail fun r hr hg => by
      cases r with
      | nil => have := hr.2; omega
      | cons j r =>
        obtain ⟨g1, g2, q, g3, g4, g5, _⟩ := hr
        refine hP j q g1 g3 ?_ g4 g5
        rw [show out ++ j :: r = (out ++ [j]) ++ r by simp] at hg
        exact (List.nodup_append.1 hg).1
    refine ⟨fun hin => bad _ F s hk hF (nop True fun i p h1 h2 _ _ _ => ?_), fun hin => ?_⟩
    · have := (List.getElem?_eq_some_iff.1 h2).1
      simp [inB] at hin; omega
    have hin' : 0 ≤ a ∧ a ≤ 95 := by simpa [inB] using hin
    obtain ⟨i, hi⟩ : ∃ i : Nat, a = i := ⟨a.toNat, by omega⟩
    subst hi
    have hx := List.getElem?_eq_getElem (show i < x.1.length by omega)
    generalize hxi : x.1[i]'(by omega) = p at hx
    refine has_int (ho.osl.rel (ok_n w0)) fun bb hbb => ?_
    rw [pIf_b]
    refine ⟨fun hb => bad _ F s hk hF (nop True fun j q h1 h2 h3 _ _ => ?_), fun hb => ?_⟩
    · obtain ⟨i', hi', he'⟩ := hbb.1 hb
      have : j = i' := by omega
      subst this
      exact (List.nodup_append.1 h3).2.2 j hi' j (by simp) rfl
    have hni : i ∉ out := fun hm => by rw [hbb.2 ⟨i, hm, rfl⟩] at hb; cases hb
    have same : ∀ (j : Nat) (q : Pg), ((i : Nat) : Int) = j → x.1[j]? = some q → q = p := fun j q h1 h2 => by
      have : i = j := by omega
      subst this
      rw [hx] at h2; cases h2; rfl
    refine fl_at hus hx 0 (by omega) rfl fun g hg hgood => ?_
    rw [hg, pUn_not, pIf_b]
    refine ⟨fun hb => bad _ F s hk hF (nop True fun j q h1 h2 _ h4 _ => by rw [same j q h1 h2] at h4; rw [h4] at hb; cases hb), fun hb => ?_⟩
    have hused : p.used = true := by simpa using hb
    refine fl_at hus hx 1 (by omega) rfl fun g hg hgood => ?_
    rw [hg, pLenS_s, pBin_ne, pIf_d]
    refine ⟨fun hne => bad _ F s hk hF (nop True fun j q h1 h2 _ _ h5 => by rw [same j q h1 h2] at h5; exact hne h5), fun heq => ?_⟩
    have hds : (p.data.size : Int) = min 40 (n.size - k * 40) := Decidable.not_not.1 heq
    rw [pVal1 rfl]
    refine ho.one (ok_n w0) (f := []) (y := i) ⟨rfl, rfl, show i ≤ _ by omega⟩ (by simp) (by omega) (by omega) fun v' F' s' k' o' f' => ?_
    have hk' : Keeps σ s' := k'.old hk hF
    refine fl_at (hu.mono hk'.le fun _ _ h => h) hx 2 (by omega) rfl fun g hg hgood => ?_
    rw [hg, pBin_add (by omega)]
    refine hL _ _ (c - 1) (by omega) ⟨k + 1, out ++ [i], v', F', p.next, by omega, by simp [hol], ?_, hgood.2, hk', fun j hj => ?_, o', ?_, rfl⟩
    · exact List.nodup_append.2 ⟨hnd, by simp, fun a ha b hb e => by rw [List.mem_singleton.1 hb] at e; exact hni (e ▸ ha)⟩
    · rcases f' j hj with h | h | h
      · exact hF j h
      · cases h
      · cases hs : σ j with
        | none => rfl
        | some r => rw [hk j r hs] at h; cases h
    · have := hat.step he rfl hpos hx hused hds
      rw [show (if n.size - ((k + 1 : Nat) : Int) * 40 < 0 then 0 else n.size - ((k + 1 : Nat) : Int) * 40) = n.size - k * 40 - min 40 (n.size - k * 40) by split <;> omega]
      exact this
  · have hk0 : n.size - (k : Int) * 40 ≤ 0 := by omega
    have e0 : (if n.size - (k : Int) * 40 < 0 then 0 else n.size - (k : Int) * 40) = 0 := by split <;> omega
    rw [e0] at hat
    show pBin Try.prog 3 .eql (.int .i64 a) (.int .i64 (-1)) _
    rw [pBin_eq]
    by_cases h1 : a = -1
    · have hc : chI x.1 n = some out := hat.done he h1 hnd
      have := hR v F s hk (.inl (by rw [hc]; exact ho.osl)) hF
      rw [hc] at this
      simpa [h1] using this
    · have hc : chI x.1 n = none := hat.fail fun r hr _ => by
        cases r with
        | nil => exact h1 hr.1
        | cons j r => have := hr.2.1; omega
      have := bad v F s hk hF hc
      simpa [h1] using this
end
end Go.Proofs.Ytkndffhcncmbjaa
