/- Pages: size, copy, comparison; the laws 'PagesOk' and 'PagesFree', of the functions alone; how pages are opened. -/
import Derived.Test.YtkndffhcncmbjaaF5
import Derived.Test.YtkndffhcncmbjaaB4
set_option linter.unusedVariables false
set_option linter.unusedSimpArgs false
namespace Go.Proofs.Ytkndffhcncmbjaa
open Go Go.Av Go.RowKit

def szPg (x : Pg) : Nat := x.data.size
def szPn (x : Pn) : Nat := x.name.size
def szPgs (x : Pgs) : Nat := (x.1.length + sumBy szPg x.1) + (x.2.length + sumBy szPn x.2)

section
variable {w0 : World} {σ : Vw}

theorem szPage {es : List Value} {x : Pg} {m : Int} {R : Value → Vw → Prop} (h : RPg (Av.get w0 σ) es x) (hm : 0 ≤ m ∧ m ≤ 9223372036854775807) (hR : R (.int .i64 (Av.left m (szPg x))) σ) : AC Try.prog w0 n_laws_szPage [.agg ⟨es⟩, .int .i64 m] σ R := by
  obtain ⟨rfl, hg⟩ := h
  refine ac_laws_szPage ?_
  unfold vc_laws_szPage
  rw [pg_three]
  show pLenS (.string x.data) _
  have := hg.1
  unfold szPg at hR
  rw [pLenS_s, pBin_sub (by omega), pBin_lt, pIf_d]
  refine ⟨fun hlt => ?_, fun hge => ?_⟩
  · rw [Av.left_low (by omega)] at hR; exact hR
  · rw [Av.left_in (by omega)] at hR; exact hR
theorem szPageName {es : List Value} {x : Pn} {m : Int} {R : Value → Vw → Prop} (h : RPn (Av.get w0 σ) es x) (hm : 0 ≤ m ∧ m ≤ 9223372036854775807) (hR : R (.int .i64 (Av.left m (szPn x))) σ) : AC Try.prog w0 n_laws_szPageName [.agg ⟨es⟩, .int .i64 m] σ R := by
  obtain ⟨rfl, hg⟩ := h
  refine ac_laws_szPageName ?_
  unfold vc_laws_szPageName
  rw [pn_three]
  show pLenS (.string x.name) _
  have := hg.1
  unfold szPn at hR
  rw [pLenS_s, pBin_sub (by omega), pBin_lt, pIf_d]
  refine ⟨fun hlt => ?_, fun hge => ?_⟩
  · rw [Av.left_low (by omega)] at hR; exact hR
  · rw [Av.left_in (by omega)] at hR; exact hR
theorem szPageS {v : Value} {xs : List Pg} {m : Int} (h : RSl 3 RPg (Av.get w0 σ) v xs) (hm : 0 ≤ m ∧ m ≤ 9223372036854775807) {R : Value → Vw → Prop} (hR : R (.int .i64 (Av.left m (xs.length + sumBy szPg xs))) σ) : AC Try.prog w0 n_laws_szPageS [v, .int .i64 m] σ R := by
  refine ac_laws_szPageS ?_
  have e : vc_laws_szPageS w0 v (.int .i64 m) σ R = VszS Try.prog w0 3 3 n_laws_szPage v (.int .i64 m) σ R := by kernel_rfl
  rw [e]
  exact szS_gen (sz := szPg) (fun x _ es m R' h hm hR => szPage h hm hR) h hm hR
theorem szPageNameS {v : Value} {xs : List Pn} {m : Int} (h : RSl 3 RPn (Av.get w0 σ) v xs) (hm : 0 ≤ m ∧ m ≤ 9223372036854775807) {R : Value → Vw → Prop} (hR : R (.int .i64 (Av.left m (xs.length + sumBy szPn xs))) σ) : AC Try.prog w0 n_laws_szPageNameS [v, .int .i64 m] σ R := by
  refine ac_laws_szPageNameS ?_
  have e : vc_laws_szPageNameS w0 v (.int .i64 m) σ R = VszS Try.prog w0 3 3 n_laws_szPageName v (.int .i64 m) σ R := by kernel_rfl
  rw [e]
  exact szS_gen (sz := szPn) (fun x _ es m R' h hm hR => szPageName h hm hR) h hm hR
theorem szPages {es : List Value} {x : Pgs} {m : Int} {R : Value → Vw → Prop} (h : RPgs (Av.get w0 σ) es x) (hm : 0 ≤ m ∧ m ≤ 9223372036854775807) (hR : R (.int .i64 (Av.left m (szPgs x))) σ) : AC Try.prog w0 n_laws_szPages [.agg ⟨es⟩, .int .i64 m] σ R := by
  refine ac_laws_szPages ?_
  unfold vc_laws_szPages
  rw [h.two]
  obtain ⟨u, w, rfl, hu, hw⟩ := h
  simp only [cellOf_agg, List.getD_cons_zero, List.getD_cons_succ]
  have hsz : szPgs x = (x.1.length + sumBy szPg x.1) + (x.2.length + sumBy szPn x.2) := rfl
  refine szPageS hu hm ?_
  rw [pBin_lt, pIf_d]
  refine ⟨fun hlt => ?_, fun hge => ?_⟩
  · rw [Av.left_neg] at hlt
    rw [Av.left_low (by omega)] at hR; exact hR
  rw [Av.left_neg] at hge
  rw [Av.left_in (by omega)]
  refine szPageNameS hw (by omega) ?_
  rw [pBin_lt, pIf_d]
  refine ⟨fun hlt => ?_, fun hge2 => ?_⟩
  · rw [Av.left_neg] at hlt
    rw [Av.left_low (by omega)] at hR; exact hR
  rw [Av.left_neg] at hge2
  rw [Av.left_in (by omega)]
  rw [Av.left_in (by omega)] at hR
  rw [show m - ((x.1.length + sumBy szPg x.1 : Nat) : Int) - ((x.2.length + sumBy szPn x.2 : Nat) : Int) = m - ((szPgs x : Nat) : Int) by omega]
  exact hR

theorem toPage {es : List Value} {x : Pg} {R : Value → Vw → Prop} (h : RPg (Av.get w0 σ) es x) (hR : ∀ es' F σ', Keeps σ σ' → OPg σ' F es' x → (∀ b, b ∈ F → σ b = none) → R (.agg ⟨es'⟩) σ') : AC Try.prog w0 n_laws_toPage [.agg ⟨es⟩] σ R := by
  obtain ⟨rfl, hg⟩ := h
  refine ac_laws_toPage ?_
  unfold vc_laws_toPage
  rw [pg_three]
  simp only [cellOf_agg, encPg, List.getD_cons_zero, List.getD_cons_succ]
  rw [pVal1 rfl, pVal1 rfl, pVal1 rfl, pVal_3 rfl rfl rfl]
  exact hR _ [] σ (Keeps.refl σ) ⟨rfl, rfl, hg⟩ (by simp)
theorem toPageName {es : List Value} {x : Pn} {R : Value → Vw → Prop} (h : RPn (Av.get w0 σ) es x) (hR : ∀ es' F σ', Keeps σ σ' → OPn σ' F es' x → (∀ b, b ∈ F → σ b = none) → R (.agg ⟨es'⟩) σ') : AC Try.prog w0 n_laws_toPageName [.agg ⟨es⟩] σ R := by
  obtain ⟨rfl, hg⟩ := h
  refine ac_laws_toPageName ?_
  unfold vc_laws_toPageName
  rw [pn_three]
  simp only [cellOf_agg, encPn, List.getD_cons_zero, List.getD_cons_succ]
  rw [pVal1 rfl, pVal1 rfl, pVal1 rfl, pVal_3 rfl rfl rfl]
  exact hR _ [] σ (Keeps.refl σ) ⟨rfl, rfl, hg⟩ (by simp)
theorem toPageS {v : Value} {xs : List Pg} (h : RSl 3 RPg (Av.get w0 σ) v xs) (hl : xs.length ≤ 1000000000000) {R : Value → Vw → Prop}
    (hR : ∀ v' F σ', Keeps σ σ' → OSl w0 3 OPg σ' F v' xs → (∀ b, b ∈ F → σ b = none) → R v' σ') : AC Try.prog w0 n_laws_toPageS [v] σ R := by
  refine ac_laws_toPageS ?_
  have e : vc_laws_toPageS w0 v σ R = VtoS Try.prog w0 3 t_impl_Page 3 32 n_laws_toPage [.bool false, .string ⟨#[]⟩, .int .i64 0] v σ R := by kernel_rfl
  rw [e]
  exact toS_gen (n := 3) (Rel := RPg) (bytes := 32) rfl (ok_pg w0) (fun _ _ _ _ hl h => h) (fun x hx s es R' _ h hR => toPage h hR) h (by omega) hR
theorem toPageNameS {v : Value} {xs : List Pn} (h : RSl 3 RPn (Av.get w0 σ) v xs) (hl : xs.length ≤ 1000000000000) {R : Value → Vw → Prop}
    (hR : ∀ v' F σ', Keeps σ σ' → OSl w0 3 OPn σ' F v' xs → (∀ b, b ∈ F → σ b = none) → R v' σ') : AC Try.prog w0 n_laws_toPageNameS [v] σ R := by
  refine ac_laws_toPageNameS ?_
  have e : vc_laws_toPageNameS w0 v σ R = VtoS Try.prog w0 3 t_impl_PageName 3 32 n_laws_toPageName [.string ⟨#[]⟩, .int .i64 0, .int .i64 0] v σ R := by kernel_rfl
  rw [e]
  exact toS_gen (n := 3) (Rel := RPn) (bytes := 32) rfl (ok_pn w0) (fun _ _ _ _ hl h => h) (fun x hx s es R' _ h hR => toPageName h hR) h (by omega) hR

theorem ok_pgs (w0 : World) : OOk w0 2 RPgs (OPgs w0) := by
  refine ⟨?_, ?_, ?_, ?_, ?_, ?_⟩
  · rintro σ F es x ⟨u, v, F1, F2, h1, h2, h3, h4, h5⟩; exact ⟨u, v, h1, h2.rel (ok_pg w0), h3.rel (ok_pn w0)⟩
  · rintro σ σ' F es x ⟨u, v, F1, F2, h1, h2, h3, rfl, h5⟩ hF
    exact ⟨u, v, F1, F2, h1, h2.frame (ok_pg w0) fun b hb => hF b (List.mem_append_left _ hb), h3.frame (ok_pn w0) fun b hb => hF b (List.mem_append_right _ hb), rfl, h5⟩
  · rintro σ F es x ⟨u, v, F1, F2, h1, h2, h3, rfl, h5⟩ b hb
    rcases List.mem_append.1 hb with h | h
    · exact h2.dom (ok_pg w0) b h
    · exact h3.dom (ok_pn w0) b h
  · rintro σ F es x ⟨u, v, F1, F2, h1, h2, h3, h4, h5⟩; exact h5
  · rintro σ F es x ⟨u, v, F1, F2, rfl, h2, h3, h4, h5⟩; rfl
  · rintro σ F es x ⟨u, v, F1, F2, rfl, h2, h3, h4, h5⟩ c hc
    simp at hc
    rcases hc with rfl | rfl
    · exact OSl.one' h2
    · exact OSl.one' h3

theorem toPages {es : List Value} {x : Pgs} {R : Value → Vw → Prop} (h : RPgs (Av.get w0 σ) es x) (hl : x.1.length ≤ 1000000000000) (hl2 : x.2.length ≤ 1000000000000) (hR : ∀ es' F σ', Keeps σ σ' → OPgs w0 σ' F es' x → (∀ b, b ∈ F → σ b = none) → R (.agg ⟨es'⟩) σ') : AC Try.prog w0 n_laws_toPages [.agg ⟨es⟩] σ R := by
  refine ac_laws_toPages ?_
  unfold vc_laws_toPages
  rw [h.two]
  obtain ⟨u, w, rfl, hu, hw⟩ := h
  simp only [cellOf_agg, List.getD_cons_zero, List.getD_cons_succ]
  refine toPageS hu hl fun u' F1 s1 k1 o1 f1 => ?_
  rw [pVal1 (OSl.one' o1)]
  refine toPageNameS (hw.mono k1.le fun _ _ h => h) hl2 fun w' F2 s2 k2 o2 f2 => ?_
  rw [pVal1 (OSl.one' o2), pVal_2 (OSl.one' o1) (OSl.one' o2)]
  have o1' := o1.frame (ok_pg w0) (k2.but_at fun b hb => (o1.dom (ok_pg w0) b hb).2)
  refine hR _ (F1 ++ F2) s2 (k1.trans k2) ⟨u', w', F1, F2, rfl, o1', o2, rfl, ?_⟩ fun b hb => ?_
  · exact List.nodup_append.2 ⟨o1.2.1, o2.2.1, fun a ha b hb e => (o1.dom (ok_pg w0) a ha).2 (f2 a (e ▸ hb))⟩
  · rcases List.mem_append.1 hb with h | h
    · exact f1 b h
    · cases hs : σ b with
      | none => rfl
      | some r => have := f2 b h; rw [k1 b r hs] at this; cases this

theorem eqPage {es es' : List Value} {x y : Pg} {R : Value → Vw → Prop} (h : RPg (Av.get w0 σ) es x) (h' : RPg (Av.get w0 σ) es' y) (hR : R (.bool (decide (x = y))) σ) : AC Try.prog w0 n_laws_eqPage [.agg ⟨es⟩, .agg ⟨es'⟩] σ R := by
  obtain ⟨rfl, hg⟩ := h
  obtain ⟨rfl, hg'⟩ := h'
  refine ac_laws_eqPage ?_
  unfold vc_laws_eqPage
  rw [pg_three, pg_three]
  obtain ⟨a, p, q⟩ := x
  obtain ⟨b, p', q'⟩ := y
  simp only [encPg, cellOf_agg, List.getD_cons_zero, List.getD_cons_succ]
  have no : ¬ (a = b ∧ p = p' ∧ q = q') → R (.bool false) σ := fun hn => by
    have : ¬ (Pg.mk a p q = Pg.mk b p' q') := fun e => hn (by cases e; exact ⟨rfl, rfl, rfl⟩)
    simpa [this] using hR
  rw [pBin_b (v := .bool (!(a == b))) (by kernel_rfl) rfl, pIf_b]
  refine ⟨fun h => no fun e => by simp [e.1] at h, fun e1 => ?_⟩
  rw [pBin_sne, pIf_d]
  refine ⟨fun h => no fun e => h e.2.1, fun e2 => ?_⟩
  rw [pBin_ne, pIf_d]
  refine ⟨fun h => no fun e => h e.2.2, fun e3 => ?_⟩
  have h1 : a = b := by simpa using e1
  have h2 := Decidable.not_not.1 e2
  have h3 := Decidable.not_not.1 e3
  subst h1 h2 h3
  simpa using hR
theorem eqPageName {es es' : List Value} {x y : Pn} {R : Value → Vw → Prop} (h : RPn (Av.get w0 σ) es x) (h' : RPn (Av.get w0 σ) es' y) (hR : R (.bool (decide (x = y))) σ) : AC Try.prog w0 n_laws_eqPageName [.agg ⟨es⟩, .agg ⟨es'⟩] σ R := by
  obtain ⟨rfl, hg⟩ := h
  obtain ⟨rfl, hg'⟩ := h'
  refine ac_laws_eqPageName ?_
  unfold vc_laws_eqPageName
  rw [pn_three, pn_three]
  obtain ⟨a, p, q⟩ := x
  obtain ⟨b, p', q'⟩ := y
  simp only [encPn, cellOf_agg, List.getD_cons_zero, List.getD_cons_succ]
  have no : ¬ (a = b ∧ p = p' ∧ q = q') → R (.bool false) σ := fun hn => by
    have : ¬ (Pn.mk a p q = Pn.mk b p' q') := fun e => hn (by cases e; exact ⟨rfl, rfl, rfl⟩)
    simpa [this] using hR
  rw [pBin_sne, pIf_d]
  refine ⟨fun h => no fun e => h e.1, fun e1 => ?_⟩
  rw [pBin_ne, pIf_d]
  refine ⟨fun h => no fun e => h e.2.1, fun e2 => ?_⟩
  rw [pBin_ne, pIf_d]
  refine ⟨fun h => no fun e => h e.2.2, fun e3 => ?_⟩
  have h1 := Decidable.not_not.1 e1
  have h2 := Decidable.not_not.1 e2
  have h3 := Decidable.not_not.1 e3
  subst h1 h2 h3
  simpa using hR
theorem eqPageS {v v' : Value} {xs ys : List Pg} (h : RSl 3 RPg (Av.get w0 σ) v xs) (h' : RSl 3 RPg (Av.get w0 σ) v' ys) {R : Value → Vw → Prop} (hR : R (.bool (decide (xs = ys))) σ) : AC Try.prog w0 n_laws_eqPageS [v, v'] σ R := by
  refine ac_laws_eqPageS ?_
  have e : vc_laws_eqPageS w0 v v' σ R = VeqS Try.prog w0 3 3 n_laws_eqPage v v' σ R := by kernel_rfl
  rw [e]
  exact eqS_gen (fun x _ y es es' R' h h' hR => eqPage h h' hR) h h' hR
theorem eqPageNameS {v v' : Value} {xs ys : List Pn} (h : RSl 3 RPn (Av.get w0 σ) v xs) (h' : RSl 3 RPn (Av.get w0 σ) v' ys) {R : Value → Vw → Prop} (hR : R (.bool (decide (xs = ys))) σ) : AC Try.prog w0 n_laws_eqPageNameS [v, v'] σ R := by
  refine ac_laws_eqPageNameS ?_
  have e : vc_laws_eqPageNameS w0 v v' σ R = VeqS Try.prog w0 3 3 n_laws_eqPageName v v' σ R := by kernel_rfl
  rw [e]
  exact eqS_gen (fun x _ y es es' R' h h' hR => eqPageName h h' hR) h h' hR
theorem eqPages {es es' : List Value} {x y : Pgs} {R : Value → Vw → Prop} (h : RPgs (Av.get w0 σ) es x) (h' : RPgs (Av.get w0 σ) es' y) (hR : R (.bool (decide (x = y))) σ) : AC Try.prog w0 n_laws_eqPages [.agg ⟨es⟩, .agg ⟨es'⟩] σ R := by
  refine ac_laws_eqPages ?_
  unfold vc_laws_eqPages
  rw [h.two, h'.two]
  obtain ⟨u, w, rfl, hu, hw⟩ := h
  obtain ⟨u', w', rfl, hu', hw'⟩ := h'
  simp only [cellOf_agg, List.getD_cons_zero, List.getD_cons_succ]
  obtain ⟨a, b⟩ := x
  obtain ⟨c, d⟩ := y
  refine eqPageS hu hu' ?_
  rw [pUn_not, pIf_b]
  by_cases e1 : a = c
  · subst e1
    refine ⟨fun h => by simp at h, fun _ => ?_⟩
    refine eqPageNameS hw hw' ?_
    rw [pUn_not, pIf_b]
    by_cases e2 : b = d
    · subst e2; simpa using hR
    · simpa [e2] using hR
  · simpa [e1] using hR
end

theorem open_page {H : Type} {enc : TypeId × Value → H} {W : World} {spare : Nat → Bool} (fuel : Nat) (es : List Value) (y : DataW H × List MemPlace) (h : DataW.trod enc Try.prog W 0 spare true fuel t_laws_Page es = some y) (hl : es.length = 3) : ∃ x, RPg (Av.get W σ0) es x := by
  have hT : Try.prog.underlying t_laws_Page = some (.struct (fsOf Try.prog t_laws_Page)) := by kernel_rfl
  obtain ⟨f0, y0, l0, h0⟩ := open_field' hT 0 t_bool 0 1 (by kernel_rfl) (by kernel_rfl) h
  obtain ⟨f1, y1, l1, h1⟩ := open_field' hT 1 t_string 1 1 (by kernel_rfl) (by kernel_rfl) h
  obtain ⟨f2, y2, l2, h2⟩ := open_field' hT 2 t_int 2 1 (by kernel_rfl) (by kernel_rfl) h
  obtain ⟨b, hb⟩ := open_bool (by kernel_rfl) h0
  obtain ⟨t, ht, ht2⟩ := open_str (by kernel_rfl) h1
  obtain ⟨m, hm, hm2⟩ := open_int (by kernel_rfl) h2
  refine ⟨⟨b, t, m⟩, ?_, ht2, hm2⟩
  match es, hl with
  | [p, q, r], _ =>
    simp at hb ht hm
    subst hb ht hm
    rfl
theorem open_pagename {H : Type} {enc : TypeId × Value → H} {W : World} {spare : Nat → Bool} (fuel : Nat) (es : List Value) (y : DataW H × List MemPlace) (h : DataW.trod enc Try.prog W 0 spare true fuel t_laws_PageName es = some y) (hl : es.length = 3) : ∃ x, RPn (Av.get W σ0) es x := by
  have hT : Try.prog.underlying t_laws_PageName = some (.struct (fsOf Try.prog t_laws_PageName)) := by kernel_rfl
  obtain ⟨f0, y0, l0, h0⟩ := open_field' hT 0 t_string 0 1 (by kernel_rfl) (by kernel_rfl) h
  obtain ⟨f1, y1, l1, h1⟩ := open_field' hT 1 t_int 1 1 (by kernel_rfl) (by kernel_rfl) h
  obtain ⟨f2, y2, l2, h2⟩ := open_field' hT 2 t_int 2 1 (by kernel_rfl) (by kernel_rfl) h
  obtain ⟨t, ht, ht2⟩ := open_str (by kernel_rfl) h0
  obtain ⟨m, hm, hm2⟩ := open_int (by kernel_rfl) h1
  obtain ⟨k, hk, hk2⟩ := open_int (by kernel_rfl) h2
  refine ⟨⟨t, m, k⟩, ?_, ht2, hm2, hk2⟩
  match es, hl with
  | [p, q, r], _ =>
    simp at ht hm hk
    subst ht hm hk
    rfl
theorem open_pages {H : Type} {enc : TypeId × Value → H} {W : World} {spare : Nat → Bool} (fuel : Nat) (es : List Value) (y : DataW H × List MemPlace) (h : DataW.trod enc Try.prog W 0 spare true fuel t_laws_Pages es = some y) (hl : es.length = 2) : ∃ x, RPgs (Av.get W σ0) es x := by
  have hT : Try.prog.underlying t_laws_Pages = some (.struct (fsOf Try.prog t_laws_Pages)) := by kernel_rfl
  obtain ⟨f0, y0, l0, h0⟩ := open_field' hT 0 t_s_laws_Page 0 1 (by kernel_rfl) (by kernel_rfl) h
  obtain ⟨f1, y1, l1, h1⟩ := open_field' hT 1 t_s_laws_PageName 1 1 (by kernel_rfl) (by kernel_rfl) h
  obtain ⟨u, ps, hu, hus⟩ := open_rsl (t := t_s_laws_Page) (e := t_laws_Page) (n := 3) (R := RPg) (by kernel_rfl) (by kernel_rfl) open_page h0
  obtain ⟨v, ns, hv, hvs⟩ := open_rsl (t := t_s_laws_PageName) (e := t_laws_PageName) (n := 3) (R := RPn) (by kernel_rfl) (by kernel_rfl) open_pagename h1
  refine ⟨(ps, ns), u, v, ?_, hus, hvs⟩
  match es, hl with
  | [p, q], _ =>
    simp at hu hv
    subst hu hv
    rfl
end Go.Proofs.Ytkndffhcncmbjaa
