/- Pages: 'PagesOk' by the program's own text; how many are free. -/
import Derived.Test.YtkndffhcncmbjaaF4
import Derived.Test.YtkndffhcncmbjaaC6
set_option linter.unusedVariables false
set_option linter.unusedSimpArgs false
namespace Go.Proofs.Ytkndffhcncmbjaa
open Go Go.Av

section
variable {w0 : World} {σ : Vw}

theorem arr_idx {b : Nat} {i : Nat} {K : Value → Prop} (h : pIndexAddr 1 (.slice (some ⟨b, 0, none⟩) 96 96) (.int .i64 i) K) : pIndexArr 96 1 (.pointer (some ⟨b, 0, none⟩)) (.int .i64 i) K := by
  obtain ⟨a, len, cap, k, n, h1, h2, h3, h4, h5⟩ := h
  cases h1; cases h2
  exact ⟨_, _, _, rfl, rfl, h3, h4, h5⟩

theorem impl_PagesOk {es : List Value} {x : Pgs} (h : RPgs (Av.get w0 σ) es x) {R : Value → Vw → Prop} (hR : ∀ σ', Keeps σ σ' → R (.bool (pagesOk x)) σ') : AC Try.prog w0 n_impl_PagesOk [.agg ⟨es⟩] σ R := by
  have hh := h
  refine ac_impl_PagesOk ?_
  unfold vc_impl_PagesOk
  rw [h.two]
  obtain ⟨u, w, rfl, hu, hw⟩ := h
  simp only [cellOf_agg, List.getD_cons_zero, List.getD_cons_succ]
  classical
  rw [show pagesOk x = decide (OkI x) by unfold pagesOk; exact decide_eq_decide.2 (ok_same x)] at hR
  have no : ¬ OkI x → ∀ s, Keeps σ s → R (.bool false) s := fun hn s hk => by have := hR s hk; simpa [hn] using this
  rw [hu.len, pBin_ne, pIf_d]
  refine ⟨fun hne => no (fun hk => hne (by rw [hk.1]; rfl)) σ (Keeps.refl σ), fun heq => ?_⟩
  have h96 : x.1.length = 96 := by omega
  rw [hw.len, pBin_gt, pIf_d]
  refine ⟨fun hgt => no (fun hk => by have := hk.2.1; omega) σ (Keeps.refl σ), fun hle => ?_⟩
  have h16 : x.2.length ≤ 16 := by omega
  intro b h1 h2
  show pVal true 96 (.agg ⟨List.replicate 96 (.bool false)⟩) (pStore _ (List.replicate 96 (.bool false)) _ _)
  rw [pValN (by simp) (fun c hc => by rw [List.eq_of_mem_replicate hc]; rfl)]
  refine ⟨b, 0, ⟨t_a96_bool, List.replicate 96 (.bool false), 96, (0, 0)⟩, rfl, put_at, by simp, ?_⟩
  have e1 := setAt_mid [] (List.replicate 96 (Value.bool false)) (List.replicate 96 (Value.bool false)) [] rfl
  simp only [List.nil_append, List.append_nil, List.length_nil] at e1
  have e2 : (σ.put b ⟨t_a96_bool, List.replicate 96 (.bool false), 96, (0, 0)⟩).put b ⟨t_a96_bool, setAt (List.replicate 96 (.bool false)) 0 (List.replicate 96 (.bool false)), 96, (0, 0)⟩ = σ.put b ⟨t_a96_bool, (List.replicate 96 [Value.bool false]).flatten, 96, (0, 0)⟩ := by
    rw [put_put, e1]; rfl
  have o0 := made_bools (ety := t_a96_bool) h1 h2
  rw [← e2] at o0
  have k0 : Keeps σ ((σ.put b ⟨t_a96_bool, List.replicate 96 (.bool false), 96, (0, 0)⟩).put b ⟨t_a96_bool, setAt (List.replicate 96 (.bool false)) 0 (List.replicate 96 (.bool false)), 96, (0, 0)⟩) := by rw [e2]; exact Keeps.put h2
  clear e1 e2
  show pLen w _
  rw [hw.len]
  have hF0 : ∀ i, i ∈ [b] → σ i = none := fun i hi => by rw [List.mem_singleton.1 hi]; exact h2
  refine loop_rule (m := x.2.length) (fun c l s => ∃ j : Nat, c + j = x.2.length ∧ Keeps σ s ∧ (∀ (i : Nat) (n : Pn), i < j → x.2[i]? = some n → pnAt x.2 i n ∧ (chI x.1 n).isSome = true) ∧ (lsOf (chI x.1) (x.2.take j)).Nodup ∧
    OSl w0 1 OBo s [b] (.slice (some ⟨b, 0, none⟩) 96 96) (inL 96 (lsOf (chI x.1) (x.2.take j))) ∧ l = [.bool false, .pointer (some ⟨b, 0, none⟩), w, .int .i64 x.2.length, .int .i64 (j : Nat), u, w]) ?_
    ⟨0, by omega, k0, fun i n h => by omega, by simp [lsOf], by simpa [lsOf] using o0, rfl⟩
  rintro c l s L ⟨j, hc, hk, hdone, hnd, os, rfl⟩ hL
  simp only [vget, List.getD_cons_zero, List.getD_cons_succ]
  have hws := hw.mono hk.le fun _ _ h => h
  rw [pBin_lt, pIf_d]
  refine ⟨fun hj => ?_, fun hj => ?_⟩
  · have hx := List.getElem?_eq_getElem (show j < x.2.length by omega)
    generalize hxj : x.2[j]'(by omega) = n at hx
    refine pn_at hws hx fun g hg0 hg1 hg2 hgood => ?_
    rw [hg0, hg1, hg2, pVal_3 rfl rfl rfl]
    refine impl_nameOk hgood.1 ?_
    rw [pUn_not, pIf_b]
    refine ⟨fun hb => no (fun hk => by have := (hk.2.2.1 j n hx).1.1; rw [this] at hb; cases hb) s hk, fun hb => ?_⟩
    have hname : nameOk n.name = true := by simpa using hb
    rw [pBin_gt, pIf_d]
    refine ⟨fun hpos => ?ca, fun h0 => ?cb⟩
    case' ca =>
      obtain ⟨i, hi⟩ : ∃ i, j = i + 1 := ⟨j - 1, by omega⟩
      rw [pBin_sub (by omega), show ((j : Nat) : Int) - 1 = (i : Nat) by omega]
      have hy := List.getElem?_eq_getElem (show i < x.2.length by omega)
      generalize hyi : x.2[i]'(by omega) = y at hy
      refine fl_at hws hy 0 (by omega) rfl fun g2 hg2' hgood2 => ?_
      have hpv : prevN x.2 j n = strLt y.name n.name := by rw [hi]; simp [prevN, hy]
      rw [hg2', pBin_sge, pIf_b]
      refine ⟨fun hb => no (fun hk => by have := (hk.2.2.1 j n hx).1.2.1; rw [hpv] at this; rw [this] at hb; cases hb) s hk, fun hb => ?_⟩
      have hprev : prevN x.2 j n = true := by rw [hpv]; simpa using hb
    case' cb =>
      have hj0 : j = 0 := by omega
      have hprev : prevN x.2 j n = true := by rw [hj0]; rfl
    all_goals
      refine impl_within ?_
      rw [pUn_not, pIf_b]
      refine ⟨fun hb => no (fun hk => by have := (hk.2.2.1 j n hx).1.2.2; rw [this] at hb; cases hb) s hk, fun hb => ?_⟩
      have hin : inB n.size 0 3000 = true := by simpa using hb
      have hin' : 0 ≤ n.size ∧ n.size ≤ 3000 := by simpa [inB] using hin
      refine impl_Chain (mono_pgs hk.le hh) hgood h96 hin' fun v F s1 k1 ov fv => ?_
      rw [pExtract_s rfl, pExtract_s rfl, pUn_not, pIf_b]
      refine ⟨fun hb => no (fun hk => by have := (hk.2.2.1 j n hx).2; rw [this] at hb; cases hb) s1 (hk.trans k1), fun hb => ?_⟩
      have hsome : (chI x.1 n).isSome = true := by simpa using hb
      obtain ⟨r, hr⟩ := Option.isSome_iff_exists.1 hsome
      have ov' : OSl w0 1 ON s1 F v r := by
        rcases ov with h | h
        · rw [hr] at h; exact h
        · rw [hr] at h; cases h
      have hch := (chOf_spec hr).1
      have hlt := lsOf_take (c := chI x.1) hx
      rw [hr, Option.getD_some] at hlt
      have os1 := os.frame (ok_bo w0) (k1.but_at fun i hi => (os.dom (ok_bo w0) i hi).2)
      have hFb : ∀ i, i ∈ F → i ∉ [b] := fun i hi hi' => (os.dom (ok_bo w0) i hi').2 (fv i hi)
      rw [(ov'.rel (ok_n w0)).len]
      refine loop_rule (m := r.length) (fun c' l' s' => ∃ k : Nat, c' + k = r.length ∧ KeepsBut [b] s1 s' ∧ (lsOf (chI x.1) (x.2.take j) ++ r.take k).Nodup ∧ OSl w0 1 OBo s' [b] (.slice (some ⟨b, 0, none⟩) 96 96) (inL 96 (lsOf (chI x.1) (x.2.take j) ++ r.take k)) ∧
        l' = [.bool false, .pointer (some ⟨b, 0, none⟩), w, .int .i64 x.2.length, .int .i64 (j : Nat), v, .int .i64 r.length, .int .i64 (k : Nat), u, w]) ?_ ⟨0, by omega, KeepsBut.refl _ _, by simpa using hnd, by simpa using os1, rfl⟩
      rintro c' l' s' L' ⟨k, hc', kb, hnd', os', rfl⟩ hL'
      simp only [vget, List.getD_cons_zero, List.getD_cons_succ]
      have hks' : Keeps σ s' := kb.old (hk.trans k1) hF0
      have ov2 := ov'.frame (ok_n w0) (kb.at (fun i hi => (ov'.dom (ok_n w0) i hi).2) hFb)
      have rv := ov2.rel (ok_n w0)
      have rl := ov'.1
      rw [pBin_lt, pIf_d]
      refine ⟨fun hkl => ?_, fun hkl => ?_⟩
      · have hrk := List.getElem?_eq_getElem (show k < r.length by omega)
        generalize hrki : r[k]'(by omega) = p at hrk
        have hp96 : p < 96 := by rw [← h96]; exact ch_lt hch (List.mem_of_getElem? hrk)
        refine n_at rv hrk fun g hg => ?_
        rw [hg]
        refine arr_idx ?_
        refine bool_at (os'.rel (ok_bo w0)) (inL_get hp96) fun g' hg' => ?_
        rw [hg', pIf_d]
        have htk : r.take (k + 1) = r.take k ++ [p] := by rw [List.take_add_one, hrk]; rfl
        refine ⟨fun hm => no (fun hk => ?_) s' hks', fun hm => ?_⟩
        · have hn2 := lsOf_pre (j := j + 1) hk.2.2.2.1
          rw [hlt] at hn2
          have e : r = r.take (k + 1) ++ r.drop (k + 1) := (List.take_append_drop _ _).symm
          rw [e, htk] at hn2
          rw [show ∀ (A B C D : List Nat), A ++ (B ++ C ++ D) = (A ++ B) ++ (C ++ D) by intros; simp] at hn2
          exact (List.nodup_append.1 hn2).2.2 p hm p (by simp) rfl
        · refine arr_idx ?_
          refine bool_store os' (inL_get hp96) fun s2 k2 o2 => ?_
          rw [pBin_add (by omega)]
          rw [inL_set hp96, List.append_assoc, ← htk] at o2
          refine hL' _ _ (c' - 1) (by omega) ⟨k + 1, by omega, kb.trans k2, ?_, o2, rfl⟩
          rw [htk, ← List.append_assoc]
          exact List.nodup_append.2 ⟨hnd', by simp, fun a ha d hd e => by rw [List.mem_singleton.1 hd] at e; exact hm (e ▸ ha)⟩
      · have hkr : k = r.length := by omega
        subst hkr
        rw [List.take_length, ← hlt] at hnd' os'
        show pBin Try.prog 3 .add _ _ _
        rw [pBin_add (by omega)]
        refine hL _ _ (c - 1) (by omega) ⟨j + 1, by omega, hks', fun i m hi he => ?_, hnd', os', rfl⟩
        by_cases e : i = j
        · subst e
          rw [hx] at he; cases he
          exact ⟨⟨hname, hprev, hin⟩, hsome⟩
        · exact hdone i m (by omega) he
  · have hjl : j = x.2.length := by omega
    subst hjl
    rw [List.take_length] at hnd os
    show pLen u _
    have hus0 := hu.mono hk.le fun _ _ h => h
    rw [hus0.len, h96]
    have ob := os.rel (ok_bo w0)
    refine loop_rule (m := 96) (fun c' l' s' => ∃ k : Nat, c' + k = 96 ∧ s' = s ∧ (∀ (i : Nat) (p : Pg), i < k → x.1[i]? = some p → i ∉ lsOf (chI x.1) x.2 → p.used = false ∧ p.data = ⟨#[]⟩ ∧ p.next = -1) ∧
      l' = [.bool false, .pointer (some ⟨b, 0, none⟩), u, .int .i64 96, .int .i64 (k : Nat)]) ?_ ⟨0, by omega, rfl, fun i p h => by omega, rfl⟩
    rintro c' l' s' L' ⟨k, hc', rfl, hd, rfl⟩ hL'
    simp only [vget, List.getD_cons_zero, List.getD_cons_succ]
    have hus := hu.mono hk.le fun _ _ h => h
    rw [pBin_lt, pIf_d]
    refine ⟨fun hk96 => ?_, fun hk96 => ?_⟩
    · have hx := List.getElem?_eq_getElem (show k < x.1.length by omega)
      generalize hxk : x.1[k]'(by omega) = p at hx
      refine pg_at hus hx fun g hg0 hg1 hg2 hgood => ?_
      rw [hg0, hg1, hg2, pVal_3 rfl rfl rfl]
      refine arr_idx ?_
      refine bool_at ob (inL_get (show k < 96 by omega)) fun g' hg' => ?_
      have next : (k ∉ lsOf (chI x.1) x.2 → p.used = false ∧ p.data = ⟨#[]⟩ ∧ p.next = -1) → pBin Try.prog 3 .add (.int .i64 (k : Nat)) (.int .i64 1) (fun v99 => L' [.bool false, .pointer (some ⟨b, 0, none⟩), u, .int .i64 96, v99] s') := fun hz => by
        rw [pBin_add (by omega)]
        refine hL' _ _ (c' - 1) (by omega) ⟨k + 1, by omega, rfl, fun i q hi hq => ?_, rfl⟩
        by_cases e : i = k
        · subst e; rw [hx] at hq; cases hq
          exact hz
        · exact hd i q (by omega) hq
      rw [hg', pUn_not, pIf_b]
      refine ⟨fun hb => ?_, fun hb => next fun hn => by simp [hn] at hb⟩
      have hni : k ∉ lsOf (chI x.1) x.2 := by simpa using hb
      rw [pIf_b]
      refine ⟨fun hu => no (fun hk => by rw [(hk.2.2.2.2 k p hx hni).1] at hu; cases hu) s' (by assumption), fun hu => ?_⟩
      rw [pBin_sne, pIf_d]
      refine ⟨fun hne => no (fun hk => hne (hk.2.2.2.2 k p hx hni).2.1) s' (by assumption), fun heq => ?_⟩
      rw [pBin_ne, pIf_d]
      refine ⟨fun hne => no (fun hk => hne (hk.2.2.2.2 k p hx hni).2.2) s' (by assumption), fun heq2 => ?_⟩
      exact next fun _ => ⟨hu, Decidable.not_not.1 heq, Decidable.not_not.1 heq2⟩
    · have := hR s' (by assumption)
      have hok : OkI x := ⟨h96, h16, fun i n he => hdone i n (List.getElem?_eq_some_iff.1 he).1 he, hnd, fun i p hp => hd i p (by have := (List.getElem?_eq_some_iff.1 hp).1; omega) hp⟩
      simpa [hok] using this

/-- How many pages are free. -/
def freeN (ps : List Pg) : Nat := sumBy (fun p => if p.used = true then 0 else 1) ps
theorem freeN_le (ps : List Pg) : freeN ps ≤ ps.length := by
  induction ps with
  | nil => simp [freeN, sumBy]
  | cons a r ih => unfold freeN at *; simp only [sumBy, List.length_cons]; split <;> omega

theorem spec_Free {es : List Value} {x : Pgs} (h : RPgs (Av.get w0 σ) es x) (hl : x.1.length ≤ 1000000000000) {R : Value → Vw → Prop} (hR : R (.int .i64 (freeN x.1 : Nat)) σ) : AC Try.prog w0 n_spec_l32Free [.agg ⟨es⟩] σ R := by
  refine ac_spec_l32Free ?_
  unfold vc_spec_l32Free
  rw [h.two]
  obtain ⟨u, w, rfl, hu, hw⟩ := h
  simp only [cellOf_agg, List.getD_cons_zero, List.getD_cons_succ]
  have hle := freeN_le x.1
  refine loop_rule (m := x.1.length) (fun c l s => ∃ j : Nat, s = σ ∧ c + j = x.1.length ∧ l = [.int .i64 (freeN (x.1.take j) : Nat), .int .i64 (j : Nat), u, w]) ?_ ⟨0, rfl, by omega, by simp [freeN, sumBy]⟩
  rintro c l s L ⟨j, rfl, hc, rfl⟩ hL
  simp only [vget, List.getD_cons_zero, List.getD_cons_succ]
  rw [hu.len, pBin_lt, pIf_d]
  refine ⟨fun hj => ?_, fun hj => ?_⟩
  · have hx := List.getElem?_eq_getElem (show j < x.1.length by omega)
    generalize hxj : x.1[j]'(by omega) = p at hx
    have ht : freeN (x.1.take (j + 1)) = freeN (x.1.take j) + (if p.used = true then 0 else 1) := sumBy_take (f := fun p : Pg => if p.used = true then 0 else 1) hx
    have h2 := freeN_le (x.1.take j)
    rw [List.length_take] at h2
    refine fl_at hu hx 0 (by omega) rfl fun g hg hgood => ?_
    rw [hg, pUn_not, pIf_b]
    refine ⟨fun hb => ?_, fun hb => ?_⟩
    · have hf : p.used = false := by simpa using hb
      rw [pBin_add (by omega), pBin_add (by omega)]
      refine hL _ _ (c - 1) (by omega) ⟨j + 1, rfl, by omega, ?_⟩
      rw [ht, hf]; rfl
    · have hf : p.used = true := by simpa using hb
      rw [pBin_add (by omega)]
      refine hL _ _ (c - 1) (by omega) ⟨j + 1, rfl, by omega, ?_⟩
      rw [ht, hf]; rfl
  · have hj' : j = x.1.length := by omega
    subst hj'
    rw [List.take_length]
    exact hR

theorem impl_Free {es : List Value} {x : Pgs} (h : RPgs (Av.get w0 σ) es x) (hl : x.1.length ≤ 1000000000000) {R : Value → Vw → Prop} (hR : R (.int .i64 (freeN x.1 : Nat)) σ) : AC Try.prog w0 n_impl_Pages_free [.agg ⟨es⟩] σ R := by
  refine ac_impl_Pages_free ?_
  unfold vc_impl_Pages_free
  rw [h.two]
  obtain ⟨u, w, rfl, hu, hw⟩ := h
  simp only [cellOf_agg, List.getD_cons_zero, List.getD_cons_succ]
  have hle := freeN_le x.1
  rw [hu.len]
  refine loop_rule (m := x.1.length) (fun c l s => ∃ j : Nat, s = σ ∧ c + j = x.1.length ∧ l = [.int .i64 (freeN (x.1.take j) : Nat), u, .int .i64 x.1.length, .int .i64 (j : Nat)]) ?_ ⟨0, rfl, by omega, by simp [freeN, sumBy]⟩
  rintro c l s L ⟨j, rfl, hc, rfl⟩ hL
  simp only [vget, List.getD_cons_zero, List.getD_cons_succ]
  rw [pBin_lt, pIf_d]
  refine ⟨fun hj => ?_, fun hj => ?_⟩
  · have hx := List.getElem?_eq_getElem (show j < x.1.length by omega)
    generalize hxj : x.1[j]'(by omega) = p at hx
    have ht : freeN (x.1.take (j + 1)) = freeN (x.1.take j) + (if p.used = true then 0 else 1) := sumBy_take (f := fun p : Pg => if p.used = true then 0 else 1) hx
    have h2 := freeN_le (x.1.take j)
    rw [List.length_take] at h2
    refine pg_at hu hx fun g hg0 hg1 hg2 hgood => ?_
    rw [hg0, hg1, hg2, pVal_3 rfl rfl rfl, pUn_not, pIf_b]
    refine ⟨fun hb => ?_, fun hb => ?_⟩
    · have hf : p.used = false := by simpa using hb
      rw [pBin_add (by omega), pBin_add (by omega)]
      refine hL _ _ (c - 1) (by omega) ⟨j + 1, rfl, by omega, ?_⟩
      rw [ht, hf]; rfl
    · have hf : p.used = true := by simpa using hb
      rw [pBin_add (by omega)]
      refine hL _ _ (c - 1) (by omega) ⟨j + 1, rfl, by omega, ?_⟩
      rw [ht, hf]; rfl
  · have hj' : j = x.1.length := by omega
    subst hj'
    rw [List.take_length]
    exact hR
end
end Go.Proofs.Ytkndffhcncmbjaa
