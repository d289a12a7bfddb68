/- Pages: 'PagesOk' by the reference. -/
import Derived.Test.YtkndffhcncmbjaaF3
set_option linter.unusedVariables false
set_option linter.unusedSimpArgs false
namespace Go.Proofs.Ytkndffhcncmbjaa
open Go Go.Av

section
variable {w0 : World} {σ : Vw}

theorem pagesOk_no {x : Pgs} (h : ¬ OkS x) : pagesOk x = false := by simp [pagesOk, h]
theorem pagesOk_yes {x : Pgs} (h : OkS x) : pagesOk x = true := by simp [pagesOk, h]

theorem ch_lt {e : Int → Prop} {ps : List Pg} {r : List Nat} {a l : Int} (h : Ch e ps r a l) {i : Nat} (hi : i ∈ r) : i < ps.length := by
  obtain ⟨p, hp, _⟩ := ch_used h i hi
  exact (List.getElem?_eq_some_iff.1 hp).1

/-- Bools, all false, in a row that was made. -/
theorem made_bools {b ety : Nat} (hb : w0.heap.size ≤ b) (hn : σ b = none) : OSl w0 1 OBo (σ.put b ⟨ety, (List.replicate 96 [Value.bool false]).flatten, 96, (0, 0)⟩) [b] (.slice (some ⟨b, 0, none⟩) 96 96) (inL 96 []) := by
  have hl : (inL 96 []).length = 96 := by simp [inL]
  refine ⟨by omega, by simp, .inr ⟨b, 0, 96, _, [], [], List.replicate 96 [.bool false], List.replicate 96 [], by rw [hl], by omega, hb, put_at, by simp, rfl, by rw [hl]; simp, by rw [hl]; simp, by simp, ?_⟩⟩
  intro j c x f e1 e2 e3
  have hj : j < 96 := by rw [← hl]; exact (List.getElem?_eq_some_iff.1 e2).1
  rw [inL_get hj] at e2
  rw [List.getElem?_replicate, if_pos hj] at e1 e3
  cases e1; cases e2; cases e3
  exact ⟨rfl, by simp [encB], trivial⟩

theorem spec_PagesOk {es : List Value} {x : Pgs} (h : RPgs (Av.get w0 σ) es x) {R : Value → Vw → Prop} (hR : ∀ σ', Keeps σ σ' → R (.bool (pagesOk x)) σ') : AC Try.prog w0 n_spec_PagesOk [.agg ⟨es⟩] σ R := by
  have hh := h
  refine ac_spec_PagesOk ?_
  unfold vc_spec_PagesOk
  rw [h.two]
  obtain ⟨u, w, rfl, hu, hw⟩ := h
  simp only [cellOf_agg, List.getD_cons_zero, List.getD_cons_succ]
  have no : ¬ OkS x → ∀ s, Keeps σ s → R (.bool false) s := fun hn s hk => by have := hR s hk; rw [pagesOk_no hn] at this; exact this
  rw [hu.len, pBin_ne, pIf_d]
  refine ⟨fun hne => no (fun hk => hne (by rw [hk.1]; rfl)) σ (Keeps.refl σ), fun heq => ?_⟩
  have h96 : x.1.length = 96 := by omega
  rw [hw.len, pBin_gt, pIf_d]
  refine ⟨fun hgt => no (fun hk => by have := hk.2.1; omega) σ (Keeps.refl σ), fun hle => ?_⟩
  have h16 : x.2.length ≤ 16 := by omega
  refine pMake_s (m := 96) (by omega) (by omega) fun b ety h1 h2 => ?_
  have o0 := made_bools (ety := ety) h1 h2
  have hF0 : ∀ i, i ∈ [b] → σ i = none := fun i hi => by rw [List.mem_singleton.1 hi]; exact h2
  refine loop_rule (m := x.2.length) (fun c l s => ∃ j : Nat, c + j = x.2.length ∧ Keeps σ s ∧ (∀ (i : Nat) (n : Pn), i < j → x.2[i]? = some n → pnAt x.2 i n ∧ -1 ≤ n.first ∧ (chS x.1 n).isSome = true) ∧ (lsOf (chS x.1) (x.2.take j)).Nodup ∧
    OSl w0 1 OBo s [b] (.slice (some ⟨b, 0, none⟩) 96 96) (inL 96 (lsOf (chS x.1) (x.2.take j))) ∧ l = [.bool false, .slice (some ⟨b, 0, none⟩) 96 96, .int .i64 (j : Nat), u, w]) ?_
    ⟨0, by omega, Keeps.put h2, fun i n h => by omega, by simp [lsOf], by simpa [lsOf] using o0, rfl⟩
  rintro c l s L ⟨j, hc, hk, hdone, hnd, os, rfl⟩ hL
  simp only [vget, List.getD_cons_zero, List.getD_cons_succ]
  have hws := hw.mono hk.le fun _ _ h => h
  rw [hws.len, pBin_lt, pIf_d]
  refine ⟨fun hj => ?_, fun hj => ?_⟩
  · have hx := List.getElem?_eq_getElem (show j < x.2.length by omega)
    generalize hxj : x.2[j]'(by omega) = n at hx
    refine pn_at hws hx fun g hg0 hg1 hg2 hgood => ?_
    rw [hg0, hg1, hg2, pVal_3 rfl rfl rfl]
    refine spec_nameOk hgood.1 ?_
    rw [pUn_not, pIf_b]
    refine ⟨fun hb => no (fun hk => by have := (hk.2.2.1 j n hx).1.1; rw [this] at hb; cases hb) s hk, fun hb => ?_⟩
    have hname : nameOk n.name = true := by simpa using hb
    rw [pBin_gt, pIf_d]
    refine ⟨fun hpos => ?ca, fun h0 => ?cb⟩
    case' ca =>
      obtain ⟨i, hi⟩ : ∃ i, j = i + 1 := ⟨j - 1, by omega⟩
      rw [pBin_sub (by omega), show ((j : Nat) : Int) - 1 = (i : Nat) by omega]
      have hy := List.getElem?_eq_getElem (show i < x.2.length by omega)
      generalize hyi : x.2[i]'(by omega) = y at hy
      refine fl_at hws hy 0 (by omega) rfl fun g2 hg2' hgood2 => ?_
      have hpv : prevN x.2 j n = strLt y.name n.name := by rw [hi]; simp [prevN, hy]
      rw [hg2', pBin_sge, pIf_b]
      refine ⟨fun hb => no (fun hk => by have := (hk.2.2.1 j n hx).1.2.1; rw [hpv] at this; rw [this] at hb; cases hb) s hk, fun hb => ?_⟩
      have hprev : prevN x.2 j n = true := by rw [hpv]; simpa using hb
    case' cb =>
      have hj0 : j = 0 := by omega
      have hprev : prevN x.2 j n = true := by rw [hj0]; rfl
    all_goals
      refine spec_In ?_
      rw [pUn_not, pIf_b]
      refine ⟨fun hb => no (fun hk => by have := (hk.2.2.1 j n hx).1.2.2; rw [this] at hb; cases hb) s hk, fun hb => ?_⟩
      have hin : inB n.size 0 3000 = true := by simpa using hb
      have hin' : 0 ≤ n.size ∧ n.size ≤ 3000 := by simpa [inB] using hin
      rw [pBin_lt, pIf_d]
      refine ⟨fun hb => no (fun hk => by have := (hk.2.2.1 j n hx).2.1; omega) s hk, fun hfirst => ?_⟩
      refine spec_Chain (mono_pgs hk.le hh) hgood h96 hin' fun v F s1 k1 ov fv => ?_
      rw [pExtract_s rfl, pExtract_s rfl, pUn_not, pIf_b]
      refine ⟨fun hb => no (fun hk => by have := (hk.2.2.1 j n hx).2.2; rw [this] at hb; cases hb) s1 (hk.trans k1), fun hb => ?_⟩
      have hsome : (chS x.1 n).isSome = true := by simpa using hb
      obtain ⟨r, hr⟩ := Option.isSome_iff_exists.1 hsome
      have ov' : OSl w0 1 ON s1 F v r := by
        rcases ov with h | h
        · rw [hr] at h; exact h
        · rw [hr] at h; cases h
      have hch := (chOf_spec hr).1
      have hlt := lsOf_take (c := chS x.1) hx
      rw [hr, Option.getD_some] at hlt
      have os1 := os.frame (ok_bo w0) (k1.but_at fun i hi => (os.dom (ok_bo w0) i hi).2)
      have hFb : ∀ i, i ∈ F → i ∉ [b] := fun i hi hi' => (os.dom (ok_bo w0) i hi').2 (fv i hi)
      refine loop_rule (m := r.length) (fun c' l' s' => ∃ k : Nat, c' + k = r.length ∧ KeepsBut [b] s1 s' ∧ (lsOf (chS x.1) (x.2.take j) ++ r.take k).Nodup ∧ OSl w0 1 OBo s' [b] (.slice (some ⟨b, 0, none⟩) 96 96) (inL 96 (lsOf (chS x.1) (x.2.take j) ++ r.take k)) ∧
        l' = [.bool false, .slice (some ⟨b, 0, none⟩) 96 96, .int .i64 (j : Nat), v, .int .i64 (k : Nat), u, w]) ?_ ⟨0, by omega, KeepsBut.refl _ _, by simpa using hnd, by simpa using os1, rfl⟩
      rintro c' l' s' L' ⟨k, hc', kb, hnd', os', rfl⟩ hL'
      simp only [vget, List.getD_cons_zero, List.getD_cons_succ]
      have hks' : Keeps σ s' := kb.old (hk.trans k1) hF0
      have ov2 := ov'.frame (ok_n w0) (kb.at (fun i hi => (ov'.dom (ok_n w0) i hi).2) hFb)
      have rv := ov2.rel (ok_n w0)
      have rl := ov'.1
      rw [rv.len, pBin_lt, pIf_d]
      refine ⟨fun hkl => ?_, fun hkl => ?_⟩
      · have hrk := List.getElem?_eq_getElem (show k < r.length by omega)
        generalize hrki : r[k]'(by omega) = p at hrk
        have hp96 : p < 96 := by rw [← h96]; exact ch_lt hch (List.mem_of_getElem? hrk)
        refine n_at rv hrk fun g hg => ?_
        rw [hg]
        refine bool_at (os'.rel (ok_bo w0)) (inL_get hp96) fun g' hg' => ?_
        rw [hg', pIf_d]
        have htk : r.take (k + 1) = r.take k ++ [p] := by rw [List.take_add_one, hrk]; rfl
        refine ⟨fun hm => no (fun hk => ?_) s' hks', fun hm => ?_⟩
        · have hn2 := lsOf_pre (j := j + 1) hk.2.2.2.1
          rw [hlt] at hn2
          have e : r = r.take (k + 1) ++ r.drop (k + 1) := (List.take_append_drop _ _).symm
          rw [e, htk] at hn2
          rw [show ∀ (A B C D : List Nat), A ++ (B ++ C ++ D) = (A ++ B) ++ (C ++ D) by intros; simp] at hn2
          exact (List.nodup_append.1 hn2).2.2 p hm p (by simp) rfl
        · refine n_at rv hrk fun g hg => ?_
          rw [hg]
          refine bool_store os' (inL_get hp96) fun s2 k2 o2 => ?_
          rw [pBin_add (by omega)]
          rw [inL_set hp96, List.append_assoc, ← htk] at o2
          refine hL' _ _ (c' - 1) (by omega) ⟨k + 1, by omega, kb.trans k2, ?_, o2, rfl⟩
          rw [htk, ← List.append_assoc]
          exact List.nodup_append.2 ⟨hnd', by simp, fun a ha d hd e => by rw [List.mem_singleton.1 hd] at e; exact hm (e ▸ ha)⟩
      · have hkr : k = r.length := by omega
        subst hkr
        rw [List.take_length, ← hlt] at hnd' os'
        show pBin Try.prog 3 .add _ _ _
        rw [pBin_add (by omega)]
        refine hL _ _ (c - 1) (by omega) ⟨j + 1, by omega, hks', fun i m hi he => ?_, hnd', os', rfl⟩
        by_cases e : i = j
        · subst e
          rw [hx] at he; cases he
          exact ⟨⟨hname, hprev, hin⟩, by omega, hsome⟩
        · exact hdone i m (by omega) he
  · have hjl : j = x.2.length := by omega
    subst hjl
    rw [List.take_length] at hnd os
    show pLoop _ _ _ _
    have ob := os.rel (ok_bo w0)
    refine loop_rule (m := 96) (fun c' l' s' => ∃ k : Nat, c' + k = 96 ∧ s' = s ∧ (∀ (i : Nat) (p : Pg), i < k → x.1[i]? = some p → (p.used = true ↔ i ∈ lsOf (chS x.1) x.2) ∧ (p.used = false → p.data = ⟨#[]⟩ ∧ p.next = -1) ∧ -1 ≤ p.next) ∧
      l' = [.bool false, .slice (some ⟨b, 0, none⟩) 96 96, .int .i64 (k : Nat), u, w]) ?_ ⟨0, by omega, rfl, fun i p h => by omega, rfl⟩
    rintro c' l' s' L' ⟨k, hc', rfl, hd, rfl⟩ hL'
    simp only [vget, List.getD_cons_zero, List.getD_cons_succ]
    have hus := hu.mono hk.le fun _ _ h => h
    rw [hus.len, h96, pBin_lt, pIf_d]
    refine ⟨fun hk96 => ?_, fun hk96 => ?_⟩
    · have hx := List.getElem?_eq_getElem (show k < x.1.length by omega)
      generalize hxk : x.1[k]'(by omega) = p at hx
      refine pg_at hus hx fun g hg0 hg1 hg2 hgood => ?_
      rw [hg0, hg1, hg2, pVal_3 rfl rfl rfl]
      refine bool_at ob (inL_get (show k < 96 by omega)) fun g' hg' => ?_
      rw [hg', pBin_b (v := .bool (!(p.used == decide (k ∈ lsOf (chS x.1) x.2)))) (by kernel_rfl) rfl, pIf_b]
      refine ⟨fun hb => no (fun hk => ?_) s' (by assumption), fun hb => ?_⟩
      · have := (hk.2.2.2.2 k p hx).1
        cases hu : p.used with
        | true => rw [hu] at this hb; simp [this.1 rfl] at hb
        | false =>
          rw [hu] at this hb
          have hn : k ∉ lsOf (chS x.1) x.2 := fun h => by have := this.2 h; cases this
          simp [hn] at hb
      have hiff : p.used = true ↔ k ∈ lsOf (chS x.1) x.2 := by
        have e : p.used = decide (k ∈ lsOf (chS x.1) x.2) := by simpa using hb
        rw [e]; simp
      have next : (p.used = false → p.data = ⟨#[]⟩ ∧ p.next = -1) → pBin Try.prog 3 .lss (.int .i64 p.next) (.int .i64 (-1)) (fun v98 => pIf v98 (R (.bool false) s') (pBin Try.prog 3 .add (.int .i64 (k : Nat)) (.int .i64 1) (fun v99 => L' [.bool false, .slice (some ⟨b, 0, none⟩) 96 96, v99, u, w] s'))) := fun hz => by
        rw [pBin_lt, pIf_d]
        refine ⟨fun hlt => no (fun hk => by have := (hk.2.2.2.2 k p hx).2.2; omega) s' (by assumption), fun hge => ?_⟩
        rw [pBin_add (by omega)]
        refine hL' _ _ (c' - 1) (by omega) ⟨k + 1, by omega, rfl, fun i q hi hq => ?_, rfl⟩
        by_cases e : i = k
        · subst e; rw [hx] at hq; cases hq
          exact ⟨hiff, hz, by omega⟩
        · exact hd i q (by omega) hq
      rw [pUn_not, pIf_b]
      refine ⟨fun hb2 => ?_, fun hb2 => next fun h => by rw [h] at hb2; cases hb2⟩
      have hu0 : p.used = false := by simpa using hb2
      rw [pBin_sne, pIf_d]
      refine ⟨fun hne => no (fun hk => hne ((hk.2.2.2.2 k p hx).2.1 hu0).1) s' (by assumption), fun heq => ?_⟩
      rw [pBin_ne, pIf_d]
      refine ⟨fun hne => no (fun hk => hne ((hk.2.2.2.2 k p hx).2.1 hu0).2) s' (by assumption), fun heq2 => ?_⟩
      exact next fun _ => ⟨Decidable.not_not.1 heq, Decidable.not_not.1 heq2⟩
    · have := hR s' (by assumption)
      rw [pagesOk_yes ⟨h96, h16, fun i n he => hdone i n (List.getElem?_eq_some_iff.1 he).1 he, hnd, fun i p hp => hd i p (by have := (List.getElem?_eq_some_iff.1 hp).1; omega) hp⟩] at this
      exact this
end
end Go.Proofs.Ytkndffhcncmbjaa
