/- The abstract layer, draws, part 5: a drawn region does what 'denD' says. -/
import Derived.Test.YtkndffhcncmbjaaAD4
set_option linter.unusedVariables false
set_option linter.unusedSimpArgs false
namespace Go.Av
open Go Go.RowKit

section
variable {P : Program} {w0 : World} {σe : Vw} {we : World} {fz : Nat} {β : Nat → Nat} {esc : Nat → Bool} {ops : Array Oper} {anc : Nat → List Nat} {call : FuncId → List Value → Vw → (Value → Vw → Prop) → Prop} {st : St} {σ σ' : Vw} {a : Act} {w : World}

theorem Sim.lpOk (h : Sim w0 σe we fz β st σ a w) : LpOk st := by
  intro y k hk
  have := h.ev y
  cases hx : Av.ev st y with
  | lp k' j => rw [hx] at this hk; cases hk; exact this.1
  | ls k' j => rw [hx] at this hk; cases hk; exact this.1
  | _ => rw [hx] at hk; cases hk

theorem appL_agree {o : Oper} : ∀ {l : List PE} {st : St}, (∀ p, p ∈ l → p.o.apart ops o = true) → Facts P w0 call esc ops l st σ →
    (∀ t, t ∈ o.looksAt ops → ev (appL l st) (.tmp t) = ev st (.tmp t)) ∧ (∀ k, st.bx k ≠ none → (appL l st).bx k = st.bx k)
  | [], st, _, _ => ⟨fun _ _ => rfl, fun _ _ => rfl⟩
  | p :: r, st, hap, hf => by
    obtain ⟨h1, h2⟩ := appL_agree (l := r) (fun q hq => hap q (List.mem_cons_of_mem _ hq)) hf.2
    obtain ⟨g1, g2, g3⟩ := Oper.apart_spec (hap p List.mem_cons_self)
    refine ⟨fun t ht => (h1 t ht).trans ?_, fun k hk => (h2 k ?_).trans (bx_app_ne hf.1.eff hk)⟩
    · unfold PE.app
      rw [ev_putT (fun d hd e => g1 d hd (by cases e; exact ht)), ev_eff]
    · rw [bx_app_ne hf.1.eff hk]; exact hk

theorem facts_after {o : Oper} {x : TV} : ∀ {l : List PE} {st : St}, (∀ p, p ∈ l → p.o.apart ops o = true ∧ isFree P esc p.o.dst p.o.op = true) → Ext σ σ' → Facts P w0 call esc ops l st σ →
    Facts P w0 call esc ops l (putT st o.dst x) σ' ∧ appL l (putT st o.dst x) = putT (appL l st) o.dst x
  | [], st, _, _, _ => ⟨trivial, rfl⟩
  | p :: r, st, hap, hx, hf => by
    obtain ⟨h1, h2⟩ := facts_after (l := r) (st := p.app st) (x := x) (fun q hq => hap q (List.mem_cons_of_mem _ hq)) hx hf.2
    obtain ⟨g1, g2, g3⟩ := Oper.apart_spec (hap p List.mem_cons_self).1
    have hc : putT (p.app st) o.dst x = p.app (putT st o.dst x) :=
      app_comm (p := p) (q := ⟨0, o, x, none⟩) (hap p List.mem_cons_self).1 (fun k cs e => (hf.1.eff k cs e).1) (fun _ _ e => nomatch e)
    refine ⟨⟨?_, by rw [← hc]; exact h1⟩, by show appL r (p.app (putT st o.dst x)) = _; rw [← hc]; exact h2⟩
    refine Fact.ext hx (hap p List.mem_cons_self).2 (hf.1.congr (fun t ht => ?_) (fun y hy k hk => by rw [bx_putT]) (fun k hk hn => by rw [bx_putT]; exact hn))
    rw [ev_putT (fun d hd e => g3 d hd (by cases e; exact ht))]

theorem wanted_of {o : Oper} {go : Bool} (hs : Sim w0 σe we fz β st σ a w) (h : GoAt ops.toList o st go) : Region.wanted o (yielded ops a.tmps) = go := by
  rcases h with ⟨h1, rfl⟩ | ⟨g, want, t, c, h1, h2, h3, rfl⟩ | ⟨g, want, t, h1, h2, h3, rfl⟩
  · simp [Region.wanted, h1]
  · rw [agree_eq]
    have hx' : a.tmps.getD t undef = .bool c := hs.toV (x := .tmp t) h3
    simp only [Region.wanted, h1, yield_of h2 hx']
  · have hx' : a.tmps.getD t undef = undef := by
      have := hs.tm t
      rw [show st.tmps.getD t .unk = .und from h3] at this; exact this
    simp only [Region.wanted, h1, yield_none h2 hx']
    cases want <;> rfl

theorem preds_of {j : Nat} {o : Oper} (ho : ops[j]? = some o) : preds ops j = predsO o := by
  have : ops.toList[j]? = some o := by rw [Array.getElem?_toList]; exact ho
  simp [preds, this]

theorem mem_predsO {o : Oper} {d : Nat} : d ∈ predsO o ↔ ∃ e, e ∈ o.after ∧ Region.binds .any e = true ∧ e.on = d := by
  simp only [predsO, List.mem_map, List.mem_filter, Array.mem_toList_iff]
  constructor
  · rintro ⟨e, ⟨h1, h2⟩, h3⟩; exact ⟨e, h1, h2, h3⟩
  · rintro ⟨e, h1, h2, h3⟩; exact ⟨e, ⟨h1, h2⟩, h3⟩

theorem getD_flip {listed : Array Bool} {d : Nat} (h : d < listed.size) : listed.getD d false = listed.getD d true := by
  simp [Array.getD_eq_getD_getElem?, Array.getElem?_eq_getElem h]

theorem Dyn.ready {t : DT} {pend : List PE} {pre : List Nat} {listed : Array Bool} (hd : Dyn ops anc pend pre listed) (hk : DrawOk P esc ops anc t) {j : Nat} :
    j ∈ Region.ready .any ops listed ↔ j < ops.size ∧ listed.getD j true = false ∧ ∀ d, d ∈ preds ops j → listed.getD d true = true := by
  rw [mem_ready]
  constructor
  · rintro ⟨h1, o, ho, h2⟩
    have hj : j < ops.size := (Array.getElem?_eq_some_iff.1 ho).1
    refine ⟨hj, h1, fun d hdp => ?_⟩
    have hlt := (hk.pre j hj d hdp).2
    rw [preds_of ho] at hdp
    obtain ⟨e, h3, h4, rfl⟩ := mem_predsO.1 hdp
    rw [← getD_flip (by rw [hd.size]; exact hlt)]
    exact h2 e h3 h4
  · rintro ⟨hj, h1, h2⟩
    have ho : ops[j]? = some ops[j] := Array.getElem?_eq_getElem hj
    refine ⟨h1, _, ho, fun e he hb => ?_⟩
    have hdp : e.on ∈ preds ops j := by rw [preds_of ho]; exact mem_predsO.2 ⟨e, he, hb, rfl⟩
    have hlt := (hk.pre j hj _ hdp).2
    rw [getD_flip (by rw [hd.size]; exact hlt)]
    exact h2 _ hdp

/-- Whatever must stand ahead of one that is ready has been run. -/
theorem Dyn.anc_done {t : DT} {pend : List PE} {pre : List Nat} {listed : Array Bool} (hd : Dyn ops anc pend pre listed) (hk : DrawOk P esc ops anc t) {j : Nat} (hj : j ∈ Region.ready .any ops listed) {p : Nat} (hp : p ∈ anc j) : listed.getD p true = true := by
  obtain ⟨hlt, h1, h2⟩ := (hd.ready hk).1 hj
  rcases hk.anc j hlt p hp with h3 | ⟨d, h3, h4⟩
  · exact h2 p h3
  · exact hd.closed d (hk.pre j hlt d h3).2 (h2 d h3) p h4

theorem Dyn.step {t : DT} {pend pend' : List PE} {pre pre' : List Nat} {listed : Array Bool} {j : Nat} (hd : Dyn ops anc pend pre listed) (hk : DrawOk P esc ops anc t) (hj : j ∈ Region.ready .any ops listed)
    (hno : ¬ (j ∈ pend'.map (·.i) ∨ j ∉ pre')) (hsame : ∀ i, i ≠ j → ((i ∈ pend'.map (·.i) ∨ i ∉ pre') ↔ (i ∈ pend.map (·.i) ∨ i ∉ pre))) : Dyn ops anc pend' pre' (listed.setIfInBounds j true) := by
  obtain ⟨hjlt, _, _⟩ := (hd.ready hk).1 hj
  have hself : (listed.setIfInBounds j true).getD j true = true := by
    simp [Array.getD_eq_getD_getElem?, Array.getElem?_setIfInBounds, hd.size, hjlt]
  have hmono : ∀ p, listed.getD p true = true → (listed.setIfInBounds j true).getD p true = true := fun p hp => by
    by_cases e : j = p
    · rw [← e]; exact hself
    · rw [getD_set_ne true e]; exact hp
  refine ⟨by simp [hd.size], fun i hi => ?_, fun q hq hqd p hp => ?_⟩
  · by_cases e : j = i
    · subst e
      rw [hself]
      exact ⟨fun h => (nomatch h), fun h => absurd h hno⟩
    · rw [getD_set_ne true e, hd.bit i hi]
      exact (hsame i fun h => e h.symm).symm
  · by_cases e : j = q
    · subst e
      exact hmono p (hd.anc_done hk hj hp)
    · rw [getD_set_ne true e] at hqd
      exact hmono p (hd.closed q hq hqd p hp)

theorem gk_nil {st : St} : GkOk [] st := fun _ _ h => nomatch h

theorem free_of {p : Nat} {o : Oper} (ho : ops[p]? = some o) : freeAt P esc ops p = isFree P esc o.dst o.op := by
  have : ops.toList[p]? = some o := by rw [Array.getElem?_toList]; exact ho
  simp [freeAt, this]

theorem nodup_len : ∀ (n : Nat) (l : List Nat), l.Nodup → (∀ i, i ∈ l → i < n) → l.length ≤ n
  | 0, l, _, h => by
    cases l with
    | nil => simp
    | cons a r => exact absurd (h a List.mem_cons_self) (by omega)
  | n + 1, l, hn, h => by
    have h1 := nodup_len n (l.erase n) (hn.erase n) fun i hi => by
      have := hn.mem_erase_iff.1 hi
      have := h i this.2
      omega
    have h2 : l.length ≤ (l.erase n).length + 1 := by
      rw [List.length_erase]
      split <;> omega
    omega
theorem okT_len {pre : List Nat} (hnd : pre.Nodup) (hlt : ∀ i, i ∈ pre → i < ops.size) : ∀ {t : DT} {cov : Bool}, okT P esc ops anc cov pre t = true → pre.length + t.depth ≤ ops.size := by
  intro t
  induction t generalizing pre with
  | done =>
    intro cov h
    have := nodup_len ops.size pre hnd hlt
    simpa [DT.depth] using this
  | step i t ih =>
    intro cov h
    obtain ⟨h1, h2, _⟩ := okT_step h
    obtain ⟨g1, g2, _, _⟩ := okAt_spec h1
    have := ih (pre := i :: pre) (List.nodup_cons.2 ⟨g2, hnd⟩) (fun k hk => by
      rcases List.mem_cons.1 hk with e | e
      · rw [e]; exact g1
      · exact hlt k e) h2
    simp only [List.length_cons, DT.depth] at this ⊢
    omega
  | both a b iha ihb =>
    intro cov h
    obtain ⟨_, h2, h3⟩ := okT_both h
    have h4 := iha hnd hlt h2
    have h5 := ihb hnd hlt h3
    have : (DT.both a b).depth = Nat.max a.depth b.depth := rfl
    rw [this]
    show pre.length + max a.depth b.depth ≤ ops.size
    omega
theorem okT_depth {t : DT} (h : okT P esc ops anc true [] t = true) : t.depth ≤ ops.size := by simpa using okT_len (pre := []) List.nodup_nil (fun _ h => (nomatch h)) h

theorem draw_main {t0 : DT} (hk : DrawOk P esc ops anc t0) {Q : Exit → Act → World → Prop} {K : St → Vw → Prop} (hn : ∀ β st σ a w, K st σ → Sim w0 σe we fz β st σ a w → Q .normal a w) :
    ∀ (fuel : Nat) (t : DT) (pend : List PE) (pre : List Nat) (listed : Array Bool) (β : Nat → Nat) (st : St) (σ : Vw) (a : Act) (w : World), pend.length + t.depth ≤ fuel →
      Dyn ops anc pend pre listed → Abs P w0 (AC P w0) esc ops anc K pend pre t st σ → Sim w0 σe we fz β st σ a w → wpAny P .any ops Q fuel listed a w := by
  have fin : ∀ (t : DT) (pend : List PE) (pre : List Nat) (listed : Array Bool) (β : Nat → Nat) (st : St) (σ : Vw) (a : Act) (w : World),
      Dyn ops anc pend pre listed → Abs P w0 (AC P w0) esc ops anc K pend pre t st σ → hard (P := P) (esc := esc) (ops := ops) t → Sim w0 σe we fz β st σ a w → Region.ready .any ops listed = [] → Q .normal a w := by
    intro t pend pre listed β st σ a w hd ha hh hs hr
    have hpn : pend = [] := by
      cases pend with
      | nil => rfl
      | cons p r =>
        exfalso
        have hpi := ha.pin p List.mem_cons_self
        have ho := (ha.ok p List.mem_cons_self).1
        have hlt : p.i < ops.size := (Array.getElem?_eq_some_iff.1 ho).1
        have : p.i ∈ Region.ready .any ops listed := (hd.ready hk).2 ⟨hlt, (hd.bit _ hlt).2 (.inl (by simp)), fun d hdp => by
          have hpr := hk.pre p.i hlt d hdp
          cases hb : listed.getD d true with
          | true => rfl
          | false =>
            exfalso
            rcases (hd.bit d hpr.2).1 hb with h | h
            · obtain ⟨y, hy, rfl⟩ := List.mem_map.1 h
              rcases List.mem_cons.1 hy with e | e
              · rw [e] at hpr; exact hpr.1 rfl
              · exact ((List.pairwise_cons.1 ha.pair).1 y e).2.1 hdp
            · exact h (hpi.2 d hdp)⟩
        rw [hr] at this
        cases this
    subst hpn
    obtain ⟨gk, hg, hden⟩ := ha.den
    have htd : t = .done := by
      cases hc : t with
      | done => rfl
      | _ =>
        exfalso
        obtain ⟨h, r, hhd⟩ := List.exists_cons_of_ne_nil (heads_ne ha.tree (fun e => by rw [hc] at e; cases e))
        have hm : h ∈ t.heads := by rw [hhd]; exact List.mem_cons_self
        obtain ⟨t', g1, _, _, _, _⟩ := pick_head ha.tree hden hm
        obtain ⟨hlt, hnp, hpre, _⟩ := okAt_spec g1
        have : h ∈ Region.ready .any ops listed := (hd.ready hk).2 ⟨hlt, (hd.bit _ hlt).2 (.inr hnp), fun d hdp => by
          cases hb : listed.getD d true with
          | true => rfl
          | false =>
            exfalso
            rcases (hd.bit d (hk.pre h hlt d hdp).2).1 hb with h' | h'
            · cases h'
            · exact h' (hpre d hdp)⟩
        rw [hr] at this
        cases this
    subst htd
    exact hn _ _ _ _ _ hden hs
  intro fuel
  induction fuel with
  | zero =>
    intro t pend pre listed β st σ a w hf hd ha hs
    obtain ⟨pend, pre, t, ha, hd, hlen, hh⟩ := ha.push hd
    have hr : Region.ready .any ops listed = [] := by
      cases hc : Region.ready .any ops listed with
      | nil => rfl
      | cons q r =>
        exfalso
        have : q ∈ Region.ready .any ops listed := by rw [hc]; exact List.mem_cons_self
        obtain ⟨hlt, hb, _⟩ := (hd.ready hk).1 this
        have hpn : pend = [] := List.length_eq_zero_iff.1 (by omega)
        have htd : t = .done := by
          cases t with
          | done => rfl
          | step i t => simp only [DT.depth] at hlen; omega
          | both x y =>
            obtain ⟨hh1, r1, hhd⟩ := List.exists_cons_of_ne_nil (heads_ne ha.tree (fun e => by cases e))
            obtain ⟨gk, hg, hden⟩ := ha.den
            obtain ⟨t', _, _, _, g4, _⟩ := pick_head ha.tree hden (j := hh1) (by rw [hhd]; exact List.mem_cons_self)
            omega
        subst hpn htd
        have ht := ha.tree
        simp only [okT] at ht
        rcases (hd.bit q hlt).1 hb with h | h
        · cases h
        · exact h (memN_iff.1 (allN_iff.1 ht q (mem_upTo.2 (by simpa using hlt))))
    exact ⟨hr, fin t pend pre listed β st σ a w hd ha hh hs hr⟩
  | succ fuel ih =>
    intro t pend pre listed β st σ a w hf hd ha hs
    obtain ⟨pend, pre, t, ha, hd, hlen, hhd⟩ := ha.push hd
    refine ⟨fun hr => fin t pend pre listed β st σ a w hd ha hhd hs hr, fun j hj => ?_⟩
    obtain ⟨hjlt, hjb, hjp⟩ := (hd.ready hk).1 hj
    have hanc : ∀ p, p ∈ anc j → listed.getD p true = true := fun p hp => hd.anc_done hk hj hp
    have hpu : ∀ p, p ∈ pend → listed.getD p.i true = false := fun p hp => (hd.bit _ ((Array.getElem?_eq_some_iff.1 (ha.ok p hp).1).1)).2 (.inl (List.mem_map_of_mem hp))
    have hlp := hs.lpOk
    by_cases hjL : j ∈ pend.map (·.i)
    · -- one that has been reckoned out
      obtain ⟨p, hpm, hpj⟩ := List.mem_map.1 hjL
      obtain ⟨A, B, rfl⟩ := List.append_of_mem hpm
      subst hpj
      obtain ⟨ho, hfree⟩ := ha.ok p hpm
      have hpw := List.pairwise_append.1 ha.pair
      have hpw2 := List.pairwise_cons.1 hpw.2.1
      have hrelA : ∀ x, x ∈ A → Ap ops x p := by
        intro x hx
        rcases (hpw.2.2 x hx p List.mem_cons_self).2.2 with h1 | h1
        · have := hanc _ h1
          rw [hpu x (List.mem_append_left _ hx)] at this
          cases this
        · exact h1
      have hf1 := Facts.append.1 ha.facts
      obtain ⟨q1, q2, q3⟩ := to_front hrelA hlp hf1.1 hf1.2.1
      obtain ⟨go, g1, g2, g3⟩ := q1.go
      have hsub : ∀ x, x ∈ A ++ B → x ∈ A ++ p :: B := fun x hx => by
        rcases List.mem_append.1 hx with h | h
        · exact List.mem_append_left _ h
        · exact List.mem_append_right _ (List.mem_cons_of_mem _ h)
      have hne : ∀ x, x ∈ A ++ B → x.i ≠ p.i := fun x hx => by
        rcases List.mem_append.1 hx with h | h
        · exact (hpw.2.2 x h p List.mem_cons_self).1
        · exact fun e => (hpw2.1 x h).1 e.symm
      have hdyn : Dyn ops anc (A ++ B) pre (listed.setIfInBounds p.i true) := by
        refine hd.step hk hj ?_ fun i hi => ?_
        · rintro (h | h)
          · obtain ⟨x, hx, he⟩ := List.mem_map.1 h
            exact hne x hx he
          · exact h (ha.pin p hpm).1
        · refine or_congr ?_ Iff.rfl
          simp only [List.map_append, List.map_cons, List.mem_append, List.mem_cons, hi, false_or]
      have habs : Abs P w0 (AC P w0) esc ops anc K (A ++ B) pre t (p.app st) σ := by
        have happ : appL (A ++ B) (p.app st) = appL (A ++ p :: B) st := by
          rw [appL_append, appL_append, q3]; rfl
        obtain ⟨gk, hg, hden⟩ := ha.den
        refine ⟨fun x hx => ha.ok x (hsub x hx), Facts.append.2 ⟨q2, ?_⟩, ⟨gk, ?_, ?_⟩, ha.tree, fun x hx => ha.pin x (hsub x hx), ?_⟩
        · rw [q3]; exact hf1.2.2
        · rw [happ]; exact hg
        · rw [happ]; exact hden
        · exact ha.pair.sublist (List.Sublist.append (List.Sublist.refl A) (List.sublist_cons_self p B))
      have hlen' : (A ++ B).length + t.depth ≤ fuel := by
        simp only [List.length_append, List.length_cons] at hlen ⊢
        omega
      unfold wpOp
      simp only [ho]
      rw [wanted_of hs g1]
      cases go with
      | true =>
        simp only [if_true]
        refine .inl (denOp_sound gk_nil hs (g2 rfl (fun x e s => x = p.x ∧ e = p.e ∧ s = σ) ⟨rfl, rfl, rfl⟩) ?_)
        rintro x e σ' v w' ⟨rfl, rfl, rfl⟩ hout
        obtain ⟨β', hs'⟩ := hout.sim p.o.dst
        exact ih _ _ _ _ _ _ _ _ _ hlen' hdyn habs hs'
      | false =>
        simp only [Bool.false_eq_true, if_false]
        have hx := g3 rfl
        have happ : p.app st = putT st p.o.dst .und := by unfold PE.app; rw [hx.1, hx.2]; rfl
        rw [happ] at habs
        exact ih _ _ _ _ _ _ _ _ _ hlen' hdyn habs (hs.put p.o.dst (x := .und) rfl)
    · -- one of the heads
      have hjpre : j ∉ pre := by
        rcases (hd.bit j hjlt).1 hjb with h | h
        · exact absurd h hjL
        · exact h
      obtain ⟨gk, hg, hden0⟩ := ha.den
      have hjh : j ∈ t.heads := by
        rcases okT_cover ha.tree hhd hjlt hjpre with h | ⟨k, h1, h2⟩
        · exact h
        · exfalso
          have h3 := hanc k h2
          obtain ⟨t', g1, _⟩ := pick_head ha.tree hden0 h1
          obtain ⟨hlt, hnp, _, _⟩ := okAt_spec g1
          rw [(hd.bit k hlt).2 (.inr hnp)] at h3
          cases h3
      obtain ⟨t', hat, htree, hden, hdep, hnf⟩ := pick_head ha.tree hden0 hjh
      obtain ⟨_, _, hpreds, hcond⟩ := okAt_spec hat
      have hqnf : freeAt P esc ops j = false := by
        cases t with
        | done => cases hjh
        | step i t =>
          have e : j = i := List.mem_singleton.1 hjh
          rw [e]; exact hhd
        | both x y =>
          obtain ⟨_, h2, h3⟩ := okT_both ha.tree
          simp only [denL] at hden0
          rcases List.mem_append.1 hjh with h | h
          · obtain ⟨_, _, _, _, _, g5⟩ := pick_head h2 hden0.1 h
            exact g5 rfl
          · obtain ⟨_, _, _, _, _, g5⟩ := pick_head h3 hden0.2 h
            exact g5 rfl
      have ho : ops[j]? = some ops[j] := Array.getElem?_eq_getElem hjlt
      generalize hoj : ops[j] = o at ho
      have hfree : isFree P esc o.dst o.op = false := by rw [← free_of ho]; exact hqnf
      have hpend : ∀ p, p ∈ pend → p.i ∉ anc j ∧ freeAt P esc ops p.i = true ∧ hardAt ops j = false ∧ p.o.apart ops o = true := by
        intro p hp
        have hni : p.i ∉ anc j := fun h => by have := hanc _ h; rw [hpu p hp] at this; cases this
        have hfa : freeAt P esc ops p.i = true := by rw [free_of (ha.ok p hp).1]; exact (ha.ok p hp).2
        rcases hcond p.i (ha.pin p hp).1 with h1 | ⟨_, h2, h3⟩ | h1
        · exact absurd h1 hni
        · refine ⟨hni, hfa, h2, ?_⟩
          have hox := (ha.ok p hp).1
          simp only [apartAt, Array.getElem?_toList, hox, ho] at h3
          exact h3
        · rw [hfa] at h1; cases h1
      have hdyn : Dyn ops anc pend (j :: pre) (listed.setIfInBounds j true) := by
        refine hd.step hk hj ?_ fun i hi => ?_
        · rintro (h | h)
          · exact hjL h
          · exact h List.mem_cons_self
        · refine or_congr Iff.rfl ?_
          simp only [List.mem_cons, not_or, hi, not_false_eq_true, true_and]
      have hlen' : pend.length + t'.depth ≤ fuel := by omega
      have hpin' : ∀ p, p ∈ pend → p.i ∈ j :: pre ∧ ∀ d, d ∈ preds ops p.i → d ∈ j :: pre := fun p hp => ⟨List.mem_cons_of_mem _ (ha.pin p hp).1, fun d hd => List.mem_cons_of_mem _ ((ha.pin p hp).2 d hd)⟩
      have hden' : ∃ go gk', ∃ E : Vw → Prop, (pend ≠ [] → ∀ σ', E σ' → Ext σ σ') ∧ GoAt ops.toList o (appL pend st) go ∧ GkOk gk' (appL pend st) ∧ freeSlot gk' o.dst = true ∧
          (go = true → denOp P w0 (AC P w0) esc [] o.dst o.op (appL pend st) σ fun x e σ' => E σ' ∧ denL P esc ops anc w0 (AC P w0) (j :: pre) t' gk' (putT ((appL pend st).eff e) o.dst x) σ' K) ∧
          (go = false → denL P esc ops anc w0 (AC P w0) (j :: pre) t' gk' (putT (appL pend st) o.dst .und) σ K) := by
        have ho' : ops.toList[j]? = some o := by rw [Array.getElem?_toList]; exact ho
        simp only [denL, ho', hfree] at hden
        cases hal : calm P esc ops anc pre j with
        | true =>
          have hnil : pend = [] := by
            cases pend with
            | nil => rfl
            | cons p _ =>
              exfalso
              have h1 := allN_iff.1 hal p.i (ha.pin p List.mem_cons_self).1
              obtain ⟨g1, g2, _⟩ := hpend p List.mem_cons_self
              simp only [memN_false.2 g1, g2] at h1
              cases h1
          rw [hal] at hden
          simp only at hden
          obtain ⟨go, gk', h1, h2, h3, h4, h5⟩ := denG_step hg hden
          refine ⟨go, gk', fun _ => True, fun h => absurd hnil h, h1, h2, h3, fun e => ?_, h5⟩
          simpa only [true_and] using h4 e
        | false =>
          rw [hal] at hden
          simp only at hden
          obtain ⟨go, gk', h1, h2, h3, h4, h5⟩ := denG_step hg hden
          exact ⟨go, gk', Ext σ, fun _ _ h => h, h1, h2, h3, h4, fun e => (h5 e).2⟩
      obtain ⟨go, gk', E, hE, h1, h2, h3, h4, h5⟩ := hden'
      obtain ⟨ag1, ag2⟩ := appL_agree (o := o) (fun p hp => (hpend p hp).2.2.2) ha.facts
      have hgo : GoAt ops.toList o st go := h1.congr ag1
      unfold wpOp
      simp only [ho]
      rw [wanted_of hs hgo]
      have nextNone : ∀ {x : TV} {σ' : Vw} {β' : Nat → Nat} {a' : Act} {w' : World}, Ext σ σ' → denL P esc ops anc w0 (AC P w0) (j :: pre) t' gk' (putT (appL pend st) o.dst x) σ' K → Sim w0 σe we fz β' (putT st o.dst x) σ' a' w' → wpAny P .any ops Q fuel (listed.setIfInBounds j true) a' w' := by
        intro x σ' β' a' w' hx hd' hs'
        obtain ⟨f1, f2⟩ := facts_after (o := o) (x := x) (fun p hp => ⟨(hpend p hp).2.2.2, (ha.ok p hp).2⟩) hx ha.facts
        refine ih t' pend (j :: pre) _ _ _ _ _ _ hlen' hdyn ⟨ha.ok, f1, ⟨gk', ?_, ?_⟩, htree, hpin', ha.pair⟩ hs'
        · rw [f2]; exact h2.put (e := none) h3
        · rw [f2]; exact hd'
      cases go with
      | false =>
        simp only [Bool.false_eq_true, if_false]
        exact nextNone (Ext.refl σ) (h5 rfl) (hs.put o.dst (x := .und) rfl)
      | true =>
        simp only [if_true]
        by_cases hpn : pend = []
        · subst hpn
          refine .inl (denOp_sound gk_nil hs (h4 rfl) fun x e σ' v w' hK hout => ?_)
          obtain ⟨β', hs'⟩ := hout.sim o.dst
          exact ih t' [] (j :: pre) _ _ _ _ _ _ hlen' hdyn ⟨fun _ h => (nomatch h), trivial, ⟨gk', h2.put h3, hK.2⟩, htree, fun _ h => (nomatch h), List.Pairwise.nil⟩ hs'
        · have hhard : isHard o.op = false := by
            obtain ⟨p, hp⟩ := List.exists_mem_of_ne_nil _ hpn
            have := (hpend p hp).2.2.1
            have ho' : ops.toList[j]? = some o := by rw [Array.getElem?_toList]; exact ho
            simpa [hardAt, ho'] using this
          have hop : denOp P w0 (AC P w0) esc [] o.dst o.op st σ fun x e σ' => e = none ∧ (E σ' ∧ denL P esc ops anc w0 (AC P w0) (j :: pre) t' gk' (putT ((appL pend st).eff e) o.dst x) σ' K) := by
            refine hard_none hfree hhard (denOp_congr (st := appL pend st) ⟨fun y hy => ?_, fun y hy k i hk => ?_, fun y hy k i hk => ?_, fun k hk hn => ?_⟩ (h4 rfl))
            · cases y with
              | tmp t => exact ag1 t (looks_op hy)
              | _ => rfl
            · refine ag2 k (hlp y k ?_)
              have he : ev (appL pend st) y = ev st y := by
                cases y with
                | tmp t => exact ag1 t (looks_op hy)
                | _ => rfl
              rw [← he, hk]; rfl
            · refine ag2 k (hlp y k ?_)
              have he : ev (appL pend st) y = ev st y := by
                cases y with
                | tmp t => exact ag1 t (looks_op hy)
                | _ => rfl
              rw [← he, hk]; rfl
            · cases hc : st.bx k with
              | none => rfl
              | some c => rw [ag2 k (by rw [hc]; simp), hc] at hn; cases hn
          refine .inl (denOp_sound gk_nil hs hop fun x e σ' v w' hK hout => ?_)
          obtain ⟨rfl, hEx, hd'⟩ := hK
          obtain ⟨β', hs'⟩ := hout.sim o.dst
          exact nextNone (hE hpn σ' hEx) hd' hs'

/-- A drawn region. -/
theorem denD_sound (hm : P.follows .mixedOrders = true) {Q : Exit → Act → World → Prop} {K : St → Vw → Prop} (hn : ∀ β st σ a w, K st σ → Sim w0 σe we fz β st σ a w → Q .normal a w) {id : Nat}
    (hs : Sim w0 σe we fz β st σ a { w with drawn := w.drawn + 1 }) {ord : DT} {t : List (Nat × List Nat)} (h : denD P w0 (AC P w0) esc ord t ops st σ K) : (Code.region id ops true).wp P Q a w := by
  refine wp_region_any hm ?_
  unfold denD at h
  split at h
  · rename_i hok
    have hk := drawOk_spec hok
    have hrep : ∀ j, j < ops.size → (Array.replicate ops.size false).getD j true = false := fun j hj => by
      simp [Array.getD_eq_getD_getElem?, Array.getElem?_replicate, hj]
    have hdep : ord.depth ≤ ops.size := okT_depth hk.tree
    refine draw_main hk hn ops.size ord [] [] _ _ _ _ _ _ (by simpa using hdep) ⟨by simp, fun j hj => ?_, fun q hq hqd => ?_⟩ ⟨fun _ h => (nomatch h), trivial, ⟨[], gk_nil, h⟩, hk.tree, fun _ h => (nomatch h), List.Pairwise.nil⟩ hs
    · rw [hrep j hj]
      exact ⟨fun _ => .inr (by simp), fun _ => rfl⟩
    · rw [hrep q hq] at hqd; cases hqd
  · exact h.elim
end
end Go.Av
