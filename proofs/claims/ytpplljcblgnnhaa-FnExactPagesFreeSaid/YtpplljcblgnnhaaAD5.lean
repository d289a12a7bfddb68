/- The abstract layer, draws, part 5: a drawn region does what 'denD' says. -/
import Derived.Test.YtpplljcblgnnhaaAD4
set_option linter.unusedVariables false
set_option linter.unusedSimpArgs false
namespace Go.Av
open Go Go.RowKit

section
variable {P : Program} {w0 : World} {σe : Vw} {we : World} {fz : Nat} {β : Nat → Nat} {esc : Nat → Bool} {ops : Array Oper} {anc : Nat → List Nat} {call : FuncId → List Value → Vw → (Value → Vw → Prop) → Prop} {st : St} {σ σ' : Vw} {a : Act} {w : World}

theorem Sim.lpOk (h : Sim w0 σe we fz β st σ a w) : LpOk st := by
  intro y k hk
  have := h.ev y
  cases hx : Av.ev st y with
  | lp k' j => rw [hx] at this hk; cases hk; exact this.1
  | ls k' j => rw [hx] at this hk; cases hk; exact this.1
  | _ => rw [hx] at hk; cases hk

theorem appL_agree {o : Oper} : ∀ {l : List PE} {st : St}, (∀ p, p ∈ l → p.o.apart ops o = true) → Facts P w0 call esc ops l st σ →
    (∀ t, t ∈ o.looksAt ops → ev (appL l st) (.tmp t) = ev st (.tmp t)) ∧ (∀ k, st.bx k ≠ none → (appL l st).bx k = st.bx k)
  | [], st, _, _ => ⟨fun _ _ => rfl, fun _ _ => rfl⟩
  | p :: r, st, hap, hf => by
    obtain ⟨h1, h2⟩ := appL_agree (l := r) (fun q hq => hap q (List.mem_cons_of_mem _ hq)) hf.2
    obtain ⟨g1, g2, g3⟩ := Oper.apart_spec (hap p List.mem_cons_self)
    refine ⟨fun t ht => (h1 t ht).trans ?_, fun k hk => (h2 k ?_).trans (bx_app_ne hf.1.eff hk)⟩
    · unfold PE.app
      rw [ev_putT (fun d hd e => g1 d hd (by cases e; exact ht)), ev_eff]
    · rw [bx_app_ne hf.1.eff hk]; exact hk

theorem facts_after {o : Oper} {x : TV} : ∀ {l : List PE} {st : St}, (∀ p, p ∈ l → p.o.apart ops o = true ∧ isFree P esc p.o.dst p.o.op = true) → Ext σ σ' → Facts P w0 call esc ops l st σ →
    Facts P w0 call esc ops l (putT st o.dst x) σ' ∧ appL l (putT st o.dst x) = putT (appL l st) o.dst x
  | [], st, _, _, _ => ⟨trivial, rfl⟩
  | p :: r, st, hap, hx, hf => by
    obtain ⟨h1, h2⟩ := facts_after (l := r) (st := p.app st) (x := x) (fun q hq => hap q (List.mem_cons_of_mem _ hq)) hx hf.2
    obtain ⟨g1, g2, g3⟩ := Oper.apart_spec (hap p List.mem_cons_self).1
    have hc : putT (p.app st) o.dst x = p.app (putT st o.dst x) :=
      app_comm (p := p) (q := ⟨0, o, x, none⟩) (hap p List.mem_cons_self).1 (fun k cs e => (hf.1.eff k cs e).1) (fun _ _ e => nomatch e)
    refine ⟨⟨?_, by rw [← hc]; exact h1⟩, by show appL r (p.app (putT st o.dst x)) = _; rw [← hc]; exact h2⟩
    refine Fact.ext hx (hap p List.mem_cons_self).2 (hf.1.congr (fun t ht => ?_) (fun y hy k hk => by rw [bx_putT]) (fun k hk hn => by rw [bx_putT]; exact hn))
    rw [ev_putT (fun d hd e => g3 d hd (by cases e; exact ht))]

theorem wanted_of {o : Oper} {go : Bool} (hs : Sim w0 σe we fz β st σ a w) (h : GoAt ops.toList o st go) : Region.wanted o (yielded ops a.tmps) = go := by
  rcases h with ⟨h1, rfl⟩ | ⟨g, want, t, c, h1, h2, h3, rfl⟩ | ⟨g, want, t, h1, h2, h3, rfl⟩
  · simp [Region.wanted, h1]
  · rw [agree_eq]
    have hx' : a.tmps.getD t undef = .bool c := hs.toV (x := .tmp t) h3
    simp only [Region.wanted, h1, yield_of h2 hx']
  · have hx' : a.tmps.getD t undef = undef := by
      have := hs.tm t
      rw [show st.tmps.getD t .unk = .und from h3] at this; exact this
    simp only [Region.wanted, h1, yield_none h2 hx']
    cases want <;> rfl

structure Dyn (P : Program) (esc : Nat → Bool) (ops : Array Oper) (anc : Nat → List Nat) (L : List Nat) (listed : Array Bool) : Prop where
  pw : L.Pairwise fun p q => rel P esc ops anc p q = true
  mem : ∀ j, j ∈ L → j < ops.size
  size : listed.size = ops.size
  bit : ∀ j, j < ops.size → (listed.getD j true = false ↔ j ∈ L)
  closed : ∀ q, q < ops.size → q ∉ L → ∀ p, p ∈ anc q → p ∉ L

theorem preds_of {j : Nat} {o : Oper} (ho : ops[j]? = some o) : preds ops j = predsO o := by
  have : ops.toList[j]? = some o := by rw [Array.getElem?_toList]; exact ho
  simp [preds, this]

theorem mem_predsO {o : Oper} {d : Nat} : d ∈ predsO o ↔ ∃ e, e ∈ o.after ∧ Region.binds .any e = true ∧ e.on = d := by
  simp only [predsO, List.mem_map, List.mem_filter, Array.mem_toList_iff]
  constructor
  · rintro ⟨e, ⟨h1, h2⟩, h3⟩; exact ⟨e, h1, h2, h3⟩
  · rintro ⟨e, h1, h2, h3⟩; exact ⟨e, ⟨h1, h2⟩, h3⟩

theorem getD_flip {listed : Array Bool} {d : Nat} (h : d < listed.size) : listed.getD d false = listed.getD d true := by
  simp [Array.getD_eq_getD_getElem?, Array.getElem?_eq_getElem h]

theorem Dyn.ready {ord L : List Nat} {listed : Array Bool} (hd : Dyn P esc ops anc L listed) (hk : DrawOk P esc ops anc ord) {j : Nat} :
    j ∈ Region.ready .any ops listed ↔ j ∈ L ∧ ∀ d, d ∈ preds ops j → d ∉ L := by
  rw [mem_ready]
  constructor
  · rintro ⟨h1, o, ho, h2⟩
    have hj : j < ops.size := (Array.getElem?_eq_some_iff.1 ho).1
    refine ⟨(hd.bit j hj).1 h1, fun d hdp hdL => ?_⟩
    rw [preds_of ho] at hdp
    obtain ⟨e, h3, h4, rfl⟩ := mem_predsO.1 hdp
    have h5 := h2 e h3 h4
    have hlt := hd.mem _ hdL
    rw [getD_flip (by rw [hd.size]; exact hlt), (hd.bit _ hlt).2 hdL] at h5
    cases h5
  · rintro ⟨h1, h2⟩
    have hj := hd.mem j h1
    have ho : ops[j]? = some ops[j] := Array.getElem?_eq_getElem hj
    refine ⟨(hd.bit j hj).2 h1, _, ho, fun e he hb => ?_⟩
    have hdp : e.on ∈ preds ops j := by rw [preds_of ho]; exact mem_predsO.2 ⟨e, he, hb, rfl⟩
    have hlt := (hk.pre j hj _ hdp).2
    rw [getD_flip (by rw [hd.size]; exact hlt)]
    cases hb' : listed.getD e.on true with
    | true => rfl
    | false => exact absurd ((hd.bit _ hlt).1 hb') (h2 _ hdp)

/-- Whatever must stand ahead of one that is ready has been run. -/
theorem Dyn.anc_done {ord L : List Nat} {listed : Array Bool} (hd : Dyn P esc ops anc L listed) (hk : DrawOk P esc ops anc ord) {j : Nat} (hj : j ∈ Region.ready .any ops listed) {p : Nat} (hp : p ∈ anc j) : p ∉ L := by
  obtain ⟨h1, h2⟩ := (hd.ready hk).1 hj
  have hlt := hd.mem j h1
  rcases hk.anc j hlt p hp with h3 | ⟨d, h3, h4⟩
  · exact h2 p h3
  · exact hd.closed d (hk.pre j hlt d h3).2 (h2 d h3) p h4

theorem Dyn.step {ord X Y : List Nat} {listed : Array Bool} {j : Nat} (hd : Dyn P esc ops anc (X ++ j :: Y) listed) (hk : DrawOk P esc ops anc ord) (hj : j ∈ Region.ready .any ops listed) : Dyn P esc ops anc (X ++ Y) (listed.setIfInBounds j true) := by
  have hsub : (X ++ Y).Sublist (X ++ j :: Y) := List.Sublist.append (List.Sublist.refl X) (List.sublist_cons_self j Y)
  have hne : ∀ i, i ∈ X ++ Y → i ≠ j := by
    intro i hi
    have hp := List.pairwise_append.1 hd.pw
    rcases List.mem_append.1 hi with h | h
    · exact (rel_spec (hp.2.2 i h j List.mem_cons_self)).1
    · exact fun e => (rel_spec ((List.pairwise_cons.1 hp.2.1).1 i h)).1 e.symm
  have hiff : ∀ i, i ∈ X ++ Y ↔ i ∈ X ++ j :: Y ∧ i ≠ j := by
    intro i
    refine ⟨fun h => ⟨hsub.subset h, hne i h⟩, fun ⟨h, hn⟩ => ?_⟩
    simp only [List.mem_append, List.mem_cons] at h ⊢
    rcases h with h | h | h
    · exact .inl h
    · exact absurd h hn
    · exact .inr h
  refine ⟨hd.pw.sublist hsub, fun i hi => hd.mem i (hsub.subset hi), by simp [hd.size], fun i hi => ?_, fun q hq hqL p hp hpL => ?_⟩
  · by_cases e : j = i
    · subst e
      have : (listed.setIfInBounds j true).getD j true = true := by
        simp [Array.getD_eq_getD_getElem?, Array.getElem?_setIfInBounds, hd.size, hi]
      rw [this, hiff]
      simp
    · rw [getD_set_ne true e, hd.bit i hi, hiff]
      exact ⟨fun h => ⟨h, fun h' => e h'.symm⟩, fun h => h.1⟩
  · by_cases e : q = j
    · subst e
      exact hd.anc_done hk hj hp (hsub.subset hpL)
    · exact hd.closed q hq (fun h => hqL ((hiff q).2 ⟨h, e⟩)) p hp (hsub.subset hpL)

theorem gk_nil {st : St} : GkOk [] st := fun _ _ h => nomatch h

theorem free_of {p : Nat} {o : Oper} (ho : ops[p]? = some o) : freeAt P esc ops p = isFree P esc o.dst o.op := by
  have : ops.toList[p]? = some o := by rw [Array.getElem?_toList]; exact ho
  simp [freeAt, this]

theorem draw_main {ord : List Nat} (hk : DrawOk P esc ops anc ord) {Q : Exit → Act → World → Prop} {K : St → Vw → Prop} (hn : ∀ β st σ a w, K st σ → Sim w0 σe we fz β st σ a w → Q .normal a w) :
    ∀ (fuel : Nat) (L : List Nat) (pend : List PE) (rest : List Nat) (listed : Array Bool) (β : Nat → Nat) (st : St) (σ : Vw) (a : Act) (w : World), L.length ≤ fuel →
      Dyn P esc ops anc L listed → Abs P w0 (AC P w0) esc ops anc K L pend rest st σ → Sim w0 σe we fz β st σ a w → wpAny P .any ops Q fuel listed a w := by
  have fin : ∀ (L : List Nat) (pend : List PE) (rest : List Nat) (listed : Array Bool) (β : Nat → Nat) (st : St) (σ : Vw) (a : Act) (w : World),
      Dyn P esc ops anc L listed → Abs P w0 (AC P w0) esc ops anc K L pend rest st σ → Sim w0 σe we fz β st σ a w → Region.ready .any ops listed = [] → L = [] ∧ Q .normal a w := by
    intro L pend rest listed β st σ a w hd ha hs hr
    have hL : L = [] := by
      cases L with
      | nil => rfl
      | cons q r =>
        have : q ∈ Region.ready .any ops listed := (hd.ready hk).2 ⟨List.mem_cons_self, fun d hdp hdL => by
          rcases List.mem_cons.1 hdL with e | e
          · exact (hk.pre q (hd.mem q List.mem_cons_self) d hdp).1 e
          · exact (rel_spec ((List.pairwise_cons.1 hd.pw).1 d e)).2.1 hdp⟩
        rw [hr] at this
        cases this
    refine ⟨hL, ?_⟩
    have h1 := ha.split
    rw [hL] at h1
    have h2 := List.append_eq_nil_iff.1 h1.symm
    have hp : pend = [] := List.map_eq_nil_iff.1 h2.1
    obtain ⟨gk, pre, hg, hpre, hden⟩ := ha.den
    rw [hp, h2.2] at hden
    exact hn _ _ _ _ _ hden hs
  intro fuel
  induction fuel with
  | zero =>
    intro L pend rest listed β st σ a w hf hd ha hs
    have hL : L = [] := List.length_eq_zero_iff.1 (Nat.le_zero.1 hf)
    have hr : Region.ready .any ops listed = [] := by
      cases hc : Region.ready .any ops listed with
      | nil => rfl
      | cons q r =>
        have : q ∈ Region.ready .any ops listed := by rw [hc]; exact List.mem_cons_self
        have := ((hd.ready hk).1 this).1
        rw [hL] at this; cases this
    exact ⟨hr, (fin L pend rest listed β st σ a w hd ha hs hr).2⟩
  | succ fuel ih =>
    intro L pend rest listed β st σ a w hf hd ha hs
    refine ⟨fun hr => (fin L pend rest listed β st σ a w hd ha hs hr).2, fun j hj => ?_⟩
    obtain ⟨pend, rest, ha, hhead⟩ := ha.push
    obtain ⟨hjL, hjp⟩ := (hd.ready hk).1 hj
    have hjlt := hd.mem j hjL
    have hanc : ∀ p, p ∈ anc j → p ∉ L := fun p hp => hd.anc_done hk hj hp
    have hlp := hs.lpOk
    rw [ha.split] at hjL
    rcases List.mem_append.1 hjL with hjp | hjr
    · -- one that has been reckoned out
      obtain ⟨p, hpm, hpj⟩ := List.mem_map.1 hjp
      obtain ⟨A, B, rfl⟩ := List.append_of_mem hpm
      subst hpj
      obtain ⟨ho, hfree⟩ := ha.ok p hpm
      have hsplit : L = A.map (·.i) ++ p.i :: (B.map (·.i) ++ rest) := by rw [ha.split]; simp
      have hrelA : ∀ x, x ∈ A → Ap ops x p := by
        intro x hx
        have hd' := hd.pw
        rw [hsplit] at hd'
        have := (List.pairwise_append.1 hd').2.2 x.i (List.mem_map_of_mem hx) p.i List.mem_cons_self
        rcases (rel_spec this).2.2 with h1 | ⟨_, _, h3⟩
        · exact absurd (by rw [hsplit]; exact List.mem_append_left _ (List.mem_map_of_mem hx)) (hanc _ h1)
        · have hox := (ha.ok x (List.mem_append_left _ hx)).1
          simp only [apartAt, Array.getElem?_toList, hox, ho] at h3
          exact h3
      have hf1 := Facts.append.1 ha.facts
      obtain ⟨q1, q2, q3⟩ := to_front hrelA hlp hf1.1 hf1.2.1
      obtain ⟨go, g1, g2, g3⟩ := q1.go
      have hdyn : Dyn P esc ops anc (A.map (·.i) ++ (B.map (·.i) ++ rest)) (listed.setIfInBounds p.i true) := by
        rw [hsplit] at hd
        exact hd.step hk hj
      have habs : Abs P w0 (AC P w0) esc ops anc K (A.map (·.i) ++ (B.map (·.i) ++ rest)) (A ++ B) rest (p.app st) σ := by
        have happ : appL (A ++ B) (p.app st) = appL (A ++ p :: B) st := by
          rw [appL_append, appL_append, q3]; rfl
        obtain ⟨gk, pre, hg, hpre, hden⟩ := ha.den
        refine ⟨by simp, fun x hx => ha.ok x ?_, Facts.append.2 ⟨q2, ?_⟩, gk, pre, ?_, fun x hx => hpre x ?_, ?_⟩
        · rcases List.mem_append.1 hx with h | h
          · exact List.mem_append_left _ h
          · exact List.mem_append_right _ (List.mem_cons_of_mem _ h)
        · rw [q3]; exact hf1.2.2
        · rw [happ]; exact hg
        · rcases List.mem_append.1 hx with h | h
          · exact List.mem_append_left _ h
          · exact List.mem_append_right _ (List.mem_cons_of_mem _ h)
        · rw [happ]; exact hden
      have hlen : (A.map (·.i) ++ (B.map (·.i) ++ rest)).length ≤ fuel := by
        rw [hsplit] at hf
        simp only [List.length_append, List.length_cons] at hf ⊢
        omega
      unfold wpOp
      simp only [ho]
      rw [wanted_of hs g1]
      cases go with
      | true =>
        simp only [if_true]
        refine .inl (denOp_sound gk_nil hs (g2 rfl (fun x e s => x = p.x ∧ e = p.e ∧ s = σ) ⟨rfl, rfl, rfl⟩) ?_)
        rintro x e σ' v w' ⟨rfl, rfl, rfl⟩ hout
        obtain ⟨β', hs'⟩ := hout.sim p.o.dst
        exact ih _ _ _ _ _ _ _ _ _ hlen hdyn habs hs'
      | false =>
        simp only [Bool.false_eq_true, if_false]
        have hx := g3 rfl
        have happ : p.app st = putT st p.o.dst .und := by unfold PE.app; rw [hx.1, hx.2]; rfl
        rw [happ] at habs
        exact ih _ _ _ _ _ _ _ _ _ hlen hdyn habs (hs.put p.o.dst (x := .und) rfl)
    · -- one of the rest: it is the first of them
      cases rest with
      | nil => cases hjr
      | cons q r =>
        have hqnf := hhead q r rfl
        have hpwr : ∀ y, y ∈ r → rel P esc ops anc q y = true := by
          have hd' := hd.pw
          rw [ha.split] at hd'
          exact (List.pairwise_cons.1 (List.pairwise_append.1 hd').2.1).1
        have hjq : j = q := by
          rcases List.mem_cons.1 hjr with e | e
          · exact e
          · rcases (rel_spec (hpwr j e)).2.2 with h1 | ⟨h1, _⟩
            · exact absurd (by rw [ha.split]; exact List.mem_append_right _ List.mem_cons_self) (hanc _ h1)
            · rw [hqnf] at h1; cases h1
        subst hjq
        have ho : ops[j]? = some ops[j] := Array.getElem?_eq_getElem hjlt
        generalize hoj : ops[j] = o at ho
        have hfree : isFree P esc o.dst o.op = false := by rw [← free_of ho]; exact hqnf
        have hpend : ∀ p, p ∈ pend → p.i ∉ anc j ∧ hardAt ops j = false ∧ p.o.apart ops o = true := by
          intro p hp
          have hd' := hd.pw
          rw [ha.split] at hd'
          have := (List.pairwise_append.1 hd').2.2 p.i (List.mem_map_of_mem hp) j List.mem_cons_self
          have hni : p.i ∉ anc j := fun h => hanc _ h (by rw [ha.split]; exact List.mem_append_left _ (List.mem_map_of_mem hp))
          rcases (rel_spec this).2.2 with h1 | ⟨_, h2, h3⟩
          · exact absurd h1 hni
          · refine ⟨hni, h2, ?_⟩
            have hox := (ha.ok p hp).1
            simp only [apartAt, Array.getElem?_toList, hox, ho] at h3
            exact h3
        have hdyn : Dyn P esc ops anc (pend.map (·.i) ++ r) (listed.setIfInBounds j true) := by
          rw [ha.split] at hd
          exact hd.step hk hj
        have hlen : (pend.map (·.i) ++ r).length ≤ fuel := by
          rw [ha.split] at hf
          simp only [List.length_append, List.length_cons] at hf ⊢
          omega
        obtain ⟨gk, pre, hg, hpre, hden⟩ := ha.den
        have hden' : ∃ go gk', ∃ E : Vw → Prop, (pend ≠ [] → ∀ σ', E σ' → Ext σ σ') ∧ GoAt ops.toList o (appL pend st) go ∧ GkOk gk' (appL pend st) ∧ freeSlot gk' o.dst = true ∧
            (go = true → denOp P w0 (AC P w0) esc [] o.dst o.op (appL pend st) σ fun x e σ' => E σ' ∧ denL P esc ops anc w0 (AC P w0) (j :: pre) r gk' (putT ((appL pend st).eff e) o.dst x) σ' K) ∧
            (go = false → denL P esc ops anc w0 (AC P w0) (j :: pre) r gk' (putT (appL pend st) o.dst .und) σ K) := by
          have ho' : ops.toList[j]? = some o := by rw [Array.getElem?_toList]; exact ho
          simp only [denL, ho', hfree] at hden
          cases hal : allN (memN (anc j)) pre with
          | true =>
            have hnil : pend = [] := by
              cases pend with
              | nil => rfl
              | cons p _ => exact absurd (memN_iff.1 (allN_iff.1 hal p.i (hpre p List.mem_cons_self))) (hpend p List.mem_cons_self).1
            rw [hal] at hden
            simp only at hden
            obtain ⟨go, gk', h1, h2, h3, h4, h5⟩ := denG_step hg hden
            refine ⟨go, gk', fun _ => True, fun h => absurd hnil h, h1, h2, h3, fun e => ?_, h5⟩
            simpa only [true_and] using h4 e
          | false =>
            rw [hal] at hden
            simp only at hden
            obtain ⟨go, gk', h1, h2, h3, h4, h5⟩ := denG_step hg hden
            exact ⟨go, gk', Ext σ, fun _ _ h => h, h1, h2, h3, h4, fun e => (h5 e).2⟩
        obtain ⟨go, gk', E, hE, h1, h2, h3, h4, h5⟩ := hden'
        obtain ⟨ag1, ag2⟩ := appL_agree (o := o) (fun p hp => (hpend p hp).2.2) ha.facts
        have hgo : GoAt ops.toList o st go := h1.congr ag1
        unfold wpOp
        simp only [ho]
        rw [wanted_of hs hgo]
        have nextNone : ∀ {x : TV} {σ' : Vw} {β' : Nat → Nat} {a' : Act} {w' : World}, Ext σ σ' → denL P esc ops anc w0 (AC P w0) (j :: pre) r gk' (putT (appL pend st) o.dst x) σ' K → Sim w0 σe we fz β' (putT st o.dst x) σ' a' w' → wpAny P .any ops Q fuel (listed.setIfInBounds j true) a' w' := by
          intro x σ' β' a' w' hx hd' hs'
          obtain ⟨f1, f2⟩ := facts_after (o := o) (x := x) (fun p hp => ⟨(hpend p hp).2.2, (ha.ok p hp).2⟩) hx ha.facts
          refine ih _ pend r _ _ _ _ _ _ hlen hdyn ⟨rfl, ha.ok, f1, gk', j :: pre, ?_, fun p hp => List.mem_cons_of_mem _ (hpre p hp), ?_⟩ hs'
          · rw [f2]; exact h2.put (e := none) h3
          · rw [f2]; exact hd'
        cases go with
        | false =>
          simp only [Bool.false_eq_true, if_false]
          exact nextNone (Ext.refl σ) (h5 rfl) (hs.put o.dst (x := .und) rfl)
        | true =>
          simp only [if_true]
          by_cases hpn : pend = []
          · subst hpn
            refine .inl (denOp_sound gk_nil hs (h4 rfl) fun x e σ' v w' hK hout => ?_)
            obtain ⟨β', hs'⟩ := hout.sim o.dst
            exact ih _ [] r _ _ _ _ _ _ hlen hdyn ⟨rfl, fun _ h => (nomatch h), trivial, gk', j :: pre, h2.put h3, fun _ h => (nomatch h), hK.2⟩ hs'
          · have hhard : isHard o.op = false := by
              obtain ⟨p, hp⟩ := List.exists_mem_of_ne_nil _ hpn
              have := (hpend p hp).2.1
              have ho' : ops.toList[j]? = some o := by rw [Array.getElem?_toList]; exact ho
              simpa [hardAt, ho'] using this
            have hop : denOp P w0 (AC P w0) esc [] o.dst o.op st σ fun x e σ' => e = none ∧ (E σ' ∧ denL P esc ops anc w0 (AC P w0) (j :: pre) r gk' (putT ((appL pend st).eff e) o.dst x) σ' K) := by
              refine hard_none hfree hhard (denOp_congr (st := appL pend st) ⟨fun y hy => ?_, fun y hy k i hk => ?_, fun y hy k i hk => ?_, fun k hk hn => ?_⟩ (h4 rfl))
              · cases y with
                | tmp t => exact ag1 t (looks_op hy)
                | _ => rfl
              · refine ag2 k (hlp y k ?_)
                have he : ev (appL pend st) y = ev st y := by
                  cases y with
                  | tmp t => exact ag1 t (looks_op hy)
                  | _ => rfl
                rw [← he, hk]; rfl
              · refine ag2 k (hlp y k ?_)
                have he : ev (appL pend st) y = ev st y := by
                  cases y with
                  | tmp t => exact ag1 t (looks_op hy)
                  | _ => rfl
                rw [← he, hk]; rfl
              · cases hc : st.bx k with
                | none => rfl
                | some c => rw [ag2 k (by rw [hc]; simp), hc] at hn; cases hn
            refine .inl (denOp_sound gk_nil hs hop fun x e σ' v w' hK hout => ?_)
            obtain ⟨rfl, hEx, hd'⟩ := hK
            obtain ⟨β', hs'⟩ := hout.sim o.dst
            exact nextNone (hE hpn σ' hEx) hd' hs'

/-- A drawn region. -/
theorem denD_sound (hm : P.follows .mixedOrders = true) {Q : Exit → Act → World → Prop} {K : St → Vw → Prop} (hn : ∀ β st σ a w, K st σ → Sim w0 σe we fz β st σ a w → Q .normal a w) {id : Nat}
    (hs : Sim w0 σe we fz β st σ a { w with drawn := w.drawn + 1 }) {ord : List Nat} {t : List (Nat × List Nat)} (h : denD P w0 (AC P w0) esc ord t ops st σ K) : (Code.region id ops true).wp P Q a w := by
  refine wp_region_any hm ?_
  unfold denD at h
  split at h
  · rename_i hok
    have hk := drawOk_spec hok
    refine draw_main hk hn _ _ [] _ _ _ _ _ _ _ hk.len ⟨hk.rel, hk.only, by simp, fun j hj => ?_, fun q hq hqn => absurd (hk.all q hq) hqn⟩ ⟨rfl, fun _ h => (nomatch h), trivial, [], [], gk_nil, fun _ h => (nomatch h), h⟩ hs
    have : (Array.replicate ops.size false).getD j true = false := by
      simp [Array.getD_eq_getD_getElem?, Array.getElem?_replicate, hj]
    rw [this]
    exact ⟨fun _ => hk.all j hj, fun _ => rfl⟩
  · exact h.elim
end
end Go.Av
