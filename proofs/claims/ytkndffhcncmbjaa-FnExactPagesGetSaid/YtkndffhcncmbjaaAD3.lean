/- The abstract layer, draws, part 3: what has been reckoned out and is still to be run. -/
import Derived.Test.YtkndffhcncmbjaaAD2
set_option linter.unusedVariables false
set_option linter.unusedSimpArgs false
namespace Go.Av
open Go Go.RowKit

structure PE where
  i : Nat
  o : Oper
  x : TV
  e : Eff

def PE.app (p : PE) (st : St) : St := putT (st.eff p.e) p.o.dst p.x
def appL : List PE → St → St
  | [], st => st
  | p :: r, st => appL r (p.app st)

/-- Whether the operation is wanted. -/
def GoAt (ops : List Oper) (o : Oper) (st : St) (b : Bool) : Prop :=
  (o.guard = none ∧ b = true) ∨ (∃ g want t c, o.guard = some (g, want) ∧ guardSlot ops g = some t ∧ toV (ev st (.tmp t)) = some (.bool c) ∧ b = agree c want) ∨ ∃ g want t, o.guard = some (g, want) ∧ guardSlot ops g = some t ∧ ev st (.tmp t) = .und ∧ b = false

theorem appL_append : ∀ (a b : List PE) (st : St), appL (a ++ b) st = appL b (appL a st)
  | [], _, _ => rfl
  | p :: r, b, st => appL_append r b _

section
variable {P : Program} {w0 : World} {σ σ' : Vw} {esc : Nat → Bool} {call : FuncId → List Value → Vw → (Value → Vw → Prop) → Prop} {ops : Array Oper}

structure Fact (P : Program) (w0 : World) (call : FuncId → List Value → Vw → (Value → Vw → Prop) → Prop) (esc : Nat → Bool) (ops : Array Oper) (p : PE) (st : St) (σ : Vw) : Prop where
  eff : ∀ k cs, p.e = some (k, cs) → p.o.dst = some k ∧ st.bx k = none
  lp : ∀ k, bxOf p.x = some k → (∃ cs, p.e = some (k, cs)) ∨ ∃ y, y ∈ p.o.op.operands.toList ∧ bxOf (ev st y) = some k
  go : ∃ go, GoAt ops.toList p.o st go ∧ (go = true → ∀ K' : TV → Eff → Vw → Prop, K' p.x p.e σ → denOp P w0 call esc [] p.o.dst p.o.op st σ K') ∧ (go = false → p.x = .und ∧ p.e = none)

def Facts (P : Program) (w0 : World) (call : FuncId → List Value → Vw → (Value → Vw → Prop) → Prop) (esc : Nat → Bool) (ops : Array Oper) : List PE → St → Vw → Prop
  | [], _, _ => True
  | p :: r, st, σ => Fact P w0 call esc ops p st σ ∧ Facts P w0 call esc ops r (p.app st) σ

theorem Facts.append {a b : List PE} : ∀ {st : St}, Facts P w0 call esc ops (a ++ b) st σ ↔ Facts P w0 call esc ops a st σ ∧ Facts P w0 call esc ops b (appL a st) σ := by
  induction a with
  | nil => intro st; simp [Facts, appL]
  | cons p r ih => intro st; simp only [List.cons_append, Facts, appL, ih, and_assoc]

/-! ### Frames that agree -/
theorem ev_putT {st : St} {dst : Option Tmp} {x : TV} {y : Operand} (h : ∀ d, dst = some d → y ≠ .tmp d) : ev (putT st dst x) y = ev st y := by
  cases dst with
  | none => rfl
  | some d =>
    cases y with
    | tmp t =>
      have hne : d ≠ t := fun e => h d rfl (by rw [e])
      simp only [ev, putT, List.getD_eq_getElem?_getD, List.getElem?_set_ne hne]
    | _ => rfl

theorem ev_eff {st : St} {e : Eff} {y : Operand} : ev (st.eff e) y = ev st y := by cases e <;> rfl

theorem bx_putT {st : St} {dst : Option Tmp} {x : TV} : (putT st dst x).bx = st.bx := by cases dst <;> rfl

theorem bx_app_ne {p : PE} {st : St} {k : Nat} (he : ∀ k cs, p.e = some (k, cs) → p.o.dst = some k ∧ st.bx k = none) (h : st.bx k ≠ none) : (p.app st).bx k = st.bx k := by
  unfold PE.app
  rw [bx_putT]
  cases hp : p.e with
  | none => rfl
  | some kc =>
    obtain ⟨k', cs⟩ := kc
    have h2 := (he k' cs hp).2
    exact eff_ne fun e => h (e ▸ h2)

theorem looks_op {o : Oper} {t : Nat} (h : Operand.tmp t ∈ o.op.operands.toList) : t ∈ o.looksAt ops :=
  List.mem_append_left _ (List.mem_filterMap.2 ⟨.tmp t, h, rfl⟩)

theorem looks_guard {o : Oper} {g : Nat} {want : Bool} {t : Nat} (hg : o.guard = some (g, want)) (ht : guardSlot ops.toList g = some t) : t ∈ o.looksAt ops := by
  have ht' : (ops[g]?).bind (·.dst) = some t := by rw [← ht, guardSlot, Array.getElem?_toList]
  refine List.mem_append_right _ ?_
  rw [hg]
  simp only [ht', Option.toList_some, List.mem_singleton]

theorem GoAt.congr {o : Oper} {st st' : St} {b : Bool} (h : ∀ t, t ∈ o.looksAt ops → ev st (.tmp t) = ev st' (.tmp t)) (hg : GoAt ops.toList o st b) : GoAt ops.toList o st' b := by
  rcases hg with h1 | ⟨g, want, t, c, h1, h2, h3, h4⟩ | ⟨g, want, t, h1, h2, h3, h4⟩
  · exact .inl h1
  · exact .inr (.inl ⟨g, want, t, c, h1, h2, by rw [← h t (looks_guard h1 h2)]; exact h3, h4⟩)
  · exact .inr (.inr ⟨g, want, t, h1, h2, by rw [← h t (looks_guard h1 h2)]; exact h3, h4⟩)

/-- A fact holds on in a frame that the operation can't tell apart. -/
theorem Fact.congr {p : PE} {st st' : St} (hf : Fact P w0 call esc ops p st σ) (h : ∀ t, t ∈ p.o.looksAt ops → ev st (.tmp t) = ev st' (.tmp t)) (hb : ∀ y, y ∈ p.o.op.operands.toList → ∀ k, bxOf (ev st y) = some k → st.bx k = st'.bx k) (hd : ∀ k, p.o.dst = some k → st.bx k = none → st'.bx k = none) : Fact P w0 call esc ops p st' σ := by
  have hev : ∀ y, y ∈ p.o.op.operands.toList → ev st y = ev st' y := by
    intro y hy
    cases y with
    | tmp t => exact h t (looks_op hy)
    | _ => rfl
  refine ⟨fun k cs e => ⟨(hf.eff k cs e).1, hd k (hf.eff k cs e).1 (hf.eff k cs e).2⟩, fun k hk => ?_, ?_⟩
  · rcases hf.lp k hk with h1 | ⟨y, hy, h1⟩
    · exact .inl h1
    · exact .inr ⟨y, hy, by rw [← hev y hy]; exact h1⟩
  · obtain ⟨go, h1, h2, h3⟩ := hf.go
    exact ⟨go, h1.congr h, fun hgo K' hK' => denOp_congr ⟨hev, fun y hy k j hk => hb y hy k (by rw [hk]; rfl), fun y hy k j hk => hb y hy k (by rw [hk]; rfl), hd⟩ (h2 hgo K' hK'), h3⟩

theorem Fact.lpOk {p : PE} {st : St} (hf : Fact P w0 call esc ops p st σ) (h : LpOk st) : LpOk (p.app st) := by
  have key : ∀ k, st.bx k ≠ none → (p.app st).bx k ≠ none := fun k hk => by rw [bx_app_ne hf.eff hk]; exact hk
  have hb : (p.app st).bx = (st.eff p.e).bx := by unfold PE.app; rw [bx_putT]
  have ht : (st.eff p.e).tmps = st.tmps := by cases p.e <;> rfl
  intro y k hk
  by_cases hy : ∃ d, p.o.dst = some d ∧ y = .tmp d
  · obtain ⟨d, hd, rfl⟩ := hy
    by_cases hlt : d < st.tmps.length
    · have : ev (p.app st) (.tmp d) = p.x := by
        simp only [PE.app, putT, hd, ev, ht]
        rw [List.getD_eq_getElem?_getD, List.getElem?_set_self hlt]; rfl
      rw [this] at hk
      rcases hf.lp k hk with ⟨cs, h1⟩ | ⟨y, hy, h1⟩
      · rw [hb, h1, eff_eq]; simp
      · exact key k (h y k h1)
    · have : ev (p.app st) (.tmp d) = ev st (.tmp d) := by
        simp only [PE.app, putT, hd, ev, ht]
        rw [List.set_eq_of_length_le (Nat.le_of_not_lt hlt)]
      rw [this] at hk; exact key k (h _ k hk)
  · have : ev (p.app st) y = ev st y := by
      unfold PE.app
      rw [ev_putT (fun d hd e => hy ⟨d, hd, e⟩), ev_eff]
    rw [this] at hk; exact key k (h _ k hk)

theorem Facts.lpOk : ∀ {l : List PE} {st : St}, Facts P w0 call esc ops l st σ → LpOk st → LpOk (appL l st)
  | [], _, _, h => h
  | p :: r, st, hf, h => Facts.lpOk (l := r) hf.2 (hf.1.lpOk h)

/-- While the rows grow. -/
theorem Fact.ext {p : PE} {st : St} (hx : Ext σ σ') (hfree : isFree P esc p.o.dst p.o.op = true) (hf : Fact P w0 call esc ops p st σ) : Fact P w0 call esc ops p st σ' := by
  refine ⟨hf.eff, hf.lp, ?_⟩
  obtain ⟨go, h1, h2, h3⟩ := hf.go
  exact ⟨go, h1, fun hgo K' hK' => free_ext hfree hx (h2 hgo (fun x e _ => K' x e σ') hK'), h3⟩

/-- Two that hang on nothing of each other. -/
def Ap (ops : Array Oper) (p q : PE) : Prop := p.o.apart ops q.o = true

theorem app_comm {p q : PE} {st : St} (h : Ap ops p q) (hp : ∀ k cs, p.e = some (k, cs) → p.o.dst = some k) (hq : ∀ k cs, q.e = some (k, cs) → q.o.dst = some k) : q.app (p.app st) = p.app (q.app st) := by
  obtain ⟨_, h2, _⟩ := Oper.apart_spec h
  have hb : ((st.eff p.e).eff q.e).bx = ((st.eff q.e).eff p.e).bx := by
    cases he : p.e with
    | none => rfl
    | some kc =>
      cases he' : q.e with
      | none => rfl
      | some kc' =>
        obtain ⟨k, cs⟩ := kc
        obtain ⟨k', cs'⟩ := kc'
        have g1 := hp _ _ he
        have g2 := hq _ _ he'
        have hne : k ≠ k' := fun e => h2 k g1 (by rw [g2, e])
        funext i
        by_cases e1 : i = k'
        · subst e1
          rw [eff_eq, eff_ne (Ne.symm hne), eff_eq]
        · rw [eff_ne e1]
          by_cases e2 : i = k
          · subst e2; rw [eff_eq, eff_eq]
          · rw [eff_ne e2, eff_ne e2, eff_ne e1]
  have ht : ∀ (s : St) e, (s.eff e).tmps = s.tmps := fun s e => by cases e <;> rfl
  have ht2 : (p.app st).tmps = (putT st p.o.dst p.x).tmps := by cases hd : p.o.dst <;> simp [PE.app, putT, hd, ht]
  have ht3 : (q.app st).tmps = (putT st q.o.dst q.x).tmps := by cases hd : q.o.dst <;> simp [PE.app, putT, hd, ht]
  have key : ∀ (a b : St), a.tmps = b.tmps → a.bx = b.bx → a = b := fun a b h1 h2 => by cases a; cases b; simp_all
  have hbe : ∀ (s t : St) e, s.bx = t.bx → (s.eff e).bx = (t.eff e).bx := fun s t e h => by cases e <;> simp [St.eff, h]
  apply key
  · cases hd : p.o.dst with
    | none => cases hd' : q.o.dst <;> simp [PE.app, putT, hd, hd', ht]
    | some d =>
      cases hd' : q.o.dst with
      | none => simp [PE.app, putT, hd, hd', ht]
      | some d' =>
        have hne : d ≠ d' := fun e => h2 d hd (by rw [hd', e])
        simp [PE.app, putT, hd, hd', ht, List.set_comm _ _ hne]
  · have e1 : (q.app (p.app st)).bx = ((st.eff p.e).eff q.e).bx := by
      unfold PE.app
      rw [bx_putT]
      exact hbe _ _ _ bx_putT
    have e2 : (p.app (q.app st)).bx = ((st.eff q.e).eff p.e).bx := by
      unfold PE.app
      rw [bx_putT]
      exact hbe _ _ _ bx_putT
    rw [e1, e2, hb]

/-- An operation that is apart from what stands ahead of it comes first. -/
theorem to_front : ∀ {A : List PE} {p : PE} {st : St}, (∀ a, a ∈ A → Ap ops a p) → LpOk st → Facts P w0 call esc ops A st σ → Fact P w0 call esc ops p (appL A st) σ →
    Fact P w0 call esc ops p st σ ∧ Facts P w0 call esc ops A (p.app st) σ ∧ appL A (p.app st) = p.app (appL A st)
  | [], p, st, hap, hlp, hA, hp => ⟨hp, trivial, rfl⟩
  | a :: A, p, st, hap, hlp, hA, hp => by
    obtain ⟨h1, h2, h3⟩ := to_front (st := a.app st) (fun b hb => hap b (List.mem_cons_of_mem _ hb)) (hA.1.lpOk hlp) hA.2 hp
    obtain ⟨g1, g2, g3⟩ := Oper.apart_spec (hap a List.mem_cons_self)
    have hpa : ∀ k cs, p.e = some (k, cs) → p.o.dst = some k := fun k cs e => (h1.eff k cs e).1
    have haa : ∀ k cs, a.e = some (k, cs) → a.o.dst = some k := fun k cs e => (hA.1.eff k cs e).1
    have hcomm : p.app (a.app st) = a.app (p.app st) := app_comm (hap a List.mem_cons_self) haa hpa
    have hev : ∀ t, t ∈ p.o.looksAt ops → ev (a.app st) (.tmp t) = ev st (.tmp t) := fun t ht => by
      unfold PE.app
      rw [ev_putT (fun d hd e => g1 d hd (by cases e; exact ht)), ev_eff]
    have hp0 : Fact P w0 call esc ops p st σ := by
      refine h1.congr hev (fun y hy k hk => ?_) (fun k hk hn => ?_)
      · refine bx_app_ne hA.1.eff (hlp y k ?_)
        cases y with
        | tmp t => rw [← hev t (looks_op hy)]; exact hk
        | _ => exact hk
      · cases hs : st.bx k with
        | none => rfl
        | some c => rw [bx_app_ne hA.1.eff (by rw [hs]; simp), hs] at hn; cases hn
    refine ⟨hp0, ⟨?_, by rw [← hcomm]; exact h2⟩, ?_⟩
    · refine hA.1.congr (fun t ht => ?_) (fun y hy k hk => ?_) (fun k hk hn => ?_)
      · unfold PE.app
        rw [ev_putT (fun d hd e => g3 d hd (by cases e; exact ht)), ev_eff]
      · exact (bx_app_ne hp0.eff (hlp y k hk)).symm
      · unfold PE.app
        rw [bx_putT]
        cases he : p.e with
        | none => exact hn
        | some kc =>
          obtain ⟨k', cs⟩ := kc
          rw [eff_ne fun e => g2 k hk (by rw [hpa _ _ he, e])]
          exact hn
    · show appL A (a.app (p.app st)) = _
      rw [← hcomm]
      exact h3
end
end Go.Av
