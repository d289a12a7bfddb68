/- The abstract layer, draws, part 4: a region whose order the machine draws. -/
import Derived.Test.YtkndffhcncmbjaaAD3
set_option linter.unusedVariables false
set_option linter.unusedSimpArgs false
namespace Go.Av
open Go Go.RowKit

def memN : List Nat → Nat → Bool
  | [], _ => false
  | a :: r, i => bif Nat.beq a i then true else memN r i
theorem memN_iff : ∀ {l : List Nat} {i : Nat}, memN l i = true ↔ i ∈ l
  | [], i => by simp [memN]
  | a :: r, i => by
    simp only [memN, List.mem_cons]
    cases h : Nat.beq a i with
    | true => simp [Nat.eq_of_beq_eq_true h]
    | false =>
      have hne : a ≠ i := fun e => by rw [e, Nat.beq_refl] at h; cases h
      simp only [cond_false, memN_iff (l := r)]
      constructor
      · exact .inr
      · rintro (e | e)
        · exact absurd e.symm hne
        · exact e
theorem memN_false {l : List Nat} {i : Nat} : memN l i = false ↔ i ∉ l := by
  rw [← memN_iff]; simp

def allN (p : Nat → Bool) : List Nat → Bool
  | [] => true
  | a :: r => match p a with | true => allN p r | false => false
theorem allN_iff {p : Nat → Bool} : ∀ {l : List Nat}, allN p l = true ↔ ∀ i, i ∈ l → p i = true
  | [] => by simp [allN]
  | a :: r => by
    simp only [allN, List.forall_mem_cons]
    cases h : p a with
    | true => simp [allN_iff (l := r)]
    | false => simp

def anyN (p : Nat → Bool) : List Nat → Bool
  | [] => false
  | a :: r => match p a with | true => true | false => anyN p r
theorem anyN_iff {p : Nat → Bool} : ∀ {l : List Nat}, anyN p l = true ↔ ∃ i, i ∈ l ∧ p i = true
  | [] => by simp [anyN]
  | a :: r => by
    simp only [anyN, List.mem_cons, exists_eq_or_imp]
    cases h : p a with
    | true => simp
    | false => simp [anyN_iff (l := r)]

section
variable (P : Program) (esc : Nat → Bool) (ops : Array Oper)

/-- What must stand ahead. -/
def predsO (o : Oper) : List Nat := (o.after.toList.filter (Region.binds .any)).map (·.on)
def preds (i : Nat) : List Nat := match ops.toList[i]? with | some o => predsO o | none => []
def freeAt (i : Nat) : Bool := match ops.toList[i]? with | some o => isFree P esc o.dst o.op | none => false
def hardAt (i : Nat) : Bool := match ops.toList[i]? with | some o => isHard o.op | none => true
def apartAt (i j : Nat) : Bool := match ops.toList[i]?, ops.toList[j]? with | some o, some o' => o.apart ops o' | _, _ => false

def lookN : List (Nat × List Nat) → Nat → List Nat
  | [], _ => []
  | (k, l) :: r, i => bif Nat.beq k i then l else lookN r i
def upTo : Nat → List Nat
  | 0 => []
  | n + 1 => n :: upTo n
theorem mem_upTo : ∀ {n i : Nat}, i ∈ upTo n ↔ i < n
  | 0, i => by simp [upTo]
  | n + 1, i => by simp only [upTo, List.mem_cons, mem_upTo (n := n)]; omega

variable (anc : Nat → List Nat)

/-- The orders that are reckoned out: one behind the other; of two of which either may come first, both. -/
inductive DT where
  | done
  | step (i : Nat) (t : DT)
  | both (a b : DT)
def DT.heads : DT → List Nat
  | .done => []
  | .step i _ => [i]
  | .both a b => a.heads ++ b.heads
def DT.depth : DT → Nat
  | .done => 0
  | .step _ t => t.depth + 1
  | .both a b => Nat.max a.depth b.depth

/-- May i come behind p? -/
def condAt (i p : Nat) : Bool :=
  match memN (anc i) p with
  | true => true
  | false => match freeAt P esc ops p with
    | true => match hardAt ops i with
      | true => false
      | false => apartAt ops p i
    | false => true
def okAt (pre : List Nat) (i : Nat) : Bool :=
  match Nat.ble (i + 1) ops.toList.length with
  | true => match memN pre i with
    | true => false
    | false => match allN (memN pre) (preds ops i) with
      | true => allN (condAt P esc ops anc i) pre
      | false => false
  | false => false
/-- Whatever is left hangs on one of these, or is one. -/
def cover (pre H : List Nat) : Bool := allN (fun y => match memN pre y with
  | true => true
  | false => match memN H y with
    | true => true
    | false => anyN (memN (anc y)) H) (upTo ops.toList.length)
def okT : Bool → List Nat → DT → Bool
  | cov, pre, .done => match cov with
    | true => allN (memN pre) (upTo ops.toList.length)
    | false => false
  | cov, pre, .step i t => match okAt P esc ops anc pre i with
    | true => match freeAt P esc ops i with
      | true => match cov with
        | true => okT true (i :: pre) t
        | false => false
      | false => match cov with
        | true => match cover ops anc pre [i] with
          | true => okT true (i :: pre) t
          | false => false
        | false => okT true (i :: pre) t
    | false => false
  | cov, pre, .both a b => match (match cov with | true => cover ops anc pre (a.heads ++ b.heads) | false => true) with
    | true => match okT false pre a with
      | true => okT false pre b
      | false => false
    | false => false

def okAnc (q : Nat) : Bool := allN (fun p => match memN (preds ops q) p with | true => true | false => anyN (fun d => memN (anc d) p) (preds ops q)) (anc q)
def okPre (q : Nat) : Bool := allN (fun d => match Nat.beq d q with | true => false | false => Nat.ble (d + 1) ops.toList.length) (preds ops q)

def drawOk (t : DT) : Bool :=
  match okT P esc ops anc true [] t with
  | true => match allN (okAnc ops anc) (upTo ops.toList.length) with
    | true => allN (okPre ops) (upTo ops.toList.length)
    | false => false
  | false => false

variable (w0 : World) (call : FuncId → List Value → Vw → (Value → Vw → Prop) → Prop)

/-- Is nothing waiting? -/
def calm (pre : List Nat) (i : Nat) : Bool := allN (fun p => match memN (anc i) p with
  | true => true
  | false => match freeAt P esc ops p with
    | true => false
    | false => true) pre

/-- In the orders of the tree; what may still be waiting sees the rows grow, no more. -/
def denL : List Nat → DT → List (Nat × Bool) → St → Vw → (St → Vw → Prop) → Prop
  | _, .done, _, st, σ, K => K st σ
  | pre, .step i r, gk, st, σ, K => match ops.toList[i]? with
    | none => False
    | some o => match isFree P esc o.dst o.op with
      | true => denG P w0 call ops.toList esc gk o st σ fun gk st σ => denL (i :: pre) r gk st σ K
      | false => match calm P esc ops anc pre i with
        | true => denG P w0 call ops.toList esc gk o st σ fun gk st σ => denL (i :: pre) r gk st σ K
        | false => denG P w0 call ops.toList esc gk o st σ fun gk st σ' => Ext σ σ' ∧ denL (i :: pre) r gk st σ' K
  | pre, .both a b, gk, st, σ, K => denL pre a gk st σ K ∧ denL pre b gk st σ K
end

/-- A region whose order is drawn; a tree of orders and what must stand ahead of each are given, and are checked. -/
def denD (P : Program) (w0 : World) (call : FuncId → List Value → Vw → (Value → Vw → Prop) → Prop) (esc : Nat → Bool) (ord : DT) (anc : List (Nat × List Nat)) (ops : Array Oper) (st : St) (σ : Vw) (K : St → Vw → Prop) : Prop :=
  match drawOk P esc ops (lookN anc) ord with
  | true => denL P esc ops (lookN anc) w0 call [] ord [] st σ K
  | false => False

section
variable {P : Program} {w0 : World} {esc : Nat → Bool} {ops : Array Oper} {anc : Nat → List Nat} {call : FuncId → List Value → Vw → (Value → Vw → Prop) → Prop} {st : St} {σ : Vw} {gk : List (Nat × Bool)}

theorem okAt_spec {pre : List Nat} {i : Nat} (h : okAt P esc ops anc pre i = true) : i < ops.size ∧ i ∉ pre ∧ (∀ d, d ∈ preds ops i → d ∈ pre) ∧
    ∀ p, p ∈ pre → p ∈ anc i ∨ (freeAt P esc ops p = true ∧ hardAt ops i = false ∧ apartAt ops p i = true) ∨ freeAt P esc ops p = false := by
  unfold okAt at h
  split at h
  · rename_i h1
    split at h
    · cases h
    · rename_i h2
      split at h
      · rename_i h3
        refine ⟨by have := Nat.le_of_ble_eq_true h1; simp only [Array.length_toList] at this; omega, memN_false.1 h2, fun d hd => memN_iff.1 (allN_iff.1 h3 d hd), fun p hp => ?_⟩
        have := allN_iff.1 h p hp
        unfold condAt at this
        split at this
        · rename_i h4; exact .inl (memN_iff.1 h4)
        · split at this
          · rename_i h5
            split at this
            · cases this
            · rename_i h6; exact .inr (.inl ⟨h5, h6, this⟩)
          · rename_i h5
            exact .inr (.inr h5)
      · cases h
  · cases h

theorem cover_spec {pre H : List Nat} (h : cover ops anc pre H = true) {y : Nat} (hy : y < ops.size) (hp : y ∉ pre) : y ∈ H ∨ ∃ k, k ∈ H ∧ k ∈ anc y := by
  have := allN_iff.1 h y (mem_upTo.2 (by simpa using hy))
  simp only [memN_false.2 hp] at this
  split at this
  · rename_i h1; exact .inl (memN_iff.1 h1)
  · obtain ⟨k, h1, h2⟩ := anyN_iff.1 this
    exact .inr ⟨k, h1, memN_iff.1 h2⟩

/-- No free one stands at the head. -/
def hard : DT → Prop
  | .step i _ => freeAt P esc ops i = false
  | _ => True

theorem okT_both {cov : Bool} {pre : List Nat} {a b : DT} (h : okT P esc ops anc cov pre (.both a b) = true) : (cov = true → cover ops anc pre (a.heads ++ b.heads) = true) ∧ okT P esc ops anc false pre a = true ∧ okT P esc ops anc false pre b = true := by
  simp only [okT] at h
  split at h
  · rename_i h1
    split at h
    · rename_i h2
      refine ⟨fun hc => ?_, h2, h⟩
      subst hc; exact h1
    · cases h
  · cases h
theorem okT_step {cov : Bool} {pre : List Nat} {i : Nat} {t : DT} (h : okT P esc ops anc cov pre (.step i t) = true) : okAt P esc ops anc pre i = true ∧ okT P esc ops anc true (i :: pre) t = true ∧
    (freeAt P esc ops i = true ∧ cov = true ∨ freeAt P esc ops i = false ∧ (cov = true → cover ops anc pre [i] = true)) := by
  simp only [okT] at h
  split at h
  · rename_i h1
    split at h
    · rename_i h2
      split at h
      · exact ⟨h1, h, .inl ⟨h2, rfl⟩⟩
      · cases h
    · rename_i h2
      split at h
      · split at h
        · rename_i h3; exact ⟨h1, h, .inr ⟨h2, fun _ => h3⟩⟩
        · cases h
      · exact ⟨h1, h, .inr ⟨h2, nofun⟩⟩
  · cases h

/-- One of the heads is chosen. -/
theorem pick_head {K : St → Vw → Prop} {pre : List Nat} {j : Nat} : ∀ {t : DT} {cov : Bool}, okT P esc ops anc cov pre t = true → denL P esc ops anc w0 call pre t gk st σ K → j ∈ t.heads →
    ∃ t', okAt P esc ops anc pre j = true ∧ okT P esc ops anc true (j :: pre) t' = true ∧ denL P esc ops anc w0 call pre (.step j t') gk st σ K ∧ t'.depth + 1 ≤ t.depth ∧ (cov = false → freeAt P esc ops j = false)
  | .done, _, _, _, h => nomatch h
  | .step i t, cov, hk, hd, h => by
    obtain rfl := List.mem_singleton.1 h
    obtain ⟨h1, h2, h3⟩ := okT_step hk
    refine ⟨t, h1, h2, hd, Nat.le_refl _, fun hc => ?_⟩
    rcases h3 with ⟨_, h4⟩ | ⟨h4, _⟩
    · rw [hc] at h4; cases h4
    · exact h4
  | .both a b, cov, hk, hd, h => by
    obtain ⟨_, h2, h3⟩ := okT_both hk
    simp only [denL] at hd
    rcases List.mem_append.1 h with h | h
    · obtain ⟨t', g1, g2, g3, g4, g5⟩ := pick_head h2 hd.1 h
      exact ⟨t', g1, g2, g3, Nat.le_trans g4 (Nat.le_max_left _ _), fun _ => g5 rfl⟩
    · obtain ⟨t', g1, g2, g3, g4, g5⟩ := pick_head h3 hd.2 h
      exact ⟨t', g1, g2, g3, Nat.le_trans g4 (Nat.le_max_right _ _), fun _ => g5 rfl⟩

theorem okT_cover {pre : List Nat} {t : DT} (h : okT P esc ops anc true pre t = true) (hh : hard (P := P) (esc := esc) (ops := ops) t) {y : Nat} (hy : y < ops.size) (hp : y ∉ pre) : y ∈ t.heads ∨ ∃ k, k ∈ t.heads ∧ k ∈ anc y := by
  cases t with
  | done =>
    simp only [okT] at h
    exact absurd (memN_iff.1 (allN_iff.1 h y (mem_upTo.2 (by simpa using hy)))) hp
  | step i t =>
    obtain ⟨_, _, h3⟩ := okT_step h
    rcases h3 with ⟨h4, _⟩ | ⟨_, h4⟩
    · have h5 : freeAt P esc ops i = false := hh
      rw [h4] at h5; cases h5
    · exact cover_spec (h4 rfl) hy hp
  | both a b => exact cover_spec ((okT_both h).1 rfl) hy hp

theorem heads_ne {pre : List Nat} : ∀ {t : DT} {cov : Bool}, okT P esc ops anc cov pre t = true → t ≠ .done → t.heads ≠ []
  | .done, _, _, h => absurd rfl h
  | .step i t, _, _, _ => by simp [DT.heads]
  | .both a b, cov, hk, _ => by
    obtain ⟨_, h2, _⟩ := okT_both hk
    have : a.heads ≠ [] := heads_ne h2 fun e => by subst e; simp [okT] at h2
    simp [DT.heads, this]

/-- What 'drawOk' has shown. -/
structure DrawOk (P : Program) (esc : Nat → Bool) (ops : Array Oper) (anc : Nat → List Nat) (t : DT) : Prop where
  tree : okT P esc ops anc true [] t = true
  anc : ∀ q, q < ops.size → ∀ p, p ∈ anc q → p ∈ preds ops q ∨ ∃ d, d ∈ preds ops q ∧ p ∈ anc d
  pre : ∀ q, q < ops.size → ∀ d, d ∈ preds ops q → d ≠ q ∧ d < ops.size

theorem drawOk_spec {t : DT} (h : drawOk P esc ops anc t = true) : DrawOk P esc ops anc t := by
  unfold drawOk at h
  split at h
  · rename_i h1
    split at h
    · rename_i h2
      have h3 := h
      simp only [Array.length_toList] at h2 h3
      refine ⟨h1, fun q hq p hp => ?_, fun q hq d hd => ?_⟩
      · have := allN_iff.1 (allN_iff.1 h2 q (mem_upTo.2 hq)) p hp
        split at this
        · rename_i h6; exact .inl (memN_iff.1 h6)
        · obtain ⟨d, h7, h8⟩ := anyN_iff.1 this
          exact .inr ⟨d, h7, memN_iff.1 h8⟩
      · have := allN_iff.1 (allN_iff.1 h3 q (mem_upTo.2 hq)) d hd
        split at this
        · cases this
        · rename_i h6
          refine ⟨fun e => (by rw [e, Nat.beq_refl] at h6; cases h6), ?_⟩
          have h7 := Nat.le_of_ble_eq_true this
          simp only [Array.length_toList] at h7
          omega
    · cases h
  · cases h

/-- One step, its guard known. -/
theorem denG_step {o : Oper} (hg : GkOk gk st) {K : List (Nat × Bool) → St → Vw → Prop} (h : denG P w0 call ops.toList esc gk o st σ K) :
    ∃ go gk', GoAt ops.toList o st go ∧ GkOk gk' st ∧ freeSlot gk' o.dst = true ∧ (go = true → denOp P w0 call esc [] o.dst o.op st σ fun x e σ' => K gk' (putT (st.eff e) o.dst x) σ') ∧ (go = false → K gk' (putT st o.dst .und) σ) := by
  have run : ∀ {gk' : List (Nat × Bool)} {b : Bool}, GkOk gk' st → runG P w0 call esc gk' o b st σ (K gk') → (b = true → denOp P w0 call esc [] o.dst o.op st σ fun x e σ' => K gk' (putT (st.eff e) o.dst x) σ') ∧ (b = false → K gk' (putT st o.dst .und) σ) := by
    intro gk' b hg' h
    cases b with
    | true => exact ⟨fun _ => denOp_gk hg' (by simpa only [runG, putK_eq] using h), nofun⟩
    | false => exact ⟨nofun, fun _ => by simpa only [runG, putK_eq, St.eff] using h⟩
  unfold denG at h
  split at h
  · exact h.elim
  · rename_i hfr
    split at h
    · rename_i hgd
      exact ⟨true, gk, .inl ⟨hgd, rfl⟩, hg, hfr, run hg h⟩
    · rename_i g want hgd
      split at h
      · exact h.elim
      · rename_i t ht
        split at h
        · exact h.elim
        · rename_i hft
          split at h
          · rename_i b hb
            exact ⟨agree b want, gk, .inr (.inl ⟨g, want, t, b, hgd, ht, known_val hg hb, rfl⟩), hg, hfr, run hg h⟩
          · split at h
            · rename_i v hb
              obtain ⟨b, rfl, h1, h2⟩ := h
              have hv : toV (st.tmps.getD t .unk) = some (.bool b) := by rw [hb]; rfl
              cases b with
              | true => exact ⟨agree true want, _, .inr (.inl ⟨g, want, t, true, hgd, ht, hv, rfl⟩), hg.cons hv, freeSlot_cons hfr hft, run (hg.cons hv) (h1 rfl)⟩
              | false => exact ⟨agree false want, _, .inr (.inl ⟨g, want, t, false, hgd, ht, hv, rfl⟩), hg.cons hv, freeSlot_cons hfr hft, run (hg.cons hv) (h2 rfl)⟩
            · rename_i hb
              exact ⟨false, gk, .inr (.inr ⟨g, want, t, hgd, ht, hb, rfl⟩), hg, hfr, run hg h⟩
            · exact h.elim

/-- Which have been run. -/
structure Dyn (ops : Array Oper) (anc : Nat → List Nat) (pend : List PE) (pre : List Nat) (listed : Array Bool) : Prop where
  size : listed.size = ops.size
  bit : ∀ j, j < ops.size → (listed.getD j true = false ↔ (j ∈ pend.map (·.i) ∨ j ∉ pre))
  closed : ∀ q, q < ops.size → listed.getD q true = true → ∀ p, p ∈ anc q → listed.getD p true = true

/-- What is still to be run: what has been reckoned out, and the rest. -/
structure Abs (P : Program) (w0 : World) (call : FuncId → List Value → Vw → (Value → Vw → Prop) → Prop) (esc : Nat → Bool) (ops : Array Oper) (anc : Nat → List Nat) (K : St → Vw → Prop) (pend : List PE) (pre : List Nat) (t : DT) (st : St) (σ : Vw) : Prop where
  ok : ∀ p, p ∈ pend → ops[p.i]? = some p.o ∧ isFree P esc p.o.dst p.o.op = true
  facts : Facts P w0 call esc ops pend st σ
  den : ∃ gk, GkOk gk (appL pend st) ∧ denL P esc ops anc w0 call pre t gk (appL pend st) σ K
  tree : okT P esc ops anc true pre t = true
  pin : ∀ p, p ∈ pend → p.i ∈ pre ∧ ∀ d, d ∈ preds ops p.i → d ∈ pre
  pair : pend.Pairwise fun x y => x.i ≠ y.i ∧ y.i ∉ preds ops x.i ∧ (x.i ∈ anc y.i ∨ x.o.apart ops y.o = true)

theorem Abs.push {K : St → Vw → Prop} {listed : Array Bool} : ∀ {t : DT} {pend : List PE} {pre : List Nat}, Abs P w0 call esc ops anc K pend pre t st σ → Dyn ops anc pend pre listed →
    ∃ pend' pre' t', Abs P w0 call esc ops anc K pend' pre' t' st σ ∧ Dyn ops anc pend' pre' listed ∧ pend'.length + t'.depth ≤ pend.length + t.depth ∧ hard (P := P) (esc := esc) (ops := ops) t'
  | .done, pend, pre, h, hd => ⟨pend, pre, _, h, hd, Nat.le_refl _, trivial⟩
  | .both a b, pend, pre, h, hd => ⟨pend, pre, _, h, hd, Nat.le_refl _, trivial⟩
  | .step q r, pend, pre, h, hdy => by
    cases hq : freeAt P esc ops q with
    | false => exact ⟨pend, pre, _, h, hdy, Nat.le_refl _, hq⟩
    | true =>
      obtain ⟨gk, hg, hd⟩ := h.den
      obtain ⟨hat, htree, _⟩ := okT_step h.tree
      obtain ⟨hlt, hnp, hpre, hcond⟩ := okAt_spec hat
      simp only [denL] at hd
      split at hd
      · exact hd.elim
      · rename_i o ho
        have hfree : isFree P esc o.dst o.op = true := by simpa [freeAt, ho] using hq
        rw [hfree] at hd
        simp only at hd
        obtain ⟨go, gk', h1, h2, h3, h4, h5⟩ := denG_step hg hd
        have ho' : ops[q]? = some o := by rw [← Array.getElem?_toList]; exact ho
        have fin : ∀ x e, Fact P w0 call esc ops ⟨q, o, x, e⟩ (appL pend st) σ → denL P esc ops anc w0 call (q :: pre) r gk' (putT ((appL pend st).eff e) o.dst x) σ K →
            ∃ pend' pre' t', Abs P w0 call esc ops anc K pend' pre' t' st σ ∧ Dyn ops anc pend' pre' listed ∧ pend'.length + t'.depth ≤ pend.length + (DT.step q r).depth ∧ hard (P := P) (esc := esc) (ops := ops) t' := by
          intro x e hf hden
          have happ : appL (pend ++ [⟨q, o, x, e⟩]) st = putT ((appL pend st).eff e) o.dst x := by rw [appL_append]; rfl
          have hdy' : Dyn ops anc (pend ++ [⟨q, o, x, e⟩]) (q :: pre) listed := by
            refine ⟨hdy.size, fun j hj => ?_, hdy.closed⟩
            rw [hdy.bit j hj]
            simp only [List.map_append, List.map_cons, List.map_nil, List.mem_append, List.mem_cons, List.not_mem_nil, or_false, not_or]
            constructor
            · rintro (h' | h')
              · exact .inl (.inl h')
              · by_cases e : j = q
                · exact .inl (.inr e)
                · exact .inr ⟨e, h'⟩
            · rintro ((h' | h') | ⟨_, h'⟩)
              · exact .inl h'
              · rw [h']; exact .inr hnp
              · exact .inr h'
          have hab : Abs P w0 call esc ops anc K (pend ++ [⟨q, o, x, e⟩]) (q :: pre) r st σ := by
            refine ⟨fun p hp => ?_, Facts.append.2 ⟨h.facts, hf, trivial⟩, ⟨gk', ?_, ?_⟩, htree, fun p hp => ?_, ?_⟩
            · rcases List.mem_append.1 hp with hp | hp
              · exact h.ok p hp
              · rw [List.mem_singleton.1 hp]; exact ⟨ho', hfree⟩
            · rw [happ]; exact h2.put h3
            · rw [happ]; exact hden
            · rcases List.mem_append.1 hp with hp | hp
              · exact ⟨List.mem_cons_of_mem _ (h.pin p hp).1, fun d hd => List.mem_cons_of_mem _ ((h.pin p hp).2 d hd)⟩
              · rw [List.mem_singleton.1 hp]; exact ⟨List.mem_cons_self, fun d hd => List.mem_cons_of_mem _ (hpre d hd)⟩
            · refine List.pairwise_append.2 ⟨h.pair, by simp, fun a ha b hb => ?_⟩
              rw [List.mem_singleton.1 hb]
              refine ⟨fun e => hnp ((show a.i = q from e) ▸ (h.pin a ha).1), fun hm => hnp ((h.pin a ha).2 q hm), ?_⟩
              have hfa : freeAt P esc ops a.i = true := by
                have h1 := h.ok a ha
                have h2 : ops.toList[a.i]? = some a.o := by rw [Array.getElem?_toList]; exact h1.1
                simp [freeAt, h2, h1.2]
              rcases hcond a.i (h.pin a ha).1 with h' | ⟨_, _, h'⟩ | h'
              · exact .inl h'
              · refine .inr ?_
                have h1 := h.ok a ha
                simp only [apartAt, Array.getElem?_toList, h1.1, ho'] at h'
                exact h'
              · rw [hfa] at h'; cases h'
          obtain ⟨pend', pre', t', g1, g2, g3, g4⟩ := Abs.push hab hdy'
          refine ⟨pend', pre', t', g1, g2, ?_, g4⟩
          simp only [List.length_append, List.length_singleton, DT.depth] at g3 ⊢
          omega
        cases go with
        | true =>
          obtain ⟨x, e, q1, q2, q3, q4⟩ := free_one hfree (h4 rfl)
          exact fin x e ⟨q3, q4, true, h1, fun _ => q2, nofun⟩ q1
        | false => exact fin .und none ⟨fun _ _ h => (nomatch h), fun _ h => (nomatch h), false, h1, nofun, fun _ => ⟨rfl, rfl⟩⟩ (h5 rfl)
end
end Go.Av
