/- The abstract layer, draws, part 4: a region whose order the machine draws. -/
import Derived.Test.YtpplljcblgnnhaaAD3
set_option linter.unusedVariables false
set_option linter.unusedSimpArgs false
namespace Go.Av
open Go Go.RowKit

def memN : List Nat → Nat → Bool
  | [], _ => false
  | a :: r, i => bif Nat.beq a i then true else memN r i
theorem memN_iff : ∀ {l : List Nat} {i : Nat}, memN l i = true ↔ i ∈ l
  | [], i => by simp [memN]
  | a :: r, i => by
    simp only [memN, List.mem_cons]
    cases h : Nat.beq a i with
    | true => simp [Nat.eq_of_beq_eq_true h]
    | false =>
      have hne : a ≠ i := fun e => by rw [e, Nat.beq_refl] at h; cases h
      simp only [cond_false, memN_iff (l := r)]
      constructor
      · exact .inr
      · rintro (e | e)
        · exact absurd e.symm hne
        · exact e
theorem memN_false {l : List Nat} {i : Nat} : memN l i = false ↔ i ∉ l := by
  rw [← memN_iff]; simp

def allN (p : Nat → Bool) : List Nat → Bool
  | [] => true
  | a :: r => match p a with | true => allN p r | false => false
theorem allN_iff {p : Nat → Bool} : ∀ {l : List Nat}, allN p l = true ↔ ∀ i, i ∈ l → p i = true
  | [] => by simp [allN]
  | a :: r => by
    simp only [allN, List.forall_mem_cons]
    cases h : p a with
    | true => simp [allN_iff (l := r)]
    | false => simp

def anyN (p : Nat → Bool) : List Nat → Bool
  | [] => false
  | a :: r => match p a with | true => true | false => anyN p r
theorem anyN_iff {p : Nat → Bool} : ∀ {l : List Nat}, anyN p l = true ↔ ∃ i, i ∈ l ∧ p i = true
  | [] => by simp [anyN]
  | a :: r => by
    simp only [anyN, List.mem_cons, exists_eq_or_imp]
    cases h : p a with
    | true => simp
    | false => simp [anyN_iff (l := r)]

section
variable (P : Program) (esc : Nat → Bool) (ops : Array Oper)

/-- What must stand ahead. -/
def predsO (o : Oper) : List Nat := (o.after.toList.filter (Region.binds .any)).map (·.on)
def preds (i : Nat) : List Nat := match ops.toList[i]? with | some o => predsO o | none => []
def freeAt (i : Nat) : Bool := match ops.toList[i]? with | some o => isFree P esc o.dst o.op | none => false
def hardAt (i : Nat) : Bool := match ops.toList[i]? with | some o => isHard o.op | none => true
def apartAt (i j : Nat) : Bool := match ops.toList[i]?, ops.toList[j]? with | some o, some o' => o.apart ops o' | _, _ => false

def lookN : List (Nat × List Nat) → Nat → List Nat
  | [], _ => []
  | (k, l) :: r, i => bif Nat.beq k i then l else lookN r i
def upTo : Nat → List Nat
  | 0 => []
  | n + 1 => n :: upTo n
theorem mem_upTo : ∀ {n i : Nat}, i ∈ upTo n ↔ i < n
  | 0, i => by simp [upTo]
  | n + 1, i => by simp only [upTo, List.mem_cons, mem_upTo (n := n)]; omega

variable (anc : Nat → List Nat)

def rel (p q : Nat) : Bool :=
  match Nat.beq p q with
  | true => false
  | false => match memN (preds ops p) q with
    | true => false
    | false => match memN (anc q) p with
      | true => true
      | false => match freeAt P esc ops p with
        | true => match hardAt ops q with
          | true => false
          | false => apartAt ops p q
        | false => false
def relL : List Nat → Bool
  | [] => true
  | p :: r => match allN (rel P esc ops anc p) r with | true => relL r | false => false

def okAnc (q : Nat) : Bool := allN (fun p => match memN (preds ops q) p with | true => true | false => anyN (fun d => memN (anc d) p) (preds ops q)) (anc q)
def okPre (q : Nat) : Bool := allN (fun d => match Nat.beq d q with | true => false | false => Nat.ble (d + 1) ops.toList.length) (preds ops q)

def drawOk (ord : List Nat) : Bool :=
  match relL P esc ops anc ord with
  | true => match allN (okAnc ops anc) (upTo ops.toList.length) with
    | true => match allN (okPre ops) (upTo ops.toList.length) with
      | true => match allN (memN ord) (upTo ops.toList.length) with
        | true => match allN (memN (upTo ops.toList.length)) ord with
          | true => Nat.ble ord.length ops.toList.length
          | false => false
        | false => false
      | false => false
    | false => false
  | false => false

variable (w0 : World) (call : FuncId → List Value → Vw → (Value → Vw → Prop) → Prop)

/-- In the order of the list; what may still be waiting sees the rows grow, no more. -/
def denL : List Nat → List Nat → List (Nat × Bool) → St → Vw → (St → Vw → Prop) → Prop
  | _, [], _, st, σ, K => K st σ
  | pre, i :: r, gk, st, σ, K => match ops.toList[i]? with
    | none => False
    | some o => match isFree P esc o.dst o.op with
      | true => denG P w0 call ops.toList esc gk o st σ fun gk st σ => denL (i :: pre) r gk st σ K
      | false => match allN (memN (anc i)) pre with
        | true => denG P w0 call ops.toList esc gk o st σ fun gk st σ => denL (i :: pre) r gk st σ K
        | false => denG P w0 call ops.toList esc gk o st σ fun gk st σ' => Ext σ σ' ∧ denL (i :: pre) r gk st σ' K
end

/-- A region whose order is drawn; an order and what must stand ahead of each are given, and are checked. -/
def denD (P : Program) (w0 : World) (call : FuncId → List Value → Vw → (Value → Vw → Prop) → Prop) (esc : Nat → Bool) (ord : List Nat) (anc : List (Nat × List Nat)) (ops : Array Oper) (st : St) (σ : Vw) (K : St → Vw → Prop) : Prop :=
  match drawOk P esc ops (lookN anc) ord with
  | true => denL P esc ops (lookN anc) w0 call [] ord [] st σ K
  | false => False

section
variable {P : Program} {w0 : World} {esc : Nat → Bool} {ops : Array Oper} {anc : Nat → List Nat} {call : FuncId → List Value → Vw → (Value → Vw → Prop) → Prop} {st : St} {σ : Vw} {gk : List (Nat × Bool)}

theorem relL_iff : ∀ {l : List Nat}, relL P esc ops anc l = true ↔ l.Pairwise fun p q => rel P esc ops anc p q = true
  | [] => by simp [relL]
  | a :: r => by
    simp only [relL, List.pairwise_cons]
    cases h : allN (rel P esc ops anc a) r with
    | true =>
      simp only [relL_iff (l := r)]
      exact ⟨fun h' => ⟨allN_iff.1 h, h'⟩, fun h' => h'.2⟩
    | false =>
      simp only [false_iff, Bool.false_eq_true]
      rintro ⟨h1, h2⟩
      rw [allN_iff.2 h1] at h; cases h

theorem rel_spec {p q : Nat} (h : rel P esc ops anc p q = true) : p ≠ q ∧ q ∉ preds ops p ∧ (p ∈ anc q ∨ (freeAt P esc ops p = true ∧ hardAt ops q = false ∧ apartAt ops p q = true)) := by
  unfold rel at h
  split at h
  · cases h
  · rename_i h1
    split at h
    · cases h
    · rename_i h2
      refine ⟨fun e => (by rw [e, Nat.beq_refl] at h1; cases h1), memN_false.1 h2, ?_⟩
      split at h
      · rename_i h3; exact .inl (memN_iff.1 h3)
      · split at h
        · split at h
          · cases h
          · rename_i h4 _ h5; exact .inr ⟨h4, h5, h⟩
        · cases h

/-- What 'drawOk' has shown. -/
structure DrawOk (P : Program) (esc : Nat → Bool) (ops : Array Oper) (anc : Nat → List Nat) (ord : List Nat) : Prop where
  rel : ord.Pairwise fun p q => rel P esc ops anc p q = true
  anc : ∀ q, q < ops.size → ∀ p, p ∈ anc q → p ∈ preds ops q ∨ ∃ d, d ∈ preds ops q ∧ p ∈ anc d
  pre : ∀ q, q < ops.size → ∀ d, d ∈ preds ops q → d ≠ q ∧ d < ops.size
  all : ∀ q, q < ops.size → q ∈ ord
  only : ∀ q, q ∈ ord → q < ops.size
  len : ord.length ≤ ops.size

theorem drawOk_spec {ord : List Nat} (h : drawOk P esc ops anc ord = true) : DrawOk P esc ops anc ord := by
  unfold drawOk at h
  split at h
  · rename_i h1
    split at h
    · rename_i h2
      split at h
      · rename_i h3
        split at h
        · rename_i h4
          split at h
          · rename_i h5
            simp only [Array.length_toList] at *
            refine ⟨relL_iff.1 h1, fun q hq p hp => ?_, fun q hq d hd => ?_, fun q hq => memN_iff.1 (allN_iff.1 h4 q (mem_upTo.2 hq)), fun q hq => mem_upTo.1 (memN_iff.1 (allN_iff.1 h5 q hq)), Nat.le_of_ble_eq_true h⟩
            · have := allN_iff.1 (allN_iff.1 h2 q (mem_upTo.2 hq)) p hp
              split at this
              · rename_i h6; exact .inl (memN_iff.1 h6)
              · obtain ⟨d, h7, h8⟩ := anyN_iff.1 this
                exact .inr ⟨d, h7, memN_iff.1 h8⟩
            · have := allN_iff.1 (allN_iff.1 h3 q (mem_upTo.2 hq)) d hd
              split at this
              · cases this
              · rename_i h6
                refine ⟨fun e => (by rw [e, Nat.beq_refl] at h6; cases h6), ?_⟩
                have h7 := Nat.le_of_ble_eq_true this
                simp only [Array.length_toList] at h7
                omega
          · cases h
        · cases h
      · cases h
    · cases h
  · cases h

/-- One step, its guard known. -/
theorem denG_step {o : Oper} (hg : GkOk gk st) {K : List (Nat × Bool) → St → Vw → Prop} (h : denG P w0 call ops.toList esc gk o st σ K) :
    ∃ go gk', GoAt ops.toList o st go ∧ GkOk gk' st ∧ freeSlot gk' o.dst = true ∧ (go = true → denOp P w0 call esc [] o.dst o.op st σ fun x e σ' => K gk' (putT (st.eff e) o.dst x) σ') ∧ (go = false → K gk' (putT st o.dst .und) σ) := by
  have run : ∀ {gk' : List (Nat × Bool)} {b : Bool}, GkOk gk' st → runG P w0 call esc gk' o b st σ (K gk') → (b = true → denOp P w0 call esc [] o.dst o.op st σ fun x e σ' => K gk' (putT (st.eff e) o.dst x) σ') ∧ (b = false → K gk' (putT st o.dst .und) σ) := by
    intro gk' b hg' h
    cases b with
    | true => exact ⟨fun _ => denOp_gk hg' (by simpa only [runG, putK_eq] using h), nofun⟩
    | false => exact ⟨nofun, fun _ => by simpa only [runG, putK_eq, St.eff] using h⟩
  unfold denG at h
  split at h
  · exact h.elim
  · rename_i hfr
    split at h
    · rename_i hgd
      exact ⟨true, gk, .inl ⟨hgd, rfl⟩, hg, hfr, run hg h⟩
    · rename_i g want hgd
      split at h
      · exact h.elim
      · rename_i t ht
        split at h
        · exact h.elim
        · rename_i hft
          split at h
          · rename_i b hb
            exact ⟨agree b want, gk, .inr (.inl ⟨g, want, t, b, hgd, ht, known_val hg hb, rfl⟩), hg, hfr, run hg h⟩
          · split at h
            · rename_i v hb
              obtain ⟨b, rfl, h1, h2⟩ := h
              have hv : toV (st.tmps.getD t .unk) = some (.bool b) := by rw [hb]; rfl
              cases b with
              | true => exact ⟨agree true want, _, .inr (.inl ⟨g, want, t, true, hgd, ht, hv, rfl⟩), hg.cons hv, freeSlot_cons hfr hft, run (hg.cons hv) (h1 rfl)⟩
              | false => exact ⟨agree false want, _, .inr (.inl ⟨g, want, t, false, hgd, ht, hv, rfl⟩), hg.cons hv, freeSlot_cons hfr hft, run (hg.cons hv) (h2 rfl)⟩
            · rename_i hb
              exact ⟨false, gk, .inr (.inr ⟨g, want, t, hgd, ht, hb, rfl⟩), hg, hfr, run hg h⟩
            · exact h.elim

/-- What is still to be run: what has been reckoned out, and the rest. -/
structure Abs (P : Program) (w0 : World) (call : FuncId → List Value → Vw → (Value → Vw → Prop) → Prop) (esc : Nat → Bool) (ops : Array Oper) (anc : Nat → List Nat) (K : St → Vw → Prop) (L : List Nat) (pend : List PE) (rest : List Nat) (st : St) (σ : Vw) : Prop where
  split : L = pend.map (·.i) ++ rest
  ok : ∀ p, p ∈ pend → ops[p.i]? = some p.o ∧ isFree P esc p.o.dst p.o.op = true
  facts : Facts P w0 call esc ops pend st σ
  den : ∃ gk pre, GkOk gk (appL pend st) ∧ (∀ p, p ∈ pend → p.i ∈ pre) ∧ denL P esc ops anc w0 call pre rest gk (appL pend st) σ K

theorem Abs.push {K : St → Vw → Prop} {L : List Nat} : ∀ {rest : List Nat} {pend : List PE}, Abs P w0 call esc ops anc K L pend rest st σ →
    ∃ pend' rest', Abs P w0 call esc ops anc K L pend' rest' st σ ∧ ∀ q r, rest' = q :: r → freeAt P esc ops q = false
  | [], pend, h => ⟨pend, [], h, nofun⟩
  | q :: r, pend, h => by
    cases hq : freeAt P esc ops q with
    | false => exact ⟨pend, _, h, fun q' r' e => by cases e; exact hq⟩
    | true =>
      obtain ⟨gk, pre, hg, hpre, hd⟩ := h.den
      simp only [denL] at hd
      split at hd
      · exact hd.elim
      · rename_i o ho
        have hfree : isFree P esc o.dst o.op = true := by simpa [freeAt, ho] using hq
        rw [hfree] at hd
        simp only at hd
        obtain ⟨go, gk', h1, h2, h3, h4, h5⟩ := denG_step hg hd
        have ho' : ops[q]? = some o := by rw [← Array.getElem?_toList]; exact ho
        have fin : ∀ x e, Fact P w0 call esc ops ⟨q, o, x, e⟩ (appL pend st) σ → denL P esc ops anc w0 call (q :: pre) r gk' (putT ((appL pend st).eff e) o.dst x) σ K →
            ∃ pend' rest', Abs P w0 call esc ops anc K L pend' rest' st σ ∧ ∀ q r, rest' = q :: r → freeAt P esc ops q = false := by
          intro x e hf hden
          have happ : appL (pend ++ [⟨q, o, x, e⟩]) st = putT ((appL pend st).eff e) o.dst x := by rw [appL_append]; rfl
          refine Abs.push (rest := r) (pend := pend ++ [⟨q, o, x, e⟩]) ⟨by rw [h.split]; simp, fun p hp => ?_, Facts.append.2 ⟨h.facts, hf, trivial⟩, gk', q :: pre, ?_, fun p hp => ?_, ?_⟩
          · rcases List.mem_append.1 hp with hp | hp
            · exact h.ok p hp
            · rw [List.mem_singleton.1 hp]; exact ⟨ho', hfree⟩
          · rw [happ]; exact h2.put h3
          · rcases List.mem_append.1 hp with hp | hp
            · exact List.mem_cons_of_mem _ (hpre p hp)
            · rw [List.mem_singleton.1 hp]; exact List.mem_cons_self
          · rw [happ]; exact hden
        cases go with
        | true =>
          obtain ⟨x, e, q1, q2, q3, q4⟩ := free_one hfree (h4 rfl)
          exact fin x e ⟨q3, q4, true, h1, fun _ => q2, nofun⟩ q1
        | false => exact fin .und none ⟨fun _ _ h => (nomatch h), fun _ h => (nomatch h), false, h1, nofun, fun _ => ⟨rfl, rfl⟩⟩ (h5 rfl)
end
end Go.Av
