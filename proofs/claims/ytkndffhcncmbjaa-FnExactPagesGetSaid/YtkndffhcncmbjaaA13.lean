/- The abstract layer, part 13: code, loops, functions. -/
import Derived.Test.YtkndffhcncmbjaaAD5
set_option linter.unusedVariables false
set_option linter.unusedSimpArgs false
namespace Go.Av
open Go Go.RowKit

inductive AX where
  | normal
  | exit (id : Nat)
  | ret

/-- What is kept from round to round: slots, and boxes with their numbers of cells. -/
structure Keep where
  slots : List Nat
  boxes : List (Nat × Nat)
  lps : List Nat := []
  ord : DT := .done
  anc : List (Nat × List Nat) := []

def vget (vs : List Value) (i : Nat) : Value := vs.getD i undef

def slotsFrom (n : Nat) (g : Nat → Value) : List Nat → Nat → List TV
  | [], _ => List.replicate n .unk
  | s :: ss, i => (slotsFrom n g ss (i + 1)).set s (.val (g i))

def boxesFrom (g : Nat → Value) : List (Nat × Nat) → Nat → Nat → Option (List Value)
  | [], _, _ => none
  | (k, m) :: r, i, j => bif Nat.beq k j then some (expl g i m) else boxesFrom g r (i + m) j

def setLps : List Nat → St → St
  | [], st => st
  | k :: r, st => setLps r { st with tmps := st.tmps.set k (.lp k 0) }

def hasB : List (Nat × Nat) → Nat → Bool
  | [], _ => false
  | (k, _) :: r, j => bif Nat.beq k j then true else hasB r j

def keepL (st : St) (bs : List (Nat × Nat)) : List Nat → Bool
  | [] => true
  | k :: r => match st.tmps.getD k .unk with
    | .lp k' 0 => match Nat.beq k k', hasB bs k with
      | true, true => keepL st bs r
      | _, _ => false
    | _ => false

def toSt0 (n : Nat) (kp : Keep) (vs : List Value) : St :=
  ⟨slotsFrom n (vget vs) kp.slots 0, boxesFrom (vget vs) kp.boxes kp.slots.length⟩
def toSt (n : Nat) (kp : Keep) (vs : List Value) : St := setLps kp.lps (toSt0 n kp vs)

def keepS (st : St) : List Nat → Option (List Value)
  | [] => some []
  | s :: ss => match toV (st.tmps.getD s .unk), keepS st ss with
    | some v, some vs => some (v :: vs)
    | _, _ => none

def keepB (st : St) : List (Nat × Nat) → Option (List Value)
  | [] => some []
  | (k, m) :: r => match st.bx k, keepB st r with
    | some cs, some vs => match Nat.beq cs.length m with
      | true => some (cs ++ vs)
      | false => none
    | _, _ => none

def keepV (kp : Keep) (st : St) : Option (List Value) :=
  match keepL st kp.boxes kp.lps with
  | true => match keepS st kp.slots, keepB st kp.boxes with
    | some a, some b => some (a ++ b)
    | _, _ => none
  | false => none

def lpN (B : List Value → (AX → List Value → Vw → Prop) → Vw → Prop) (K : AX → List Value → Vw → Prop) : Nat → List Value → Vw → Prop
  | 0, _, _ => False
  | n + 1, vs, σ => B vs (fun e vs' σ' => match e with | .normal => lpN B K n vs' σ' | .exit i => K (.exit i) vs' σ' | .ret => K .ret vs' σ') σ

/-- A loop: in some number of rounds it is left. -/
def pLoop (B : List Value → (AX → List Value → Vw → Prop) → Vw → Prop) (vs : List Value) (σ : Vw) (K : AX → List Value → Vw → Prop) : Prop := ∃ n, lpN B K n vs σ

def firstReg : Code → Nat
  | .region id _ _ => id
  | .seq a _ => firstReg a
  | .cond _ a _ => firstReg a
  | .block _ a => firstReg a
  | .loop a => firstReg a
  | _ => 0

section
variable (P : Program) (w0 : World)

def den (kp : Nat → Keep) (esc : Nat → Bool) : Code → St → Vw → (AX → St → Vw → Prop) → Prop
  | .skip, st, σ, K => K .normal st σ
  | .ret, st, σ, K => K .ret st σ
  | .exit i, st, σ, K => K (.exit i) st σ
  | .region id ops d, st, σ, K => match d with
    | false => denOps P w0 (AC P w0) ops.toList esc ops.toList [] st σ fun st σ => K .normal st σ
    | true => match P.follows .mixedOrders with
      | true => denD P w0 (AC P w0) esc (kp id).ord (kp id).anc ops st σ fun st σ => K .normal st σ
      | false => False
  | .seq x y, st, σ, K => den kp esc x st σ fun e st σ => match e with
    | .normal => den kp esc y st σ K
    | .exit i => K (.exit i) st σ
    | .ret => K .ret st σ
  | .cond c x y, st, σ, K => match ev st c with
    | .lit true => den kp esc x st σ K
    | .lit false => den kp esc y st σ K
    | .val v => pIf v (den kp esc x st σ K) (den kp esc y st σ K)
    | _ => False
  | .block id c, st, σ, K => den kp esc c st σ fun e st σ => match e with
    | .normal => K .normal st σ
    | .exit i => match Nat.beq i id with
      | true => K .normal st σ
      | false => K (.exit i) st σ
    | .ret => K .ret st σ
  | .loop c, st, σ, K => match keepV (kp (firstReg c)) st with
    | some vs => pLoop (fun vs K σ => den kp esc c (toSt st.tmps.length (kp (firstReg c)) vs) σ fun e st σ => match keepV (kp (firstReg c)) st with
        | some vs => K e vs σ
        | none => False) vs σ fun e vs σ => K e (toSt st.tmps.length (kp (firstReg c)) vs) σ
    | none => False
  | _, _, _, _ => False
end

theorem least {p : Nat → Prop} (h : ∃ n, p n) : ∃ n, p n ∧ ∀ m, p m → n ≤ m := by
  obtain ⟨n, hn⟩ := h
  induction n using Nat.strongRecOn with
  | _ n ih =>
    by_cases hx : ∃ m, m < n ∧ p m
    · obtain ⟨m, h1, h2⟩ := hx
      exact ih m h1 h2
    · exact ⟨n, hn, fun m hm => Nat.le_of_not_lt fun hlt => hx ⟨m, hlt, hm⟩⟩

open Classical in
noncomputable def leastOf (p : Nat → Prop) : Nat := if h : ∃ n, p n then Classical.choose (least h) else 0
theorem leastOf_spec {p : Nat → Prop} (h : ∃ n, p n) : p (leastOf p) ∧ ∀ m, p m → leastOf p ≤ m := by
  unfold leastOf
  rw [dif_pos h]
  exact Classical.choose_spec (least h)

section
variable {P : Program} {w0 : World} {σe : Vw} {we : World} {fz : Nat}

/-- What is owed, in the model's words. -/
def QK (w0 : World) (σe : Vw) (we : World) (fz : Nat) (K : AX → St → Vw → Prop) : Exit → Act → World → Prop
  | .normal, a, w => ∃ β st σ, K .normal st σ ∧ Sim w0 σe we fz β st σ a w
  | .exit i, a, w => ∃ β st σ, K (.exit i) st σ ∧ Sim w0 σe we fz β st σ a w
  | .ret, a, w => ∃ β st σ, K .ret st σ ∧ Sim w0 σe we fz β st σ a w
  | _, _, _ => False

theorem slots_sound {β : Nat → Nat} {st : St} {σ : Vw} {a : Act} {w : World} (hs : Sim w0 σe we fz β st σ a w) (g : Nat → Value) : ∀ (ss : List Nat) (vs : List Value) (i : Nat), keepS st ss = some vs → (∀ j, j < vs.length → g (i + j) = vs.getD j undef) →
    vs.length = ss.length ∧ (slotsFrom st.tmps.length g ss i).length = st.tmps.length ∧ ∀ t bx, VX β bx ((slotsFrom st.tmps.length g ss i).getD t .unk) (a.tmps.getD t undef)
  | [], vs, i, h, hg => by
    cases h
    refine ⟨rfl, by simp [slotsFrom], fun t bx => ?_⟩
    have : (slotsFrom st.tmps.length g [] i).getD t .unk = .unk := by
      simp only [slotsFrom, List.getD_eq_getElem?_getD, List.getElem?_replicate]
      split <;> rfl
    rw [this]
    exact trivial
  | s :: ss, vs, i, h, hg => by
    simp only [keepS] at h
    split at h
    · rename_i v us hv hu
      cases h
      have ih := slots_sound hs g ss us (i + 1) hu (fun j hj => by
        have := hg (j + 1) (by simp; omega)
        rw [show i + (j + 1) = i + 1 + j by omega] at this
        simpa using this)
      have h0 : g i = v := by have := hg 0 (by simp); simpa using this
      refine ⟨by simp [ih.1], by simp [slotsFrom, ih.2.1], fun t bx => ?_⟩
      simp only [slotsFrom]
      by_cases e : s = t
      · subst e
        by_cases hd : s < (slotsFrom st.tmps.length g ss (i + 1)).length
        · rw [List.getD_eq_getElem?_getD, List.getElem?_set_self hd]
          show _ = g i
          rw [h0]
          exact hs.toV (x := .tmp s) hv
        · rw [List.set_eq_of_length_le (Nat.le_of_not_lt hd)]
          exact ih.2.2 s bx
      · rw [List.getD_eq_getElem?_getD, List.getElem?_set_ne e, ← List.getD_eq_getElem?_getD]
        exact ih.2.2 t bx
    · cases h

theorem boxes_sound {st : St} (g : Nat → Value) : ∀ (bs : List (Nat × Nat)) (vs : List Value) (i : Nat), keepB st bs = some vs → (∀ j, j < vs.length → g (i + j) = vs.getD j undef) → ∀ k cs, boxesFrom g bs i k = some cs → st.bx k = some cs
  | [], vs, i, h, hg => fun k cs hk => by cases hk
  | (k, m) :: r, vs, i, h, hg => fun k' cs hk => by
    simp only [keepB] at h
    split at h
    · rename_i c us hc hu
      cases hl : Nat.beq c.length m with
      | false => rw [hl] at h; cases h
      | true =>
        rw [hl] at h
        cases h
        have hm := Nat.eq_of_beq_eq_true hl
        subst hm
        simp only [boxesFrom] at hk
        cases hb : Nat.beq k k' with
        | true =>
          rw [hb] at hk
          obtain rfl := Nat.eq_of_beq_eq_true hb
          simp only [cond_true, Option.some.injEq] at hk
          rw [hc, ← hk]
          congr 1
          apply List.ext_getElem?
          intro j
          by_cases hj : j < c.length
          · rw [expl_get _ _ _ _ hj, hg j (by simp; omega), List.getElem?_eq_getElem hj, List.getD_eq_getElem?_getD, List.getElem?_append_left hj, List.getElem?_eq_getElem hj]
            rfl
          · rw [List.getElem?_eq_none (by omega), List.getElem?_eq_none (by rw [length_expl]; omega)]
        | false =>
          rw [hb] at hk
          exact boxes_sound g r us (i + c.length) hu (fun j hj => by
            have := hg (c.length + j) (by simp; omega)
            rw [← Nat.add_assoc] at this
            rw [this, List.getD_eq_getElem?_getD, List.getElem?_append_right (by omega), List.getD_eq_getElem?_getD]
            congr 2
            omega) k' cs hk
    · cases h

theorem hasB_some (g : Nat → Value) : ∀ (bs : List (Nat × Nat)) (i k : Nat), hasB bs k = true → boxesFrom g bs i k ≠ none
  | (k', m) :: r, i, k, h => by
    simp only [hasB] at h
    simp only [boxesFrom]
    cases hb : Nat.beq k' k with
    | true => simp
    | false => rw [hb] at h; exact hasB_some g r _ k h

theorem lps_sound {β : Nat → Nat} {st : St} {σ : Vw} {a : Act} {w : World} (hs : Sim w0 σe we fz β st σ a w) {bs : List (Nat × Nat)} : ∀ (ls : List Nat) (s : St), keepL st bs ls = true → (∀ k, hasB bs k = true → s.bx k ≠ none) → Sim w0 σe we fz β s σ a w →
    Sim w0 σe we fz β (setLps ls s) σ a w ∧ (setLps ls s).tmps.length = s.tmps.length
  | [], s, _, _, hs' => ⟨hs', rfl⟩
  | k :: r, s, h, hb, hs' => by
    simp only [keepL] at h
    split at h
    · rename_i k' hx
      split at h
      · rename_i h1 h2
        obtain rfl := Nat.eq_of_beq_eq_true h1
        have hv := hs.tm k
        rw [hx] at hv
        have := lps_sound hs r { s with tmps := s.tmps.set k (.lp k 0) } h hb (hs'.slot k (x := .lp k 0) ⟨hb k h2, hv.2⟩)
        exact ⟨this.1, by simpa [setLps] using this.2⟩
      · cases h
    · cases h

theorem keep_sound {β : Nat → Nat} {st : St} {σ : Vw} {a : Act} {w : World} (hs : Sim w0 σe we fz β st σ a w) {kp : Keep} {vs : List Value} (h : keepV kp st = some vs) : Sim w0 σe we fz β (toSt st.tmps.length kp vs) σ a w ∧ (toSt st.tmps.length kp vs).tmps.length = st.tmps.length := by
  unfold keepV at h
  split at h
  · rename_i hlps
    split at h
    · rename_i us bs hu hb
      cases h
      have h1 := slots_sound hs (vget (us ++ bs)) kp.slots us 0 hu (fun j hj => by
        rw [vget, Nat.zero_add, List.getD_eq_getElem?_getD, List.getElem?_append_left hj, List.getD_eq_getElem?_getD])
      have h2 := boxes_sound (vget (us ++ bs)) kp.boxes bs kp.slots.length hb (fun j hj => by
        rw [← h1.1]
        rw [vget, List.getD_eq_getElem?_getD, List.getElem?_append_right (by omega), List.getD_eq_getElem?_getD]
        congr 2
        omega)
      have hne : ∀ k, (toSt0 st.tmps.length kp (us ++ bs)).bx k ≠ none → st.bx k ≠ none := fun k hk => by
        cases hc : (toSt0 st.tmps.length kp (us ++ bs)).bx k with
        | none => exact absurd hc hk
        | some cs => rw [h2 k cs hc]; simp
      have h3 : Sim w0 σe we fz β (toSt0 st.tmps.length kp (us ++ bs)) σ a w := ⟨h1.2.1.trans hs.len, fun i => h1.2.2 i _, hs.dfs, hs.aft, fun k cs hk => hs.box k cs (h2 k cs hk), fun k k' hk hk' e => hs.inj k k' (hne k hk) (hne k' hk') e, hs.sz⟩
      have h4 := lps_sound hs kp.lps _ hlps (fun k hk => hasB_some _ kp.boxes kp.slots.length k hk) h3
      exact ⟨h4.1, h4.2.trans h1.2.1⟩
    · cases h
  · cases h

theorem putT_len (st : St) (d : Option Tmp) (x : TV) : (putT st d x).tmps.length = st.tmps.length := by
  cases d <;> simp [putT]

theorem den_sound (kp : Nat → Keep) (esc : Nat → Bool) : ∀ (c : Code) (β : Nat → Nat) (st : St) (σ : Vw) (a : Act) (w : World) (K : AX → St → Vw → Prop), den P w0 kp esc c st σ K → Sim w0 σe we fz β st σ a w → c.wp P (QK w0 σe we fz K) a w := by
  intro c
  induction c with
  | skip => intro β st σ a w K h hs; exact wp_skip ⟨β, st, σ, h, hs⟩
  | ret => intro β st σ a w K h hs; exact wp_ret ⟨β, st, σ, h, hs⟩
  | exit i => intro β st σ a w K h hs; exact wp_exit ⟨β, st, σ, h, hs⟩
  | region id ops d =>
    intro β st σ a w K h hs
    cases d with
    | true =>
      simp only [den] at h
      split at h
      · rename_i hm
        have hs' : Sim w0 σe we fz β st σ a { w with drawn := w.drawn + 1 } := hs.step (σ' := σ) ⟨⟨⟨hs.sat.bel.os, hs.sat.bel.tape, hs.sat.bel.output, hs.sat.bel.size, hs.sat.bel.block⟩, hs.sat.row⟩, Nat.le_refl _, fun b hb _ => rfl, fun b r hr => .inl (by rw [hr]; simp)⟩
        exact denD_sound (K := fun st' σ => K .normal st' σ) hm (fun β' st' σ' a' w' hK hs' => ⟨β', st', σ', hK, hs'⟩) hs' h
      · exact h.elim
    | false =>
      refine wp_region (denOps_sound (K := fun st' σ => K .normal st' σ) (List.range ops.size) ops.toList [] β st σ a w ?_ (fun t b h => by cases h) hs h (fun β' st' σ' a' w' hK hs' => ⟨β', st', σ', hK, hs'⟩))
      apply List.ext_getElem?
      intro i
      by_cases hi : i < ops.size
      · simp [hi]
      · simp [hi]
  | seq x y ihx ihy =>
    intro β st σ a w K h hs
    refine wp_seq (wp_mono (ihx β st σ a w _ h hs) ?_)
    rintro (_ | i | l | _ | ch | _) a' w' hq
    · obtain ⟨β', st', σ', hK, hs'⟩ := hq
      exact ihy β' st' σ' a' w' K hK hs'
    · exact hq
    · exact hq.elim
    · exact hq
    · exact hq.elim
    · exact hq.elim
  | cond c x y ihx ihy =>
    intro β st σ a w K h hs
    simp only [den] at h
    have hc := hs.ev c
    split at h
    · rename_i hev; rw [hev] at hc; exact wp_cond_true hc (ihx β st σ a w K h hs)
    · rename_i hev; rw [hev] at hc; exact wp_cond_false hc (ihy β st σ a w K h hs)
    · rename_i v hev
      rw [hev] at hc
      obtain ⟨b, rfl, h1, h2⟩ := h
      cases b with
      | true => exact wp_cond_true hc (ihx β st σ a w K (h1 rfl) hs)
      | false => exact wp_cond_false hc (ihy β st σ a w K (h2 rfl) hs)
    · exact h.elim
  | block id c ih =>
    intro β st σ a w K h hs
    refine wp_block (wp_mono (ih β st σ a w _ h hs) ?_)
    rintro (_ | i | l | _ | ch | _) a' w' hq
    · exact hq
    · obtain ⟨β', st', σ', hK, hs'⟩ := hq
      simp only [Exit.inBlock]
      simp only at hK
      cases hb : Nat.beq i id with
      | true =>
        obtain rfl := Nat.eq_of_beq_eq_true hb
        rw [hb] at hK
        simp only [if_true]
        exact ⟨β', st', σ', hK, hs'⟩
      | false =>
        have hne : i ≠ id := fun e => by subst e; rw [Nat.beq_refl] at hb; cases hb
        rw [hb] at hK
        simp only [if_neg hne]
        exact ⟨β', st', σ', hK, hs'⟩
    · exact hq.elim
    · exact hq
    · exact hq.elim
    · exact hq.elim
  | loop c ih =>
    intro β st σ a w K h hs
    simp only [den] at h
    split at h
    · rename_i vs hvs
      generalize kp (firstReg c) = kk at h hvs
      have hlen : st.tmps.length = fz := hs.len.trans hs.sz
      rw [hlen] at h
      -- what holds at a round's head
      let I : Nat → Act → World → Prop := fun n a w => ∃ β vs σ, lpN (fun vs K σ => den P w0 kp esc c (toSt fz kk vs) σ fun e st σ => match keepV kk st with
        | some vs => K e vs σ
        | none => False) (fun e vs σ => K e (toSt fz kk vs) σ) n vs σ ∧ Sim w0 σe we fz β (toSt fz kk vs) σ a w
      obtain ⟨n, hn⟩ := h
      have hk := keep_sound hs hvs
      rw [hlen] at hk
      have h0 : ∃ n, I n a w := ⟨n, β, vs, σ, hn, hk.1⟩
      refine wp_loop (fun a w => ∃ n, I n a w) (fun a w => leastOf fun n => I n a w) h0 ?_
      intro a1 w1 h1
      obtain ⟨β1, vs1, σ1, hl1, hs1⟩ := (leastOf_spec h1).1
      generalize hm : leastOf (fun n => I n a1 w1) = N at hl1
      cases N with
      | zero => exact hl1.elim
      | succ m =>
        simp only [lpN] at hl1
        refine wp_mono (ih β1 _ σ1 a1 w1 _ hl1 hs1) ?_
        rintro (_ | i | l | _ | ch | _) a' w' hq
        · obtain ⟨β', st', σ', hK, hs'⟩ := hq
          split at hK
          · rename_i vs' hvs'
            have hk' := keep_sound hs' hvs'
            rw [hs'.len.trans hs'.sz] at hk'
            have hI : I m a' w' := ⟨β', vs', σ', hK, hk'.1⟩
            have hex : ∃ n, I n a' w' := ⟨m, hI⟩
            exact ⟨hex, Nat.lt_succ_of_le ((leastOf_spec hex).2 m hI)⟩
          · exact hK.elim
        · obtain ⟨β', st', σ', hK, hs'⟩ := hq
          split at hK
          · rename_i vs' hvs'
            have hk' := keep_sound hs' hvs'
            rw [hs'.len.trans hs'.sz] at hk'
            exact ⟨β', _, σ', hK, hk'.1⟩
          · exact hK.elim
        · exact hq.elim
        · obtain ⟨β', st', σ', hK, hs'⟩ := hq
          split at hK
          · rename_i vs' hvs'
            have hk' := keep_sound hs' hvs'
            rw [hs'.len.trans hs'.sz] at hk'
            exact ⟨β', _, σ', hK, hk'.1⟩
          · exact hK.elim
        · exact hq.elim
        · exact hq.elim
    · exact h.elim
  | rangeFunc f ps x y _ _ => intro β st σ a w K h hs; exact h.elim
  | scope c _ => intro β st σ a w K h hs; exact h.elim
  | label l => intro β st σ a w K h hs; exact h.elim
  | goto l => intro β st σ a w K h hs; exact h.elim
  | refuse y => intro β st σ a w K h hs; exact h.elim
end
end Go.Av
