/- The abstract layer, draws, part 1: what an operation hangs on. -/
import Derived.Test.YtkndffhcncmbjaaA12
set_option linter.unusedVariables false
set_option linter.unusedSimpArgs false
namespace Go.Av
open Go Go.RowKit

/-- The view has grown: rows have new cells behind the old ones. -/
def Ext (σ σ' : Vw) : Prop := ∀ b r, σ b = some r → ∃ r', σ' b = some r' ∧ r.cells <+: r'.cells

theorem Ext.refl (σ : Vw) : Ext σ σ := fun b r h => ⟨r, h, List.prefix_refl _⟩

theorem get_ext {w0 : World} {σ σ' : Vw} (h : Ext σ σ') {a : Addr} {v : Value} (hg : get w0 σ a = some v) : get w0 σ' a = some v := by
  unfold Av.get at *
  split
  · rename_i hl; rw [if_pos hl] at hg; exact hg
  · rename_i hl
    rw [if_neg hl] at hg
    split
    · rename_i hs
      rw [if_pos hs] at hg
      cases hr : σ a.block with
      | none => rw [hr] at hg; cases hg
      | some r =>
        obtain ⟨r', hr', hp⟩ := h _ _ hr
        rw [hr] at hg
        rw [hr']
        simp only [Option.bind_some] at *
        obtain ⟨t, ht⟩ := hp
        have hlt := (List.getElem?_eq_some_iff.1 hg).1
        rw [← ht, List.getElem?_append_left hlt]
        exact hg
    · rename_i hs; rw [if_neg hs] at hg; cases hg

section
variable (P : Program)
def isLoc (esc : Nat → Bool) (dst : Option Tmp) : Bool := match dst with | some k => !esc k | none => false
def isFree (esc : Nat → Bool) (dst : Option Tmp) (op : Op) : Bool :=
  match op with
  | .move _ => true
  | .assign _ => true
  | .pick _ _ _ => true
  | .build _ _ => true
  | .load _ _ => true
  | .nilCheck _ => true
  | .binOp _ _ _ _ _ => true
  | .unOp _ _ _ => true
  | .slice _ _ _ _ _ => true
  | .fieldAddr _ _ _ => true
  | .indexAddr _ _ _ => true
  | .index _ _ _ => true
  | .extract _ _ => true
  | .field _ _ _ => true
  | .makeFunc _ _ _ => true
  | .alloc _ => isLoc esc dst
  | .box _ _ => isLoc esc dst
  | .buildSlice _ _ _ => isLoc esc dst
  | .convert _ d _ => match P.underlying d with | some (.slice _) => false | _ => true
  | .call c => match c.callee with
    | .builtin .len => true
    | .builtin .min => true
    | .builtin .max => true
    | _ => false
  | _ => false

def isHard (op : Op) : Bool := match op with | .store _ _ _ => true | _ => false
end

/-- Two frames that an operation can't tell apart. -/
structure Agree (st st' : St) (dst : Option Tmp) (xs : List Operand) : Prop where
  ev : ∀ y, y ∈ xs → Av.ev st y = Av.ev st' y
  lp : ∀ y, y ∈ xs → ∀ k j, Av.ev st y = .lp k j → st.bx k = st'.bx k
  ls : ∀ y, y ∈ xs → ∀ k j, Av.ev st y = .ls k j → st.bx k = st'.bx k
  dst : ∀ k, dst = some k → st.bx k = none → st'.bx k = none

section
variable {P : Program} {w0 : World} {st st' : St} {σ : Vw} {esc : Nat → Bool} {dst : Option Tmp} {K : TV → Eff → Vw → Prop} {call : FuncId → List Value → Vw → (Value → Vw → Prop) → Prop}

theorem toVs_congr : ∀ {xs : List Operand}, (∀ y, y ∈ xs → ev st y = ev st' y) → toVs st xs = toVs st' xs
  | [], _ => rfl
  | x :: r, h => by
    simp only [toVs]
    rw [← h x List.mem_cons_self, toVs_congr (fun y hy => h y (List.mem_cons_of_mem _ hy))]

theorem fill_congr {place : Nat → Option (Nat × (Bool × Nat))} : ∀ {ps : List (Nat × Operand)} {cs : List Value} {A : List Value → Prop}, (∀ y, y ∈ ps.map (·.2) → ev st y = ev st' y) → fillParts st place ps cs A → fillParts st' place ps cs A
  | [], _, _, _, h => h
  | (i, x) :: r, cs, A, he, h => by
    simp only [fillParts] at *
    rw [← he x (by simp)]
    split at h
    · rename_i hp hv
      split at h
      · exact ⟨h.1, fill_congr (fun y hy => he y (by simp at hy ⊢; exact .inr hy)) h.2⟩
      · exact h.elim
    · exact h.elim

theorem oV_congr {x : Option Operand} (h : ∀ y, x = some y → ev st y = ev st' y) : oV st x = oV st' x := by
  cases x with
  | none => rfl
  | some x => simp only [oV]; rw [← h x rfl]

theorem mk_congr {ety : Nat} {cs : List Value} {loc : Nat → TV} {far : Nat → Value} (hd : ∀ k, dst = some k → st.bx k = none → st'.bx k = none) (h : mkBox w0 esc dst ety st cs σ loc far K) : mkBox w0 esc dst ety st' cs σ loc far K := by
  unfold mkBox at *
  split at h
  · rename_i k
    split at h
    · exact h
    · split at h
      · rename_i hk
        rw [hd k rfl hk]
        exact h
      · exact h.elim
  · exact h.elim

theorem denOp_congr {op : Op} (h : Agree st st' dst op.operands.toList) (hd : denOp P w0 call esc [] dst op st σ K) : denOp P w0 call esc [] dst op st' σ K := by
  cases op with
  | move x => simp only [denOp] at *; rw [← h.ev x (by simp [Op.operands])]; exact hd
  | assign x => simp only [denOp] at *; rw [← h.ev x (by simp [Op.operands])]; exact hd
  | pick c x y =>
    simp only [denOp, knownB] at *
    rw [← h.ev c (by simp [Op.operands]), ← h.ev x (by simp [Op.operands]), ← h.ev y (by simp [Op.operands])]
    exact hd
  | alloc T =>
    simp only [denOp] at *
    split at hd
    · exact mk_congr h.dst hd
    · exact hd.elim
  | box T x =>
    simp only [denOp] at *
    rw [← h.ev x (by simp [Op.operands])]
    split at hd
    · exact ⟨hd.1, mk_congr h.dst hd.2⟩
    · exact hd.elim
  | build T ps =>
    simp only [denOp] at *
    split at hd
    · split at hd
      · exact fill_congr (fun y hy => h.ev y (by simpa [Op.operands] using hy)) hd
      · exact hd.elim
    · split at hd
      · exact fill_congr (fun y hy => h.ev y (by simpa [Op.operands] using hy)) hd
      · exact hd.elim
    · exact hd.elim
  | buildSlice T n ps =>
    simp only [denOp] at *
    split at hd
    · split at hd
      · split at hd
        · have := fill_congr (st' := st') (fun y hy => h.ev y (by simpa [Op.operands] using hy)) hd
          have mono : ∀ (ps : List (Nat × Operand)) (place : Nat → Option (Nat × (Bool × Nat))) (cs : List Value) (A B : List Value → Prop), (∀ c, A c → B c) → fillParts st' place ps cs A → fillParts st' place ps cs B := by
            intro ps
            induction ps with
            | nil => intro place cs A B hab h; exact hab _ h
            | cons p r ih =>
              intro place cs A B hab h
              obtain ⟨i, x⟩ := p
              simp only [fillParts] at *
              split at h
              · split at h
                · exact ⟨h.1, ih _ _ _ _ hab h.2⟩
                · exact h.elim
              · exact h.elim
          exact mono _ _ _ _ _ (fun c hc => mk_congr h.dst hc) this
        · exact hd.elim
      · exact hd.elim
    · exact hd.elim
  | load T x =>
    have hx := h.ev x (by simp [Op.operands])
    simp only [denOp] at *
    rw [← hx]
    split at hd
    · split at hd
      · rename_i k j hk
        rw [← h.lp x (by simp [Op.operands]) k j hk]
        exact hd
      · exact hd
      · exact hd.elim
    · exact hd.elim
  | store T x y =>
    have hx := h.ev x (by simp [Op.operands])
    simp only [denOp] at *
    rw [← hx, ← h.ev y (by simp [Op.operands])]
    split at hd
    · refine ⟨hd.1, ?_⟩
      have hd := hd.2
      split at hd
      · rename_i k j hk
        rw [← h.lp x (by simp [Op.operands]) k j hk]
        exact hd
      · exact hd
      · exact hd.elim
    · exact hd.elim
  | nilCheck x => simp only [denOp] at *; rw [← h.ev x (by simp [Op.operands])]; exact hd
  | binOp op T x y yT => simp only [denOp] at *; rw [← h.ev x (by simp [Op.operands]), ← h.ev y (by simp [Op.operands])]; exact hd
  | unOp op T x => simp only [denOp] at *; rw [← h.ev x (by simp [Op.operands])]; exact hd
  | convert s d x => simp only [denOp] at *; rw [← h.ev x (by simp [Op.operands])]; exact hd
  | makeSlice T l c => simp only [denOp] at *; rw [← h.ev l (by simp [Op.operands]), ← h.ev c (by simp [Op.operands])]; exact hd
  | slice T x lo hi mx =>
    cases mx with
    | some m =>
      simp only [denOp] at *
      rw [← h.ev x (by simp [Op.operands]), ← oV_congr (x := lo) (st := st) (fun y hy => h.ev y (by simp [Op.operands, hy])), ← oV_congr (x := hi) (st := st) (fun y hy => h.ev y (by simp [Op.operands, hy])), ← oV_congr (x := some m) (st := st) (fun y hy => h.ev y (by cases hy; simp [Op.operands]))]
      exact hd
    | none =>
      simp only [denOp] at *
      rw [← h.ev x (by simp [Op.operands]), ← oV_congr (x := lo) (st := st) (fun y hy => h.ev y (by simp [Op.operands, hy])), ← oV_congr (x := hi) (st := st) (fun y hy => h.ev y (by simp [Op.operands, hy]))]
      exact hd
  | fieldAddr T x f => simp only [denOp] at *; rw [← h.ev x (by simp [Op.operands])]; exact hd
  | indexAddr T x i => simp only [denOp] at *; rw [← h.ev x (by simp [Op.operands]), ← h.ev i (by simp [Op.operands])]; exact hd
  | index T x i => simp only [denOp] at *; rw [← h.ev x (by simp [Op.operands]), ← h.ev i (by simp [Op.operands])]; exact hd
  | extract x i => simp only [denOp] at *; rw [← h.ev x (by simp [Op.operands])]; exact hd
  | field T x f => simp only [denOp] at *; rw [← h.ev x (by simp [Op.operands])]; exact hd
  | makeFunc fn first captured =>
    cases fn with
    | func f =>
      simp only [denOp] at *
      rw [← toVs_congr (xs := first.toList) (st := st) (fun y hy => h.ev y (by simp only [Op.operands, Array.toList_append]; exact List.mem_append_left _ hy)), ← toVs_congr (xs := captured.toList) (st := st) (fun y hy => h.ev y (by simp only [Op.operands, Array.toList_append]; exact List.mem_append_right _ hy))]
      exact hd
    | _ => exact hd.elim
  | call c =>
    obtain ⟨cal, as, ats⟩ := c
    have hin : ∀ y, y ∈ as.toList → y ∈ (Op.call ⟨cal, as, ats⟩).operands.toList := fun y hy => by
      simp only [Op.operands, Call.operands]
      cases cal <;> simp [Array.mem_def, hy]
    cases cal with
    | value x =>
      cases x with
      | func f =>
        simp only [denOp] at *
        rw [← toVs_congr (st := st) (fun y hy => h.ev y (hin y hy))]
        exact hd
      | tmp t =>
        simp only [denOp] at *
        rw [← toVs_congr (st := st) (fun y hy => h.ev y (hin y hy)), ← h.ev (.tmp t) (by simp [Op.operands, Call.operands])]
        exact hd
      | const v => exact hd.elim
      | global g => exact hd.elim
    | invoke r m => exact hd.elim
    | builtin b =>
      simp only [denOp] at *
      unfold denB at *
      split at hd
      · rename_i x T ts hax hat
        have hm := hin x (by rw [hax]; simp)
        rw [← h.ev x hm]
        exact hd
      · rename_i x y T T2 ts hax hat
        have hmx := hin x (by rw [hax]; simp)
        have hmy := hin y (by rw [hax]; simp)
        have key := h.ls y hmy
        rw [← h.ev x hmx, ← h.ev y hmy]
        revert hd
        generalize ev st y = Y at key
        generalize toV (ev st x) = X
        generalize elemOf P T = E1
        generalize elemOf P T2 = E2
        rcases E1 with _ | e1
        · exact id
        rcases E2 with _ | e2
        · exact id
        rcases X with _ | v
        · exact id
        dsimp only
        generalize tyOf P e1 = A
        generalize zeroOf P e1 = B
        generalize Nat.beq T T2 = C
        rcases A with _ | ⟨g, _ | n⟩
        · exact id
        · exact id
        rcases B with _ | z
        · exact id
        cases C with
        | false => exact id
        | true =>
          dsimp only
          cases Y with
          | ls k m => dsimp only; rw [key k m rfl]; exact id
          | _ => exact id
      · rename_i _ x y hax
        rw [← h.ev x (hin x (by rw [hax]; simp)), ← h.ev y (hin y (by rw [hax]; simp))]
        exact hd
      · rename_i _ x y hax
        rw [← h.ev x (hin x (by rw [hax]; simp)), ← h.ev y (hin y (by rw [hax]; simp))]
        exact hd
      · rename_i x T ts hax hat
        rw [← h.ev x (hin x (by rw [hax]; simp))]
        exact hd
      · exact hd.elim
  | _ => exact hd.elim
end
end Go.Av
