/- The abstract layer, draws, part 2: a free operation has one result; it stays so while the rows grow. -/
import Derived.Test.YtkndffhcncmbjaaAD1
set_option linter.unusedVariables false
set_option linter.unusedSimpArgs false
namespace Go.Av
open Go Go.RowKit

/-- The box that an address, or a slice, leads into. -/
def bxOf : TV → Option Nat
  | .lp k _ => some k
  | .ls k _ => some k
  | _ => none
def LpOk (st : St) : Prop := ∀ y k, bxOf (ev st y) = some k → st.bx k ≠ none

section
variable {P : Program} {w0 : World} {st st' : St} {σ σ' : Vw} {esc : Nat → Bool} {dst : Option Tmp} {K : TV → Eff → Vw → Prop} {call : FuncId → List Value → Vw → (Value → Vw → Prop) → Prop} {gk : List (Nat × Bool)}

theorem denOp_gk {op : Op} (hg : GkOk gk st) (h : denOp P w0 call esc gk dst op st σ K) : denOp P w0 call esc [] dst op st σ K := by
  cases op with
  | pick c x y =>
    have key := fun b => known_val (c := c) (b := b) hg
    simp only [denOp] at *
    have hnil : ∀ b, knownB [] st c = some b → ev st c = .lit b := by
      intro b hb
      unfold knownB at hb
      split at hb
      · rename_i b' he; cases hb; exact he
      · split at hb <;> cases hb
      · cases hb
    cases h0 : knownB [] st c with
    | some b =>
      have h1 := hnil b h0
      have h2 : knownB gk st c = some b := by unfold knownB; rw [h1]
      rw [h2] at h
      exact h
    | none =>
      cases h1 : knownB gk st c with
      | none => rw [h1] at h; exact h
      | some b =>
        rw [h1] at h
        have h2 := key b h1
        cases hev : ev st c with
        | lit b' =>
          have : knownB [] st c = some b' := by unfold knownB; rw [hev]
          rw [h0] at this; cases this
        | val v =>
          rw [hev] at h2
          cases h2
          refine ⟨b, rfl, fun hb => ?_, fun hb => ?_⟩
          · subst hb; exact h
          · subst hb; exact h
        | lp k j => rw [hev] at h2; cases h2
        | ls k j => rw [hev] at h2; cases h2
        | unk => rw [hev] at h2; cases h2
        | und => rw [hev] at h2; cases h2
  | slice T x lo hi mx => cases mx <;> exact h
  | makeFunc fn a b => cases fn <;> exact h
  | _ => exact h

/-- One result. -/
def One (st : St) (σ : Vw) (dst : Option Tmp) (xs : List Operand) (D : (TV → Eff → Vw → Prop) → Prop) (K : TV → Eff → Vw → Prop) : Prop :=
  ∃ x e, K x e σ ∧ (∀ K' : TV → Eff → Vw → Prop, K' x e σ → D K') ∧ (∀ k cs, e = some (k, cs) → dst = some k ∧ st.bx k = none) ∧ ∀ k, bxOf x = some k → (∃ cs, e = some (k, cs)) ∨ ∃ y, y ∈ xs ∧ bxOf (ev st y) = some k

theorem fill_one {place : Nat → Option (Nat × (Bool × Nat))} {A : List Value → Prop} : ∀ {ps : List (Nat × Operand)} {cs : List Value}, fillParts st place ps cs A → ∃ c, A c ∧ ∀ A' : List Value → Prop, A' c → fillParts st place ps cs A'
  | [], cs, h => ⟨cs, h, fun _ h => h⟩
  | (i, x) :: r, cs, h => by
    simp only [fillParts] at h
    split at h
    · rename_i off g n v hp hv
      split at h
      · rename_i hb
        obtain ⟨hv1, h⟩ := h
        obtain ⟨c, hc, hA⟩ := fill_one h
        refine ⟨c, hc, fun A' hA' => ?_⟩
        simp only [fillParts, hp, hv, hb]
        exact ⟨hv1, hA A' hA'⟩
      · exact h.elim
    · exact h.elim

theorem mk_one {k : Nat} {ety : Nat} {cs : List Value} {loc : Nat → TV} {far : Nat → Value} (hd : dst = some k) (he : esc k = false) (hl : bxOf (loc k) = some k) {xs : List Operand} (h : mkBox w0 esc dst ety st cs σ loc far K) : One st σ dst xs (mkBox w0 esc dst ety st cs σ loc far) K := by
  subst hd
  simp only [mkBox, he] at h
  split at h
  · rename_i hk
    refine ⟨loc k, some (k, cs), h, fun K' hK' => ?_, fun k' cs' e => ?_, ?_⟩
    · simp only [mkBox, he, hk]; exact hK'
    · cases e; exact ⟨by trivial, hk⟩
    · intro k' hk'
      rw [hl] at hk'
      cases hk'
      exact .inl ⟨cs, rfl⟩
  · exact h.elim

theorem local_of {esc : Nat → Bool} {dst : Option Tmp} (h : isLoc esc dst = true) : ∃ k, dst = some k ∧ esc k = false := by
  cases dst with
  | none => cases h
  | some k => exact ⟨k, rfl, by simpa [isLoc] using h⟩

theorem free_one {op : Op} (hf : isFree P esc dst op = true) (h : denOp P w0 call esc [] dst op st σ K) : One st σ dst op.operands.toList (denOp P w0 call esc [] dst op st σ) K := by
  have nn : ∀ k cs, (none : Eff) = some (k, cs) → dst = some k ∧ st.bx k = none := fun _ _ h => nomatch h
  cases op with
  | move x => exact ⟨_, _, h, fun _ h => h, nn, fun k hk => .inr ⟨x, by simp [Op.operands], hk⟩⟩
  | assign x => exact ⟨_, _, h, fun _ h => h, nn, fun k hk => .inr ⟨x, by simp [Op.operands], hk⟩⟩
  | pick c x y =>
    unfold One
    simp only [denOp] at h ⊢
    split at h
    · exact ⟨_, _, h, fun _ h => h, nn, fun k hk => .inr ⟨x, by simp [Op.operands], hk⟩⟩
    · exact ⟨_, _, h, fun _ h => h, nn, fun k hk => .inr ⟨y, by simp [Op.operands], hk⟩⟩
    · split at h
      · rename_i v hv
        obtain ⟨b, rfl, h1, h2⟩ := h
        cases b with
        | true => exact ⟨_, _, h1 rfl, fun _ h => ⟨true, rfl, fun _ => h, nofun⟩, nn, fun k hk => .inr ⟨x, by simp [Op.operands], hk⟩⟩
        | false => exact ⟨_, _, h2 rfl, fun _ h => ⟨false, rfl, nofun, fun _ => h⟩, nn, fun k hk => .inr ⟨y, by simp [Op.operands], hk⟩⟩
      · exact h.elim
  | alloc T =>
    obtain ⟨k, hd, he⟩ := local_of hf
    unfold One
    simp only [denOp] at h ⊢
    split at h
    · obtain ⟨x, e, h1, h2, h3, h4⟩ := mk_one hd he rfl h
      exact ⟨x, e, h1, h2, h3, h4⟩
    · exact h.elim
  | box T x =>
    obtain ⟨k, hd, he⟩ := local_of hf
    unfold One
    simp only [denOp] at h ⊢
    split at h
    · obtain ⟨x, e, h1, h2, h3, h4⟩ := mk_one hd he rfl h.2
      exact ⟨x, e, h1, fun K' hK' => ⟨h.1, h2 K' hK'⟩, h3, h4⟩
    · exact h.elim
  | build T ps =>
    unfold One
    simp only [denOp] at h ⊢
    split at h
    · split at h
      · obtain ⟨c, hc, hA⟩ := fill_one h
        exact ⟨_, _, hc, fun K' hK' => hA _ hK', nn, fun k hk => nomatch hk⟩
      · exact h.elim
    · split at h
      · obtain ⟨c, hc, hA⟩ := fill_one h
        exact ⟨_, _, hc, fun K' hK' => hA _ hK', nn, fun k hk => nomatch hk⟩
      · exact h.elim
    · exact h.elim
  | buildSlice T n ps =>
    obtain ⟨k, hd, he⟩ := local_of hf
    unfold One
    simp only [denOp] at h ⊢
    split at h
    · split at h
      · split at h
        · obtain ⟨c, hc, hA⟩ := fill_one h
          obtain ⟨x, e, h1, h2, h3, h4⟩ := mk_one hd he rfl hc
          exact ⟨x, e, h1, fun K' hK' => hA _ (h2 K' hK'), h3, h4⟩
        · exact h.elim
      · exact h.elim
    · exact h.elim
  | load T x =>
    unfold One
    simp only [denOp] at h ⊢
    split at h
    · split at h
      · split at h
        · split at h
          · exact ⟨_, _, h, fun _ h => h, nn, fun k hk => nomatch hk⟩
          · exact h.elim
        · exact h.elim
      · obtain ⟨a, g, h1, h2, h3⟩ := h
        exact ⟨_, _, h3, fun _ h => ⟨a, g, h1, h2, h⟩, nn, fun k hk => nomatch hk⟩
      · exact h.elim
    · exact h.elim
  | nilCheck x =>
    unfold One
    simp only [denOp] at h ⊢
    split at h
    · rename_i k j hev
      exact ⟨_, _, h, fun _ h => h, nn, fun k' hk => .inr ⟨x, by simp [Op.operands], by rw [hev]; exact hk⟩⟩
    · obtain ⟨ad, h1, h2⟩ := h
      exact ⟨_, _, h2, fun _ h => ⟨ad, h1, h⟩, nn, fun k hk => nomatch hk⟩
    · exact h.elim
  | binOp op T x y yT =>
    unfold One
    simp only [denOp] at h ⊢
    split at h
    · obtain ⟨r, h1, h2⟩ := h
      exact ⟨_, _, h2, fun _ h => ⟨r, h1, h⟩, nn, fun k hk => nomatch hk⟩
    · exact h.elim
  | unOp op T x =>
    unfold One
    simp only [denOp] at h ⊢
    split at h
    · obtain ⟨r, h1, h2⟩ := h
      exact ⟨_, _, h2, fun _ h => ⟨r, h1, h⟩, nn, fun k hk => nomatch hk⟩
    · exact h.elim
  | convert s d x =>
    unfold One
    simp only [isFree] at hf
    simp only [denOp] at h ⊢
    split at h
    · obtain ⟨k', n, h1, h2⟩ := h
      exact ⟨_, _, h2, fun _ h => ⟨k', n, h1, h⟩, nn, fun k hk => nomatch hk⟩
    · split at h
      · rcases h with ⟨n, c, h1, h2⟩ | ⟨b, off, n, c, xs, h1, h2, h3, h4⟩
        · exact ⟨_, _, h2, fun _ h => .inl ⟨n, c, h1, h⟩, nn, fun k hk => nomatch hk⟩
        · exact ⟨_, _, h4, fun _ h => .inr ⟨b, off, n, c, xs, h1, h2, h3, h⟩, nn, fun k hk => nomatch hk⟩
      · exact h.elim
    · rename_i hu hd hv
      rw [hd] at hf
      cases hf
    · exact h.elim
  | slice T x lo hi mx =>
    cases mx with
    | some m =>
      unfold One
      simp only [denOp] at h ⊢
      split at h
      · split at h
        · obtain ⟨A, len, cap, l, hh, m, h1, h2, h3, h4, h5, h6, h7, h8, h9, h10, h11⟩ := h
          exact ⟨_, _, h11, fun _ h => ⟨A, len, cap, l, hh, m, h1, h2, h3, h4, h5, h6, h7, h8, h9, h10, h⟩, nn, fun k hk => nomatch hk⟩
        · exact h.elim
      · exact h.elim
    | none =>
      unfold One
      simp only [denOp] at h ⊢
      split at h
      · obtain ⟨s, l, hh, h1, h2, h3, h4, h5, h6, h7⟩ := h
        exact ⟨_, _, h7, fun _ h => ⟨s, l, hh, h1, h2, h3, h4, h5, h6, h⟩, nn, fun k hk => nomatch hk⟩
      · split at h
        · obtain ⟨A, len, cap, l, hh, h1, h2, h3, h4, h5, h6, h7⟩ := h
          exact ⟨_, _, h7, fun _ h => ⟨A, len, cap, l, hh, h1, h2, h3, h4, h5, h6, h⟩, nn, fun k hk => nomatch hk⟩
        · exact h.elim
      · exact h.elim
  | fieldAddr T x f =>
    unfold One
    simp only [denOp] at h ⊢
    split at h
    · rename_i oo k j ho hev
      exact ⟨_, _, h, fun _ h => h, nn, fun k' hk => .inr ⟨x, by simp [Op.operands], by rw [hev]; exact hk⟩⟩
    · obtain ⟨ad, h1, h2⟩ := h
      exact ⟨_, _, h2, fun _ h => ⟨ad, h1, h⟩, nn, fun k hk => nomatch hk⟩
    · exact h.elim
  | indexAddr T x i =>
    unfold One
    simp only [denOp] at h ⊢
    split at h
    · split at h
      · obtain ⟨a, len, cap, k, n, h1, h2, h3, h4, h5⟩ := h
        exact ⟨_, _, h5, fun _ h => ⟨a, len, cap, k, n, h1, h2, h3, h4, h⟩, nn, fun k hk => nomatch hk⟩
      · exact h.elim
    · split at h
      · obtain ⟨a, k, n, h1, h2, h3, h4, h5⟩ := h
        exact ⟨_, _, h5, fun _ h => ⟨a, k, n, h1, h2, h3, h4, h⟩, nn, fun k hk => nomatch hk⟩
      · exact h.elim
    · exact h.elim
  | index T x i =>
    unfold One
    simp only [denOp] at h ⊢
    split at h
    · obtain ⟨s, k, n, h1, h2, h3, h4, h5⟩ := h
      exact ⟨_, _, h5, fun _ h => ⟨s, k, n, h1, h2, h3, h4, h⟩, nn, fun k hk => nomatch hk⟩
    · exact h.elim
  | extract x i =>
    unfold One
    simp only [denOp] at h ⊢
    split at h
    · obtain ⟨vs, h1, h2, h3⟩ := h
      exact ⟨_, _, h3, fun _ h => ⟨vs, h1, h2, h⟩, nn, fun k hk => nomatch hk⟩
    · exact h.elim
  | field T x f =>
    unfold One
    simp only [denOp] at h ⊢
    split at h
    · split at h
      · split at h
        · split at h
          · exact ⟨_, _, h.2, fun _ h' => ⟨h.1, h'⟩, nn, fun k hk => nomatch hk⟩
          · exact h.elim
        · exact h.elim
      · exact h.elim
    · exact h.elim
  | makeFunc fn first captured =>
    cases fn with
    | func f =>
      unfold One
      simp only [denOp] at h ⊢
      split at h
      · exact ⟨_, _, h, fun _ h => h, nn, fun k hk => nomatch hk⟩
      · exact h.elim
    | _ => exact h.elim
  | call c =>
    obtain ⟨cal, as, ats⟩ := c
    cases cal with
    | value x => cases hf
    | invoke r m => cases hf
    | builtin b =>
      unfold One
      simp only [denOp] at h ⊢
      unfold denB at *
      split at h
      · split at h
        · obtain ⟨s, h1, h2⟩ := h
          exact ⟨_, _, h2, fun _ h => ⟨s, h1, h⟩, nn, fun k hk => nomatch hk⟩
        · obtain ⟨A, n, c, h1, h2⟩ := h
          exact ⟨_, _, h2, fun _ h => ⟨A, n, c, h1, h⟩, nn, fun k hk => nomatch hk⟩
        · exact ⟨_, _, h, fun _ h => h, nn, fun k hk => nomatch hk⟩
        · exact h.elim
      · cases hf
      · split at h
        · obtain ⟨k, a, b, h1, h2, h3⟩ := h
          exact ⟨_, _, h3, fun _ h => ⟨k, a, b, h1, h2, h⟩, nn, fun k hk => nomatch hk⟩
        · exact h.elim
      · split at h
        · obtain ⟨k, a, b, h1, h2, h3⟩ := h
          exact ⟨_, _, h3, fun _ h => ⟨k, a, b, h1, h2, h⟩, nn, fun k hk => nomatch hk⟩
        · exact h.elim
      · cases hf
      · exact h.elim
  | store T x y => cases hf
  | makeSlice T l c => cases hf
  | _ => exact h.elim

theorem free_ext {op : Op} (hf : isFree P esc dst op = true) (hx : Ext σ σ') (h : denOp P w0 call esc [] dst op st σ fun x e _ => K x e σ') : denOp P w0 call esc [] dst op st σ' K := by
  cases op with
  | alloc T =>
    obtain ⟨k, hd, he⟩ := local_of hf
    subst hd
    simp only [denOp, mkBox, he] at h ⊢
    exact h
  | box T x =>
    obtain ⟨k, hd, he⟩ := local_of hf
    subst hd
    simp only [denOp, mkBox, he] at h ⊢
    exact h
  | buildSlice T n ps =>
    obtain ⟨k, hd, he⟩ := local_of hf
    subst hd
    simp only [denOp, mkBox, he] at h ⊢
    exact h
  | load T x =>
    simp only [denOp] at h ⊢
    split at h
    · split at h
      · exact h
      · obtain ⟨a, g, h1, h2, h3⟩ := h
        exact ⟨a, g, h1, fun j hj => get_ext hx (h2 j hj), h3⟩
      · exact h.elim
    · exact h.elim
  | convert s d x =>
    simp only [isFree] at hf
    simp only [denOp] at h ⊢
    split at h
    · exact h
    · split at h
      · rcases h with ⟨n, c, h1, h2⟩ | ⟨b, off, n, c, xs, h1, h2, h3, h4⟩
        · exact .inl ⟨n, c, h1, h2⟩
        · exact .inr ⟨b, off, n, c, xs, h1, h2, fun j hj => get_ext hx (h3 j hj), h4⟩
      · exact h.elim
    · rename_i hu hd hv
      rw [hd] at hf
      cases hf
    · exact h.elim
  | slice T x lo hi mx =>
    cases mx with
    | some m => exact h
    | none => exact h
  | makeFunc fn a b => cases fn <;> exact h
  | call c =>
    obtain ⟨cal, as, ats⟩ := c
    cases cal with
    | value x => cases hf
    | invoke r m => cases hf
    | builtin b =>
      cases b with
      | len =>
        simp only [denOp, denB] at h ⊢
        split at h
        · exact h
        · rename_i heq _ _; cases heq
        · rename_i heq _; cases heq
        · rename_i heq _; cases heq
        · rename_i heq _ _; cases heq
        · exact h.elim
      | min =>
        simp only [denOp, denB] at h ⊢
        split at h
        · rename_i heq _ _; cases heq
        · rename_i heq _ _; cases heq
        · exact h
        · rename_i heq _; cases heq
        · rename_i heq _ _; cases heq
        · exact h.elim
      | max =>
        simp only [denOp, denB] at h ⊢
        split at h
        · rename_i heq _ _; cases heq
        · rename_i heq _ _; cases heq
        · rename_i heq _; cases heq
        · exact h
        · rename_i heq _ _; cases heq
        · exact h.elim
      | _ => cases hf
  | store T x y => cases hf
  | makeSlice T l c => cases hf
  | _ => exact h

/-- Neither free nor a store: no box is written. -/
theorem hard_none {op : Op} (hf : isFree P esc dst op = false) (hh : isHard op = false) (h : denOp P w0 (AC P w0) esc [] dst op st σ K) :
    denOp P w0 (AC P w0) esc [] dst op st σ fun x e σ' => e = none ∧ K x e σ' := by
  have mkn : ∀ {ety : Nat} {cs : List Value} {loc : Nat → TV} {far : Nat → Value}, isLoc esc dst = false → mkBox w0 esc dst ety st cs σ loc far K → mkBox w0 esc dst ety st cs σ loc far fun x e σ' => e = none ∧ K x e σ' := by
    intro ety cs loc far hd h
    cases dst with
    | none => exact h
    | some k =>
      have hd' : esc k = true := by simpa [isLoc] using hd
      simp only [mkBox, hd'] at h ⊢
      exact fun b h1 h2 => ⟨True.intro, h b h1 h2⟩
  cases op with
  | alloc T =>
    simp only [denOp] at h ⊢
    split at h
    · exact mkn hf h
    · exact h.elim
  | box T x =>
    simp only [denOp] at h ⊢
    split at h
    · exact ⟨h.1, mkn hf h.2⟩
    · exact h.elim
  | buildSlice T n ps =>
    simp only [denOp] at h ⊢
    split at h
    · split at h
      · split at h
        · obtain ⟨c, hc, hA⟩ := fill_one h
          exact hA _ (mkn hf hc)
        · exact h.elim
      · exact h.elim
    · exact h.elim
  | store T x y => cases hh
  | makeSlice T l c =>
    simp only [denOp] at h ⊢
    split at h
    · split at h
      · obtain ⟨k, n, h1, h2, h3, h4, h5, h6⟩ := h
        exact ⟨k, n, h1, h2, h3, h4, h5, fun b g1 g2 => ⟨by trivial, h6 b g1 g2⟩⟩
      · exact h.elim
    · exact h.elim
  | convert s d x =>
    simp only [isFree] at hf
    simp only [denOp] at h ⊢
    split at h
    · rename_i hd _
      rw [hd] at hf
      cases hf
    · rename_i hd _
      rw [hd] at hf
      cases hf
    · split at h
      · obtain ⟨s, h1, h2⟩ := h
        exact ⟨s, h1, fun b c g1 g2 g3 => ⟨by trivial, h2 b c g1 g2 g3⟩⟩
      · exact h.elim
    · exact h.elim
  | call c =>
    obtain ⟨cal, as, ats⟩ := c
    cases cal with
    | value x =>
      cases x with
      | func f =>
        simp only [denOp] at h ⊢
        split at h
        · exact AC.mono h fun _ _ h => ⟨by trivial, h⟩
        · exact h.elim
      | tmp t =>
        simp only [denOp] at h ⊢
        split at h
        · obtain ⟨f, fs, cs, h1, h2⟩ := h
          exact ⟨f, fs, cs, h1, AC.mono h2 fun _ _ h => ⟨by trivial, h⟩⟩
        · exact h.elim
      | _ => exact h.elim
    | invoke r m => exact h.elim
    | builtin b =>
      cases b with
      | append =>
        simp only [denOp, denB] at h ⊢
        split at h
        · rename_i heq _ _
          cases heq
        · split at h
          · split at h
            · split at h
              · split at h
                · split at h
                  · refine ⟨h.1, ?_⟩
                    rcases h.2 with ⟨b, off, n, c, r, h1, h2, h3, h4, h5, h6, h7⟩ | ⟨n, cells, h1, h2, h3, h4, h5⟩
                    · exact .inl ⟨b, off, n, c, r, h1, h2, h3, h4, h5, h6, by trivial, h7⟩
                    · exact .inr ⟨n, cells, h1, h2, h3, h4, fun v' σ' g => ⟨by trivial, h5 v' σ' g⟩⟩
                  · exact h.elim
                · exact h.elim
              · obtain ⟨A, m, c, new, h1, h2, h3, h4, g⟩ := h
                rcases g with ⟨b, off, n, c', r, g1, g2, g3, g4, g5, g6, g7⟩ | ⟨n, cells, g1, g2, g3, g4, g5⟩
                · exact ⟨A, m, c, new, h1, h2, h3, h4, .inl ⟨b, off, n, c', r, g1, g2, g3, g4, g5, g6, by trivial, g7⟩⟩
                · exact ⟨A, m, c, new, h1, h2, h3, h4, .inr ⟨n, cells, g1, g2, g3, g4, fun v' σ' g => ⟨by trivial, g5 v' σ' g⟩⟩⟩
              · exact h.elim
            · exact h.elim
          · exact h.elim
        · rename_i heq _; cases heq
        · rename_i heq _; cases heq
        · rename_i heq _ _; cases heq
        · exact h.elim
      | clear =>
        simp only [denOp, denB] at h ⊢
        split at h
        · rename_i heq _ _; cases heq
        · rename_i heq _ _; cases heq
        · rename_i heq _; cases heq
        · rename_i heq _; cases heq
        · split at h
          · split at h
            · obtain ⟨h1, h2, A, len, cap, h3, h4⟩ := h
              rcases h4 with ⟨h5, h6⟩ | ⟨b, off, r, h5, h6, h7, h8, h9⟩
              · exact ⟨h1, h2, A, len, cap, h3, .inl ⟨h5, by trivial, h6⟩⟩
              · exact ⟨h1, h2, A, len, cap, h3, .inr ⟨b, off, r, h5, h6, h7, h8, by trivial, h9⟩⟩
            · exact h.elim
          · exact h.elim
        · exact h.elim
      | len => cases hf
      | min => cases hf
      | max => cases hf
      | _ => exact h.elim
  | _ => first | exact h.elim | cases hf
end
end Go.Av
