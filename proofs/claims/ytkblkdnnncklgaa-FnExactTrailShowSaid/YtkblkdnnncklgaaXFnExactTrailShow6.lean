/- The law FnExactTrailShow holds: it returns true, and the input reads as it did. No condition. This is part 6 of 6 of its proof. -/
import Derived.Test.YtkblkdnnncklgaaXFnExactTrailShow5
import Derived.Shelf.Strings.Builder1
import Derived.Shelf.Strings.Builder2
import Derived.Shelf.Strings.OnBuilder
import Derived.Shelf.Small.Bits
import Derived.Shelf.Strconv.Itoa0
import Derived.Shelf.Slices.CompactS
import Derived.Shelf.Slices.Cells
import Derived.Test.YtkblkdnnncklgaaProg
import Derived.Test.YtkblkdnnncklgaaRows
import Derived.WalkKit
import Derived.ProofKit
import Derived.OpenShut
import Derived.ShutString
import Derived.ChangeOld
import Derived.Below
import Derived.Carry
import Derived.SizedLaws

/- Lists in rows of our own, written element by element: the focus on one element, and the loops that mark and that look at marks. -/
set_option linter.unusedVariables false
set_option linter.unusedSimpArgs false
namespace Go.Av
open Go Go.RowKit

/-- Every row but those of F stays as it is. -/
def KeepsBut (F : List Nat) (σ σ' : Vw) : Prop := ∀ b r, σ b = some r → b ∉ F → σ' b = some r
theorem KeepsBut.refl (F : List Nat) (σ : Vw) : KeepsBut F σ σ := fun _ _ h _ => h
theorem Keeps.but {F : List Nat} {σ σ' : Vw} (h : Keeps σ σ') : KeepsBut F σ σ' := fun b r hb _ => h b r hb
theorem KeepsBut.trans {F : List Nat} {σ σ' σ'' : Vw} (h : KeepsBut F σ σ') (h' : KeepsBut F σ' σ'') : KeepsBut F σ σ'' := fun b r hb hF => h' b r (h b r hb hF) hF
theorem KeepsBut.mono {F F' : List Nat} {σ σ' : Vw} (h : KeepsBut F σ σ') (hF : ∀ b, b ∈ F → b ∈ F') : KeepsBut F' σ σ' := fun b r hb h' => h b r hb fun hb' => h' (hF b hb')
/-- What is older than F stays. -/
theorem KeepsBut.old {F : List Nat} {σ0 σ σ' : Vw} (h : KeepsBut F σ σ') (h0 : Keeps σ0 σ) (hF : ∀ b, b ∈ F → σ0 b = none) : Keeps σ0 σ' := fun b r hb => h b r (h0 b r hb) fun hb' => by rw [hF b hb'] at hb; cases hb
theorem KeepsBut.at {F G : List Nat} {σ σ' : Vw} (h : KeepsBut F σ σ') (hG : ∀ b, b ∈ G → σ b ≠ none) (hd : ∀ b, b ∈ G → b ∉ F) : ∀ b, b ∈ G → σ' b = σ b := fun b hb => by
  cases hs : σ b with
  | none => exact absurd hs (hG b hb)
  | some r => exact h b r hs (hd b hb)
theorem KeepsBut.put {F : List Nat} {σ : Vw} {b : Nat} {r : Row} (hb : b ∈ F) : KeepsBut F σ (σ.put b r) := fun i x hi hF => by
  have : i ≠ b := fun e => hF (e ▸ hb)
  simp [Vw.put, this, hi]

section
variable {P : Program} {w0 : World} {σ σ' : Vw} {α : Type}

theorem nodup_at {l : List (List Nat)} {i j : Nat} {f g : List Nat} (h : l.flatten.Nodup) (hi : l[i]? = some f) (hj : l[j]? = some g) (hij : i ≠ j) : ∀ b, b ∈ f → b ∉ g := by
  induction l generalizing i j with
  | nil => simp at hi
  | cons a r ih =>
    rw [List.flatten_cons, List.nodup_append] at h
    intro b hb hb'
    cases i with
    | zero =>
      cases j with
      | zero => exact hij rfl
      | succ j =>
        simp at hi hj
        subst hi
        exact h.2.2 b hb b (List.mem_flatten.2 ⟨g, List.mem_of_getElem? hj, hb'⟩) rfl
    | succ i =>
      cases j with
      | zero =>
        simp at hi hj
        subst hj
        exact h.2.2 b hb' b (List.mem_flatten.2 ⟨f, List.mem_of_getElem? hi, hb⟩) rfl
      | succ j =>
        simp at hi hj
        exact ih h.2.1 hi hj (fun e => hij (by rw [e])) b hb hb'

theorem split_at {l : List (List Value)} {j : Nat} {c : List Value} (hj : l[j]? = some c) : l.flatten = (l.take j).flatten ++ (c ++ (l.drop (j + 1)).flatten) := by
  have hlt := (List.getElem?_eq_some_iff.1 hj).1
  have e : l = l.take j ++ (c :: l.drop (j + 1)) := by
    have := List.take_append_drop j l
    rw [List.drop_eq_getElem_cons hlt] at this
    have hc : l[j] = c := (List.getElem?_eq_some_iff.1 hj).2
    rw [hc] at this
    exact this.symm
  calc l.flatten = (l.take j ++ (c :: l.drop (j + 1))).flatten := by rw [← e]
    _ = _ := by rw [List.flatten_append, List.flatten_cons]

/-- One element of a list of our own, and how the list is put together again behind a change of it. -/
theorem OSl.focus {n : Nat} {Rel : (Addr → Option Value) → List Value → α → Prop} {O : Vw → List Nat → List Value → α → Prop} (ok : OOk w0 n Rel O) {F : List Nat} {v : Value} {xs : List α} (h : OSl w0 n O σ F v xs) {j : Nat} {x : α} (hj : xs[j]? = some x) :
    ∃ (b o : Nat) (f : List Nat) (c A C : List Value) (r : Row), (∀ K : Value → Prop, K (.pointer (some ⟨b, o, none⟩)) → pIndexAddr n v (.int .i64 j) K) ∧ w0.heap.size ≤ b ∧ σ b = some r ∧ r.cells = A ++ (c ++ C) ∧ A.length = o ∧ O σ f c x ∧ b ∈ F ∧ (∀ i, i ∈ f → i ∈ F ∧ i ≠ b) ∧
      ∀ (σ' : Vw) (c' : List Value) (x' : α) (r' : Row), σ' b = some r' → r'.cells = A ++ (c' ++ C) → O σ' f c' x' → (∀ i, i ∈ F → i ≠ b → i ∉ f → σ' i = σ i) → OSl w0 n O σ' F v (xs.set j x') := by
  obtain ⟨h1, h2, ⟨rfl, rfl, _⟩ | ⟨b, off, cap, r, pre, post, css, Fs, rfl, gc, g2, g3, g4, g5, g6, g7, g8, g9⟩⟩ := h
  · simp at hj
  have hlt : j < xs.length := (List.getElem?_eq_some_iff.1 hj).1
  have hcj := List.getElem?_eq_getElem (show j < css.length by omega)
  have hfj := List.getElem?_eq_getElem (show j < Fs.length by omega)
  generalize hce : css[j]'(by omega) = c at hcj
  generalize hfe : Fs[j]'(by omega) = f at hfj
  have hO := g9 j c x f hcj hj hfj
  have hn : ∀ c, c ∈ css → c.length = n := fun c hc => by
    obtain ⟨i, hi⟩ := List.getElem?_of_mem hc
    have hil : i < css.length := (List.getElem?_eq_some_iff.1 hi).1
    exact ok.len _ _ _ _ (g9 i c _ _ hi (List.getElem?_eq_getElem (by omega)) (List.getElem?_eq_getElem (by omega)))
  have hA : (pre ++ (css.take j).flatten).length = off + j * n := by
    rw [List.length_append, g5, flat_len _ fun c hc => hn c (List.mem_of_mem_take hc), List.length_take]
    congr 2; omega
  rw [g8] at h2
  have hbf : b ∉ f := fun hb => (List.nodup_cons.1 h2).1 (List.mem_flatten.2 ⟨f, List.mem_of_getElem? hfj, hb⟩)
  refine ⟨b, off + j * n, f, c, pre ++ (css.take j).flatten, (css.drop (j + 1)).flatten ++ post, r, fun K hK => ?_, g2, g3, ?_, hA, hO, by rw [g8]; exact List.mem_cons_self, fun i hi => ⟨?_, fun e => hbf (e ▸ hi)⟩, ?_⟩
  · refine ⟨⟨b, off, none⟩, xs.length, cap, .i64, j, rfl, rfl, by omega, by omega, ?_⟩
    rw [addr_add]; exact hK
  · rw [g4, split_at hcj]; simp only [List.append_assoc]
  · rw [g8]; exact List.mem_cons_of_mem _ (List.mem_flatten.2 ⟨f, List.mem_of_getElem? hfj, hi⟩)
  · intro σ' c' x' r' hr' hcells hO' hrest
    have hlen' := ok.len _ _ _ _ hO'
    refine ⟨by rw [List.length_set]; exact h1, by rw [g8]; exact h2, .inr ⟨b, off, cap, r', pre, post, css.set j c', Fs, by rw [List.length_set], by rw [List.length_set]; exact gc, g2, hr', ?_, g5, by rw [List.length_set, List.length_set]; exact g6, by rw [List.length_set]; exact g7, g8, ?_⟩⟩
    · have hcj' : (css.set j c')[j]? = some c' := List.getElem?_set_self (by omega)
      rw [hcells, split_at hcj', List.take_set_of_le (Nat.le_refl j), List.drop_set_of_lt (by omega)]
      simp only [List.append_assoc]
    · intro i ci y fi e1 e2 e3
      by_cases hij : j = i
      · subst hij
        rw [List.getElem?_set_self (by omega)] at e1 e2
        cases e1; cases e2
        rw [hfj] at e3; cases e3
        exact hO'
      · rw [List.getElem?_set_ne hij] at e1 e2
        refine ok.frame _ _ _ _ _ (g9 i ci y fi e1 e2 e3) fun k hk => ?_
        have hkF : k ∈ Fs.flatten := List.mem_flatten.2 ⟨fi, List.mem_of_getElem? e3, hk⟩
        exact hrest k (by rw [g8]; exact List.mem_cons_of_mem _ hkF) (fun e => (List.nodup_cons.1 h2).1 (e ▸ hkF)) (nodup_at (List.nodup_cons.1 h2).2 e3 hfj (fun e => hij e.symm) k hk)

/-- A field of an element is written. -/
theorem field_store {b o off : Nat} {r : Row} {A c C : List Value} {y : Value} {K : Vw → Prop} (hr : σ b = some r) (hc : r.cells = A ++ (c ++ C)) (hA : A.length = o) (hoff : off < c.length) (hy : y.oneCell' = true)
    (hK : K (σ.put b { r with cells := A ++ (c.set off y ++ C) })) : pField off (.pointer (some ⟨b, o, none⟩)) fun q => pVal false 1 y (pStore q [y] σ K) := by
  rw [pField_s, pVal1 hy, addr_add]
  refine ⟨b, o + off, r, rfl, hr, ?_, ?_⟩
  · rw [hc]; simp only [List.length_append, List.length_singleton]; omega
  · have e : setAt r.cells (o + off) [y] = A ++ (c.set off y ++ C) := by
      simp only [setAt]
      rw [hc, List.set_append_right _ _ (by omega), List.set_append_left _ _ (by omega), hA]
      congr 3; omega
    rw [e]; exact hK
theorem elem_store {b o : Nat} {r : Row} {A C : List Value} {x y : Value} {K : Vw → Prop} (hr : σ b = some r) (hc : r.cells = A ++ ([x] ++ C)) (hA : A.length = o) (hy : y.oneCell' = true)
    (hK : K (σ.put b { r with cells := A ++ ([y] ++ C) })) : pVal false 1 y (pStore (.pointer (some ⟨b, o, none⟩)) [y] σ K) := by
  rw [pVal1 hy]
  refine ⟨b, o, r, rfl, hr, ?_, ?_⟩
  · rw [hc]; simp only [List.length_append, List.length_singleton]; omega
  · have e : setAt r.cells o [y] = A ++ ([y] ++ C) := by
      simp only [setAt]
      rw [hc, List.set_append_right _ _ (by omega), hA, Nat.sub_self]; rfl
    rw [e]; exact hK
/-- A field of an element is read. -/
theorem field_load {b o off : Nat} {r : Row} {A c C : List Value} {y : Value} {K : (Nat → Value) → Prop} (hb : w0.heap.size ≤ b) (hr : σ b = some r) (hc : r.cells = A ++ (c ++ C)) (hA : A.length = o) (hoff : c[off]? = some y)
    (hK : ∀ g : Nat → Value, g 0 = y → K g) : pField off (.pointer (some ⟨b, o, none⟩)) fun q => pLoad w0 1 q σ K := by
  rw [pField_s, addr_add]
  refine ⟨_, fun _ => y, rfl, fun j hj => ?_, hK _ rfl⟩
  have : j = 0 := by omega
  subst this
  have hlt : off < c.length := (List.getElem?_eq_some_iff.1 hoff).1
  rw [addr_add, get_row hb hr, hc, List.getElem?_append_right (by omega), List.getElem?_append_left (by omega)]
  rw [show o + off + 0 - A.length = off by omega]; exact hoff

/-! ### Marks -/
def mkS (mk : Nat → α → α) (cnt : α → Nat) : Nat → List α → List α
  | _, [] => []
  | k, x :: r => mk k x :: mkS mk cnt (k + cnt x) r
theorem mkS_len {mk : Nat → α → α} {cnt : α → Nat} : ∀ {xs : List α} {k : Nat}, (mkS mk cnt k xs).length = xs.length
  | [], _ => rfl
  | x :: r, k => by simp [mkS, mkS_len (xs := r)]
theorem mkS_snoc {mk : Nat → α → α} {cnt : α → Nat} {x : α} : ∀ {xs : List α} {k : Nat}, mkS mk cnt k (xs ++ [x]) = mkS mk cnt k xs ++ [mk (k + sumBy cnt xs) x]
  | [], k => by simp [mkS, sumBy]
  | y :: r, k => by simp [mkS, sumBy, mkS_snoc (xs := r), Nat.add_assoc]
theorem mkS_get {mk : Nat → α → α} {cnt : α → Nat} : ∀ {xs : List α} {k j : Nat} {x : α}, xs[j]? = some x → (mkS mk cnt k xs)[j]? = some (mk (k + sumBy cnt (xs.take j)) x)
  | [], k, j, x, h => by simp at h
  | y :: r, k, 0, x, h => by simp at h; subst h; simp [mkS, sumBy]
  | y :: r, k, j + 1, x, h => by
    have := mkS_get (mk := mk) (cnt := cnt) (k := k + cnt y) (xs := r) (j := j) (by simpa using h)
    simp only [mkS, List.getElem?_cons_succ, this, List.take_succ_cons, sumBy, Nat.add_assoc]

/-- A loop that marks. -/
theorem mark_loop {T n : Nat} {Rel : (Addr → Option Value) → List Value → α → Prop} {O : Vw → List Nat → List Value → α → Prop} (ok : OOk w0 n Rel O) {mk : Nat → α → α} {cnt : α → Nat} {F : List Nat} {v : Value} {xs : List α} {k : Nat} {R : Value → Vw → Prop}
    {BODY : List Value → (AX → List Value → Vw → Prop) → Vw → Prop}
    (h : OSl w0 n O σ F v xs) (hk : k + sumBy cnt xs ≤ 1000000000000)
    (hB : ∀ (j : Nat) (x : α) (k' : Nat) (s : Vw) (ys : List α) (K : AX → List Value → Vw → Prop), j < ys.length → ys.length = xs.length → KeepsBut F σ s → x ∈ xs → k' + cnt x ≤ 1000000000000 → OSl w0 n O s F v ys → ys[j]? = some x →
      (∀ s', KeepsBut F s s' → OSl w0 n O s' F v (ys.set j (mk k' x)) → K .normal [v, .int .i64 ((k' + cnt x : Nat) : Int), .int .i64 ((j : Int) + 1)] s') → BODY [v, .int .i64 (k' : Nat), .int .i64 (j : Nat)] K s)
    (hR : ∀ s', KeepsBut F σ s' → OSl w0 n O s' F v (mkS mk cnt k xs) → R (.int .i64 ((k + sumBy cnt xs : Nat) : Int)) s') :
    pLoop (fun l K s => pLen (vget l 0) (fun v3 => pBin P T .lss (vget l 2) v3 (fun v4 => pIf v4 (BODY l K s) (K (.exit 0) [vget l 0, vget l 1, vget l 2] s)))) [v, .int .i64 (k : Nat), .int .i64 0] σ
      (fun x l s => match x with | .normal => R (vget l 1) s | .ret => False | .exit i => (match Nat.beq i 0 with | true => R (vget l 1) s | false => False)) := by
  have hl : xs.length ≤ 9223372036854775807 := h.1
  refine loop_rule (m := xs.length) (fun c l s => ∃ j, c + j = xs.length ∧ KeepsBut F σ s ∧ OSl w0 n O s F v (mkS mk cnt k (xs.take j) ++ xs.drop j) ∧ l = [v, .int .i64 ((k + sumBy cnt (xs.take j) : Nat) : Int), .int .i64 (j : Nat)]) ?_ ⟨0, by omega, KeepsBut.refl _ _, by simpa [mkS] using h, by simp [sumBy]⟩
  rintro c l s L ⟨j, hc, hkb, hO, rfl⟩ hL
  simp only [vget, List.getD_cons_zero, List.getD_cons_succ]
  have hlen : (mkS mk cnt k (xs.take j) ++ xs.drop j).length = xs.length := by simp [mkS_len]; omega
  have hrel := hO.rel ok
  rw [hrel.len, hlen, pBin_lt, pIf_d]
  refine ⟨fun hj => ?_, fun hj => ?_⟩
  · have hj' : j < xs.length := by omega
    have hx := List.getElem?_eq_getElem hj'
    have ht := sumBy_take (f := cnt) hx
    have hle := sumBy_le (f := cnt) (xs := xs) (j + 1)
    have htl : (mkS mk cnt k (xs.take j)).length = j := by rw [mkS_len, List.length_take]; omega
    refine hB j xs[j] (k + sumBy cnt (xs.take j)) s _ _ (by rw [hlen]; exact hj') hlen hkb (List.getElem_mem hj') (by omega) hO ?_ fun s' hk' hO' => ?_
    · rw [List.getElem?_append_right (by omega), htl, Nat.sub_self, List.getElem?_drop, Nat.add_zero, hx]
    · refine hL _ _ (c - 1) (by omega) ⟨j + 1, by omega, hkb.trans hk', ?_, ?_⟩
      · have e : (mkS mk cnt k (xs.take j) ++ xs.drop j).set j (mk (k + sumBy cnt (xs.take j)) xs[j]) = mkS mk cnt k (xs.take (j + 1)) ++ xs.drop (j + 1) := by
          rw [List.set_append_right _ _ (by omega), htl, Nat.sub_self, List.drop_eq_getElem_cons hj', List.set_cons_zero, List.take_add_one, hx, Option.toList_some, mkS_snoc]
          simp
        rw [e] at hO'; exact hO'
      · rw [ht]
        congr 2
        · congr 1; omega
  · have hj' : j = xs.length := by omega
    subst hj'
    rw [List.take_length] at hO ⊢
    rw [List.drop_length, List.append_nil] at hO
    exact hR s hkb hO

/-- A loop that looks at marks. -/
theorem held_loop {T n : Nat} {Rel : (Addr → Option Value) → List Value → α → Prop} (hmono : ∀ rd rd' es x, Le rd rd' → Rel rd es x → Rel rd' es x) {mk : Nat → α → α} {cnt : α → Nat} {v : Value} {xs : List α} {k : Nat} {R : Value → Vw → Prop}
    {BODY : List Value → (AX → List Value → Vw → Prop) → Vw → Prop}
    (h : RSl n Rel (Av.get w0 σ) v (mkS mk cnt k xs)) (hk : k + sumBy cnt xs ≤ 1000000000000)
    (hB : ∀ (j : Nat) (x : α) (k' : Nat) (s : Vw) (K : AX → List Value → Vw → Prop), j < xs.length → Keeps σ s → x ∈ xs → k' + cnt x ≤ 1000000000000 → RSl n Rel (Av.get w0 s) v (mkS mk cnt k xs) → (mkS mk cnt k xs)[j]? = some (mk k' x) →
      (∀ s', Keeps s s' → K .normal [v, .int .i64 ((k' + cnt x : Nat) : Int), .int .i64 0, .int .i64 ((j : Int) + 1)] s') → BODY [v, .int .i64 (k' : Nat), .int .i64 0, .int .i64 (j : Nat)] K s)
    (hR : ∀ s', Keeps σ s' → R (.int .i64 ((k + sumBy cnt xs : Nat) : Int)) s') :
    pLoop (fun l K s => pLen (vget l 0) (fun v3 => pBin P T .lss (vget l 3) v3 (fun v4 => pIf v4 (BODY l K s) (K (.exit 0) [vget l 0, vget l 1, vget l 2, vget l 3] s)))) [v, .int .i64 (k : Nat), .int .i64 0, .int .i64 0] σ
      (fun x l s => match x with | .normal => R (vget l 1) s | .ret => R (vget l 2) s | .exit i => (match Nat.beq i 0 with | true => R (vget l 1) s | false => False)) := by
  have hl : xs.length ≤ 9223372036854775807 := by have := h.le; rwa [mkS_len] at this
  refine loop_rule (m := xs.length) (fun c l s => ∃ j, c + j = xs.length ∧ Keeps σ s ∧ l = [v, .int .i64 ((k + sumBy cnt (xs.take j) : Nat) : Int), .int .i64 0, .int .i64 (j : Nat)]) ?_ ⟨0, by omega, Keeps.refl _, by simp [sumBy]⟩
  rintro c l s L ⟨j, hc, hkb, rfl⟩ hL
  simp only [vget, List.getD_cons_zero, List.getD_cons_succ]
  have h' := h.mono hkb.le fun es x => hmono _ _ es x hkb.le
  rw [h'.len, mkS_len, pBin_lt, pIf_d]
  refine ⟨fun hj => ?_, fun hj => ?_⟩
  · have hj' : j < xs.length := by omega
    have hx := List.getElem?_eq_getElem hj'
    have ht := sumBy_take (f := cnt) hx
    have hle := sumBy_le (f := cnt) (xs := xs) (j + 1)
    refine hB j xs[j] (k + sumBy cnt (xs.take j)) s _ hj' hkb (List.getElem_mem hj') (by omega) h' (mkS_get hx) fun s' hk' => ?_
    refine hL _ _ (c - 1) (by omega) ⟨j + 1, by omega, hkb.trans hk', ?_⟩
    rw [ht]
    congr 2
    · congr 1; omega
  · have hj' : j = xs.length := by omega
    subst hj'
    rw [List.take_length]
    exact hR s hkb
end
end Go.Av

/- Lists that grow by append, in a row of our own; elements that need no row; elements that are read in what is older. -/
set_option linter.unusedVariables false
set_option linter.unusedSimpArgs false
namespace Go.Av
open Go Go.RowKit

section
variable {P : Program} {w0 : World} {σ σ' : Vw} {α : Type}

/-! ### Elements that are read by a reader that is fixed -/
def RB (Rel : (Addr → Option Value) → List Value → α → Prop) (rd0 : Addr → Option Value) (rd : Addr → Option Value) (es : List Value) (x : α) : Prop := Rel rd0 es x
def OB (Rel : (Addr → Option Value) → List Value → α → Prop) (rd0 : Addr → Option Value) (σ : Vw) (F : List Nat) (es : List Value) (x : α) : Prop := F = [] ∧ Rel rd0 es x
/-- What a rule of reading must keep. -/
structure ROk (n : Nat) (Rel : (Addr → Option Value) → List Value → α → Prop) : Prop where
  mono : ∀ rd rd' es x, Le rd rd' → Rel rd es x → Rel rd' es x
  len : ∀ rd es x, Rel rd es x → es.length = n
  one : ∀ rd es x, Rel rd es x → ∀ c, c ∈ es → c.oneCell' = true
theorem ok_base {n : Nat} {Rel : (Addr → Option Value) → List Value → α → Prop} (ok : ROk n Rel) (w0 : World) (rd0 : Addr → Option Value) : OOk w0 n (RB Rel rd0) (OB Rel rd0) := by
  refine ⟨?_, ?_, ?_, ?_, ?_, ?_⟩
  · rintro σ F es x ⟨_, h⟩; exact h
  · rintro σ σ' F es x h _; exact h
  · rintro σ F es x ⟨rfl, _⟩ b hb; cases hb
  · rintro σ F es x ⟨rfl, _⟩; exact List.nodup_nil
  · rintro σ F es x ⟨_, h⟩; exact ok.len _ _ _ h
  · rintro σ F es x ⟨_, h⟩; exact ok.one _ _ _ h
theorem RSl.unbase {n : Nat} {Rel : (Addr → Option Value) → List Value → α → Prop} (ok : ROk n Rel) {rd0 rd : Addr → Option Value} {v : Value} {xs : List α} (h : RSl n (RB Rel rd0) rd v xs) (hle : Le rd0 rd) : RSl n Rel rd v xs :=
  h.imp fun es x hx => ok.mono _ _ _ _ hle hx

/-! ### Elements that need no row -/
def RFl (enc : α → List Value) (good : α → Prop) (rd : Addr → Option Value) (es : List Value) (x : α) : Prop := es = enc x ∧ good x
def OFl (enc : α → List Value) (good : α → Prop) (σ : Vw) (F : List Nat) (es : List Value) (x : α) : Prop := F = [] ∧ es = enc x ∧ good x
theorem rok_fl {n : Nat} {enc : α → List Value} {good : α → Prop} (hl : ∀ x, (enc x).length = n) (ho : ∀ x c, c ∈ enc x → c.oneCell' = true) : ROk n (RFl enc good) :=
  ⟨fun _ _ _ _ _ h => h, fun _ _ x h => by rw [h.1]; exact hl x, fun _ _ x h => by rw [h.1]; exact ho x⟩
theorem ok_fl {n : Nat} {enc : α → List Value} {good : α → Prop} (hl : ∀ x, (enc x).length = n) (ho : ∀ x c, c ∈ enc x → c.oneCell' = true) (w0 : World) : OOk w0 n (RFl enc good) (OFl enc good) := by
  refine ⟨?_, ?_, ?_, ?_, ?_, ?_⟩
  · rintro σ F es x ⟨_, h⟩; exact h
  · rintro σ σ' F es x h _; exact h
  · rintro σ F es x ⟨rfl, _⟩ b hb; cases hb
  · rintro σ F es x ⟨rfl, _⟩; exact List.nodup_nil
  · rintro σ F es x ⟨_, h, _⟩; rw [h]; exact hl x
  · rintro σ F es x ⟨_, h, _⟩; rw [h]; exact ho x

/-! ### Growing lists -/
def OAcc (w0 : World) (ety n : Nat) (O : Vw → List Nat → List Value → α → Prop) (σ : Vw) (F : List Nat) (v : Value) (xs : List α) : Prop :=
  xs.length ≤ 9223372036854775807 ∧ F.Nodup ∧ ((v = .slice none 0 0 ∧ xs = [] ∧ F = []) ∨
  ∃ (b cap : Nat) (css : List (List Value)) (Fs : List (List Nat)), v = .slice (some ⟨b, 0, none⟩) xs.length cap ∧ (xs.length ≤ cap ∧ cap ≤ 9223372036854775807) ∧ w0.heap.size ≤ b ∧ σ b = some ⟨ety, css.flatten, cap * n, (0, 0)⟩ ∧
    css.length = xs.length ∧ Fs.length = xs.length ∧ F = b :: Fs.flatten ∧ ∀ (j : Nat) (c : List Value) (x : α) (f : List Nat), css[j]? = some c → xs[j]? = some x → Fs[j]? = some f → O σ f c x)

theorem OAcc.osl {ety n : Nat} {O : Vw → List Nat → List Value → α → Prop} {F : List Nat} {v : Value} {xs : List α} (h : OAcc w0 ety n O σ F v xs) : OSl w0 n O σ F v xs := by
  obtain ⟨h1, h2, h3 | ⟨b, cap, css, Fs, g1, g2, g3, g4, g5, g6, g7, g8⟩⟩ := h
  · exact ⟨h1, h2, .inl h3⟩
  · exact ⟨h1, h2, .inr ⟨b, 0, cap, _, [], [], css, Fs, g1, g2, g3, g4, by simp, rfl, g5, g6, g7, g8⟩⟩
theorem OAcc.frame {ety n : Nat} {Rel : (Addr → Option Value) → List Value → α → Prop} {O : Vw → List Nat → List Value → α → Prop} (ok : OOk w0 n Rel O) {F : List Nat} {v : Value} {xs : List α} (h : OAcc w0 ety n O σ F v xs) (hF : ∀ b, b ∈ F → σ' b = σ b) : OAcc w0 ety n O σ' F v xs := by
  obtain ⟨h1, h2, h3 | ⟨b, cap, css, Fs, g1, g2, g3, g4, g5, g6, g7, g8⟩⟩ := h
  · exact ⟨h1, h2, .inl h3⟩
  · refine ⟨h1, h2, .inr ⟨b, cap, css, Fs, g1, g2, g3, by rw [hF b (by rw [g7]; exact List.mem_cons_self)]; exact g4, g5, g6, g7, fun j c x f e1 e2 e3 => ?_⟩⟩
    refine ok.frame _ _ _ _ _ (g8 j c x f e1 e2 e3) fun i hi => hF i ?_
    rw [g7]
    exact List.mem_cons_of_mem _ (List.mem_flatten.2 ⟨f, List.mem_of_getElem? e3, hi⟩)
theorem OAcc.dom {ety n : Nat} {Rel : (Addr → Option Value) → List Value → α → Prop} {O : Vw → List Nat → List Value → α → Prop} (ok : OOk w0 n Rel O) {F : List Nat} {v : Value} {xs : List α} (h : OAcc w0 ety n O σ F v xs) : ∀ b, b ∈ F → w0.heap.size ≤ b ∧ σ b ≠ none := h.osl.dom ok
theorem OAcc.nil {ety n : Nat} {O : Vw → List Nat → List Value → α → Prop} : OAcc w0 ety n O σ [] (.slice none 0 0) [] := ⟨by simp, by simp, .inl ⟨rfl, rfl, rfl⟩⟩
theorem OAcc.new {ety n b : Nat} {O : Vw → List Nat → List Value → α → Prop} (hb : w0.heap.size ≤ b) : OAcc w0 ety n O (σ.put b ⟨ety, [], 0, (0, 0)⟩) [b] (.slice (some ⟨b, 0, none⟩) 0 0) [] :=
  ⟨by simp, by simp, .inr ⟨b, 0, [], [], rfl, by simp, hb, by rw [put_at]; simp, rfl, rfl, rfl, fun j c x f h => by simp at h⟩⟩

theorem Keeps.but_at {F : List Nat} (h : Keeps σ σ') (hF : ∀ b, b ∈ F → σ b ≠ none) : ∀ b, b ∈ F → σ' b = σ b := fun b hb => by
  cases hs : σ b with
  | none => exact absurd hs (hF b hb)
  | some r => exact h b r hs

/-- Elements are appended, each with rows of its own. -/
theorem OAcc.pushX {ety n bytes m : Nat} {Rel : (Addr → Option Value) → List Value → α → Prop} {O : Vw → List Nat → List Value → α → Prop} (ok : OOk w0 n Rel O) {F : List Nat} {v : Value} {xs ys : List α} {nss : List (List Value)} {Gs : List (List Nat)} {new : List Value}
    (h : OAcc w0 ety n O σ F v xs) (hm : ys.length = m) (hnl : nss.length = m) (hGl : Gs.length = m) (hnew : new = nss.flatten) (hO : ∀ (j : Nat) (c : List Value) (y : α) (g : List Nat), nss[j]? = some c → ys[j]? = some y → Gs[j]? = some g → O σ g c y)
    (hG : Gs.flatten.Nodup) (hGF : ∀ i, i ∈ Gs.flatten → i ∉ F) (hlen : xs.length + m ≤ 1000000000000) (hbytes : bytes ≤ 140) {K : Value → Vw → Prop}
    (hK : ∀ v' F' σ', Ext σ σ' → KeepsBut F σ σ' → OAcc w0 ety n O σ' F' v' (xs ++ ys) → (∀ i, i ∈ F' → i ∈ F ∨ i ∈ Gs.flatten ∨ σ i = none) → K v' σ') : pAppend w0 ety n bytes v m new σ K := by
  have hb47 : (xs.length + m) * bytes ≤ 2 ^ 47 := by
    have h1 : (xs.length + m) * bytes ≤ 1000000000000 * 140 := Nat.mul_le_mul hlen hbytes
    have h2 : (2 : Nat) ^ 47 = 140737488355328 := by decide
    omega
  have hn2 : ∀ c, c ∈ nss → c.length = n := fun c hc => by
    obtain ⟨i, hi⟩ := List.getElem?_of_mem hc
    have hil : i < nss.length := (List.getElem?_eq_some_iff.1 hi).1
    exact ok.len _ _ _ _ (hO i c _ _ hi (List.getElem?_eq_getElem (by omega)) (List.getElem?_eq_getElem (by omega)))
  have hnewl : new.length = m * n := by rw [hnew, flat_len _ hn2, hnl]
  have hGdom : ∀ i, i ∈ Gs.flatten → σ i ≠ none := fun i hi => by
    obtain ⟨j, f, e1, e2⟩ := mem_flat hi
    have hj : j < Gs.length := (List.getElem?_eq_some_iff.1 e1).1
    exact (ok.dom _ _ _ _ (hO j _ _ f (List.getElem?_eq_getElem (by omega)) (List.getElem?_eq_getElem (by omega)) e1) i e2).2
  obtain ⟨h1, h2, ⟨rfl, rfl, rfl⟩ | ⟨b, cap, css, Fs, rfl, g2, g3, g4, g5, g6, g7, g8⟩⟩ := h
  · refine .inr ⟨0, [], ⟨by simp, .inl ⟨rfl, rfl⟩⟩, hnewl, by simpa using (by omega : m ≤ 9223372036854775807), by simpa using hb47, fun v' σ' hg => ?_⟩
    rcases hg with ⟨rfl, rfl, _, h0, _⟩ | ⟨b', c', rfl, g1, g2, rfl, g3, g4⟩
    · have : m = 0 := by omega
      subst this
      have hy : ys = [] := List.length_eq_zero_iff.1 hm
      subst hy
      exact hK _ [] _ (Ext.refl _) (KeepsBut.refl _ _) (by simpa using OAcc.nil) (fun i hi => by cases hi)
    · have hb' : σ b' = none := by
        rcases g4 with h | ⟨n0, c0, h⟩
        · exact h
        · cases h
      have hbG : b' ∉ Gs.flatten := fun hi => hGdom b' hi hb'
      refine hK _ (b' :: Gs.flatten) _ (Keeps.put hb').ext (Keeps.put hb').but ?_ fun i hi => ?_
      · refine ⟨by simp; omega, List.nodup_cons.2 ⟨hbG, hG⟩, .inr ⟨b', c', nss, Gs, by simp [hm], by simp [hm]; omega, g3, by rw [put_at]; simp [hnew], by simp [hm, hnl], by simp [hm, hGl], rfl, fun j c x f e1 e2 e3 => ?_⟩⟩
        simp only [List.nil_append] at e2
        refine ok.frame _ _ _ _ _ (hO j c x f e1 e2 e3) fun i hi => ?_
        have : i ≠ b' := fun e => hbG (e ▸ List.mem_flatten.2 ⟨f, List.mem_of_getElem? e3, hi⟩)
        simp [Vw.put, this]
      · rcases List.mem_cons.1 hi with e | e
        · rw [e]; exact .inr (.inr hb')
        · exact .inr (.inl e)
  · have hn1 : ∀ c, c ∈ css → c.length = n := fun c hc => by
      obtain ⟨i, hi⟩ := List.getElem?_of_mem hc
      have hil : i < css.length := (List.getElem?_eq_some_iff.1 hi).1
      exact ok.len _ _ _ _ (g8 i c _ _ hi (List.getElem?_eq_getElem (by omega)) (List.getElem?_eq_getElem (by omega)))
    have g4' := g4
    rw [g7] at h2
    have hbFs : b ∉ Fs.flatten := (List.nodup_cons.1 h2).1
    have hbG : b ∉ Gs.flatten := fun hi => hGF b hi (by rw [g7]; exact List.mem_cons_self)
    have hFsdom : ∀ i, i ∈ Fs.flatten → σ i ≠ none := fun i hi => by
      obtain ⟨j, f, e1, e2⟩ := mem_flat hi
      have hj : j < Fs.length := (List.getElem?_eq_some_iff.1 e1).1
      exact (ok.dom _ _ _ _ (g8 j _ _ f (List.getElem?_eq_getElem (by omega)) (List.getElem?_eq_getElem (by omega)) e1) i e2).2
    refine .inr ⟨xs.length, css.flatten, ⟨by rw [flat_len _ hn1, g5], .inr ⟨b, cap, rfl, g4, g2.1, g2.2⟩⟩, hnewl, by omega, hb47, fun v' σ' hg => ?_⟩
    rcases hg with ⟨rfl, rfl, h, _⟩ | ⟨b', c', rfl, k1, k2, rfl, k3, k4⟩
    · cases h
    · have hb' : b' ∉ Fs.flatten ∧ b' ∉ Gs.flatten ∧ (b' = b ∨ σ b' = none) := by
        rcases k4 with h | ⟨n0, c0, h⟩
        · exact ⟨fun hi => hFsdom b' hi h, fun hi => hGdom b' hi h, .inr h⟩
        · cases h; exact ⟨hbFs, hbG, .inl rfl⟩
      refine hK _ (b' :: (Fs ++ Gs).flatten) _ ?_ ?_ ?_ fun i hi => ?_
      · rcases hb'.2.2 with rfl | h
        · intro i r hi
          by_cases e : i = b'
          · subst e
            rw [g4'] at hi; cases hi
            exact ⟨_, put_at, List.prefix_append _ _⟩
          · exact ⟨r, by simp [Vw.put, e, hi], List.prefix_refl _⟩
        · exact (Keeps.put h).ext
      · rcases hb'.2.2 with rfl | h
        · exact KeepsBut.put (by rw [g7]; exact List.mem_cons_self)
        · exact (Keeps.put h).but
      · refine ⟨by simp; omega, ?_, .inr ⟨b', c', css ++ nss, Fs ++ Gs, by simp [hm], by simp [hm]; omega, k3, by rw [put_at, hnew]; simp, by simp [hm, hnl, g5], by simp [hm, hGl, g6], rfl, fun j c x f e1 e2 e3 => ?_⟩⟩
        · rw [List.flatten_append, List.nodup_cons]
          refine ⟨fun hi => ?_, List.nodup_append.2 ⟨(List.nodup_cons.1 h2).2, hG, fun a ha d hd e => hGF d hd (by rw [g7, ← e]; exact List.mem_cons_of_mem _ ha)⟩⟩
          rcases List.mem_append.1 hi with h | h
          · exact hb'.1 h
          · exact hb'.2.1 h
        · have hput : ∀ i, i ≠ b' → (σ.put b' ⟨ety, css.flatten ++ new, c' * n, (0, 0)⟩) i = σ i := fun i hi => by simp [Vw.put, hi]
          by_cases hj : j < xs.length
          · rw [List.getElem?_append_left (by omega)] at e1 e2 e3
            exact ok.frame _ _ _ _ _ (g8 j c x f e1 e2 e3) fun i hi => hput i fun e => hb'.1 (e ▸ List.mem_flatten.2 ⟨f, List.mem_of_getElem? e3, hi⟩)
          · rw [List.getElem?_append_right (by omega)] at e1 e2 e3
            rw [g5] at e1; rw [g6] at e3
            exact ok.frame _ _ _ _ _ (hO _ c x f e1 e2 e3) fun i hi => hput i fun e => hb'.2.1 (e ▸ List.mem_flatten.2 ⟨f, List.mem_of_getElem? e3, hi⟩)
      · rw [g7]
        rcases List.mem_cons.1 hi with e | e
        · rw [e]
          rcases hb'.2.2 with rfl | h
          · exact .inl List.mem_cons_self
          · exact .inr (.inr h)
        · rw [List.flatten_append] at e
          rcases List.mem_append.1 e with h | h
          · exact .inl (List.mem_cons_of_mem _ h)
          · exact .inr (.inl h)

/-- One element is appended. -/
theorem OAcc.oneX {ety n bytes : Nat} {Rel : (Addr → Option Value) → List Value → α → Prop} {O : Vw → List Nat → List Value → α → Prop} (ok : OOk w0 n Rel O) {F f : List Nat} {v : Value} {xs : List α} {y : α} {es : List Value}
    (h : OAcc w0 ety n O σ F v xs) (hy : O σ f es y) (hf : ∀ i, i ∈ f → i ∉ F) (hlen : xs.length + 1 ≤ 1000000000000) (hbytes : bytes ≤ 140) {K : Value → Vw → Prop}
    (hK : ∀ v' F' σ', Ext σ σ' → KeepsBut F σ σ' → OAcc w0 ety n O σ' F' v' (xs ++ [y]) → (∀ i, i ∈ F' → i ∈ F ∨ i ∈ f ∨ σ i = none) → K v' σ') : allOne es ∧ pAppend w0 ety n bytes v 1 es σ K := by
  refine ⟨ok.one _ _ _ _ hy, ?_⟩
  refine h.pushX ok (ys := [y]) (nss := [es]) (Gs := [f]) rfl rfl rfl (by simp) (fun j c z g e1 e2 e3 => ?_) (by simpa using ok.nodup _ _ _ _ hy) (by simpa using hf) hlen hbytes (by simpa using hK)
  cases j with
  | zero => simp at e1 e2 e3; subst e1 e2 e3; exact hy
  | succ j => simp at e1

/-- All elements of a list that is read are appended; they need no rows of their own. -/
theorem OAcc.allX {ety n bytes : Nat} {Rel Rel0 : (Addr → Option Value) → List Value → α → Prop} {O : Vw → List Nat → List Value → α → Prop} (ok : OOk w0 n Rel O) {rd0 : Addr → Option Value} {F : List Nat} {v s : Value} {xs ys : List α}
    (h : OAcc w0 ety n O σ F v xs) (hs : RSl n Rel0 rd0 s ys) (hle : Le rd0 (Av.get w0 σ)) (hO : ∀ es y, Rel0 rd0 es y → O σ [] es y) (hlen : xs.length + ys.length ≤ 1000000000000) (hbytes : bytes ≤ 140) {K : Value → Vw → Prop}
    (hK : ∀ v' F' σ', Ext σ σ' → KeepsBut F σ σ' → OAcc w0 ety n O σ' F' v' (xs ++ ys) → (∀ i, i ∈ F' → i ∈ F ∨ σ i = none) → K v' σ') : pAppendS w0 ety n bytes v s σ K := by
  obtain ⟨A, cap, rfl, hc, hel⟩ := hs
  obtain ⟨css, hcl, hcs⟩ := listOf (fun i (c : List Value) => ∃ a y, A = some a ∧ ys[i]? = some y ∧ c.length = n ∧ (∀ k, k < n → rd0 (a.add (i * n + k)) = c[k]?) ∧ Rel0 rd0 c y) ys.length (fun i hi => by
    obtain ⟨a, es, h1, h2, h3, h4⟩ := hel i _ (List.getElem?_eq_getElem hi)
    exact ⟨es, a, _, h1, List.getElem?_eq_getElem hi, h2, h3, h4⟩)
  have hn : ∀ c, c ∈ css → c.length = n := fun c hc => by
    obtain ⟨i, hi⟩ := List.getElem?_of_mem hc
    obtain ⟨_, _, _, _, h, _⟩ := hcs i c hi
    exact h
  refine ⟨A, ys.length, cap, css.flatten, rfl, by rw [flat_len _ hn, hcl], ?_, ?_, ?_⟩
  · intro c hc
    obtain ⟨es, he, hce⟩ := List.mem_flatten.1 hc
    obtain ⟨i, hi⟩ := List.getElem?_of_mem he
    obtain ⟨a, y, _, _, _, _, hR⟩ := hcs i es hi
    exact ok.one _ _ _ _ (hO _ _ hR) c hce
  · intro j hj
    rw [flat_len _ hn, hcl] at hj
    have hn0 : 0 < n := by
      rcases Nat.eq_zero_or_pos n with e | e
      · subst e; omega
      · exact e
    have hq : j / n < css.length := by rw [hcl]; exact (Nat.div_lt_iff_lt_mul hn0).2 hj
    obtain ⟨a, y, hA, hy, hl, hk, hR⟩ := hcs (j / n) _ (List.getElem?_eq_getElem hq)
    have hr : j % n < n := Nat.mod_lt _ hn0
    have hdm : j / n * n + j % n = j := by rw [Nat.mul_comm]; exact Nat.div_add_mod j n
    refine ⟨a, hA, ?_⟩
    have e1 := flat_get css hn (j / n) _ (List.getElem?_eq_getElem hq) (j % n) hr
    rw [hdm] at e1
    have e2 := hk (j % n) hr
    rw [hdm, ← e1] at e2
    have hj' : j < css.flatten.length := by rw [flat_len _ hn, hcl]; exact hj
    rw [List.getElem?_eq_getElem hj'] at e2
    exact hle _ _ e2
  · refine h.pushX ok (ys := ys) (nss := css) (Gs := List.replicate ys.length []) rfl hcl (by simp) rfl (fun j c y g e1 e2 e3 => ?_) (by simp) (by simp) hlen hbytes (by simpa using hK)
    obtain ⟨a, y', _, hy, _, _, hR⟩ := hcs j c e1
    rw [e2] at hy; cases hy
    rw [List.getElem?_replicate] at e3
    split at e3
    · cases e3; exact hO _ _ hR
    · cases e3

/-- All elements of a list of our own are appended, with their rows. -/
theorem OAcc.allOwnX {ety n bytes : Nat} {Rel : (Addr → Option Value) → List Value → α → Prop} {O : Vw → List Nat → List Value → α → Prop} (ok : OOk w0 n Rel O) {F G : List Nat} {v s : Value} {xs ys : List α}
    (h : OAcc w0 ety n O σ F v xs) (hs : OSl w0 n O σ G s ys) (hGF : ∀ i, i ∈ G → i ∉ F) (hlen : xs.length + ys.length ≤ 1000000000000) (hbytes : bytes ≤ 140) {K : Value → Vw → Prop}
    (hK : ∀ v' F' σ', Ext σ σ' → KeepsBut F σ σ' → OAcc w0 ety n O σ' F' v' (xs ++ ys) → (∀ i, i ∈ F' → i ∈ F ∨ i ∈ G ∨ σ i = none) → K v' σ') : pAppendS w0 ety n bytes v s σ K := by
  obtain ⟨s1, s2, ⟨rfl, rfl, rfl⟩ | ⟨b, off, cap, r, pre, post, css, Gs, rfl, gc, g2, g3, g4, g5, g6, g7, g8, g9⟩⟩ := hs
  · refine ⟨none, 0, 0, [], rfl, by simp, by simp, fun j hj => by simp at hj, ?_⟩
    exact h.pushX ok (ys := []) (nss := []) (Gs := []) rfl rfl rfl rfl (fun j c y g e1 => by simp at e1) (by simp) (by simp) (by simpa using hlen) hbytes (by simpa using hK)
  · have hn : ∀ c, c ∈ css → c.length = n := fun c hc => by
      obtain ⟨i, hi⟩ := List.getElem?_of_mem hc
      have hil : i < css.length := (List.getElem?_eq_some_iff.1 hi).1
      exact ok.len _ _ _ _ (g9 i c _ _ hi (List.getElem?_eq_getElem (by omega)) (List.getElem?_eq_getElem (by omega)))
    rw [g8] at s2
    refine ⟨_, ys.length, cap, css.flatten, rfl, by rw [flat_len _ hn, g6], ?_, ?_, ?_⟩
    · intro c hc
      obtain ⟨es, he, hce⟩ := List.mem_flatten.1 hc
      obtain ⟨i, hi⟩ := List.getElem?_of_mem he
      have hil : i < css.length := (List.getElem?_eq_some_iff.1 hi).1
      exact ok.one _ _ _ _ (g9 i es _ _ hi (List.getElem?_eq_getElem (by omega)) (List.getElem?_eq_getElem (by omega))) c hce
    · intro j hj
      refine ⟨_, rfl, ?_⟩
      rw [addr_add, get_row g2 g3, g4, List.getElem?_append_right (by omega), List.getElem?_append_left (by omega), ← List.getElem?_eq_getElem hj]
      congr 1; omega
    · refine h.pushX ok (ys := ys) (nss := css) (Gs := Gs) rfl g6 g7 rfl g9 (List.nodup_cons.1 s2).2 (fun i hi => hGF i (by rw [g8]; exact List.mem_cons_of_mem _ hi)) hlen hbytes fun v' F' σ' k0 k1 k2 k3 => hK v' F' σ' k0 k1 k2 fun i hi => ?_
      rcases k3 i hi with h | h | h
      · exact .inl h
      · exact .inr (.inl (by rw [g8]; exact List.mem_cons_of_mem _ h))
      · exact .inr (.inr h)
theorem OAcc.push {ety n bytes m : Nat} {Rel : (Addr → Option Value) → List Value → α → Prop} {O : Vw → List Nat → List Value → α → Prop} (ok : OOk w0 n Rel O) {F : List Nat} {v : Value} {xs ys : List α} {nss : List (List Value)} {Gs : List (List Nat)} {new : List Value}
    (h : OAcc w0 ety n O σ F v xs) (hm : ys.length = m) (hnl : nss.length = m) (hGl : Gs.length = m) (hnew : new = nss.flatten) (hO : ∀ (j : Nat) (c : List Value) (y : α) (g : List Nat), nss[j]? = some c → ys[j]? = some y → Gs[j]? = some g → O σ g c y)
    (hG : Gs.flatten.Nodup) (hGF : ∀ i, i ∈ Gs.flatten → i ∉ F) (hlen : xs.length + m ≤ 1000000000000) (hbytes : bytes ≤ 140) {K : Value → Vw → Prop}
    (hK : ∀ v' F' σ', KeepsBut F σ σ' → OAcc w0 ety n O σ' F' v' (xs ++ ys) → (∀ i, i ∈ F' → i ∈ F ∨ i ∈ Gs.flatten ∨ σ i = none) → K v' σ') : pAppend w0 ety n bytes v m new σ K :=
  OAcc.pushX ok h hm hnl hGl hnew hO hG hGF hlen hbytes fun v' F' σ' _ => hK v' F' σ'
theorem OAcc.one {ety n bytes : Nat} {Rel : (Addr → Option Value) → List Value → α → Prop} {O : Vw → List Nat → List Value → α → Prop} (ok : OOk w0 n Rel O) {F f : List Nat} {v : Value} {xs : List α} {y : α} {es : List Value}
    (h : OAcc w0 ety n O σ F v xs) (hy : O σ f es y) (hf : ∀ i, i ∈ f → i ∉ F) (hlen : xs.length + 1 ≤ 1000000000000) (hbytes : bytes ≤ 140) {K : Value → Vw → Prop}
    (hK : ∀ v' F' σ', KeepsBut F σ σ' → OAcc w0 ety n O σ' F' v' (xs ++ [y]) → (∀ i, i ∈ F' → i ∈ F ∨ i ∈ f ∨ σ i = none) → K v' σ') : allOne es ∧ pAppend w0 ety n bytes v 1 es σ K :=
  OAcc.oneX ok h hy hf hlen hbytes fun v' F' σ' _ => hK v' F' σ'
theorem OAcc.all {ety n bytes : Nat} {Rel Rel0 : (Addr → Option Value) → List Value → α → Prop} {O : Vw → List Nat → List Value → α → Prop} (ok : OOk w0 n Rel O) {rd0 : Addr → Option Value} {F : List Nat} {v s : Value} {xs ys : List α}
    (h : OAcc w0 ety n O σ F v xs) (hs : RSl n Rel0 rd0 s ys) (hle : Le rd0 (Av.get w0 σ)) (hO : ∀ es y, Rel0 rd0 es y → O σ [] es y) (hlen : xs.length + ys.length ≤ 1000000000000) (hbytes : bytes ≤ 140) {K : Value → Vw → Prop}
    (hK : ∀ v' F' σ', KeepsBut F σ σ' → OAcc w0 ety n O σ' F' v' (xs ++ ys) → (∀ i, i ∈ F' → i ∈ F ∨ σ i = none) → K v' σ') : pAppendS w0 ety n bytes v s σ K :=
  OAcc.allX ok h hs hle hO hlen hbytes fun v' F' σ' _ => hK v' F' σ'
theorem OAcc.allOwn {ety n bytes : Nat} {Rel : (Addr → Option Value) → List Value → α → Prop} {O : Vw → List Nat → List Value → α → Prop} (ok : OOk w0 n Rel O) {F G : List Nat} {v s : Value} {xs ys : List α}
    (h : OAcc w0 ety n O σ F v xs) (hs : OSl w0 n O σ G s ys) (hGF : ∀ i, i ∈ G → i ∉ F) (hlen : xs.length + ys.length ≤ 1000000000000) (hbytes : bytes ≤ 140) {K : Value → Vw → Prop}
    (hK : ∀ v' F' σ', KeepsBut F σ σ' → OAcc w0 ety n O σ' F' v' (xs ++ ys) → (∀ i, i ∈ F' → i ∈ F ∨ i ∈ G ∨ σ i = none) → K v' σ') : pAppendS w0 ety n bytes v s σ K :=
  OAcc.allOwnX ok h hs hGF hlen hbytes fun v' F' σ' _ => hK v' F' σ'
end
end Go.Av

/- A part of a list that is read; slices of texts. -/
set_option linter.unusedVariables false
set_option linter.unusedSimpArgs false
namespace Go.Av
open Go Go.RowKit

section
variable {P : Program} {w0 : World} {σ σ' : Vw} {α : Type}

theorem RSl.slice {n : Nat} {R : (Addr → Option Value) → List Value → α → Prop} {rd : Addr → Option Value} {v : Value} {xs : List α} (h : RSl n R rd v xs) {lo hi : Option Value} {l u : Nat} (hl : boundOf 0 lo = some (l : Int)) (hu : boundOf xs.length hi = some (u : Int)) (hlu : l ≤ u) (hux : u ≤ xs.length) {K : Value → Prop}
    (hK : ∀ v', RSl n R rd v' ((xs.take u).drop l) → K v') : pSlice n v lo hi K := by
  obtain ⟨A, cap, rfl, h2, h3⟩ := h
  refine ⟨A, xs.length, cap, l, u, rfl, hl, hu, by omega, by omega, by omega, hK _ ?_⟩
  have hlen : ((xs.take u).drop l).length = u - l := by rw [List.length_drop, List.length_take]; omega
  simp only [Int.toNat_natCast]
  refine ⟨if cap = l then A else Option.map (fun x => x.add (l * n)) A, cap - l, by rw [hlen], by rw [hlen]; omega, fun j x hj => ?_⟩
  rw [List.getElem?_drop] at hj
  have hlt : l + j < u := by
    rcases Nat.lt_or_ge (l + j) u with h | h
    · exact h
    · rw [List.getElem?_eq_none (by rw [List.length_take]; omega)] at hj; cases hj
  rw [List.getElem?_take_of_lt hlt] at hj
  obtain ⟨a, es, rfl, g1, g2, g3⟩ := h3 _ x hj
  refine ⟨a.add (l * n), es, ?_, g1, fun i hi => ?_, g3⟩
  · rw [if_neg (by omega)]; rfl
  · rw [add_add, ← g2 i hi]
    congr 2
    rw [Nat.add_mul]; omega

/-- A field of an element is read. -/
theorem RSl.atp {n : Nat} {R : (Addr → Option Value) → List Value → α → Prop} {v : Value} {xs : List α} (h : RSl n R (Av.get w0 σ) v xs) {j : Nat} {x : α} (hj : xs[j]? = some x) {K : Value → (Nat → Value) → Prop} (hK : ∀ (p : Value) (g : Nat → Value), R (Av.get w0 σ) (expl g 0 n) x → K p g) :
    pIndexAddr n v (.int .i64 j) fun p => pLoad w0 n p σ (K p) := by
  have h' := h
  obtain ⟨A, cap, rfl, _, h3⟩ := h
  obtain ⟨a, es, rfl, h5, h6, h7⟩ := h3 j x hj
  have hlt : j < xs.length := (List.getElem?_eq_some_iff.1 hj).1
  refine ⟨a, xs.length, cap, .i64, j, rfl, rfl, by omega, by omega, a.add (j * n), fun i => es.getD i undef, rfl, fun i hi => ?_, hK _ _ ?_⟩
  · have := h6 i hi
    have hlt : i < es.length := by omega
    rw [add_add]
    show Av.get w0 σ (a.add (j * n + i)) = _
    rw [this, List.getElem?_eq_getElem hlt]
    simp only [List.getD_eq_getElem?_getD, List.getElem?_eq_getElem hlt, Option.getD_some]
  · have : expl (fun i => es.getD i undef) 0 n = es := by
      apply List.ext_getElem?
      intro i
      by_cases hi : i < n
      · rw [expl_get _ _ _ _ hi, Nat.zero_add, List.getD_eq_getElem?_getD]
        have hlt : i < es.length := by omega
        rw [List.getElem?_eq_getElem hlt]; rfl
      · rw [List.getElem?_eq_none (by rw [length_expl]; omega), List.getElem?_eq_none (by omega)]
    rw [this]; exact h7
theorem RSl.atfp {n : Nat} {R : (Addr → Option Value) → List Value → α → Prop} {v : Value} {xs : List α} (h : RSl n R (Av.get w0 σ) v xs) {j : Nat} {x : α} (hj : xs[j]? = some x) (o : Nat) (ho : o < n) {K : Value → (Nat → Value) → Prop} (hK : ∀ (q : Value) (es : List Value) (g : Nat → Value), R (Av.get w0 σ) es x → es[o]? = some (g 0) → K q g) :
    pIndexAddr n v (.int .i64 j) fun p => pField o p fun q => pLoad w0 1 q σ (K q) := by
  obtain ⟨A, cap, rfl, _, h3⟩ := h
  obtain ⟨a, es, rfl, h5, h6, h7⟩ := h3 j x hj
  have hlt : j < xs.length := (List.getElem?_eq_some_iff.1 hj).1
  refine ⟨a, xs.length, cap, .i64, j, rfl, rfl, by omega, by omega, a.add (j * n), rfl, (a.add (j * n)).add o, fun _ => es.getD o undef, rfl, fun i hi => ?_, hK _ es _ h7 ?_⟩
  · have e : i = 0 := by omega
    subst e
    have := h6 o ho
    rw [add_add, add_add, Nat.add_zero, this, List.getElem?_eq_getElem (by omega)]
    simp only [List.getD_eq_getElem?_getD, List.getElem?_eq_getElem (show o < es.length by omega), Option.getD_some]
  · simp only [List.getD_eq_getElem?_getD, List.getElem?_eq_getElem (show o < es.length by omega), Option.getD_some]

theorem RSl.atf {n : Nat} {R : (Addr → Option Value) → List Value → α → Prop} {v : Value} {xs : List α} (h : RSl n R (Av.get w0 σ) v xs) {j : Nat} {x : α} (hj : xs[j]? = some x) (o : Nat) (ho : o < n) {K : (Nat → Value) → Prop} (hK : ∀ (es : List Value) (g : Nat → Value), R (Av.get w0 σ) es x → es[o]? = some (g 0) → K g) :
    pIndexAddr n v (.int .i64 j) fun p => pField o p fun q => pLoad w0 1 q σ K :=
  h.atfp hj o ho fun q => hK

/-- A run of rounds over a list. -/
theorem foldl_take {β : Type} {f : β → α → β} {b : β} {xs : List α} {j : Nat} {x : α} (hj : xs[j]? = some x) : (xs.take (j + 1)).foldl f b = f ((xs.take j).foldl f b) x := by
  rw [List.take_add_one, hj, Option.toList_some, List.foldl_append]; rfl
end
end Go.Av

/- Texts as lists of bytes; what is cut at a byte; decimals. Plain. -/
set_option linter.unusedVariables false
set_option linter.unusedSimpArgs false
namespace Go.Av
open Go Go.RowKit

abbrev bl (s : ByteArray) : List UInt8 := s.data.toList
def ofL (l : List UInt8) : ByteArray := ⟨l.toArray⟩
theorem bl_ofL (l : List UInt8) : bl (ofL l) = l := rfl
theorem bl_inj {a b : ByteArray} (h : bl a = bl b) : a = b := by
  cases a; cases b
  simp only [ByteArray.mk.injEq]
  exact Array.toList_inj.1 h
theorem ofL_bl (s : ByteArray) : ofL (bl s) = s := bl_inj (bl_ofL _)
theorem ofL_inj {a b : List UInt8} (h : ofL a = ofL b) : a = b := by rw [← bl_ofL a, h, bl_ofL]
theorem ofL_eq {l : List UInt8} {s : ByteArray} : ofL l = s ↔ l = bl s := ⟨fun h => by rw [← h, bl_ofL], fun h => by rw [h, ofL_bl]⟩
theorem size_bl (s : ByteArray) : (bl s).length = s.size := by
  show s.data.toList.length = s.data.size
  simp
theorem size_ofL (l : List UInt8) : (ofL l).size = l.length := by rw [← size_bl, bl_ofL]
theorem bl_append (a b : ByteArray) : bl (a ++ b) = bl a ++ bl b := by
  show (a ++ b).data.toList = _
  rw [ByteArray.data_append, Array.toList_append]
theorem ofL_append (a b : List UInt8) : ofL a ++ ofL b = ofL (a ++ b) := bl_inj (by rw [bl_append, bl_ofL, bl_ofL, bl_ofL])
theorem bl_extract (s : ByteArray) (i j : Nat) : bl (s.extract i j) = ((bl s).drop i).take (j - i) := by
  simp [bl, ByteArray.data_extract, Array.toList_extract, List.extract_eq_take_drop]
theorem bl_get (s : ByteArray) (i : Nat) (h : i < s.size) : (bl s)[i]? = some (s[i]'h) := by
  rw [List.getElem?_eq_getElem (by rw [size_bl]; exact h)]
  rfl
theorem bl_empty : bl ⟨#[]⟩ = [] := rfl
theorem bl_nums {xs : List Int} : (bl (strOfNums xs)).length = xs.length := by rw [size_bl]; simp [strOfNums, ByteArray.size]
theorem bl_byte (n : Nat) : bl (strOfNums [((n % 256 : Nat) : Int)]) = [UInt8.ofNat n] := by
  simp only [bl, strOfNums, List.map_cons, List.map_nil]
  congr 1
  apply UInt8.toNat_inj.1
  simp
  omega

/-- What lies between the places of a byte. -/
def cutL (c : UInt8) : List UInt8 → List (List UInt8)
  | [] => [[]]
  | b :: r => if b = c then [] :: cutL c r else match cutL c r with
    | h :: t => (b :: h) :: t
    | [] => [[b]]
theorem cutL_ne (c : UInt8) : ∀ l, cutL c l ≠ []
  | [] => by simp [cutL]
  | b :: r => by
    unfold cutL
    split
    · simp
    · split
      · simp
      · simp
theorem cutL_none {c : UInt8} : ∀ {l : List UInt8}, c ∉ l → cutL c l = [l]
  | [], _ => rfl
  | b :: r, h => by
    have h1 : b ≠ c := fun e => h (e ▸ List.mem_cons_self)
    have h2 : c ∉ r := fun e => h (List.mem_cons_of_mem _ e)
    unfold cutL
    rw [if_neg h1, cutL_none h2]
theorem cutL_at {c : UInt8} : ∀ {a r : List UInt8}, c ∉ a → cutL c (a ++ c :: r) = a :: cutL c r
  | [], r, _ => by simp [cutL]
  | b :: a, r, h => by
    have h1 : b ≠ c := fun e => h (e ▸ List.mem_cons_self)
    have h2 : c ∉ a := fun e => h (List.mem_cons_of_mem _ e)
    rw [List.cons_append]
    conv => lhs; unfold cutL
    rw [if_neg h1, cutL_at h2]
theorem cutL_len_le (c : UInt8) : ∀ l : List UInt8, (cutL c l).length ≤ l.length + 1
  | [] => by simp [cutL]
  | b :: r => by
    have := cutL_len_le c r
    unfold cutL
    split
    · simp only [List.length_cons]; omega
    · split
      · rename_i h t e
        rw [e] at this
        simp only [List.length_cons] at this ⊢; omega
      · simp
theorem cutL_mem {c : UInt8} : ∀ {l w : List UInt8}, w ∈ cutL c l → c ∉ w ∧ w.length ≤ l.length
  | [], w, h => by simp [cutL] at h; subst h; simp
  | b :: r, w, h => by
    unfold cutL at h
    split at h
    · rcases List.mem_cons.1 h with e | e
      · subst e; simp
      · have := cutL_mem e; exact ⟨this.1, by simp only [List.length_cons]; omega⟩
    · rename_i hb
      split at h
      · rename_i x t e
        rcases List.mem_cons.1 h with e' | e'
        · subst e'
          have := cutL_mem (c := c) (l := r) (w := x) (by rw [e]; exact List.mem_cons_self)
          refine ⟨fun hc => ?_, by simp only [List.length_cons]; omega⟩
          rcases List.mem_cons.1 hc with e'' | e''
          · exact hb e''.symm
          · exact this.1 e''
        · have := cutL_mem (c := c) (l := r) (w := w) (by rw [e]; exact List.mem_cons_of_mem _ e')
          exact ⟨this.1, by simp only [List.length_cons]; omega⟩
      · rename_i e
        exact absurd e (cutL_ne c r)
/-- The pieces of a text. -/
def cutS (c : UInt8) (s : ByteArray) : List ByteArray := (cutL c (bl s)).map ofL
theorem cutS_len (c : UInt8) (s : ByteArray) : (cutS c s).length ≤ s.size + 1 := by
  have := cutL_len_le c (bl s)
  rw [size_bl] at this
  simpa [cutS] using this
theorem cutS_pos (c : UInt8) (s : ByteArray) : 0 < (cutS c s).length := by
  have := cutL_ne c (bl s)
  simp only [cutS, List.length_map]
  exact List.length_pos_iff.2 this
theorem cutS_mem {c : UInt8} {s w : ByteArray} (h : w ∈ cutS c s) : w.size ≤ s.size := by
  obtain ⟨l, hl, rfl⟩ := List.mem_map.1 h
  have := (cutL_mem hl).2
  rw [size_bl] at this
  rw [size_ofL]; exact this

/-! ### Decimals -/
def dig (n : Nat) : UInt8 := UInt8.ofNat (48 + n % 10)
def decL (k : Nat) : List UInt8 := if h : k < 10 then [dig k] else decL (k / 10) ++ [dig k]
termination_by k
decreasing_by omega
theorem decL_small {k : Nat} (h : k < 10) : decL k = [dig k] := by rw [decL, dif_pos h]
theorem decL_big {k : Nat} (h : ¬ k < 10) : decL k = decL (k / 10) ++ [dig k] := by rw [decL, dif_neg h]
theorem decL_len (k : Nat) : 1 ≤ (decL k).length ∧ (decL k).length ≤ k / 10 + 1 := by
  induction k using Nat.strongRecOn with
  | _ k ih =>
    by_cases h : k < 10
    · rw [decL_small h]; simp
    · rw [decL_big h]
      have := ih (k / 10) (by omega)
      simp only [List.length_append, List.length_singleton]
      omega
/-- A number's figures. -/
def decN (k : Nat) : ByteArray := ofL (decL k)
def minText : ByteArray := ⟨#[45, 57, 50, 50, 51, 51, 55, 50, 48, 51, 54, 56, 53, 52, 55, 55, 53, 56, 48, 56]⟩
def decZ (n : Int) : ByteArray := if n < 0 then ⟨#[45]⟩ ++ decN (-n).toNat else decN n.toNat
theorem decN_size (k : Nat) : 1 ≤ (decN k).size ∧ (decN k).size ≤ k / 10 + 1 := by
  rw [decN, size_ofL]; exact decL_len k
theorem decZ_nat (k : Nat) : decZ (k : Int) = decN k := by
  unfold decZ
  rw [if_neg (by omega), Int.toNat_natCast]
theorem decZ_size {n : Int} (h : -9223372036854775808 ≤ n ∧ n ≤ 9223372036854775807) : (decZ n).size ≤ 922337203685477583 := by
  unfold decZ
  split
  · have := (decN_size (-n).toNat).2
    rw [ByteArray.size_append]
    have e : (⟨#[45]⟩ : ByteArray).size = 1 := rfl
    rw [e]; omega
  · have := (decN_size n.toNat).2
    omega
theorem dig_toNat (n : Nat) : (dig n).toNat = 48 + n % 10 := by
  unfold dig
  simp
  omega
theorem decL_digits : ∀ (k : Nat) (b : UInt8), b ∈ decL k → 48 ≤ b.toNat ∧ b.toNat ≤ 57 := by
  intro k
  induction k using Nat.strongRecOn with
  | _ k ih =>
    intro b hb
    by_cases h : k < 10
    · rw [decL_small h, List.mem_singleton] at hb
      subst hb
      rw [dig_toNat]; omega
    · rw [decL_big h] at hb
      rcases List.mem_append.1 hb with e | e
      · exact ih (k / 10) (by omega) b e
      · rw [List.mem_singleton.1 e, dig_toNat]; omega

/-- The number of figures, read on from one. -/
def valL : List UInt8 → Nat → Nat
  | [], n => n
  | b :: r, n => valL r (n * 10 + (b.toNat - 48))
theorem valL_append : ∀ (a b : List UInt8) (n : Nat), valL (a ++ b) n = valL b (valL a n)
  | [], _, _ => rfl
  | x :: a, b, n => valL_append a b _
theorem valL_dec (k : Nat) : valL (decL k) 0 = k := by
  induction k using Nat.strongRecOn with
  | _ k ih =>
    by_cases h : k < 10
    · rw [decL_small h]
      simp only [valL, dig_toNat]; omega
    · rw [decL_big h, valL_append, ih (k / 10) (by omega)]
      simp only [valL, dig_toNat]; omega
theorem decL_inj {a b : Nat} (h : decL a = decL b) : a = b := by rw [← valL_dec a, h, valL_dec]
theorem decL_head : ∀ (k : Nat), 0 < k → ∃ b r, decL k = b :: r ∧ b ≠ 48 := by
  intro k
  induction k using Nat.strongRecOn with
  | _ k ih =>
    intro hk
    by_cases h : k < 10
    · refine ⟨dig k, [], decL_small h, fun e => ?_⟩
      have := dig_toNat k
      rw [e] at this
      have e2 : (48 : UInt8).toNat = 48 := rfl
      omega
    · obtain ⟨b, r, h1, h2⟩ := ih (k / 10) (by omega) (by omega)
      exact ⟨b, r ++ [dig k], by rw [decL_big h, h1]; rfl, h2⟩
/-- Figures without noughts ahead are their number's. -/
theorem decL_of : ∀ (l : List UInt8), l ≠ [] → (∀ b, b ∈ l → 48 ≤ b.toNat ∧ b.toNat ≤ 57) → (1 < l.length → l.head? ≠ some 48) → decL (valL l 0) = l := by
  intro l
  -- from the end
  suffices ∀ (n : Nat) (l : List UInt8), l.length = n → l ≠ [] → (∀ b, b ∈ l → 48 ≤ b.toNat ∧ b.toNat ≤ 57) → (1 < l.length → l.head? ≠ some 48) → decL (valL l 0) = l from this _ l rfl
  intro n
  induction n with
  | zero => intro l hl hne; exact absurd (List.length_eq_zero_iff.1 hl) hne
  | succ n ih =>
    intro l hl hne hd hh
    obtain ⟨a, x, rfl⟩ : ∃ a x, l = a ++ [x] := ⟨l.dropLast, l.getLast hne, (List.dropLast_concat_getLast hne).symm⟩
    have hx := hd x (by simp)
    have hdx : dig (x.toNat - 48) = x := by
      apply UInt8.toNat_inj.1
      rw [dig_toNat]; omega
    rw [valL_append]
    simp only [valL]
    by_cases ha : a = []
    · subst ha
      simp only [valL, List.nil_append]
      rw [decL_small (by omega)]
      rw [show 0 * 10 + (x.toNat - 48) = x.toNat - 48 by omega, hdx]
    · have hal : 0 < a.length := List.length_pos_iff.2 ha
      have h1 := ih a (by simp at hl; omega) ha (fun b hb => hd b (by simp [hb])) (fun h2 => by
        have := hh (by simp; omega)
        cases a with
        | nil => exact absurd rfl ha
        | cons y r => simpa using this)
      have hpos : 0 < valL a 0 := by
        rcases Nat.eq_zero_or_pos (valL a 0) with e | e
        · rw [e, decL_small (by omega)] at h1
          have := hh (by simp; omega)
          rw [← h1] at this
          exact absurd rfl this
        · exact e
      rw [decL_big (by omega), show (valL a 0 * 10 + (x.toNat - 48)) / 10 = valL a 0 by omega, h1]
      congr 2
      have : dig (valL a 0 * 10 + (x.toNat - 48)) = dig (x.toNat - 48) := by
        apply UInt8.toNat_inj.1
        rw [dig_toNat, dig_toNat]; omega
      rw [this, hdx]
theorem valL_lt : ∀ (l : List UInt8) (n : Nat), (∀ b, b ∈ l → 48 ≤ b.toNat ∧ b.toNat ≤ 57) → valL l n < (n + 1) * 10 ^ l.length
  | [], n, _ => by simp [valL]
  | b :: r, n, h => by
    have h1 := valL_lt r (n * 10 + (b.toNat - 48)) fun x hx => h x (List.mem_cons_of_mem _ hx)
    have hb := h b List.mem_cons_self
    simp only [valL, List.length_cons]
    refine Nat.lt_of_lt_of_le h1 ?_
    rw [Nat.pow_succ, Nat.mul_comm (10 ^ r.length) 10, ← Nat.mul_assoc]
    exact Nat.mul_le_mul_right _ (by omega)
end Go.Av

/-
  DERIVED: THE SHELF's CONTRACTS AT THIS DUMP, IN PLAIN WORDS (tools/lay-plain.mjs out of 'TryShelf.lean', which tools/lay-shelf.mjs wrote): THE SAME DECLARATIONS UNDER THE SAME NAMES: 'import', 'namespace', 'open', 'def', 'theorem' AND NOTHING ELSE: no command of the shelf's: FOR A HAND-IN. Each laying: the table of numbers ('.._ren') and one theorem, a field a fact of the dump's own or the kernel's comparison; each contract: ONE APPLICATION.
-/
namespace Go.Proofs
open Go.Shelf
def Try.lays169_ren : Go.Shelf.Ren := ⟨fun | 169 => 129 | n => n, fun | 70 => 136 | 9 => 9 | 0 => 0 | 72 => 138 | 37 => 70 | 127 => 158 | 3 => 3 | 5 => 5 | n => n, fun | n => n⟩
theorem Try.lays169 : Go.Proofs.Lays.n169 Try.prog Try.lays169_ren := {
  mixed := by kernel_rfl
  f169 := Try.func129.trans (congrArg some (by kernel_rfl))
  t0 := Try.underlying0
  a0 := Try.isAgg0
  z0 := Try.sizeOf0
  v0 := Try.zeroValue0
  t3 := Try.underlying3
  a3 := Try.isAgg3
  z3 := Try.sizeOf3
  v3 := Try.zeroValue3
  t9 := Try.underlying9
  a9 := Try.isAgg9
  z9 := Try.sizeOf9
  v9 := Try.zeroValue9
  t37 := Try.underlying70
  a37 := Try.isAgg70
  z37 := Try.sizeOf70
  v37 := Try.zeroValue70
  t70 := Try.underlying136
  a70 := Try.isAgg136
  z70 := Try.sizeOf136
  v70 := Try.zeroValue136
  t72 := Try.underlying138
  a72 := Try.isAgg138
  z72 := Try.sizeOf138
  v72 := Try.zeroValue138
  t127 := Try.underlying158
  a127 := Try.isAgg158
  z127 := Try.sizeOf158
  v127 := Try.zeroValue158 }
theorem Try.Builder_Extra_169 : Builder.Extra Try.prog Try.lays169_ren := {
  sizeBuilder := by kernel_rfl
  liesBuilder := by kernel_rfl
  t5 := Try.underlying5
  a5 := Try.isAgg5
  z5 := Try.sizeOf5
  v5 := Try.zeroValue5
  infoByte := by kernel_rfl
  cellsByte := by kernel_rfl
  sizeByte := by kernel_rfl
  neB5 := by decide }
open Go.RowKit in
/-- (*strings.Builder).String: "String returns the accumulated string.": OF A BUILDER THAT HOLDS AT LEAST ONE BYTE. ✋ THE MODEL FREEZES THOSE BYTES IN THE BUFFER (unsafe.String): a later write INTO them ends the model's run without an answer; a later append BEHIND them goes on. The statement's order of evaluation is drawn: one draw. (LAID: no walk: one application.) -/
theorem Try.Builder_String (B b : Nat) (l : List UInt8) (w : World) (h : Lib.IsBuilder 138 5 B b (Lib.byteCells l) w) (h0 : l ≠ []) :
    Calls Try.prog 129 #[.pointer (some ⟨b, 0, none⟩)] w fun e w' => e = .returned (.string ⟨l.toArray⟩) ∧ Below B w w' := Any.Builder_String Try.lays169 Try.Builder_Extra_169 B b l w h h0
open Go.RowKit in
/-- (*strings.Builder).String OF A BUILDER THAT HOLDS NO BYTE: the empty string. (Its buffer is nil, or a row of which it has taken nothing yet; where that row has NO capacity the model lays one new block for unsafe.SliceData's 'some address'.) One draw. (LAID: no walk: one application.) -/
theorem Try.Builder_String_empty (B b : Nat) (w : World) (h : Lib.IsBuilder 138 5 B b [] w) (hBw : B ≤ w.heap.size) :
    Calls Try.prog 129 #[.pointer (some ⟨b, 0, none⟩)] w fun e w' => e = .returned (.string ⟨#[]⟩) ∧ Below B w w' := Any.Builder_String_empty Try.lays169 Try.Builder_Extra_169 B b w h hBw
open Go.RowKit in
/-- (*strings.Builder).String: "String returns the accumulated string.": WHATEVER THE BUILDER HOLDS. (LAID: no walk: one application.) -/
theorem Try.Builder_String_any (B b : Nat) (l : List UInt8) (w : World) (h : Lib.IsBuilder 138 5 B b (Lib.byteCells l) w) (hBw : B ≤ w.heap.size) :
    Calls Try.prog 129 #[.pointer (some ⟨b, 0, none⟩)] w fun e w' => e = .returned (.string ⟨l.toArray⟩) ∧ Below B w w' := Any.Builder_String_any Try.lays169 Try.Builder_Extra_169 B b l w h hBw
def Try.lays241_ren : Go.Shelf.Ren := ⟨fun | 241 => 153 | 277 => 169 | n => n, fun | 70 => 136 | 3 => 3 | 0 => 0 | 72 => 138 | 37 => 70 | 5 => 5 | n => n, fun | n => n⟩
theorem Try.lays241 : Go.Proofs.Lays.n241 Try.prog Try.lays241_ren := {
  mixed := by kernel_rfl
  f241 := Try.func153.trans (congrArg some (by kernel_rfl))
  f277 := Try.func169.trans (congrArg some (by kernel_rfl))
  t0 := Try.underlying0
  a0 := Try.isAgg0
  z0 := Try.sizeOf0
  v0 := Try.zeroValue0
  t3 := Try.underlying3
  a3 := Try.isAgg3
  z3 := Try.sizeOf3
  v3 := Try.zeroValue3
  t37 := Try.underlying70
  a37 := Try.isAgg70
  z37 := Try.sizeOf70
  v37 := Try.zeroValue70
  t70 := Try.underlying136
  a70 := Try.isAgg136
  z70 := Try.sizeOf136
  v70 := Try.zeroValue136
  t72 := Try.underlying138
  a72 := Try.isAgg138
  z72 := Try.sizeOf138
  v72 := Try.zeroValue138 }
theorem Try.Builder_Extra_241 : Builder.Extra Try.prog Try.lays241_ren := {
  sizeBuilder := by kernel_rfl
  liesBuilder := by kernel_rfl
  t5 := Try.underlying5
  a5 := Try.isAgg5
  z5 := Try.sizeOf5
  v5 := Try.zeroValue5
  infoByte := by kernel_rfl
  cellsByte := by kernel_rfl
  sizeByte := by kernel_rfl
  neB5 := by decide }
open Go.RowKit in
/-- (*strings.Builder).grow (no doc but "grow copies the buffer to a new, larger buffer so that there are at least n bytes of capacity beyond len(b.buf)."): AT A BUILDER WITHOUT A BUFFER: a new row of whatever bytes for its buffer, none of them its own yet. Three draws. (LAID: no walk: one application.) -/
theorem Try.Builder_grow_fresh (B b n : Nat) (w : World) (hB : B ≤ b) (hbk : w.heap[b]? = some (.cells #[.pointer (some ⟨b, 0, none⟩), .slice none 0 0] 138 (0, 0))) (hBw : B ≤ w.heap.size) (hn : n ≤ 281474976710656) :
    Calls Try.prog 153 #[.pointer (some ⟨b, 0, none⟩), .int .i64 n] w fun e w' => e = .returned (.tuple #[]) ∧ (Lib.BuilderAt 138 5 B b (.pointer (some ⟨b, 0, none⟩)) [] w' ∧ Below B w w') := Any.Builder_grow_fresh Try.lays241 Try.Builder_Extra_241 B b n w hB hbk hBw hn
def Try.lays165_ren : Go.Shelf.Ren := ⟨fun | 165 => 127 | 240 => 152 | 241 => 153 | 276 => 168 | 277 => 169 | n => n, fun | 70 => 136 | 3 => 3 | 0 => 0 | 4 => 4 | 9 => 9 | 20 => 20 | 72 => 138 | 37 => 70 | 164 => 174 | 5 => 5 | n => n, fun | n => n⟩
theorem Try.lays165 : Go.Proofs.Lays.n165 Try.prog Try.lays165_ren := {
  mixed := by kernel_rfl
  f165 := Try.func127.trans (congrArg some (by kernel_rfl))
  f240 := Try.func152.trans (congrArg some (by kernel_rfl))
  f241 := Try.func153.trans (congrArg some (by kernel_rfl))
  f276 := Try.func168.trans (congrArg some (by kernel_rfl))
  f277 := Try.func169.trans (congrArg some (by kernel_rfl))
  t0 := Try.underlying0
  a0 := Try.isAgg0
  z0 := Try.sizeOf0
  v0 := Try.zeroValue0
  t3 := Try.underlying3
  a3 := Try.isAgg3
  z3 := Try.sizeOf3
  v3 := Try.zeroValue3
  t4 := Try.underlying4
  a4 := Try.isAgg4
  z4 := Try.sizeOf4
  v4 := Try.zeroValue4
  t9 := Try.underlying9
  a9 := Try.isAgg9
  z9 := Try.sizeOf9
  v9 := Try.zeroValue9
  t20 := Try.underlying20
  a20 := Try.isAgg20
  z20 := Try.sizeOf20
  v20 := Try.zeroValue20
  t37 := Try.underlying70
  a37 := Try.isAgg70
  z37 := Try.sizeOf70
  v37 := Try.zeroValue70
  t70 := Try.underlying136
  a70 := Try.isAgg136
  z70 := Try.sizeOf136
  v70 := Try.zeroValue136
  t72 := Try.underlying138
  a72 := Try.isAgg138
  z72 := Try.sizeOf138
  v72 := Try.zeroValue138
  t164 := Try.underlying174
  a164 := Try.isAgg174
  z164 := Try.sizeOf174
  v164 := Try.zeroValue174 }
theorem Try.Builder_Extra_165 : Builder.Extra Try.prog Try.lays165_ren := {
  sizeBuilder := by kernel_rfl
  liesBuilder := by kernel_rfl
  t5 := Try.underlying5
  a5 := Try.isAgg5
  z5 := Try.sizeOf5
  v5 := Try.zeroValue5
  infoByte := by kernel_rfl
  cellsByte := by kernel_rfl
  sizeByte := by kernel_rfl
  neB5 := by decide }
open Go.RowKit in
/-- (*strings.Builder).Grow AT A BUILDER THAT HAS NOT BEEN WRITTEN ('var b strings.Builder; b.Grow(n)'): "Grow grows b's capacity, if necessary, to guarantee space for another n bytes.": it holds no byte behind it as before it. (LAID: no walk: one application.) -/
theorem Try.Builder_Grow_fresh (B b n : Nat) (w : World) (hB : B ≤ b) (hbk : w.heap[b]? = some (.cells #[.pointer none, .slice none 0 0] 138 (0, 0))) (hBw : B ≤ w.heap.size) (hn : n ≤ 281474976710656) :
    Calls Try.prog 127 #[.pointer (some ⟨b, 0, none⟩), .int .i64 n] w fun e w' => e = .returned (.tuple #[]) ∧ (Lib.BuilderAt 138 5 B b (.pointer (some ⟨b, 0, none⟩)) [] w' ∧ Below B w w') := Any.Builder_Grow_fresh Try.lays165 Try.Builder_Extra_165 B b n w hB hbk hBw hn
def Try.lays156_ren : Go.Shelf.Ren := ⟨fun | 156 => 97 | 165 => 127 | 166 => 128 | 169 => 129 | 240 => 152 | 241 => 153 | 276 => 168 | 277 => 169 | n => n, fun | 31 => 29 | 9 => 9 | 3 => 3 | 4 => 4 | 0 => 0 | 20 => 20 | 72 => 138 | 76 => 142 | 70 => 136 | 37 => 70 | 75 => 141 | 127 => 158 | 164 => 174 | 5 => 5 | 80 => 144 | n => n, fun | n => n⟩
theorem Try.lays156 : Go.Proofs.Lays.n156 Try.prog Try.lays156_ren := {
  mixed := by kernel_rfl
  f156 := Try.func97.trans (congrArg some (by kernel_rfl))
  f165 := Try.func127.trans (congrArg some (by kernel_rfl))
  f166 := Try.func128.trans (congrArg some (by kernel_rfl))
  f169 := Try.func129.trans (congrArg some (by kernel_rfl))
  f240 := Try.func152.trans (congrArg some (by kernel_rfl))
  f241 := Try.func153.trans (congrArg some (by kernel_rfl))
  f276 := Try.func168.trans (congrArg some (by kernel_rfl))
  f277 := Try.func169.trans (congrArg some (by kernel_rfl))
  t0 := Try.underlying0
  a0 := Try.isAgg0
  z0 := Try.sizeOf0
  v0 := Try.zeroValue0
  t3 := Try.underlying3
  a3 := Try.isAgg3
  z3 := Try.sizeOf3
  v3 := Try.zeroValue3
  t4 := Try.underlying4
  a4 := Try.isAgg4
  z4 := Try.sizeOf4
  v4 := Try.zeroValue4
  t9 := Try.underlying9
  a9 := Try.isAgg9
  z9 := Try.sizeOf9
  v9 := Try.zeroValue9
  t20 := Try.underlying20
  a20 := Try.isAgg20
  z20 := Try.sizeOf20
  v20 := Try.zeroValue20
  t31 := Try.underlying29
  a31 := Try.isAgg29
  z31 := Try.sizeOf29
  v31 := Try.zeroValue29
  t37 := Try.underlying70
  a37 := Try.isAgg70
  z37 := Try.sizeOf70
  v37 := Try.zeroValue70
  t70 := Try.underlying136
  a70 := Try.isAgg136
  z70 := Try.sizeOf136
  v70 := Try.zeroValue136
  t72 := Try.underlying138
  a72 := Try.isAgg138
  z72 := Try.sizeOf138
  v72 := Try.zeroValue138
  t75 := Try.underlying141
  a75 := Try.isAgg141
  z75 := Try.sizeOf141
  v75 := Try.zeroValue141
  t76 := Try.underlying142
  a76 := Try.isAgg142
  z76 := Try.sizeOf142
  v76 := Try.zeroValue142
  t127 := Try.underlying158
  a127 := Try.isAgg158
  z127 := Try.sizeOf158
  v127 := Try.zeroValue158
  t164 := Try.underlying174
  a164 := Try.isAgg174
  z164 := Try.sizeOf174
  v164 := Try.zeroValue174 }
theorem Try.Builder_Extra_156 : Builder.Extra Try.prog Try.lays156_ren := {
  sizeBuilder := by kernel_rfl
  liesBuilder := by kernel_rfl
  t5 := Try.underlying5
  a5 := Try.isAgg5
  z5 := Try.sizeOf5
  v5 := Try.zeroValue5
  infoByte := by kernel_rfl
  cellsByte := by kernel_rfl
  sizeByte := by kernel_rfl
  neB5 := by decide }
open Go.RowKit in
/-- No element: the empty string; the world is as it was. (Whatever the slice's address and capacity: a nil slice too.) (LAID: no walk: one application.) -/
theorem Try.strings_Join_none (a : Option Addr) (c : Nat) (sep : ByteArray) (w : World) :
    Calls Try.prog 97 #[.slice a 0 c, .string sep] w fun e w' => e = .returned (.string ⟨#[]⟩) ∧ w' = w := Any.strings_Join_none Try.lays156 Try.Builder_Extra_156 a c sep w
open Go.RowKit in
/-- strings.Join: "Join concatenates the elements of its first argument to create a single string. The separator string sep is placed between elements in the resulting string.": HOWEVER MANY ELEMENTS. Below the heap's end the world is as it was. (LAID: no walk: one application.) -/
theorem Try.strings_Join (bk o c : Nat) (xs : List ByteArray) (sep : ByteArray) (w : World) (hcells : ∀ (j : Nat) x, xs[j]? = some x → w.cell? ⟨bk, o + j, none⟩ = some (.string x)) (hbk : bk < w.heap.size) (hN : xs.length ≤ 140737488355328) (hcap : xs.length ≤ c) (hlen : (Lib.join (xs.map (·.data.toList)) sep.data.toList).length ≤ 140737488355328) :
    Calls Try.prog 97 #[.slice (some ⟨bk, o, none⟩) xs.length c, .string sep] w fun e w' => e = .returned (.string ⟨(Lib.join (xs.map (·.data.toList)) sep.data.toList).toArray⟩) ∧ Below w.heap.size w w' := Any.strings_Join Try.lays156 Try.Builder_Extra_156 bk o c xs sep w hcells hbk hN hcap hlen
def Try.lays128_ren : Go.Shelf.Ren := ⟨fun | 128 => 163 | n => n, fun | 51 => 169 | 3 => 3 | 4 => 4 | 46 => 150 | 5 => 5 | 9 => 9 | n => n, fun | n => n⟩
theorem Try.lays128 : Go.Proofs.Lays.n128 Try.prog Try.lays128_ren := {
  mixed := by kernel_rfl
  f128 := Try.func163.trans (congrArg some (by kernel_rfl))
  t3 := Try.underlying3
  a3 := Try.isAgg3
  z3 := Try.sizeOf3
  v3 := Try.zeroValue3
  t4 := Try.underlying4
  a4 := Try.isAgg4
  z4 := Try.sizeOf4
  v4 := Try.zeroValue4
  t5 := Try.underlying5
  a5 := Try.isAgg5
  z5 := Try.sizeOf5
  v5 := Try.zeroValue5
  t9 := Try.underlying9
  a9 := Try.isAgg9
  z9 := Try.sizeOf9
  v9 := Try.zeroValue9
  t46 := Try.underlying150
  a46 := Try.isAgg150
  z46 := Try.sizeOf150
  v46 := Try.zeroValue150
  t51 := Try.underlying169
  a51 := Try.isAgg169
  z51 := Try.sizeOf169
  v51 := Try.zeroValue169 }
/-- bits.Len32: "Len32 returns the minimum number of bits required to represent x; the result is 0 for x == 0.": IT RETURNS 'Lib.bitLen x'; the world is as it was. ('h0', 'h1': x is a uint32.) (LAID: no walk: one application.) -/
theorem Try.bits_Len32 (x : Int) (w : World) (h0 : 0 ≤ x) (h1 : x ≤ 4294967295) :
    Calls Try.prog 163 #[.int .u32 x] w fun e w' => e = .returned (.int .i64 (Lib.bitLen x.toNat)) ∧ w' = w := Any.bits_Len32 Try.lays128 x w h0 h1
def Try.lays125_ren : Go.Shelf.Ren := ⟨fun | 125 => 140 | 128 => 163 | 129 => 164 | n => n, fun | 46 => 150 | 3 => 3 | 51 => 169 | 53 => 171 | 4 => 4 | 5 => 5 | 9 => 9 | n => n, fun | n => n⟩
theorem Try.lays125 : Go.Proofs.Lays.n125 Try.prog Try.lays125_ren := {
  mixed := by kernel_rfl
  f125 := Try.func140.trans (congrArg some (by kernel_rfl))
  f128 := Try.func163.trans (congrArg some (by kernel_rfl))
  f129 := Try.func164.trans (congrArg some (by kernel_rfl))
  t3 := Try.underlying3
  a3 := Try.isAgg3
  z3 := Try.sizeOf3
  v3 := Try.zeroValue3
  t4 := Try.underlying4
  a4 := Try.isAgg4
  z4 := Try.sizeOf4
  v4 := Try.zeroValue4
  t5 := Try.underlying5
  a5 := Try.isAgg5
  z5 := Try.sizeOf5
  v5 := Try.zeroValue5
  t9 := Try.underlying9
  a9 := Try.isAgg9
  z9 := Try.sizeOf9
  v9 := Try.zeroValue9
  t46 := Try.underlying150
  a46 := Try.isAgg150
  z46 := Try.sizeOf150
  v46 := Try.zeroValue150
  t51 := Try.underlying169
  a51 := Try.isAgg169
  z51 := Try.sizeOf169
  v51 := Try.zeroValue169
  t53 := Try.underlying171
  a53 := Try.isAgg171
  z53 := Try.sizeOf171
  v53 := Try.zeroValue171 }
/-- bits.Len: "Len returns the minimum number of bits required to represent x; the result is 0 for x == 0.": IT RETURNS 'Lib.bitLen x'; the world is as it was. (A uint has 64 bits in the model.) ITS CALLEE bits.Len64 IS MET BY ITS OWN CONTRACT OFF THE SHELF (lay that first). (LAID: no walk: one application.) -/
theorem Try.bits_Len (x : Int) (w : World) (h0 : 0 ≤ x) (h1 : x ≤ 18446744073709551615) :
    Calls Try.prog 140 #[.int .u64 x] w fun e w' => e = .returned (.int .i64 (Lib.bitLen x.toNat)) ∧ w' = w := Any.bits_Len Try.lays125 x w h0 h1
def Try.lays129_ren : Go.Shelf.Ren := ⟨fun | 129 => 164 | n => n, fun | 53 => 171 | 3 => 3 | 4 => 4 | 46 => 150 | 5 => 5 | 9 => 9 | n => n, fun | n => n⟩
theorem Try.lays129 : Go.Proofs.Lays.n129 Try.prog Try.lays129_ren := {
  mixed := by kernel_rfl
  f129 := Try.func164.trans (congrArg some (by kernel_rfl))
  t3 := Try.underlying3
  a3 := Try.isAgg3
  z3 := Try.sizeOf3
  v3 := Try.zeroValue3
  t4 := Try.underlying4
  a4 := Try.isAgg4
  z4 := Try.sizeOf4
  v4 := Try.zeroValue4
  t5 := Try.underlying5
  a5 := Try.isAgg5
  z5 := Try.sizeOf5
  v5 := Try.zeroValue5
  t9 := Try.underlying9
  a9 := Try.isAgg9
  z9 := Try.sizeOf9
  v9 := Try.zeroValue9
  t46 := Try.underlying150
  a46 := Try.isAgg150
  z46 := Try.sizeOf150
  v46 := Try.zeroValue150
  t53 := Try.underlying171
  a53 := Try.isAgg171
  z53 := Try.sizeOf171
  v53 := Try.zeroValue171 }
/-- bits.Len64: "Len64 returns the minimum number of bits required to represent x; the result is 0 for x == 0.": IT RETURNS 'Lib.bitLen x'; the world is as it was. ('h0', 'h1': x is a uint64.) (LAID: no walk: one application.) -/
theorem Try.bits_Len64 (x : Int) (w : World) (h0 : 0 ≤ x) (h1 : x ≤ 18446744073709551615) :
    Calls Try.prog 164 #[.int .u64 x] w fun e w' => e = .returned (.int .i64 (Lib.bitLen x.toNat)) ∧ w' = w := Any.bits_Len64 Try.lays129 x w h0 h1
def Try.lays194_ren : Go.Shelf.Ren := ⟨fun | 194 => 144 | n => n, fun | 31 => 29 | 9 => 9 | 3 => 3 | 4 => 4 | 0 => 0 | n => n, fun | n => n⟩
theorem Try.lays194 : Go.Proofs.Lays.n194 Try.prog Try.lays194_ren := {
  mixed := by kernel_rfl
  f194 := Try.func144.trans (congrArg some (by kernel_rfl))
  t0 := Try.underlying0
  a0 := Try.isAgg0
  z0 := Try.sizeOf0
  v0 := Try.zeroValue0
  t3 := Try.underlying3
  a3 := Try.isAgg3
  z3 := Try.sizeOf3
  v3 := Try.zeroValue3
  t4 := Try.underlying4
  a4 := Try.isAgg4
  z4 := Try.sizeOf4
  v4 := Try.zeroValue4
  t9 := Try.underlying9
  a9 := Try.isAgg9
  z9 := Try.sizeOf9
  v9 := Try.zeroValue9
  t31 := Try.underlying29
  a31 := Try.isAgg29
  z31 := Try.sizeOf29
  v31 := Try.zeroValue29 }
open Go.RowKit Go.Lib Go.Sort in
/-- slices.Compact at []string, over an array: the library's two loops are walked. (LAID: no walk: one application.) -/
theorem Try.slices_Compact_string_arr (blk off cap : Nat) (d : Array (List UInt8)) (w : World) (hH : Holds encStr w blk off d) (hsz : d.size ≤ 9223372036854775807) (hcap : d.size ≤ cap) :
    Calls Try.prog 144 #[.slice (some ⟨blk, off, none⟩) d.size cap] w fun e w' => e = .returned (.slice (some ⟨blk, off, none⟩) (compactUpTo d d.size).length cap) ∧ ∃ q, w' = putRow encStr (Sort.ahead w q) blk off (compactUpTo d d.size ++ List.replicate (d.size - (compactUpTo d d.size).length) []).toArray := Any.slices_Compact_string_arr Try.lays194 blk off cap d w hH hsz hcap
open Go.RowKit Go.Lib Go.Sort in
/-- slices.Compact at []string: "Compact replaces consecutive runs of equal elements with a single copy. This is like the uniq command found on Unix. Compact modifies the contents of the slice s and returns the modified slice, which may have a smaller length. Compact zeroes the elements between the new length and the original length. The result preserves the nilness of s.": IT RETURNS THE SLICE CUT TO 'Lib.compact zs'; ITS CELLS HOLD 'Lib.compact zs', THEN ZERO VALUES up to the old length; all else is as it was, but for the count of draws. IN THE WORDS OF slices.Sort's CONTRACT ('Holds', 'putRow'): so the everyday 'slices.Sort(xs); xs = slices.Compact(xs)' goes from the one contract to the other. It asks 'zs.length ≤ cap' (every slice's: the reslicing 's[:k]' looks at it). Length 0, nil: '.._empty'. (LAID: no walk: one application.) -/
theorem Try.slices_Compact_string (blk off cap : Nat) (zs : List (List UInt8)) (w : World) (hH : Holds encStr w blk off zs.toArray) (hsz : zs.length ≤ 9223372036854775807) (hcap : zs.length ≤ cap) :
    Calls Try.prog 144 #[.slice (some ⟨blk, off, none⟩) zs.length cap] w fun e w' => e = .returned (.slice (some ⟨blk, off, none⟩) (Lib.compact zs).length cap) ∧ ∃ q, w' = putRow encStr (Sort.ahead w q) blk off (Lib.compact zs ++ List.replicate (zs.length - (Lib.compact zs).length) []).toArray := Any.slices_Compact_string Try.lays194 blk off cap zs w hH hsz hcap
open Go.RowKit Go.Lib Go.Sort in
/-- The same at a slice of length 0, a nil one too: it comes back as it is. (LAID: no walk: one application.) -/
theorem Try.slices_Compact_string_empty (a : Option Addr) (cap : Nat) (w : World) :
    Calls Try.prog 144 #[.slice a 0 cap] w fun e w' => e = .returned (.slice a 0 cap) ∧ w' = w := Any.slices_Compact_string_empty Try.lays194 a cap w
open Go.RowKit Go.Lib Go.Sort in
/-- slices.Compact at []string, of an argument. (LAID: no walk: one application.) -/
theorem Try.slices_Compact_string_cells (b off n c : Nat) (Sx : Nat → ByteArray) (w : World) (hbig : n ≤ 9223372036854775807) (hcap : n ≤ c) (hc : ∀ i, i < n → w.cell? ⟨b, off + i, none⟩ = some (.string (Sx i))) (hf : ∀ j, j < n → w.frozen? ⟨b, off + j, none⟩ = false) :
    Calls Try.prog 144 #[.slice (some ⟨b, off, none⟩) n c] w fun e w' => e = .returned (.slice (some ⟨b, off, none⟩) (Lib.compact (Lib.strsOf Sx n)).length c) ∧ ∃ q, w' = (w.drewN q).setCells b off ((Lib.compact (Lib.strsOf Sx n) ++ List.replicate (n - (Lib.compact (Lib.strsOf Sx n)).length) []).map encStr) := Any.slices_Compact_string_cells Try.lays194 b off n c Sx w hbig hcap hc hf
end Go.Proofs

/- Paths and trails as texts; the law 'TrailShow'. -/
set_option linter.unusedVariables false
set_option linter.unusedSimpArgs false
namespace Go.Proofs.Ytkblkdnnncklgaa
open Go Go.Av Go.RowKit

/-- A path as a text, as rounds make it. -/
def shN : List ByteArray → ByteArray
  | [] => ⟨#[]⟩
  | p :: r => ⟨#[47]⟩ ++ p ++ shN r
theorem shN_snoc : ∀ (r : List ByteArray) (p : ByteArray), shN (r ++ [p]) = shN r ++ ⟨#[47]⟩ ++ p
  | [], p => by
    apply bl_inj
    simp [shN, bl_append]
  | q :: r, p => by
    apply bl_inj
    simp [shN, shN_snoc r p, bl_append]
theorem shN_size : ∀ (r : List ByteArray), (shN r).size = r.length + sumS r
  | [] => rfl
  | p :: r => by
    simp only [shN, ByteArray.size_append, shN_size r, List.length_cons, sumS]
    show 1 + _ + _ = _; omega
def pathT (ps : List ByteArray) : ByteArray := if ps = [] then ⟨#[47]⟩ else shN ps
theorem pathT_size (ps : List ByteArray) : (pathT ps).size ≤ 1 + ps.length + sumS ps := by
  unfold pathT
  split
  · show 1 ≤ _; omega
  · rw [shN_size]; omega
theorem shN_join : ∀ (p : ByteArray) (r : List ByteArray), shN (p :: r) = ⟨#[47]⟩ ++ ofL (Lib.join ((p :: r).map bl) [47]) := by
  intro p r
  apply bl_inj
  have e : ∀ r : List ByteArray, bl (shN r) = Lib.joinTail [47] (r.map bl) := by
    intro r
    induction r with
    | nil => rfl
    | cons q r ih =>
      simp only [shN, bl_append, ih, Lib.joinTail, List.map_cons, List.flatten_cons]
  rw [List.map_cons, Lib.join_cons, shN, bl_append, bl_append, e, bl_append, bl_ofL, List.append_assoc]
def markX (m : Mk) : ByteArray := (if m.2 = true then (⟨#[115, 117, 98, 32]⟩ : ByteArray) else ⟨#[97, 116, 32]⟩) ++ pathT m.1 ++ ⟨#[10]⟩
theorem markX_size (m : Mk) : (markX m).size ≤ 6 + szMk m := by
  have := pathT_size m.1
  unfold markX szMk
  rw [ByteArray.size_append, ByteArray.size_append]
  split
  · show 4 + _ + 1 ≤ _; omega
  · show 3 + _ + 1 ≤ _; omega
def marksX (ms : List Mk) : ByteArray := ms.foldl (fun a m => a ++ markX m) ⟨#[]⟩
theorem marksX_snoc (ms : List Mk) (m : Mk) : marksX (ms ++ [m]) = marksX ms ++ markX m := by simp [marksX, List.foldl_append]
theorem marksX_take {ms : List Mk} {j : Nat} {m : Mk} (hj : ms[j]? = some m) : marksX (ms.take (j + 1)) = marksX (ms.take j) ++ markX m := by
  rw [List.take_add_one, hj]; exact marksX_snoc _ _
theorem marksX_size {ms : List Mk} : ∀ (j : Nat), (marksX (ms.take j)).size ≤ 6 * j + sumBy szMk (ms.take j)
  | 0 => by simp [marksX, sumBy, ByteArray.size]
  | j + 1 => by
    have ih := marksX_size (ms := ms) j
    cases h : ms[j]? with
    | none =>
      have hl : ms.length ≤ j := List.getElem?_eq_none_iff.1 h
      rw [List.take_of_length_le hl] at ih
      rw [List.take_of_length_le (by omega)]; omega
    | some m =>
      rw [marksX_take h, sumBy_take h, ByteArray.size_append]
      have := markX_size m; omega
noncomputable def showM (ms : List Mk) : ByteArray := if trailOk ms = true then marksX ms else ⟨#[]⟩

section
variable {w0 : World} {σ : Vw}

theorem strings_Join {v : Value} {p : ByteArray} {r : List ByteArray} (h : RSl 1 RS (Av.get w0 σ) v (p :: r)) (hb : (p :: r).length + sumS (p :: r) ≤ 1000000000) {R : Value → Vw → Prop} (hR : R (.string (ofL (Lib.join ((p :: r).map bl) [47]))) σ) : AC Try.prog w0 n_strings_Join [v, .string ⟨#[47]⟩] σ R := by
  refine AC.of_calls is_strings_Join fun w hw => ?_
  obtain ⟨A, cap, rfl, hc, h3⟩ := h
  have cell : ∀ (j : Nat) (x : ByteArray), (p :: r)[j]? = some x → ∃ a, A = some a ∧ w.cell? (a.add j) = some (.string x) := fun j x hj => by
    obtain ⟨a, es, e1, e2, e3, e4⟩ := h3 j x hj
    obtain ⟨rfl, _⟩ := e4
    refine ⟨a, e1, ?_⟩
    have := e3 0 (by omega)
    rw [show j * 1 + 0 = j by omega] at this
    exact hw.get this
  obtain ⟨⟨bk, o, sp⟩, rfl, h0⟩ := cell 0 p rfl
  have hsp : sp = none := by
    cases sp with
    | none => rfl
    | some q =>
      simp only [Addr.add, if_true, World.cell?] at h0
      split at h0 <;> simp at h0
  subst hsp
  have hcells : ∀ (j : Nat) (x : ByteArray), (p :: r)[j]? = some x → w.cell? ⟨bk, o + j, none⟩ = some (.string x) := fun j x hj => by
    obtain ⟨a, e1, e2⟩ := cell j x hj
    cases e1
    rwa [addr_add] at e2
  have hbk : bk < w.heap.size := by
    rcases Nat.lt_or_ge bk w.heap.size with h' | h'
    · exact h'
    · simp [Addr.add, World.cell?, Array.getElem?_eq_none h'] at h0
  have hj : (Lib.join ((p :: r).map bl) [47]).length ≤ 140737488355328 := by
    have e := congrArg ByteArray.size (shN_join p r)
    rw [shN_size, ByteArray.size_append, size_ofL] at e
    omega
  refine (Try.strings_Join bk o cap (p :: r) ⟨#[47]⟩ w hcells hbk (by omega) hc.1 hj).mono ?_
  rintro e w' ⟨rfl, k⟩
  exact ⟨_, rfl, hR, k⟩

theorem spec_l3Name {v : Value} {ps : List ByteArray} (h : RSl 1 RS (Av.get w0 σ) v ps) (hb : ps.length + sumS ps ≤ 1000000000) {R : Value → Vw → Prop} (hR : R (.string (pathT ps)) σ) : AC Try.prog w0 n_spec_l3Name [v] σ R := by
  refine ac_spec_l3Name ?_
  unfold vc_spec_l3Name
  have hl := h.le
  refine loop_rule (m := ps.length) (fun m l s => ∃ j : Nat, s = σ ∧ m + j = ps.length ∧ l = [v, .string (shN (ps.take j)), .int .i64 (j : Nat)]) ?_ ⟨0, rfl, by omega, rfl⟩
  rintro m l s L ⟨j, rfl, hm, rfl⟩ hL
  simp only [vget, List.getD_cons_zero, List.getD_cons_succ]
  have hsz := shN_size (ps.take j)
  have hle := sumS_le (xs := ps) j
  have hlt := List.length_take_le j ps
  rw [h.len, pBin_lt, pIf_d]
  refine ⟨fun hi => ?_, fun hi => ?_⟩
  · have hx := List.getElem?_eq_getElem (show j < ps.length by omega)
    generalize hxi : ps[j]'(by omega) = y at hx
    have hs1 := sumS_take hx
    have hs2 := sumS_le (xs := ps) (j + 1)
    rw [List.length_take] at hsz
    rw [pBin_cat (by show _ + 1 ≤ _; omega)]
    refine RSl.at1 h hx fun g hg hs => ?_
    rw [hg, pBin_cat (by rw [ByteArray.size_append]; show _ + 1 + _ ≤ _; omega), pBin_add (by omega)]
    refine hL _ _ (m - 1) (by omega) ⟨j + 1, rfl, by omega, ?_⟩
    rw [List.take_add_one, hx, Option.toList_some, shN_snoc]; simp
  · have e : j = ps.length := by omega
    subst e
    rw [List.take_length]
    show pBin Try.prog 9 .eql (.string (shN ps)) (.string ⟨#[]⟩) _
    rw [pBin_seq, pIf_d]
    have he : shN ps = ⟨#[]⟩ ↔ ps = [] := by
      constructor
      · intro he
        have := shN_size ps
        rw [he] at this
        have h0 : (⟨#[]⟩ : ByteArray).size = 0 := rfl
        exact List.eq_nil_of_length_eq_zero (by omega)
      · rintro rfl; rfl
    refine ⟨fun hh => ?_, fun hh => ?_⟩
    · rw [pathT, if_pos (he.1 hh)] at hR; exact hR
    · rw [pathT, if_neg (fun e => hh (he.2 e))] at hR; exact hR

theorem impl_pathText {v : Value} {ps : List ByteArray} (h : RSl 1 RS (Av.get w0 σ) v ps) (hb : ps.length + sumS ps ≤ 1000000000) {R : Value → Vw → Prop} (hR : R (.string (pathT ps)) σ) : AC Try.prog w0 n_impl_pathText [v] σ R := by
  refine ac_impl_pathText ?_
  unfold vc_impl_pathText
  rw [h.len, pBin_eq, pIf_d]
  refine ⟨fun hi => ?_, fun hi => ?_⟩
  · have e : ps = [] := List.eq_nil_of_length_eq_zero (by omega)
    rw [pathT, if_pos e] at hR; exact hR
  · cases ps with
    | nil => exact absurd rfl hi
    | cons p r =>
      refine strings_Join h hb ?_
      have e := shN_join p r
      have e2 := congrArg ByteArray.size e
      rw [shN_size, ByteArray.size_append] at e2
      rw [pBin_cat (by omega), ← e]
      rw [pathT, if_neg (by simp)] at hR; exact hR

theorem spec_l11Text {es : List Value} {m : Mk} (h : RMk (Av.get w0 σ) es m) (hb : szMk m ≤ 1000000000) {R : Value → Vw → Prop} (hR : R (.string (markX m)) σ) : AC Try.prog w0 n_spec_l11Text [.agg ⟨es⟩] σ R := by
  obtain ⟨v, rfl, h2⟩ := h
  have hp := pathT_size m.1
  have hb' : m.1.length + sumS m.1 ≤ 1000000000 := hb
  refine ac_spec_l11Text ?_
  unfold vc_spec_l11Text
  rw [pVal_2 h2.one rfl]
  simp only [cellOf_agg, List.getD_cons_zero, List.getD_cons_succ]
  rw [pIf_b]
  refine ⟨fun hm => ?_, fun hm => ?_⟩
  · refine spec_l3Name h2 hb' ?_
    rw [pBin_cat (by show 4 + _ ≤ _; omega), pBin_cat (by rw [ByteArray.size_append]; show 4 + _ + 1 ≤ _; omega)]
    rw [markX, if_pos hm] at hR; exact hR
  · refine spec_l3Name h2 hb' ?_
    rw [pBin_cat (by show 3 + _ ≤ _; omega), pBin_cat (by rw [ByteArray.size_append]; show 3 + _ + 1 ≤ _; omega)]
    rw [markX, if_neg (by rw [hm]; simp)] at hR; exact hR

theorem spec_TrailShow {v : Value} {ms : List Mk} (h : RSl 2 RMk (Av.get w0 σ) v ms) (hb : ms.length + sumBy szMk ms ≤ 100000000) {R : Value → Vw → Prop} (hR : R (.string (showM ms)) σ) : AC Try.prog w0 n_spec_TrailShow [v] σ R := by
  refine ac_spec_TrailShow ?_
  unfold vc_spec_TrailShow
  refine spec_TrailOk h ?_
  rw [pUn_not, pIf_b]
  refine ⟨fun hn => ?_, fun hn => ?_⟩
  · rw [showM, if_neg (by simp at hn; rw [hn]; simp)] at hR; exact hR
  rw [showM, if_pos (by simpa using hn)] at hR
  refine loop_rule (m := ms.length) (fun m l s => ∃ j : Nat, s = σ ∧ m + j = ms.length ∧ l = [v, .string (marksX (ms.take j)), .int .i64 (j : Nat)]) ?_ ⟨0, rfl, by omega, rfl⟩
  rintro m l s L ⟨j, rfl, hm, rfl⟩ hL
  simp only [vget, List.getD_cons_zero, List.getD_cons_succ]
  have hsz := marksX_size (ms := ms) j
  have hle := sumBy_le (f := szMk) (xs := ms) j
  rw [h.len, pBin_lt, pIf_d]
  refine ⟨fun hi => ?_, fun hi => ?_⟩
  · have hx := List.getElem?_eq_getElem (show j < ms.length by omega)
    generalize hxi : ms[j]'(by omega) = y at hx
    have hy := sumBy_mem (f := szMk) (List.mem_of_getElem? hx)
    have hyx := markX_size y
    refine h.at hx fun g hg => ?_
    refine spec_l11Text (es := expl g 0 2) hg (by omega) ?_
    rw [pBin_cat (by omega), pBin_add (by omega)]
    refine hL _ _ (m - 1) (by omega) ⟨j + 1, rfl, by omega, ?_⟩
    rw [marksX_take hx]; simp
  · have e : j = ms.length := by omega
    subst e
    rw [List.take_length]
    exact hR

theorem impl_TrailShow {v : Value} {ms : List Mk} (h : RSl 2 RMk (Av.get w0 σ) v ms) (hb : ms.length + sumBy szMk ms ≤ 100000000) {R : Value → Vw → Prop} (hR : R (.string (showM ms)) σ) : AC Try.prog w0 n_impl_TrailShow [v] σ R := by
  refine ac_impl_TrailShow ?_
  unfold vc_impl_TrailShow
  refine impl_TrailOk h ?_
  rw [pUn_not, pIf_b]
  refine ⟨fun hn => ?_, fun hn => ?_⟩
  · rw [showM, if_neg (by simp at hn; rw [hn]; simp)] at hR; exact hR
  rw [showM, if_pos (by simpa using hn)] at hR
  rw [h.len]
  refine loop_rule (m := ms.length) (fun m l s => ∃ j : Nat, s = σ ∧ m + j = ms.length ∧ l = [.string (marksX (ms.take j)), v, .int .i64 (ms.length : Nat), .int .i64 (j : Nat)]) ?_ ⟨0, rfl, by omega, rfl⟩
  rintro m l s L ⟨j, rfl, hm, rfl⟩ hL
  simp only [vget, List.getD_cons_zero, List.getD_cons_succ]
  have hsz := marksX_size (ms := ms) j
  have hle := sumBy_le (f := szMk) (xs := ms) j
  rw [pBin_lt, pIf_d]
  refine ⟨fun hi => ?_, fun hi => ?_⟩
  · have hx := List.getElem?_eq_getElem (show j < ms.length by omega)
    generalize hxi : ms[j]'(by omega) = y at hx
    have hy := sumBy_mem (f := szMk) (List.mem_of_getElem? hx)
    have hyx := markX_size y
    have hps := pathT_size y.1
    refine h.at hx fun g hg => ?_
    obtain ⟨u, hg, h2⟩ := hg
    simp only [expl, List.cons.injEq, and_true] at hg
    obtain ⟨g0, g1⟩ := hg
    rw [g0, g1, pVal_2 h2.one rfl, pIf_b]
    have hyb : y.1.length + sumS y.1 = szMk y := rfl
    refine ⟨fun hm => ?_, fun hm => ?_⟩
    · refine impl_pathText h2 (by omega) ?_
      have e : markX y = ⟨#[115, 117, 98, 32]⟩ ++ pathT y.1 ++ ⟨#[10]⟩ := by rw [markX, if_pos hm]
      rw [pBin_cat (by show 4 + _ ≤ _; omega), pBin_cat (by rw [ByteArray.size_append]; show 4 + _ + 1 ≤ _; omega), ← e, pBin_cat (by omega), pBin_add (by omega)]
      refine hL _ _ (m - 1) (by omega) ⟨j + 1, rfl, by omega, ?_⟩
      rw [marksX_take hx]; simp
    · refine impl_pathText h2 (by omega) ?_
      have e : markX y = ⟨#[97, 116, 32]⟩ ++ pathT y.1 ++ ⟨#[10]⟩ := by rw [markX, if_neg (by rw [hm]; simp)]
      rw [pBin_cat (by show 3 + _ ≤ _; omega), pBin_cat (by rw [ByteArray.size_append]; show 3 + _ + 1 ≤ _; omega), ← e, pBin_cat (by omega), pBin_add (by omega)]
      refine hL _ _ (m - 1) (by omega) ⟨j + 1, rfl, by omega, ?_⟩
      rw [marksX_take hx]; simp
  · have e : j = ms.length := by omega
    subst e
    rw [List.take_length]
    exact hR

theorem law_TrailShow {v : Value} {ms : List Mk} (h : RSl 2 RMk (Av.get w0 σ) v ms) {R : Value → Vw → Prop} (hR : ∀ σ', R (.bool true) σ') : AC Try.prog w0 n_laws_FnExactTrailShow [v] σ R := by
  refine ac_laws_FnExactTrailShow ?_
  unfold vc_laws_FnExactTrailShow
  refine szMarkS h (by omega) ?_
  rw [pBin_lt, pIf_d]
  refine ⟨fun _ => hR _, fun hb => ?_⟩
  rw [Av.left_neg] at hb
  have hlen : ms.length ≤ 1000000000000 := by omega
  have heach : ∀ x, x ∈ ms → x.1.length ≤ 1000000000000 := fun x hx => by
    have := sumBy_mem (f := szMk) hx
    unfold szMk at this hb
    omega
  refine toMarkS h hlen heach fun v1 F1 s1 k1 o1 f1 => ?_
  refine spec_TrailShow (OSl.rel (ok_mk w0) o1) (by omega) ?_
  refine toMarkS (h.mono k1.le fun _ _ => mono_mk k1.le) hlen heach fun v2 F2 s2 k2 o2 f2 => ?_
  refine impl_TrailShow (OSl.rel (ok_mk w0) o2) (by omega) ?_
  rw [pBin_sne, pIf_d]
  refine ⟨fun h => absurd rfl h, fun _ => ?_⟩
  have k12 := k1.trans k2
  refine toMarkS (h.mono k12.le fun _ _ => mono_mk k12.le) hlen heach fun v3 F3 s3 k3 o3 f3 => ?_
  refine eqMarkS ((OSl.rel (ok_mk w0) o2).mono k3.le fun _ _ => mono_mk k3.le) (OSl.rel (ok_mk w0) o3) ?_
  rw [pUn_not, pIf_b]
  exact ⟨fun h => by simp at h, fun _ => hR _⟩
end
theorem open_mk {H : Type} {enc : TypeId × Value → H} {W : World} {spare : Nat → Bool} (fuel : Nat) (es : List Value) (y : DataW H × List MemPlace) (h : DataW.trod enc Try.prog W 0 spare true fuel t_laws_Mark es = some y) (hl : es.length = 2) : ∃ x, RMk (Av.get W σ0) es x := by
  have hT : Try.prog.underlying t_laws_Mark = some (.struct (fsOf Try.prog t_laws_Mark)) := by kernel_rfl
  obtain ⟨f0, y0, l0, h0⟩ := open_field' hT 0 t_s_string 0 1 (by kernel_rfl) (by kernel_rfl) h
  obtain ⟨f1, y1, l1, h1⟩ := open_field' hT 1 t_bool 1 1 (by kernel_rfl) (by kernel_rfl) h
  obtain ⟨u, ns, hu, hus⟩ := open_rsl (t := t_s_string) (e := t_string) (by kernel_rfl) (by kernel_rfl) (open_rs (by kernel_rfl)) h0
  obtain ⟨b, hb⟩ := open_bool (by kernel_rfl) h1
  match es, hl with
  | [x, z], _ =>
    simp at hu hb
    exact ⟨(ns, b), u, by rw [hu, hb], hus⟩
end Go.Proofs.Ytkblkdnnncklgaa

/- The law FnExactTrailShow holds: it returns true, and the input reads as it did. No condition. -/
namespace Go.Proofs.Ytkblkdnnncklgaa.fnExactTrailShow
open Go.ChangeShapes Go.WideShapes Go.ChangeAt Go.RowKit Go.Av
set_option linter.unusedVariables false
set_option linter.unusedSimpArgs false
theorem own : ownKnob Try.prog.godebug = none := by kernel_rfl
theorem laidOut : laidOutB Try.prog = true := by kernel_rfl
set_option maxRecDepth 100000 in
theorem lifted (os : Os) (started : os.Started) (H : Type) (enc : TypeId × Value → H) :
    ReturnsInHanded {} Try.checked os 3 .any (Rows.fnExactTrailShowSpec.pre6 enc Try.prog Try.f3 Rows.fnExactTrailShowRow.domain false) (Rows.fnExactTrailShowSpec.post enc Try.prog Try.f3 false true false false) := by
  refine returnsInHanded_of_change_sized (C := Try.checked) own started (by kernel_rfl) Try.func3
    (ChangeSpec.witness6 (enc := enc) (C := Try.checked) false ⟨#[], #[.slice none 0 0], []⟩ 8 (by kernel_rfl) (by kernel_rfl) (by kernel_rfl) (by kernel_rfl)) ?_
  intro W base args ds gs before hval0 hW hcnd hsz0 _
  have hval : ∀ (j : Nat) t v, Try.f3.params[j]? = some t → args[j]? = some v → Value.okWide Try.prog W .any base t v := hval0
  have hW' := hW
  obtain ⟨p, q, hA0, hV, rfl, hfz, hnd⟩ := hW
  have hA : DataW.TrodAll enc Try.prog W 0 (fun _ => true) true Try.f3.params.toList args.toList ds p := hA0
  rw [Try.params3] at hA hval
  obtain ⟨v0, d0, rfl, rfl, h0⟩ := trodAll_one hA
  obtain ⟨rfl, rfl⟩ := trodVars_none hV
  obtain ⟨A0, len0, cap0, rfl⟩ := okWide_slice (t := 22) (e := 57) (by kernel_rfl) (hval 0 22 v0 rfl rfl)
  have h0k := h0
  obtain ⟨fuel0, hf0⟩ := h0
  clear hA0 hval0 hsz0
  simp only [List.append_nil] at hW'
  have hlt : ∀ x ∈ p, x.block < W.heap.size := fun x hx => by simpa using hW'.lt x hx
  have hargs0 : ∀ (W' : World), Below W.heap.size W W' → DataW.Trod enc Try.prog W' 0 (fun b => decide (b < W.heap.size)) true 22 (.slice A0 len0 cap0) d0 p :=
    fun W' hn => Below.trod laidOut (by kernel_rfl) (of_decide_eq_true (by kernel_rfl)) h0k hn hlt
  obtain ⟨u0, x0, hu0, r0⟩ := open_rsl (t := t_s_laws_Mark) (e := t_laws_Mark) (by kernel_rfl) (by kernel_rfl) open_mk hf0
  have hu0' : u0 = .slice A0 len0 cap0 := by
    have : [Value.slice A0 len0 cap0] = [u0] := hu0
    cases this; rfl
  subst hu0'
  refine ((law_TrailShow (R := fun v _ => v = .bool true) r0 (by intros; rfl)).calls).mono fun e W' ⟨v, σ', he, hv, bel⟩ => ?_
  subst he hv
  exact ⟨_, rfl, _, _, _, [], _, [], hW', trodAll_mk1 (shut_bool Try.underlying4 _), trodAll_mk1 (hargs0 W' bel), rfl, bel.frame _, fun h => by cases h⟩
theorem over : Rows.fnExactTrailShowRow.holds Try.pinned (OpenSpec.ofChange Rows.fnExactTrailShowSpec) :=
  OpenClaim.holds_of_wide 3 Try.f3 rfl rfl rfl rfl rfl rfl rfl ⟨rfl, rfl, rfl, rfl, rfl⟩ rfl rfl rfl rfl rfl (by kernel_rfl) Try.func3 (by kernel_rfl)
    (of_decide_eq_true (by kernel_rfl)) (by unfold Func.isWrapper; first | (rw [if_pos (by decide +kernel)]; kernel_rfl) | (rw [if_neg (by decide +kernel)]; exact ⟨rfl, rfl⟩))
    (fun os started H enc _ => lifted os started H enc)
theorem proved : Rows.FnExactTrailShowSaid := over
end Go.Proofs.Ytkblkdnnncklgaa.fnExactTrailShow
namespace Go.Proofs.Ytkblkdnnncklgaa
/-- The row, under a short name, for the claim. -/
theorem fnExactTrailShow_holds : Rows.FnExactTrailShowSaid := fnExactTrailShow.proved
end Go.Proofs.Ytkblkdnnncklgaa
