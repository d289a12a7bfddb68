/- The law FnExactTrailAdd holds: it returns true, and the input reads as it did. No condition. This is part 2 of 3 of its proof. -/
import Derived.Test.YtlbpnfhhoalenaaXFnExactTrailAdd1
import Derived.Test.YtlbpnfhhoalenaaProg

/- The plain side, part 2: rows of our own. -/
set_option linter.unusedVariables false
set_option linter.unusedSimpArgs false
namespace Go.Av
open Go Go.RowKit

/-- Every row stays as it is; there may be new ones. -/
def Keeps (σ σ' : Vw) : Prop := ∀ b r, σ b = some r → σ' b = some r
theorem Keeps.refl (σ : Vw) : Keeps σ σ := fun _ _ h => h
theorem Keeps.trans {σ σ' σ'' : Vw} (h : Keeps σ σ') (h' : Keeps σ' σ'') : Keeps σ σ'' := fun b r hb => h' b r (h b r hb)
theorem Keeps.ext {σ σ' : Vw} (h : Keeps σ σ') : Ext σ σ' := fun b r hb => ⟨r, h b r hb, List.prefix_refl _⟩
theorem Keeps.le {w0 : World} {σ σ' : Vw} (h : Keeps σ σ') : Le (Av.get w0 σ) (Av.get w0 σ') := h.ext.le
theorem Keeps.stay {w0 : World} {σ σ' : Vw} {v : Value} {n : Nat} (h : Keeps σ σ') : Stay w0 σ σ' v n := fun a g _ hc j hj => h.le _ _ (hc j hj)
theorem Keeps.put {σ : Vw} {b : Nat} {r : Row} (h : σ b = none) : Keeps σ (σ.put b r) := fun i x hi => by
  have : i ≠ b := fun e => by rw [e, h] at hi; cases hi
  simp [Vw.put, this, hi]
/-- A new row is made, then others, then the first is written. -/
theorem Keeps.fill {σ σ' : Vw} {b : Nat} {r : Row} (h : Keeps σ σ') (hb : σ b = none) : Keeps σ (σ'.put b r) := fun i x hi => by
  have : i ≠ b := fun e => by rw [e, hb] at hi; cases hi
  simp [Vw.put, this, h i x hi]
theorem put_at {σ : Vw} {b : Nat} {r : Row} : σ.put b r b = some r := by simp [Vw.put]
theorem put_put {σ : Vw} {b : Nat} {r r' : Row} : (σ.put b r).put b r' = σ.put b r' := by
  funext i; simp only [Vw.put]; split <;> rfl

theorem get_row {w0 : World} {σ : Vw} {b off : Nat} {r : Row} (hb : w0.heap.size ≤ b) (h : σ b = some r) : Av.get w0 σ ⟨b, off, none⟩ = r.cells[off]? := by
  unfold Av.get
  simp only
  rw [if_neg (by omega), if_pos trivial, h]; rfl

theorem addr_add (b off i : Nat) : (Addr.mk b off none).add i = ⟨b, off + i, none⟩ := by
  unfold Addr.add
  split
  · rename_i h; subst h; rfl
  · rfl

theorem setAt_mid : ∀ (A old new C : List Value), old.length = new.length → setAt (A ++ (old ++ C)) A.length new = A ++ (new ++ C)
  | A, [], [], C, _ => by simp [setAt]
  | A, [], _ :: _, C, h => by simp at h
  | A, _ :: _, [], C, h => by simp at h
  | A, o :: old, n :: new, C, h => by
    simp only [setAt]
    have e : (A ++ (o :: old ++ C)).set A.length n = (A ++ [n]) ++ (old ++ C) := by simp
    rw [e]
    have := setAt_mid (A ++ [n]) old new C (by simpa using h)
    simp only [List.length_append, List.length_singleton] at this
    rw [this]
    simp

section
variable {w0 : World} {σ : Vw}

theorem flat_len {n : Nat} : ∀ (xs : List (List Value)), (∀ c, c ∈ xs → c.length = n) → xs.flatten.length = xs.length * n
  | [], _ => by simp
  | c :: r, h => by
    have := flat_len r (fun d hd => h d (List.mem_cons_of_mem _ hd))
    simp only [List.flatten_cons, List.length_append, List.length_cons, this, h c List.mem_cons_self]
    rw [Nat.add_mul, Nat.one_mul, Nat.add_comm]

theorem flat_get {n : Nat} : ∀ (xs : List (List Value)), (∀ c, c ∈ xs → c.length = n) → ∀ (j : Nat) (c : List Value), xs[j]? = some c → ∀ i, i < n → xs.flatten[j * n + i]? = c[i]?
  | [], _, j, c, hj, i, hi => by simp at hj
  | d :: r, h, 0, c, hj, i, hi => by
    simp at hj; subst hj
    have := h d List.mem_cons_self
    rw [List.flatten_cons, Nat.zero_mul, Nat.zero_add, List.getElem?_append_left (by omega)]
  | d :: r, h, j + 1, c, hj, i, hi => by
    have hd := h d List.mem_cons_self
    rw [List.flatten_cons, Nat.add_mul, Nat.one_mul, List.getElem?_append_right (by omega)]
    have := flat_get r (fun d hd => h d (List.mem_cons_of_mem _ hd)) j c (by simpa using hj) i hi
    rw [← this]
    congr 1
    omega

/-- What lies in a row of our own can be read. -/
theorem RSl.own {α : Type} {n : Nat} {R : (Addr → Option Value) → List Value → α → Prop} {b cap : Nat} {r : Row} {xs : List α} {cs : List (List Value)} {tail : List Value} (hb : w0.heap.size ≤ b) (hr : σ b = some r) (hc : r.cells = cs.flatten ++ tail) (hn : ∀ c, c ∈ cs → c.length = n)
    (hl : cs.length = xs.length) (hm : xs.length ≤ cap ∧ cap ≤ 9223372036854775807) (hR : ∀ (j : Nat) (c : List Value) (x : α), cs[j]? = some c → xs[j]? = some x → R (Av.get w0 σ) c x) : RSl n R (Av.get w0 σ) (.slice (some ⟨b, 0, none⟩) xs.length cap) xs := by
  refine ⟨_, cap, rfl, hm, fun j x hj => ?_⟩
  have hlt : j < cs.length := by have := (List.getElem?_eq_some_iff.1 hj).1; omega
  have hcj := List.getElem?_eq_getElem hlt
  refine ⟨_, cs[j], rfl, hn _ (List.getElem_mem hlt), fun i hi => ?_, hR j _ x hcj hj⟩
  rw [addr_add, get_row hb hr, Nat.zero_add, hc, ← flat_get cs hn j _ hcj i hi, List.getElem?_append_left]
  rw [flat_len cs hn]
  calc j * n + i < j * n + n := by omega
    _ = (j + 1) * n := by rw [Nat.add_mul, Nat.one_mul]
    _ ≤ cs.length * n := Nat.mul_le_mul_right n hlt

/-- An element of a row of our own is written. -/
theorem own_store {b cap len : Nat} {j n : Nat} {r : Row} {A old new C : List Value} (hr : σ b = some r) (hc : r.cells = A ++ (old ++ C)) (hA : A.length = j * n) (ho : old.length = new.length) (hn : new.length = n) (hj : j < len) {K : Vw → Prop}
    (hK : K (σ.put b { r with cells := A ++ (new ++ C) })) : pIndexAddr n (.slice (some ⟨b, 0, none⟩) len cap) (.int .i64 j) fun p => pStore p new σ K := by
  refine ⟨_, len, cap, .i64, j, rfl, rfl, by omega, by omega, b, j * n, r, by rw [addr_add]; simp, hr, ?_, ?_⟩
  · rw [hc]; simp only [List.length_append]; omega
  · rw [hc, ← hA, setAt_mid _ _ _ _ ho]; exact hK

theorem RSl.one {α : Type} {n : Nat} {R : (Addr → Option Value) → List Value → α → Prop} {rd : Addr → Option Value} {v : Value} {xs : List α} (h : RSl n R rd v xs) : v.oneCell' = true := by
  obtain ⟨A, cap, rfl, _⟩ := h
  rfl
theorem RSl.le {α : Type} {n : Nat} {R : (Addr → Option Value) → List Value → α → Prop} {rd : Addr → Option Value} {v : Value} {xs : List α} (h : RSl n R rd v xs) : xs.length ≤ 9223372036854775807 := by
  obtain ⟨_, _, _, h2, _⟩ := h; exact Nat.le_trans h2.1 h2.2
theorem pVal_2 {v v' : Value} {A : Prop} (h : v.oneCell' = true) (h' : v'.oneCell' = true) : pVal true 2 (.agg ⟨[v, v']⟩) A ↔ A := pValN rfl (by simp [h, h'])
theorem pMake_s {ety n bytes m : Nat} {z : List Value} {K : Value → Vw → Prop} (hm : bytes * m ≤ 140737488355328) (hm2 : m ≤ 9223372036854775807) (hK : ∀ b e, w0.heap.size ≤ b → σ b = none → K (.slice (some ⟨b, 0, none⟩) m m) (σ.put b ⟨e, (List.replicate m z).flatten, m * n, (0, 0)⟩)) :
    pMake w0 ety n bytes z (.int .i64 m) (.int .i64 m) σ K := by
  refine ⟨.i64, m, rfl, rfl, by omega, by omega, ?_, fun b h1 h2 => ?_⟩
  · have : ((bytes * m : Nat) : Int) ≤ 2 ^ 47 := by
      rw [show (2 : Int) ^ 47 = 140737488355328 by decide]; omega
    simpa using this
  · have := hK b ety h1 h2
    simpa using this
end
end Go.Av

/- The lists of structs, whatever their element: their size, their comparison. -/
set_option linter.unusedVariables false
set_option linter.unusedSimpArgs false
namespace Go.Av
open Go Go.RowKit

/-- What is left of n. -/
def left (n : Int) (t : Nat) : Int := if n - t < 0 then -1 else n - t
theorem left_neg {n : Int} {t : Nat} : left n t < 0 ↔ n < t := by unfold left; split <;> omega
theorem left_low {n : Int} {t : Nat} (h : n < t) : left n t = -1 := by unfold left; rw [if_pos (by omega)]
theorem left_in {n : Int} {t : Nat} (h : (t : Int) ≤ n) : left n t = n - t := by unfold left; rw [if_neg (by omega)]

def sumBy {α : Type} (f : α → Nat) : List α → Nat
  | [] => 0
  | s :: r => f s + sumBy f r
theorem sumBy_take {α : Type} {f : α → Nat} {xs : List α} : ∀ {j : Nat} {x : α}, xs[j]? = some x → sumBy f (xs.take (j + 1)) = sumBy f (xs.take j) + f x := by
  induction xs with
  | nil => intro j x h; simp at h
  | cons a r ih =>
    intro j x h
    cases j with
    | zero => simp at h; subst h; simp [sumBy]
    | succ j =>
      simp at h
      have := ih h
      simp only [List.take_succ_cons, sumBy, this]
      omega
theorem sumBy_le {α : Type} {f : α → Nat} {xs : List α} : ∀ (j : Nat), sumBy f (xs.take j) ≤ sumBy f xs := by
  induction xs with
  | nil => intro j; simp [sumBy]
  | cons a r ih =>
    intro j
    cases j with
    | zero => simp [sumBy]
    | succ j => have := ih j; simp only [List.take_succ_cons, sumBy]; omega

section
variable {P : Program} {w0 : World} {σ : Vw} {α : Type}

def VszS (P : Program) (w0 : World) (T n f : Nat) (a0 a1 : Value) (σ : Vw) (R : Value → Vw → Prop) : Prop :=
  pLen a0 (fun v0 => pBin P T .sub a1 v0 (fun v1 => pBin P T .lss v1 (.int .i64 0) (fun v2 => pIf v2 (R (.int .i64 (-1)) σ) (pLoop (fun l3 K4 s5 => pLen (vget l3 0) (fun v6 => pBin P T .lss (vget l3 3) v6 (fun v7 => pIf v7
    (pIndexAddr n (vget l3 0) (vget l3 3) (fun v8 => pLoad w0 n v8 s5 (fun g9 => AC P w0 f [.agg ⟨expl g9 0 n⟩, vget l3 1] s5 (fun v10 s11 => pBin P T .lss v10 (.int .i64 0) (fun v12 => pIf v12 (K4 .ret [vget l3 0, v10, .int .i64 (-1), vget l3 3] s11)
      (pBin P T .add (vget l3 3) (.int .i64 1) (fun v13 => K4 .normal [vget l3 0, v10, vget l3 2, v13] s11))))))) (K4 (.exit 0) [vget l3 0, vget l3 1, vget l3 2, vget l3 3] s5)))) [a0, v1, .int .i64 0, .int .i64 0] σ
    (fun x14 l15 s16 => match x14 with | .normal => R (vget l15 1) s16 | .ret => R (vget l15 2) s16 | .exit i17 => (match Nat.beq i17 0 with | true => R (vget l15 1) s16 | false => False))))))

theorem szS_gen {T n f : Nat} {Rel : (Addr → Option Value) → List Value → α → Prop} {sz : α → Nat} {v : Value} {xs : List α} {m : Int}
    (hf : ∀ x, x ∈ xs → ∀ (es : List Value) (m : Int) (R' : Value → Vw → Prop), Rel (Av.get w0 σ) es x → 0 ≤ m ∧ m ≤ 9223372036854775807 → R' (.int .i64 (left m (sz x))) σ → AC P w0 f [.agg ⟨es⟩, .int .i64 m] σ R')
    (h : RSl n Rel (Av.get w0 σ) v xs) (hn : 0 ≤ m ∧ m ≤ 9223372036854775807) {R : Value → Vw → Prop} (hR : R (.int .i64 (left m (xs.length + sumBy sz xs))) σ) : VszS P w0 T n f v (.int .i64 m) σ R := by
  unfold VszS
  have hl := h.le
  rw [h.len, pBin_sub (by omega), pBin_lt, pIf_d]
  refine ⟨fun hlt => ?_, fun hge => ?_⟩
  · rw [left_low (by omega)] at hR; exact hR
  · refine loop_rule (m := xs.length) (fun k l s => ∃ j, s = σ ∧ k + j = xs.length ∧ 0 ≤ m - xs.length - sumBy sz (xs.take j) ∧ l = [v, .int .i64 (m - xs.length - sumBy sz (xs.take j)), .int .i64 0, .int .i64 (j : Nat)]) ?_ ⟨0, rfl, by omega, by simp [sumBy]; omega, by simp [sumBy]⟩
    rintro k l s L ⟨j, rfl, hm, h0, rfl⟩ hL
    simp only [vget, List.getD_cons_zero, List.getD_cons_succ]
    rw [h.len, pBin_lt, pIf_d]
    refine ⟨fun hj => ?_, fun hj => ?_⟩
    · have hj' : j < xs.length := by omega
      have hx := List.getElem?_eq_getElem hj'
      refine h.at hx fun g hg => ?_
      have ht := sumBy_take (f := sz) hx
      have hle := sumBy_le (f := sz) (xs := xs) (j + 1)
      refine hf _ (List.getElem_mem hj') _ _ _ hg (by omega) ?_
      rw [pBin_lt, pIf_d]
      refine ⟨fun hlt => ?_, fun hge => ?_⟩
      · rw [left_neg] at hlt
        rw [left_low (by omega)] at hR; exact hR
      · rw [left_neg] at hge
        rw [pBin_add (by omega), left_in (by omega)]
        refine hL _ _ (k - 1) (by omega) ⟨j + 1, rfl, by omega, by omega, ?_⟩
        rw [ht]
        congr 2
        · congr 1; omega
    · have hj' : j = xs.length := by omega
      subst hj'
      rw [List.take_length] at h0 ⊢
      rw [left_in (by omega)] at hR
      rw [show m - (xs.length : Int) - (sumBy sz xs : Int) = m - ((xs.length + sumBy sz xs : Nat) : Int) by omega]
      exact hR

def VeqS (P : Program) (w0 : World) (T n f : Nat) (a0 a1 : Value) (σ : Vw) (R : Value → Vw → Prop) : Prop :=
  pLen a0 (fun v0 => pLen a1 (fun v1 => pBin P T .neq v0 v1 (fun v2 => pIf v2 (R (.bool false) σ) (pLoop (fun l3 K4 s5 => pLen (vget l3 0) (fun v6 => pBin P T .lss (vget l3 3) v6 (fun v7 => pIf v7
    (pIndexAddr n (vget l3 0) (vget l3 3) (fun v8 => pLoad w0 n v8 s5 (fun g9 => pIndexAddr n (vget l3 1) (vget l3 3) (fun v10 => pLoad w0 n v10 s5 (fun g11 => AC P w0 f [.agg ⟨expl g9 0 n⟩, .agg ⟨expl g11 0 n⟩] s5 (fun v12 s13 => pUn .not v12 (fun v14 => pIf v14
      (K4 .ret [vget l3 0, vget l3 1, .bool false, vget l3 3] s13) (pBin P T .add (vget l3 3) (.int .i64 1) (fun v15 => K4 .normal [vget l3 0, vget l3 1, vget l3 2, v15] s13))))))))) (K4 (.exit 0) [vget l3 0, vget l3 1, vget l3 2, vget l3 3] s5)))) [a0, a1, .bool false, .int .i64 0] σ
    (fun x16 l17 s18 => match x16 with | .normal => R (.bool true) s18 | .ret => R (vget l17 2) s18 | .exit i19 => (match Nat.beq i19 0 with | true => R (.bool true) s18 | false => False))))))

theorem eqS_gen [DecidableEq α] {T n f : Nat} {Rel : (Addr → Option Value) → List Value → α → Prop} {v v' : Value} {xs ys : List α}
    (hf : ∀ x, x ∈ xs → ∀ (y : α) (es es' : List Value) (R' : Value → Vw → Prop), Rel (Av.get w0 σ) es x → Rel (Av.get w0 σ) es' y → R' (.bool (decide (x = y))) σ → AC P w0 f [.agg ⟨es⟩, .agg ⟨es'⟩] σ R')
    (h : RSl n Rel (Av.get w0 σ) v xs) (h' : RSl n Rel (Av.get w0 σ) v' ys) {R : Value → Vw → Prop} (hR : R (.bool (decide (xs = ys))) σ) : VeqS P w0 T n f v v' σ R := by
  unfold VeqS
  have hl := h.le
  rw [h.len, h'.len, pBin_ne, pIf_d]
  refine ⟨fun hne => ?_, fun heq => ?_⟩
  · have : xs ≠ ys := fun e => hne (by rw [e])
    simpa [this] using hR
  · have hlen : xs.length = ys.length := by omega
    refine loop_rule (m := xs.length) (fun m l s => ∃ j, s = σ ∧ m + j = xs.length ∧ xs.take j = ys.take j ∧ l = [v, v', .bool false, .int .i64 (j : Nat)]) ?_ ⟨0, rfl, by omega, by simp, rfl⟩
    rintro m l s L ⟨j, rfl, hm, ht, rfl⟩ hL
    simp only [vget, List.getD_cons_zero, List.getD_cons_succ]
    rw [h.len, pBin_lt, pIf_d]
    refine ⟨fun hj => ?_, fun hj => ?_⟩
    · have hj' : j < xs.length := by omega
      have hx := List.getElem?_eq_getElem hj'
      have hy := List.getElem?_eq_getElem (show j < ys.length by omega)
      refine h.at hx fun g hg => ?_
      refine h'.at hy fun g' hg' => ?_
      refine hf _ (List.getElem_mem hj') _ _ _ _ hg hg' ?_
      rw [pUn_not, pIf_b]
      by_cases e : xs[j] = ys[j]
      · refine ⟨fun h => by simp [e] at h, fun _ => ?_⟩
        rw [pBin_add (by omega)]
        refine hL _ _ (m - 1) (by omega) ⟨j + 1, rfl, by omega, ?_, rfl⟩
        rw [List.take_add_one, List.take_add_one, hx, hy, ht, e]
      · refine ⟨fun _ => ?_, fun h => by simp [e] at h⟩
        have : xs ≠ ys := fun e' => by subst e'; exact e rfl
        simpa [this] using hR
    · have hj' : j = xs.length := by omega
      subst hj'
      rw [List.take_length, hlen, List.take_length] at ht
      subst ht
      simpa using hR
end
end Go.Av

/- Lists that lie in rows of our own, each part in rows of its own; the copy of a list of structs. -/
set_option linter.unusedVariables false
set_option linter.unusedSimpArgs false
namespace Go.Av
open Go Go.RowKit

section
variable {P : Program} {w0 : World} {σ σ' : Vw} {α : Type}

/-- What a rule for parts in rows of our own must keep. -/
structure OOk (w0 : World) (n : Nat) (Rel : (Addr → Option Value) → List Value → α → Prop) (O : Vw → List Nat → List Value → α → Prop) : Prop where
  rel : ∀ σ F es x, O σ F es x → Rel (Av.get w0 σ) es x
  frame : ∀ σ σ' F es x, O σ F es x → (∀ b, b ∈ F → σ' b = σ b) → O σ' F es x
  dom : ∀ σ F es x, O σ F es x → ∀ b, b ∈ F → w0.heap.size ≤ b ∧ σ b ≠ none
  nodup : ∀ σ F es x, O σ F es x → F.Nodup
  len : ∀ σ F es x, O σ F es x → es.length = n
  one : ∀ σ F es x, O σ F es x → ∀ c, c ∈ es → c.oneCell' = true

/-- A list in a row of our own, the elements' own parts in other rows. -/
def OSl (w0 : World) (n : Nat) (O : Vw → List Nat → List Value → α → Prop) (σ : Vw) (F : List Nat) (v : Value) (xs : List α) : Prop :=
  xs.length ≤ 9223372036854775807 ∧ F.Nodup ∧ ((v = .slice none 0 0 ∧ xs = [] ∧ F = []) ∨
  ∃ (b off cap : Nat) (r : Row) (pre post : List Value) (css : List (List Value)) (Fs : List (List Nat)), v = .slice (some ⟨b, off, none⟩) xs.length cap ∧ (xs.length ≤ cap ∧ cap ≤ 9223372036854775807) ∧ w0.heap.size ≤ b ∧ σ b = some r ∧ r.cells = pre ++ (css.flatten ++ post) ∧ pre.length = off ∧
    css.length = xs.length ∧ Fs.length = xs.length ∧ F = b :: Fs.flatten ∧ ∀ (j : Nat) (c : List Value) (x : α) (f : List Nat), css[j]? = some c → xs[j]? = some x → Fs[j]? = some f → O σ f c x)

theorem mem_flat {l : List (List Nat)} {b : Nat} (h : b ∈ l.flatten) : ∃ (j : Nat) (f : List Nat), l[j]? = some f ∧ b ∈ f := by
  obtain ⟨f, h1, h2⟩ := List.mem_flatten.1 h
  obtain ⟨j, hj⟩ := List.getElem?_of_mem h1
  exact ⟨j, f, hj, h2⟩

theorem OSl.frame {n : Nat} {Rel : (Addr → Option Value) → List Value → α → Prop} {O : Vw → List Nat → List Value → α → Prop} (ok : OOk w0 n Rel O) {F : List Nat} {v : Value} {xs : List α} (h : OSl w0 n O σ F v xs) (hF : ∀ b, b ∈ F → σ' b = σ b) : OSl w0 n O σ' F v xs := by
  obtain ⟨h1, h2, h3 | ⟨b, off, cap, r, pre, post, css, Fs, g1, gc, g2, g3, g4, g5, g6, g7, g8, g9⟩⟩ := h
  · exact ⟨h1, h2, .inl h3⟩
  · refine ⟨h1, h2, .inr ⟨b, off, cap, r, pre, post, css, Fs, g1, gc, g2, ?_, g4, g5, g6, g7, g8, fun j c x f e1 e2 e3 => ?_⟩⟩
    · rw [hF b (by rw [g8]; exact List.mem_cons_self)]; exact g3
    · refine ok.frame _ _ _ _ _ (g9 j c x f e1 e2 e3) fun i hi => hF i ?_
      rw [g8]
      exact List.mem_cons_of_mem _ (List.mem_flatten.2 ⟨f, List.mem_of_getElem? e3, hi⟩)

theorem OSl.dom {n : Nat} {Rel : (Addr → Option Value) → List Value → α → Prop} {O : Vw → List Nat → List Value → α → Prop} (ok : OOk w0 n Rel O) {F : List Nat} {v : Value} {xs : List α} (h : OSl w0 n O σ F v xs) : ∀ b, b ∈ F → w0.heap.size ≤ b ∧ σ b ≠ none := by
  obtain ⟨h1, h2, ⟨_, _, h3⟩ | ⟨b, off, cap, r, pre, post, css, Fs, g1, gc, g2, g3, g4, g5, g6, g7, g8, g9⟩⟩ := h
  · rw [h3]; intro b hb; cases hb
  · rw [g8]
    intro i hi
    rcases List.mem_cons.1 hi with e | e
    · rw [e]; exact ⟨g2, by rw [g3]; simp⟩
    · obtain ⟨j, f, e1, e2⟩ := mem_flat e
      have hj : j < Fs.length := (List.getElem?_eq_some_iff.1 e1).1
      exact ok.dom _ _ _ _ (g9 j _ _ f (List.getElem?_eq_getElem (by omega)) (List.getElem?_eq_getElem (by omega)) e1) i e2

theorem OSl.rel {n : Nat} {Rel : (Addr → Option Value) → List Value → α → Prop} {O : Vw → List Nat → List Value → α → Prop} (ok : OOk w0 n Rel O) {F : List Nat} {v : Value} {xs : List α} (h : OSl w0 n O σ F v xs) : RSl n Rel (Av.get w0 σ) v xs := by
  obtain ⟨h1, h2, ⟨rfl, rfl, _⟩ | ⟨b, off, cap, r, pre, post, css, Fs, rfl, gc, g2, g3, g4, g5, g6, g7, g8, g9⟩⟩ := h
  · exact ⟨none, 0, rfl, by simp, fun j x hj => by simp at hj⟩
  · have each : ∀ (j : Nat) (c : List Value), css[j]? = some c → c.length = n := fun j c hj => by
      have hlt : j < css.length := (List.getElem?_eq_some_iff.1 hj).1
      exact ok.len _ _ _ _ (g9 j c _ _ hj (List.getElem?_eq_getElem (by omega)) (List.getElem?_eq_getElem (by omega)))
    have hn : ∀ c, c ∈ css → c.length = n := fun c hc => by obtain ⟨j, hj⟩ := List.getElem?_of_mem hc; exact each j c hj
    refine ⟨_, cap, rfl, gc, fun j x hj => ?_⟩
    have hlt : j < css.length := by have := (List.getElem?_eq_some_iff.1 hj).1; omega
    have hcj := List.getElem?_eq_getElem hlt
    refine ⟨_, css[j], rfl, each j _ hcj, fun i hi => ?_, ok.rel _ _ _ _ (g9 j _ x _ hcj hj (List.getElem?_eq_getElem (by omega)))⟩
    rw [addr_add, get_row g2 g3, g4, List.getElem?_append_right (by omega)]
    rw [show off + (j * n + i) - pre.length = j * n + i by omega, List.getElem?_append_left, flat_get css hn j _ hcj i hi]
    rw [flat_len css hn]
    calc j * n + i < j * n + n := by omega
      _ = (j + 1) * n := by rw [Nat.add_mul, Nat.one_mul]
      _ ≤ css.length * n := Nat.mul_le_mul_right n hlt

def VtoS (P : Program) (w0 : World) (T ety n bytes f : Nat) (z : List Value) (a0 : Value) (σ : Vw) (R : Value → Vw → Prop) : Prop :=
  pLen a0 (fun v0 => pMake w0 ety n bytes z v0 v0 σ (fun v1 s2 => pLoop (fun l3 K4 s5 => pLen (vget l3 0) (fun v6 => pBin P T .lss (vget l3 2) v6 (fun v7 => pIf v7
    (pIndexAddr n (vget l3 0) (vget l3 2) (fun v8 => pLoad w0 n v8 s5 (fun g9 => AC P w0 f [.agg ⟨expl g9 0 n⟩] s5 (fun v10 s11 => pIndexAddr n (vget l3 1) (vget l3 2) (fun v12 => pVal true n v10 (pStore v12 (spread n v10) s11
      (fun s13 => pBin P T .add (vget l3 2) (.int .i64 1) (fun v14 => K4 .normal [vget l3 0, vget l3 1, v14] s13)))))))) (K4 (.exit 0) [vget l3 0, vget l3 1, vget l3 2] s5)))) [a0, v1, .int .i64 0] s2
    (fun x15 l16 s17 => match x15 with | .normal => R (vget l16 1) s17 | .ret => False | .exit i18 => (match Nat.beq i18 0 with | true => R (vget l16 1) s17 | false => False))))

theorem toS_gen {T ety n bytes f : Nat} {z : List Value} (hz : z.length = n) {Rel : (Addr → Option Value) → List Value → α → Prop} {O : Vw → List Nat → List Value → α → Prop} (ok : OOk w0 n Rel O) (hmono : ∀ rd rd' es x, Le rd rd' → Rel rd es x → Rel rd' es x) {v : Value} {xs : List α}
    (hf : ∀ x, x ∈ xs → ∀ (s : Vw) (es : List Value) (R' : Value → Vw → Prop), Keeps σ s → Rel (Av.get w0 s) es x → (∀ es' F s', Keeps s s' → O s' F es' x → (∀ b, b ∈ F → s b = none) → R' (.agg ⟨es'⟩) s') → AC P w0 f [.agg ⟨es⟩] s R')
    (h : RSl n Rel (Av.get w0 σ) v xs) (hb : bytes * xs.length ≤ 140737488355328) {R : Value → Vw → Prop} (hR : ∀ v' F σ', Keeps σ σ' → OSl w0 n O σ' F v' xs → (∀ b, b ∈ F → σ b = none) → R v' σ') : VtoS P w0 T ety n bytes f z v σ R := by
  unfold VtoS
  have hl := h.le
  rw [h.len]
  refine pMake_s hb hl fun b e h1 h2 => ?_
  refine loop_rule (m := xs.length) (fun m l s => ∃ (j : Nat) (css : List (List Value)) (Fs : List (List Nat)), m + j = xs.length ∧ css.length = j ∧ Fs.length = j ∧ Keeps σ s ∧ s b = some ⟨e, css.flatten ++ (List.replicate m z).flatten, xs.length * n, (0, 0)⟩ ∧
    (∀ c, c ∈ css → c.length = n) ∧ (b :: Fs.flatten).Nodup ∧ (∀ i, i ∈ Fs.flatten → σ i = none ∧ s i ≠ none) ∧ (∀ (i : Nat) (c : List Value) (x : α) (f : List Nat), css[i]? = some c → xs[i]? = some x → Fs[i]? = some f → O s f c x) ∧ l = [v, .slice (some ⟨b, 0, none⟩) xs.length xs.length, .int .i64 (j : Nat)]) ?_
    ⟨0, [], [], by omega, rfl, rfl, Keeps.put h2, by simp [put_at], by simp, by simp, by simp, by simp, rfl⟩
  rintro m l s L ⟨j, css, Fs, hm, hc, hFs, hk, hrow, hcn, hnd, hdom, hO, rfl⟩ hL
  simp only [vget, List.getD_cons_zero, List.getD_cons_succ]
  rw [h.len, pBin_lt, pIf_d]
  refine ⟨fun hj => ?_, fun hj => ?_⟩
  · have hj' : j < xs.length := by omega
    have hx := List.getElem?_eq_getElem hj'
    refine RSl.at (h.mono hk.le fun es x => hmono _ _ _ _ hk.le) hx fun g hg => ?_
    refine hf _ (List.getElem_mem hj') s _ _ hk hg fun es' F s' hk' hO' hFn => ?_
    obtain ⟨m', rfl⟩ : ∃ m', m = m' + 1 := ⟨m - 1, by omega⟩
    have hlen := ok.len _ _ _ _ hO'
    have hsp : spread n (.agg ⟨es'⟩) = es' := by subst hlen; exact spread_agg es'
    have hrow' := hk' _ _ hrow
    have eV : ∀ A : Prop, pVal true n (.agg ⟨es'⟩) A = A := fun A => propext (pValN hlen (ok.one _ _ _ _ hO'))
    simp only [eV, hsp]
    refine own_store (r := ⟨e, css.flatten ++ (List.replicate (m' + 1) z).flatten, xs.length * n, (0, 0)⟩) (A := css.flatten) (old := z) (new := es') (C := (List.replicate m' z).flatten) hrow' (by simp [List.replicate_succ]) (by rw [flat_len css hcn, hc]) (by omega) hlen hj' ?_
    rw [pBin_add (by omega)]
    have hbF : b ∉ F := fun hbF => by rw [hFn b hbF] at hrow; cases hrow
    have hbFs : b ∉ Fs.flatten := (List.nodup_cons.1 hnd).1
    have hdisj : ∀ i, i ∈ Fs.flatten → i ∉ F := fun i hi hiF => (hdom i hi).2 (hFn i hiF)
    have hput : ∀ i, i ≠ b → (s'.put b { (⟨e, css.flatten ++ (List.replicate (m' + 1) z).flatten, xs.length * n, (0, 0)⟩ : Row) with cells := css.flatten ++ (es' ++ (List.replicate m' z).flatten) }) i = s' i := fun i hi => by simp [Vw.put, hi]
    refine hL _ _ m' rfl ⟨j + 1, css ++ [es'], Fs ++ [F], by omega, by simp [hc], by simp [hFs], (hk.trans hk').fill h2, ?_, ?_, ?_, ?_, ?_, rfl⟩
    · rw [put_at]; simp
    · intro c hc'
      rcases List.mem_append.1 hc' with h' | h'
      · exact hcn c h'
      · rw [List.mem_singleton.1 h']; exact hlen
    · have hFnd := ok.nodup _ _ _ _ hO'
      rw [List.flatten_append]
      simp only [List.flatten_cons, List.flatten_nil, List.append_nil]
      rw [List.nodup_cons]
      refine ⟨fun hm' => ?_, List.nodup_append.2 ⟨(List.nodup_cons.1 hnd).2, hFnd, fun a ha b' hb' e' => hdisj a ha (e' ▸ hb')⟩⟩
      rcases List.mem_append.1 hm' with h' | h'
      · exact hbFs h'
      · exact hbF h'
    · intro i hi
      rw [List.flatten_append] at hi
      simp only [List.flatten_cons, List.flatten_nil, List.append_nil] at hi
      rcases List.mem_append.1 hi with h' | h'
      · have hib : i ≠ b := fun e' => hbFs (e' ▸ h')
        refine ⟨(hdom i h').1, ?_⟩
        rw [hput i hib]
        cases hs : s i with
        | none => exact absurd hs (hdom i h').2
        | some r => rw [hk' i r hs]; simp
      · have hib : i ≠ b := fun e' => hbF (e' ▸ h')
        refine ⟨?_, by rw [hput i hib]; exact (ok.dom _ _ _ _ hO' i h').2⟩
        cases hs : σ i with
        | none => rfl
        | some r => have := hk i r hs; rw [hFn i h'] at this; cases this
    · intro i c x f' e1 e2 e3
      by_cases hi : i < j
      · rw [List.getElem?_append_left (by omega)] at e1 e3
        refine ok.frame _ _ _ _ _ (hO i c x f' e1 e2 e3) fun k hk2 => ?_
        have hkF : k ∈ Fs.flatten := List.mem_flatten.2 ⟨f', List.mem_of_getElem? e3, hk2⟩
        rw [hput k fun e' => hbFs (e' ▸ hkF)]
        cases hs : s k with
        | none => exact absurd hs (hdom k hkF).2
        | some r => exact hk' k r hs
      · have hij : i = j := by
          have := (List.getElem?_eq_some_iff.1 e1).1
          simp [hc] at this
          omega
        subst hij
        rw [List.getElem?_append_right (by omega)] at e1 e3
        simp [hc] at e1
        simp [hFs] at e3
        subst e1 e3
        rw [hx] at e2
        cases e2
        exact ok.frame _ _ _ _ _ hO' fun k hk2 => hput k fun e' => hbF (e' ▸ hk2)
  · have hj' : j = xs.length := by omega
    subst hj'
    have hm0 : m = 0 := by omega
    subst hm0
    refine hR _ (b :: Fs.flatten) s hk ⟨hl, hnd, .inr ⟨b, 0, xs.length, _, [], [], css, Fs, rfl, ⟨Nat.le_refl _, hl⟩, h1, hrow, by simp, rfl, hc, hFs, rfl, hO⟩⟩ fun i hi => ?_
    rcases List.mem_cons.1 hi with e' | e'
    · rw [e']; exact h2
    · exact (hdom i e').1
end
end Go.Av

/- What each function owes, reckoned out. MADE BY PROGRAM (emit.py). -/
set_option linter.unusedVariables false
namespace Go.Proofs.Ytlbpnfhhoalenaa
open Go Go.Av

abbrev t_bool : Nat := 4
abbrev t_string : Nat := 9
abbrev t_s_laws_Mark : Nat := 22
abbrev t_s_string : Nat := 29
abbrev t_laws_Mark : Nat := 71
abbrev t_impl_Mark : Nat := 74
abbrev n_laws_FnExactTrailAdd : Nat := 7
abbrev n_laws_szMarkS : Nat := 9
abbrev n_laws_toMarkS : Nat := 11
abbrev n_laws_eqMarkS : Nat := 13
abbrev n_laws_szStringS : Nat := 15
abbrev n_laws_toStringS : Nat := 18
abbrev n_laws_eqStringS : Nat := 21
abbrev n_laws_markStringS : Nat := 23
abbrev n_laws_markMarkS : Nat := 31
abbrev n_laws_heldMarkS : Nat := 32
abbrev n_laws_szMark : Nat := 45
abbrev n_spec_TrailAdd : Nat := 46
abbrev n_laws_toMark : Nat := 47
abbrev n_impl_TrailAdd : Nat := 48
abbrev n_laws_eqMark : Nat := 49
abbrev n_laws_markMark : Nat := 50
abbrev n_spec_TrailOk : Nat := 56
abbrev n_impl_TrailOk : Nat := 58
abbrev n_laws_markText : Nat := 69
abbrev n_laws_heldStringS : Nat := 70
abbrev n_spec_l11Copy : Nat := 82
abbrev n_spec_l11MarkOk : Nat := 83
abbrev n_spec_l11Put : Nat := 84
abbrev n_spec_l11Coarser : Nat := 85
abbrev n_impl_markOk : Nat := 86
abbrev n_impl_cloneMarks : Nat := 87
abbrev n_impl_add : Nat := 88
abbrev n_spec_l11Less : Nat := 92
abbrev n_spec_l2Within : Nat := 93
abbrev n_slices_Compare_string_string : Nat := 95
abbrev n_impl_under : Nat := 96
abbrev n_spec_l2PathOk : Nat := 101
abbrev n_spec_l1In : Nat := 102
abbrev n_spec_l11Under : Nat := 109
abbrev n_spec_l11Marked : Nat := 110
abbrev n_impl_namesOk : Nat := 111
abbrev n_impl_marked : Nat := 112
abbrev n_impl_begins : Nat := 113
abbrev n_slices_SortFunc_impl_Mark_impl_Mark : Nat := 114
abbrev n_impl_add_c1 : Nat := 115
abbrev n_slices_Delete_impl_Mark_impl_Mark : Nat := 116
abbrev n_cmp_Compare_string : Nat := 126
abbrev n_impl_nameOk : Nat := 131
abbrev n_spec_l1NameOk : Nat := 133
abbrev n_impl_within : Nat := 134
abbrev n_spec_l11Same : Nat := 141
abbrev n_slices_ContainsFunc_impl_Mark_impl_Mark : Nat := 142
abbrev n_impl_marked_c1 : Nat := 143
abbrev n_slices_Equal_string_string : Nat := 144
abbrev n_slices_pdqsortCmpFunc_impl_Mark : Nat := 145
abbrev n_math_bits_Len : Nat := 146
abbrev n_cmp_isNaN_string : Nat := 151
abbrev n_slices_IndexFunc_impl_Mark_impl_Mark : Nat := 156
abbrev n_slices_insertionSortCmpFunc_impl_Mark : Nat := 157
abbrev n_slices_heapSortCmpFunc_impl_Mark : Nat := 158
abbrev n_slices_breakPatternsCmpFunc_impl_Mark : Nat := 159
abbrev n_slices_choosePivotCmpFunc_impl_Mark : Nat := 160
abbrev n_slices_reverseRangeCmpFunc_impl_Mark : Nat := 161
abbrev n_slices_partialInsertionSortCmpFunc_impl_Mark : Nat := 162
abbrev n_slices_partitionEqualCmpFunc_impl_Mark : Nat := 163
abbrev n_slices_partitionCmpFunc_impl_Mark : Nat := 164
abbrev n_math_bits_Len64 : Nat := 166
theorem is_math_bits_Len64 : ∃ fn, Try.prog.funcs[n_math_bits_Len64]? = some fn ∧ (fn.name == "runtime.NumGoroutine") = false ∧ fn.body.isNone = false := ⟨Try.f166, Try.func166, by kernel_rfl, by kernel_rfl⟩
end Go.Proofs.Ytlbpnfhhoalenaa

/- What each function owes, reckoned out, part 1. MADE BY PROGRAM (emit.py). -/
set_option linter.unusedVariables false
namespace Go.Proofs.Ytlbpnfhhoalenaa
open Go Go.Av

/-- laws.FnExactTrailAdd -/
def kp_laws_FnExactTrailAdd : Nat → Keep
  | 8 => ⟨[], [], [], .step 0 (.step 2 (.step 1 (.step 3 (.step 4 (.step 5 (.done)))))), [(1, [0]), (3, [0, 1, 2]), (4, [0, 1, 2, 3]), (5, [0, 1, 2, 3, 4])]⟩
  | 16 => ⟨[], [], [], .step 0 (.step 1 (.step 2 (.step 3 (.step 4 (.done))))), [(2, [1]), (3, [0, 1, 2]), (4, [0, 1, 2, 3])]⟩
  | 31 => ⟨[], [], [], .step 0 (.step 2 (.step 1 (.step 3 (.step 4 (.step 5 (.done)))))), [(1, [0]), (3, [0, 1, 2]), (4, [0, 1, 2, 3]), (5, [0, 1, 2, 3, 4])]⟩
  | _ => ⟨[], [], [], .done, []⟩
def esc_laws_FnExactTrailAdd : Nat → Bool
  | _ => false
def vc_laws_FnExactTrailAdd (w0 : World) (a0 a1 : Value) (σ : Vw) (R : Value → Vw → Prop) : Prop :=
  pVal true 2 a1 (AC Try.prog w0 n_laws_szMarkS [a0, Value.int IntKind.i64 1048576] σ (fun v0 s1 => pBin Try.prog 3 BinOp.lss v0 (Value.int IntKind.i64 0) (fun v2 => pIf v2 (R (Value.bool true) s1) (AC Try.prog w0 n_laws_szMark ([Value.agg (⟨[cellOf a1 0, cellOf a1 1]⟩), v0]) s1 (fun v3 s4 => pBin Try.prog 3 BinOp.lss v3 (Value.int IntKind.i64 0) (fun v5 => pIf v5 (R (Value.bool true) s4) (AC Try.prog w0 n_laws_toMarkS [a0] s4 (fun v6 s7 => AC Try.prog w0 n_laws_toMark ([Value.agg (⟨[cellOf a1 0, cellOf a1 1]⟩)]) s7 (fun v8 s9 => AC Try.prog w0 n_spec_TrailAdd [v6, v8] s9 (fun v10 s11 => AC Try.prog w0 n_laws_toMarkS [a0] s11 (fun v12 s13 => AC Try.prog w0 n_laws_toMark ([Value.agg (⟨[cellOf a1 0, cellOf a1 1]⟩)]) s13 (fun v14 s15 => pVal true 2 v14 (AC Try.prog w0 n_impl_TrailAdd ([v12, Value.agg (⟨[cellOf v14 0, cellOf v14 1]⟩)]) s15 (fun v16 s17 => AC Try.prog w0 n_laws_eqMarkS [v16, v10] s17 (fun v18 s19 => pUn UnOp.not v18 (fun v20 => pIf v20 (R (Value.bool false) s19) (AC Try.prog w0 n_laws_toMarkS [a0] s19 (fun v21 s22 => AC Try.prog w0 n_laws_eqMarkS [v12, v21] s22 (fun v23 s24 => pUn UnOp.not v23 (fun v25 => pIf v25 (R (Value.bool false) s24) (AC Try.prog w0 n_laws_toMark ([Value.agg (⟨[cellOf a1 0, cellOf a1 1]⟩)]) s24 (fun v26 s27 => AC Try.prog w0 n_laws_eqMark ([Value.agg (⟨[cellOf v14 0, cellOf v14 1]⟩), v26]) s27 (fun v28 s29 => pUn UnOp.not v28 (fun v30 => pIf v30 (R (Value.bool false) s29) (AC Try.prog w0 n_laws_markMarkS [v12, Value.int IntKind.i64 1] s29 (fun v31 s32 => AC Try.prog w0 n_laws_markMark ([Value.agg (⟨[cellOf v14 0, cellOf v14 1]⟩), v31]) s32 (fun v33 s34 => pBin Try.prog 3 BinOp.lss v33 (Value.int IntKind.i64 0) (fun v35 => pIf v35 (R (Value.bool false) s34) (AC Try.prog w0 n_laws_eqMarkS [v16, v10] s34 (fun v36 s37 => pUn UnOp.not v36 (fun v38 => pIf v38 (R (Value.bool false) s37) (AC Try.prog w0 n_laws_markMarkS [v16, Value.int IntKind.i64 1] s37 (fun v39 s40 => AC Try.prog w0 n_laws_heldMarkS [v16, Value.int IntKind.i64 1] s40 (fun v41 s42 => pBin Try.prog 3 BinOp.lss v41 (Value.int IntKind.i64 0) (fun v43 => pIf v43 (R (Value.bool false) s42) (pBin Try.prog 3 BinOp.neq v41 v39 (fun v44 => pIf v44 (R (Value.bool false) s42) (AC Try.prog w0 n_laws_toMarkS [a0] s42 (fun v45 s46 => AC Try.prog w0 n_laws_toMark ([Value.agg (⟨[cellOf a1 0, cellOf a1 1]⟩)]) s46 (fun v47 s48 => AC Try.prog w0 n_impl_TrailAdd [v45, v47] s48 (fun v49 s50 => AC Try.prog w0 n_laws_eqMarkS [v49, v10] s50 (fun v51 s52 => pUn UnOp.not v51 (fun v53 => pIf v53 (R (Value.bool false) s52) (AC Try.prog w0 n_laws_heldMarkS [v16, Value.int IntKind.i64 1] s52 (fun v54 s55 => pBin Try.prog 3 BinOp.lss v54 (Value.int IntKind.i64 0) (fun v56 => pIf v56 (R (Value.bool false) s55) (pBin Try.prog 3 BinOp.neq v54 v39 (fun v57 => pIf v57 (R (Value.bool false) s55) (R (Value.bool true) s55)))))))))))))))))))))))))))))))))))))))))))))))))
theorem vc_laws_FnExactTrailAdd_eq (w0 : World) (a0 a1 : Value) (σ : Vw) (R : Value → Vw → Prop) : vc_laws_FnExactTrailAdd w0 a0 a1 σ R = den Try.prog w0 kp_laws_FnExactTrailAdd esc_laws_FnExactTrailAdd (Try.f7.body.getD .skip) (entry Try.f7.ntmps [a0, a1]) σ (retK Try.prog Try.f7.results.toList R) := by kernel_rfl
theorem ac_laws_FnExactTrailAdd {w0 : World} {a0 a1 : Value} {σ : Vw} {R : Value → Vw → Prop} (h : vc_laws_FnExactTrailAdd w0 a0 a1 σ R) : AC Try.prog w0 n_laws_FnExactTrailAdd [a0, a1] σ R := by
  refine ac_rule (fn := Try.f7) (c := Try.f7.body.getD .skip) kp_laws_FnExactTrailAdd esc_laws_FnExactTrailAdd Try.func7 (by kernel_rfl) (by kernel_rfl) ?_
  rw [← vc_laws_FnExactTrailAdd_eq]
  exact h

/-- laws.szMarkS -/
def kp_laws_szMarkS : Nat → Keep
  | 5 => ⟨[0, 1, 4, 5], [], [], .done, []⟩
  | _ => ⟨[], [], [], .done, []⟩
def esc_laws_szMarkS : Nat → Bool
  | _ => false
def vc_laws_szMarkS (w0 : World) (a0 a1 : Value) (σ : Vw) (R : Value → Vw → Prop) : Prop :=
  pLen a0 (fun v0 => pBin Try.prog 3 BinOp.sub a1 v0 (fun v1 => pBin Try.prog 3 BinOp.lss v1 (Value.int IntKind.i64 0) (fun v2 => pIf v2 (R (Value.int IntKind.i64 (-1)) σ) (pLoop (fun l3 K4 s5 => pLen (vget l3 0) (fun v6 => pBin Try.prog 3 BinOp.lss (vget l3 3) v6 (fun v7 => pIf v7 (pIndexAddr 2 (vget l3 0) (vget l3 3) (fun v8 => pLoad w0 2 v8 s5 (fun g9 => AC Try.prog w0 n_laws_szMark ([Value.agg (⟨[g9 0, g9 1]⟩), vget l3 1]) s5 (fun v10 s11 => pBin Try.prog 3 BinOp.lss v10 (Value.int IntKind.i64 0) (fun v12 => pIf v12 (K4 AX.ret [vget l3 0, v10, Value.int IntKind.i64 (-1), vget l3 3] s11) (pBin Try.prog 3 BinOp.add (vget l3 3) (Value.int IntKind.i64 1) (fun v13 => K4 AX.normal [vget l3 0, v10, vget l3 2, v13] s11))))))) (K4 (AX.exit 0) [vget l3 0, vget l3 1, vget l3 2, vget l3 3] s5)))) [a0, v1, Value.int IntKind.i64 0, Value.int IntKind.i64 0] σ (fun x14 l15 s16 => match x14 with | .normal => R (vget l15 1) s16 | .ret => R (vget l15 2) s16 | .exit i17 => (match Nat.beq i17 0 with | true => R (vget l15 1) s16 | false => False))))))
theorem vc_laws_szMarkS_eq (w0 : World) (a0 a1 : Value) (σ : Vw) (R : Value → Vw → Prop) : vc_laws_szMarkS w0 a0 a1 σ R = den Try.prog w0 kp_laws_szMarkS esc_laws_szMarkS (Try.f9.body.getD .skip) (entry Try.f9.ntmps [a0, a1]) σ (retK Try.prog Try.f9.results.toList R) := by kernel_rfl
theorem ac_laws_szMarkS {w0 : World} {a0 a1 : Value} {σ : Vw} {R : Value → Vw → Prop} (h : vc_laws_szMarkS w0 a0 a1 σ R) : AC Try.prog w0 n_laws_szMarkS [a0, a1] σ R := by
  refine ac_rule (fn := Try.f9) (c := Try.f9.body.getD .skip) kp_laws_szMarkS esc_laws_szMarkS Try.func9 (by kernel_rfl) (by kernel_rfl) ?_
  rw [← vc_laws_szMarkS_eq]
  exact h

/-- laws.toMarkS -/
def kp_laws_toMarkS : Nat → Keep
  | 3 => ⟨[0, 3, 4], [], [], .done, []⟩
  | _ => ⟨[], [], [], .done, []⟩
def esc_laws_toMarkS : Nat → Bool
  | _ => false
def vc_laws_toMarkS (w0 : World) (a0 : Value) (σ : Vw) (R : Value → Vw → Prop) : Prop :=
  pLen a0 (fun v0 => pMake w0 74 2 32 [Value.slice Option.none 0 0, Value.bool false] v0 v0 σ (fun v1 s2 => pLoop (fun l3 K4 s5 => pLen (vget l3 0) (fun v6 => pBin Try.prog 3 BinOp.lss (vget l3 2) v6 (fun v7 => pIf v7 (pIndexAddr 2 (vget l3 0) (vget l3 2) (fun v8 => pLoad w0 2 v8 s5 (fun g9 => AC Try.prog w0 n_laws_toMark ([Value.agg (⟨[g9 0, g9 1]⟩)]) s5 (fun v10 s11 => pIndexAddr 2 (vget l3 1) (vget l3 2) (fun v12 => pVal true 2 v10 (pStore v12 [cellOf v10 0, cellOf v10 1] s11 (fun s13 => pBin Try.prog 3 BinOp.add (vget l3 2) (Value.int IntKind.i64 1) (fun v14 => K4 AX.normal [vget l3 0, vget l3 1, v14] s13)))))))) (K4 (AX.exit 0) [vget l3 0, vget l3 1, vget l3 2] s5)))) [a0, v1, Value.int IntKind.i64 0] s2 (fun x15 l16 s17 => match x15 with | .normal => R (vget l16 1) s17 | .ret => False | .exit i18 => (match Nat.beq i18 0 with | true => R (vget l16 1) s17 | false => False))))
theorem vc_laws_toMarkS_eq (w0 : World) (a0 : Value) (σ : Vw) (R : Value → Vw → Prop) : vc_laws_toMarkS w0 a0 σ R = den Try.prog w0 kp_laws_toMarkS esc_laws_toMarkS (Try.f11.body.getD .skip) (entry Try.f11.ntmps [a0]) σ (retK Try.prog Try.f11.results.toList R) := by kernel_rfl
theorem ac_laws_toMarkS {w0 : World} {a0 : Value} {σ : Vw} {R : Value → Vw → Prop} (h : vc_laws_toMarkS w0 a0 σ R) : AC Try.prog w0 n_laws_toMarkS [a0] σ R := by
  refine ac_rule (fn := Try.f11) (c := Try.f11.body.getD .skip) kp_laws_toMarkS esc_laws_toMarkS Try.func11 (by kernel_rfl) (by kernel_rfl) ?_
  rw [← vc_laws_toMarkS_eq]
  exact h

/-- laws.eqMarkS -/
def kp_laws_eqMarkS : Nat → Keep
  | 4 => ⟨[0, 1, 4, 5], [], [], .done, []⟩
  | 6 => ⟨[], [], [], .step 0 (.step 1 (.step 2 (.step 3 (.step 4 (.step 5 (.step 6 (.step 7 (.step 8 (.step 9 (.done)))))))))), [(2, [0, 1]), (3, [0, 1, 2]), (6, [4, 5]), (7, [4, 5, 6]), (8, [0, 1, 2, 3, 4, 5, 6, 7]), (9, [0, 1, 2, 3, 4, 5, 6, 7, 8])]⟩
  | _ => ⟨[], [], [], .done, []⟩
def esc_laws_eqMarkS : Nat → Bool
  | _ => false
def vc_laws_eqMarkS (w0 : World) (a0 a1 : Value) (σ : Vw) (R : Value → Vw → Prop) : Prop :=
  pLen a0 (fun v0 => pLen a1 (fun v1 => pBin Try.prog 3 BinOp.neq v0 v1 (fun v2 => pIf v2 (R (Value.bool false) σ) (pLoop (fun l3 K4 s5 => pLen (vget l3 0) (fun v6 => pBin Try.prog 3 BinOp.lss (vget l3 3) v6 (fun v7 => pIf v7 (pIndexAddr 2 (vget l3 0) (vget l3 3) (fun v8 => pLoad w0 2 v8 s5 (fun g9 => pIndexAddr 2 (vget l3 1) (vget l3 3) (fun v10 => pLoad w0 2 v10 s5 (fun g11 => AC Try.prog w0 n_laws_eqMark ([Value.agg (⟨[g9 0, g9 1]⟩), Value.agg (⟨[g11 0, g11 1]⟩)]) s5 (fun v12 s13 => pUn UnOp.not v12 (fun v14 => pIf v14 (K4 AX.ret [vget l3 0, vget l3 1, Value.bool false, vget l3 3] s13) (pBin Try.prog 3 BinOp.add (vget l3 3) (Value.int IntKind.i64 1) (fun v15 => K4 AX.normal [vget l3 0, vget l3 1, vget l3 2, v15] s13))))))))) (K4 (AX.exit 0) [vget l3 0, vget l3 1, vget l3 2, vget l3 3] s5)))) [a0, a1, Value.bool false, Value.int IntKind.i64 0] σ (fun x16 l17 s18 => match x16 with | .normal => R (Value.bool true) s18 | .ret => R (vget l17 2) s18 | .exit i19 => (match Nat.beq i19 0 with | true => R (Value.bool true) s18 | false => False))))))
theorem vc_laws_eqMarkS_eq (w0 : World) (a0 a1 : Value) (σ : Vw) (R : Value → Vw → Prop) : vc_laws_eqMarkS w0 a0 a1 σ R = den Try.prog w0 kp_laws_eqMarkS esc_laws_eqMarkS (Try.f13.body.getD .skip) (entry Try.f13.ntmps [a0, a1]) σ (retK Try.prog Try.f13.results.toList R) := by kernel_rfl
theorem ac_laws_eqMarkS {w0 : World} {a0 a1 : Value} {σ : Vw} {R : Value → Vw → Prop} (h : vc_laws_eqMarkS w0 a0 a1 σ R) : AC Try.prog w0 n_laws_eqMarkS [a0, a1] σ R := by
  refine ac_rule (fn := Try.f13) (c := Try.f13.body.getD .skip) kp_laws_eqMarkS esc_laws_eqMarkS Try.func13 (by kernel_rfl) (by kernel_rfl) ?_
  rw [← vc_laws_eqMarkS_eq]
  exact h

/-- laws.szStringS -/
def kp_laws_szStringS : Nat → Keep
  | 5 => ⟨[0, 1, 4, 5], [], [], .done, []⟩
  | _ => ⟨[], [], [], .done, []⟩
def esc_laws_szStringS : Nat → Bool
  | _ => false
def vc_laws_szStringS (w0 : World) (a0 a1 : Value) (σ : Vw) (R : Value → Vw → Prop) : Prop :=
  pLen a0 (fun v0 => pBin Try.prog 3 BinOp.sub a1 v0 (fun v1 => pBin Try.prog 3 BinOp.lss v1 (Value.int IntKind.i64 0) (fun v2 => pIf v2 (R (Value.int IntKind.i64 (-1)) σ) (pLoop (fun l3 K4 s5 => pLen (vget l3 0) (fun v6 => pBin Try.prog 3 BinOp.lss (vget l3 3) v6 (fun v7 => pIf v7 (pIndexAddr 1 (vget l3 0) (vget l3 3) (fun v8 => pLoad w0 1 v8 s5 (fun g9 => pLenS (g9 0) (fun v10 => pBin Try.prog 3 BinOp.sub (vget l3 1) v10 (fun v11 => pBin Try.prog 3 BinOp.lss v11 (Value.int IntKind.i64 0) (fun v12 => pIf v12 (K4 AX.ret [vget l3 0, v11, Value.int IntKind.i64 (-1), vget l3 3] s5) (pBin Try.prog 3 BinOp.add (vget l3 3) (Value.int IntKind.i64 1) (fun v13 => K4 AX.normal [vget l3 0, v11, vget l3 2, v13] s5)))))))) (K4 (AX.exit 0) [vget l3 0, vget l3 1, vget l3 2, vget l3 3] s5)))) [a0, v1, Value.int IntKind.i64 0, Value.int IntKind.i64 0] σ (fun x14 l15 s16 => match x14 with | .normal => R (vget l15 1) s16 | .ret => R (vget l15 2) s16 | .exit i17 => (match Nat.beq i17 0 with | true => R (vget l15 1) s16 | false => False))))))
theorem vc_laws_szStringS_eq (w0 : World) (a0 a1 : Value) (σ : Vw) (R : Value → Vw → Prop) : vc_laws_szStringS w0 a0 a1 σ R = den Try.prog w0 kp_laws_szStringS esc_laws_szStringS (Try.f15.body.getD .skip) (entry Try.f15.ntmps [a0, a1]) σ (retK Try.prog Try.f15.results.toList R) := by kernel_rfl
theorem ac_laws_szStringS {w0 : World} {a0 a1 : Value} {σ : Vw} {R : Value → Vw → Prop} (h : vc_laws_szStringS w0 a0 a1 σ R) : AC Try.prog w0 n_laws_szStringS [a0, a1] σ R := by
  refine ac_rule (fn := Try.f15) (c := Try.f15.body.getD .skip) kp_laws_szStringS esc_laws_szStringS Try.func15 (by kernel_rfl) (by kernel_rfl) ?_
  rw [← vc_laws_szStringS_eq]
  exact h

/-- laws.toStringS -/
def kp_laws_toStringS : Nat → Keep
  | 3 => ⟨[0, 3, 4], [], [], .done, []⟩
  | _ => ⟨[], [], [], .done, []⟩
def esc_laws_toStringS : Nat → Bool
  | _ => false
def vc_laws_toStringS (w0 : World) (a0 : Value) (σ : Vw) (R : Value → Vw → Prop) : Prop :=
  pLen a0 (fun v0 => pMake w0 9 1 16 ([Value.string ({ data := #[] })]) v0 v0 σ (fun v1 s2 => pLoop (fun l3 K4 s5 => pLen (vget l3 0) (fun v6 => pBin Try.prog 3 BinOp.lss (vget l3 2) v6 (fun v7 => pIf v7 (pIndexAddr 1 (vget l3 0) (vget l3 2) (fun v8 => pLoad w0 1 v8 s5 (fun g9 => pIndexAddr 1 (vget l3 1) (vget l3 2) (fun v10 => pVal false 1 (g9 0) (pStore v10 [g9 0] s5 (fun s11 => pBin Try.prog 3 BinOp.add (vget l3 2) (Value.int IntKind.i64 1) (fun v12 => K4 AX.normal [vget l3 0, vget l3 1, v12] s11))))))) (K4 (AX.exit 0) [vget l3 0, vget l3 1, vget l3 2] s5)))) [a0, v1, Value.int IntKind.i64 0] s2 (fun x13 l14 s15 => match x13 with | .normal => R (vget l14 1) s15 | .ret => False | .exit i16 => (match Nat.beq i16 0 with | true => R (vget l14 1) s15 | false => False))))
theorem vc_laws_toStringS_eq (w0 : World) (a0 : Value) (σ : Vw) (R : Value → Vw → Prop) : vc_laws_toStringS w0 a0 σ R = den Try.prog w0 kp_laws_toStringS esc_laws_toStringS (Try.f18.body.getD .skip) (entry Try.f18.ntmps [a0]) σ (retK Try.prog Try.f18.results.toList R) := by kernel_rfl
theorem ac_laws_toStringS {w0 : World} {a0 : Value} {σ : Vw} {R : Value → Vw → Prop} (h : vc_laws_toStringS w0 a0 σ R) : AC Try.prog w0 n_laws_toStringS [a0] σ R := by
  refine ac_rule (fn := Try.f18) (c := Try.f18.body.getD .skip) kp_laws_toStringS esc_laws_toStringS Try.func18 (by kernel_rfl) (by kernel_rfl) ?_
  rw [← vc_laws_toStringS_eq]
  exact h

/-- laws.eqStringS -/
def kp_laws_eqStringS : Nat → Keep
  | 4 => ⟨[0, 1, 4, 5], [], [], .done, []⟩
  | 6 => ⟨[], [], [], .step 0 (.step 1 (.step 2 (.step 3 (.step 4 (.step 5 (.step 6 (.step 7 (.step 8 (.done))))))))), [(2, [0, 1]), (3, [0, 1, 2]), (6, [4, 5]), (7, [4, 5, 6]), (8, [0, 1, 2, 3, 4, 5, 6, 7])]⟩
  | _ => ⟨[], [], [], .done, []⟩
def esc_laws_eqStringS : Nat → Bool
  | _ => false
def vc_laws_eqStringS (w0 : World) (a0 a1 : Value) (σ : Vw) (R : Value → Vw → Prop) : Prop :=
  pLen a0 (fun v0 => pLen a1 (fun v1 => pBin Try.prog 3 BinOp.neq v0 v1 (fun v2 => pIf v2 (R (Value.bool false) σ) (pLoop (fun l3 K4 s5 => pLen (vget l3 0) (fun v6 => pBin Try.prog 3 BinOp.lss (vget l3 3) v6 (fun v7 => pIf v7 (pIndexAddr 1 (vget l3 0) (vget l3 3) (fun v8 => pLoad w0 1 v8 s5 (fun g9 => pIndexAddr 1 (vget l3 1) (vget l3 3) (fun v10 => pLoad w0 1 v10 s5 (fun g11 => pBin Try.prog 9 BinOp.neq (g9 0) (g11 0) (fun v12 => pIf v12 (K4 AX.ret [vget l3 0, vget l3 1, Value.bool false, vget l3 3] s5) (pBin Try.prog 3 BinOp.add (vget l3 3) (Value.int IntKind.i64 1) (fun v13 => K4 AX.normal [vget l3 0, vget l3 1, vget l3 2, v13] s5)))))))) (K4 (AX.exit 0) [vget l3 0, vget l3 1, vget l3 2, vget l3 3] s5)))) [a0, a1, Value.bool false, Value.int IntKind.i64 0] σ (fun x14 l15 s16 => match x14 with | .normal => R (Value.bool true) s16 | .ret => R (vget l15 2) s16 | .exit i17 => (match Nat.beq i17 0 with | true => R (Value.bool true) s16 | false => False))))))
theorem vc_laws_eqStringS_eq (w0 : World) (a0 a1 : Value) (σ : Vw) (R : Value → Vw → Prop) : vc_laws_eqStringS w0 a0 a1 σ R = den Try.prog w0 kp_laws_eqStringS esc_laws_eqStringS (Try.f21.body.getD .skip) (entry Try.f21.ntmps [a0, a1]) σ (retK Try.prog Try.f21.results.toList R) := by kernel_rfl
theorem ac_laws_eqStringS {w0 : World} {a0 a1 : Value} {σ : Vw} {R : Value → Vw → Prop} (h : vc_laws_eqStringS w0 a0 a1 σ R) : AC Try.prog w0 n_laws_eqStringS [a0, a1] σ R := by
  refine ac_rule (fn := Try.f21) (c := Try.f21.body.getD .skip) kp_laws_eqStringS esc_laws_eqStringS Try.func21 (by kernel_rfl) (by kernel_rfl) ?_
  rw [← vc_laws_eqStringS_eq]
  exact h

/-- laws.markStringS -/
def kp_laws_markStringS : Nat → Keep
  | 2 => ⟨[0, 1, 5], [], [], .done, []⟩
  | _ => ⟨[], [], [], .done, []⟩
def esc_laws_markStringS : Nat → Bool
  | _ => false
def vc_laws_markStringS (w0 : World) (a0 a1 : Value) (σ : Vw) (R : Value → Vw → Prop) : Prop :=
  pLoop (fun l0 K1 s2 => pLen (vget l0 0) (fun v3 => pBin Try.prog 3 BinOp.lss (vget l0 2) v3 (fun v4 => pIf v4 (AC Try.prog w0 n_laws_markText [vget l0 1] s2 (fun v5 s6 => pIndexAddr 1 (vget l0 0) (vget l0 2) (fun v7 => pVal false 1 v5 (pStore v7 [v5] s6 (fun s8 => pBin Try.prog 3 BinOp.add (vget l0 1) (Value.int IntKind.i64 1) (fun v9 => pBin Try.prog 3 BinOp.add (vget l0 2) (Value.int IntKind.i64 1) (fun v10 => K1 AX.normal [vget l0 0, v9, v10] s8))))))) (K1 (AX.exit 0) [vget l0 0, vget l0 1, vget l0 2] s2)))) [a0, a1, Value.int IntKind.i64 0] σ (fun x11 l12 s13 => match x11 with | .normal => R (vget l12 1) s13 | .ret => False | .exit i14 => (match Nat.beq i14 0 with | true => R (vget l12 1) s13 | false => False))
theorem vc_laws_markStringS_eq (w0 : World) (a0 a1 : Value) (σ : Vw) (R : Value → Vw → Prop) : vc_laws_markStringS w0 a0 a1 σ R = den Try.prog w0 kp_laws_markStringS esc_laws_markStringS (Try.f23.body.getD .skip) (entry Try.f23.ntmps [a0, a1]) σ (retK Try.prog Try.f23.results.toList R) := by kernel_rfl
theorem ac_laws_markStringS {w0 : World} {a0 a1 : Value} {σ : Vw} {R : Value → Vw → Prop} (h : vc_laws_markStringS w0 a0 a1 σ R) : AC Try.prog w0 n_laws_markStringS [a0, a1] σ R := by
  refine ac_rule (fn := Try.f23) (c := Try.f23.body.getD .skip) kp_laws_markStringS esc_laws_markStringS Try.func23 (by kernel_rfl) (by kernel_rfl) ?_
  rw [← vc_laws_markStringS_eq]
  exact h

/-- laws.markMarkS -/
def kp_laws_markMarkS : Nat → Keep
  | 2 => ⟨[0, 1, 5], [], [], .done, []⟩
  | _ => ⟨[], [], [], .done, []⟩
def esc_laws_markMarkS : Nat → Bool
  | _ => false
def vc_laws_markMarkS (w0 : World) (a0 a1 : Value) (σ : Vw) (R : Value → Vw → Prop) : Prop :=
  pLoop (fun l0 K1 s2 => pLen (vget l0 0) (fun v3 => pBin Try.prog 3 BinOp.lss (vget l0 2) v3 (fun v4 => pIf v4 (pIndexAddr 2 (vget l0 0) (vget l0 2) (fun v5 => pField 0 v5 (fun v6 => pLoad w0 1 v6 s2 (fun g7 => AC Try.prog w0 n_laws_markStringS [g7 0, vget l0 1] s2 (fun v8 s9 => pBin Try.prog 3 BinOp.rem v8 (Value.int IntKind.i64 3) (fun v10 => pBin Try.prog 3 BinOp.eql v10 (Value.int IntKind.i64 0) (fun v11 => pIndexAddr 2 (vget l0 0) (vget l0 2) (fun v12 => pField 1 v12 (fun v13 => pVal false 1 v11 (pStore v13 [v11] s9 (fun s14 => pBin Try.prog 3 BinOp.add v8 (Value.int IntKind.i64 1) (fun v15 => pBin Try.prog 3 BinOp.add (vget l0 2) (Value.int IntKind.i64 1) (fun v16 => K1 AX.normal [vget l0 0, v15, v16] s14))))))))))))) (K1 (AX.exit 0) [vget l0 0, vget l0 1, vget l0 2] s2)))) [a0, a1, Value.int IntKind.i64 0] σ (fun x17 l18 s19 => match x17 with | .normal => R (vget l18 1) s19 | .ret => False | .exit i20 => (match Nat.beq i20 0 with | true => R (vget l18 1) s19 | false => False))
theorem vc_laws_markMarkS_eq (w0 : World) (a0 a1 : Value) (σ : Vw) (R : Value → Vw → Prop) : vc_laws_markMarkS w0 a0 a1 σ R = den Try.prog w0 kp_laws_markMarkS esc_laws_markMarkS (Try.f31.body.getD .skip) (entry Try.f31.ntmps [a0, a1]) σ (retK Try.prog Try.f31.results.toList R) := by kernel_rfl
theorem ac_laws_markMarkS {w0 : World} {a0 a1 : Value} {σ : Vw} {R : Value → Vw → Prop} (h : vc_laws_markMarkS w0 a0 a1 σ R) : AC Try.prog w0 n_laws_markMarkS [a0, a1] σ R := by
  refine ac_rule (fn := Try.f31) (c := Try.f31.body.getD .skip) kp_laws_markMarkS esc_laws_markMarkS Try.func31 (by kernel_rfl) (by kernel_rfl) ?_
  rw [← vc_laws_markMarkS_eq]
  exact h

/-- laws.heldMarkS -/
def kp_laws_heldMarkS : Nat → Keep
  | 2 => ⟨[0, 1, 4, 5], [], [], .done, []⟩
  | _ => ⟨[], [], [], .done, []⟩
def esc_laws_heldMarkS : Nat → Bool
  | _ => false
def vc_laws_heldMarkS (w0 : World) (a0 a1 : Value) (σ : Vw) (R : Value → Vw → Prop) : Prop :=
  pLoop (fun l0 K1 s2 => pLen (vget l0 0) (fun v3 => pBin Try.prog 3 BinOp.lss (vget l0 3) v3 (fun v4 => pIf v4 (pIndexAddr 2 (vget l0 0) (vget l0 3) (fun v5 => pField 0 v5 (fun v6 => pLoad w0 1 v6 s2 (fun g7 => AC Try.prog w0 n_laws_heldStringS [g7 0, vget l0 1] s2 (fun v8 s9 => pBin Try.prog 3 BinOp.lss v8 (Value.int IntKind.i64 0) (fun v10 => pIf v10 (K1 AX.ret [vget l0 0, v8, Value.int IntKind.i64 (-1), vget l0 3] s9) (pIndexAddr 2 (vget l0 0) (vget l0 3) (fun v11 => pField 1 v11 (fun v12 => pLoad w0 1 v12 s9 (fun g13 => pBin Try.prog 3 BinOp.rem v8 (Value.int IntKind.i64 3) (fun v14 => pBin Try.prog 3 BinOp.eql v14 (Value.int IntKind.i64 0) (fun v15 => pBin Try.prog 4 BinOp.neq (g13 0) v15 (fun v16 => pIf v16 (K1 AX.ret [vget l0 0, v8, Value.int IntKind.i64 (-1), vget l0 3] s9) (pBin Try.prog 3 BinOp.add v8 (Value.int IntKind.i64 1) (fun v17 => pBin Try.prog 3 BinOp.add (vget l0 3) (Value.int IntKind.i64 1) (fun v18 => K1 AX.normal [vget l0 0, v17, vget l0 2, v18] s9)))))))))))))))) (K1 (AX.exit 0) [vget l0 0, vget l0 1, vget l0 2, vget l0 3] s2)))) [a0, a1, Value.int IntKind.i64 0, Value.int IntKind.i64 0] σ (fun x19 l20 s21 => match x19 with | .normal => R (vget l20 1) s21 | .ret => R (vget l20 2) s21 | .exit i22 => (match Nat.beq i22 0 with | true => R (vget l20 1) s21 | false => False))
theorem vc_laws_heldMarkS_eq (w0 : World) (a0 a1 : Value) (σ : Vw) (R : Value → Vw → Prop) : vc_laws_heldMarkS w0 a0 a1 σ R = den Try.prog w0 kp_laws_heldMarkS esc_laws_heldMarkS (Try.f32.body.getD .skip) (entry Try.f32.ntmps [a0, a1]) σ (retK Try.prog Try.f32.results.toList R) := by kernel_rfl
theorem ac_laws_heldMarkS {w0 : World} {a0 a1 : Value} {σ : Vw} {R : Value → Vw → Prop} (h : vc_laws_heldMarkS w0 a0 a1 σ R) : AC Try.prog w0 n_laws_heldMarkS [a0, a1] σ R := by
  refine ac_rule (fn := Try.f32) (c := Try.f32.body.getD .skip) kp_laws_heldMarkS esc_laws_heldMarkS Try.func32 (by kernel_rfl) (by kernel_rfl) ?_
  rw [← vc_laws_heldMarkS_eq]
  exact h

/-- laws.szMark -/
def kp_laws_szMark : Nat → Keep
  | _ => ⟨[], [], [], .done, []⟩
def esc_laws_szMark : Nat → Bool
  | _ => false
def vc_laws_szMark (w0 : World) (a0 a1 : Value) (σ : Vw) (R : Value → Vw → Prop) : Prop :=
  pVal true 2 a0 (AC Try.prog w0 n_laws_szStringS [cellOf a0 0, a1] σ (fun v0 s1 => pBin Try.prog 3 BinOp.lss v0 (Value.int IntKind.i64 0) (fun v2 => pIf v2 (R (Value.int IntKind.i64 (-1)) s1) (R v0 s1))))
theorem vc_laws_szMark_eq (w0 : World) (a0 a1 : Value) (σ : Vw) (R : Value → Vw → Prop) : vc_laws_szMark w0 a0 a1 σ R = den Try.prog w0 kp_laws_szMark esc_laws_szMark (Try.f45.body.getD .skip) (entry Try.f45.ntmps [a0, a1]) σ (retK Try.prog Try.f45.results.toList R) := by kernel_rfl
theorem ac_laws_szMark {w0 : World} {a0 a1 : Value} {σ : Vw} {R : Value → Vw → Prop} (h : vc_laws_szMark w0 a0 a1 σ R) : AC Try.prog w0 n_laws_szMark [a0, a1] σ R := by
  refine ac_rule (fn := Try.f45) (c := Try.f45.body.getD .skip) kp_laws_szMark esc_laws_szMark Try.func45 (by kernel_rfl) (by kernel_rfl) ?_
  rw [← vc_laws_szMark_eq]
  exact h

/-- spec.TrailAdd -/
def kp_spec_TrailAdd : Nat → Keep
  | 7 => ⟨[5], [], [], .done, []⟩
  | _ => ⟨[], [], [], .done, []⟩
def esc_spec_TrailAdd : Nat → Bool
  | 9 => true
  | _ => false
def vc_spec_TrailAdd (w0 : World) (a0 a1 : Value) (σ : Vw) (R : Value → Vw → Prop) : Prop :=
  pVal true 2 a1 (AC Try.prog w0 n_spec_TrailOk [a0] σ (fun v0 s1 => pUn UnOp.not v0 (fun v2 => pIf v2 (pNew w0 74 [] s1 (fun n3 s4 => R (Value.slice (Option.some (Addr.mk n3 0 Option.none)) 0 0) s4)) (AC Try.prog w0 n_spec_l11Copy [a0] s1 (fun v5 s6 => AC Try.prog w0 n_spec_l11MarkOk ([Value.agg (⟨[cellOf a1 0, cellOf a1 1]⟩)]) s6 (fun v7 s8 => pUn UnOp.not v7 (fun v9 => pIf v9 (R v5 s8) (AC Try.prog w0 n_spec_l11Put ([v5, Value.agg (⟨[cellOf a1 0, cellOf a1 1]⟩)]) s8 (fun v10 s11 => pLoop (fun l12 K13 s14 => pLen (vget l12 0) (fun v15 => pBin Try.prog 3 BinOp.gtr v15 (Value.int IntKind.i64 6) (fun v16 => pIf v16 (AC Try.prog w0 n_spec_l11Coarser [vget l12 0] s14 (fun v17 s18 => K13 AX.normal [v17] s18)) (K13 (AX.exit 0) [vget l12 0] s14)))) [v10] s11 (fun x19 l20 s21 => match x19 with | .normal => AC Try.prog w0 n_spec_l11Copy [vget l20 0] s21 (fun v22 s23 => R v22 s23) | .ret => False | .exit i24 => (match Nat.beq i24 0 with | true => AC Try.prog w0 n_spec_l11Copy [vget l20 0] s21 (fun v25 s26 => R v25 s26) | false => False)))))))))))
theorem vc_spec_TrailAdd_eq (w0 : World) (a0 a1 : Value) (σ : Vw) (R : Value → Vw → Prop) : vc_spec_TrailAdd w0 a0 a1 σ R = den Try.prog w0 kp_spec_TrailAdd esc_spec_TrailAdd (Try.f46.body.getD .skip) (entry Try.f46.ntmps [a0, a1]) σ (retK Try.prog Try.f46.results.toList R) := by kernel_rfl
theorem ac_spec_TrailAdd {w0 : World} {a0 a1 : Value} {σ : Vw} {R : Value → Vw → Prop} (h : vc_spec_TrailAdd w0 a0 a1 σ R) : AC Try.prog w0 n_spec_TrailAdd [a0, a1] σ R := by
  refine ac_rule (fn := Try.f46) (c := Try.f46.body.getD .skip) kp_spec_TrailAdd esc_spec_TrailAdd Try.func46 (by kernel_rfl) (by kernel_rfl) ?_
  rw [← vc_spec_TrailAdd_eq]
  exact h

/-- laws.toMark -/
def kp_laws_toMark : Nat → Keep
  | _ => ⟨[], [], [], .done, []⟩
def esc_laws_toMark : Nat → Bool
  | _ => false
def vc_laws_toMark (w0 : World) (a0 : Value) (σ : Vw) (R : Value → Vw → Prop) : Prop :=
  pVal true 2 a0 (AC Try.prog w0 n_laws_toStringS [cellOf a0 0] σ (fun v0 s1 => pVal false 1 v0 (pVal false 1 (cellOf a0 1) (pVal true 2 (Value.agg (⟨[v0, cellOf a0 1]⟩)) (R (Value.agg (⟨[v0, cellOf a0 1]⟩)) s1)))))
theorem vc_laws_toMark_eq (w0 : World) (a0 : Value) (σ : Vw) (R : Value → Vw → Prop) : vc_laws_toMark w0 a0 σ R = den Try.prog w0 kp_laws_toMark esc_laws_toMark (Try.f47.body.getD .skip) (entry Try.f47.ntmps [a0]) σ (retK Try.prog Try.f47.results.toList R) := by kernel_rfl
theorem ac_laws_toMark {w0 : World} {a0 : Value} {σ : Vw} {R : Value → Vw → Prop} (h : vc_laws_toMark w0 a0 σ R) : AC Try.prog w0 n_laws_toMark [a0] σ R := by
  refine ac_rule (fn := Try.f47) (c := Try.f47.body.getD .skip) kp_laws_toMark esc_laws_toMark Try.func47 (by kernel_rfl) (by kernel_rfl) ?_
  rw [← vc_laws_toMark_eq]
  exact h

/-- impl.TrailAdd -/
def kp_impl_TrailAdd : Nat → Keep
  | 5 => ⟨[], [], [], .step 0 (.step 2 (.step 1 (.step 3 (.step 4 (.step 5 (.done)))))), [(1, [0]), (3, [0, 1, 2]), (4, [0, 1, 2, 3]), (5, [0, 1, 2, 3, 4])]⟩
  | _ => ⟨[], [], [], .done, []⟩
def esc_impl_TrailAdd : Nat → Bool
  | 8 => true
  | _ => false
def vc_impl_TrailAdd (w0 : World) (a0 a1 : Value) (σ : Vw) (R : Value → Vw → Prop) : Prop :=
  pVal true 2 a1 (AC Try.prog w0 n_impl_TrailOk [a0] σ (fun v0 s1 => pUn UnOp.not v0 (fun v2 => pIf v2 (pNew w0 74 [] s1 (fun n3 s4 => R (Value.slice (Option.some (Addr.mk n3 0 Option.none)) 0 0) s4)) (AC Try.prog w0 n_impl_markOk ([Value.agg (⟨[cellOf a1 0, cellOf a1 1]⟩)]) s1 (fun v5 s6 => pUn UnOp.not v5 (fun v7 => pIf v7 (AC Try.prog w0 n_impl_cloneMarks [a0] s6 (fun v8 s9 => R v8 s9)) (AC Try.prog w0 n_impl_cloneMarks [a0] s6 (fun v10 s11 => AC Try.prog w0 n_impl_add ([v10, Value.agg (⟨[cellOf a1 0, cellOf a1 1]⟩)]) s11 (fun v12 s13 => AC Try.prog w0 n_impl_cloneMarks [v12] s13 (fun v14 s15 => R v14 s15))))))))))
theorem vc_impl_TrailAdd_eq (w0 : World) (a0 a1 : Value) (σ : Vw) (R : Value → Vw → Prop) : vc_impl_TrailAdd w0 a0 a1 σ R = den Try.prog w0 kp_impl_TrailAdd esc_impl_TrailAdd (Try.f48.body.getD .skip) (entry Try.f48.ntmps [a0, a1]) σ (retK Try.prog Try.f48.results.toList R) := by kernel_rfl
theorem ac_impl_TrailAdd {w0 : World} {a0 a1 : Value} {σ : Vw} {R : Value → Vw → Prop} (h : vc_impl_TrailAdd w0 a0 a1 σ R) : AC Try.prog w0 n_impl_TrailAdd [a0, a1] σ R := by
  refine ac_rule (fn := Try.f48) (c := Try.f48.body.getD .skip) kp_impl_TrailAdd esc_impl_TrailAdd Try.func48 (by kernel_rfl) (by kernel_rfl) ?_
  rw [← vc_impl_TrailAdd_eq]
  exact h

/-- laws.eqMark -/
def kp_laws_eqMark : Nat → Keep
  | _ => ⟨[], [], [], .done, []⟩
def esc_laws_eqMark : Nat → Bool
  | _ => false
def vc_laws_eqMark (w0 : World) (a0 a1 : Value) (σ : Vw) (R : Value → Vw → Prop) : Prop :=
  pVal true 2 a0 (pVal true 2 a1 (AC Try.prog w0 n_laws_eqStringS [cellOf a0 0, cellOf a1 0] σ (fun v0 s1 => pUn UnOp.not v0 (fun v2 => pIf v2 (R (Value.bool false) s1) (pBin Try.prog 4 BinOp.neq (cellOf a0 1) (cellOf a1 1) (fun v3 => pIf v3 (R (Value.bool false) s1) (R (Value.bool true) s1)))))))
theorem vc_laws_eqMark_eq (w0 : World) (a0 a1 : Value) (σ : Vw) (R : Value → Vw → Prop) : vc_laws_eqMark w0 a0 a1 σ R = den Try.prog w0 kp_laws_eqMark esc_laws_eqMark (Try.f49.body.getD .skip) (entry Try.f49.ntmps [a0, a1]) σ (retK Try.prog Try.f49.results.toList R) := by kernel_rfl
theorem ac_laws_eqMark {w0 : World} {a0 a1 : Value} {σ : Vw} {R : Value → Vw → Prop} (h : vc_laws_eqMark w0 a0 a1 σ R) : AC Try.prog w0 n_laws_eqMark [a0, a1] σ R := by
  refine ac_rule (fn := Try.f49) (c := Try.f49.body.getD .skip) kp_laws_eqMark esc_laws_eqMark Try.func49 (by kernel_rfl) (by kernel_rfl) ?_
  rw [← vc_laws_eqMark_eq]
  exact h

/-- laws.markMark -/
def kp_laws_markMark : Nat → Keep
  | _ => ⟨[], [], [], .done, []⟩
def esc_laws_markMark : Nat → Bool
  | _ => false
def vc_laws_markMark (w0 : World) (a0 a1 : Value) (σ : Vw) (R : Value → Vw → Prop) : Prop :=
  pVal true 2 a0 (AC Try.prog w0 n_laws_markStringS [cellOf a0 0, a1] σ (fun v0 s1 => R v0 s1))
theorem vc_laws_markMark_eq (w0 : World) (a0 a1 : Value) (σ : Vw) (R : Value → Vw → Prop) : vc_laws_markMark w0 a0 a1 σ R = den Try.prog w0 kp_laws_markMark esc_laws_markMark (Try.f50.body.getD .skip) (entry Try.f50.ntmps [a0, a1]) σ (retK Try.prog Try.f50.results.toList R) := by kernel_rfl
theorem ac_laws_markMark {w0 : World} {a0 a1 : Value} {σ : Vw} {R : Value → Vw → Prop} (h : vc_laws_markMark w0 a0 a1 σ R) : AC Try.prog w0 n_laws_markMark [a0, a1] σ R := by
  refine ac_rule (fn := Try.f50) (c := Try.f50.body.getD .skip) kp_laws_markMark esc_laws_markMark Try.func50 (by kernel_rfl) (by kernel_rfl) ?_
  rw [← vc_laws_markMark_eq]
  exact h

/-- spec.TrailOk -/
def kp_spec_TrailOk : Nat → Keep
  | 2 => ⟨[0, 2, 3], [], [], .done, []⟩
  | 4 => ⟨[], [], [], .step 0 (.step 1 (.step 2 (.step 3 (.step 4 (.step 5 (.step 6 (.step 7 (.step 8 (.step 9 (.step 10 (.step 11 (.step 12 (.step 13 (.step 14 (.step 15 (.step 16 (.step 17 (.step 18 (.step 19 (.step 20 (.step 21 (.step 22 (.step 23 (.step 24 (.done))))))))))))))))))))))))), [(2, [0, 1]), (3, [0, 1, 2]), (4, [0, 1, 2, 3]), (5, [0, 1, 2, 3, 4]), (6, [0, 1, 2, 3, 4, 5]), (7, [0, 1, 2, 3, 4, 5, 6]), (8, [0, 1, 2, 3, 4, 5, 6, 7]), (9, [0, 1, 2, 3, 4, 5, 6, 7, 8]), (10, [0, 1, 2, 3, 4, 5, 6, 7, 8, 9]), (11, [0, 1, 2, 3, 4, 5, 6, 7, 8, 9]), (12, [0, 1, 2, 3, 4, 5, 6, 7, 8, 9, 11]), (13, [0, 1, 2, 3, 4, 5, 6, 7, 8, 9, 10, 11, 12]), (14, [0, 1, 2, 3, 4, 5, 6, 7, 8, 9, 10, 11, 12, 13]), (15, [0, 1, 2, 3, 4, 5, 6, 7, 8, 9, 10, 11, 12, 13, 14]), (16, [0, 1, 2, 3, 4, 5, 6, 7, 8, 9]), (17, [0, 1, 2, 3, 4, 5, 6, 7, 8, 9]), (18, [0, 1, 2, 3, 4, 5, 6, 7, 8, 9, 16, 17]), (19, [0, 1, 2, 3, 4, 5, 6, 7, 8, 9, 16, 17, 18]), (20, [0, 1, 2, 3, 4, 5, 6, 7, 8, 9, 16, 17, 18, 19]), (21, [0, 1, 2, 3, 4, 5, 6, 7, 8, 9, 10, 11, 12, 13, 14, 15, 16, 17, 18, 19, 20]), (22, [0, 1, 2, 3, 4, 5, 6, 7, 8, 9, 10, 11, 12, 13, 14, 15, 16, 17, 18, 19, 20, 21]), (23, [0, 1, 2, 3, 4, 5, 6, 7, 8, 9, 10, 11, 12, 13, 14, 15, 16, 17, 18, 19, 20, 21, 22]), (24, [0, 1, 2, 3, 4, 5, 6, 7, 8, 9, 10, 11, 12, 13, 14, 15, 16, 17, 18, 19, 20, 21, 22, 23])]⟩
  | 7 => ⟨[0, 2, 3, 4], [], [], .done, []⟩
  | 9 => ⟨[], [], [], .step 0 (.step 1 (.step 2 (.step 3 (.step 4 (.step 5 (.step 6 (.step 7 (.step 8 (.step 9 (.step 10 (.step 11 (.step 12 (.step 13 (.step 14 (.step 15 (.step 16 (.step 17 (.done)))))))))))))))))), [(2, [0, 1]), (3, [0, 1, 2]), (4, [0, 1, 2, 3]), (5, [0, 1, 2, 3, 4]), (6, [0, 1, 2, 3, 4, 5]), (7, [0, 1, 2, 3, 4, 5]), (8, [0, 1, 2, 3, 4, 5, 6, 7]), (9, [0, 1, 2, 3, 4, 5, 6, 7, 8]), (10, [0, 1, 2, 3, 4, 5, 6, 7, 8, 9]), (11, [0, 1, 2, 3, 4, 5]), (12, [0, 1, 2, 3, 4, 5]), (13, [0, 1, 2, 3, 4, 5, 11, 12]), (14, [0, 1, 2, 3, 4, 5, 11, 12, 13]), (15, [0, 1, 2, 3, 4, 5, 11, 12, 13, 14]), (16, [0, 1, 2, 3, 4, 5, 6, 7, 8, 9, 10, 11, 12, 13, 14, 15]), (17, [0, 1, 2, 3, 4, 5, 6, 7, 8, 9, 10, 11, 12, 13, 14, 15, 16])]⟩
  | _ => ⟨[], [], [], .done, []⟩
def esc_spec_TrailOk : Nat → Bool
  | _ => false
def vc_spec_TrailOk (w0 : World) (a0 : Value) (σ : Vw) (R : Value → Vw → Prop) : Prop :=
  pLoop (fun l0 K1 s2 => pLen (vget l0 0) (fun v3 => pBin Try.prog 3 BinOp.lss (vget l0 2) v3 (fun v4 => pIf v4 (pIndexAddr 2 (vget l0 0) (vget l0 2) (fun v5 => pLoad w0 2 v5 s2 (fun g6 => AC Try.prog w0 n_spec_l11MarkOk ([Value.agg (⟨[g6 0, g6 1]⟩)]) s2 (fun v7 s8 => pUn UnOp.not v7 (fun v9 => pIf v9 (K1 AX.ret [vget l0 0, Value.bool false, vget l0 2] s8) (pBin Try.prog 3 BinOp.gtr (vget l0 2) (Value.int IntKind.i64 0) (fun v10 => pIf v10 (pBin Try.prog 3 BinOp.sub (vget l0 2) (Value.int IntKind.i64 1) (fun v11 => pIndexAddr 2 (vget l0 0) v11 (fun v12 => pField 0 v12 (fun v13 => pLoad w0 1 v13 s8 (fun g14 => pIndexAddr 2 (vget l0 0) (vget l0 2) (fun v15 => pField 0 v15 (fun v16 => pLoad w0 1 v16 s8 (fun g17 => AC Try.prog w0 n_spec_l11Less [g14 0, g17 0] s8 (fun v18 s19 => pUn UnOp.not v18 (fun v20 => pIf v20 (K1 AX.ret [vget l0 0, Value.bool false, vget l0 2] s19) (pLoop (fun l21 K22 s23 => pBin Try.prog 3 BinOp.lss (vget l21 3) (vget l21 2) (fun v24 => pIf v24 (pIndexAddr 2 (vget l21 0) (vget l21 3) (fun v25 => pField 1 v25 (fun v26 => pLoad w0 1 v26 s23 (fun g27 => pIf (g27 0) (pIndexAddr 2 (vget l21 0) (vget l21 2) (fun v28 => pField 0 v28 (fun v29 => pLoad w0 1 v29 s23 (fun g30 => pIndexAddr 2 (vget l21 0) (vget l21 3) (fun v31 => pField 0 v31 (fun v32 => pLoad w0 1 v32 s23 (fun g33 => AC Try.prog w0 n_spec_l2Within [g30 0, g33 0] s23 (fun v34 s35 => pIf v34 (K22 AX.ret [vget l21 0, Value.bool false, vget l21 2, vget l21 3] s35) (pBin Try.prog 3 BinOp.add (vget l21 3) (Value.int IntKind.i64 1) (fun v36 => K22 AX.normal [vget l21 0, vget l21 1, vget l21 2, v36] s35)))))))))) (pBin Try.prog 3 BinOp.add (vget l21 3) (Value.int IntKind.i64 1) (fun v37 => K22 AX.normal [vget l21 0, vget l21 1, vget l21 2, v37] s23)))))) (K22 (AX.exit 2) [vget l21 0, vget l21 1, vget l21 2, vget l21 3] s23))) [vget l0 0, vget l0 1, vget l0 2, Value.int IntKind.i64 0] s19 (fun x38 l39 s40 => match x38 with | .normal => pBin Try.prog 3 BinOp.add (vget l39 2) (Value.int IntKind.i64 1) (fun v41 => K1 AX.normal [vget l39 0, vget l39 1, v41] s40) | .ret => K1 AX.ret [vget l39 0, vget l39 1, vget l39 2] s40 | .exit i42 => (match Nat.beq i42 2 with | true => pBin Try.prog 3 BinOp.add (vget l39 2) (Value.int IntKind.i64 1) (fun v43 => K1 AX.normal [vget l39 0, vget l39 1, v43] s40) | false => (match Nat.beq i42 1 with | true => pBin Try.prog 3 BinOp.add (vget l39 2) (Value.int IntKind.i64 1) (fun v44 => K1 AX.normal [vget l39 0, vget l39 1, v44] s40) | false => K1 (AX.exit i42) [vget l39 0, vget l39 1, vget l39 2] s40)))))))))))))) (pLoop (fun l45 K46 s47 => pBin Try.prog 3 BinOp.lss (vget l45 3) (vget l45 2) (fun v48 => pIf v48 (pIndexAddr 2 (vget l45 0) (vget l45 3) (fun v49 => pField 1 v49 (fun v50 => pLoad w0 1 v50 s47 (fun g51 => pIf (g51 0) (pIndexAddr 2 (vget l45 0) (vget l45 2) (fun v52 => pField 0 v52 (fun v53 => pLoad w0 1 v53 s47 (fun g54 => pIndexAddr 2 (vget l45 0) (vget l45 3) (fun v55 => pField 0 v55 (fun v56 => pLoad w0 1 v56 s47 (fun g57 => AC Try.prog w0 n_spec_l2Within [g54 0, g57 0] s47 (fun v58 s59 => pIf v58 (K46 AX.ret [vget l45 0, Value.bool false, vget l45 2, vget l45 3] s59) (pBin Try.prog 3 BinOp.add (vget l45 3) (Value.int IntKind.i64 1) (fun v60 => K46 AX.normal [vget l45 0, vget l45 1, vget l45 2, v60] s59)))))))))) (pBin Try.prog 3 BinOp.add (vget l45 3) (Value.int IntKind.i64 1) (fun v61 => K46 AX.normal [vget l45 0, vget l45 1, vget l45 2, v61] s47)))))) (K46 (AX.exit 2) [vget l45 0, vget l45 1, vget l45 2, vget l45 3] s47))) [vget l0 0, vget l0 1, vget l0 2, Value.int IntKind.i64 0] s8 (fun x62 l63 s64 => match x62 with | .normal => pBin Try.prog 3 BinOp.add (vget l63 2) (Value.int IntKind.i64 1) (fun v65 => K1 AX.normal [vget l63 0, vget l63 1, v65] s64) | .ret => K1 AX.ret [vget l63 0, vget l63 1, vget l63 2] s64 | .exit i66 => (match Nat.beq i66 2 with | true => pBin Try.prog 3 BinOp.add (vget l63 2) (Value.int IntKind.i64 1) (fun v67 => K1 AX.normal [vget l63 0, vget l63 1, v67] s64) | false => (match Nat.beq i66 1 with | true => pBin Try.prog 3 BinOp.add (vget l63 2) (Value.int IntKind.i64 1) (fun v68 => K1 AX.normal [vget l63 0, vget l63 1, v68] s64) | false => K1 (AX.exit i66) [vget l63 0, vget l63 1, vget l63 2] s64))))))))))) (K1 (AX.exit 0) [vget l0 0, vget l0 1, vget l0 2] s2)))) [a0, Value.bool false, Value.int IntKind.i64 0] σ (fun x69 l70 s71 => match x69 with | .normal => pLen (vget l70 0) (fun v72 => pBin Try.prog 3 BinOp.leq v72 (Value.int IntKind.i64 6) (fun v73 => R v73 s71)) | .ret => R (vget l70 1) s71 | .exit i74 => (match Nat.beq i74 0 with | true => pLen (vget l70 0) (fun v75 => pBin Try.prog 3 BinOp.leq v75 (Value.int IntKind.i64 6) (fun v76 => R v76 s71)) | false => False))
theorem vc_spec_TrailOk_eq (w0 : World) (a0 : Value) (σ : Vw) (R : Value → Vw → Prop) : vc_spec_TrailOk w0 a0 σ R = den Try.prog w0 kp_spec_TrailOk esc_spec_TrailOk (Try.f56.body.getD .skip) (entry Try.f56.ntmps [a0]) σ (retK Try.prog Try.f56.results.toList R) := by kernel_rfl
theorem ac_spec_TrailOk {w0 : World} {a0 : Value} {σ : Vw} {R : Value → Vw → Prop} (h : vc_spec_TrailOk w0 a0 σ R) : AC Try.prog w0 n_spec_TrailOk [a0] σ R := by
  refine ac_rule (fn := Try.f56) (c := Try.f56.body.getD .skip) kp_spec_TrailOk esc_spec_TrailOk Try.func56 (by kernel_rfl) (by kernel_rfl) ?_
  rw [← vc_spec_TrailOk_eq]
  exact h

/-- impl.TrailOk -/
def kp_impl_TrailOk : Nat → Keep
  | 2 => ⟨[0, 2, 5, 6, 7], [], [], .done, []⟩
  | 4 => ⟨[], [], [], .step 0 (.step 1 (.step 2 (.step 3 (.step 4 (.step 5 (.step 6 (.step 7 (.step 8 (.step 9 (.step 10 (.step 11 (.step 12 (.step 13 (.step 14 (.step 15 (.step 16 (.step 17 (.step 18 (.step 19 (.step 20 (.step 21 (.step 22 (.step 23 (.step 24 (.step 25 (.step 26 (.done))))))))))))))))))))))))))), [(1, [0]), (2, [0, 1]), (3, [0, 1, 2]), (4, [0, 1, 2, 3]), (5, [0, 1, 2, 3, 4]), (6, [0, 1, 2, 3, 4, 5]), (7, [0, 1, 2, 3, 4, 5, 6]), (8, [0, 1, 2, 3, 4, 5, 6]), (9, [0, 1, 2, 3, 4, 5, 6, 8]), (10, [0, 1, 2, 3, 4, 5, 6, 7, 8, 9]), (11, [0, 1, 2, 3, 4, 5, 6, 7, 8, 9, 10]), (12, [0, 1, 2, 3, 4, 5, 6, 7, 8, 9, 10, 11]), (13, [0, 1, 2, 3, 4, 5, 6]), (14, [0, 1, 2, 3, 4, 5, 6, 13]), (15, [0, 1, 2, 3, 4, 5, 6, 7, 8, 9, 10, 11, 12, 13, 14]), (16, [0, 1, 2, 3, 4, 5, 6, 7, 8, 9, 10, 11, 12, 13, 14, 15]), (17, [0, 1, 2, 3, 4, 5, 6, 7, 8, 9, 10, 11, 12, 13, 14, 15, 16]), (18, [0, 1, 2, 3, 4, 5, 6, 7, 8, 9, 10, 11, 12, 13, 14, 15, 16, 17]), (19, [0, 1, 2, 3, 4, 5, 6, 7, 8, 9, 10, 11, 12, 13, 14, 15, 16, 17, 18]), (20, [0, 1, 2, 3, 4, 5, 6, 7, 8, 9, 10, 11, 12, 13, 14, 15, 16, 17, 18, 19]), (21, [0, 1, 2, 3, 4, 5, 6, 7, 8, 9, 10, 11, 12, 13, 14, 15, 16, 17, 18, 19]), (22, [0, 1, 2, 3, 4, 5, 6, 7, 8, 9, 10, 11, 12, 13, 14, 15, 16, 17, 18, 19, 20, 21]), (23, [0, 1, 2, 3, 4, 5, 6, 7, 8, 9, 10, 11, 12, 13, 14, 15, 16, 17, 18, 19]), (24, [0, 1, 2, 3, 4, 5, 6, 7, 8, 9, 10, 11, 12, 13, 14, 15, 16, 17, 18, 19, 23]), (25, [0, 1, 2, 3, 4, 5, 6, 7, 8, 9, 10, 11, 12, 13, 14, 15, 16, 17, 18, 19, 20, 21, 22, 23, 24]), (26, [0, 1, 2, 3, 4, 5, 6, 7, 8, 9, 10, 11, 12, 13, 14, 15, 16, 17, 18, 19, 20, 21, 22, 23, 24, 25])]⟩
  | _ => ⟨[], [], [], .done, []⟩
def esc_impl_TrailOk : Nat → Bool
  | _ => false
def vc_impl_TrailOk (w0 : World) (a0 : Value) (σ : Vw) (R : Value → Vw → Prop) : Prop :=
  pLen a0 (fun v0 => pLoop (fun l1 K2 s3 => pBin Try.prog 3 BinOp.lss (vget l1 4) (vget l1 3) (fun v4 => pIf v4 (pIndexAddr 2 (vget l1 2) (vget l1 4) (fun v5 => pLoad w0 2 v5 s3 (fun g6 => pVal true 2 (Value.agg (⟨[g6 0, g6 1]⟩)) (AC Try.prog w0 n_impl_markOk ([Value.agg (⟨[g6 0, g6 1]⟩)]) s3 (fun v7 s8 => pUn UnOp.not v7 (fun v9 => pIf v9 (K2 AX.ret [vget l1 0, Value.bool false, vget l1 2, vget l1 3, vget l1 4] s8) (pBin Try.prog 3 BinOp.gtr (vget l1 4) (Value.int IntKind.i64 0) (fun v10 => pIf v10 (pBin Try.prog 3 BinOp.sub (vget l1 4) (Value.int IntKind.i64 1) (fun v11 => pIndexAddr 2 (vget l1 0) v11 (fun v12 => pField 0 v12 (fun v13 => pLoad w0 1 v13 s8 (fun g14 => AC Try.prog w0 n_slices_Compare_string_string [g14 0, g6 0] s8 (fun v15 s16 => pBin Try.prog 3 BinOp.geq v15 (Value.int IntKind.i64 0) (fun v17 => pIf v17 (K2 AX.ret [vget l1 0, Value.bool false, vget l1 2, vget l1 3, vget l1 4] s16) (pSlice 2 (vget l1 0) Option.none (Option.some (vget l1 4)) (fun v18 => AC Try.prog w0 n_impl_under [v18, g6 0] s16 (fun v19 s20 => pIf v19 (K2 AX.ret [vget l1 0, Value.bool false, vget l1 2, vget l1 3, vget l1 4] s20) (pBin Try.prog 3 BinOp.add (vget l1 4) (Value.int IntKind.i64 1) (fun v21 => K2 AX.normal [vget l1 0, vget l1 1, vget l1 2, vget l1 3, v21] s20)))))))))))) (pSlice 2 (vget l1 0) Option.none (Option.some (vget l1 4)) (fun v22 => AC Try.prog w0 n_impl_under [v22, g6 0] s8 (fun v23 s24 => pIf v23 (K2 AX.ret [vget l1 0, Value.bool false, vget l1 2, vget l1 3, vget l1 4] s24) (pBin Try.prog 3 BinOp.add (vget l1 4) (Value.int IntKind.i64 1) (fun v25 => K2 AX.normal [vget l1 0, vget l1 1, vget l1 2, vget l1 3, v25] s24))))))))))))) (K2 (AX.exit 0) [vget l1 0, vget l1 1, vget l1 2, vget l1 3, vget l1 4] s3))) [a0, Value.bool false, a0, v0, Value.int IntKind.i64 0] σ (fun x26 l27 s28 => match x26 with | .normal => pLen (vget l27 0) (fun v29 => pBin Try.prog 3 BinOp.leq v29 (Value.int IntKind.i64 6) (fun v30 => R v30 s28)) | .ret => R (vget l27 1) s28 | .exit i31 => (match Nat.beq i31 0 with | true => pLen (vget l27 0) (fun v32 => pBin Try.prog 3 BinOp.leq v32 (Value.int IntKind.i64 6) (fun v33 => R v33 s28)) | false => False)))
theorem vc_impl_TrailOk_eq (w0 : World) (a0 : Value) (σ : Vw) (R : Value → Vw → Prop) : vc_impl_TrailOk w0 a0 σ R = den Try.prog w0 kp_impl_TrailOk esc_impl_TrailOk (Try.f58.body.getD .skip) (entry Try.f58.ntmps [a0]) σ (retK Try.prog Try.f58.results.toList R) := by kernel_rfl
theorem ac_impl_TrailOk {w0 : World} {a0 : Value} {σ : Vw} {R : Value → Vw → Prop} (h : vc_impl_TrailOk w0 a0 σ R) : AC Try.prog w0 n_impl_TrailOk [a0] σ R := by
  refine ac_rule (fn := Try.f58) (c := Try.f58.body.getD .skip) kp_impl_TrailOk esc_impl_TrailOk Try.func58 (by kernel_rfl) (by kernel_rfl) ?_
  rw [← vc_impl_TrailOk_eq]
  exact h

/-- laws.markText -/
def kp_laws_markText : Nat → Keep
  | 4 => ⟨[0, 3], [], [], .done, []⟩
  | _ => ⟨[], [], [], .done, []⟩
def esc_laws_markText : Nat → Bool
  | 12 => true
  | _ => false
def vc_laws_markText (w0 : World) (a0 : Value) (σ : Vw) (R : Value → Vw → Prop) : Prop :=
  pBin Try.prog 3 BinOp.leq a0 (Value.int IntKind.i64 0) (fun v0 => pIf v0 (R (Value.string ({ data := #[109, 48] })) σ) (pLoop (fun l1 K2 s3 => pBin Try.prog 3 BinOp.gtr (vget l1 0) (Value.int IntKind.i64 0) (fun v4 => pIf v4 (pBin Try.prog 3 BinOp.rem (vget l1 0) (Value.int IntKind.i64 10) (fun v5 => pBin Try.prog 3 BinOp.add (Value.int IntKind.i64 48) v5 (fun v6 => pConvInt IntKind.u8 v6 (fun v7 => pVal false 1 v7 (pNew w0 5 [v7] s3 (fun n8 s9 => pStr w0 (Value.slice (Option.some (Addr.mk n8 0 Option.none)) 1 1) s9 (fun v10 => pBin Try.prog 9 BinOp.add v10 (vget l1 1) (fun v11 => pBin Try.prog 3 BinOp.quo (vget l1 0) (Value.int IntKind.i64 10) (fun v12 => K2 AX.normal [v12, v11] s9))))))))) (K2 (AX.exit 0) [vget l1 0, vget l1 1] s3))) ([a0, Value.string ({ data := #[] })]) σ (fun x13 l14 s15 => match x13 with | .normal => pBin Try.prog 9 BinOp.add (Value.string ({ data := #[109] })) (vget l14 1) (fun v16 => R v16 s15) | .ret => False | .exit i17 => (match Nat.beq i17 0 with | true => pBin Try.prog 9 BinOp.add (Value.string ({ data := #[109] })) (vget l14 1) (fun v18 => R v18 s15) | false => False))))
theorem vc_laws_markText_eq (w0 : World) (a0 : Value) (σ : Vw) (R : Value → Vw → Prop) : vc_laws_markText w0 a0 σ R = den Try.prog w0 kp_laws_markText esc_laws_markText (Try.f69.body.getD .skip) (entry Try.f69.ntmps [a0]) σ (retK Try.prog Try.f69.results.toList R) := by kernel_rfl
theorem ac_laws_markText {w0 : World} {a0 : Value} {σ : Vw} {R : Value → Vw → Prop} (h : vc_laws_markText w0 a0 σ R) : AC Try.prog w0 n_laws_markText [a0] σ R := by
  refine ac_rule (fn := Try.f69) (c := Try.f69.body.getD .skip) kp_laws_markText esc_laws_markText Try.func69 (by kernel_rfl) (by kernel_rfl) ?_
  rw [← vc_laws_markText_eq]
  exact h

/-- laws.heldStringS -/
def kp_laws_heldStringS : Nat → Keep
  | 2 => ⟨[0, 1, 4, 5], [], [], .done, []⟩
  | 4 => ⟨[], [], [], .step 0 (.step 1 (.step 2 (.step 3 (.step 4 (.step 5 (.step 6 (.done))))))), [(2, [0, 1]), (3, [0, 1, 2]), (5, [4]), (6, [0, 1, 2, 3, 4, 5])]⟩
  | _ => ⟨[], [], [], .done, []⟩
def esc_laws_heldStringS : Nat → Bool
  | _ => false
def vc_laws_heldStringS (w0 : World) (a0 a1 : Value) (σ : Vw) (R : Value → Vw → Prop) : Prop :=
  pLoop (fun l0 K1 s2 => pLen (vget l0 0) (fun v3 => pBin Try.prog 3 BinOp.lss (vget l0 3) v3 (fun v4 => pIf v4 (pIndexAddr 1 (vget l0 0) (vget l0 3) (fun v5 => pLoad w0 1 v5 s2 (fun g6 => AC Try.prog w0 n_laws_markText [vget l0 1] s2 (fun v7 s8 => (Stay w0 s2 s8 v5 1) ∧ (pBin Try.prog 9 BinOp.neq (g6 0) v7 (fun v9 => pIf v9 (K1 AX.ret [vget l0 0, vget l0 1, Value.int IntKind.i64 (-1), vget l0 3] s8) (pBin Try.prog 3 BinOp.add (vget l0 1) (Value.int IntKind.i64 1) (fun v10 => pBin Try.prog 3 BinOp.add (vget l0 3) (Value.int IntKind.i64 1) (fun v11 => K1 AX.normal [vget l0 0, v10, vget l0 2, v11] s8))))))))) (K1 (AX.exit 0) [vget l0 0, vget l0 1, vget l0 2, vget l0 3] s2)))) [a0, a1, Value.int IntKind.i64 0, Value.int IntKind.i64 0] σ (fun x12 l13 s14 => match x12 with | .normal => R (vget l13 1) s14 | .ret => R (vget l13 2) s14 | .exit i15 => (match Nat.beq i15 0 with | true => R (vget l13 1) s14 | false => False))
theorem vc_laws_heldStringS_eq (w0 : World) (a0 a1 : Value) (σ : Vw) (R : Value → Vw → Prop) : vc_laws_heldStringS w0 a0 a1 σ R = den Try.prog w0 kp_laws_heldStringS esc_laws_heldStringS (Try.f70.body.getD .skip) (entry Try.f70.ntmps [a0, a1]) σ (retK Try.prog Try.f70.results.toList R) := by kernel_rfl
theorem ac_laws_heldStringS {w0 : World} {a0 a1 : Value} {σ : Vw} {R : Value → Vw → Prop} (h : vc_laws_heldStringS w0 a0 a1 σ R) : AC Try.prog w0 n_laws_heldStringS [a0, a1] σ R := by
  refine ac_rule (fn := Try.f70) (c := Try.f70.body.getD .skip) kp_laws_heldStringS esc_laws_heldStringS Try.func70 (by kernel_rfl) (by kernel_rfl) ?_
  rw [← vc_laws_heldStringS_eq]
  exact h

end Go.Proofs.Ytlbpnfhhoalenaa

/- What each function owes, reckoned out, part 2. MADE BY PROGRAM (emit.py). -/
set_option linter.unusedVariables false
namespace Go.Proofs.Ytlbpnfhhoalenaa
open Go Go.Av

/-- spec.l11Copy -/
def kp_spec_l11Copy : Nat → Keep
  | 3 => ⟨[0, 3, 4], [], [], .done, []⟩
  | 5 => ⟨[], [], [], .step 0 (.step 2 (.step 3 (.step 4 (.step 5 (.step 6 (.step 8 (.step 9 (.step 10 (.step 11 (.step 12 (.step 1 (.step 7 (.step 13 (.step 14 (.step 15 (.step 16 (.done))))))))))))))))), [(4, [2, 3]), (5, [2, 3, 4]), (6, [2, 3, 4, 5]), (7, [1, 2, 3, 4, 5, 6]), (10, [8, 9]), (11, [8, 9, 10]), (12, [8, 9, 10, 11]), (13, [1, 2, 3, 4, 5, 6, 7, 8, 9, 10, 11, 12]), (14, [1, 2, 3, 4, 5, 6, 7, 8, 9, 10, 11, 12, 13]), (15, [0, 1, 2, 3, 4, 5, 6, 7, 8, 9, 10, 11, 12, 13, 14]), (16, [0, 1, 2, 3, 4, 5, 6, 7, 8, 9, 10, 11, 12, 13, 14, 15])]⟩
  | _ => ⟨[], [], [], .done, []⟩
def esc_spec_l11Copy : Nat → Bool
  | 5 => true
  | 13 => true
  | _ => false
def vc_spec_l11Copy (w0 : World) (a0 : Value) (σ : Vw) (R : Value → Vw → Prop) : Prop :=
  pNew w0 74 [] σ (fun n0 s1 => pLoop (fun l2 K3 s4 => pLen (vget l2 0) (fun v5 => pBin Try.prog 3 BinOp.lss (vget l2 2) v5 (fun v6 => pIf v6 (pIndexAddr 2 (vget l2 0) (vget l2 2) (fun v7 => pField 0 v7 (fun v8 => pLoad w0 1 v8 s4 (fun g9 => pIndexAddr 2 (vget l2 0) (vget l2 2) (fun v10 => pField 1 v10 (fun v11 => pLoad w0 1 v11 s4 (fun g12 => pNew w0 9 [] s4 (fun n13 s14 => (Stay w0 s4 s14 v11 1) ∧ ((Stay w0 s4 s14 v8 1) ∧ (pAppendS w0 9 1 16 (Value.slice (Option.some (Addr.mk n13 0 Option.none)) 0 0) (g9 0) s14 (fun v15 s16 => (Stay w0 s14 s16 v11 1) ∧ (pVal false 1 v15 (pVal false 1 (g12 0) (pVal true 2 (Value.agg (⟨[v15, g12 0]⟩)) ((allOne [v15, g12 0]) ∧ (pAppend w0 74 2 32 (vget l2 1) 1 [v15, g12 0] s16 (fun v17 s18 => pBin Try.prog 3 BinOp.add (vget l2 2) (Value.int IntKind.i64 1) (fun v19 => K3 AX.normal [vget l2 0, v17, v19] s18)))))))))))))))))) (K3 (AX.exit 0) [vget l2 0, vget l2 1, vget l2 2] s4)))) [a0, Value.slice (Option.some (Addr.mk n0 0 Option.none)) 0 0, Value.int IntKind.i64 0] s1 (fun x20 l21 s22 => match x20 with | .normal => R (vget l21 1) s22 | .ret => False | .exit i23 => (match Nat.beq i23 0 with | true => R (vget l21 1) s22 | false => False)))
theorem vc_spec_l11Copy_eq (w0 : World) (a0 : Value) (σ : Vw) (R : Value → Vw → Prop) : vc_spec_l11Copy w0 a0 σ R = den Try.prog w0 kp_spec_l11Copy esc_spec_l11Copy (Try.f82.body.getD .skip) (entry Try.f82.ntmps [a0]) σ (retK Try.prog Try.f82.results.toList R) := by kernel_rfl
theorem ac_spec_l11Copy {w0 : World} {a0 : Value} {σ : Vw} {R : Value → Vw → Prop} (h : vc_spec_l11Copy w0 a0 σ R) : AC Try.prog w0 n_spec_l11Copy [a0] σ R := by
  refine ac_rule (fn := Try.f82) (c := Try.f82.body.getD .skip) kp_spec_l11Copy esc_spec_l11Copy Try.func82 (by kernel_rfl) (by kernel_rfl) ?_
  rw [← vc_spec_l11Copy_eq]
  exact h

/-- spec.l11MarkOk -/
def kp_spec_l11MarkOk : Nat → Keep
  | _ => ⟨[], [], [], .done, []⟩
def esc_spec_l11MarkOk : Nat → Bool
  | _ => false
def vc_spec_l11MarkOk (w0 : World) (a0 : Value) (σ : Vw) (R : Value → Vw → Prop) : Prop :=
  pVal true 2 a0 (pLen (cellOf a0 0) (fun v0 => pBin Try.prog 3 BinOp.eql v0 (Value.int IntKind.i64 0) (fun v1 => pIf v1 (R (cellOf a0 1) σ) (AC Try.prog w0 n_spec_l2PathOk [cellOf a0 0] σ (fun v2 s3 => R v2 s3)))))
theorem vc_spec_l11MarkOk_eq (w0 : World) (a0 : Value) (σ : Vw) (R : Value → Vw → Prop) : vc_spec_l11MarkOk w0 a0 σ R = den Try.prog w0 kp_spec_l11MarkOk esc_spec_l11MarkOk (Try.f83.body.getD .skip) (entry Try.f83.ntmps [a0]) σ (retK Try.prog Try.f83.results.toList R) := by kernel_rfl
theorem ac_spec_l11MarkOk {w0 : World} {a0 : Value} {σ : Vw} {R : Value → Vw → Prop} (h : vc_spec_l11MarkOk w0 a0 σ R) : AC Try.prog w0 n_spec_l11MarkOk [a0] σ R := by
  refine ac_rule (fn := Try.f83) (c := Try.f83.body.getD .skip) kp_spec_l11MarkOk esc_spec_l11MarkOk Try.func83 (by kernel_rfl) (by kernel_rfl) ?_
  rw [← vc_spec_l11MarkOk_eq]
  exact h

/-- spec.l11Put -/
def kp_spec_l11Put : Nat → Keep
  | 6 => ⟨[0, 5, 6, 7], [(3, 2)], [3], .done, []⟩
  | _ => ⟨[], [], [], .done, []⟩
def esc_spec_l11Put : Nat → Bool
  | 25 => true
  | _ => false
def vc_spec_l11Put (w0 : World) (a0 a1 : Value) (σ : Vw) (R : Value → Vw → Prop) : Prop :=
  pVal true 2 a1 (AC Try.prog w0 n_spec_l11Under [a0, cellOf a1 0] σ (fun v0 s1 => pIf v0 (R a0 s1) (pUn UnOp.not (cellOf a1 1) (fun v2 => pIf v2 (AC Try.prog w0 n_spec_l11Marked [a0, cellOf a1 0] s1 (fun v3 s4 => pIf v3 (R a0 s4) (pNew w0 74 [] s4 (fun n5 s6 => pLoop (fun l7 K8 s9 => pLen (vget l7 0) (fun v10 => pBin Try.prog 3 BinOp.lss (vget l7 3) v10 (fun v11 => pIf v11 (pIndexAddr 2 (vget l7 0) (vget l7 3) (fun v12 => pLoad w0 2 v12 s9 (fun g13 => pVal true 2 (Value.agg (⟨[g13 0, g13 1]⟩)) (pIf (vget l7 5) (AC Try.prog w0 n_spec_l2Within [g13 0, vget l7 4] s9 (fun v14 s15 => pIf v14 (pBin Try.prog 3 BinOp.add (vget l7 3) (Value.int IntKind.i64 1) (fun v16 => K8 AX.normal [vget l7 0, vget l7 1, vget l7 2, v16, vget l7 4, vget l7 5] s15)) (pUn UnOp.not (vget l7 2) (fun v17 => pIf v17 (AC Try.prog w0 n_spec_l11Less [vget l7 4, g13 0] s15 (fun v18 s19 => pIf v18 (pVal true 2 (Value.agg (⟨[vget l7 4, vget l7 5]⟩)) ((allOne [vget l7 4, vget l7 5]) ∧ (pAppend w0 74 2 32 (vget l7 1) 1 [vget l7 4, vget l7 5] s19 (fun v20 s21 => pVal true 2 (Value.agg (⟨[g13 0, g13 1]⟩)) ((allOne [g13 0, g13 1]) ∧ (pAppend w0 74 2 32 v20 1 [g13 0, g13 1] s21 (fun v22 s23 => pBin Try.prog 3 BinOp.add (vget l7 3) (Value.int IntKind.i64 1) (fun v24 => K8 AX.normal [vget l7 0, v22, Value.bool true, v24, vget l7 4, vget l7 5] s23)))))))) (pVal true 2 (Value.agg (⟨[g13 0, g13 1]⟩)) ((allOne [g13 0, g13 1]) ∧ (pAppend w0 74 2 32 (vget l7 1) 1 [g13 0, g13 1] s19 (fun v25 s26 => pBin Try.prog 3 BinOp.add (vget l7 3) (Value.int IntKind.i64 1) (fun v27 => K8 AX.normal [vget l7 0, v25, vget l7 2, v27, vget l7 4, vget l7 5] s26))))))) (pVal true 2 (Value.agg (⟨[g13 0, g13 1]⟩)) ((allOne [g13 0, g13 1]) ∧ (pAppend w0 74 2 32 (vget l7 1) 1 [g13 0, g13 1] s15 (fun v28 s29 => pBin Try.prog 3 BinOp.add (vget l7 3) (Value.int IntKind.i64 1) (fun v30 => K8 AX.normal [vget l7 0, v28, vget l7 2, v30, vget l7 4, vget l7 5] s29))))))))) (pUn UnOp.not (vget l7 2) (fun v31 => pIf v31 (AC Try.prog w0 n_spec_l11Less [vget l7 4, g13 0] s9 (fun v32 s33 => pIf v32 (pVal true 2 (Value.agg (⟨[vget l7 4, vget l7 5]⟩)) ((allOne [vget l7 4, vget l7 5]) ∧ (pAppend w0 74 2 32 (vget l7 1) 1 [vget l7 4, vget l7 5] s33 (fun v34 s35 => pVal true 2 (Value.agg (⟨[g13 0, g13 1]⟩)) ((allOne [g13 0, g13 1]) ∧ (pAppend w0 74 2 32 v34 1 [g13 0, g13 1] s35 (fun v36 s37 => pBin Try.prog 3 BinOp.add (vget l7 3) (Value.int IntKind.i64 1) (fun v38 => K8 AX.normal [vget l7 0, v36, Value.bool true, v38, vget l7 4, vget l7 5] s37)))))))) (pVal true 2 (Value.agg (⟨[g13 0, g13 1]⟩)) ((allOne [g13 0, g13 1]) ∧ (pAppend w0 74 2 32 (vget l7 1) 1 [g13 0, g13 1] s33 (fun v39 s40 => pBin Try.prog 3 BinOp.add (vget l7 3) (Value.int IntKind.i64 1) (fun v41 => K8 AX.normal [vget l7 0, v39, vget l7 2, v41, vget l7 4, vget l7 5] s40))))))) (pVal true 2 (Value.agg (⟨[g13 0, g13 1]⟩)) ((allOne [g13 0, g13 1]) ∧ (pAppend w0 74 2 32 (vget l7 1) 1 [g13 0, g13 1] s9 (fun v42 s43 => pBin Try.prog 3 BinOp.add (vget l7 3) (Value.int IntKind.i64 1) (fun v44 => K8 AX.normal [vget l7 0, v42, vget l7 2, v44, vget l7 4, vget l7 5] s43))))))))))) (K8 (AX.exit 0) [vget l7 0, vget l7 1, vget l7 2, vget l7 3, vget l7 4, vget l7 5] s9)))) [a0, Value.slice (Option.some (Addr.mk n5 0 Option.none)) 0 0, Value.bool false, Value.int IntKind.i64 0, cellOf a1 0, cellOf a1 1] s6 (fun x45 l46 s47 => match x45 with | .normal => pUn UnOp.not (vget l46 2) (fun v48 => pIf v48 (pVal true 2 (Value.agg (⟨[vget l46 4, vget l46 5]⟩)) ((allOne [vget l46 4, vget l46 5]) ∧ (pAppend w0 74 2 32 (vget l46 1) 1 [vget l46 4, vget l46 5] s47 (fun v49 s50 => R v49 s50)))) (R (vget l46 1) s47)) | .ret => False | .exit i51 => (match Nat.beq i51 0 with | true => pUn UnOp.not (vget l46 2) (fun v52 => pIf v52 (pVal true 2 (Value.agg (⟨[vget l46 4, vget l46 5]⟩)) ((allOne [vget l46 4, vget l46 5]) ∧ (pAppend w0 74 2 32 (vget l46 1) 1 [vget l46 4, vget l46 5] s47 (fun v53 s54 => R v53 s54)))) (R (vget l46 1) s47)) | false => False)))))) (pNew w0 74 [] s1 (fun n55 s56 => pLoop (fun l57 K58 s59 => pLen (vget l57 0) (fun v60 => pBin Try.prog 3 BinOp.lss (vget l57 3) v60 (fun v61 => pIf v61 (pIndexAddr 2 (vget l57 0) (vget l57 3) (fun v62 => pLoad w0 2 v62 s59 (fun g63 => pVal true 2 (Value.agg (⟨[g63 0, g63 1]⟩)) (pIf (vget l57 5) (AC Try.prog w0 n_spec_l2Within [g63 0, vget l57 4] s59 (fun v64 s65 => pIf v64 (pBin Try.prog 3 BinOp.add (vget l57 3) (Value.int IntKind.i64 1) (fun v66 => K58 AX.normal [vget l57 0, vget l57 1, vget l57 2, v66, vget l57 4, vget l57 5] s65)) (pUn UnOp.not (vget l57 2) (fun v67 => pIf v67 (AC Try.prog w0 n_spec_l11Less [vget l57 4, g63 0] s65 (fun v68 s69 => pIf v68 (pVal true 2 (Value.agg (⟨[vget l57 4, vget l57 5]⟩)) ((allOne [vget l57 4, vget l57 5]) ∧ (pAppend w0 74 2 32 (vget l57 1) 1 [vget l57 4, vget l57 5] s69 (fun v70 s71 => pVal true 2 (Value.agg (⟨[g63 0, g63 1]⟩)) ((allOne [g63 0, g63 1]) ∧ (pAppend w0 74 2 32 v70 1 [g63 0, g63 1] s71 (fun v72 s73 => pBin Try.prog 3 BinOp.add (vget l57 3) (Value.int IntKind.i64 1) (fun v74 => K58 AX.normal [vget l57 0, v72, Value.bool true, v74, vget l57 4, vget l57 5] s73)))))))) (pVal true 2 (Value.agg (⟨[g63 0, g63 1]⟩)) ((allOne [g63 0, g63 1]) ∧ (pAppend w0 74 2 32 (vget l57 1) 1 [g63 0, g63 1] s69 (fun v75 s76 => pBin Try.prog 3 BinOp.add (vget l57 3) (Value.int IntKind.i64 1) (fun v77 => K58 AX.normal [vget l57 0, v75, vget l57 2, v77, vget l57 4, vget l57 5] s76))))))) (pVal true 2 (Value.agg (⟨[g63 0, g63 1]⟩)) ((allOne [g63 0, g63 1]) ∧ (pAppend w0 74 2 32 (vget l57 1) 1 [g63 0, g63 1] s65 (fun v78 s79 => pBin Try.prog 3 BinOp.add (vget l57 3) (Value.int IntKind.i64 1) (fun v80 => K58 AX.normal [vget l57 0, v78, vget l57 2, v80, vget l57 4, vget l57 5] s79))))))))) (pUn UnOp.not (vget l57 2) (fun v81 => pIf v81 (AC Try.prog w0 n_spec_l11Less [vget l57 4, g63 0] s59 (fun v82 s83 => pIf v82 (pVal true 2 (Value.agg (⟨[vget l57 4, vget l57 5]⟩)) ((allOne [vget l57 4, vget l57 5]) ∧ (pAppend w0 74 2 32 (vget l57 1) 1 [vget l57 4, vget l57 5] s83 (fun v84 s85 => pVal true 2 (Value.agg (⟨[g63 0, g63 1]⟩)) ((allOne [g63 0, g63 1]) ∧ (pAppend w0 74 2 32 v84 1 [g63 0, g63 1] s85 (fun v86 s87 => pBin Try.prog 3 BinOp.add (vget l57 3) (Value.int IntKind.i64 1) (fun v88 => K58 AX.normal [vget l57 0, v86, Value.bool true, v88, vget l57 4, vget l57 5] s87)))))))) (pVal true 2 (Value.agg (⟨[g63 0, g63 1]⟩)) ((allOne [g63 0, g63 1]) ∧ (pAppend w0 74 2 32 (vget l57 1) 1 [g63 0, g63 1] s83 (fun v89 s90 => pBin Try.prog 3 BinOp.add (vget l57 3) (Value.int IntKind.i64 1) (fun v91 => K58 AX.normal [vget l57 0, v89, vget l57 2, v91, vget l57 4, vget l57 5] s90))))))) (pVal true 2 (Value.agg (⟨[g63 0, g63 1]⟩)) ((allOne [g63 0, g63 1]) ∧ (pAppend w0 74 2 32 (vget l57 1) 1 [g63 0, g63 1] s59 (fun v92 s93 => pBin Try.prog 3 BinOp.add (vget l57 3) (Value.int IntKind.i64 1) (fun v94 => K58 AX.normal [vget l57 0, v92, vget l57 2, v94, vget l57 4, vget l57 5] s93))))))))))) (K58 (AX.exit 0) [vget l57 0, vget l57 1, vget l57 2, vget l57 3, vget l57 4, vget l57 5] s59)))) [a0, Value.slice (Option.some (Addr.mk n55 0 Option.none)) 0 0, Value.bool false, Value.int IntKind.i64 0, cellOf a1 0, cellOf a1 1] s56 (fun x95 l96 s97 => match x95 with | .normal => pUn UnOp.not (vget l96 2) (fun v98 => pIf v98 (pVal true 2 (Value.agg (⟨[vget l96 4, vget l96 5]⟩)) ((allOne [vget l96 4, vget l96 5]) ∧ (pAppend w0 74 2 32 (vget l96 1) 1 [vget l96 4, vget l96 5] s97 (fun v99 s100 => R v99 s100)))) (R (vget l96 1) s97)) | .ret => False | .exit i101 => (match Nat.beq i101 0 with | true => pUn UnOp.not (vget l96 2) (fun v102 => pIf v102 (pVal true 2 (Value.agg (⟨[vget l96 4, vget l96 5]⟩)) ((allOne [vget l96 4, vget l96 5]) ∧ (pAppend w0 74 2 32 (vget l96 1) 1 [vget l96 4, vget l96 5] s97 (fun v103 s104 => R v103 s104)))) (R (vget l96 1) s97)) | false => False))))))))
theorem vc_spec_l11Put_eq (w0 : World) (a0 a1 : Value) (σ : Vw) (R : Value → Vw → Prop) : vc_spec_l11Put w0 a0 a1 σ R = den Try.prog w0 kp_spec_l11Put esc_spec_l11Put (Try.f84.body.getD .skip) (entry Try.f84.ntmps [a0, a1]) σ (retK Try.prog Try.f84.results.toList R) := by kernel_rfl
theorem ac_spec_l11Put {w0 : World} {a0 a1 : Value} {σ : Vw} {R : Value → Vw → Prop} (h : vc_spec_l11Put w0 a0 a1 σ R) : AC Try.prog w0 n_spec_l11Put [a0, a1] σ R := by
  refine ac_rule (fn := Try.f84) (c := Try.f84.body.getD .skip) kp_spec_l11Put esc_spec_l11Put Try.func84 (by kernel_rfl) (by kernel_rfl) ?_
  rw [← vc_spec_l11Put_eq]
  exact h

/-- spec.l11Coarser -/
def kp_spec_l11Coarser : Nat → Keep
  | 3 => ⟨[0, 3, 4], [], [], .done, []⟩
  | 5 => ⟨[], [], [], .step 0 (.step 1 (.step 2 (.step 3 (.step 4 (.step 5 (.step 6 (.step 7 (.step 8 (.step 9 (.step 10 (.step 11 (.step 12 (.done))))))))))))), [(2, [0, 1]), (3, [0, 1, 2]), (4, [0, 1, 2, 3]), (5, [0, 1, 2, 3, 4]), (8, [6, 7]), (9, [6, 7, 8]), (10, [6, 7, 8, 9]), (11, [6, 7, 8, 9, 10]), (12, [0, 1, 2, 3, 4, 5, 6, 7, 8, 9, 10, 11])]⟩
  | _ => ⟨[], [], [], .done, []⟩
def esc_spec_l11Coarser : Nat → Bool
  | 32 => true
  | _ => false
def vc_spec_l11Coarser (w0 : World) (a0 : Value) (σ : Vw) (R : Value → Vw → Prop) : Prop :=
  pLoop (fun l0 K1 s2 => pLen (vget l0 0) (fun v3 => pBin Try.prog 3 BinOp.lss (vget l0 2) v3 (fun v4 => pIf v4 (pIndexAddr 2 (vget l0 0) (vget l0 2) (fun v5 => pField 0 v5 (fun v6 => pLoad w0 1 v6 s2 (fun g7 => pLen (g7 0) (fun v8 => pIndexAddr 2 (vget l0 0) (vget l0 1) (fun v9 => pField 0 v9 (fun v10 => pLoad w0 1 v10 s2 (fun g11 => pLen (g11 0) (fun v12 => pBin Try.prog 3 BinOp.geq v8 v12 (fun v13 => pIf v13 (pBin Try.prog 3 BinOp.add (vget l0 2) (Value.int IntKind.i64 1) (fun v14 => K1 AX.normal [vget l0 0, vget l0 2, v14] s2)) (pBin Try.prog 3 BinOp.add (vget l0 2) (Value.int IntKind.i64 1) (fun v15 => K1 AX.normal [vget l0 0, vget l0 1, v15] s2)))))))))))) (K1 (AX.exit 0) [vget l0 0, vget l0 1, vget l0 2] s2)))) [a0, Value.int IntKind.i64 0, Value.int IntKind.i64 1] σ (fun x16 l17 s18 => match x16 with | .normal => pIndexAddr 2 (vget l17 0) (vget l17 1) (fun v19 => pField 0 v19 (fun v20 => pLoad w0 1 v20 s18 (fun g21 => pNew w0 9 [] s18 (fun n22 s23 => pLen (g21 0) (fun v24 => pBin Try.prog 3 BinOp.sub v24 (Value.int IntKind.i64 1) (fun v25 => pSlice 1 (g21 0) Option.none (Option.some v25) (fun v26 => pAppendS w0 9 1 16 (Value.slice (Option.some (Addr.mk n22 0 Option.none)) 0 0) v26 s23 (fun v27 s28 => pVal false 1 v27 (pVal false 1 (Value.bool true) (AC Try.prog w0 n_spec_l11Put ([vget l17 0, Value.agg (⟨[v27, Value.bool true]⟩)]) s28 (fun v29 s30 => R v29 s30))))))))))) | .ret => False | .exit i31 => (match Nat.beq i31 0 with | true => pIndexAddr 2 (vget l17 0) (vget l17 1) (fun v32 => pField 0 v32 (fun v33 => pLoad w0 1 v33 s18 (fun g34 => pNew w0 9 [] s18 (fun n35 s36 => pLen (g34 0) (fun v37 => pBin Try.prog 3 BinOp.sub v37 (Value.int IntKind.i64 1) (fun v38 => pSlice 1 (g34 0) Option.none (Option.some v38) (fun v39 => pAppendS w0 9 1 16 (Value.slice (Option.some (Addr.mk n35 0 Option.none)) 0 0) v39 s36 (fun v40 s41 => pVal false 1 v40 (pVal false 1 (Value.bool true) (AC Try.prog w0 n_spec_l11Put ([vget l17 0, Value.agg (⟨[v40, Value.bool true]⟩)]) s41 (fun v42 s43 => R v42 s43))))))))))) | false => False))
theorem vc_spec_l11Coarser_eq (w0 : World) (a0 : Value) (σ : Vw) (R : Value → Vw → Prop) : vc_spec_l11Coarser w0 a0 σ R = den Try.prog w0 kp_spec_l11Coarser esc_spec_l11Coarser (Try.f85.body.getD .skip) (entry Try.f85.ntmps [a0]) σ (retK Try.prog Try.f85.results.toList R) := by kernel_rfl
theorem ac_spec_l11Coarser {w0 : World} {a0 : Value} {σ : Vw} {R : Value → Vw → Prop} (h : vc_spec_l11Coarser w0 a0 σ R) : AC Try.prog w0 n_spec_l11Coarser [a0] σ R := by
  refine ac_rule (fn := Try.f85) (c := Try.f85.body.getD .skip) kp_spec_l11Coarser esc_spec_l11Coarser Try.func85 (by kernel_rfl) (by kernel_rfl) ?_
  rw [← vc_spec_l11Coarser_eq]
  exact h

/-- impl.markOk -/
def kp_impl_markOk : Nat → Keep
  | _ => ⟨[], [], [], .done, []⟩
def esc_impl_markOk : Nat → Bool
  | _ => false
def vc_impl_markOk (w0 : World) (a0 : Value) (σ : Vw) (R : Value → Vw → Prop) : Prop :=
  pVal true 2 a0 (AC Try.prog w0 n_impl_namesOk [cellOf a0 0, Value.int IntKind.i64 0] σ (fun v0 s1 => pIf v0 (pLen (cellOf a0 0) (fun v2 => pBin Try.prog 3 BinOp.gtr v2 (Value.int IntKind.i64 0) (fun v3 => pIf v3 (R (Value.bool true) s1) (R (cellOf a0 1) s1)))) (R (Value.bool false) s1)))
theorem vc_impl_markOk_eq (w0 : World) (a0 : Value) (σ : Vw) (R : Value → Vw → Prop) : vc_impl_markOk w0 a0 σ R = den Try.prog w0 kp_impl_markOk esc_impl_markOk (Try.f86.body.getD .skip) (entry Try.f86.ntmps [a0]) σ (retK Try.prog Try.f86.results.toList R) := by kernel_rfl
theorem ac_impl_markOk {w0 : World} {a0 : Value} {σ : Vw} {R : Value → Vw → Prop} (h : vc_impl_markOk w0 a0 σ R) : AC Try.prog w0 n_impl_markOk [a0] σ R := by
  refine ac_rule (fn := Try.f86) (c := Try.f86.body.getD .skip) kp_impl_markOk esc_impl_markOk Try.func86 (by kernel_rfl) (by kernel_rfl) ?_
  rw [← vc_impl_markOk_eq]
  exact h

/-- impl.cloneMarks -/
def kp_impl_cloneMarks : Nat → Keep
  | 3 => ⟨[3, 7, 8, 9], [], [], .done, []⟩
  | 5 => ⟨[], [], [], .step 0 (.step 2 (.step 3 (.step 5 (.step 6 (.step 1 (.step 4 (.step 7 (.step 8 (.step 9 (.step 10 (.done))))))))))), [(3, [2]), (4, [1, 2, 3]), (6, [5]), (7, [1, 2, 3, 4, 5, 6]), (8, [1, 2, 3, 4, 5, 6, 7]), (9, [0, 1, 2, 3, 4, 5, 6, 7, 8]), (10, [0, 1, 2, 3, 4, 5, 6, 7, 8, 9])]⟩
  | _ => ⟨[], [], [], .done, []⟩
def esc_impl_cloneMarks : Nat → Bool
  | 6 => true
  | 14 => true
  | _ => false
def vc_impl_cloneMarks (w0 : World) (a0 : Value) (σ : Vw) (R : Value → Vw → Prop) : Prop :=
  pNew w0 74 [] σ (fun n0 s1 => pLen a0 (fun v2 => pLoop (fun l3 K4 s5 => pBin Try.prog 3 BinOp.lss (vget l3 3) (vget l3 2) (fun v6 => pIf v6 (pIndexAddr 2 (vget l3 1) (vget l3 3) (fun v7 => pLoad w0 2 v7 s5 (fun g8 => pVal true 2 (Value.agg (⟨[g8 0, g8 1]⟩)) (pNew w0 9 [] s5 (fun n9 s10 => pAppendS w0 9 1 16 (Value.slice (Option.some (Addr.mk n9 0 Option.none)) 0 0) (g8 0) s10 (fun v11 s12 => pVal false 1 v11 (pVal false 1 (g8 1) (pVal true 2 (Value.agg (⟨[v11, g8 1]⟩)) ((allOne [v11, g8 1]) ∧ (pAppend w0 74 2 32 (vget l3 0) 1 [v11, g8 1] s12 (fun v13 s14 => pBin Try.prog 3 BinOp.add (vget l3 3) (Value.int IntKind.i64 1) (fun v15 => K4 AX.normal [v13, vget l3 1, vget l3 2, v15] s14)))))))))))) (K4 (AX.exit 0) [vget l3 0, vget l3 1, vget l3 2, vget l3 3] s5))) [Value.slice (Option.some (Addr.mk n0 0 Option.none)) 0 0, a0, v2, Value.int IntKind.i64 0] s1 (fun x16 l17 s18 => match x16 with | .normal => R (vget l17 0) s18 | .ret => False | .exit i19 => (match Nat.beq i19 0 with | true => R (vget l17 0) s18 | false => False))))
theorem vc_impl_cloneMarks_eq (w0 : World) (a0 : Value) (σ : Vw) (R : Value → Vw → Prop) : vc_impl_cloneMarks w0 a0 σ R = den Try.prog w0 kp_impl_cloneMarks esc_impl_cloneMarks (Try.f87.body.getD .skip) (entry Try.f87.ntmps [a0]) σ (retK Try.prog Try.f87.results.toList R) := by kernel_rfl
theorem ac_impl_cloneMarks {w0 : World} {a0 : Value} {σ : Vw} {R : Value → Vw → Prop} (h : vc_impl_cloneMarks w0 a0 σ R) : AC Try.prog w0 n_impl_cloneMarks [a0] σ R := by
  refine ac_rule (fn := Try.f87) (c := Try.f87.body.getD .skip) kp_impl_cloneMarks esc_impl_cloneMarks Try.func87 (by kernel_rfl) (by kernel_rfl) ?_
  rw [← vc_impl_cloneMarks_eq]
  exact h

/-- impl.add -/
def kp_impl_add : Nat → Keep
  | 5 => ⟨[5, 29, 30, 31], [(3, 2)], [3], .done, []⟩
  | 12 => ⟨[5], [], [], .done, []⟩
  | 15 => ⟨[5, 8, 60, 61, 62], [], [], .done, []⟩
  | 17 => ⟨[], [], [], .step 0 (.step 1 (.step 2 (.step 3 (.step 4 (.step 5 (.step 6 (.step 7 (.step 8 (.step 9 (.done)))))))))), [(1, [0]), (2, [0, 1]), (5, [3, 4]), (6, [3, 4, 5]), (7, [3, 4, 5, 6]), (8, [3, 4, 5, 6, 7]), (9, [0, 1, 2, 3, 4, 5, 6, 7, 8])]⟩
  | _ => ⟨[], [], [], .done, []⟩
def esc_impl_add : Nat → Bool
  | 28 => true
  | _ => false
def vc_impl_add (w0 : World) (a0 a1 : Value) (σ : Vw) (R : Value → Vw → Prop) : Prop :=
  pVal true 2 a1 (AC Try.prog w0 n_impl_under [a0, cellOf a1 0] σ (fun v0 s1 => pIf v0 (R a0 s1) (pUn UnOp.not (cellOf a1 1) (fun v2 => pIf v2 (AC Try.prog w0 n_impl_marked [a0, cellOf a1 0] s1 (fun v3 s4 => pIf v3 (R a0 s4) (pNew w0 74 [] s4 (fun n5 s6 => pLen a0 (fun v7 => pLoop (fun l8 K9 s10 => pBin Try.prog 3 BinOp.lss (vget l8 3) (vget l8 2) (fun v11 => pIf v11 (pIndexAddr 2 (vget l8 1) (vget l8 3) (fun v12 => pLoad w0 2 v12 s10 (fun g13 => pVal true 2 (Value.agg (⟨[g13 0, g13 1]⟩)) (pUn UnOp.not (vget l8 5) (fun v14 => pIf v14 (pVal true 2 (Value.agg (⟨[g13 0, g13 1]⟩)) ((allOne [g13 0, g13 1]) ∧ (pAppend w0 74 2 32 (vget l8 0) 1 [g13 0, g13 1] s10 (fun v15 s16 => pBin Try.prog 3 BinOp.add (vget l8 3) (Value.int IntKind.i64 1) (fun v17 => K9 AX.normal [v15, vget l8 1, vget l8 2, v17, vget l8 4, vget l8 5] s16))))) (AC Try.prog w0 n_impl_begins [g13 0, vget l8 4] s10 (fun v18 s19 => pUn UnOp.not v18 (fun v20 => pIf v20 (pVal true 2 (Value.agg (⟨[g13 0, g13 1]⟩)) ((allOne [g13 0, g13 1]) ∧ (pAppend w0 74 2 32 (vget l8 0) 1 [g13 0, g13 1] s19 (fun v21 s22 => pBin Try.prog 3 BinOp.add (vget l8 3) (Value.int IntKind.i64 1) (fun v23 => K9 AX.normal [v21, vget l8 1, vget l8 2, v23, vget l8 4, vget l8 5] s22))))) (pBin Try.prog 3 BinOp.add (vget l8 3) (Value.int IntKind.i64 1) (fun v24 => K9 AX.normal [vget l8 0, vget l8 1, vget l8 2, v24, vget l8 4, vget l8 5] s19)))))))))) (K9 (AX.exit 0) [vget l8 0, vget l8 1, vget l8 2, vget l8 3, vget l8 4, vget l8 5] s10))) [Value.slice (Option.some (Addr.mk n5 0 Option.none)) 0 0, a0, v7, Value.int IntKind.i64 0, cellOf a1 0, cellOf a1 1] s6 (fun x25 l26 s27 => match x25 with | .normal => pVal true 2 (Value.agg (⟨[vget l26 4, vget l26 5]⟩)) ((allOne [vget l26 4, vget l26 5]) ∧ (pAppend w0 74 2 32 (vget l26 0) 1 [vget l26 4, vget l26 5] s27 (fun v28 s29 => AC Try.prog w0 n_slices_SortFunc_impl_Mark_impl_Mark ([v28, Value.func (Fn.func 115) ⟨[]⟩ ⟨[]⟩]) s29 (fun v30 s31 => pLoop (fun l32 K33 s34 => pLen (vget l32 0) (fun v35 => pBin Try.prog 3 BinOp.gtr v35 (Value.int IntKind.i64 6) (fun v36 => pIf v36 (pLen (vget l32 0) (fun v37 => pLoop (fun l38 K39 s40 => pBin Try.prog 3 BinOp.lss (vget l38 4) (vget l38 3) (fun v41 => pIf v41 (pIndexAddr 2 (vget l38 2) (vget l38 4) (fun v42 => pLoad w0 2 v42 s40 (fun g43 => pVal true 2 (Value.agg (⟨[g43 0, g43 1]⟩)) (pLen (g43 0) (fun v44 => pIndexAddr 2 (vget l38 0) (vget l38 1) (fun v45 => pField 0 v45 (fun v46 => pLoad w0 1 v46 s40 (fun g47 => pLen (g47 0) (fun v48 => pBin Try.prog 3 BinOp.geq v44 v48 (fun v49 => pIf v49 (pBin Try.prog 3 BinOp.add (vget l38 4) (Value.int IntKind.i64 1) (fun v50 => K39 AX.normal [vget l38 0, vget l38 4, vget l38 2, vget l38 3, v50] s40)) (pBin Try.prog 3 BinOp.add (vget l38 4) (Value.int IntKind.i64 1) (fun v51 => K39 AX.normal [vget l38 0, vget l38 1, vget l38 2, vget l38 3, v51] s40)))))))))))) (K39 (AX.exit 4) [vget l38 0, vget l38 1, vget l38 2, vget l38 3, vget l38 4] s40))) [vget l32 0, Value.int IntKind.i64 0, vget l32 0, v37, Value.int IntKind.i64 0] s34 (fun x52 l53 s54 => match x52 with | .normal => pIndexAddr 2 (vget l53 0) (vget l53 1) (fun v55 => pField 0 v55 (fun v56 => pLoad w0 1 v56 s54 (fun g57 => pBin Try.prog 3 BinOp.add (vget l53 1) (Value.int IntKind.i64 1) (fun v58 => AC Try.prog w0 n_slices_Delete_impl_Mark_impl_Mark [vget l53 0, vget l53 1, v58] s54 (fun v59 s60 => pLen (g57 0) (fun v61 => pBin Try.prog 3 BinOp.sub v61 (Value.int IntKind.i64 1) (fun v62 => pSlice 1 (g57 0) Option.none (Option.some v62) (fun v63 => pVal false 1 v63 (pVal false 1 (Value.bool true) (AC Try.prog w0 n_impl_add ([v59, Value.agg (⟨[v63, Value.bool true]⟩)]) s60 (fun v64 s65 => K33 AX.normal [v64] s65))))))))))) | .ret => K33 AX.ret [vget l53 0] s54 | .exit i66 => (match Nat.beq i66 4 with | true => pIndexAddr 2 (vget l53 0) (vget l53 1) (fun v67 => pField 0 v67 (fun v68 => pLoad w0 1 v68 s54 (fun g69 => pBin Try.prog 3 BinOp.add (vget l53 1) (Value.int IntKind.i64 1) (fun v70 => AC Try.prog w0 n_slices_Delete_impl_Mark_impl_Mark [vget l53 0, vget l53 1, v70] s54 (fun v71 s72 => pLen (g69 0) (fun v73 => pBin Try.prog 3 BinOp.sub v73 (Value.int IntKind.i64 1) (fun v74 => pSlice 1 (g69 0) Option.none (Option.some v74) (fun v75 => pVal false 1 v75 (pVal false 1 (Value.bool true) (AC Try.prog w0 n_impl_add ([v71, Value.agg (⟨[v75, Value.bool true]⟩)]) s72 (fun v76 s77 => K33 AX.normal [v76] s77))))))))))) | false => (match Nat.beq i66 3 with | true => K33 AX.normal [vget l53 0] s54 | false => K33 (AX.exit i66) [vget l53 0] s54))))) (K33 (AX.exit 2) [vget l32 0] s34)))) [v28] s31 (fun x78 l79 s80 => match x78 with | .normal => R (vget l79 0) s80 | .ret => False | .exit i81 => (match Nat.beq i81 2 with | true => R (vget l79 0) s80 | false => False)))))) | .ret => False | .exit i82 => (match Nat.beq i82 0 with | true => pVal true 2 (Value.agg (⟨[vget l26 4, vget l26 5]⟩)) ((allOne [vget l26 4, vget l26 5]) ∧ (pAppend w0 74 2 32 (vget l26 0) 1 [vget l26 4, vget l26 5] s27 (fun v83 s84 => AC Try.prog w0 n_slices_SortFunc_impl_Mark_impl_Mark ([v83, Value.func (Fn.func 115) ⟨[]⟩ ⟨[]⟩]) s84 (fun v85 s86 => pLoop (fun l87 K88 s89 => pLen (vget l87 0) (fun v90 => pBin Try.prog 3 BinOp.gtr v90 (Value.int IntKind.i64 6) (fun v91 => pIf v91 (pLen (vget l87 0) (fun v92 => pLoop (fun l93 K94 s95 => pBin Try.prog 3 BinOp.lss (vget l93 4) (vget l93 3) (fun v96 => pIf v96 (pIndexAddr 2 (vget l93 2) (vget l93 4) (fun v97 => pLoad w0 2 v97 s95 (fun g98 => pVal true 2 (Value.agg (⟨[g98 0, g98 1]⟩)) (pLen (g98 0) (fun v99 => pIndexAddr 2 (vget l93 0) (vget l93 1) (fun v100 => pField 0 v100 (fun v101 => pLoad w0 1 v101 s95 (fun g102 => pLen (g102 0) (fun v103 => pBin Try.prog 3 BinOp.geq v99 v103 (fun v104 => pIf v104 (pBin Try.prog 3 BinOp.add (vget l93 4) (Value.int IntKind.i64 1) (fun v105 => K94 AX.normal [vget l93 0, vget l93 4, vget l93 2, vget l93 3, v105] s95)) (pBin Try.prog 3 BinOp.add (vget l93 4) (Value.int IntKind.i64 1) (fun v106 => K94 AX.normal [vget l93 0, vget l93 1, vget l93 2, vget l93 3, v106] s95)))))))))))) (K94 (AX.exit 4) [vget l93 0, vget l93 1, vget l93 2, vget l93 3, vget l93 4] s95))) [vget l87 0, Value.int IntKind.i64 0, vget l87 0, v92, Value.int IntKind.i64 0] s89 (fun x107 l108 s109 => match x107 with | .normal => pIndexAddr 2 (vget l108 0) (vget l108 1) (fun v110 => pField 0 v110 (fun v111 => pLoad w0 1 v111 s109 (fun g112 => pBin Try.prog 3 BinOp.add (vget l108 1) (Value.int IntKind.i64 1) (fun v113 => AC Try.prog w0 n_slices_Delete_impl_Mark_impl_Mark [vget l108 0, vget l108 1, v113] s109 (fun v114 s115 => pLen (g112 0) (fun v116 => pBin Try.prog 3 BinOp.sub v116 (Value.int IntKind.i64 1) (fun v117 => pSlice 1 (g112 0) Option.none (Option.some v117) (fun v118 => pVal false 1 v118 (pVal false 1 (Value.bool true) (AC Try.prog w0 n_impl_add ([v114, Value.agg (⟨[v118, Value.bool true]⟩)]) s115 (fun v119 s120 => K88 AX.normal [v119] s120))))))))))) | .ret => K88 AX.ret [vget l108 0] s109 | .exit i121 => (match Nat.beq i121 4 with | true => pIndexAddr 2 (vget l108 0) (vget l108 1) (fun v122 => pField 0 v122 (fun v123 => pLoad w0 1 v123 s109 (fun g124 => pBin Try.prog 3 BinOp.add (vget l108 1) (Value.int IntKind.i64 1) (fun v125 => AC Try.prog w0 n_slices_Delete_impl_Mark_impl_Mark [vget l108 0, vget l108 1, v125] s109 (fun v126 s127 => pLen (g124 0) (fun v128 => pBin Try.prog 3 BinOp.sub v128 (Value.int IntKind.i64 1) (fun v129 => pSlice 1 (g124 0) Option.none (Option.some v129) (fun v130 => pVal false 1 v130 (pVal false 1 (Value.bool true) (AC Try.prog w0 n_impl_add ([v126, Value.agg (⟨[v130, Value.bool true]⟩)]) s127 (fun v131 s132 => K88 AX.normal [v131] s132))))))))))) | false => (match Nat.beq i121 3 with | true => K88 AX.normal [vget l108 0] s109 | false => K88 (AX.exit i121) [vget l108 0] s109))))) (K88 (AX.exit 2) [vget l87 0] s89)))) [v83] s86 (fun x133 l134 s135 => match x133 with | .normal => R (vget l134 0) s135 | .ret => False | .exit i136 => (match Nat.beq i136 2 with | true => R (vget l134 0) s135 | false => False)))))) | false => False))))))) (pNew w0 74 [] s1 (fun n137 s138 => pLen a0 (fun v139 => pLoop (fun l140 K141 s142 => pBin Try.prog 3 BinOp.lss (vget l140 3) (vget l140 2) (fun v143 => pIf v143 (pIndexAddr 2 (vget l140 1) (vget l140 3) (fun v144 => pLoad w0 2 v144 s142 (fun g145 => pVal true 2 (Value.agg (⟨[g145 0, g145 1]⟩)) (pUn UnOp.not (vget l140 5) (fun v146 => pIf v146 (pVal true 2 (Value.agg (⟨[g145 0, g145 1]⟩)) ((allOne [g145 0, g145 1]) ∧ (pAppend w0 74 2 32 (vget l140 0) 1 [g145 0, g145 1] s142 (fun v147 s148 => pBin Try.prog 3 BinOp.add (vget l140 3) (Value.int IntKind.i64 1) (fun v149 => K141 AX.normal [v147, vget l140 1, vget l140 2, v149, vget l140 4, vget l140 5] s148))))) (AC Try.prog w0 n_impl_begins [g145 0, vget l140 4] s142 (fun v150 s151 => pUn UnOp.not v150 (fun v152 => pIf v152 (pVal true 2 (Value.agg (⟨[g145 0, g145 1]⟩)) ((allOne [g145 0, g145 1]) ∧ (pAppend w0 74 2 32 (vget l140 0) 1 [g145 0, g145 1] s151 (fun v153 s154 => pBin Try.prog 3 BinOp.add (vget l140 3) (Value.int IntKind.i64 1) (fun v155 => K141 AX.normal [v153, vget l140 1, vget l140 2, v155, vget l140 4, vget l140 5] s154))))) (pBin Try.prog 3 BinOp.add (vget l140 3) (Value.int IntKind.i64 1) (fun v156 => K141 AX.normal [vget l140 0, vget l140 1, vget l140 2, v156, vget l140 4, vget l140 5] s151)))))))))) (K141 (AX.exit 0) [vget l140 0, vget l140 1, vget l140 2, vget l140 3, vget l140 4, vget l140 5] s142))) [Value.slice (Option.some (Addr.mk n137 0 Option.none)) 0 0, a0, v139, Value.int IntKind.i64 0, cellOf a1 0, cellOf a1 1] s138 (fun x157 l158 s159 => match x157 with | .normal => pVal true 2 (Value.agg (⟨[vget l158 4, vget l158 5]⟩)) ((allOne [vget l158 4, vget l158 5]) ∧ (pAppend w0 74 2 32 (vget l158 0) 1 [vget l158 4, vget l158 5] s159 (fun v160 s161 => AC Try.prog w0 n_slices_SortFunc_impl_Mark_impl_Mark ([v160, Value.func (Fn.func 115) ⟨[]⟩ ⟨[]⟩]) s161 (fun v162 s163 => pLoop (fun l164 K165 s166 => pLen (vget l164 0) (fun v167 => pBin Try.prog 3 BinOp.gtr v167 (Value.int IntKind.i64 6) (fun v168 => pIf v168 (pLen (vget l164 0) (fun v169 => pLoop (fun l170 K171 s172 => pBin Try.prog 3 BinOp.lss (vget l170 4) (vget l170 3) (fun v173 => pIf v173 (pIndexAddr 2 (vget l170 2) (vget l170 4) (fun v174 => pLoad w0 2 v174 s172 (fun g175 => pVal true 2 (Value.agg (⟨[g175 0, g175 1]⟩)) (pLen (g175 0) (fun v176 => pIndexAddr 2 (vget l170 0) (vget l170 1) (fun v177 => pField 0 v177 (fun v178 => pLoad w0 1 v178 s172 (fun g179 => pLen (g179 0) (fun v180 => pBin Try.prog 3 BinOp.geq v176 v180 (fun v181 => pIf v181 (pBin Try.prog 3 BinOp.add (vget l170 4) (Value.int IntKind.i64 1) (fun v182 => K171 AX.normal [vget l170 0, vget l170 4, vget l170 2, vget l170 3, v182] s172)) (pBin Try.prog 3 BinOp.add (vget l170 4) (Value.int IntKind.i64 1) (fun v183 => K171 AX.normal [vget l170 0, vget l170 1, vget l170 2, vget l170 3, v183] s172)))))))))))) (K171 (AX.exit 4) [vget l170 0, vget l170 1, vget l170 2, vget l170 3, vget l170 4] s172))) [vget l164 0, Value.int IntKind.i64 0, vget l164 0, v169, Value.int IntKind.i64 0] s166 (fun x184 l185 s186 => match x184 with | .normal => pIndexAddr 2 (vget l185 0) (vget l185 1) (fun v187 => pField 0 v187 (fun v188 => pLoad w0 1 v188 s186 (fun g189 => pBin Try.prog 3 BinOp.add (vget l185 1) (Value.int IntKind.i64 1) (fun v190 => AC Try.prog w0 n_slices_Delete_impl_Mark_impl_Mark [vget l185 0, vget l185 1, v190] s186 (fun v191 s192 => pLen (g189 0) (fun v193 => pBin Try.prog 3 BinOp.sub v193 (Value.int IntKind.i64 1) (fun v194 => pSlice 1 (g189 0) Option.none (Option.some v194) (fun v195 => pVal false 1 v195 (pVal false 1 (Value.bool true) (AC Try.prog w0 n_impl_add ([v191, Value.agg (⟨[v195, Value.bool true]⟩)]) s192 (fun v196 s197 => K165 AX.normal [v196] s197))))))))))) | .ret => K165 AX.ret [vget l185 0] s186 | .exit i198 => (match Nat.beq i198 4 with | true => pIndexAddr 2 (vget l185 0) (vget l185 1) (fun v199 => pField 0 v199 (fun v200 => pLoad w0 1 v200 s186 (fun g201 => pBin Try.prog 3 BinOp.add (vget l185 1) (Value.int IntKind.i64 1) (fun v202 => AC Try.prog w0 n_slices_Delete_impl_Mark_impl_Mark [vget l185 0, vget l185 1, v202] s186 (fun v203 s204 => pLen (g201 0) (fun v205 => pBin Try.prog 3 BinOp.sub v205 (Value.int IntKind.i64 1) (fun v206 => pSlice 1 (g201 0) Option.none (Option.some v206) (fun v207 => pVal false 1 v207 (pVal false 1 (Value.bool true) (AC Try.prog w0 n_impl_add ([v203, Value.agg (⟨[v207, Value.bool true]⟩)]) s204 (fun v208 s209 => K165 AX.normal [v208] s209))))))))))) | false => (match Nat.beq i198 3 with | true => K165 AX.normal [vget l185 0] s186 | false => K165 (AX.exit i198) [vget l185 0] s186))))) (K165 (AX.exit 2) [vget l164 0] s166)))) [v160] s163 (fun x210 l211 s212 => match x210 with | .normal => R (vget l211 0) s212 | .ret => False | .exit i213 => (match Nat.beq i213 2 with | true => R (vget l211 0) s212 | false => False)))))) | .ret => False | .exit i214 => (match Nat.beq i214 0 with | true => pVal true 2 (Value.agg (⟨[vget l158 4, vget l158 5]⟩)) ((allOne [vget l158 4, vget l158 5]) ∧ (pAppend w0 74 2 32 (vget l158 0) 1 [vget l158 4, vget l158 5] s159 (fun v215 s216 => AC Try.prog w0 n_slices_SortFunc_impl_Mark_impl_Mark ([v215, Value.func (Fn.func 115) ⟨[]⟩ ⟨[]⟩]) s216 (fun v217 s218 => pLoop (fun l219 K220 s221 => pLen (vget l219 0) (fun v222 => pBin Try.prog 3 BinOp.gtr v222 (Value.int IntKind.i64 6) (fun v223 => pIf v223 (pLen (vget l219 0) (fun v224 => pLoop (fun l225 K226 s227 => pBin Try.prog 3 BinOp.lss (vget l225 4) (vget l225 3) (fun v228 => pIf v228 (pIndexAddr 2 (vget l225 2) (vget l225 4) (fun v229 => pLoad w0 2 v229 s227 (fun g230 => pVal true 2 (Value.agg (⟨[g230 0, g230 1]⟩)) (pLen (g230 0) (fun v231 => pIndexAddr 2 (vget l225 0) (vget l225 1) (fun v232 => pField 0 v232 (fun v233 => pLoad w0 1 v233 s227 (fun g234 => pLen (g234 0) (fun v235 => pBin Try.prog 3 BinOp.geq v231 v235 (fun v236 => pIf v236 (pBin Try.prog 3 BinOp.add (vget l225 4) (Value.int IntKind.i64 1) (fun v237 => K226 AX.normal [vget l225 0, vget l225 4, vget l225 2, vget l225 3, v237] s227)) (pBin Try.prog 3 BinOp.add (vget l225 4) (Value.int IntKind.i64 1) (fun v238 => K226 AX.normal [vget l225 0, vget l225 1, vget l225 2, vget l225 3, v238] s227)))))))))))) (K226 (AX.exit 4) [vget l225 0, vget l225 1, vget l225 2, vget l225 3, vget l225 4] s227))) [vget l219 0, Value.int IntKind.i64 0, vget l219 0, v224, Value.int IntKind.i64 0] s221 (fun x239 l240 s241 => match x239 with | .normal => pIndexAddr 2 (vget l240 0) (vget l240 1) (fun v242 => pField 0 v242 (fun v243 => pLoad w0 1 v243 s241 (fun g244 => pBin Try.prog 3 BinOp.add (vget l240 1) (Value.int IntKind.i64 1) (fun v245 => AC Try.prog w0 n_slices_Delete_impl_Mark_impl_Mark [vget l240 0, vget l240 1, v245] s241 (fun v246 s247 => pLen (g244 0) (fun v248 => pBin Try.prog 3 BinOp.sub v248 (Value.int IntKind.i64 1) (fun v249 => pSlice 1 (g244 0) Option.none (Option.some v249) (fun v250 => pVal false 1 v250 (pVal false 1 (Value.bool true) (AC Try.prog w0 n_impl_add ([v246, Value.agg (⟨[v250, Value.bool true]⟩)]) s247 (fun v251 s252 => K220 AX.normal [v251] s252))))))))))) | .ret => K220 AX.ret [vget l240 0] s241 | .exit i253 => (match Nat.beq i253 4 with | true => pIndexAddr 2 (vget l240 0) (vget l240 1) (fun v254 => pField 0 v254 (fun v255 => pLoad w0 1 v255 s241 (fun g256 => pBin Try.prog 3 BinOp.add (vget l240 1) (Value.int IntKind.i64 1) (fun v257 => AC Try.prog w0 n_slices_Delete_impl_Mark_impl_Mark [vget l240 0, vget l240 1, v257] s241 (fun v258 s259 => pLen (g256 0) (fun v260 => pBin Try.prog 3 BinOp.sub v260 (Value.int IntKind.i64 1) (fun v261 => pSlice 1 (g256 0) Option.none (Option.some v261) (fun v262 => pVal false 1 v262 (pVal false 1 (Value.bool true) (AC Try.prog w0 n_impl_add ([v258, Value.agg (⟨[v262, Value.bool true]⟩)]) s259 (fun v263 s264 => K220 AX.normal [v263] s264))))))))))) | false => (match Nat.beq i253 3 with | true => K220 AX.normal [vget l240 0] s241 | false => K220 (AX.exit i253) [vget l240 0] s241))))) (K220 (AX.exit 2) [vget l219 0] s221)))) [v215] s218 (fun x265 l266 s267 => match x265 with | .normal => R (vget l266 0) s267 | .ret => False | .exit i268 => (match Nat.beq i268 2 with | true => R (vget l266 0) s267 | false => False)))))) | false => False)))))))))
theorem vc_impl_add_eq (w0 : World) (a0 a1 : Value) (σ : Vw) (R : Value → Vw → Prop) : vc_impl_add w0 a0 a1 σ R = den Try.prog w0 kp_impl_add esc_impl_add (Try.f88.body.getD .skip) (entry Try.f88.ntmps [a0, a1]) σ (retK Try.prog Try.f88.results.toList R) := by kernel_rfl
theorem ac_impl_add {w0 : World} {a0 a1 : Value} {σ : Vw} {R : Value → Vw → Prop} (h : vc_impl_add w0 a0 a1 σ R) : AC Try.prog w0 n_impl_add [a0, a1] σ R := by
  refine ac_rule (fn := Try.f88) (c := Try.f88.body.getD .skip) kp_impl_add esc_impl_add Try.func88 (by kernel_rfl) (by kernel_rfl) ?_
  rw [← vc_impl_add_eq]
  exact h

/-- spec.l11Less -/
def kp_spec_l11Less : Nat → Keep
  | 2 => ⟨[0, 1, 4, 5], [], [], .done, []⟩
  | 4 => ⟨[], [], [], .step 0 (.step 1 (.step 2 (.step 3 (.step 4 (.step 5 (.step 6 (.step 7 (.step 8 (.done))))))))), [(2, [0, 1]), (3, [0, 1, 2]), (6, [4, 5]), (7, [4, 5, 6]), (8, [0, 1, 2, 3, 4, 5, 6, 7])]⟩
  | 5 => ⟨[], [], [], .step 0 (.step 1 (.step 2 (.step 3 (.step 4 (.step 5 (.step 6 (.step 7 (.step 8 (.step 9 (.done)))))))))), [(2, [0, 1]), (3, [0, 1, 2]), (6, [4, 5]), (7, [4, 5, 6]), (8, [0, 1, 2, 3, 4, 5, 6, 7]), (9, [0, 1, 2, 3, 4, 5, 6, 7, 8])]⟩
  | _ => ⟨[], [], [], .done, []⟩
def esc_spec_l11Less : Nat → Bool
  | _ => false
def vc_spec_l11Less (w0 : World) (a0 a1 : Value) (σ : Vw) (R : Value → Vw → Prop) : Prop :=
  pLoop (fun l0 K1 s2 => pLen (vget l0 0) (fun v3 => pBin Try.prog 3 BinOp.lss (vget l0 3) v3 (fun v4 => pIf v4 (pLen (vget l0 1) (fun v5 => pBin Try.prog 3 BinOp.lss (vget l0 3) v5 (fun v6 => pIf v6 (pIndexAddr 1 (vget l0 0) (vget l0 3) (fun v7 => pLoad w0 1 v7 s2 (fun g8 => pIndexAddr 1 (vget l0 1) (vget l0 3) (fun v9 => pLoad w0 1 v9 s2 (fun g10 => pBin Try.prog 9 BinOp.neq (g8 0) (g10 0) (fun v11 => pIf v11 (pIndexAddr 1 (vget l0 0) (vget l0 3) (fun v12 => pLoad w0 1 v12 s2 (fun g13 => pIndexAddr 1 (vget l0 1) (vget l0 3) (fun v14 => pLoad w0 1 v14 s2 (fun g15 => pBin Try.prog 9 BinOp.lss (g13 0) (g15 0) (fun v16 => K1 AX.ret [vget l0 0, vget l0 1, v16, vget l0 3] s2)))))) (pBin Try.prog 3 BinOp.add (vget l0 3) (Value.int IntKind.i64 1) (fun v17 => K1 AX.normal [vget l0 0, vget l0 1, vget l0 2, v17] s2)))))))) (K1 (AX.exit 0) [vget l0 0, vget l0 1, vget l0 2, vget l0 3] s2)))) (K1 (AX.exit 0) [vget l0 0, vget l0 1, vget l0 2, vget l0 3] s2)))) [a0, a1, Value.bool false, Value.int IntKind.i64 0] σ (fun x18 l19 s20 => match x18 with | .normal => pLen (vget l19 0) (fun v21 => pLen (vget l19 1) (fun v22 => pBin Try.prog 3 BinOp.lss v21 v22 (fun v23 => R v23 s20))) | .ret => R (vget l19 2) s20 | .exit i24 => (match Nat.beq i24 0 with | true => pLen (vget l19 0) (fun v25 => pLen (vget l19 1) (fun v26 => pBin Try.prog 3 BinOp.lss v25 v26 (fun v27 => R v27 s20))) | false => False))
theorem vc_spec_l11Less_eq (w0 : World) (a0 a1 : Value) (σ : Vw) (R : Value → Vw → Prop) : vc_spec_l11Less w0 a0 a1 σ R = den Try.prog w0 kp_spec_l11Less esc_spec_l11Less (Try.f92.body.getD .skip) (entry Try.f92.ntmps [a0, a1]) σ (retK Try.prog Try.f92.results.toList R) := by kernel_rfl
theorem ac_spec_l11Less {w0 : World} {a0 a1 : Value} {σ : Vw} {R : Value → Vw → Prop} (h : vc_spec_l11Less w0 a0 a1 σ R) : AC Try.prog w0 n_spec_l11Less [a0, a1] σ R := by
  refine ac_rule (fn := Try.f92) (c := Try.f92.body.getD .skip) kp_spec_l11Less esc_spec_l11Less Try.func92 (by kernel_rfl) (by kernel_rfl) ?_
  rw [← vc_spec_l11Less_eq]
  exact h

/-- spec.l2Within -/
def kp_spec_l2Within : Nat → Keep
  | 4 => ⟨[0, 1, 4, 5], [], [], .done, []⟩
  | 6 => ⟨[], [], [], .step 0 (.step 1 (.step 2 (.step 3 (.step 4 (.step 5 (.step 6 (.step 7 (.step 8 (.done))))))))), [(2, [0, 1]), (3, [0, 1, 2]), (6, [4, 5]), (7, [4, 5, 6]), (8, [0, 1, 2, 3, 4, 5, 6, 7])]⟩
  | _ => ⟨[], [], [], .done, []⟩
def esc_spec_l2Within : Nat → Bool
  | _ => false
def vc_spec_l2Within (w0 : World) (a0 a1 : Value) (σ : Vw) (R : Value → Vw → Prop) : Prop :=
  pLen a0 (fun v0 => pLen a1 (fun v1 => pBin Try.prog 3 BinOp.lss v0 v1 (fun v2 => pIf v2 (R (Value.bool false) σ) (pLoop (fun l3 K4 s5 => pLen (vget l3 1) (fun v6 => pBin Try.prog 3 BinOp.lss (vget l3 3) v6 (fun v7 => pIf v7 (pIndexAddr 1 (vget l3 0) (vget l3 3) (fun v8 => pLoad w0 1 v8 s5 (fun g9 => pIndexAddr 1 (vget l3 1) (vget l3 3) (fun v10 => pLoad w0 1 v10 s5 (fun g11 => pBin Try.prog 9 BinOp.neq (g9 0) (g11 0) (fun v12 => pIf v12 (K4 AX.ret [vget l3 0, vget l3 1, Value.bool false, vget l3 3] s5) (pBin Try.prog 3 BinOp.add (vget l3 3) (Value.int IntKind.i64 1) (fun v13 => K4 AX.normal [vget l3 0, vget l3 1, vget l3 2, v13] s5)))))))) (K4 (AX.exit 0) [vget l3 0, vget l3 1, vget l3 2, vget l3 3] s5)))) [a0, a1, Value.bool false, Value.int IntKind.i64 0] σ (fun x14 l15 s16 => match x14 with | .normal => R (Value.bool true) s16 | .ret => R (vget l15 2) s16 | .exit i17 => (match Nat.beq i17 0 with | true => R (Value.bool true) s16 | false => False))))))
theorem vc_spec_l2Within_eq (w0 : World) (a0 a1 : Value) (σ : Vw) (R : Value → Vw → Prop) : vc_spec_l2Within w0 a0 a1 σ R = den Try.prog w0 kp_spec_l2Within esc_spec_l2Within (Try.f93.body.getD .skip) (entry Try.f93.ntmps [a0, a1]) σ (retK Try.prog Try.f93.results.toList R) := by kernel_rfl
theorem ac_spec_l2Within {w0 : World} {a0 a1 : Value} {σ : Vw} {R : Value → Vw → Prop} (h : vc_spec_l2Within w0 a0 a1 σ R) : AC Try.prog w0 n_spec_l2Within [a0, a1] σ R := by
  refine ac_rule (fn := Try.f93) (c := Try.f93.body.getD .skip) kp_spec_l2Within esc_spec_l2Within Try.func93 (by kernel_rfl) (by kernel_rfl) ?_
  rw [← vc_spec_l2Within_eq]
  exact h

/-- slices.Compare[[]string,string] -/
def kp_slices_Compare_string_string : Nat → Keep
  | 2 => ⟨[0, 1, 4, 9, 10, 11], [], [], .done, []⟩
  | _ => ⟨[], [], [], .done, []⟩
def esc_slices_Compare_string_string : Nat → Bool
  | _ => false
def vc_slices_Compare_string_string (w0 : World) (a0 a1 : Value) (σ : Vw) (R : Value → Vw → Prop) : Prop :=
  pLen a0 (fun v0 => pLoop (fun l1 K2 s3 => pBin Try.prog 3 BinOp.lss (vget l1 5) (vget l1 4) (fun v4 => pIf v4 (pIndexAddr 1 (vget l1 3) (vget l1 5) (fun v5 => pLoad w0 1 v5 s3 (fun g6 => pLen (vget l1 1) (fun v7 => pBin Try.prog 3 BinOp.geq (vget l1 5) v7 (fun v8 => pIf v8 (K2 AX.ret [vget l1 0, vget l1 1, Value.int IntKind.i64 1, vget l1 3, vget l1 4, vget l1 5] s3) (pIndexAddr 1 (vget l1 1) (vget l1 5) (fun v9 => pLoad w0 1 v9 s3 (fun g10 => AC Try.prog w0 n_cmp_Compare_string [g6 0, g10 0] s3 (fun v11 s12 => pBin Try.prog 3 BinOp.neq v11 (Value.int IntKind.i64 0) (fun v13 => pIf v13 (K2 AX.ret [vget l1 0, vget l1 1, v11, vget l1 3, vget l1 4, vget l1 5] s12) (pBin Try.prog 3 BinOp.add (vget l1 5) (Value.int IntKind.i64 1) (fun v14 => K2 AX.normal [vget l1 0, vget l1 1, vget l1 2, vget l1 3, vget l1 4, v14] s12)))))))))))) (K2 (AX.exit 0) [vget l1 0, vget l1 1, vget l1 2, vget l1 3, vget l1 4, vget l1 5] s3))) [a0, a1, Value.int IntKind.i64 0, a0, v0, Value.int IntKind.i64 0] σ (fun x15 l16 s17 => match x15 with | .normal => pLen (vget l16 0) (fun v18 => pLen (vget l16 1) (fun v19 => pBin Try.prog 3 BinOp.lss v18 v19 (fun v20 => pIf v20 (R (Value.int IntKind.i64 (-1)) s17) (R (Value.int IntKind.i64 0) s17)))) | .ret => R (vget l16 2) s17 | .exit i21 => (match Nat.beq i21 0 with | true => pLen (vget l16 0) (fun v22 => pLen (vget l16 1) (fun v23 => pBin Try.prog 3 BinOp.lss v22 v23 (fun v24 => pIf v24 (R (Value.int IntKind.i64 (-1)) s17) (R (Value.int IntKind.i64 0) s17)))) | false => False)))
theorem vc_slices_Compare_string_string_eq (w0 : World) (a0 a1 : Value) (σ : Vw) (R : Value → Vw → Prop) : vc_slices_Compare_string_string w0 a0 a1 σ R = den Try.prog w0 kp_slices_Compare_string_string esc_slices_Compare_string_string (Try.f95.body.getD .skip) (entry Try.f95.ntmps [a0, a1]) σ (retK Try.prog Try.f95.results.toList R) := by kernel_rfl
theorem ac_slices_Compare_string_string {w0 : World} {a0 a1 : Value} {σ : Vw} {R : Value → Vw → Prop} (h : vc_slices_Compare_string_string w0 a0 a1 σ R) : AC Try.prog w0 n_slices_Compare_string_string [a0, a1] σ R := by
  refine ac_rule (fn := Try.f95) (c := Try.f95.body.getD .skip) kp_slices_Compare_string_string esc_slices_Compare_string_string Try.func95 (by kernel_rfl) (by kernel_rfl) ?_
  rw [← vc_slices_Compare_string_string_eq]
  exact h

/-- impl.under -/
def kp_impl_under : Nat → Keep
  | 2 => ⟨[1, 4, 7, 8, 9], [], [], .done, []⟩
  | _ => ⟨[], [], [], .done, []⟩
def esc_impl_under : Nat → Bool
  | _ => false
def vc_impl_under (w0 : World) (a0 a1 : Value) (σ : Vw) (R : Value → Vw → Prop) : Prop :=
  pLen a0 (fun v0 => pLoop (fun l1 K2 s3 => pBin Try.prog 3 BinOp.lss (vget l1 4) (vget l1 3) (fun v4 => pIf v4 (pIndexAddr 2 (vget l1 2) (vget l1 4) (fun v5 => pLoad w0 2 v5 s3 (fun g6 => pVal true 2 (Value.agg (⟨[g6 0, g6 1]⟩)) (pIf (g6 1) (AC Try.prog w0 n_impl_begins [vget l1 0, g6 0] s3 (fun v7 s8 => pIf v7 (K2 AX.ret [vget l1 0, Value.bool true, vget l1 2, vget l1 3, vget l1 4] s8) (pBin Try.prog 3 BinOp.add (vget l1 4) (Value.int IntKind.i64 1) (fun v9 => K2 AX.normal [vget l1 0, vget l1 1, vget l1 2, vget l1 3, v9] s8)))) (pBin Try.prog 3 BinOp.add (vget l1 4) (Value.int IntKind.i64 1) (fun v10 => K2 AX.normal [vget l1 0, vget l1 1, vget l1 2, vget l1 3, v10] s3)))))) (K2 (AX.exit 0) [vget l1 0, vget l1 1, vget l1 2, vget l1 3, vget l1 4] s3))) [a1, Value.bool false, a0, v0, Value.int IntKind.i64 0] σ (fun x11 l12 s13 => match x11 with | .normal => R (Value.bool false) s13 | .ret => R (vget l12 1) s13 | .exit i14 => (match Nat.beq i14 0 with | true => R (Value.bool false) s13 | false => False)))
theorem vc_impl_under_eq (w0 : World) (a0 a1 : Value) (σ : Vw) (R : Value → Vw → Prop) : vc_impl_under w0 a0 a1 σ R = den Try.prog w0 kp_impl_under esc_impl_under (Try.f96.body.getD .skip) (entry Try.f96.ntmps [a0, a1]) σ (retK Try.prog Try.f96.results.toList R) := by kernel_rfl
theorem ac_impl_under {w0 : World} {a0 a1 : Value} {σ : Vw} {R : Value → Vw → Prop} (h : vc_impl_under w0 a0 a1 σ R) : AC Try.prog w0 n_impl_under [a0, a1] σ R := by
  refine ac_rule (fn := Try.f96) (c := Try.f96.body.getD .skip) kp_impl_under esc_impl_under Try.func96 (by kernel_rfl) (by kernel_rfl) ?_
  rw [← vc_impl_under_eq]
  exact h

/-- spec.l2PathOk -/
def kp_spec_l2PathOk : Nat → Keep
  | 2 => ⟨[0, 2, 3], [], [], .done, []⟩
  | _ => ⟨[], [], [], .done, []⟩
def esc_spec_l2PathOk : Nat → Bool
  | _ => false
def vc_spec_l2PathOk (w0 : World) (a0 : Value) (σ : Vw) (R : Value → Vw → Prop) : Prop :=
  pLoop (fun l0 K1 s2 => pLen (vget l0 0) (fun v3 => pBin Try.prog 3 BinOp.lss (vget l0 2) v3 (fun v4 => pIf v4 (pIndexAddr 1 (vget l0 0) (vget l0 2) (fun v5 => pLoad w0 1 v5 s2 (fun g6 => AC Try.prog w0 n_spec_l1NameOk [g6 0] s2 (fun v7 s8 => pUn UnOp.not v7 (fun v9 => pIf v9 (K1 AX.ret [vget l0 0, Value.bool false, vget l0 2] s8) (pBin Try.prog 3 BinOp.add (vget l0 2) (Value.int IntKind.i64 1) (fun v10 => K1 AX.normal [vget l0 0, vget l0 1, v10] s8))))))) (K1 (AX.exit 0) [vget l0 0, vget l0 1, vget l0 2] s2)))) [a0, Value.bool false, Value.int IntKind.i64 0] σ (fun x11 l12 s13 => match x11 with | .normal => pLen (vget l12 0) (fun v14 => AC Try.prog w0 n_spec_l1In [v14, Value.int IntKind.i64 1, Value.int IntKind.i64 4] s13 (fun v15 s16 => R v15 s16)) | .ret => R (vget l12 1) s13 | .exit i17 => (match Nat.beq i17 0 with | true => pLen (vget l12 0) (fun v18 => AC Try.prog w0 n_spec_l1In [v18, Value.int IntKind.i64 1, Value.int IntKind.i64 4] s13 (fun v19 s20 => R v19 s20)) | false => False))
theorem vc_spec_l2PathOk_eq (w0 : World) (a0 : Value) (σ : Vw) (R : Value → Vw → Prop) : vc_spec_l2PathOk w0 a0 σ R = den Try.prog w0 kp_spec_l2PathOk esc_spec_l2PathOk (Try.f101.body.getD .skip) (entry Try.f101.ntmps [a0]) σ (retK Try.prog Try.f101.results.toList R) := by kernel_rfl
theorem ac_spec_l2PathOk {w0 : World} {a0 : Value} {σ : Vw} {R : Value → Vw → Prop} (h : vc_spec_l2PathOk w0 a0 σ R) : AC Try.prog w0 n_spec_l2PathOk [a0] σ R := by
  refine ac_rule (fn := Try.f101) (c := Try.f101.body.getD .skip) kp_spec_l2PathOk esc_spec_l2PathOk Try.func101 (by kernel_rfl) (by kernel_rfl) ?_
  rw [← vc_spec_l2PathOk_eq]
  exact h

/-- spec.l1In -/
def kp_spec_l1In : Nat → Keep
  | _ => ⟨[], [], [], .done, []⟩
def esc_spec_l1In : Nat → Bool
  | _ => false
def vc_spec_l1In (w0 : World) (a0 a1 a2 : Value) (σ : Vw) (R : Value → Vw → Prop) : Prop :=
  pBin Try.prog 3 BinOp.geq a0 a1 (fun v0 => pIf v0 (pBin Try.prog 3 BinOp.leq a0 a2 (fun v1 => R v1 σ)) (R (Value.bool false) σ))
theorem vc_spec_l1In_eq (w0 : World) (a0 a1 a2 : Value) (σ : Vw) (R : Value → Vw → Prop) : vc_spec_l1In w0 a0 a1 a2 σ R = den Try.prog w0 kp_spec_l1In esc_spec_l1In (Try.f102.body.getD .skip) (entry Try.f102.ntmps [a0, a1, a2]) σ (retK Try.prog Try.f102.results.toList R) := by kernel_rfl
theorem ac_spec_l1In {w0 : World} {a0 a1 a2 : Value} {σ : Vw} {R : Value → Vw → Prop} (h : vc_spec_l1In w0 a0 a1 a2 σ R) : AC Try.prog w0 n_spec_l1In [a0, a1, a2] σ R := by
  refine ac_rule (fn := Try.f102) (c := Try.f102.body.getD .skip) kp_spec_l1In esc_spec_l1In Try.func102 (by kernel_rfl) (by kernel_rfl) ?_
  rw [← vc_spec_l1In_eq]
  exact h

/-- spec.l11Under -/
def kp_spec_l11Under : Nat → Keep
  | 2 => ⟨[0, 1, 4, 5], [], [], .done, []⟩
  | _ => ⟨[], [], [], .done, []⟩
def esc_spec_l11Under : Nat → Bool
  | _ => false
def vc_spec_l11Under (w0 : World) (a0 a1 : Value) (σ : Vw) (R : Value → Vw → Prop) : Prop :=
  pLoop (fun l0 K1 s2 => pLen (vget l0 0) (fun v3 => pBin Try.prog 3 BinOp.lss (vget l0 3) v3 (fun v4 => pIf v4 (pIndexAddr 2 (vget l0 0) (vget l0 3) (fun v5 => pField 1 v5 (fun v6 => pLoad w0 1 v6 s2 (fun g7 => pIf (g7 0) (pIndexAddr 2 (vget l0 0) (vget l0 3) (fun v8 => pField 0 v8 (fun v9 => pLoad w0 1 v9 s2 (fun g10 => AC Try.prog w0 n_spec_l2Within [vget l0 1, g10 0] s2 (fun v11 s12 => pIf v11 (K1 AX.ret [vget l0 0, vget l0 1, Value.bool true, vget l0 3] s12) (pBin Try.prog 3 BinOp.add (vget l0 3) (Value.int IntKind.i64 1) (fun v13 => K1 AX.normal [vget l0 0, vget l0 1, vget l0 2, v13] s12))))))) (pBin Try.prog 3 BinOp.add (vget l0 3) (Value.int IntKind.i64 1) (fun v14 => K1 AX.normal [vget l0 0, vget l0 1, vget l0 2, v14] s2)))))) (K1 (AX.exit 0) [vget l0 0, vget l0 1, vget l0 2, vget l0 3] s2)))) [a0, a1, Value.bool false, Value.int IntKind.i64 0] σ (fun x15 l16 s17 => match x15 with | .normal => R (Value.bool false) s17 | .ret => R (vget l16 2) s17 | .exit i18 => (match Nat.beq i18 0 with | true => R (Value.bool false) s17 | false => False))
theorem vc_spec_l11Under_eq (w0 : World) (a0 a1 : Value) (σ : Vw) (R : Value → Vw → Prop) : vc_spec_l11Under w0 a0 a1 σ R = den Try.prog w0 kp_spec_l11Under esc_spec_l11Under (Try.f109.body.getD .skip) (entry Try.f109.ntmps [a0, a1]) σ (retK Try.prog Try.f109.results.toList R) := by kernel_rfl
theorem ac_spec_l11Under {w0 : World} {a0 a1 : Value} {σ : Vw} {R : Value → Vw → Prop} (h : vc_spec_l11Under w0 a0 a1 σ R) : AC Try.prog w0 n_spec_l11Under [a0, a1] σ R := by
  refine ac_rule (fn := Try.f109) (c := Try.f109.body.getD .skip) kp_spec_l11Under esc_spec_l11Under Try.func109 (by kernel_rfl) (by kernel_rfl) ?_
  rw [← vc_spec_l11Under_eq]
  exact h

/-- spec.l11Marked -/
def kp_spec_l11Marked : Nat → Keep
  | 2 => ⟨[0, 1, 4, 5], [], [], .done, []⟩
  | _ => ⟨[], [], [], .done, []⟩
def esc_spec_l11Marked : Nat → Bool
  | _ => false
def vc_spec_l11Marked (w0 : World) (a0 a1 : Value) (σ : Vw) (R : Value → Vw → Prop) : Prop :=
  pLoop (fun l0 K1 s2 => pLen (vget l0 0) (fun v3 => pBin Try.prog 3 BinOp.lss (vget l0 3) v3 (fun v4 => pIf v4 (pIndexAddr 2 (vget l0 0) (vget l0 3) (fun v5 => pField 0 v5 (fun v6 => pLoad w0 1 v6 s2 (fun g7 => AC Try.prog w0 n_spec_l11Same [g7 0, vget l0 1] s2 (fun v8 s9 => pIf v8 (K1 AX.ret [vget l0 0, vget l0 1, Value.bool true, vget l0 3] s9) (pIndexAddr 2 (vget l0 0) (vget l0 3) (fun v10 => pField 1 v10 (fun v11 => pLoad w0 1 v11 s9 (fun g12 => pIf (g12 0) (pIndexAddr 2 (vget l0 0) (vget l0 3) (fun v13 => pField 0 v13 (fun v14 => pLoad w0 1 v14 s9 (fun g15 => AC Try.prog w0 n_spec_l2Within [vget l0 1, g15 0] s9 (fun v16 s17 => pIf v16 (K1 AX.ret [vget l0 0, vget l0 1, Value.bool true, vget l0 3] s17) (pBin Try.prog 3 BinOp.add (vget l0 3) (Value.int IntKind.i64 1) (fun v18 => K1 AX.normal [vget l0 0, vget l0 1, vget l0 2, v18] s17))))))) (pBin Try.prog 3 BinOp.add (vget l0 3) (Value.int IntKind.i64 1) (fun v19 => K1 AX.normal [vget l0 0, vget l0 1, vget l0 2, v19] s9))))))))))) (K1 (AX.exit 0) [vget l0 0, vget l0 1, vget l0 2, vget l0 3] s2)))) [a0, a1, Value.bool false, Value.int IntKind.i64 0] σ (fun x20 l21 s22 => match x20 with | .normal => R (Value.bool false) s22 | .ret => R (vget l21 2) s22 | .exit i23 => (match Nat.beq i23 0 with | true => R (Value.bool false) s22 | false => False))
theorem vc_spec_l11Marked_eq (w0 : World) (a0 a1 : Value) (σ : Vw) (R : Value → Vw → Prop) : vc_spec_l11Marked w0 a0 a1 σ R = den Try.prog w0 kp_spec_l11Marked esc_spec_l11Marked (Try.f110.body.getD .skip) (entry Try.f110.ntmps [a0, a1]) σ (retK Try.prog Try.f110.results.toList R) := by kernel_rfl
theorem ac_spec_l11Marked {w0 : World} {a0 a1 : Value} {σ : Vw} {R : Value → Vw → Prop} (h : vc_spec_l11Marked w0 a0 a1 σ R) : AC Try.prog w0 n_spec_l11Marked [a0, a1] σ R := by
  refine ac_rule (fn := Try.f110) (c := Try.f110.body.getD .skip) kp_spec_l11Marked esc_spec_l11Marked Try.func110 (by kernel_rfl) (by kernel_rfl) ?_
  rw [← vc_spec_l11Marked_eq]
  exact h

/-- impl.namesOk -/
def kp_impl_namesOk : Nat → Keep
  | 2 => ⟨[0, 1, 4, 7, 8, 9], [], [], .done, []⟩
  | _ => ⟨[], [], [], .done, []⟩
def esc_impl_namesOk : Nat → Bool
  | _ => false
def vc_impl_namesOk (w0 : World) (a0 a1 : Value) (σ : Vw) (R : Value → Vw → Prop) : Prop :=
  pLen a0 (fun v0 => pLoop (fun l1 K2 s3 => pBin Try.prog 3 BinOp.lss (vget l1 5) (vget l1 4) (fun v4 => pIf v4 (pIndexAddr 1 (vget l1 3) (vget l1 5) (fun v5 => pLoad w0 1 v5 s3 (fun g6 => AC Try.prog w0 n_impl_nameOk [g6 0] s3 (fun v7 s8 => pUn UnOp.not v7 (fun v9 => pIf v9 (K2 AX.ret [vget l1 0, vget l1 1, Value.bool false, vget l1 3, vget l1 4, vget l1 5] s8) (pBin Try.prog 3 BinOp.add (vget l1 5) (Value.int IntKind.i64 1) (fun v10 => K2 AX.normal [vget l1 0, vget l1 1, vget l1 2, vget l1 3, vget l1 4, v10] s8))))))) (K2 (AX.exit 0) [vget l1 0, vget l1 1, vget l1 2, vget l1 3, vget l1 4, vget l1 5] s3))) [a0, a1, Value.bool false, a0, v0, Value.int IntKind.i64 0] σ (fun x11 l12 s13 => match x11 with | .normal => pLen (vget l12 0) (fun v14 => AC Try.prog w0 n_impl_within [v14, vget l12 1, Value.int IntKind.i64 4] s13 (fun v15 s16 => R v15 s16)) | .ret => R (vget l12 2) s13 | .exit i17 => (match Nat.beq i17 0 with | true => pLen (vget l12 0) (fun v18 => AC Try.prog w0 n_impl_within [v18, vget l12 1, Value.int IntKind.i64 4] s13 (fun v19 s20 => R v19 s20)) | false => False)))
theorem vc_impl_namesOk_eq (w0 : World) (a0 a1 : Value) (σ : Vw) (R : Value → Vw → Prop) : vc_impl_namesOk w0 a0 a1 σ R = den Try.prog w0 kp_impl_namesOk esc_impl_namesOk (Try.f111.body.getD .skip) (entry Try.f111.ntmps [a0, a1]) σ (retK Try.prog Try.f111.results.toList R) := by kernel_rfl
theorem ac_impl_namesOk {w0 : World} {a0 a1 : Value} {σ : Vw} {R : Value → Vw → Prop} (h : vc_impl_namesOk w0 a0 a1 σ R) : AC Try.prog w0 n_impl_namesOk [a0, a1] σ R := by
  refine ac_rule (fn := Try.f111) (c := Try.f111.body.getD .skip) kp_impl_namesOk esc_impl_namesOk Try.func111 (by kernel_rfl) (by kernel_rfl) ?_
  rw [← vc_impl_namesOk_eq]
  exact h

/-- impl.marked -/
def kp_impl_marked : Nat → Keep
  | _ => ⟨[], [], [], .done, []⟩
def esc_impl_marked : Nat → Bool
  | 3 => true
  | _ => false
def vc_impl_marked (w0 : World) (a0 a1 : Value) (σ : Vw) (R : Value → Vw → Prop) : Prop :=
  pVal false 1 a1 (pNew w0 29 [a1] σ (fun n0 s1 => pLoad w0 1 (Value.pointer (Option.some (Addr.mk n0 0 Option.none))) s1 (fun g2 => AC Try.prog w0 n_impl_under [a0, g2 0] s1 (fun v3 s4 => pIf v3 (R (Value.bool true) s4) (AC Try.prog w0 n_slices_ContainsFunc_impl_Mark_impl_Mark ([a0, Value.func (Fn.func 143) ⟨[]⟩ (⟨[Value.pointer (Option.some (Addr.mk n0 0 Option.none))]⟩)]) s4 (fun v5 s6 => R v5 s6))))))
theorem vc_impl_marked_eq (w0 : World) (a0 a1 : Value) (σ : Vw) (R : Value → Vw → Prop) : vc_impl_marked w0 a0 a1 σ R = den Try.prog w0 kp_impl_marked esc_impl_marked (Try.f112.body.getD .skip) (entry Try.f112.ntmps [a0, a1]) σ (retK Try.prog Try.f112.results.toList R) := by kernel_rfl
theorem ac_impl_marked {w0 : World} {a0 a1 : Value} {σ : Vw} {R : Value → Vw → Prop} (h : vc_impl_marked w0 a0 a1 σ R) : AC Try.prog w0 n_impl_marked [a0, a1] σ R := by
  refine ac_rule (fn := Try.f112) (c := Try.f112.body.getD .skip) kp_impl_marked esc_impl_marked Try.func112 (by kernel_rfl) (by kernel_rfl) ?_
  rw [← vc_impl_marked_eq]
  exact h

/-- impl.begins -/
def kp_impl_begins : Nat → Keep
  | 4 => ⟨[0, 1, 4, 12, 13], [], [], .done, []⟩
  | 6 => ⟨[], [], [], .step 0 (.step 1 (.step 2 (.step 3 (.step 4 (.step 5 (.step 6 (.step 7 (.step 8 (.done))))))))), [(2, [0, 1]), (3, [0, 1, 2]), (6, [4, 5]), (7, [4, 5, 6]), (8, [0, 1, 2, 3, 4, 5, 6, 7])]⟩
  | _ => ⟨[], [], [], .done, []⟩
def esc_impl_begins : Nat → Bool
  | _ => false
def vc_impl_begins (w0 : World) (a0 a1 : Value) (σ : Vw) (R : Value → Vw → Prop) : Prop :=
  pLen a0 (fun v0 => pLen a1 (fun v1 => pBin Try.prog 3 BinOp.lss v0 v1 (fun v2 => pIf v2 (R (Value.bool false) σ) (pLen a1 (fun v3 => pLoop (fun l4 K5 s6 => pBin Try.prog 3 BinOp.lss (vget l4 4) (vget l4 3) (fun v7 => pIf v7 (pIndexAddr 1 (vget l4 0) (vget l4 4) (fun v8 => pLoad w0 1 v8 s6 (fun g9 => pIndexAddr 1 (vget l4 1) (vget l4 4) (fun v10 => pLoad w0 1 v10 s6 (fun g11 => pBin Try.prog 9 BinOp.neq (g9 0) (g11 0) (fun v12 => pIf v12 (K5 AX.ret [vget l4 0, vget l4 1, Value.bool false, vget l4 3, vget l4 4] s6) (pBin Try.prog 3 BinOp.add (vget l4 4) (Value.int IntKind.i64 1) (fun v13 => K5 AX.normal [vget l4 0, vget l4 1, vget l4 2, vget l4 3, v13] s6)))))))) (K5 (AX.exit 0) [vget l4 0, vget l4 1, vget l4 2, vget l4 3, vget l4 4] s6))) [a0, a1, Value.bool false, v3, Value.int IntKind.i64 0] σ (fun x14 l15 s16 => match x14 with | .normal => R (Value.bool true) s16 | .ret => R (vget l15 2) s16 | .exit i17 => (match Nat.beq i17 0 with | true => R (Value.bool true) s16 | false => False)))))))
theorem vc_impl_begins_eq (w0 : World) (a0 a1 : Value) (σ : Vw) (R : Value → Vw → Prop) : vc_impl_begins w0 a0 a1 σ R = den Try.prog w0 kp_impl_begins esc_impl_begins (Try.f113.body.getD .skip) (entry Try.f113.ntmps [a0, a1]) σ (retK Try.prog Try.f113.results.toList R) := by kernel_rfl
theorem ac_impl_begins {w0 : World} {a0 a1 : Value} {σ : Vw} {R : Value → Vw → Prop} (h : vc_impl_begins w0 a0 a1 σ R) : AC Try.prog w0 n_impl_begins [a0, a1] σ R := by
  refine ac_rule (fn := Try.f113) (c := Try.f113.body.getD .skip) kp_impl_begins esc_impl_begins Try.func113 (by kernel_rfl) (by kernel_rfl) ?_
  rw [← vc_impl_begins_eq]
  exact h

/-- slices.SortFunc[[]impl.Mark,impl.Mark] -/
def kp_slices_SortFunc_impl_Mark_impl_Mark : Nat → Keep
  | _ => ⟨[], [], [], .done, []⟩
def esc_slices_SortFunc_impl_Mark_impl_Mark : Nat → Bool
  | _ => false
def vc_slices_SortFunc_impl_Mark_impl_Mark (w0 : World) (a0 a1 : Value) (σ : Vw) (R : Value → Vw → Prop) : Prop :=
  pLen a0 (fun v0 => pConvInt IntKind.u64 v0 (fun v1 => AC Try.prog w0 n_math_bits_Len [v1] σ (fun v2 s3 => AC Try.prog w0 n_slices_pdqsortCmpFunc_impl_Mark [a0, Value.int IntKind.i64 0, v0, v2, a1] s3 (fun v4 s5 => R (Value.tuple ⟨[]⟩) s5))))
theorem vc_slices_SortFunc_impl_Mark_impl_Mark_eq (w0 : World) (a0 a1 : Value) (σ : Vw) (R : Value → Vw → Prop) : vc_slices_SortFunc_impl_Mark_impl_Mark w0 a0 a1 σ R = den Try.prog w0 kp_slices_SortFunc_impl_Mark_impl_Mark esc_slices_SortFunc_impl_Mark_impl_Mark (Try.f114.body.getD .skip) (entry Try.f114.ntmps [a0, a1]) σ (retK Try.prog Try.f114.results.toList R) := by kernel_rfl
theorem ac_slices_SortFunc_impl_Mark_impl_Mark {w0 : World} {a0 a1 : Value} {σ : Vw} {R : Value → Vw → Prop} (h : vc_slices_SortFunc_impl_Mark_impl_Mark w0 a0 a1 σ R) : AC Try.prog w0 n_slices_SortFunc_impl_Mark_impl_Mark [a0, a1] σ R := by
  refine ac_rule (fn := Try.f114) (c := Try.f114.body.getD .skip) kp_slices_SortFunc_impl_Mark_impl_Mark esc_slices_SortFunc_impl_Mark_impl_Mark Try.func114 (by kernel_rfl) (by kernel_rfl) ?_
  rw [← vc_slices_SortFunc_impl_Mark_impl_Mark_eq]
  exact h

/-- impl.add$1 -/
def kp_impl_add_c1 : Nat → Keep
  | _ => ⟨[], [], [], .done, []⟩
def esc_impl_add_c1 : Nat → Bool
  | _ => false
def vc_impl_add_c1 (w0 : World) (a0 a1 : Value) (σ : Vw) (R : Value → Vw → Prop) : Prop :=
  pVal true 2 a0 (pVal true 2 a1 (AC Try.prog w0 n_slices_Compare_string_string [cellOf a0 0, cellOf a1 0] σ (fun v0 s1 => R v0 s1)))
theorem vc_impl_add_c1_eq (w0 : World) (a0 a1 : Value) (σ : Vw) (R : Value → Vw → Prop) : vc_impl_add_c1 w0 a0 a1 σ R = den Try.prog w0 kp_impl_add_c1 esc_impl_add_c1 (Try.f115.body.getD .skip) (entry Try.f115.ntmps [a0, a1]) σ (retK Try.prog Try.f115.results.toList R) := by kernel_rfl
theorem ac_impl_add_c1 {w0 : World} {a0 a1 : Value} {σ : Vw} {R : Value → Vw → Prop} (h : vc_impl_add_c1 w0 a0 a1 σ R) : AC Try.prog w0 n_impl_add_c1 [a0, a1] σ R := by
  refine ac_rule (fn := Try.f115) (c := Try.f115.body.getD .skip) kp_impl_add_c1 esc_impl_add_c1 Try.func115 (by kernel_rfl) (by kernel_rfl) ?_
  rw [← vc_impl_add_c1_eq]
  exact h

/-- slices.Delete[[]impl.Mark,impl.Mark] -/
def kp_slices_Delete_impl_Mark_impl_Mark : Nat → Keep
  | 5 => ⟨[], [], [], .step 0 (.step 1 (.step 2 (.step 3 (.step 4 (.step 5 (.step 6 (.step 7 (.done)))))))), [(2, [0, 1]), (5, [3, 4]), (6, [0, 1, 2, 3, 4, 5]), (7, [0, 1, 2, 3, 4, 5, 6])]⟩
  | _ => ⟨[], [], [], .done, []⟩
def esc_slices_Delete_impl_Mark_impl_Mark : Nat → Bool
  | _ => false
def vc_slices_Delete_impl_Mark_impl_Mark (w0 : World) (a0 a1 a2 : Value) (σ : Vw) (R : Value → Vw → Prop) : Prop :=
  pLen a0 (fun v0 => pSlice3 2 a0 (Option.some a1) (Option.some a2) (Option.some v0) (fun v1 => pBin Try.prog 3 BinOp.eql a1 a2 (fun v2 => pIf v2 (R a0 σ) (pLen a0 (fun v3 => pSlice 2 a0 Option.none (Option.some a1) (fun v4 => pSlice 2 a0 (Option.some a2) Option.none (fun v5 => pAppendS w0 74 2 32 v4 v5 σ (fun v6 s7 => pLen v6 (fun v8 => pSlice 2 v6 (Option.some v8) (Option.some v3) (fun v9 => pClear 2 [Value.slice Option.none 0 0, Value.bool false] v9 s7 (fun s10 => R v6 s10)))))))))))
theorem vc_slices_Delete_impl_Mark_impl_Mark_eq (w0 : World) (a0 a1 a2 : Value) (σ : Vw) (R : Value → Vw → Prop) : vc_slices_Delete_impl_Mark_impl_Mark w0 a0 a1 a2 σ R = den Try.prog w0 kp_slices_Delete_impl_Mark_impl_Mark esc_slices_Delete_impl_Mark_impl_Mark (Try.f116.body.getD .skip) (entry Try.f116.ntmps [a0, a1, a2]) σ (retK Try.prog Try.f116.results.toList R) := by kernel_rfl
theorem ac_slices_Delete_impl_Mark_impl_Mark {w0 : World} {a0 a1 a2 : Value} {σ : Vw} {R : Value → Vw → Prop} (h : vc_slices_Delete_impl_Mark_impl_Mark w0 a0 a1 a2 σ R) : AC Try.prog w0 n_slices_Delete_impl_Mark_impl_Mark [a0, a1, a2] σ R := by
  refine ac_rule (fn := Try.f116) (c := Try.f116.body.getD .skip) kp_slices_Delete_impl_Mark_impl_Mark esc_slices_Delete_impl_Mark_impl_Mark Try.func116 (by kernel_rfl) (by kernel_rfl) ?_
  rw [← vc_slices_Delete_impl_Mark_impl_Mark_eq]
  exact h

end Go.Proofs.Ytlbpnfhhoalenaa

/- What each function owes, reckoned out, part 3. MADE BY PROGRAM (emit.py). -/
set_option linter.unusedVariables false
namespace Go.Proofs.Ytlbpnfhhoalenaa
open Go Go.Av

/-- cmp.Compare[string] -/
def kp_cmp_Compare_string : Nat → Keep
  | _ => ⟨[], [], [], .done, []⟩
def esc_cmp_Compare_string : Nat → Bool
  | _ => false
def vc_cmp_Compare_string (w0 : World) (a0 a1 : Value) (σ : Vw) (R : Value → Vw → Prop) : Prop :=
  AC Try.prog w0 n_cmp_isNaN_string [a0] σ (fun v0 s1 => AC Try.prog w0 n_cmp_isNaN_string [a1] s1 (fun v2 s3 => pIf v0 (pIf v2 (R (Value.int IntKind.i64 0) s3) (R (Value.int IntKind.i64 (-1)) s3)) (pIf v2 (R (Value.int IntKind.i64 1) s3) (pBin Try.prog 9 BinOp.lss a0 a1 (fun v4 => pIf v4 (R (Value.int IntKind.i64 (-1)) s3) (pBin Try.prog 9 BinOp.gtr a0 a1 (fun v5 => pIf v5 (R (Value.int IntKind.i64 1) s3) (R (Value.int IntKind.i64 0) s3))))))))
theorem vc_cmp_Compare_string_eq (w0 : World) (a0 a1 : Value) (σ : Vw) (R : Value → Vw → Prop) : vc_cmp_Compare_string w0 a0 a1 σ R = den Try.prog w0 kp_cmp_Compare_string esc_cmp_Compare_string (Try.f126.body.getD .skip) (entry Try.f126.ntmps [a0, a1]) σ (retK Try.prog Try.f126.results.toList R) := by kernel_rfl
theorem ac_cmp_Compare_string {w0 : World} {a0 a1 : Value} {σ : Vw} {R : Value → Vw → Prop} (h : vc_cmp_Compare_string w0 a0 a1 σ R) : AC Try.prog w0 n_cmp_Compare_string [a0, a1] σ R := by
  refine ac_rule (fn := Try.f126) (c := Try.f126.body.getD .skip) kp_cmp_Compare_string esc_cmp_Compare_string Try.func126 (by kernel_rfl) (by kernel_rfl) ?_
  rw [← vc_cmp_Compare_string_eq]
  exact h

/-- impl.nameOk -/
def kp_impl_nameOk : Nat → Keep
  | 2 => ⟨[0, 2, 5, 6], [], [], .done, []⟩
  | _ => ⟨[], [], [], .done, []⟩
def esc_impl_nameOk : Nat → Bool
  | _ => false
def vc_impl_nameOk (w0 : World) (a0 : Value) (σ : Vw) (R : Value → Vw → Prop) : Prop :=
  pLenS a0 (fun v0 => pLoop (fun l1 K2 s3 => pBin Try.prog 3 BinOp.lss (vget l1 3) (vget l1 2) (fun v4 => pIf v4 (pIndexStr (vget l1 0) (vget l1 3) (fun v5 => pBin Try.prog 5 BinOp.lss v5 (Value.int IntKind.u8 97) (fun v6 => pIf v6 (pIndexStr (vget l1 0) (vget l1 3) (fun v7 => pBin Try.prog 5 BinOp.lss v7 (Value.int IntKind.u8 48) (fun v8 => pIf v8 (K2 AX.ret [vget l1 0, Value.bool false, vget l1 2, vget l1 3] s3) (pIndexStr (vget l1 0) (vget l1 3) (fun v9 => pBin Try.prog 5 BinOp.gtr v9 (Value.int IntKind.u8 57) (fun v10 => pIf v10 (K2 AX.ret [vget l1 0, Value.bool false, vget l1 2, vget l1 3] s3) (pBin Try.prog 3 BinOp.add (vget l1 3) (Value.int IntKind.i64 1) (fun v11 => K2 AX.normal [vget l1 0, vget l1 1, vget l1 2, v11] s3)))))))) (pIndexStr (vget l1 0) (vget l1 3) (fun v12 => pBin Try.prog 5 BinOp.gtr v12 (Value.int IntKind.u8 122) (fun v13 => pIf v13 (pIndexStr (vget l1 0) (vget l1 3) (fun v14 => pBin Try.prog 5 BinOp.lss v14 (Value.int IntKind.u8 48) (fun v15 => pIf v15 (K2 AX.ret [vget l1 0, Value.bool false, vget l1 2, vget l1 3] s3) (pIndexStr (vget l1 0) (vget l1 3) (fun v16 => pBin Try.prog 5 BinOp.gtr v16 (Value.int IntKind.u8 57) (fun v17 => pIf v17 (K2 AX.ret [vget l1 0, Value.bool false, vget l1 2, vget l1 3] s3) (pBin Try.prog 3 BinOp.add (vget l1 3) (Value.int IntKind.i64 1) (fun v18 => K2 AX.normal [vget l1 0, vget l1 1, vget l1 2, v18] s3)))))))) (pBin Try.prog 3 BinOp.add (vget l1 3) (Value.int IntKind.i64 1) (fun v19 => K2 AX.normal [vget l1 0, vget l1 1, vget l1 2, v19] s3)))))))) (K2 (AX.exit 0) [vget l1 0, vget l1 1, vget l1 2, vget l1 3] s3))) [a0, Value.bool false, v0, Value.int IntKind.i64 0] σ (fun x20 l21 s22 => match x20 with | .normal => pLenS (vget l21 0) (fun v23 => AC Try.prog w0 n_impl_within [v23, Value.int IntKind.i64 1, Value.int IntKind.i64 5] s22 (fun v24 s25 => R v24 s25)) | .ret => R (vget l21 1) s22 | .exit i26 => (match Nat.beq i26 0 with | true => pLenS (vget l21 0) (fun v27 => AC Try.prog w0 n_impl_within [v27, Value.int IntKind.i64 1, Value.int IntKind.i64 5] s22 (fun v28 s29 => R v28 s29)) | false => False)))
theorem vc_impl_nameOk_eq (w0 : World) (a0 : Value) (σ : Vw) (R : Value → Vw → Prop) : vc_impl_nameOk w0 a0 σ R = den Try.prog w0 kp_impl_nameOk esc_impl_nameOk (Try.f131.body.getD .skip) (entry Try.f131.ntmps [a0]) σ (retK Try.prog Try.f131.results.toList R) := by kernel_rfl
theorem ac_impl_nameOk {w0 : World} {a0 : Value} {σ : Vw} {R : Value → Vw → Prop} (h : vc_impl_nameOk w0 a0 σ R) : AC Try.prog w0 n_impl_nameOk [a0] σ R := by
  refine ac_rule (fn := Try.f131) (c := Try.f131.body.getD .skip) kp_impl_nameOk esc_impl_nameOk Try.func131 (by kernel_rfl) (by kernel_rfl) ?_
  rw [← vc_impl_nameOk_eq]
  exact h

/-- spec.l1NameOk -/
def kp_spec_l1NameOk : Nat → Keep
  | 2 => ⟨[0, 2, 3], [], [], .done, []⟩
  | _ => ⟨[], [], [], .done, []⟩
def esc_spec_l1NameOk : Nat → Bool
  | _ => false
def vc_spec_l1NameOk (w0 : World) (a0 : Value) (σ : Vw) (R : Value → Vw → Prop) : Prop :=
  pLoop (fun l0 K1 s2 => pLenS (vget l0 0) (fun v3 => pBin Try.prog 3 BinOp.lss (vget l0 2) v3 (fun v4 => pIf v4 (pIndexStr (vget l0 0) (vget l0 2) (fun v5 => pBin Try.prog 5 BinOp.geq v5 (Value.int IntKind.u8 97) (fun v6 => pIf v6 (pIndexStr (vget l0 0) (vget l0 2) (fun v7 => pBin Try.prog 5 BinOp.leq v7 (Value.int IntKind.u8 122) (fun v8 => pIf v8 (pUn UnOp.not (Value.bool true) (fun v9 => pIf v9 (K1 AX.ret [vget l0 0, Value.bool false, vget l0 2] s2) (pBin Try.prog 3 BinOp.add (vget l0 2) (Value.int IntKind.i64 1) (fun v10 => K1 AX.normal [vget l0 0, vget l0 1, v10] s2)))) (pIndexStr (vget l0 0) (vget l0 2) (fun v11 => pBin Try.prog 5 BinOp.geq v11 (Value.int IntKind.u8 48) (fun v12 => pIf v12 (pIndexStr (vget l0 0) (vget l0 2) (fun v13 => pBin Try.prog 5 BinOp.leq v13 (Value.int IntKind.u8 57) (fun v14 => pUn UnOp.not v14 (fun v15 => pIf v15 (K1 AX.ret [vget l0 0, Value.bool false, vget l0 2] s2) (pBin Try.prog 3 BinOp.add (vget l0 2) (Value.int IntKind.i64 1) (fun v16 => K1 AX.normal [vget l0 0, vget l0 1, v16] s2)))))) (pUn UnOp.not (Value.bool false) (fun v17 => pIf v17 (K1 AX.ret [vget l0 0, Value.bool false, vget l0 2] s2) (pBin Try.prog 3 BinOp.add (vget l0 2) (Value.int IntKind.i64 1) (fun v18 => K1 AX.normal [vget l0 0, vget l0 1, v18] s2)))))))))) (pIndexStr (vget l0 0) (vget l0 2) (fun v19 => pBin Try.prog 5 BinOp.geq v19 (Value.int IntKind.u8 48) (fun v20 => pIf v20 (pIndexStr (vget l0 0) (vget l0 2) (fun v21 => pBin Try.prog 5 BinOp.leq v21 (Value.int IntKind.u8 57) (fun v22 => pUn UnOp.not v22 (fun v23 => pIf v23 (K1 AX.ret [vget l0 0, Value.bool false, vget l0 2] s2) (pBin Try.prog 3 BinOp.add (vget l0 2) (Value.int IntKind.i64 1) (fun v24 => K1 AX.normal [vget l0 0, vget l0 1, v24] s2)))))) (pUn UnOp.not (Value.bool false) (fun v25 => pIf v25 (K1 AX.ret [vget l0 0, Value.bool false, vget l0 2] s2) (pBin Try.prog 3 BinOp.add (vget l0 2) (Value.int IntKind.i64 1) (fun v26 => K1 AX.normal [vget l0 0, vget l0 1, v26] s2)))))))))) (K1 (AX.exit 0) [vget l0 0, vget l0 1, vget l0 2] s2)))) [a0, Value.bool false, Value.int IntKind.i64 0] σ (fun x27 l28 s29 => match x27 with | .normal => pLenS (vget l28 0) (fun v30 => AC Try.prog w0 n_spec_l1In [v30, Value.int IntKind.i64 1, Value.int IntKind.i64 5] s29 (fun v31 s32 => R v31 s32)) | .ret => R (vget l28 1) s29 | .exit i33 => (match Nat.beq i33 0 with | true => pLenS (vget l28 0) (fun v34 => AC Try.prog w0 n_spec_l1In [v34, Value.int IntKind.i64 1, Value.int IntKind.i64 5] s29 (fun v35 s36 => R v35 s36)) | false => False))
theorem vc_spec_l1NameOk_eq (w0 : World) (a0 : Value) (σ : Vw) (R : Value → Vw → Prop) : vc_spec_l1NameOk w0 a0 σ R = den Try.prog w0 kp_spec_l1NameOk esc_spec_l1NameOk (Try.f133.body.getD .skip) (entry Try.f133.ntmps [a0]) σ (retK Try.prog Try.f133.results.toList R) := by kernel_rfl
theorem ac_spec_l1NameOk {w0 : World} {a0 : Value} {σ : Vw} {R : Value → Vw → Prop} (h : vc_spec_l1NameOk w0 a0 σ R) : AC Try.prog w0 n_spec_l1NameOk [a0] σ R := by
  refine ac_rule (fn := Try.f133) (c := Try.f133.body.getD .skip) kp_spec_l1NameOk esc_spec_l1NameOk Try.func133 (by kernel_rfl) (by kernel_rfl) ?_
  rw [← vc_spec_l1NameOk_eq]
  exact h

/-- impl.within -/
def kp_impl_within : Nat → Keep
  | _ => ⟨[], [], [], .done, []⟩
def esc_impl_within : Nat → Bool
  | _ => false
def vc_impl_within (w0 : World) (a0 a1 a2 : Value) (σ : Vw) (R : Value → Vw → Prop) : Prop :=
  pBin Try.prog 3 BinOp.geq a0 a1 (fun v0 => pIf v0 (pBin Try.prog 3 BinOp.leq a0 a2 (fun v1 => R v1 σ)) (R (Value.bool false) σ))
theorem vc_impl_within_eq (w0 : World) (a0 a1 a2 : Value) (σ : Vw) (R : Value → Vw → Prop) : vc_impl_within w0 a0 a1 a2 σ R = den Try.prog w0 kp_impl_within esc_impl_within (Try.f134.body.getD .skip) (entry Try.f134.ntmps [a0, a1, a2]) σ (retK Try.prog Try.f134.results.toList R) := by kernel_rfl
theorem ac_impl_within {w0 : World} {a0 a1 a2 : Value} {σ : Vw} {R : Value → Vw → Prop} (h : vc_impl_within w0 a0 a1 a2 σ R) : AC Try.prog w0 n_impl_within [a0, a1, a2] σ R := by
  refine ac_rule (fn := Try.f134) (c := Try.f134.body.getD .skip) kp_impl_within esc_impl_within Try.func134 (by kernel_rfl) (by kernel_rfl) ?_
  rw [← vc_impl_within_eq]
  exact h

/-- spec.l11Same -/
def kp_spec_l11Same : Nat → Keep
  | _ => ⟨[], [], [], .done, []⟩
def esc_spec_l11Same : Nat → Bool
  | _ => false
def vc_spec_l11Same (w0 : World) (a0 a1 : Value) (σ : Vw) (R : Value → Vw → Prop) : Prop :=
  pLen a0 (fun v0 => pLen a1 (fun v1 => pBin Try.prog 3 BinOp.eql v0 v1 (fun v2 => pIf v2 (AC Try.prog w0 n_spec_l2Within [a0, a1] σ (fun v3 s4 => R v3 s4)) (R (Value.bool false) σ))))
theorem vc_spec_l11Same_eq (w0 : World) (a0 a1 : Value) (σ : Vw) (R : Value → Vw → Prop) : vc_spec_l11Same w0 a0 a1 σ R = den Try.prog w0 kp_spec_l11Same esc_spec_l11Same (Try.f141.body.getD .skip) (entry Try.f141.ntmps [a0, a1]) σ (retK Try.prog Try.f141.results.toList R) := by kernel_rfl
theorem ac_spec_l11Same {w0 : World} {a0 a1 : Value} {σ : Vw} {R : Value → Vw → Prop} (h : vc_spec_l11Same w0 a0 a1 σ R) : AC Try.prog w0 n_spec_l11Same [a0, a1] σ R := by
  refine ac_rule (fn := Try.f141) (c := Try.f141.body.getD .skip) kp_spec_l11Same esc_spec_l11Same Try.func141 (by kernel_rfl) (by kernel_rfl) ?_
  rw [← vc_spec_l11Same_eq]
  exact h

/-- slices.ContainsFunc[[]impl.Mark,impl.Mark] -/
def kp_slices_ContainsFunc_impl_Mark_impl_Mark : Nat → Keep
  | _ => ⟨[], [], [], .done, []⟩
def esc_slices_ContainsFunc_impl_Mark_impl_Mark : Nat → Bool
  | _ => false
def vc_slices_ContainsFunc_impl_Mark_impl_Mark (w0 : World) (a0 a1 : Value) (σ : Vw) (R : Value → Vw → Prop) : Prop :=
  AC Try.prog w0 n_slices_IndexFunc_impl_Mark_impl_Mark [a0, a1] σ (fun v0 s1 => pBin Try.prog 3 BinOp.geq v0 (Value.int IntKind.i64 0) (fun v2 => R v2 s1))
theorem vc_slices_ContainsFunc_impl_Mark_impl_Mark_eq (w0 : World) (a0 a1 : Value) (σ : Vw) (R : Value → Vw → Prop) : vc_slices_ContainsFunc_impl_Mark_impl_Mark w0 a0 a1 σ R = den Try.prog w0 kp_slices_ContainsFunc_impl_Mark_impl_Mark esc_slices_ContainsFunc_impl_Mark_impl_Mark (Try.f142.body.getD .skip) (entry Try.f142.ntmps [a0, a1]) σ (retK Try.prog Try.f142.results.toList R) := by kernel_rfl
theorem ac_slices_ContainsFunc_impl_Mark_impl_Mark {w0 : World} {a0 a1 : Value} {σ : Vw} {R : Value → Vw → Prop} (h : vc_slices_ContainsFunc_impl_Mark_impl_Mark w0 a0 a1 σ R) : AC Try.prog w0 n_slices_ContainsFunc_impl_Mark_impl_Mark [a0, a1] σ R := by
  refine ac_rule (fn := Try.f142) (c := Try.f142.body.getD .skip) kp_slices_ContainsFunc_impl_Mark_impl_Mark esc_slices_ContainsFunc_impl_Mark_impl_Mark Try.func142 (by kernel_rfl) (by kernel_rfl) ?_
  rw [← vc_slices_ContainsFunc_impl_Mark_impl_Mark_eq]
  exact h

/-- impl.marked$1 -/
def kp_impl_marked_c1 : Nat → Keep
  | _ => ⟨[], [], [], .done, []⟩
def esc_impl_marked_c1 : Nat → Bool
  | _ => false
def vc_impl_marked_c1 (w0 : World) (a0 a1 : Value) (σ : Vw) (R : Value → Vw → Prop) : Prop :=
  pVal true 2 a0 (pLoad w0 1 a1 σ (fun g0 => AC Try.prog w0 n_slices_Equal_string_string [cellOf a0 0, g0 0] σ (fun v1 s2 => R v1 s2)))
theorem vc_impl_marked_c1_eq (w0 : World) (a0 a1 : Value) (σ : Vw) (R : Value → Vw → Prop) : vc_impl_marked_c1 w0 a0 a1 σ R = den Try.prog w0 kp_impl_marked_c1 esc_impl_marked_c1 (Try.f143.body.getD .skip) (entry Try.f143.ntmps [a0, a1]) σ (retK Try.prog Try.f143.results.toList R) := by kernel_rfl
theorem ac_impl_marked_c1 {w0 : World} {a0 a1 : Value} {σ : Vw} {R : Value → Vw → Prop} (h : vc_impl_marked_c1 w0 a0 a1 σ R) : AC Try.prog w0 n_impl_marked_c1 [a0, a1] σ R := by
  refine ac_rule (fn := Try.f143) (c := Try.f143.body.getD .skip) kp_impl_marked_c1 esc_impl_marked_c1 Try.func143 (by kernel_rfl) (by kernel_rfl) ?_
  rw [← vc_impl_marked_c1_eq]
  exact h

/-- slices.Equal[[]string,string] -/
def kp_slices_Equal_string_string : Nat → Keep
  | 4 => ⟨[0, 1, 4, 12, 13], [], [], .done, []⟩
  | 6 => ⟨[], [], [], .step 0 (.step 1 (.step 2 (.step 3 (.step 4 (.step 5 (.step 6 (.step 7 (.step 8 (.done))))))))), [(2, [0, 1]), (3, [0, 1, 2]), (6, [4, 5]), (7, [4, 5, 6]), (8, [0, 1, 2, 3, 4, 5, 6, 7])]⟩
  | _ => ⟨[], [], [], .done, []⟩
def esc_slices_Equal_string_string : Nat → Bool
  | _ => false
def vc_slices_Equal_string_string (w0 : World) (a0 a1 : Value) (σ : Vw) (R : Value → Vw → Prop) : Prop :=
  pLen a0 (fun v0 => pLen a1 (fun v1 => pBin Try.prog 3 BinOp.neq v0 v1 (fun v2 => pIf v2 (R (Value.bool false) σ) (pLen a0 (fun v3 => pLoop (fun l4 K5 s6 => pBin Try.prog 3 BinOp.lss (vget l4 4) (vget l4 3) (fun v7 => pIf v7 (pIndexAddr 1 (vget l4 0) (vget l4 4) (fun v8 => pLoad w0 1 v8 s6 (fun g9 => pIndexAddr 1 (vget l4 1) (vget l4 4) (fun v10 => pLoad w0 1 v10 s6 (fun g11 => pBin Try.prog 9 BinOp.neq (g9 0) (g11 0) (fun v12 => pIf v12 (K5 AX.ret [vget l4 0, vget l4 1, Value.bool false, vget l4 3, vget l4 4] s6) (pBin Try.prog 3 BinOp.add (vget l4 4) (Value.int IntKind.i64 1) (fun v13 => K5 AX.normal [vget l4 0, vget l4 1, vget l4 2, vget l4 3, v13] s6)))))))) (K5 (AX.exit 0) [vget l4 0, vget l4 1, vget l4 2, vget l4 3, vget l4 4] s6))) [a0, a1, Value.bool false, v3, Value.int IntKind.i64 0] σ (fun x14 l15 s16 => match x14 with | .normal => R (Value.bool true) s16 | .ret => R (vget l15 2) s16 | .exit i17 => (match Nat.beq i17 0 with | true => R (Value.bool true) s16 | false => False)))))))
theorem vc_slices_Equal_string_string_eq (w0 : World) (a0 a1 : Value) (σ : Vw) (R : Value → Vw → Prop) : vc_slices_Equal_string_string w0 a0 a1 σ R = den Try.prog w0 kp_slices_Equal_string_string esc_slices_Equal_string_string (Try.f144.body.getD .skip) (entry Try.f144.ntmps [a0, a1]) σ (retK Try.prog Try.f144.results.toList R) := by kernel_rfl
theorem ac_slices_Equal_string_string {w0 : World} {a0 a1 : Value} {σ : Vw} {R : Value → Vw → Prop} (h : vc_slices_Equal_string_string w0 a0 a1 σ R) : AC Try.prog w0 n_slices_Equal_string_string [a0, a1] σ R := by
  refine ac_rule (fn := Try.f144) (c := Try.f144.body.getD .skip) kp_slices_Equal_string_string esc_slices_Equal_string_string Try.func144 (by kernel_rfl) (by kernel_rfl) ?_
  rw [← vc_slices_Equal_string_string_eq]
  exact h

/-- slices.pdqsortCmpFunc[impl.Mark] -/
def kp_slices_pdqsortCmpFunc_impl_Mark : Nat → Keep
  | 2 => ⟨[0, 1, 2, 3, 4, 10, 11], [], [], .done, []⟩
  | 17 => ⟨[], [], [], .step 0 (.step 1 (.step 2 (.step 3 (.step 4 (.step 5 (.step 6 (.step 7 (.step 8 (.step 9 (.step 10 (.step 11 (.step 12 (.step 13 (.step 14 (.step 15 (.step 16 (.done))))))))))))))))), [(1, [0]), (2, [0, 1]), (3, [0, 1, 2]), (4, [0, 1, 2]), (5, [0, 1, 2]), (6, [0, 1, 2, 5]), (7, [0, 1, 2, 4, 5, 6]), (8, [0, 1, 2, 4, 5, 6, 7]), (9, [0, 1, 2]), (10, [0, 1, 2]), (11, [0, 1, 2, 9, 10]), (12, [0, 1, 2, 9, 10, 11]), (13, [0, 1, 2, 3, 4, 5, 6, 7, 8, 9, 10, 11, 12]), (14, [0, 1, 2, 3, 4, 5, 6, 7, 8, 9, 10, 11, 12, 13]), (15, [0, 1, 2, 3, 4, 5, 6, 7, 8, 9, 10, 11, 12, 13, 14]), (16, [0, 1, 2, 3, 4, 5, 6, 7, 8, 9, 10, 11, 12, 13, 14, 15])]⟩
  | _ => ⟨[], [], [], .done, []⟩
def esc_slices_pdqsortCmpFunc_impl_Mark : Nat → Bool
  | _ => false
def vc_slices_pdqsortCmpFunc_impl_Mark (w0 : World) (a0 a1 a2 a3 a4 : Value) (σ : Vw) (R : Value → Vw → Prop) : Prop :=
  pLoop (fun l0 K1 s2 => pBin Try.prog 3 BinOp.sub (vget l0 2) (vget l0 1) (fun v3 => pBin Try.prog 3 BinOp.leq v3 (Value.int IntKind.i64 12) (fun v4 => pIf v4 (AC Try.prog w0 n_slices_insertionSortCmpFunc_impl_Mark [vget l0 0, vget l0 1, vget l0 2, vget l0 4] s2 (fun v5 s6 => K1 AX.ret [vget l0 0, vget l0 1, vget l0 2, vget l0 3, vget l0 4, vget l0 5, vget l0 6] s6)) (pBin Try.prog 3 BinOp.eql (vget l0 3) (Value.int IntKind.i64 0) (fun v7 => pIf v7 (AC Try.prog w0 n_slices_heapSortCmpFunc_impl_Mark [vget l0 0, vget l0 1, vget l0 2, vget l0 4] s2 (fun v8 s9 => K1 AX.ret [vget l0 0, vget l0 1, vget l0 2, vget l0 3, vget l0 4, vget l0 5, vget l0 6] s9)) (pUn UnOp.not (vget l0 5) (fun v10 => pIf v10 (AC Try.prog w0 n_slices_breakPatternsCmpFunc_impl_Mark [vget l0 0, vget l0 1, vget l0 2, vget l0 4] s2 (fun v11 s12 => pBin Try.prog 3 BinOp.sub (vget l0 3) (Value.int IntKind.i64 1) (fun v13 => AC Try.prog w0 n_slices_choosePivotCmpFunc_impl_Mark [vget l0 0, vget l0 1, vget l0 2, vget l0 4] s12 (fun v14 s15 => pExtract v14 0 (fun v16 => pExtract v14 1 (fun v17 => pBin Try.prog 162 BinOp.eql v17 (Value.int IntKind.i64 2) (fun v18 => pIf v18 (AC Try.prog w0 n_slices_reverseRangeCmpFunc_impl_Mark [vget l0 0, vget l0 1, vget l0 2, vget l0 4] s15 (fun v19 s20 => pBin Try.prog 3 BinOp.sub (vget l0 2) (Value.int IntKind.i64 1) (fun v21 => pBin Try.prog 3 BinOp.sub v16 (vget l0 1) (fun v22 => pBin Try.prog 3 BinOp.sub v21 v22 (fun v23 => pIf (vget l0 5) (pIf (vget l0 6) (pBin Try.prog 162 BinOp.eql (Value.int IntKind.i64 1) (Value.int IntKind.i64 1) (fun v24 => pIf v24 (AC Try.prog w0 n_slices_partialInsertionSortCmpFunc_impl_Mark [vget l0 0, vget l0 1, vget l0 2, vget l0 4] s20 (fun v25 s26 => pIf v25 (K1 AX.ret [vget l0 0, vget l0 1, vget l0 2, v13, vget l0 4, vget l0 5, vget l0 6] s26) (pBin Try.prog 3 BinOp.gtr (vget l0 1) (Value.int IntKind.i64 0) (fun v27 => pIf v27 (pBin Try.prog 3 BinOp.sub (vget l0 1) (Value.int IntKind.i64 1) (fun v28 => pIndexAddr 2 (vget l0 0) v28 (fun v29 => pLoad w0 2 v29 s26 (fun g30 => pIndexAddr 2 (vget l0 0) v23 (fun v31 => pLoad w0 2 v31 s26 (fun g32 => pCallV (fun n33 l34 s35 K36 => AC Try.prog w0 n33 l34 s35 K36) (vget l0 4) ([Value.agg (⟨[g30 0, g30 1]⟩), Value.agg (⟨[g32 0, g32 1]⟩)]) s26 (fun v37 s38 => pBin Try.prog 3 BinOp.lss v37 (Value.int IntKind.i64 0) (fun v39 => pUn UnOp.not v39 (fun v40 => pIf v40 (AC Try.prog w0 n_slices_partitionEqualCmpFunc_impl_Mark [vget l0 0, vget l0 1, vget l0 2, v23, vget l0 4] s38 (fun v41 s42 => K1 AX.normal [vget l0 0, v41, vget l0 2, v13, vget l0 4, vget l0 5, vget l0 6] s42)) (AC Try.prog w0 n_slices_partitionCmpFunc_impl_Mark [vget l0 0, vget l0 1, vget l0 2, v23, vget l0 4] s38 (fun v43 s44 => pExtract v43 0 (fun v45 => pExtract v43 1 (fun v46 => pBin Try.prog 3 BinOp.sub v45 (vget l0 1) (fun v47 => pBin Try.prog 3 BinOp.sub (vget l0 2) v45 (fun v48 => pBin Try.prog 3 BinOp.quo v3 (Value.int IntKind.i64 8) (fun v49 => pBin Try.prog 3 BinOp.lss v47 v48 (fun v50 => pIf v50 (pBin Try.prog 3 BinOp.geq v47 v49 (fun v51 => AC Try.prog w0 n_slices_pdqsortCmpFunc_impl_Mark [vget l0 0, vget l0 1, v45, v13, vget l0 4] s44 (fun v52 s53 => pBin Try.prog 3 BinOp.add v45 (Value.int IntKind.i64 1) (fun v54 => K1 AX.normal [vget l0 0, v54, vget l0 2, v13, vget l0 4, v51, v46] s53)))) (pBin Try.prog 3 BinOp.geq v48 v49 (fun v55 => pBin Try.prog 3 BinOp.add v45 (Value.int IntKind.i64 1) (fun v56 => AC Try.prog w0 n_slices_pdqsortCmpFunc_impl_Mark [vget l0 0, v56, vget l0 2, v13, vget l0 4] s44 (fun v57 s58 => K1 AX.normal [vget l0 0, vget l0 1, v45, v13, vget l0 4, v55, v46] s58))))))))))))))))))))) (AC Try.prog w0 n_slices_partitionCmpFunc_impl_Mark [vget l0 0, vget l0 1, vget l0 2, v23, vget l0 4] s26 (fun v59 s60 => pExtract v59 0 (fun v61 => pExtract v59 1 (fun v62 => pBin Try.prog 3 BinOp.sub v61 (vget l0 1) (fun v63 => pBin Try.prog 3 BinOp.sub (vget l0 2) v61 (fun v64 => pBin Try.prog 3 BinOp.quo v3 (Value.int IntKind.i64 8) (fun v65 => pBin Try.prog 3 BinOp.lss v63 v64 (fun v66 => pIf v66 (pBin Try.prog 3 BinOp.geq v63 v65 (fun v67 => AC Try.prog w0 n_slices_pdqsortCmpFunc_impl_Mark [vget l0 0, vget l0 1, v61, v13, vget l0 4] s60 (fun v68 s69 => pBin Try.prog 3 BinOp.add v61 (Value.int IntKind.i64 1) (fun v70 => K1 AX.normal [vget l0 0, v70, vget l0 2, v13, vget l0 4, v67, v62] s69)))) (pBin Try.prog 3 BinOp.geq v64 v65 (fun v71 => pBin Try.prog 3 BinOp.add v61 (Value.int IntKind.i64 1) (fun v72 => AC Try.prog w0 n_slices_pdqsortCmpFunc_impl_Mark [vget l0 0, v72, vget l0 2, v13, vget l0 4] s60 (fun v73 s74 => K1 AX.normal [vget l0 0, vget l0 1, v61, v13, vget l0 4, v71, v62] s74)))))))))))))))) (pBin Try.prog 3 BinOp.gtr (vget l0 1) (Value.int IntKind.i64 0) (fun v75 => pIf v75 (pBin Try.prog 3 BinOp.sub (vget l0 1) (Value.int IntKind.i64 1) (fun v76 => pIndexAddr 2 (vget l0 0) v76 (fun v77 => pLoad w0 2 v77 s20 (fun g78 => pIndexAddr 2 (vget l0 0) v23 (fun v79 => pLoad w0 2 v79 s20 (fun g80 => pCallV (fun n81 l82 s83 K84 => AC Try.prog w0 n81 l82 s83 K84) (vget l0 4) ([Value.agg (⟨[g78 0, g78 1]⟩), Value.agg (⟨[g80 0, g80 1]⟩)]) s20 (fun v85 s86 => pBin Try.prog 3 BinOp.lss v85 (Value.int IntKind.i64 0) (fun v87 => pUn UnOp.not v87 (fun v88 => pIf v88 (AC Try.prog w0 n_slices_partitionEqualCmpFunc_impl_Mark [vget l0 0, vget l0 1, vget l0 2, v23, vget l0 4] s86 (fun v89 s90 => K1 AX.normal [vget l0 0, v89, vget l0 2, v13, vget l0 4, vget l0 5, vget l0 6] s90)) (AC Try.prog w0 n_slices_partitionCmpFunc_impl_Mark [vget l0 0, vget l0 1, vget l0 2, v23, vget l0 4] s86 (fun v91 s92 => pExtract v91 0 (fun v93 => pExtract v91 1 (fun v94 => pBin Try.prog 3 BinOp.sub v93 (vget l0 1) (fun v95 => pBin Try.prog 3 BinOp.sub (vget l0 2) v93 (fun v96 => pBin Try.prog 3 BinOp.quo v3 (Value.int IntKind.i64 8) (fun v97 => pBin Try.prog 3 BinOp.lss v95 v96 (fun v98 => pIf v98 (pBin Try.prog 3 BinOp.geq v95 v97 (fun v99 => AC Try.prog w0 n_slices_pdqsortCmpFunc_impl_Mark [vget l0 0, vget l0 1, v93, v13, vget l0 4] s92 (fun v100 s101 => pBin Try.prog 3 BinOp.add v93 (Value.int IntKind.i64 1) (fun v102 => K1 AX.normal [vget l0 0, v102, vget l0 2, v13, vget l0 4, v99, v94] s101)))) (pBin Try.prog 3 BinOp.geq v96 v97 (fun v103 => pBin Try.prog 3 BinOp.add v93 (Value.int IntKind.i64 1) (fun v104 => AC Try.prog w0 n_slices_pdqsortCmpFunc_impl_Mark [vget l0 0, v104, vget l0 2, v13, vget l0 4] s92 (fun v105 s106 => K1 AX.normal [vget l0 0, vget l0 1, v93, v13, vget l0 4, v103, v94] s106))))))))))))))))))))) (AC Try.prog w0 n_slices_partitionCmpFunc_impl_Mark [vget l0 0, vget l0 1, vget l0 2, v23, vget l0 4] s20 (fun v107 s108 => pExtract v107 0 (fun v109 => pExtract v107 1 (fun v110 => pBin Try.prog 3 BinOp.sub v109 (vget l0 1) (fun v111 => pBin Try.prog 3 BinOp.sub (vget l0 2) v109 (fun v112 => pBin Try.prog 3 BinOp.quo v3 (Value.int IntKind.i64 8) (fun v113 => pBin Try.prog 3 BinOp.lss v111 v112 (fun v114 => pIf v114 (pBin Try.prog 3 BinOp.geq v111 v113 (fun v115 => AC Try.prog w0 n_slices_pdqsortCmpFunc_impl_Mark [vget l0 0, vget l0 1, v109, v13, vget l0 4] s108 (fun v116 s117 => pBin Try.prog 3 BinOp.add v109 (Value.int IntKind.i64 1) (fun v118 => K1 AX.normal [vget l0 0, v118, vget l0 2, v13, vget l0 4, v115, v110] s117)))) (pBin Try.prog 3 BinOp.geq v112 v113 (fun v119 => pBin Try.prog 3 BinOp.add v109 (Value.int IntKind.i64 1) (fun v120 => AC Try.prog w0 n_slices_pdqsortCmpFunc_impl_Mark [vget l0 0, v120, vget l0 2, v13, vget l0 4] s108 (fun v121 s122 => K1 AX.normal [vget l0 0, vget l0 1, v109, v13, vget l0 4, v119, v110] s122)))))))))))))))) (pBin Try.prog 3 BinOp.gtr (vget l0 1) (Value.int IntKind.i64 0) (fun v123 => pIf v123 (pBin Try.prog 3 BinOp.sub (vget l0 1) (Value.int IntKind.i64 1) (fun v124 => pIndexAddr 2 (vget l0 0) v124 (fun v125 => pLoad w0 2 v125 s20 (fun g126 => pIndexAddr 2 (vget l0 0) v23 (fun v127 => pLoad w0 2 v127 s20 (fun g128 => pCallV (fun n129 l130 s131 K132 => AC Try.prog w0 n129 l130 s131 K132) (vget l0 4) ([Value.agg (⟨[g126 0, g126 1]⟩), Value.agg (⟨[g128 0, g128 1]⟩)]) s20 (fun v133 s134 => pBin Try.prog 3 BinOp.lss v133 (Value.int IntKind.i64 0) (fun v135 => pUn UnOp.not v135 (fun v136 => pIf v136 (AC Try.prog w0 n_slices_partitionEqualCmpFunc_impl_Mark [vget l0 0, vget l0 1, vget l0 2, v23, vget l0 4] s134 (fun v137 s138 => K1 AX.normal [vget l0 0, v137, vget l0 2, v13, vget l0 4, vget l0 5, vget l0 6] s138)) (AC Try.prog w0 n_slices_partitionCmpFunc_impl_Mark [vget l0 0, vget l0 1, vget l0 2, v23, vget l0 4] s134 (fun v139 s140 => pExtract v139 0 (fun v141 => pExtract v139 1 (fun v142 => pBin Try.prog 3 BinOp.sub v141 (vget l0 1) (fun v143 => pBin Try.prog 3 BinOp.sub (vget l0 2) v141 (fun v144 => pBin Try.prog 3 BinOp.quo v3 (Value.int IntKind.i64 8) (fun v145 => pBin Try.prog 3 BinOp.lss v143 v144 (fun v146 => pIf v146 (pBin Try.prog 3 BinOp.geq v143 v145 (fun v147 => AC Try.prog w0 n_slices_pdqsortCmpFunc_impl_Mark [vget l0 0, vget l0 1, v141, v13, vget l0 4] s140 (fun v148 s149 => pBin Try.prog 3 BinOp.add v141 (Value.int IntKind.i64 1) (fun v150 => K1 AX.normal [vget l0 0, v150, vget l0 2, v13, vget l0 4, v147, v142] s149)))) (pBin Try.prog 3 BinOp.geq v144 v145 (fun v151 => pBin Try.prog 3 BinOp.add v141 (Value.int IntKind.i64 1) (fun v152 => AC Try.prog w0 n_slices_pdqsortCmpFunc_impl_Mark [vget l0 0, v152, vget l0 2, v13, vget l0 4] s140 (fun v153 s154 => K1 AX.normal [vget l0 0, vget l0 1, v141, v13, vget l0 4, v151, v142] s154))))))))))))))))))))) (AC Try.prog w0 n_slices_partitionCmpFunc_impl_Mark [vget l0 0, vget l0 1, vget l0 2, v23, vget l0 4] s20 (fun v155 s156 => pExtract v155 0 (fun v157 => pExtract v155 1 (fun v158 => pBin Try.prog 3 BinOp.sub v157 (vget l0 1) (fun v159 => pBin Try.prog 3 BinOp.sub (vget l0 2) v157 (fun v160 => pBin Try.prog 3 BinOp.quo v3 (Value.int IntKind.i64 8) (fun v161 => pBin Try.prog 3 BinOp.lss v159 v160 (fun v162 => pIf v162 (pBin Try.prog 3 BinOp.geq v159 v161 (fun v163 => AC Try.prog w0 n_slices_pdqsortCmpFunc_impl_Mark [vget l0 0, vget l0 1, v157, v13, vget l0 4] s156 (fun v164 s165 => pBin Try.prog 3 BinOp.add v157 (Value.int IntKind.i64 1) (fun v166 => K1 AX.normal [vget l0 0, v166, vget l0 2, v13, vget l0 4, v163, v158] s165)))) (pBin Try.prog 3 BinOp.geq v160 v161 (fun v167 => pBin Try.prog 3 BinOp.add v157 (Value.int IntKind.i64 1) (fun v168 => AC Try.prog w0 n_slices_pdqsortCmpFunc_impl_Mark [vget l0 0, v168, vget l0 2, v13, vget l0 4] s156 (fun v169 s170 => K1 AX.normal [vget l0 0, vget l0 1, v157, v13, vget l0 4, v167, v158] s170))))))))))))))) (pBin Try.prog 3 BinOp.gtr (vget l0 1) (Value.int IntKind.i64 0) (fun v171 => pIf v171 (pBin Try.prog 3 BinOp.sub (vget l0 1) (Value.int IntKind.i64 1) (fun v172 => pIndexAddr 2 (vget l0 0) v172 (fun v173 => pLoad w0 2 v173 s20 (fun g174 => pIndexAddr 2 (vget l0 0) v23 (fun v175 => pLoad w0 2 v175 s20 (fun g176 => pCallV (fun n177 l178 s179 K180 => AC Try.prog w0 n177 l178 s179 K180) (vget l0 4) ([Value.agg (⟨[g174 0, g174 1]⟩), Value.agg (⟨[g176 0, g176 1]⟩)]) s20 (fun v181 s182 => pBin Try.prog 3 BinOp.lss v181 (Value.int IntKind.i64 0) (fun v183 => pUn UnOp.not v183 (fun v184 => pIf v184 (AC Try.prog w0 n_slices_partitionEqualCmpFunc_impl_Mark [vget l0 0, vget l0 1, vget l0 2, v23, vget l0 4] s182 (fun v185 s186 => K1 AX.normal [vget l0 0, v185, vget l0 2, v13, vget l0 4, vget l0 5, vget l0 6] s186)) (AC Try.prog w0 n_slices_partitionCmpFunc_impl_Mark [vget l0 0, vget l0 1, vget l0 2, v23, vget l0 4] s182 (fun v187 s188 => pExtract v187 0 (fun v189 => pExtract v187 1 (fun v190 => pBin Try.prog 3 BinOp.sub v189 (vget l0 1) (fun v191 => pBin Try.prog 3 BinOp.sub (vget l0 2) v189 (fun v192 => pBin Try.prog 3 BinOp.quo v3 (Value.int IntKind.i64 8) (fun v193 => pBin Try.prog 3 BinOp.lss v191 v192 (fun v194 => pIf v194 (pBin Try.prog 3 BinOp.geq v191 v193 (fun v195 => AC Try.prog w0 n_slices_pdqsortCmpFunc_impl_Mark [vget l0 0, vget l0 1, v189, v13, vget l0 4] s188 (fun v196 s197 => pBin Try.prog 3 BinOp.add v189 (Value.int IntKind.i64 1) (fun v198 => K1 AX.normal [vget l0 0, v198, vget l0 2, v13, vget l0 4, v195, v190] s197)))) (pBin Try.prog 3 BinOp.geq v192 v193 (fun v199 => pBin Try.prog 3 BinOp.add v189 (Value.int IntKind.i64 1) (fun v200 => AC Try.prog w0 n_slices_pdqsortCmpFunc_impl_Mark [vget l0 0, v200, vget l0 2, v13, vget l0 4] s188 (fun v201 s202 => K1 AX.normal [vget l0 0, vget l0 1, v189, v13, vget l0 4, v199, v190] s202))))))))))))))))))))) (AC Try.prog w0 n_slices_partitionCmpFunc_impl_Mark [vget l0 0, vget l0 1, vget l0 2, v23, vget l0 4] s20 (fun v203 s204 => pExtract v203 0 (fun v205 => pExtract v203 1 (fun v206 => pBin Try.prog 3 BinOp.sub v205 (vget l0 1) (fun v207 => pBin Try.prog 3 BinOp.sub (vget l0 2) v205 (fun v208 => pBin Try.prog 3 BinOp.quo v3 (Value.int IntKind.i64 8) (fun v209 => pBin Try.prog 3 BinOp.lss v207 v208 (fun v210 => pIf v210 (pBin Try.prog 3 BinOp.geq v207 v209 (fun v211 => AC Try.prog w0 n_slices_pdqsortCmpFunc_impl_Mark [vget l0 0, vget l0 1, v205, v13, vget l0 4] s204 (fun v212 s213 => pBin Try.prog 3 BinOp.add v205 (Value.int IntKind.i64 1) (fun v214 => K1 AX.normal [vget l0 0, v214, vget l0 2, v13, vget l0 4, v211, v206] s213)))) (pBin Try.prog 3 BinOp.geq v208 v209 (fun v215 => pBin Try.prog 3 BinOp.add v205 (Value.int IntKind.i64 1) (fun v216 => AC Try.prog w0 n_slices_pdqsortCmpFunc_impl_Mark [vget l0 0, v216, vget l0 2, v13, vget l0 4] s204 (fun v217 s218 => K1 AX.normal [vget l0 0, vget l0 1, v205, v13, vget l0 4, v215, v206] s218))))))))))))))))))) (pIf (vget l0 5) (pIf (vget l0 6) (pBin Try.prog 162 BinOp.eql v17 (Value.int IntKind.i64 1) (fun v219 => pIf v219 (AC Try.prog w0 n_slices_partialInsertionSortCmpFunc_impl_Mark [vget l0 0, vget l0 1, vget l0 2, vget l0 4] s15 (fun v220 s221 => pIf v220 (K1 AX.ret [vget l0 0, vget l0 1, vget l0 2, v13, vget l0 4, vget l0 5, vget l0 6] s221) (pBin Try.prog 3 BinOp.gtr (vget l0 1) (Value.int IntKind.i64 0) (fun v222 => pIf v222 (pBin Try.prog 3 BinOp.sub (vget l0 1) (Value.int IntKind.i64 1) (fun v223 => pIndexAddr 2 (vget l0 0) v223 (fun v224 => pLoad w0 2 v224 s221 (fun g225 => pIndexAddr 2 (vget l0 0) v16 (fun v226 => pLoad w0 2 v226 s221 (fun g227 => pCallV (fun n228 l229 s230 K231 => AC Try.prog w0 n228 l229 s230 K231) (vget l0 4) ([Value.agg (⟨[g225 0, g225 1]⟩), Value.agg (⟨[g227 0, g227 1]⟩)]) s221 (fun v232 s233 => pBin Try.prog 3 BinOp.lss v232 (Value.int IntKind.i64 0) (fun v234 => pUn UnOp.not v234 (fun v235 => pIf v235 (AC Try.prog w0 n_slices_partitionEqualCmpFunc_impl_Mark [vget l0 0, vget l0 1, vget l0 2, v16, vget l0 4] s233 (fun v236 s237 => K1 AX.normal [vget l0 0, v236, vget l0 2, v13, vget l0 4, vget l0 5, vget l0 6] s237)) (AC Try.prog w0 n_slices_partitionCmpFunc_impl_Mark [vget l0 0, vget l0 1, vget l0 2, v16, vget l0 4] s233 (fun v238 s239 => pExtract v238 0 (fun v240 => pExtract v238 1 (fun v241 => pBin Try.prog 3 BinOp.sub v240 (vget l0 1) (fun v242 => pBin Try.prog 3 BinOp.sub (vget l0 2) v240 (fun v243 => pBin Try.prog 3 BinOp.quo v3 (Value.int IntKind.i64 8) (fun v244 => pBin Try.prog 3 BinOp.lss v242 v243 (fun v245 => pIf v245 (pBin Try.prog 3 BinOp.geq v242 v244 (fun v246 => AC Try.prog w0 n_slices_pdqsortCmpFunc_impl_Mark [vget l0 0, vget l0 1, v240, v13, vget l0 4] s239 (fun v247 s248 => pBin Try.prog 3 BinOp.add v240 (Value.int IntKind.i64 1) (fun v249 => K1 AX.normal [vget l0 0, v249, vget l0 2, v13, vget l0 4, v246, v241] s248)))) (pBin Try.prog 3 BinOp.geq v243 v244 (fun v250 => pBin Try.prog 3 BinOp.add v240 (Value.int IntKind.i64 1) (fun v251 => AC Try.prog w0 n_slices_pdqsortCmpFunc_impl_Mark [vget l0 0, v251, vget l0 2, v13, vget l0 4] s239 (fun v252 s253 => K1 AX.normal [vget l0 0, vget l0 1, v240, v13, vget l0 4, v250, v241] s253))))))))))))))))))))) (AC Try.prog w0 n_slices_partitionCmpFunc_impl_Mark [vget l0 0, vget l0 1, vget l0 2, v16, vget l0 4] s221 (fun v254 s255 => pExtract v254 0 (fun v256 => pExtract v254 1 (fun v257 => pBin Try.prog 3 BinOp.sub v256 (vget l0 1) (fun v258 => pBin Try.prog 3 BinOp.sub (vget l0 2) v256 (fun v259 => pBin Try.prog 3 BinOp.quo v3 (Value.int IntKind.i64 8) (fun v260 => pBin Try.prog 3 BinOp.lss v258 v259 (fun v261 => pIf v261 (pBin Try.prog 3 BinOp.geq v258 v260 (fun v262 => AC Try.prog w0 n_slices_pdqsortCmpFunc_impl_Mark [vget l0 0, vget l0 1, v256, v13, vget l0 4] s255 (fun v263 s264 => pBin Try.prog 3 BinOp.add v256 (Value.int IntKind.i64 1) (fun v265 => K1 AX.normal [vget l0 0, v265, vget l0 2, v13, vget l0 4, v262, v257] s264)))) (pBin Try.prog 3 BinOp.geq v259 v260 (fun v266 => pBin Try.prog 3 BinOp.add v256 (Value.int IntKind.i64 1) (fun v267 => AC Try.prog w0 n_slices_pdqsortCmpFunc_impl_Mark [vget l0 0, v267, vget l0 2, v13, vget l0 4] s255 (fun v268 s269 => K1 AX.normal [vget l0 0, vget l0 1, v256, v13, vget l0 4, v266, v257] s269)))))))))))))))) (pBin Try.prog 3 BinOp.gtr (vget l0 1) (Value.int IntKind.i64 0) (fun v270 => pIf v270 (pBin Try.prog 3 BinOp.sub (vget l0 1) (Value.int IntKind.i64 1) (fun v271 => pIndexAddr 2 (vget l0 0) v271 (fun v272 => pLoad w0 2 v272 s15 (fun g273 => pIndexAddr 2 (vget l0 0) v16 (fun v274 => pLoad w0 2 v274 s15 (fun g275 => pCallV (fun n276 l277 s278 K279 => AC Try.prog w0 n276 l277 s278 K279) (vget l0 4) ([Value.agg (⟨[g273 0, g273 1]⟩), Value.agg (⟨[g275 0, g275 1]⟩)]) s15 (fun v280 s281 => pBin Try.prog 3 BinOp.lss v280 (Value.int IntKind.i64 0) (fun v282 => pUn UnOp.not v282 (fun v283 => pIf v283 (AC Try.prog w0 n_slices_partitionEqualCmpFunc_impl_Mark [vget l0 0, vget l0 1, vget l0 2, v16, vget l0 4] s281 (fun v284 s285 => K1 AX.normal [vget l0 0, v284, vget l0 2, v13, vget l0 4, vget l0 5, vget l0 6] s285)) (AC Try.prog w0 n_slices_partitionCmpFunc_impl_Mark [vget l0 0, vget l0 1, vget l0 2, v16, vget l0 4] s281 (fun v286 s287 => pExtract v286 0 (fun v288 => pExtract v286 1 (fun v289 => pBin Try.prog 3 BinOp.sub v288 (vget l0 1) (fun v290 => pBin Try.prog 3 BinOp.sub (vget l0 2) v288 (fun v291 => pBin Try.prog 3 BinOp.quo v3 (Value.int IntKind.i64 8) (fun v292 => pBin Try.prog 3 BinOp.lss v290 v291 (fun v293 => pIf v293 (pBin Try.prog 3 BinOp.geq v290 v292 (fun v294 => AC Try.prog w0 n_slices_pdqsortCmpFunc_impl_Mark [vget l0 0, vget l0 1, v288, v13, vget l0 4] s287 (fun v295 s296 => pBin Try.prog 3 BinOp.add v288 (Value.int IntKind.i64 1) (fun v297 => K1 AX.normal [vget l0 0, v297, vget l0 2, v13, vget l0 4, v294, v289] s296)))) (pBin Try.prog 3 BinOp.geq v291 v292 (fun v298 => pBin Try.prog 3 BinOp.add v288 (Value.int IntKind.i64 1) (fun v299 => AC Try.prog w0 n_slices_pdqsortCmpFunc_impl_Mark [vget l0 0, v299, vget l0 2, v13, vget l0 4] s287 (fun v300 s301 => K1 AX.normal [vget l0 0, vget l0 1, v288, v13, vget l0 4, v298, v289] s301))))))))))))))))))))) (AC Try.prog w0 n_slices_partitionCmpFunc_impl_Mark [vget l0 0, vget l0 1, vget l0 2, v16, vget l0 4] s15 (fun v302 s303 => pExtract v302 0 (fun v304 => pExtract v302 1 (fun v305 => pBin Try.prog 3 BinOp.sub v304 (vget l0 1) (fun v306 => pBin Try.prog 3 BinOp.sub (vget l0 2) v304 (fun v307 => pBin Try.prog 3 BinOp.quo v3 (Value.int IntKind.i64 8) (fun v308 => pBin Try.prog 3 BinOp.lss v306 v307 (fun v309 => pIf v309 (pBin Try.prog 3 BinOp.geq v306 v308 (fun v310 => AC Try.prog w0 n_slices_pdqsortCmpFunc_impl_Mark [vget l0 0, vget l0 1, v304, v13, vget l0 4] s303 (fun v311 s312 => pBin Try.prog 3 BinOp.add v304 (Value.int IntKind.i64 1) (fun v313 => K1 AX.normal [vget l0 0, v313, vget l0 2, v13, vget l0 4, v310, v305] s312)))) (pBin Try.prog 3 BinOp.geq v307 v308 (fun v314 => pBin Try.prog 3 BinOp.add v304 (Value.int IntKind.i64 1) (fun v315 => AC Try.prog w0 n_slices_pdqsortCmpFunc_impl_Mark [vget l0 0, v315, vget l0 2, v13, vget l0 4] s303 (fun v316 s317 => K1 AX.normal [vget l0 0, vget l0 1, v304, v13, vget l0 4, v314, v305] s317)))))))))))))))) (pBin Try.prog 3 BinOp.gtr (vget l0 1) (Value.int IntKind.i64 0) (fun v318 => pIf v318 (pBin Try.prog 3 BinOp.sub (vget l0 1) (Value.int IntKind.i64 1) (fun v319 => pIndexAddr 2 (vget l0 0) v319 (fun v320 => pLoad w0 2 v320 s15 (fun g321 => pIndexAddr 2 (vget l0 0) v16 (fun v322 => pLoad w0 2 v322 s15 (fun g323 => pCallV (fun n324 l325 s326 K327 => AC Try.prog w0 n324 l325 s326 K327) (vget l0 4) ([Value.agg (⟨[g321 0, g321 1]⟩), Value.agg (⟨[g323 0, g323 1]⟩)]) s15 (fun v328 s329 => pBin Try.prog 3 BinOp.lss v328 (Value.int IntKind.i64 0) (fun v330 => pUn UnOp.not v330 (fun v331 => pIf v331 (AC Try.prog w0 n_slices_partitionEqualCmpFunc_impl_Mark [vget l0 0, vget l0 1, vget l0 2, v16, vget l0 4] s329 (fun v332 s333 => K1 AX.normal [vget l0 0, v332, vget l0 2, v13, vget l0 4, vget l0 5, vget l0 6] s333)) (AC Try.prog w0 n_slices_partitionCmpFunc_impl_Mark [vget l0 0, vget l0 1, vget l0 2, v16, vget l0 4] s329 (fun v334 s335 => pExtract v334 0 (fun v336 => pExtract v334 1 (fun v337 => pBin Try.prog 3 BinOp.sub v336 (vget l0 1) (fun v338 => pBin Try.prog 3 BinOp.sub (vget l0 2) v336 (fun v339 => pBin Try.prog 3 BinOp.quo v3 (Value.int IntKind.i64 8) (fun v340 => pBin Try.prog 3 BinOp.lss v338 v339 (fun v341 => pIf v341 (pBin Try.prog 3 BinOp.geq v338 v340 (fun v342 => AC Try.prog w0 n_slices_pdqsortCmpFunc_impl_Mark [vget l0 0, vget l0 1, v336, v13, vget l0 4] s335 (fun v343 s344 => pBin Try.prog 3 BinOp.add v336 (Value.int IntKind.i64 1) (fun v345 => K1 AX.normal [vget l0 0, v345, vget l0 2, v13, vget l0 4, v342, v337] s344)))) (pBin Try.prog 3 BinOp.geq v339 v340 (fun v346 => pBin Try.prog 3 BinOp.add v336 (Value.int IntKind.i64 1) (fun v347 => AC Try.prog w0 n_slices_pdqsortCmpFunc_impl_Mark [vget l0 0, v347, vget l0 2, v13, vget l0 4] s335 (fun v348 s349 => K1 AX.normal [vget l0 0, vget l0 1, v336, v13, vget l0 4, v346, v337] s349))))))))))))))))))))) (AC Try.prog w0 n_slices_partitionCmpFunc_impl_Mark [vget l0 0, vget l0 1, vget l0 2, v16, vget l0 4] s15 (fun v350 s351 => pExtract v350 0 (fun v352 => pExtract v350 1 (fun v353 => pBin Try.prog 3 BinOp.sub v352 (vget l0 1) (fun v354 => pBin Try.prog 3 BinOp.sub (vget l0 2) v352 (fun v355 => pBin Try.prog 3 BinOp.quo v3 (Value.int IntKind.i64 8) (fun v356 => pBin Try.prog 3 BinOp.lss v354 v355 (fun v357 => pIf v357 (pBin Try.prog 3 BinOp.geq v354 v356 (fun v358 => AC Try.prog w0 n_slices_pdqsortCmpFunc_impl_Mark [vget l0 0, vget l0 1, v352, v13, vget l0 4] s351 (fun v359 s360 => pBin Try.prog 3 BinOp.add v352 (Value.int IntKind.i64 1) (fun v361 => K1 AX.normal [vget l0 0, v361, vget l0 2, v13, vget l0 4, v358, v353] s360)))) (pBin Try.prog 3 BinOp.geq v355 v356 (fun v362 => pBin Try.prog 3 BinOp.add v352 (Value.int IntKind.i64 1) (fun v363 => AC Try.prog w0 n_slices_pdqsortCmpFunc_impl_Mark [vget l0 0, v363, vget l0 2, v13, vget l0 4] s351 (fun v364 s365 => K1 AX.normal [vget l0 0, vget l0 1, v352, v13, vget l0 4, v362, v353] s365))))))))))))))) (pBin Try.prog 3 BinOp.gtr (vget l0 1) (Value.int IntKind.i64 0) (fun v366 => pIf v366 (pBin Try.prog 3 BinOp.sub (vget l0 1) (Value.int IntKind.i64 1) (fun v367 => pIndexAddr 2 (vget l0 0) v367 (fun v368 => pLoad w0 2 v368 s15 (fun g369 => pIndexAddr 2 (vget l0 0) v16 (fun v370 => pLoad w0 2 v370 s15 (fun g371 => pCallV (fun n372 l373 s374 K375 => AC Try.prog w0 n372 l373 s374 K375) (vget l0 4) ([Value.agg (⟨[g369 0, g369 1]⟩), Value.agg (⟨[g371 0, g371 1]⟩)]) s15 (fun v376 s377 => pBin Try.prog 3 BinOp.lss v376 (Value.int IntKind.i64 0) (fun v378 => pUn UnOp.not v378 (fun v379 => pIf v379 (AC Try.prog w0 n_slices_partitionEqualCmpFunc_impl_Mark [vget l0 0, vget l0 1, vget l0 2, v16, vget l0 4] s377 (fun v380 s381 => K1 AX.normal [vget l0 0, v380, vget l0 2, v13, vget l0 4, vget l0 5, vget l0 6] s381)) (AC Try.prog w0 n_slices_partitionCmpFunc_impl_Mark [vget l0 0, vget l0 1, vget l0 2, v16, vget l0 4] s377 (fun v382 s383 => pExtract v382 0 (fun v384 => pExtract v382 1 (fun v385 => pBin Try.prog 3 BinOp.sub v384 (vget l0 1) (fun v386 => pBin Try.prog 3 BinOp.sub (vget l0 2) v384 (fun v387 => pBin Try.prog 3 BinOp.quo v3 (Value.int IntKind.i64 8) (fun v388 => pBin Try.prog 3 BinOp.lss v386 v387 (fun v389 => pIf v389 (pBin Try.prog 3 BinOp.geq v386 v388 (fun v390 => AC Try.prog w0 n_slices_pdqsortCmpFunc_impl_Mark [vget l0 0, vget l0 1, v384, v13, vget l0 4] s383 (fun v391 s392 => pBin Try.prog 3 BinOp.add v384 (Value.int IntKind.i64 1) (fun v393 => K1 AX.normal [vget l0 0, v393, vget l0 2, v13, vget l0 4, v390, v385] s392)))) (pBin Try.prog 3 BinOp.geq v387 v388 (fun v394 => pBin Try.prog 3 BinOp.add v384 (Value.int IntKind.i64 1) (fun v395 => AC Try.prog w0 n_slices_pdqsortCmpFunc_impl_Mark [vget l0 0, v395, vget l0 2, v13, vget l0 4] s383 (fun v396 s397 => K1 AX.normal [vget l0 0, vget l0 1, v384, v13, vget l0 4, v394, v385] s397))))))))))))))))))))) (AC Try.prog w0 n_slices_partitionCmpFunc_impl_Mark [vget l0 0, vget l0 1, vget l0 2, v16, vget l0 4] s15 (fun v398 s399 => pExtract v398 0 (fun v400 => pExtract v398 1 (fun v401 => pBin Try.prog 3 BinOp.sub v400 (vget l0 1) (fun v402 => pBin Try.prog 3 BinOp.sub (vget l0 2) v400 (fun v403 => pBin Try.prog 3 BinOp.quo v3 (Value.int IntKind.i64 8) (fun v404 => pBin Try.prog 3 BinOp.lss v402 v403 (fun v405 => pIf v405 (pBin Try.prog 3 BinOp.geq v402 v404 (fun v406 => AC Try.prog w0 n_slices_pdqsortCmpFunc_impl_Mark [vget l0 0, vget l0 1, v400, v13, vget l0 4] s399 (fun v407 s408 => pBin Try.prog 3 BinOp.add v400 (Value.int IntKind.i64 1) (fun v409 => K1 AX.normal [vget l0 0, v409, vget l0 2, v13, vget l0 4, v406, v401] s408)))) (pBin Try.prog 3 BinOp.geq v403 v404 (fun v410 => pBin Try.prog 3 BinOp.add v400 (Value.int IntKind.i64 1) (fun v411 => AC Try.prog w0 n_slices_pdqsortCmpFunc_impl_Mark [vget l0 0, v411, vget l0 2, v13, vget l0 4] s399 (fun v412 s413 => K1 AX.normal [vget l0 0, vget l0 1, v400, v13, vget l0 4, v410, v401] s413)))))))))))))))))))))) (AC Try.prog w0 n_slices_choosePivotCmpFunc_impl_Mark [vget l0 0, vget l0 1, vget l0 2, vget l0 4] s2 (fun v414 s415 => pExtract v414 0 (fun v416 => pExtract v414 1 (fun v417 => pBin Try.prog 162 BinOp.eql v417 (Value.int IntKind.i64 2) (fun v418 => pIf v418 (AC Try.prog w0 n_slices_reverseRangeCmpFunc_impl_Mark [vget l0 0, vget l0 1, vget l0 2, vget l0 4] s415 (fun v419 s420 => pBin Try.prog 3 BinOp.sub (vget l0 2) (Value.int IntKind.i64 1) (fun v421 => pBin Try.prog 3 BinOp.sub v416 (vget l0 1) (fun v422 => pBin Try.prog 3 BinOp.sub v421 v422 (fun v423 => pIf (vget l0 5) (pIf (vget l0 6) (pBin Try.prog 162 BinOp.eql (Value.int IntKind.i64 1) (Value.int IntKind.i64 1) (fun v424 => pIf v424 (AC Try.prog w0 n_slices_partialInsertionSortCmpFunc_impl_Mark [vget l0 0, vget l0 1, vget l0 2, vget l0 4] s420 (fun v425 s426 => pIf v425 (K1 AX.ret [vget l0 0, vget l0 1, vget l0 2, vget l0 3, vget l0 4, vget l0 5, vget l0 6] s426) (pBin Try.prog 3 BinOp.gtr (vget l0 1) (Value.int IntKind.i64 0) (fun v427 => pIf v427 (pBin Try.prog 3 BinOp.sub (vget l0 1) (Value.int IntKind.i64 1) (fun v428 => pIndexAddr 2 (vget l0 0) v428 (fun v429 => pLoad w0 2 v429 s426 (fun g430 => pIndexAddr 2 (vget l0 0) v423 (fun v431 => pLoad w0 2 v431 s426 (fun g432 => pCallV (fun n433 l434 s435 K436 => AC Try.prog w0 n433 l434 s435 K436) (vget l0 4) ([Value.agg (⟨[g430 0, g430 1]⟩), Value.agg (⟨[g432 0, g432 1]⟩)]) s426 (fun v437 s438 => pBin Try.prog 3 BinOp.lss v437 (Value.int IntKind.i64 0) (fun v439 => pUn UnOp.not v439 (fun v440 => pIf v440 (AC Try.prog w0 n_slices_partitionEqualCmpFunc_impl_Mark [vget l0 0, vget l0 1, vget l0 2, v423, vget l0 4] s438 (fun v441 s442 => K1 AX.normal [vget l0 0, v441, vget l0 2, vget l0 3, vget l0 4, vget l0 5, vget l0 6] s442)) (AC Try.prog w0 n_slices_partitionCmpFunc_impl_Mark [vget l0 0, vget l0 1, vget l0 2, v423, vget l0 4] s438 (fun v443 s444 => pExtract v443 0 (fun v445 => pExtract v443 1 (fun v446 => pBin Try.prog 3 BinOp.sub v445 (vget l0 1) (fun v447 => pBin Try.prog 3 BinOp.sub (vget l0 2) v445 (fun v448 => pBin Try.prog 3 BinOp.quo v3 (Value.int IntKind.i64 8) (fun v449 => pBin Try.prog 3 BinOp.lss v447 v448 (fun v450 => pIf v450 (pBin Try.prog 3 BinOp.geq v447 v449 (fun v451 => AC Try.prog w0 n_slices_pdqsortCmpFunc_impl_Mark [vget l0 0, vget l0 1, v445, vget l0 3, vget l0 4] s444 (fun v452 s453 => pBin Try.prog 3 BinOp.add v445 (Value.int IntKind.i64 1) (fun v454 => K1 AX.normal [vget l0 0, v454, vget l0 2, vget l0 3, vget l0 4, v451, v446] s453)))) (pBin Try.prog 3 BinOp.geq v448 v449 (fun v455 => pBin Try.prog 3 BinOp.add v445 (Value.int IntKind.i64 1) (fun v456 => AC Try.prog w0 n_slices_pdqsortCmpFunc_impl_Mark [vget l0 0, v456, vget l0 2, vget l0 3, vget l0 4] s444 (fun v457 s458 => K1 AX.normal [vget l0 0, vget l0 1, v445, vget l0 3, vget l0 4, v455, v446] s458))))))))))))))))))))) (AC Try.prog w0 n_slices_partitionCmpFunc_impl_Mark [vget l0 0, vget l0 1, vget l0 2, v423, vget l0 4] s426 (fun v459 s460 => pExtract v459 0 (fun v461 => pExtract v459 1 (fun v462 => pBin Try.prog 3 BinOp.sub v461 (vget l0 1) (fun v463 => pBin Try.prog 3 BinOp.sub (vget l0 2) v461 (fun v464 => pBin Try.prog 3 BinOp.quo v3 (Value.int IntKind.i64 8) (fun v465 => pBin Try.prog 3 BinOp.lss v463 v464 (fun v466 => pIf v466 (pBin Try.prog 3 BinOp.geq v463 v465 (fun v467 => AC Try.prog w0 n_slices_pdqsortCmpFunc_impl_Mark [vget l0 0, vget l0 1, v461, vget l0 3, vget l0 4] s460 (fun v468 s469 => pBin Try.prog 3 BinOp.add v461 (Value.int IntKind.i64 1) (fun v470 => K1 AX.normal [vget l0 0, v470, vget l0 2, vget l0 3, vget l0 4, v467, v462] s469)))) (pBin Try.prog 3 BinOp.geq v464 v465 (fun v471 => pBin Try.prog 3 BinOp.add v461 (Value.int IntKind.i64 1) (fun v472 => AC Try.prog w0 n_slices_pdqsortCmpFunc_impl_Mark [vget l0 0, v472, vget l0 2, vget l0 3, vget l0 4] s460 (fun v473 s474 => K1 AX.normal [vget l0 0, vget l0 1, v461, vget l0 3, vget l0 4, v471, v462] s474)))))))))))))))) (pBin Try.prog 3 BinOp.gtr (vget l0 1) (Value.int IntKind.i64 0) (fun v475 => pIf v475 (pBin Try.prog 3 BinOp.sub (vget l0 1) (Value.int IntKind.i64 1) (fun v476 => pIndexAddr 2 (vget l0 0) v476 (fun v477 => pLoad w0 2 v477 s420 (fun g478 => pIndexAddr 2 (vget l0 0) v423 (fun v479 => pLoad w0 2 v479 s420 (fun g480 => pCallV (fun n481 l482 s483 K484 => AC Try.prog w0 n481 l482 s483 K484) (vget l0 4) ([Value.agg (⟨[g478 0, g478 1]⟩), Value.agg (⟨[g480 0, g480 1]⟩)]) s420 (fun v485 s486 => pBin Try.prog 3 BinOp.lss v485 (Value.int IntKind.i64 0) (fun v487 => pUn UnOp.not v487 (fun v488 => pIf v488 (AC Try.prog w0 n_slices_partitionEqualCmpFunc_impl_Mark [vget l0 0, vget l0 1, vget l0 2, v423, vget l0 4] s486 (fun v489 s490 => K1 AX.normal [vget l0 0, v489, vget l0 2, vget l0 3, vget l0 4, vget l0 5, vget l0 6] s490)) (AC Try.prog w0 n_slices_partitionCmpFunc_impl_Mark [vget l0 0, vget l0 1, vget l0 2, v423, vget l0 4] s486 (fun v491 s492 => pExtract v491 0 (fun v493 => pExtract v491 1 (fun v494 => pBin Try.prog 3 BinOp.sub v493 (vget l0 1) (fun v495 => pBin Try.prog 3 BinOp.sub (vget l0 2) v493 (fun v496 => pBin Try.prog 3 BinOp.quo v3 (Value.int IntKind.i64 8) (fun v497 => pBin Try.prog 3 BinOp.lss v495 v496 (fun v498 => pIf v498 (pBin Try.prog 3 BinOp.geq v495 v497 (fun v499 => AC Try.prog w0 n_slices_pdqsortCmpFunc_impl_Mark [vget l0 0, vget l0 1, v493, vget l0 3, vget l0 4] s492 (fun v500 s501 => pBin Try.prog 3 BinOp.add v493 (Value.int IntKind.i64 1) (fun v502 => K1 AX.normal [vget l0 0, v502, vget l0 2, vget l0 3, vget l0 4, v499, v494] s501)))) (pBin Try.prog 3 BinOp.geq v496 v497 (fun v503 => pBin Try.prog 3 BinOp.add v493 (Value.int IntKind.i64 1) (fun v504 => AC Try.prog w0 n_slices_pdqsortCmpFunc_impl_Mark [vget l0 0, v504, vget l0 2, vget l0 3, vget l0 4] s492 (fun v505 s506 => K1 AX.normal [vget l0 0, vget l0 1, v493, vget l0 3, vget l0 4, v503, v494] s506))))))))))))))))))))) (AC Try.prog w0 n_slices_partitionCmpFunc_impl_Mark [vget l0 0, vget l0 1, vget l0 2, v423, vget l0 4] s420 (fun v507 s508 => pExtract v507 0 (fun v509 => pExtract v507 1 (fun v510 => pBin Try.prog 3 BinOp.sub v509 (vget l0 1) (fun v511 => pBin Try.prog 3 BinOp.sub (vget l0 2) v509 (fun v512 => pBin Try.prog 3 BinOp.quo v3 (Value.int IntKind.i64 8) (fun v513 => pBin Try.prog 3 BinOp.lss v511 v512 (fun v514 => pIf v514 (pBin Try.prog 3 BinOp.geq v511 v513 (fun v515 => AC Try.prog w0 n_slices_pdqsortCmpFunc_impl_Mark [vget l0 0, vget l0 1, v509, vget l0 3, vget l0 4] s508 (fun v516 s517 => pBin Try.prog 3 BinOp.add v509 (Value.int IntKind.i64 1) (fun v518 => K1 AX.normal [vget l0 0, v518, vget l0 2, vget l0 3, vget l0 4, v515, v510] s517)))) (pBin Try.prog 3 BinOp.geq v512 v513 (fun v519 => pBin Try.prog 3 BinOp.add v509 (Value.int IntKind.i64 1) (fun v520 => AC Try.prog w0 n_slices_pdqsortCmpFunc_impl_Mark [vget l0 0, v520, vget l0 2, vget l0 3, vget l0 4] s508 (fun v521 s522 => K1 AX.normal [vget l0 0, vget l0 1, v509, vget l0 3, vget l0 4, v519, v510] s522)))))))))))))))) (pBin Try.prog 3 BinOp.gtr (vget l0 1) (Value.int IntKind.i64 0) (fun v523 => pIf v523 (pBin Try.prog 3 BinOp.sub (vget l0 1) (Value.int IntKind.i64 1) (fun v524 => pIndexAddr 2 (vget l0 0) v524 (fun v525 => pLoad w0 2 v525 s420 (fun g526 => pIndexAddr 2 (vget l0 0) v423 (fun v527 => pLoad w0 2 v527 s420 (fun g528 => pCallV (fun n529 l530 s531 K532 => AC Try.prog w0 n529 l530 s531 K532) (vget l0 4) ([Value.agg (⟨[g526 0, g526 1]⟩), Value.agg (⟨[g528 0, g528 1]⟩)]) s420 (fun v533 s534 => pBin Try.prog 3 BinOp.lss v533 (Value.int IntKind.i64 0) (fun v535 => pUn UnOp.not v535 (fun v536 => pIf v536 (AC Try.prog w0 n_slices_partitionEqualCmpFunc_impl_Mark [vget l0 0, vget l0 1, vget l0 2, v423, vget l0 4] s534 (fun v537 s538 => K1 AX.normal [vget l0 0, v537, vget l0 2, vget l0 3, vget l0 4, vget l0 5, vget l0 6] s538)) (AC Try.prog w0 n_slices_partitionCmpFunc_impl_Mark [vget l0 0, vget l0 1, vget l0 2, v423, vget l0 4] s534 (fun v539 s540 => pExtract v539 0 (fun v541 => pExtract v539 1 (fun v542 => pBin Try.prog 3 BinOp.sub v541 (vget l0 1) (fun v543 => pBin Try.prog 3 BinOp.sub (vget l0 2) v541 (fun v544 => pBin Try.prog 3 BinOp.quo v3 (Value.int IntKind.i64 8) (fun v545 => pBin Try.prog 3 BinOp.lss v543 v544 (fun v546 => pIf v546 (pBin Try.prog 3 BinOp.geq v543 v545 (fun v547 => AC Try.prog w0 n_slices_pdqsortCmpFunc_impl_Mark [vget l0 0, vget l0 1, v541, vget l0 3, vget l0 4] s540 (fun v548 s549 => pBin Try.prog 3 BinOp.add v541 (Value.int IntKind.i64 1) (fun v550 => K1 AX.normal [vget l0 0, v550, vget l0 2, vget l0 3, vget l0 4, v547, v542] s549)))) (pBin Try.prog 3 BinOp.geq v544 v545 (fun v551 => pBin Try.prog 3 BinOp.add v541 (Value.int IntKind.i64 1) (fun v552 => AC Try.prog w0 n_slices_pdqsortCmpFunc_impl_Mark [vget l0 0, v552, vget l0 2, vget l0 3, vget l0 4] s540 (fun v553 s554 => K1 AX.normal [vget l0 0, vget l0 1, v541, vget l0 3, vget l0 4, v551, v542] s554))))))))))))))))))))) (AC Try.prog w0 n_slices_partitionCmpFunc_impl_Mark [vget l0 0, vget l0 1, vget l0 2, v423, vget l0 4] s420 (fun v555 s556 => pExtract v555 0 (fun v557 => pExtract v555 1 (fun v558 => pBin Try.prog 3 BinOp.sub v557 (vget l0 1) (fun v559 => pBin Try.prog 3 BinOp.sub (vget l0 2) v557 (fun v560 => pBin Try.prog 3 BinOp.quo v3 (Value.int IntKind.i64 8) (fun v561 => pBin Try.prog 3 BinOp.lss v559 v560 (fun v562 => pIf v562 (pBin Try.prog 3 BinOp.geq v559 v561 (fun v563 => AC Try.prog w0 n_slices_pdqsortCmpFunc_impl_Mark [vget l0 0, vget l0 1, v557, vget l0 3, vget l0 4] s556 (fun v564 s565 => pBin Try.prog 3 BinOp.add v557 (Value.int IntKind.i64 1) (fun v566 => K1 AX.normal [vget l0 0, v566, vget l0 2, vget l0 3, vget l0 4, v563, v558] s565)))) (pBin Try.prog 3 BinOp.geq v560 v561 (fun v567 => pBin Try.prog 3 BinOp.add v557 (Value.int IntKind.i64 1) (fun v568 => AC Try.prog w0 n_slices_pdqsortCmpFunc_impl_Mark [vget l0 0, v568, vget l0 2, vget l0 3, vget l0 4] s556 (fun v569 s570 => K1 AX.normal [vget l0 0, vget l0 1, v557, vget l0 3, vget l0 4, v567, v558] s570))))))))))))))) (pBin Try.prog 3 BinOp.gtr (vget l0 1) (Value.int IntKind.i64 0) (fun v571 => pIf v571 (pBin Try.prog 3 BinOp.sub (vget l0 1) (Value.int IntKind.i64 1) (fun v572 => pIndexAddr 2 (vget l0 0) v572 (fun v573 => pLoad w0 2 v573 s420 (fun g574 => pIndexAddr 2 (vget l0 0) v423 (fun v575 => pLoad w0 2 v575 s420 (fun g576 => pCallV (fun n577 l578 s579 K580 => AC Try.prog w0 n577 l578 s579 K580) (vget l0 4) ([Value.agg (⟨[g574 0, g574 1]⟩), Value.agg (⟨[g576 0, g576 1]⟩)]) s420 (fun v581 s582 => pBin Try.prog 3 BinOp.lss v581 (Value.int IntKind.i64 0) (fun v583 => pUn UnOp.not v583 (fun v584 => pIf v584 (AC Try.prog w0 n_slices_partitionEqualCmpFunc_impl_Mark [vget l0 0, vget l0 1, vget l0 2, v423, vget l0 4] s582 (fun v585 s586 => K1 AX.normal [vget l0 0, v585, vget l0 2, vget l0 3, vget l0 4, vget l0 5, vget l0 6] s586)) (AC Try.prog w0 n_slices_partitionCmpFunc_impl_Mark [vget l0 0, vget l0 1, vget l0 2, v423, vget l0 4] s582 (fun v587 s588 => pExtract v587 0 (fun v589 => pExtract v587 1 (fun v590 => pBin Try.prog 3 BinOp.sub v589 (vget l0 1) (fun v591 => pBin Try.prog 3 BinOp.sub (vget l0 2) v589 (fun v592 => pBin Try.prog 3 BinOp.quo v3 (Value.int IntKind.i64 8) (fun v593 => pBin Try.prog 3 BinOp.lss v591 v592 (fun v594 => pIf v594 (pBin Try.prog 3 BinOp.geq v591 v593 (fun v595 => AC Try.prog w0 n_slices_pdqsortCmpFunc_impl_Mark [vget l0 0, vget l0 1, v589, vget l0 3, vget l0 4] s588 (fun v596 s597 => pBin Try.prog 3 BinOp.add v589 (Value.int IntKind.i64 1) (fun v598 => K1 AX.normal [vget l0 0, v598, vget l0 2, vget l0 3, vget l0 4, v595, v590] s597)))) (pBin Try.prog 3 BinOp.geq v592 v593 (fun v599 => pBin Try.prog 3 BinOp.add v589 (Value.int IntKind.i64 1) (fun v600 => AC Try.prog w0 n_slices_pdqsortCmpFunc_impl_Mark [vget l0 0, v600, vget l0 2, vget l0 3, vget l0 4] s588 (fun v601 s602 => K1 AX.normal [vget l0 0, vget l0 1, v589, vget l0 3, vget l0 4, v599, v590] s602))))))))))))))))))))) (AC Try.prog w0 n_slices_partitionCmpFunc_impl_Mark [vget l0 0, vget l0 1, vget l0 2, v423, vget l0 4] s420 (fun v603 s604 => pExtract v603 0 (fun v605 => pExtract v603 1 (fun v606 => pBin Try.prog 3 BinOp.sub v605 (vget l0 1) (fun v607 => pBin Try.prog 3 BinOp.sub (vget l0 2) v605 (fun v608 => pBin Try.prog 3 BinOp.quo v3 (Value.int IntKind.i64 8) (fun v609 => pBin Try.prog 3 BinOp.lss v607 v608 (fun v610 => pIf v610 (pBin Try.prog 3 BinOp.geq v607 v609 (fun v611 => AC Try.prog w0 n_slices_pdqsortCmpFunc_impl_Mark [vget l0 0, vget l0 1, v605, vget l0 3, vget l0 4] s604 (fun v612 s613 => pBin Try.prog 3 BinOp.add v605 (Value.int IntKind.i64 1) (fun v614 => K1 AX.normal [vget l0 0, v614, vget l0 2, vget l0 3, vget l0 4, v611, v606] s613)))) (pBin Try.prog 3 BinOp.geq v608 v609 (fun v615 => pBin Try.prog 3 BinOp.add v605 (Value.int IntKind.i64 1) (fun v616 => AC Try.prog w0 n_slices_pdqsortCmpFunc_impl_Mark [vget l0 0, v616, vget l0 2, vget l0 3, vget l0 4] s604 (fun v617 s618 => K1 AX.normal [vget l0 0, vget l0 1, v605, vget l0 3, vget l0 4, v615, v606] s618))))))))))))))))))) (pIf (vget l0 5) (pIf (vget l0 6) (pBin Try.prog 162 BinOp.eql v417 (Value.int IntKind.i64 1) (fun v619 => pIf v619 (AC Try.prog w0 n_slices_partialInsertionSortCmpFunc_impl_Mark [vget l0 0, vget l0 1, vget l0 2, vget l0 4] s415 (fun v620 s621 => pIf v620 (K1 AX.ret [vget l0 0, vget l0 1, vget l0 2, vget l0 3, vget l0 4, vget l0 5, vget l0 6] s621) (pBin Try.prog 3 BinOp.gtr (vget l0 1) (Value.int IntKind.i64 0) (fun v622 => pIf v622 (pBin Try.prog 3 BinOp.sub (vget l0 1) (Value.int IntKind.i64 1) (fun v623 => pIndexAddr 2 (vget l0 0) v623 (fun v624 => pLoad w0 2 v624 s621 (fun g625 => pIndexAddr 2 (vget l0 0) v416 (fun v626 => pLoad w0 2 v626 s621 (fun g627 => pCallV (fun n628 l629 s630 K631 => AC Try.prog w0 n628 l629 s630 K631) (vget l0 4) ([Value.agg (⟨[g625 0, g625 1]⟩), Value.agg (⟨[g627 0, g627 1]⟩)]) s621 (fun v632 s633 => pBin Try.prog 3 BinOp.lss v632 (Value.int IntKind.i64 0) (fun v634 => pUn UnOp.not v634 (fun v635 => pIf v635 (AC Try.prog w0 n_slices_partitionEqualCmpFunc_impl_Mark [vget l0 0, vget l0 1, vget l0 2, v416, vget l0 4] s633 (fun v636 s637 => K1 AX.normal [vget l0 0, v636, vget l0 2, vget l0 3, vget l0 4, vget l0 5, vget l0 6] s637)) (AC Try.prog w0 n_slices_partitionCmpFunc_impl_Mark [vget l0 0, vget l0 1, vget l0 2, v416, vget l0 4] s633 (fun v638 s639 => pExtract v638 0 (fun v640 => pExtract v638 1 (fun v641 => pBin Try.prog 3 BinOp.sub v640 (vget l0 1) (fun v642 => pBin Try.prog 3 BinOp.sub (vget l0 2) v640 (fun v643 => pBin Try.prog 3 BinOp.quo v3 (Value.int IntKind.i64 8) (fun v644 => pBin Try.prog 3 BinOp.lss v642 v643 (fun v645 => pIf v645 (pBin Try.prog 3 BinOp.geq v642 v644 (fun v646 => AC Try.prog w0 n_slices_pdqsortCmpFunc_impl_Mark [vget l0 0, vget l0 1, v640, vget l0 3, vget l0 4] s639 (fun v647 s648 => pBin Try.prog 3 BinOp.add v640 (Value.int IntKind.i64 1) (fun v649 => K1 AX.normal [vget l0 0, v649, vget l0 2, vget l0 3, vget l0 4, v646, v641] s648)))) (pBin Try.prog 3 BinOp.geq v643 v644 (fun v650 => pBin Try.prog 3 BinOp.add v640 (Value.int IntKind.i64 1) (fun v651 => AC Try.prog w0 n_slices_pdqsortCmpFunc_impl_Mark [vget l0 0, v651, vget l0 2, vget l0 3, vget l0 4] s639 (fun v652 s653 => K1 AX.normal [vget l0 0, vget l0 1, v640, vget l0 3, vget l0 4, v650, v641] s653))))))))))))))))))))) (AC Try.prog w0 n_slices_partitionCmpFunc_impl_Mark [vget l0 0, vget l0 1, vget l0 2, v416, vget l0 4] s621 (fun v654 s655 => pExtract v654 0 (fun v656 => pExtract v654 1 (fun v657 => pBin Try.prog 3 BinOp.sub v656 (vget l0 1) (fun v658 => pBin Try.prog 3 BinOp.sub (vget l0 2) v656 (fun v659 => pBin Try.prog 3 BinOp.quo v3 (Value.int IntKind.i64 8) (fun v660 => pBin Try.prog 3 BinOp.lss v658 v659 (fun v661 => pIf v661 (pBin Try.prog 3 BinOp.geq v658 v660 (fun v662 => AC Try.prog w0 n_slices_pdqsortCmpFunc_impl_Mark [vget l0 0, vget l0 1, v656, vget l0 3, vget l0 4] s655 (fun v663 s664 => pBin Try.prog 3 BinOp.add v656 (Value.int IntKind.i64 1) (fun v665 => K1 AX.normal [vget l0 0, v665, vget l0 2, vget l0 3, vget l0 4, v662, v657] s664)))) (pBin Try.prog 3 BinOp.geq v659 v660 (fun v666 => pBin Try.prog 3 BinOp.add v656 (Value.int IntKind.i64 1) (fun v667 => AC Try.prog w0 n_slices_pdqsortCmpFunc_impl_Mark [vget l0 0, v667, vget l0 2, vget l0 3, vget l0 4] s655 (fun v668 s669 => K1 AX.normal [vget l0 0, vget l0 1, v656, vget l0 3, vget l0 4, v666, v657] s669)))))))))))))))) (pBin Try.prog 3 BinOp.gtr (vget l0 1) (Value.int IntKind.i64 0) (fun v670 => pIf v670 (pBin Try.prog 3 BinOp.sub (vget l0 1) (Value.int IntKind.i64 1) (fun v671 => pIndexAddr 2 (vget l0 0) v671 (fun v672 => pLoad w0 2 v672 s415 (fun g673 => pIndexAddr 2 (vget l0 0) v416 (fun v674 => pLoad w0 2 v674 s415 (fun g675 => pCallV (fun n676 l677 s678 K679 => AC Try.prog w0 n676 l677 s678 K679) (vget l0 4) ([Value.agg (⟨[g673 0, g673 1]⟩), Value.agg (⟨[g675 0, g675 1]⟩)]) s415 (fun v680 s681 => pBin Try.prog 3 BinOp.lss v680 (Value.int IntKind.i64 0) (fun v682 => pUn UnOp.not v682 (fun v683 => pIf v683 (AC Try.prog w0 n_slices_partitionEqualCmpFunc_impl_Mark [vget l0 0, vget l0 1, vget l0 2, v416, vget l0 4] s681 (fun v684 s685 => K1 AX.normal [vget l0 0, v684, vget l0 2, vget l0 3, vget l0 4, vget l0 5, vget l0 6] s685)) (AC Try.prog w0 n_slices_partitionCmpFunc_impl_Mark [vget l0 0, vget l0 1, vget l0 2, v416, vget l0 4] s681 (fun v686 s687 => pExtract v686 0 (fun v688 => pExtract v686 1 (fun v689 => pBin Try.prog 3 BinOp.sub v688 (vget l0 1) (fun v690 => pBin Try.prog 3 BinOp.sub (vget l0 2) v688 (fun v691 => pBin Try.prog 3 BinOp.quo v3 (Value.int IntKind.i64 8) (fun v692 => pBin Try.prog 3 BinOp.lss v690 v691 (fun v693 => pIf v693 (pBin Try.prog 3 BinOp.geq v690 v692 (fun v694 => AC Try.prog w0 n_slices_pdqsortCmpFunc_impl_Mark [vget l0 0, vget l0 1, v688, vget l0 3, vget l0 4] s687 (fun v695 s696 => pBin Try.prog 3 BinOp.add v688 (Value.int IntKind.i64 1) (fun v697 => K1 AX.normal [vget l0 0, v697, vget l0 2, vget l0 3, vget l0 4, v694, v689] s696)))) (pBin Try.prog 3 BinOp.geq v691 v692 (fun v698 => pBin Try.prog 3 BinOp.add v688 (Value.int IntKind.i64 1) (fun v699 => AC Try.prog w0 n_slices_pdqsortCmpFunc_impl_Mark [vget l0 0, v699, vget l0 2, vget l0 3, vget l0 4] s687 (fun v700 s701 => K1 AX.normal [vget l0 0, vget l0 1, v688, vget l0 3, vget l0 4, v698, v689] s701))))))))))))))))))))) (AC Try.prog w0 n_slices_partitionCmpFunc_impl_Mark [vget l0 0, vget l0 1, vget l0 2, v416, vget l0 4] s415 (fun v702 s703 => pExtract v702 0 (fun v704 => pExtract v702 1 (fun v705 => pBin Try.prog 3 BinOp.sub v704 (vget l0 1) (fun v706 => pBin Try.prog 3 BinOp.sub (vget l0 2) v704 (fun v707 => pBin Try.prog 3 BinOp.quo v3 (Value.int IntKind.i64 8) (fun v708 => pBin Try.prog 3 BinOp.lss v706 v707 (fun v709 => pIf v709 (pBin Try.prog 3 BinOp.geq v706 v708 (fun v710 => AC Try.prog w0 n_slices_pdqsortCmpFunc_impl_Mark [vget l0 0, vget l0 1, v704, vget l0 3, vget l0 4] s703 (fun v711 s712 => pBin Try.prog 3 BinOp.add v704 (Value.int IntKind.i64 1) (fun v713 => K1 AX.normal [vget l0 0, v713, vget l0 2, vget l0 3, vget l0 4, v710, v705] s712)))) (pBin Try.prog 3 BinOp.geq v707 v708 (fun v714 => pBin Try.prog 3 BinOp.add v704 (Value.int IntKind.i64 1) (fun v715 => AC Try.prog w0 n_slices_pdqsortCmpFunc_impl_Mark [vget l0 0, v715, vget l0 2, vget l0 3, vget l0 4] s703 (fun v716 s717 => K1 AX.normal [vget l0 0, vget l0 1, v704, vget l0 3, vget l0 4, v714, v705] s717)))))))))))))))) (pBin Try.prog 3 BinOp.gtr (vget l0 1) (Value.int IntKind.i64 0) (fun v718 => pIf v718 (pBin Try.prog 3 BinOp.sub (vget l0 1) (Value.int IntKind.i64 1) (fun v719 => pIndexAddr 2 (vget l0 0) v719 (fun v720 => pLoad w0 2 v720 s415 (fun g721 => pIndexAddr 2 (vget l0 0) v416 (fun v722 => pLoad w0 2 v722 s415 (fun g723 => pCallV (fun n724 l725 s726 K727 => AC Try.prog w0 n724 l725 s726 K727) (vget l0 4) ([Value.agg (⟨[g721 0, g721 1]⟩), Value.agg (⟨[g723 0, g723 1]⟩)]) s415 (fun v728 s729 => pBin Try.prog 3 BinOp.lss v728 (Value.int IntKind.i64 0) (fun v730 => pUn UnOp.not v730 (fun v731 => pIf v731 (AC Try.prog w0 n_slices_partitionEqualCmpFunc_impl_Mark [vget l0 0, vget l0 1, vget l0 2, v416, vget l0 4] s729 (fun v732 s733 => K1 AX.normal [vget l0 0, v732, vget l0 2, vget l0 3, vget l0 4, vget l0 5, vget l0 6] s733)) (AC Try.prog w0 n_slices_partitionCmpFunc_impl_Mark [vget l0 0, vget l0 1, vget l0 2, v416, vget l0 4] s729 (fun v734 s735 => pExtract v734 0 (fun v736 => pExtract v734 1 (fun v737 => pBin Try.prog 3 BinOp.sub v736 (vget l0 1) (fun v738 => pBin Try.prog 3 BinOp.sub (vget l0 2) v736 (fun v739 => pBin Try.prog 3 BinOp.quo v3 (Value.int IntKind.i64 8) (fun v740 => pBin Try.prog 3 BinOp.lss v738 v739 (fun v741 => pIf v741 (pBin Try.prog 3 BinOp.geq v738 v740 (fun v742 => AC Try.prog w0 n_slices_pdqsortCmpFunc_impl_Mark [vget l0 0, vget l0 1, v736, vget l0 3, vget l0 4] s735 (fun v743 s744 => pBin Try.prog 3 BinOp.add v736 (Value.int IntKind.i64 1) (fun v745 => K1 AX.normal [vget l0 0, v745, vget l0 2, vget l0 3, vget l0 4, v742, v737] s744)))) (pBin Try.prog 3 BinOp.geq v739 v740 (fun v746 => pBin Try.prog 3 BinOp.add v736 (Value.int IntKind.i64 1) (fun v747 => AC Try.prog w0 n_slices_pdqsortCmpFunc_impl_Mark [vget l0 0, v747, vget l0 2, vget l0 3, vget l0 4] s735 (fun v748 s749 => K1 AX.normal [vget l0 0, vget l0 1, v736, vget l0 3, vget l0 4, v746, v737] s749))))))))))))))))))))) (AC Try.prog w0 n_slices_partitionCmpFunc_impl_Mark [vget l0 0, vget l0 1, vget l0 2, v416, vget l0 4] s415 (fun v750 s751 => pExtract v750 0 (fun v752 => pExtract v750 1 (fun v753 => pBin Try.prog 3 BinOp.sub v752 (vget l0 1) (fun v754 => pBin Try.prog 3 BinOp.sub (vget l0 2) v752 (fun v755 => pBin Try.prog 3 BinOp.quo v3 (Value.int IntKind.i64 8) (fun v756 => pBin Try.prog 3 BinOp.lss v754 v755 (fun v757 => pIf v757 (pBin Try.prog 3 BinOp.geq v754 v756 (fun v758 => AC Try.prog w0 n_slices_pdqsortCmpFunc_impl_Mark [vget l0 0, vget l0 1, v752, vget l0 3, vget l0 4] s751 (fun v759 s760 => pBin Try.prog 3 BinOp.add v752 (Value.int IntKind.i64 1) (fun v761 => K1 AX.normal [vget l0 0, v761, vget l0 2, vget l0 3, vget l0 4, v758, v753] s760)))) (pBin Try.prog 3 BinOp.geq v755 v756 (fun v762 => pBin Try.prog 3 BinOp.add v752 (Value.int IntKind.i64 1) (fun v763 => AC Try.prog w0 n_slices_pdqsortCmpFunc_impl_Mark [vget l0 0, v763, vget l0 2, vget l0 3, vget l0 4] s751 (fun v764 s765 => K1 AX.normal [vget l0 0, vget l0 1, v752, vget l0 3, vget l0 4, v762, v753] s765))))))))))))))) (pBin Try.prog 3 BinOp.gtr (vget l0 1) (Value.int IntKind.i64 0) (fun v766 => pIf v766 (pBin Try.prog 3 BinOp.sub (vget l0 1) (Value.int IntKind.i64 1) (fun v767 => pIndexAddr 2 (vget l0 0) v767 (fun v768 => pLoad w0 2 v768 s415 (fun g769 => pIndexAddr 2 (vget l0 0) v416 (fun v770 => pLoad w0 2 v770 s415 (fun g771 => pCallV (fun n772 l773 s774 K775 => AC Try.prog w0 n772 l773 s774 K775) (vget l0 4) ([Value.agg (⟨[g769 0, g769 1]⟩), Value.agg (⟨[g771 0, g771 1]⟩)]) s415 (fun v776 s777 => pBin Try.prog 3 BinOp.lss v776 (Value.int IntKind.i64 0) (fun v778 => pUn UnOp.not v778 (fun v779 => pIf v779 (AC Try.prog w0 n_slices_partitionEqualCmpFunc_impl_Mark [vget l0 0, vget l0 1, vget l0 2, v416, vget l0 4] s777 (fun v780 s781 => K1 AX.normal [vget l0 0, v780, vget l0 2, vget l0 3, vget l0 4, vget l0 5, vget l0 6] s781)) (AC Try.prog w0 n_slices_partitionCmpFunc_impl_Mark [vget l0 0, vget l0 1, vget l0 2, v416, vget l0 4] s777 (fun v782 s783 => pExtract v782 0 (fun v784 => pExtract v782 1 (fun v785 => pBin Try.prog 3 BinOp.sub v784 (vget l0 1) (fun v786 => pBin Try.prog 3 BinOp.sub (vget l0 2) v784 (fun v787 => pBin Try.prog 3 BinOp.quo v3 (Value.int IntKind.i64 8) (fun v788 => pBin Try.prog 3 BinOp.lss v786 v787 (fun v789 => pIf v789 (pBin Try.prog 3 BinOp.geq v786 v788 (fun v790 => AC Try.prog w0 n_slices_pdqsortCmpFunc_impl_Mark [vget l0 0, vget l0 1, v784, vget l0 3, vget l0 4] s783 (fun v791 s792 => pBin Try.prog 3 BinOp.add v784 (Value.int IntKind.i64 1) (fun v793 => K1 AX.normal [vget l0 0, v793, vget l0 2, vget l0 3, vget l0 4, v790, v785] s792)))) (pBin Try.prog 3 BinOp.geq v787 v788 (fun v794 => pBin Try.prog 3 BinOp.add v784 (Value.int IntKind.i64 1) (fun v795 => AC Try.prog w0 n_slices_pdqsortCmpFunc_impl_Mark [vget l0 0, v795, vget l0 2, vget l0 3, vget l0 4] s783 (fun v796 s797 => K1 AX.normal [vget l0 0, vget l0 1, v784, vget l0 3, vget l0 4, v794, v785] s797))))))))))))))))))))) (AC Try.prog w0 n_slices_partitionCmpFunc_impl_Mark [vget l0 0, vget l0 1, vget l0 2, v416, vget l0 4] s415 (fun v798 s799 => pExtract v798 0 (fun v800 => pExtract v798 1 (fun v801 => pBin Try.prog 3 BinOp.sub v800 (vget l0 1) (fun v802 => pBin Try.prog 3 BinOp.sub (vget l0 2) v800 (fun v803 => pBin Try.prog 3 BinOp.quo v3 (Value.int IntKind.i64 8) (fun v804 => pBin Try.prog 3 BinOp.lss v802 v803 (fun v805 => pIf v805 (pBin Try.prog 3 BinOp.geq v802 v804 (fun v806 => AC Try.prog w0 n_slices_pdqsortCmpFunc_impl_Mark [vget l0 0, vget l0 1, v800, vget l0 3, vget l0 4] s799 (fun v807 s808 => pBin Try.prog 3 BinOp.add v800 (Value.int IntKind.i64 1) (fun v809 => K1 AX.normal [vget l0 0, v809, vget l0 2, vget l0 3, vget l0 4, v806, v801] s808)))) (pBin Try.prog 3 BinOp.geq v803 v804 (fun v810 => pBin Try.prog 3 BinOp.add v800 (Value.int IntKind.i64 1) (fun v811 => AC Try.prog w0 n_slices_pdqsortCmpFunc_impl_Mark [vget l0 0, v811, vget l0 2, vget l0 3, vget l0 4] s799 (fun v812 s813 => K1 AX.normal [vget l0 0, vget l0 1, v800, vget l0 3, vget l0 4, v810, v801] s813))))))))))))))))))))))))))) [a0, a1, a2, a3, a4, Value.bool true, Value.bool true] σ (fun x814 l815 s816 => match x814 with | .normal => R (Value.tuple ⟨[]⟩) s816 | .ret => R (Value.tuple ⟨[]⟩) s816 | .exit i817 => (match Nat.beq i817 0 with | true => R (Value.tuple ⟨[]⟩) s816 | false => False))
theorem vc_slices_pdqsortCmpFunc_impl_Mark_eq (w0 : World) (a0 a1 a2 a3 a4 : Value) (σ : Vw) (R : Value → Vw → Prop) : vc_slices_pdqsortCmpFunc_impl_Mark w0 a0 a1 a2 a3 a4 σ R = den Try.prog w0 kp_slices_pdqsortCmpFunc_impl_Mark esc_slices_pdqsortCmpFunc_impl_Mark (Try.f145.body.getD .skip) (entry Try.f145.ntmps [a0, a1, a2, a3, a4]) σ (retK Try.prog Try.f145.results.toList R) := by kernel_rfl
theorem ac_slices_pdqsortCmpFunc_impl_Mark {w0 : World} {a0 a1 a2 a3 a4 : Value} {σ : Vw} {R : Value → Vw → Prop} (h : vc_slices_pdqsortCmpFunc_impl_Mark w0 a0 a1 a2 a3 a4 σ R) : AC Try.prog w0 n_slices_pdqsortCmpFunc_impl_Mark [a0, a1, a2, a3, a4] σ R := by
  refine ac_rule (fn := Try.f145) (c := Try.f145.body.getD .skip) kp_slices_pdqsortCmpFunc_impl_Mark esc_slices_pdqsortCmpFunc_impl_Mark Try.func145 (by kernel_rfl) (by kernel_rfl) ?_
  rw [← vc_slices_pdqsortCmpFunc_impl_Mark_eq]
  exact h

/-- math/bits.Len -/
def kp_math_bits_Len : Nat → Keep
  | _ => ⟨[], [], [], .done, []⟩
def esc_math_bits_Len : Nat → Bool
  | _ => false
def vc_math_bits_Len (w0 : World) (a0 : Value) (σ : Vw) (R : Value → Vw → Prop) : Prop :=
  AC Try.prog w0 n_math_bits_Len64 [a0] σ (fun v0 s1 => R v0 s1)
theorem vc_math_bits_Len_eq (w0 : World) (a0 : Value) (σ : Vw) (R : Value → Vw → Prop) : vc_math_bits_Len w0 a0 σ R = den Try.prog w0 kp_math_bits_Len esc_math_bits_Len (Try.f146.body.getD .skip) (entry Try.f146.ntmps [a0]) σ (retK Try.prog Try.f146.results.toList R) := by kernel_rfl
theorem ac_math_bits_Len {w0 : World} {a0 : Value} {σ : Vw} {R : Value → Vw → Prop} (h : vc_math_bits_Len w0 a0 σ R) : AC Try.prog w0 n_math_bits_Len [a0] σ R := by
  refine ac_rule (fn := Try.f146) (c := Try.f146.body.getD .skip) kp_math_bits_Len esc_math_bits_Len Try.func146 (by kernel_rfl) (by kernel_rfl) ?_
  rw [← vc_math_bits_Len_eq]
  exact h

/-- cmp.isNaN[string] -/
def kp_cmp_isNaN_string : Nat → Keep
  | _ => ⟨[], [], [], .done, []⟩
def esc_cmp_isNaN_string : Nat → Bool
  | _ => false
def vc_cmp_isNaN_string (w0 : World) (a0 : Value) (σ : Vw) (R : Value → Vw → Prop) : Prop :=
  pBin Try.prog 9 BinOp.neq a0 a0 (fun v0 => R v0 σ)
theorem vc_cmp_isNaN_string_eq (w0 : World) (a0 : Value) (σ : Vw) (R : Value → Vw → Prop) : vc_cmp_isNaN_string w0 a0 σ R = den Try.prog w0 kp_cmp_isNaN_string esc_cmp_isNaN_string (Try.f151.body.getD .skip) (entry Try.f151.ntmps [a0]) σ (retK Try.prog Try.f151.results.toList R) := by kernel_rfl
theorem ac_cmp_isNaN_string {w0 : World} {a0 : Value} {σ : Vw} {R : Value → Vw → Prop} (h : vc_cmp_isNaN_string w0 a0 σ R) : AC Try.prog w0 n_cmp_isNaN_string [a0] σ R := by
  refine ac_rule (fn := Try.f151) (c := Try.f151.body.getD .skip) kp_cmp_isNaN_string esc_cmp_isNaN_string Try.func151 (by kernel_rfl) (by kernel_rfl) ?_
  rw [← vc_cmp_isNaN_string_eq]
  exact h

/-- slices.IndexFunc[[]impl.Mark,impl.Mark] -/
def kp_slices_IndexFunc_impl_Mark_impl_Mark : Nat → Keep
  | 2 => ⟨[0, 1, 4, 7, 8], [], [], .done, []⟩
  | _ => ⟨[], [], [], .done, []⟩
def esc_slices_IndexFunc_impl_Mark_impl_Mark : Nat → Bool
  | _ => false
def vc_slices_IndexFunc_impl_Mark_impl_Mark (w0 : World) (a0 a1 : Value) (σ : Vw) (R : Value → Vw → Prop) : Prop :=
  pLen a0 (fun v0 => pLoop (fun l1 K2 s3 => pBin Try.prog 3 BinOp.lss (vget l1 4) (vget l1 3) (fun v4 => pIf v4 (pIndexAddr 2 (vget l1 0) (vget l1 4) (fun v5 => pLoad w0 2 v5 s3 (fun g6 => pCallV (fun n7 l8 s9 K10 => AC Try.prog w0 n7 l8 s9 K10) (vget l1 1) ([Value.agg (⟨[g6 0, g6 1]⟩)]) s3 (fun v11 s12 => pIf v11 (K2 AX.ret [vget l1 0, vget l1 1, vget l1 4, vget l1 3, vget l1 4] s12) (pBin Try.prog 3 BinOp.add (vget l1 4) (Value.int IntKind.i64 1) (fun v13 => K2 AX.normal [vget l1 0, vget l1 1, vget l1 2, vget l1 3, v13] s12)))))) (K2 (AX.exit 0) [vget l1 0, vget l1 1, vget l1 2, vget l1 3, vget l1 4] s3))) [a0, a1, Value.int IntKind.i64 0, v0, Value.int IntKind.i64 0] σ (fun x14 l15 s16 => match x14 with | .normal => R (Value.int IntKind.i64 (-1)) s16 | .ret => R (vget l15 2) s16 | .exit i17 => (match Nat.beq i17 0 with | true => R (Value.int IntKind.i64 (-1)) s16 | false => False)))
theorem vc_slices_IndexFunc_impl_Mark_impl_Mark_eq (w0 : World) (a0 a1 : Value) (σ : Vw) (R : Value → Vw → Prop) : vc_slices_IndexFunc_impl_Mark_impl_Mark w0 a0 a1 σ R = den Try.prog w0 kp_slices_IndexFunc_impl_Mark_impl_Mark esc_slices_IndexFunc_impl_Mark_impl_Mark (Try.f156.body.getD .skip) (entry Try.f156.ntmps [a0, a1]) σ (retK Try.prog Try.f156.results.toList R) := by kernel_rfl
theorem ac_slices_IndexFunc_impl_Mark_impl_Mark {w0 : World} {a0 a1 : Value} {σ : Vw} {R : Value → Vw → Prop} (h : vc_slices_IndexFunc_impl_Mark_impl_Mark w0 a0 a1 σ R) : AC Try.prog w0 n_slices_IndexFunc_impl_Mark_impl_Mark [a0, a1] σ R := by
  refine ac_rule (fn := Try.f156) (c := Try.f156.body.getD .skip) kp_slices_IndexFunc_impl_Mark_impl_Mark esc_slices_IndexFunc_impl_Mark_impl_Mark Try.func156 (by kernel_rfl) (by kernel_rfl) ?_
  rw [← vc_slices_IndexFunc_impl_Mark_impl_Mark_eq]
  exact h

/-- slices.insertionSortCmpFunc[impl.Mark] -/
def kp_slices_insertionSortCmpFunc_impl_Mark : Nat → Keep
  | 1 => ⟨[0, 1, 2, 3, 8], [], [], .done, []⟩
  | 4 => ⟨[0, 1, 2, 3, 8, 9], [], [], .step 0 (.step 1 (.step 2 (.step 3 (.step 4 (.step 5 (.step 6 (.step 7 (.step 8 (.step 9 (.step 10 (.step 11 (.step 12 (.step 13 (.step 14 (.step 15 (.step 16 (.done))))))))))))))))), [(2, [0, 1]), (3, [0, 1, 2]), (4, [0, 1, 2, 3]), (5, [0, 1, 2, 3]), (6, [0, 1, 2, 3]), (7, [0, 1, 2, 3, 5, 6]), (8, [0, 1, 2, 3, 5, 6, 7]), (9, [0, 1, 2, 3]), (10, [0, 1, 2, 3]), (11, [0, 1, 2, 3, 10]), (12, [0, 1, 2, 3, 9, 10, 11]), (13, [0, 1, 2, 3, 9, 10, 11, 12]), (14, [0, 1, 2, 3, 4, 5, 6, 7, 8, 9, 10, 11, 12, 13]), (15, [0, 1, 2, 3, 4, 5, 6, 7, 8, 9, 10, 11, 12, 13, 14]), (16, [0, 1, 2, 3, 4, 5, 6, 7, 8, 9, 10, 11, 12, 13, 14, 15])]⟩
  | 6 => ⟨[], [], [], .step 0 (.step 1 (.step 2 (.step 3 (.step 4 (.step 5 (.step 6 (.step 7 (.step 8 (.step 9 (.step 10 (.step 11 (.step 12 (.step 13 (.step 14 (.step 15 (.step 16 (.step 17 (.done)))))))))))))))))), [(4, [3]), (7, [6]), (8, [5, 6, 7]), (9, [5, 6, 7, 8]), (12, [10, 11]), (13, [10, 11, 12]), (14, [0, 1, 5, 6, 7, 8, 9, 10, 11, 12, 13]), (15, [0, 1, 5, 6, 7, 8, 9, 10, 11, 12, 13, 14]), (16, [0, 1, 2, 3, 4, 5, 6, 7, 8, 9, 10, 11, 12, 13, 14, 15]), (17, [0, 1, 2, 3, 4, 5, 6, 7, 8, 9, 10, 11, 12, 13, 14, 15, 16])]⟩
  | _ => ⟨[], [], [], .done, []⟩
def esc_slices_insertionSortCmpFunc_impl_Mark : Nat → Bool
  | _ => false
def vc_slices_insertionSortCmpFunc_impl_Mark (w0 : World) (a0 a1 a2 a3 : Value) (σ : Vw) (R : Value → Vw → Prop) : Prop :=
  pBin Try.prog 3 BinOp.add a1 (Value.int IntKind.i64 1) (fun v0 => pLoop (fun l1 K2 s3 => pBin Try.prog 3 BinOp.lss (vget l1 4) (vget l1 2) (fun v4 => pIf v4 (pLoop (fun l5 K6 s7 => pBin Try.prog 3 BinOp.gtr (vget l5 5) (vget l5 1) (fun v8 => pIf v8 (pIndexAddr 2 (vget l5 0) (vget l5 5) (fun v9 => pLoad w0 2 v9 s7 (fun g10 => pBin Try.prog 3 BinOp.sub (vget l5 5) (Value.int IntKind.i64 1) (fun v11 => pIndexAddr 2 (vget l5 0) v11 (fun v12 => pLoad w0 2 v12 s7 (fun g13 => pCallV (fun n14 l15 s16 K17 => AC Try.prog w0 n14 l15 s16 K17) (vget l5 3) ([Value.agg (⟨[g10 0, g10 1]⟩), Value.agg (⟨[g13 0, g13 1]⟩)]) s7 (fun v18 s19 => pBin Try.prog 3 BinOp.lss v18 (Value.int IntKind.i64 0) (fun v20 => pIf v20 (pBin Try.prog 3 BinOp.sub (vget l5 5) (Value.int IntKind.i64 1) (fun v21 => pBin Try.prog 3 BinOp.sub (vget l5 5) (Value.int IntKind.i64 1) (fun v22 => pIndexAddr 2 (vget l5 0) v22 (fun v23 => pLoad w0 2 v23 s19 (fun g24 => pIndexAddr 2 (vget l5 0) (vget l5 5) (fun v25 => pLoad w0 2 v25 s19 (fun g26 => pIndexAddr 2 (vget l5 0) (vget l5 5) (fun v27 => pVal true 2 (Value.agg (⟨[g24 0, g24 1]⟩)) (pStore v27 [g24 0, g24 1] s19 (fun s28 => pIndexAddr 2 (vget l5 0) v21 (fun v29 => pVal true 2 (Value.agg (⟨[g26 0, g26 1]⟩)) (pStore v29 [g26 0, g26 1] s28 (fun s30 => pBin Try.prog 3 BinOp.sub (vget l5 5) (Value.int IntKind.i64 1) (fun v31 => K6 AX.normal [vget l5 0, vget l5 1, vget l5 2, vget l5 3, vget l5 4, v31] s30)))))))))))))) (K6 (AX.exit 2) [vget l5 0, vget l5 1, vget l5 2, vget l5 3, vget l5 4, vget l5 5] s19))))))))) (K6 (AX.exit 2) [vget l5 0, vget l5 1, vget l5 2, vget l5 3, vget l5 4, vget l5 5] s7))) [vget l1 0, vget l1 1, vget l1 2, vget l1 3, vget l1 4, vget l1 4] s3 (fun x32 l33 s34 => match x32 with | .normal => pBin Try.prog 3 BinOp.add (vget l33 4) (Value.int IntKind.i64 1) (fun v35 => K2 AX.normal [vget l33 0, vget l33 1, vget l33 2, vget l33 3, v35] s34) | .ret => K2 AX.ret [vget l33 0, vget l33 1, vget l33 2, vget l33 3, vget l33 4] s34 | .exit i36 => (match Nat.beq i36 2 with | true => pBin Try.prog 3 BinOp.add (vget l33 4) (Value.int IntKind.i64 1) (fun v37 => K2 AX.normal [vget l33 0, vget l33 1, vget l33 2, vget l33 3, v37] s34) | false => (match Nat.beq i36 1 with | true => pBin Try.prog 3 BinOp.add (vget l33 4) (Value.int IntKind.i64 1) (fun v38 => K2 AX.normal [vget l33 0, vget l33 1, vget l33 2, vget l33 3, v38] s34) | false => K2 (AX.exit i36) [vget l33 0, vget l33 1, vget l33 2, vget l33 3, vget l33 4] s34)))) (K2 (AX.exit 0) [vget l1 0, vget l1 1, vget l1 2, vget l1 3, vget l1 4] s3))) [a0, a1, a2, a3, v0] σ (fun x39 l40 s41 => match x39 with | .normal => R (Value.tuple ⟨[]⟩) s41 | .ret => R (Value.tuple ⟨[]⟩) s41 | .exit i42 => (match Nat.beq i42 0 with | true => R (Value.tuple ⟨[]⟩) s41 | false => False)))
theorem vc_slices_insertionSortCmpFunc_impl_Mark_eq (w0 : World) (a0 a1 a2 a3 : Value) (σ : Vw) (R : Value → Vw → Prop) : vc_slices_insertionSortCmpFunc_impl_Mark w0 a0 a1 a2 a3 σ R = den Try.prog w0 kp_slices_insertionSortCmpFunc_impl_Mark esc_slices_insertionSortCmpFunc_impl_Mark (Try.f157.body.getD .skip) (entry Try.f157.ntmps [a0, a1, a2, a3]) σ (retK Try.prog Try.f157.results.toList R) := by kernel_rfl
theorem ac_slices_insertionSortCmpFunc_impl_Mark {w0 : World} {a0 a1 a2 a3 : Value} {σ : Vw} {R : Value → Vw → Prop} (h : vc_slices_insertionSortCmpFunc_impl_Mark w0 a0 a1 a2 a3 σ R) : AC Try.prog w0 n_slices_insertionSortCmpFunc_impl_Mark [a0, a1, a2, a3] σ R := by
  refine ac_rule (fn := Try.f157) (c := Try.f157.body.getD .skip) kp_slices_insertionSortCmpFunc_impl_Mark esc_slices_insertionSortCmpFunc_impl_Mark Try.func157 (by kernel_rfl) (by kernel_rfl) ?_
  rw [← vc_slices_insertionSortCmpFunc_impl_Mark_eq]
  exact h

end Go.Proofs.Ytlbpnfhhoalenaa

/- What each function owes, reckoned out, part 4. MADE BY PROGRAM (emit.py). -/
set_option linter.unusedVariables false
namespace Go.Proofs.Ytlbpnfhhoalenaa
open Go Go.Av

end Go.Proofs.Ytlbpnfhhoalenaa

/- What each function owes, reckoned out, part 5. MADE BY PROGRAM (emit.py). -/
set_option linter.unusedVariables false
namespace Go.Proofs.Ytlbpnfhhoalenaa
open Go Go.Av

end Go.Proofs.Ytlbpnfhhoalenaa

/- What each function owes: all parts. MADE BY PROGRAM (emit.py). -/


/- The lists of texts: their size, their copy, their comparison. -/
set_option linter.unusedVariables false
set_option linter.unusedSimpArgs false
namespace Go.Proofs.Ytlbpnfhhoalenaa
open Go Go.Av

section
variable {w0 : World} {σ : Vw}

def sumS : List ByteArray → Nat
  | [] => 0
  | s :: r => s.size + sumS r
theorem sumS_take {xs : List ByteArray} : ∀ {j : Nat} {x : ByteArray}, xs[j]? = some x → sumS (xs.take (j + 1)) = sumS (xs.take j) + x.size := by
  induction xs with
  | nil => intro j x h; simp at h
  | cons a r ih =>
    intro j x h
    cases j with
    | zero => simp at h; subst h; simp [sumS]
    | succ j =>
      simp at h
      have := ih h
      simp only [List.take_succ_cons, sumS, this]
      omega
theorem sumS_le {xs : List ByteArray} : ∀ (j : Nat), sumS (xs.take j) ≤ sumS xs := by
  induction xs with
  | nil => intro j; simp [sumS]
  | cons a r ih =>
    intro j
    cases j with
    | zero => simp [sumS]
    | succ j => have := ih j; simp only [List.take_succ_cons, sumS]; omega

/-- What is left of n. -/
def left (n : Int) (t : Nat) : Int := if n - t < 0 then -1 else n - t

theorem szStringS {v : Value} {xs : List ByteArray} {n : Int} (h : RSl 1 RS (Av.get w0 σ) v xs) (hn : 0 ≤ n ∧ n ≤ 9223372036854775807) {R : Value → Vw → Prop} (hR : R (.int .i64 (left n (xs.length + sumS xs))) σ) : AC Try.prog w0 n_laws_szStringS [v, .int .i64 n] σ R := by
  refine ac_laws_szStringS ?_
  unfold vc_laws_szStringS
  have hl : xs.length ≤ 9223372036854775807 := by obtain ⟨_, _, _, h2, _⟩ := h; exact Nat.le_trans h2.1 h2.2
  rw [h.len, pBin_sub (by omega), pBin_lt, pIf_d]
  refine ⟨fun hlt => ?_, fun hge => ?_⟩
  · have : left n (xs.length + sumS xs) = -1 := by unfold left; rw [if_pos (by omega)]
    rw [this] at hR; exact hR
  · refine loop_rule (m := xs.length) (fun m l s => ∃ j, s = σ ∧ m + j = xs.length ∧ 0 ≤ n - xs.length - sumS (xs.take j) ∧ l = [v, .int .i64 (n - xs.length - sumS (xs.take j)), .int .i64 0, .int .i64 (j : Nat)]) ?_ ⟨0, rfl, by omega, by simp [sumS]; omega, by simp [sumS]⟩
    rintro m l s L ⟨j, rfl, hm, h0, rfl⟩ hL
    simp only [vget, List.getD_cons_zero, List.getD_cons_succ]
    rw [h.len, pBin_lt, pIf_d]
    refine ⟨fun hj => ?_, fun hj => ?_⟩
    · have hj' : j < xs.length := by omega
      have hx := List.getElem?_eq_getElem hj'
      refine h.at hx fun g hg => ?_
      obtain ⟨hg, hs⟩ := hg
      simp only [expl, List.cons.injEq, and_true] at hg
      have ht := sumS_take hx
      have hle := sumS_le (xs := xs) (j + 1)
      rw [hg, pLenS_s, pBin_sub (by omega), pBin_lt, pIf_d]
      refine ⟨fun hlt => ?_, fun hge => ?_⟩
      · have : left n (xs.length + sumS xs) = -1 := by unfold left; rw [if_pos (by omega)]
        rw [this] at hR; exact hR
      · rw [pBin_add (by omega)]
        refine hL _ _ (m - 1) (by omega) ⟨j + 1, rfl, by omega, by omega, ?_⟩
        rw [ht]
        congr 2
        · congr 1; omega
    · have hj' : j = xs.length := by omega
      subst hj'
      rw [List.take_length] at h0 ⊢
      have : left n (xs.length + sumS xs) = n - xs.length - sumS xs := by unfold left; rw [if_neg (by omega)]; omega
      rw [this] at hR
      exact hR
end
end Go.Proofs.Ytlbpnfhhoalenaa

/- The lists of texts: their copy, their comparison. -/
set_option linter.unusedVariables false
set_option linter.unusedSimpArgs false
namespace Go.Proofs.Ytlbpnfhhoalenaa
open Go Go.Av

section
variable {w0 : World} {σ : Vw}


theorem toStringS {v : Value} {xs : List ByteArray} (h : RSl 1 RS (Av.get w0 σ) v xs) (hb : xs.length ≤ 1000000000000) {R : Value → Vw → Prop}
    (hR : ∀ b ety, w0.heap.size ≤ b → σ b = none → R (.slice (some ⟨b, 0, none⟩) xs.length xs.length) (σ.put b ⟨ety, xs.map .string, xs.length, (0, 0)⟩)) : AC Try.prog w0 n_laws_toStringS [v] σ R := by
  refine ac_laws_toStringS ?_
  unfold vc_laws_toStringS
  rw [h.len]
  refine pMake_s (by omega) (by omega) fun b ety h1 h2 => ?_
  refine loop_rule (m := xs.length) (fun m l s => ∃ j, m + j = xs.length ∧ s = σ.put b ⟨ety, (xs.take j).map .string ++ List.replicate m (.string ⟨#[]⟩), xs.length * 1, (0, 0)⟩ ∧ l = [v, .slice (some ⟨b, 0, none⟩) xs.length xs.length, .int .i64 (j : Nat)]) ?_ ⟨0, by omega, by simp, rfl⟩
  rintro m l s L ⟨j, hm, rfl, rfl⟩ hL
  simp only [vget, List.getD_cons_zero, List.getD_cons_succ]
  rw [h.len, pBin_lt, pIf_d]
  refine ⟨fun hj => ?_, fun hj => ?_⟩
  · have hj' : j < xs.length := by omega
    have hx := List.getElem?_eq_getElem hj'
    refine RSl.at (h.mono (Keeps.put h2).le fun _ _ h => h) hx fun g hg => ?_
    obtain ⟨hg, hs⟩ := hg
    simp only [expl, List.cons.injEq, and_true] at hg
    obtain ⟨m', rfl⟩ : ∃ m', m = m' + 1 := ⟨m - 1, by omega⟩
    rw [hg]
    have e1 : ∀ A : Prop, pVal false 1 (.string xs[j]) A = A := fun A => propext (pVal1 rfl)
    simp only [e1]
    refine own_store (r := ⟨ety, (xs.take j).map .string ++ List.replicate (m' + 1) (.string ⟨#[]⟩), xs.length * 1, (0, 0)⟩) (A := (xs.take j).map .string) (old := [.string ⟨#[]⟩]) (new := [.string xs[j]]) (C := List.replicate m' (.string ⟨#[]⟩)) put_at (by simp [List.replicate_succ]) (by simp; omega) rfl rfl hj' ?_
    rw [pBin_add (by omega)]
    refine hL _ _ m' rfl ⟨j + 1, by omega, ?_, rfl⟩
    rw [put_put, List.take_add_one, hx]
    simp only [Option.toList_some, List.map_append, List.map_cons, List.map_nil, List.append_assoc]
  · have hj' : j = xs.length := by omega
    subst hj'
    have : m = 0 := by omega
    subst this
    have := hR b ety h1 h2
    simpa using this

theorem eqStringS {v v' : Value} {xs ys : List ByteArray} (h : RSl 1 RS (Av.get w0 σ) v xs) (h' : RSl 1 RS (Av.get w0 σ) v' ys) {R : Value → Vw → Prop} (hR : R (.bool (decide (xs = ys))) σ) : AC Try.prog w0 n_laws_eqStringS [v, v'] σ R := by
  refine ac_laws_eqStringS ?_
  unfold vc_laws_eqStringS
  have hl : xs.length ≤ 9223372036854775807 := by obtain ⟨_, _, _, h2, _⟩ := h; exact Nat.le_trans h2.1 h2.2
  rw [h.len, h'.len, pBin_ne, pIf_d]
  refine ⟨fun hne => ?_, fun heq => ?_⟩
  · have : xs ≠ ys := fun e => hne (by rw [e])
    simpa [this] using hR
  · have hlen : xs.length = ys.length := by omega
    refine loop_rule (m := xs.length) (fun m l s => ∃ j, s = σ ∧ m + j = xs.length ∧ xs.take j = ys.take j ∧ l = [v, v', .bool false, .int .i64 (j : Nat)]) ?_ ⟨0, rfl, by omega, by simp, rfl⟩
    rintro m l s L ⟨j, rfl, hm, ht, rfl⟩ hL
    simp only [vget, List.getD_cons_zero, List.getD_cons_succ]
    rw [h.len, pBin_lt, pIf_d]
    refine ⟨fun hj => ?_, fun hj => ?_⟩
    · have hj' : j < xs.length := by omega
      have hx := List.getElem?_eq_getElem hj'
      have hy := List.getElem?_eq_getElem (show j < ys.length by omega)
      refine h.at hx fun g hg => ?_
      obtain ⟨hg, hs⟩ := hg
      simp only [expl, List.cons.injEq, and_true] at hg
      refine h'.at hy fun g' hg' => ?_
      obtain ⟨hg', hs'⟩ := hg'
      simp only [expl, List.cons.injEq, and_true] at hg'
      rw [hg, hg', pBin_sne, pIf_d]
      refine ⟨fun hne => ?_, fun heq => ?_⟩
      · have : xs ≠ ys := fun e => by subst e; exact hne rfl
        simpa [this] using hR
      · rw [pBin_add (by omega)]
        have heq' : xs[j] = ys[j] := Decidable.not_not.1 heq
        refine hL _ _ (m - 1) (by omega) ⟨j + 1, rfl, by omega, ?_, rfl⟩
        rw [List.take_add_one, List.take_add_one, hx, hy, ht, heq']
    · have hj' : j = xs.length := by omega
      subst hj'
      rw [List.take_length, hlen, List.take_length] at ht
      subst ht
      simpa using hR
end
end Go.Proofs.Ytlbpnfhhoalenaa

/- The lists of texts in rows of their own; marks (a path and a bool) and their lists: size, copy, comparison. -/
set_option linter.unusedVariables false
set_option linter.unusedSimpArgs false
namespace Go.Proofs.Ytlbpnfhhoalenaa
open Go Go.Av

/-- A text needs no row. -/
def OStr (σ : Vw) (F : List Nat) (es : List Value) (s : ByteArray) : Prop := F = [] ∧ es = [.string s] ∧ s.size ≤ 9223372036854775807

section
variable {w0 : World} {σ : Vw}

theorem ok_str (w0 : World) : OOk w0 1 RS OStr := by
  refine ⟨?_, ?_, ?_, ?_, ?_, ?_⟩
  · rintro σ F es x ⟨_, h1, h2⟩; exact ⟨h1, h2⟩
  · rintro σ σ' F es x h _; exact h
  · rintro σ F es x ⟨rfl, _, _⟩ b hb; cases hb
  · rintro σ F es x ⟨rfl, _, _⟩; exact List.nodup_nil
  · rintro σ F es x ⟨_, rfl, _⟩; rfl
  · rintro σ F es x ⟨_, rfl, _⟩ c hc; rw [List.mem_singleton.1 hc]; rfl

abbrev OStrs (w0 : World) := OSl w0 1 OStr
theorem mono_rs {rd rd' : Addr → Option Value} {es : List Value} {x : ByteArray} (_ : Le rd rd') (h : RS rd es x) : RS rd' es x := h

theorem strs_le {rd : Addr → Option Value} {v : Value} {xs : List ByteArray} (h : RSl 1 RS rd v xs) : ∀ x, x ∈ xs → x.size ≤ 9223372036854775807 := by
  obtain ⟨A, cap, _, _, h3⟩ := h
  intro x hx
  obtain ⟨j, hj⟩ := List.getElem?_of_mem hx
  obtain ⟨a, es, _, _, _, h4⟩ := h3 j x hj
  exact h4.2

theorem flat_strs (xs : List ByteArray) : xs.map Value.string = (xs.map fun s => [Value.string s]).flatten := by
  induction xs with
  | nil => rfl
  | cons a r ih => simp [ih]

theorem own_strs {b cap : Nat} {r : Row} {xs : List ByteArray} (hb : w0.heap.size ≤ b) (hr : σ b = some r) (hc : r.cells = xs.map .string) (hm : xs.length ≤ cap ∧ cap ≤ 9223372036854775807) (hs : ∀ x, x ∈ xs → x.size ≤ 9223372036854775807) : OStrs w0 σ [b] (.slice (some ⟨b, 0, none⟩) xs.length cap) xs := by
  have hnil : (List.replicate xs.length ([] : List Nat)).flatten = [] := by simp
  refine ⟨Nat.le_trans hm.1 hm.2, by simp, .inr ⟨b, 0, cap, r, [], [], xs.map fun s => [.string s], List.replicate xs.length [], rfl, hm, hb, hr, by rw [hc, flat_strs]; simp, rfl, by simp, by simp, by rw [hnil], fun j c x f e1 e2 e3 => ?_⟩⟩
  rw [List.getElem?_map, e2] at e1
  cases e1
  refine ⟨?_, rfl, hs x (List.mem_of_getElem? e2)⟩
  rw [List.getElem?_replicate] at e3
  split at e3
  · cases e3; rfl
  · cases e3

theorem toStringS' {v : Value} {xs : List ByteArray} (h : RSl 1 RS (Av.get w0 σ) v xs) (hb : xs.length ≤ 1000000000000) {R : Value → Vw → Prop}
    (hR : ∀ v' F σ', Keeps σ σ' → OStrs w0 σ' F v' xs → (∀ b, b ∈ F → σ b = none) → R v' σ') : AC Try.prog w0 n_laws_toStringS [v] σ R :=
  toStringS h hb fun b ety h1 h2 => hR _ [b] _ (Keeps.put h2) (own_strs h1 put_at rfl ⟨Nat.le_refl _, h.le⟩ (strs_le h)) fun i hi => by rw [List.mem_singleton.1 hi]; exact h2

/-- A mark: a path, and a bool. -/
abbrev Mk := List ByteArray × Bool
def RMk (rd : Addr → Option Value) (es : List Value) (m : Mk) : Prop := ∃ v, es = [v, .bool m.2] ∧ RSl 1 RS rd v m.1
def OMk (w0 : World) (σ : Vw) (F : List Nat) (es : List Value) (m : Mk) : Prop := ∃ v, es = [v, .bool m.2] ∧ OStrs w0 σ F v m.1
def szMk (m : Mk) : Nat := m.1.length + sumS m.1

theorem OSl.one' {α : Type} {n : Nat} {O : Vw → List Nat → List Value → α → Prop} {F : List Nat} {v : Value} {xs : List α} (h : OSl w0 n O σ F v xs) : v.oneCell' = true := by
  obtain ⟨_, _, ⟨rfl, _⟩ | ⟨_, _, _, _, _, _, _, _, rfl, _⟩⟩ := h <;> rfl

theorem ok_mk (w0 : World) : OOk w0 2 RMk (OMk w0) := by
  refine ⟨?_, ?_, ?_, ?_, ?_, ?_⟩
  · rintro σ F es x ⟨v, h1, h2⟩; exact ⟨v, h1, h2.rel (ok_str w0)⟩
  · rintro σ σ' F es x ⟨v, h1, h2⟩ hF; exact ⟨v, h1, h2.frame (ok_str w0) hF⟩
  · rintro σ F es x ⟨v, h1, h2⟩; exact h2.dom (ok_str w0)
  · rintro σ F es x ⟨v, h1, h2⟩; exact h2.2.1
  · rintro σ F es x ⟨v, rfl, h2⟩; rfl
  · rintro σ F es x ⟨v, rfl, h2⟩ c hc
    simp at hc
    rcases hc with rfl | rfl
    · exact OSl.one' h2
    · rfl
theorem mono_mk {rd rd' : Addr → Option Value} {es : List Value} {x : Mk} (hl : Le rd rd') (h : RMk rd es x) : RMk rd' es x := by
  obtain ⟨v, h1, h2⟩ := h; exact ⟨v, h1, h2.mono hl fun _ _ h => h⟩

theorem szMark {es : List Value} {x : Mk} {m : Int} {R : Value → Vw → Prop} (h : RMk (Av.get w0 σ) es x) (hm : 0 ≤ m ∧ m ≤ 9223372036854775807) (hR : R (.int .i64 (Av.left m (szMk x))) σ) : AC Try.prog w0 n_laws_szMark [.agg ⟨es⟩, .int .i64 m] σ R := by
  obtain ⟨v, rfl, h2⟩ := h
  refine ac_laws_szMark ?_
  unfold vc_laws_szMark
  rw [pVal_2 h2.one rfl]
  refine szStringS h2 hm ?_
  rw [pBin_lt, pIf_d]
  have e : left m (x.1.length + sumS x.1) = Av.left m (szMk x) := rfl
  rw [e]
  refine ⟨fun hlt => ?_, fun _ => hR⟩
  rw [Av.left_neg] at hlt
  rw [Av.left_low hlt] at hR; exact hR

theorem szMarkS {v : Value} {xs : List Mk} {m : Int} (h : RSl 2 RMk (Av.get w0 σ) v xs) (hm : 0 ≤ m ∧ m ≤ 9223372036854775807) {R : Value → Vw → Prop} (hR : R (.int .i64 (Av.left m (xs.length + sumBy szMk xs))) σ) : AC Try.prog w0 n_laws_szMarkS [v, .int .i64 m] σ R := by
  refine ac_laws_szMarkS ?_
  have e : vc_laws_szMarkS w0 v (.int .i64 m) σ R = VszS Try.prog w0 3 2 n_laws_szMark v (.int .i64 m) σ R := by kernel_rfl
  rw [e]
  exact szS_gen (fun x _ es m R' h hm hR => szMark h hm hR) h hm hR

theorem toMark {es : List Value} {x : Mk} {R : Value → Vw → Prop} (h : RMk (Av.get w0 σ) es x) (hb : x.1.length ≤ 1000000000000) (hR : ∀ es' F σ', Keeps σ σ' → OMk w0 σ' F es' x → (∀ b, b ∈ F → σ b = none) → R (.agg ⟨es'⟩) σ') : AC Try.prog w0 n_laws_toMark [.agg ⟨es⟩] σ R := by
  obtain ⟨v, rfl, h2⟩ := h
  refine ac_laws_toMark ?_
  unfold vc_laws_toMark
  rw [pVal_2 h2.one rfl]
  refine toStringS' h2 hb fun v' F σ' hk ho hF => ?_
  rw [pVal1 (OSl.one' ho), pVal1 rfl, cellOf_agg, pVal_2 (OSl.one' ho) rfl]
  exact hR _ F σ' hk ⟨v', rfl, ho⟩ hF

theorem toMarkS {v : Value} {xs : List Mk} (h : RSl 2 RMk (Av.get w0 σ) v xs) (hl : xs.length ≤ 1000000000000) (hb : ∀ x, x ∈ xs → x.1.length ≤ 1000000000000) {R : Value → Vw → Prop}
    (hR : ∀ v' F σ', Keeps σ σ' → OSl w0 2 (OMk w0) σ' F v' xs → (∀ b, b ∈ F → σ b = none) → R v' σ') : AC Try.prog w0 n_laws_toMarkS [v] σ R := by
  refine ac_laws_toMarkS ?_
  have e : vc_laws_toMarkS w0 v σ R = VtoS Try.prog w0 3 t_impl_Mark 2 32 n_laws_toMark [.slice none 0 0, .bool false] v σ R := by kernel_rfl
  rw [e]
  exact toS_gen (n := 2) (Rel := RMk) (bytes := 32) rfl (ok_mk w0) (fun _ _ _ _ hl h => mono_mk hl h) (fun x hx s es R' _ h hR => toMark h (hb x hx) hR) h (by omega) hR

theorem eqMark {es es' : List Value} {x y : Mk} {R : Value → Vw → Prop} (h : RMk (Av.get w0 σ) es x) (h' : RMk (Av.get w0 σ) es' y) (hR : R (.bool (decide (x = y))) σ) : AC Try.prog w0 n_laws_eqMark [.agg ⟨es⟩, .agg ⟨es'⟩] σ R := by
  obtain ⟨v, rfl, h2⟩ := h
  obtain ⟨v', rfl, h2'⟩ := h'
  refine ac_laws_eqMark ?_
  unfold vc_laws_eqMark
  rw [pVal_2 h2.one rfl, pVal_2 h2'.one rfl]
  refine eqStringS h2 h2' ?_
  obtain ⟨a, p⟩ := x
  obtain ⟨b, q⟩ := y
  have eb : ∀ K : Value → Prop, pBin Try.prog 4 .neq (.bool p) (.bool q) K ↔ K (.bool !(p == q)) := fun K => pBin_b (by kernel_rfl) rfl
  rw [pUn_not, pIf_b]
  simp only [cellOf_agg, List.getD_cons_zero, List.getD_cons_succ]
  rw [eb, pIf_b]
  by_cases e1 : a = b
  · subst e1
    by_cases e2 : p = q
    · subst e2; simpa using hR
    · simpa [e2] using hR
  · simpa [e1] using hR

theorem eqMarkS {v v' : Value} {xs ys : List Mk} (h : RSl 2 RMk (Av.get w0 σ) v xs) (h' : RSl 2 RMk (Av.get w0 σ) v' ys) {R : Value → Vw → Prop} (hR : R (.bool (decide (xs = ys))) σ) : AC Try.prog w0 n_laws_eqMarkS [v, v'] σ R := by
  refine ac_laws_eqMarkS ?_
  have e : vc_laws_eqMarkS w0 v v' σ R = VeqS Try.prog w0 3 2 n_laws_eqMark v v' σ R := by kernel_rfl
  rw [e]
  exact eqS_gen (fun x _ y es es' R' h h' hR => eqMark h h' hR) h h' hR
end
end Go.Proofs.Ytlbpnfhhoalenaa

/- Names: their letters and their length. -/
set_option linter.unusedVariables false
set_option linter.unusedSimpArgs false
namespace Go.Proofs.Ytlbpnfhhoalenaa
open Go Go.Av

theorem pIndexStr_s {s : ByteArray} {j : Nat} {K : Value → Prop} (h : j < s.size) (hK : K (.int .u8 ((s[j]'h).toNat : Int))) : pIndexStr (.string s) (.int .i64 j) K :=
  ⟨s, .i64, j, rfl, rfl, by omega, h, hK⟩

def okB (n : Nat) : Prop := (97 ≤ n ∧ n ≤ 122) ∨ (48 ≤ n ∧ n ≤ 57)
/-- Within two bounds. -/
def inB (n lo hi : Int) : Bool := decide (lo ≤ n ∧ n ≤ hi)
def lettersOk (s : ByteArray) : Prop := ∀ (i : Nat) (h : i < s.size), okB (s[i]'h).toNat
open Classical in
noncomputable def nameOk (s : ByteArray) : Bool := decide (lettersOk s) && inB s.size 1 5

section
variable {w0 : World} {σ : Vw}

theorem spec_In {n lo hi : Int} {R : Value → Vw → Prop} (hR : R (.bool (inB n lo hi)) σ) : AC Try.prog w0 n_spec_l1In [.int .i64 n, .int .i64 lo, .int .i64 hi] σ R := by
  refine ac_spec_l1In ?_
  unfold vc_spec_l1In
  rw [pBin_ge, pIf_d]
  refine ⟨fun h => ?_, fun h => ?_⟩
  · rw [pBin_le]
    have : inB n lo hi = decide (n ≤ hi) := by simp [inB, h]
    rw [this] at hR; exact hR
  · have : inB n lo hi = false := by simp [inB, h]
    rw [this] at hR; exact hR
theorem impl_within {n lo hi : Int} {R : Value → Vw → Prop} (hR : R (.bool (inB n lo hi)) σ) : AC Try.prog w0 n_impl_within [.int .i64 n, .int .i64 lo, .int .i64 hi] σ R := by
  refine ac_impl_within ?_
  unfold vc_impl_within
  rw [pBin_ge, pIf_d]
  refine ⟨fun h => ?_, fun h => ?_⟩
  · rw [pBin_le]
    have : inB n lo hi = decide (n ≤ hi) := by simp [inB, h]
    rw [this] at hR; exact hR
  · have : inB n lo hi = false := by simp [inB, h]
    rw [this] at hR; exact hR

theorem nameOk_bad {s : ByteArray} {j : Nat} (h : j < s.size) (hb : ¬ okB (s[j]'h).toNat) : nameOk s = false := by
  have : ¬ lettersOk s := fun h' => hb (h' j h)
  simp [nameOk, this]
theorem nameOk_good {s : ByteArray} (h : lettersOk s) : nameOk s = inB s.size 1 5 := by simp [nameOk, h]

theorem spec_nameOk {s : ByteArray} (hs : s.size ≤ 9223372036854775807) {R : Value → Vw → Prop} (hR : R (.bool (nameOk s)) σ) : AC Try.prog w0 n_spec_l1NameOk [.string s] σ R := by
  refine ac_spec_l1NameOk ?_
  unfold vc_spec_l1NameOk
  refine loop_rule (m := s.size) (fun m l t => ∃ j, t = σ ∧ m + j = s.size ∧ (∀ (i : Nat) (h : i < s.size), i < j → okB (s[i]'h).toNat) ∧ l = [.string s, .bool false, .int .i64 (j : Nat)]) ?_ ⟨0, rfl, by omega, fun i h h' => by omega, rfl⟩
  rintro m l t L ⟨j, rfl, hm, ht, rfl⟩ hL
  simp only [vget, List.getD_cons_zero, List.getD_cons_succ]
  rw [pLenS_s, pBin_lt, pIf_d]
  refine ⟨fun hj => ?_, fun hj => ?_⟩
  · have hj' : j < s.size := by omega
    have bad : ¬ okB (s[j]'hj').toNat → R (.bool false) t := fun h => by rw [nameOk_bad hj' h] at hR; exact hR
    have good : okB (s[j]'hj').toNat → L [.string s, .bool false, .int .i64 ((j + 1 : Nat) : Int)] t := fun h => hL _ _ (m - 1) (by omega) ⟨j + 1, rfl, by omega, fun i hi hij => by
      by_cases e : i = j
      · subst e; exact h
      · exact ht i hi (by omega), rfl⟩
    have add : ∀ K : Value → Prop, pBin Try.prog 3 .add (.int .i64 j) (.int .i64 1) K ↔ K (.int .i64 ((j + 1 : Nat) : Int)) := fun K => pBin_add (by omega)
    have idx : ∀ K : Value → Prop, K (.int .u8 ((s[j]'hj').toNat : Int)) → pIndexStr (.string s) (.int .i64 j) K := fun K hK => pIndexStr_s hj' hK
    simp only [add, pUn_not, pIf_b, Bool.not_true, Bool.not_false, forall_const, Bool.false_eq_true, false_imp_iff, true_imp_iff, true_and, and_true, reduceCtorEq]
    refine idx _ ?_
    rw [pBin_ge, pIf_d]
    refine ⟨fun h1 => idx _ ?_, fun h1 => idx _ ?_⟩
    · rw [pBin_le, pIf_d]
      refine ⟨fun h2 => good (.inl ⟨by omega, by omega⟩), fun h2 => idx _ ?_⟩
      rw [pBin_ge, pIf_d]
      refine ⟨fun h3 => idx _ ?_, fun h3 => bad fun h => by unfold okB at h; omega⟩
      rw [pBin_le, pUn_not, pIf_b]
      refine ⟨fun h4 => bad fun h => ?_, fun h4 => good ?_⟩
      · unfold okB at h; simp at h4; omega
      · simp at h4; exact .inr ⟨by omega, by omega⟩
    · rw [pBin_ge, pIf_d]
      refine ⟨fun h3 => idx _ ?_, fun h3 => bad fun h => by unfold okB at h; omega⟩
      rw [pBin_le, pUn_not, pIf_b]
      refine ⟨fun h4 => bad fun h => ?_, fun h4 => good ?_⟩
      · unfold okB at h; simp at h4; omega
      · simp at h4; exact .inr ⟨by omega, by omega⟩
  · have hj' : j = s.size := by omega
    subst hj'
    show pLenS (.string s) _
    rw [pLenS_s]
    refine spec_In ?_
    rw [nameOk_good fun i h => ht i h h] at hR
    exact hR

theorem impl_nameOk {s : ByteArray} (hs : s.size ≤ 9223372036854775807) {R : Value → Vw → Prop} (hR : R (.bool (nameOk s)) σ) : AC Try.prog w0 n_impl_nameOk [.string s] σ R := by
  refine ac_impl_nameOk ?_
  unfold vc_impl_nameOk
  rw [pLenS_s]
  refine loop_rule (m := s.size) (fun m l t => ∃ j, t = σ ∧ m + j = s.size ∧ (∀ (i : Nat) (h : i < s.size), i < j → okB (s[i]'h).toNat) ∧ l = [.string s, .bool false, .int .i64 s.size, .int .i64 (j : Nat)]) ?_ ⟨0, rfl, by omega, fun i h h' => by omega, rfl⟩
  rintro m l t L ⟨j, rfl, hm, ht, rfl⟩ hL
  simp only [vget, List.getD_cons_zero, List.getD_cons_succ]
  rw [pBin_lt, pIf_d]
  refine ⟨fun hj => ?_, fun hj => ?_⟩
  · have hj' : j < s.size := by omega
    have bad : ¬ okB (s[j]'hj').toNat → R (.bool false) t := fun h => by rw [nameOk_bad hj' h] at hR; exact hR
    have good : okB (s[j]'hj').toNat → L [.string s, .bool false, .int .i64 s.size, .int .i64 ((j + 1 : Nat) : Int)] t := fun h => hL _ _ (m - 1) (by omega) ⟨j + 1, rfl, by omega, fun i hi hij => by
      by_cases e : i = j
      · subst e; exact h
      · exact ht i hi (by omega), rfl⟩
    have add : ∀ K : Value → Prop, pBin Try.prog 3 .add (.int .i64 j) (.int .i64 1) K ↔ K (.int .i64 ((j + 1 : Nat) : Int)) := fun K => pBin_add (by omega)
    have idx : ∀ K : Value → Prop, K (.int .u8 ((s[j]'hj').toNat : Int)) → pIndexStr (.string s) (.int .i64 j) K := fun K hK => pIndexStr_s hj' hK
    simp only [add]
    refine idx _ ?_
    rw [pBin_lt, pIf_d]
    refine ⟨fun h1 => idx _ ?_, fun h1 => idx _ ?_⟩
    · rw [pBin_lt, pIf_d]
      refine ⟨fun h2 => bad fun h => by unfold okB at h; omega, fun h2 => idx _ ?_⟩
      rw [pBin_gt, pIf_d]
      exact ⟨fun h3 => bad fun h => by unfold okB at h; omega, fun h3 => good (.inr ⟨by omega, by omega⟩)⟩
    · rw [pBin_gt, pIf_d]
      refine ⟨fun h2 => idx _ ?_, fun h2 => good (.inl ⟨by omega, by omega⟩)⟩
      rw [pBin_lt, pIf_d]
      refine ⟨fun h2 => bad fun h => by unfold okB at h; omega, fun h2 => idx _ ?_⟩
      rw [pBin_gt, pIf_d]
      exact ⟨fun h3 => bad fun h => by unfold okB at h; omega, fun h3 => good (.inr ⟨by omega, by omega⟩)⟩
  · have hj' : j = s.size := by omega
    subst hj'
    show pLenS (.string s) _
    rw [pLenS_s]
    refine impl_within ?_
    rw [nameOk_good fun i h => ht i h h] at hR
    exact hR
end
end Go.Proofs.Ytlbpnfhhoalenaa

/- Paths: their names, their order, what lies within what. -/
set_option linter.unusedVariables false
set_option linter.unusedSimpArgs false
namespace Go.Proofs.Ytlbpnfhhoalenaa
open Go Go.Av

def strLt (a b : ByteArray) : Bool := Op.bytesLess a.toList b.toList
theorem bl_irrefl : ∀ (a : List UInt8), Op.bytesLess a a = false
  | [] => rfl
  | x :: r => by simp [Op.bytesLess, bl_irrefl r]
theorem bl_total : ∀ (a b : List UInt8), Op.bytesLess a b = false → Op.bytesLess b a = false → a = b
  | [], [], _, _ => rfl
  | [], _ :: _, h, _ => by simp [Op.bytesLess] at h
  | _ :: _, [], _, h => by simp [Op.bytesLess] at h
  | x :: r, y :: q, h, h' => by
    simp only [Op.bytesLess] at h h'
    by_cases e : x = y
    · subst e
      simp at h h'
      rw [bl_total r q h h']
    · exfalso
      rcases UInt8.lt_or_lt_of_ne e with h1 | h1
      · simp [h1] at h
      · simp [h1] at h'
theorem strLt_irrefl (a : ByteArray) : strLt a a = false := bl_irrefl _
theorem strLt_total {a b : ByteArray} (h : strLt a b = false) (h' : strLt b a = false) : a = b := bytes_inj (bl_total _ _ h h')

noncomputable def allNames : List ByteArray → Bool
  | [] => true
  | s :: r => nameOk s && allNames r
theorem allNames_iff {xs : List ByteArray} : allNames xs = true ↔ ∀ (j : Nat) (x : ByteArray), xs[j]? = some x → nameOk x = true := by
  induction xs with
  | nil => simp [allNames]
  | cons a r ih =>
    simp only [allNames, Bool.and_eq_true, ih]
    constructor
    · rintro ⟨h1, h2⟩ j x hj
      cases j with
      | zero => simp at hj; subst hj; exact h1
      | succ j => exact h2 j x (by simpa using hj)
    · intro h
      exact ⟨h 0 a rfl, fun j x hj => h (j + 1) x (by simpa using hj)⟩
theorem allNames_bad {xs : List ByteArray} {j : Nat} {x : ByteArray} (hj : xs[j]? = some x) (h : nameOk x = false) : allNames xs = false := by
  cases hc : allNames xs with
  | false => rfl
  | true => have := allNames_iff.1 hc j x hj; rw [h] at this; cases this

def lexLt : List ByteArray → List ByteArray → Bool
  | _, [] => false
  | [], _ :: _ => true
  | a :: r, b :: q => if a = b then lexLt r q else strLt a b

theorem lexLt_at : ∀ {j : Nat} {xs ys : List ByteArray} {a b : ByteArray}, xs.take j = ys.take j → xs[j]? = some a → ys[j]? = some b → a ≠ b → lexLt xs ys = strLt a b
  | 0, x :: xs, y :: ys, a, b, _, h1, h2, h3 => by simp at h1 h2; subst h1 h2; simp [lexLt, h3]
  | j + 1, x :: xs, y :: ys, a, b, h, h1, h2, h3 => by
    simp only [List.take_succ_cons, List.cons.injEq] at h
    obtain ⟨rfl, h⟩ := h
    simp only [lexLt, if_true]
    exact lexLt_at h (by simpa using h1) (by simpa using h2) h3
  | _, [], _, a, b, _, h1, _, _ => by simp at h1
  | _, _ :: _, [], a, b, _, _, h2, _ => by simp at h2
theorem lexLt_end : ∀ {j : Nat} {xs ys : List ByteArray}, xs.take j = ys.take j → (j = xs.length ∧ j ≤ ys.length ∨ j = ys.length ∧ j ≤ xs.length) → lexLt xs ys = decide (xs.length < ys.length)
  | 0, xs, ys, _, h => by
    rcases h with ⟨h, _⟩ | ⟨h, _⟩
    · have : xs = [] := List.length_eq_zero_iff.1 h.symm
      subst this
      cases ys <;> simp [lexLt]
    · have : ys = [] := List.length_eq_zero_iff.1 h.symm
      subst this
      simp [lexLt]
  | j + 1, x :: xs, y :: ys, h, hl => by
    simp only [List.take_succ_cons, List.cons.injEq] at h
    obtain ⟨rfl, h⟩ := h
    simp only [lexLt, if_true, List.length_cons]
    rw [lexLt_end h (by simp at hl; omega)]
    simp
  | j + 1, [], ys, _, hl => by simp at hl
  | j + 1, _ :: _, [], _, hl => by simp at hl

/-- The path b lies at or under a. -/
def within (b a : List ByteArray) : Bool := decide (a.length ≤ b.length ∧ b.take a.length = a)


section
variable {w0 : World} {σ : Vw}

theorem pBin_slt {P : Program} {T : Nat} {a b : ByteArray} {K : Value → Prop} : pBin P T .lss (.string a) (.string b) K ↔ K (.bool (strLt a b)) := pBin_s rfl
theorem pBin_sgt {P : Program} {T : Nat} {a b : ByteArray} {K : Value → Prop} : pBin P T .gtr (.string a) (.string b) K ↔ K (.bool (!(strLt a b || decide (a = b)))) := pBin_s (by simp only [astr, toList_eq]; rfl)

theorem RSl.at1 {v : Value} {xs : List ByteArray} (h : RSl 1 RS (Av.get w0 σ) v xs) {j : Nat} {x : ByteArray} (hj : xs[j]? = some x) {K : (Nat → Value) → Prop} (hK : ∀ g : Nat → Value, g 0 = .string x → x.size ≤ 9223372036854775807 → K g) :
    pIndexAddr 1 v (.int .i64 j) fun p => pLoad w0 1 p σ K := by
  refine h.at hj fun g hg => ?_
  obtain ⟨hg, hs⟩ := hg
  simp only [expl, List.cons.injEq, and_true] at hg
  exact hK g hg hs

theorem spec_PathOk {v : Value} {xs : List ByteArray} (h : RSl 1 RS (Av.get w0 σ) v xs) {R : Value → Vw → Prop} (hR : R (.bool (allNames xs && inB xs.length 1 4)) σ) : AC Try.prog w0 n_spec_l2PathOk [v] σ R := by
  refine ac_spec_l2PathOk ?_
  unfold vc_spec_l2PathOk
  have hl := h.le
  refine loop_rule (m := xs.length) (fun m l t => ∃ j, t = σ ∧ m + j = xs.length ∧ (∀ (i : Nat) (x : ByteArray), i < j → xs[i]? = some x → nameOk x = true) ∧ l = [v, .bool false, .int .i64 (j : Nat)]) ?_ ⟨0, rfl, by omega, fun i x h => by omega, rfl⟩
  rintro m l t L ⟨j, rfl, hm, ht, rfl⟩ hL
  simp only [vget, List.getD_cons_zero, List.getD_cons_succ]
  rw [h.len, pBin_lt, pIf_d]
  refine ⟨fun hj => ?_, fun hj => ?_⟩
  · have hj' : j < xs.length := by omega
    have hx := List.getElem?_eq_getElem hj'
    refine RSl.at1 h hx fun g hg hs => ?_
    rw [hg]
    refine spec_nameOk hs ?_
    rw [pUn_not, pIf_b]
    refine ⟨fun hb => ?_, fun hb => ?_⟩
    · rw [allNames_bad hx (by simpa using hb)] at hR; exact hR
    · rw [pBin_add (by omega)]
      refine hL _ _ (m - 1) (by omega) ⟨j + 1, rfl, by omega, fun i x hi he => ?_, rfl⟩
      by_cases e : i = j
      · subst e; rw [hx] at he; cases he; simpa using hb
      · exact ht i x (by omega) he
  · have hj' : j = xs.length := by omega
    subst hj'
    show pLen v _
    rw [h.len]
    refine spec_In ?_
    rw [allNames_iff.2 fun i x he => ht i x (List.getElem?_eq_some_iff.1 he).1 he] at hR
    exact hR

theorem impl_namesOk {v : Value} {xs : List ByteArray} {lo : Int} (h : RSl 1 RS (Av.get w0 σ) v xs) {R : Value → Vw → Prop} (hR : R (.bool (allNames xs && inB xs.length lo 4)) σ) : AC Try.prog w0 n_impl_namesOk [v, .int .i64 lo] σ R := by
  refine ac_impl_namesOk ?_
  unfold vc_impl_namesOk
  have hl := h.le
  rw [h.len]
  refine loop_rule (m := xs.length) (fun m l t => ∃ j, t = σ ∧ m + j = xs.length ∧ (∀ (i : Nat) (x : ByteArray), i < j → xs[i]? = some x → nameOk x = true) ∧ l = [v, .int .i64 lo, .bool false, v, .int .i64 xs.length, .int .i64 (j : Nat)]) ?_ ⟨0, rfl, by omega, fun i x h => by omega, rfl⟩
  rintro m l t L ⟨j, rfl, hm, ht, rfl⟩ hL
  simp only [vget, List.getD_cons_zero, List.getD_cons_succ]
  rw [pBin_lt, pIf_d]
  refine ⟨fun hj => ?_, fun hj => ?_⟩
  · have hj' : j < xs.length := by omega
    have hx := List.getElem?_eq_getElem hj'
    refine RSl.at1 h hx fun g hg hs => ?_
    rw [hg]
    refine impl_nameOk hs ?_
    rw [pUn_not, pIf_b]
    refine ⟨fun hb => ?_, fun hb => ?_⟩
    · rw [allNames_bad hx (by simpa using hb)] at hR; exact hR
    · rw [pBin_add (by omega)]
      refine hL _ _ (m - 1) (by omega) ⟨j + 1, rfl, by omega, fun i x hi he => ?_, rfl⟩
      by_cases e : i = j
      · subst e; rw [hx] at he; cases he; simpa using hb
      · exact ht i x (by omega) he
  · have hj' : j = xs.length := by omega
    subst hj'
    show pLen v _
    rw [h.len]
    refine impl_within ?_
    rw [allNames_iff.2 fun i x he => ht i x (List.getElem?_eq_some_iff.1 he).1 he] at hR
    exact hR
end
end Go.Proofs.Ytlbpnfhhoalenaa

/- Paths: their order, what lies within what; marks. -/
set_option linter.unusedVariables false
set_option linter.unusedSimpArgs false
namespace Go.Proofs.Ytlbpnfhhoalenaa
open Go Go.Av

section
variable {w0 : World} {σ : Vw}

theorem spec_Less {v v' : Value} {xs ys : List ByteArray} (h : RSl 1 RS (Av.get w0 σ) v xs) (h' : RSl 1 RS (Av.get w0 σ) v' ys) {R : Value → Vw → Prop} (hR : R (.bool (lexLt xs ys)) σ) : AC Try.prog w0 n_spec_l11Less [v, v'] σ R := by
  refine ac_spec_l11Less ?_
  unfold vc_spec_l11Less
  have hl := h.le
  refine loop_rule (m := xs.length) (fun m l t => ∃ j, t = σ ∧ m + j = xs.length ∧ j ≤ ys.length ∧ xs.take j = ys.take j ∧ l = [v, v', .bool false, .int .i64 (j : Nat)]) ?_ ⟨0, rfl, by omega, by omega, by simp, rfl⟩
  rintro m l t L ⟨j, rfl, hm, hy, ht, rfl⟩ hL
  simp only [vget, List.getD_cons_zero, List.getD_cons_succ]
  have fin : j = xs.length ∨ j = ys.length → pLen v (fun v21 => pLen v' (fun v22 => pBin Try.prog 3 .lss v21 v22 (fun v23 => R v23 t))) := by
    intro hj
    rw [h.len, h'.len, pBin_lt]
    rw [lexLt_end ht (by omega)] at hR
    have : (decide (xs.length < ys.length)) = decide ((xs.length : Int) < ys.length) := by congr 1; apply propext; omega
    rw [this] at hR; exact hR
  rw [h.len, pBin_lt, pIf_d]
  refine ⟨fun hj => ?_, fun hj => fin (.inl (by omega))⟩
  rw [h'.len, pBin_lt, pIf_d]
  refine ⟨fun hj2 => ?_, fun hj2 => fin (.inr (by omega))⟩
  have hx := List.getElem?_eq_getElem (show j < xs.length by omega)
  have hy' := List.getElem?_eq_getElem (show j < ys.length by omega)
  refine RSl.at1 h hx fun g hg hs => ?_
  refine RSl.at1 h' hy' fun g' hg' hs' => ?_
  rw [hg, hg', pBin_sne, pIf_d]
  refine ⟨fun hne => ?_, fun heq => ?_⟩
  · refine RSl.at1 h hx fun g hg hs => ?_
    refine RSl.at1 h' hy' fun g' hg' hs' => ?_
    rw [hg, hg', pBin_slt]
    rw [lexLt_at ht hx hy' hne] at hR; exact hR
  · have heq' := Decidable.not_not.1 heq
    rw [pBin_add (by omega)]
    exact hL _ _ (m - 1) (by omega) ⟨j + 1, rfl, by omega, by omega, by rw [List.take_add_one, List.take_add_one, hx, hy', ht, heq'], rfl⟩

/-- What Go's comparison of texts gives. -/
def cmpS (a b : ByteArray) : Int := if strLt a b then -1 else if a = b then 0 else 1
theorem cmp_Compare {a b : ByteArray} {R : Value → Vw → Prop} (hR : R (.int .i64 (cmpS a b)) σ) : AC Try.prog w0 n_cmp_Compare_string [.string a, .string b] σ R := by
  refine ac_cmp_Compare_string ?_
  unfold vc_cmp_Compare_string
  have nan : ∀ (a : ByteArray) (s : Vw) (K : Value → Vw → Prop), K (.bool false) s → AC Try.prog w0 n_cmp_isNaN_string [.string a] s K := fun a s K hK => by
    refine ac_cmp_isNaN_string ?_
    unfold vc_cmp_isNaN_string
    rw [pBin_sne]; simpa using hK
  refine nan _ _ _ (nan _ _ _ ?_)
  rw [pIf_b, pIf_b, pIf_b]
  refine ⟨nofun, fun _ => ⟨nofun, fun _ => ?_⟩⟩
  rw [pBin_slt, pIf_b]
  refine ⟨fun h => by simpa [cmpS, h] using hR, fun h => ?_⟩
  rw [pBin_sgt, pIf_b]
  by_cases e : a = b
  · subst e; simpa [cmpS, h] using hR
  · simpa [cmpS, h, e] using hR

theorem Compare {v v' : Value} {xs ys : List ByteArray} (h : RSl 1 RS (Av.get w0 σ) v xs) (h' : RSl 1 RS (Av.get w0 σ) v' ys) {R : Value → Vw → Prop} (hR : ∀ c : Int, (c < 0 ↔ lexLt xs ys = true) → R (.int .i64 c) σ) : AC Try.prog w0 n_slices_Compare_string_string [v, v'] σ R := by
  refine ac_slices_Compare_string_string ?_
  unfold vc_slices_Compare_string_string
  have hl := h.le
  rw [h.len]
  refine loop_rule (m := xs.length) (fun m l t => ∃ j, t = σ ∧ m + j = xs.length ∧ j ≤ ys.length ∧ xs.take j = ys.take j ∧ l = [v, v', .int .i64 0, v, .int .i64 xs.length, .int .i64 (j : Nat)]) ?_ ⟨0, rfl, by omega, by omega, by simp, rfl⟩
  rintro m l t L ⟨j, rfl, hm, hy, ht, rfl⟩ hL
  simp only [vget, List.getD_cons_zero, List.getD_cons_succ]
  rw [pBin_lt, pIf_d]
  refine ⟨fun hj => ?_, fun hj => ?_⟩
  · have hx := List.getElem?_eq_getElem (show j < xs.length by omega)
    refine RSl.at1 h hx fun g hg hs => ?_
    rw [h'.len, pBin_ge, pIf_d]
    refine ⟨fun hj2 => ?_, fun hj2 => ?_⟩
    · refine hR 1 ?_
      rw [lexLt_end ht (by omega)]
      simp; omega
    · have hy' := List.getElem?_eq_getElem (show j < ys.length by omega)
      refine RSl.at1 h' hy' fun g' hg' hs' => ?_
      rw [hg, hg']
      refine cmp_Compare ?_
      rw [pBin_ne, pIf_d]
      refine ⟨fun hne => ?_, fun heq => ?_⟩
      · refine hR _ ?_
        have hab : xs[j] ≠ ys[j] := fun e => by
          apply hne
          rw [e, cmpS, strLt_irrefl]; simp
        rw [lexLt_at ht hx hy' hab]
        unfold cmpS
        cases hlt : strLt xs[j] ys[j] <;> simp [hab]
      · have heq' : xs[j] = ys[j] := by
          unfold cmpS at heq
          split at heq
          · simp at heq
          · split at heq
            · assumption
            · simp at heq
        rw [pBin_add (by omega)]
        exact hL _ _ (m - 1) (by omega) ⟨j + 1, rfl, by omega, by omega, by rw [List.take_add_one, List.take_add_one, hx, hy', ht, heq'], rfl⟩
  · have hj' : j = xs.length := by omega
    show pLen v _
    rw [h.len, h'.len, pBin_lt, pIf_d]
    have e := lexLt_end ht (by omega)
    refine ⟨fun hlt => hR (-1) ?_, fun hlt => hR 0 ?_⟩
    · rw [e]; simp; omega
    · rw [e]; simp; omega

theorem within_false {xs ys : List ByteArray} {j : Nat} {a b : ByteArray} (hx : xs[j]? = some a) (hy : ys[j]? = some b) (h : a ≠ b) : within xs ys = false := by
  unfold within
  simp only [decide_eq_false_iff_not]
  rintro ⟨h1, h2⟩
  have hlt := (List.getElem?_eq_some_iff.1 hy).1
  rw [← h2, List.getElem?_take_of_lt hlt, hx] at hy
  cases hy; exact h rfl

theorem spec_Within {v v' : Value} {xs ys : List ByteArray} (h : RSl 1 RS (Av.get w0 σ) v xs) (h' : RSl 1 RS (Av.get w0 σ) v' ys) {R : Value → Vw → Prop} (hR : R (.bool (within xs ys)) σ) : AC Try.prog w0 n_spec_l2Within [v, v'] σ R := by
  refine ac_spec_l2Within ?_
  unfold vc_spec_l2Within
  have hl := h'.le
  rw [h.len, h'.len, pBin_lt, pIf_d]
  refine ⟨fun hlt => ?_, fun hge => ?_⟩
  · have : within xs ys = false := by unfold within; simp; omega
    rw [this] at hR; exact hR
  refine loop_rule (m := ys.length) (fun m l t => ∃ j, t = σ ∧ m + j = ys.length ∧ xs.take j = ys.take j ∧ l = [v, v', .bool false, .int .i64 (j : Nat)]) ?_ ⟨0, rfl, by omega, by simp, rfl⟩
  rintro m l t L ⟨j, rfl, hm, ht, rfl⟩ hL
  simp only [vget, List.getD_cons_zero, List.getD_cons_succ]
  rw [h'.len, pBin_lt, pIf_d]
  refine ⟨fun hj => ?_, fun hj => ?_⟩
  · have hx := List.getElem?_eq_getElem (show j < xs.length by omega)
    have hy' := List.getElem?_eq_getElem (show j < ys.length by omega)
    refine RSl.at1 h hx fun g hg hs => ?_
    refine RSl.at1 h' hy' fun g' hg' hs' => ?_
    rw [hg, hg', pBin_sne, pIf_d]
    refine ⟨fun hne => ?_, fun heq => ?_⟩
    · rw [within_false hx hy' hne] at hR; exact hR
    · have heq' := Decidable.not_not.1 heq
      rw [pBin_add (by omega)]
      exact hL _ _ (m - 1) (by omega) ⟨j + 1, rfl, by omega, by rw [List.take_add_one, List.take_add_one, hx, hy', ht, heq'], rfl⟩
  · have hj' : j = ys.length := by omega
    subst hj'
    rw [List.take_length] at ht
    have : within xs ys = true := by unfold within; simp [ht]; omega
    rw [this] at hR; exact hR

theorem impl_begins {v v' : Value} {xs ys : List ByteArray} (h : RSl 1 RS (Av.get w0 σ) v xs) (h' : RSl 1 RS (Av.get w0 σ) v' ys) {R : Value → Vw → Prop} (hR : R (.bool (within xs ys)) σ) : AC Try.prog w0 n_impl_begins [v, v'] σ R := by
  refine ac_impl_begins ?_
  unfold vc_impl_begins
  have hl := h'.le
  rw [h.len, h'.len, pBin_lt, pIf_d]
  refine ⟨fun hlt => ?_, fun hge => ?_⟩
  · have : within xs ys = false := by unfold within; simp; omega
    rw [this] at hR; exact hR
  rw [h'.len]
  refine loop_rule (m := ys.length) (fun m l t => ∃ j, t = σ ∧ m + j = ys.length ∧ xs.take j = ys.take j ∧ l = [v, v', .bool false, .int .i64 ys.length, .int .i64 (j : Nat)]) ?_ ⟨0, rfl, by omega, by simp, rfl⟩
  rintro m l t L ⟨j, rfl, hm, ht, rfl⟩ hL
  simp only [vget, List.getD_cons_zero, List.getD_cons_succ]
  rw [pBin_lt, pIf_d]
  refine ⟨fun hj => ?_, fun hj => ?_⟩
  · have hx := List.getElem?_eq_getElem (show j < xs.length by omega)
    have hy' := List.getElem?_eq_getElem (show j < ys.length by omega)
    refine RSl.at1 h hx fun g hg hs => ?_
    refine RSl.at1 h' hy' fun g' hg' hs' => ?_
    rw [hg, hg', pBin_sne, pIf_d]
    refine ⟨fun hne => ?_, fun heq => ?_⟩
    · rw [within_false hx hy' hne] at hR; exact hR
    · have heq' := Decidable.not_not.1 heq
      rw [pBin_add (by omega)]
      exact hL _ _ (m - 1) (by omega) ⟨j + 1, rfl, by omega, by rw [List.take_add_one, List.take_add_one, hx, hy', ht, heq'], rfl⟩
  · have hj' : j = ys.length := by omega
    subst hj'
    rw [List.take_length] at ht
    have : within xs ys = true := by unfold within; simp [ht]; omega
    rw [this] at hR; exact hR

noncomputable def markOkB (x : Mk) : Bool := if x.1 = [] then x.2 else allNames x.1 && inB x.1.length 1 4

theorem spec_MarkOk {es : List Value} {x : Mk} {R : Value → Vw → Prop} (h : RMk (Av.get w0 σ) es x) (hR : R (.bool (markOkB x)) σ) : AC Try.prog w0 n_spec_l11MarkOk [.agg ⟨es⟩] σ R := by
  obtain ⟨v, rfl, h2⟩ := h
  refine ac_spec_l11MarkOk ?_
  unfold vc_spec_l11MarkOk
  rw [pVal_2 h2.one rfl]
  show pLen v _
  rw [h2.len, pBin_eq, pIf_d]
  refine ⟨fun h0 => ?_, fun h0 => ?_⟩
  · have : x.1 = [] := List.length_eq_zero_iff.1 (by omega)
    rw [markOkB, if_pos this] at hR; exact hR
  · have : x.1 ≠ [] := fun e => h0 (by rw [e]; rfl)
    rw [markOkB, if_neg this] at hR
    exact spec_PathOk h2 hR

theorem impl_markOk {es : List Value} {x : Mk} {R : Value → Vw → Prop} (h : RMk (Av.get w0 σ) es x) (hR : R (.bool (markOkB x)) σ) : AC Try.prog w0 n_impl_markOk [.agg ⟨es⟩] σ R := by
  obtain ⟨v, rfl, h2⟩ := h
  refine ac_impl_markOk ?_
  unfold vc_impl_markOk
  rw [pVal_2 h2.one rfl]
  refine impl_namesOk h2 ?_
  rw [pIf_b]
  by_cases e : x.1 = []
  · rw [markOkB, if_pos e] at hR
    refine ⟨fun _ => ?_, fun h0 => ?_⟩
    · show pLen v _
      rw [h2.len, pBin_gt, pIf_d]
      refine ⟨fun h => by rw [e] at h; simp at h, fun _ => hR⟩
    · rw [e] at h0; simp [allNames, inB] at h0
  · rw [markOkB, if_neg e] at hR
    have hpos : 1 ≤ x.1.length := by
      rcases Nat.eq_zero_or_pos x.1.length with h0 | h0
      · exact absurd (List.length_eq_zero_iff.1 h0) e
      · exact h0
    have hin : inB x.1.length 0 4 = inB x.1.length 1 4 := by unfold inB; congr 1; apply propext; omega
    rw [hin]
    refine ⟨fun h0 => ?_, fun h0 => ?_⟩
    · show pLen v _
      rw [h2.len, pBin_gt, pIf_d]
      refine ⟨fun _ => ?_, fun h => by omega⟩
      rw [h0] at hR; exact hR
    · rw [h0] at hR; exact hR
end
end Go.Proofs.Ytlbpnfhhoalenaa
