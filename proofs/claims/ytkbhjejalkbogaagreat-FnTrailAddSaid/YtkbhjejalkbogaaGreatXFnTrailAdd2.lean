/- The law FnTrailAdd holds: it returns true, and the input reads as it did. No condition. This is part 2 of 5 of its proof. -/
import Derived.Test.YtkbhjejalkbogaaGreatXFnTrailAdd1
import Derived.IntWalk
import Derived.ChangeArms
import Derived.WideShapes
import Derived.ProofKit
import Derived.Below
import Derived.Test.YtkbhjejalkbogaaGreatProg

/- The plain side, part 1: the operations at known values; loops; what is read in a slice. -/
set_option linter.unusedVariables false
set_option linter.unusedSimpArgs false
namespace Go.Av
open Go Go.RowKit IntWalk

section
variable {P : Program} {w0 : World} {σ σ' : Vw}

/-! ### The operations at known values -/
theorem pIf_b {b : Bool} {A B : Prop} : pIf (.bool b) A B ↔ (b = true → A) ∧ (b = false → B) :=
  ⟨fun ⟨c, h, h1, h2⟩ => by cases h; exact ⟨h1, h2⟩, fun ⟨h1, h2⟩ => ⟨b, rfl, h1, h2⟩⟩
theorem pIf_d {p : Prop} [Decidable p] {A B : Prop} : pIf (.bool (decide p)) A B ↔ (p → A) ∧ (¬ p → B) := by
  rw [pIf_b]; simp
theorem pLen_s {A : Option Addr} {n c : Nat} {K : Value → Prop} : pLen (.slice A n c) K ↔ K (.int .i64 n) :=
  ⟨fun ⟨_, _, _, h, hK⟩ => by cases h; exact hK, fun h => ⟨_, _, _, rfl, h⟩⟩
theorem pLenS_s {s : ByteArray} {K : Value → Prop} : pLenS (.string s) K ↔ K (.int .i64 s.size) :=
  ⟨fun ⟨_, h, hK⟩ => by cases h; exact hK, fun h => ⟨_, rfl, h⟩⟩
theorem pNil_s {a : Addr} {K : Prop} : pNil (.pointer (some a)) K ↔ K := ⟨fun ⟨_, _, h⟩ => h, fun h => ⟨a, rfl, h⟩⟩
theorem pField_s {o : Nat} {a : Addr} {K : Value → Prop} : pField o (.pointer (some a)) K ↔ K (.pointer (some (a.add o))) :=
  ⟨fun ⟨_, h, hK⟩ => by cases h; exact hK, fun h => ⟨_, rfl, h⟩⟩
theorem pUn_not {b : Bool} {K : Value → Prop} : pUn .not (.bool b) K ↔ K (.bool !b) :=
  ⟨fun ⟨_, h, hK⟩ => by simp only [aun, Option.some.injEq] at h; subst h; exact hK, fun h => ⟨_, rfl, h⟩⟩
theorem pBin_i {T : Nat} {op : BinOp} {k : IntKind} {a b : Int} {v : Value} {K : Value → Prop} (h : aint op k a b = some v) : pBin P T op (.int k a) (.int k b) K ↔ K v := by
  have e : abinT P T op (.int k a) (.int k b) = some v := by unfold abinT; simp only [if_true]; exact h
  exact ⟨fun ⟨_, h, hK⟩ => by rw [e] at h; cases h; exact hK, fun h => ⟨_, e, h⟩⟩
theorem pBin_lt {T : Nat} {k : IntKind} {a b : Int} {K : Value → Prop} : pBin P T .lss (.int k a) (.int k b) K ↔ K (.bool (decide (a < b))) := pBin_i rfl
theorem pBin_le {T : Nat} {k : IntKind} {a b : Int} {K : Value → Prop} : pBin P T .leq (.int k a) (.int k b) K ↔ K (.bool (decide (a ≤ b))) := pBin_i rfl
theorem pBin_gt {T : Nat} {k : IntKind} {a b : Int} {K : Value → Prop} : pBin P T .gtr (.int k a) (.int k b) K ↔ K (.bool (decide (b < a))) := pBin_i rfl
theorem pBin_ge {T : Nat} {k : IntKind} {a b : Int} {K : Value → Prop} : pBin P T .geq (.int k a) (.int k b) K ↔ K (.bool (decide (b ≤ a))) := pBin_i rfl
theorem pBin_eq {T : Nat} {k : IntKind} {a b : Int} {K : Value → Prop} : pBin P T .eql (.int k a) (.int k b) K ↔ K (.bool (decide (a = b))) := pBin_i rfl
theorem pBin_ne {T : Nat} {k : IntKind} {a b : Int} {K : Value → Prop} : pBin P T .neq (.int k a) (.int k b) K ↔ K (.bool (decide (a ≠ b))) :=
  pBin_i (by simp only [aint, bne, Option.some.injEq, Value.bool.injEq]; by_cases h : a = b <;> simp [h])
theorem pBin_add {T : Nat} {a b : Int} {K : Value → Prop} (h : -9223372036854775808 ≤ a + b ∧ a + b ≤ 9223372036854775807) : pBin P T .add (.int .i64 a) (.int .i64 b) K ↔ K (.int .i64 (a + b)) :=
  pBin_i (by simp only [aint, i64_in _ h])
theorem pBin_sub {T : Nat} {a b : Int} {K : Value → Prop} (h : -9223372036854775808 ≤ a - b ∧ a - b ≤ 9223372036854775807) : pBin P T .sub (.int .i64 a) (.int .i64 b) K ↔ K (.int .i64 (a - b)) :=
  pBin_i (by simp only [aint, i64_in _ h])
theorem pBin_mul {T : Nat} {a b : Int} {K : Value → Prop} (h : -9223372036854775808 ≤ a * b ∧ a * b ≤ 9223372036854775807) : pBin P T .mul (.int .i64 a) (.int .i64 b) K ↔ K (.int .i64 (a * b)) :=
  pBin_i (by simp only [aint, i64_in _ h])

theorem bytes_inj {a b : ByteArray} (h : a.toList = b.toList) : a = b := by
  rw [ByteArray.toList_eq, ByteArray.toList_eq] at h
  cases a; cases b
  simp only [ByteArray.mk.injEq]
  exact Array.toList_inj.1 h
theorem toList_eq {a b : ByteArray} : (a.toList == b.toList) = decide (a = b) := by
  have : a.toList = b.toList ↔ a = b := ⟨fun h => Go.Av.bytes_inj h, fun h => by rw [h]⟩
  by_cases h : a = b
  · subst h; simp
  · have h' : ¬ a.toList = b.toList := fun e => h (this.1 e)
    simp [h, h']
theorem pBin_s {T : Nat} {op : BinOp} {a b : ByteArray} {v : Value} {K : Value → Prop} (h : astr op a b = some v) : pBin P T op (.string a) (.string b) K ↔ K v :=
  ⟨fun ⟨_, h', hK⟩ => by rw [show abinT P T op (.string a) (.string b) = some v from h] at h'; cases h'; exact hK, fun hK => ⟨_, h, hK⟩⟩
theorem pBin_seq {T : Nat} {a b : ByteArray} {K : Value → Prop} : pBin P T .eql (.string a) (.string b) K ↔ K (.bool (decide (a = b))) := pBin_s (by simp only [astr, toList_eq])
theorem pBin_sne {T : Nat} {a b : ByteArray} {K : Value → Prop} : pBin P T .neq (.string a) (.string b) K ↔ K (.bool (decide (a ≠ b))) := pBin_s (by simp only [astr, toList_eq]; simp)
theorem pBin_b {T : Nat} {op : BinOp} {a b : Bool} {v : Value} {K : Value → Prop} (hT : P.underlying T = some .bool) (h : (match op with | .eql => some (Value.bool (a == b)) | .neq => some (.bool (!(a == b))) | _ => none) = some v) : pBin P T op (.bool a) (.bool b) K ↔ K v := by
  have e : abinT P T op (.bool a) (.bool b) = some v := by simp only [abinT, hT]; exact h
  exact ⟨fun ⟨_, h', hK⟩ => by rw [e] at h'; cases h'; exact hK, fun hK => ⟨_, e, hK⟩⟩

theorem pVal1 {n : Nat} {v : Value} {A : Prop} (h : v.oneCell' = true) : pVal false n v A ↔ A := ⟨fun h => h.2, fun hA => ⟨h, hA⟩⟩
theorem pValN {n : Nat} {cs : List Value} {A : Prop} (hl : cs.length = n) (h : ∀ c, c ∈ cs → c.oneCell' = true) : pVal true n (.agg ⟨cs⟩) A ↔ A := ⟨fun h => h.2, fun hA => ⟨⟨cs, rfl, hl, h⟩, hA⟩⟩
theorem cellOf_agg {cs : List Value} {i : Nat} : cellOf (.agg ⟨cs⟩) i = cs.getD i undef := rfl
theorem pStr1 {b : Nat} {K : Value → Prop} {n : Int} {c : Nat} (h : Av.get w0 σ ⟨b, 0, none⟩ = some (.int .u8 n)) (hK : K (.string (strOfNums [n]))) : pStr w0 (.slice (some ⟨b, 0, none⟩) 1 c) σ K :=
  .inr ⟨b, 0, 1, c, [n], rfl, rfl, (fun j hj => by
    have e : j = 0 := by omega
    subst e
    exact h), hK⟩

/-! ### Loops -/
theorem loop_rule {B : List Value → (AX → List Value → Vw → Prop) → Vw → Prop} {K : AX → List Value → Vw → Prop} (I : Nat → List Value → Vw → Prop)
    (step : ∀ m vs σ (L : List Value → Vw → Prop), I m vs σ → (∀ vs' σ', ∀ m', m' + 1 = m → I m' vs' σ' → L vs' σ') → B vs (fun e vs' σ' => match e with | .normal => L vs' σ' | .exit i => K (.exit i) vs' σ' | .ret => K .ret vs' σ') σ)
    {m : Nat} {vs : List Value} (h : I m vs σ) : pLoop B vs σ K := by
  refine ⟨m + 1, ?_⟩
  induction m generalizing vs σ with
  | zero => exact step 0 vs σ _ h (fun vs' σ' m' e => by omega)
  | succ m ih =>
    refine step (m + 1) vs σ _ h (fun vs' σ' m' e hI => ?_)
    have e : m' = m := by omega
    subst e
    exact ih hI

/-! ### Reading -/
theorem add_add (a : Addr) (i j : Nat) : (a.add i).add j = a.add (i + j) := by
  unfold Addr.add
  by_cases hi : i = 0
  · simp [hi]
  · by_cases hj : j = 0
    · simp [hj]
    · have : i + j ≠ 0 := by omega
      simp [hi, hj, this, Nat.add_assoc]

/-- A reader that reads no less. -/
def Le (rd rd' : Addr → Option Value) : Prop := ∀ a v, rd a = some v → rd' a = some v
theorem Le.refl (rd : Addr → Option Value) : Le rd rd := fun _ _ h => h
theorem Ext.le (hx : Ext σ σ') : Le (Av.get w0 σ) (Av.get w0 σ') := fun _ _ h => get_ext hx h

/-- What is read behind a slice: xs, each of n cells. -/
def RSl {α : Type} (n : Nat) (R : (Addr → Option Value) → List Value → α → Prop) (rd : Addr → Option Value) (v : Value) (xs : List α) : Prop :=
  ∃ A cap, v = .slice A xs.length cap ∧ (xs.length ≤ cap ∧ cap ≤ 9223372036854775807) ∧ ∀ (j : Nat) (x : α), xs[j]? = some x → ∃ a es, A = some a ∧ es.length = n ∧ (∀ i, i < n → rd (a.add (j * n + i)) = es[i]?) ∧ R rd es x

theorem RSl.mono {α : Type} {n : Nat} {R : (Addr → Option Value) → List Value → α → Prop} {rd rd' : Addr → Option Value} {v : Value} {xs : List α} (h : RSl n R rd v xs) (hx : Le rd rd') (hR : ∀ es x, R rd es x → R rd' es x) : RSl n R rd' v xs := by
  obtain ⟨A, cap, h1, h2, h3⟩ := h
  refine ⟨A, cap, h1, h2, fun j x hj => ?_⟩
  obtain ⟨a, es, h4, h5, h6, h7⟩ := h3 j x hj
  refine ⟨a, es, h4, h5, fun i hi => ?_, hR _ _ h7⟩
  have := h6 i hi
  have hlt : i < es.length := by omega
  rw [List.getElem?_eq_getElem hlt] at this ⊢
  exact hx _ _ this

theorem RSl.len {α : Type} {n : Nat} {R : (Addr → Option Value) → List Value → α → Prop} {rd : Addr → Option Value} {v : Value} {xs : List α} (h : RSl n R rd v xs) {K : Value → Prop} : pLen v K ↔ K (.int .i64 xs.length) := by
  obtain ⟨A, cap, rfl, _⟩ := h
  exact pLen_s

/-- An element is read. -/
theorem RSl.at {α : Type} {n : Nat} {R : (Addr → Option Value) → List Value → α → Prop} {v : Value} {xs : List α} (h : RSl n R (Av.get w0 σ) v xs) {j : Nat} {x : α} (hj : xs[j]? = some x) {K : (Nat → Value) → Prop} (hK : ∀ g : Nat → Value, R (Av.get w0 σ) (expl g 0 n) x → K g) :
    pIndexAddr n v (.int .i64 j) fun p => pLoad w0 n p σ K := by
  obtain ⟨A, cap, rfl, _, h3⟩ := h
  obtain ⟨a, es, rfl, h5, h6, h7⟩ := h3 j x hj
  have hlt : j < xs.length := (List.getElem?_eq_some_iff.1 hj).1
  refine ⟨a, xs.length, cap, .i64, j, rfl, rfl, by omega, by omega, a.add (j * n), fun i => es.getD i undef, rfl, fun i hi => ?_, hK _ ?_⟩
  · have := h6 i hi
    have hlt : i < es.length := by omega
    rw [add_add, this, List.getElem?_eq_getElem hlt]
    simp only [List.getD_eq_getElem?_getD, List.getElem?_eq_getElem hlt, Option.getD_some]
  · have : expl (fun i => es.getD i undef) 0 n = es := by
      apply List.ext_getElem?
      intro i
      by_cases hi : i < n
      · rw [expl_get _ _ _ _ hi, Nat.zero_add, List.getD_eq_getElem?_getD]
        have hlt : i < es.length := by omega
        rw [List.getElem?_eq_getElem hlt]; rfl
      · rw [List.getElem?_eq_none (by rw [length_expl]; omega), List.getElem?_eq_none (by omega)]
    rw [this]; exact h7

/-- A text. -/
def RS (rd : Addr → Option Value) (cs : List Value) (s : ByteArray) : Prop := cs = [.string s] ∧ s.size ≤ 9223372036854775807
end
end Go.Av

/- The plain side, part 2: rows of our own. -/
set_option linter.unusedVariables false
set_option linter.unusedSimpArgs false
namespace Go.Av
open Go Go.RowKit

/-- Every row stays as it is; there may be new ones. -/
def Keeps (σ σ' : Vw) : Prop := ∀ b r, σ b = some r → σ' b = some r
theorem Keeps.refl (σ : Vw) : Keeps σ σ := fun _ _ h => h
theorem Keeps.trans {σ σ' σ'' : Vw} (h : Keeps σ σ') (h' : Keeps σ' σ'') : Keeps σ σ'' := fun b r hb => h' b r (h b r hb)
theorem Keeps.ext {σ σ' : Vw} (h : Keeps σ σ') : Ext σ σ' := fun b r hb => ⟨r, h b r hb, List.prefix_refl _⟩
theorem Keeps.le {w0 : World} {σ σ' : Vw} (h : Keeps σ σ') : Le (Av.get w0 σ) (Av.get w0 σ') := h.ext.le
theorem Keeps.stay {w0 : World} {σ σ' : Vw} {v : Value} {n : Nat} (h : Keeps σ σ') : Stay w0 σ σ' v n := fun a g _ hc j hj => h.le _ _ (hc j hj)
theorem Keeps.put {σ : Vw} {b : Nat} {r : Row} (h : σ b = none) : Keeps σ (σ.put b r) := fun i x hi => by
  have : i ≠ b := fun e => by rw [e, h] at hi; cases hi
  simp [Vw.put, this, hi]
/-- A new row is made, then others, then the first is written. -/
theorem Keeps.fill {σ σ' : Vw} {b : Nat} {r : Row} (h : Keeps σ σ') (hb : σ b = none) : Keeps σ (σ'.put b r) := fun i x hi => by
  have : i ≠ b := fun e => by rw [e, hb] at hi; cases hi
  simp [Vw.put, this, h i x hi]
theorem put_at {σ : Vw} {b : Nat} {r : Row} : σ.put b r b = some r := by simp [Vw.put]
theorem put_put {σ : Vw} {b : Nat} {r r' : Row} : (σ.put b r).put b r' = σ.put b r' := by
  funext i; simp only [Vw.put]; split <;> rfl

theorem get_row {w0 : World} {σ : Vw} {b off : Nat} {r : Row} (hb : w0.heap.size ≤ b) (h : σ b = some r) : Av.get w0 σ ⟨b, off, none⟩ = r.cells[off]? := by
  unfold Av.get
  simp only
  rw [if_neg (by omega), if_pos trivial, h]; rfl

theorem addr_add (b off i : Nat) : (Addr.mk b off none).add i = ⟨b, off + i, none⟩ := by
  unfold Addr.add
  split
  · rename_i h; subst h; rfl
  · rfl

theorem setAt_mid : ∀ (A old new C : List Value), old.length = new.length → setAt (A ++ (old ++ C)) A.length new = A ++ (new ++ C)
  | A, [], [], C, _ => by simp [setAt]
  | A, [], _ :: _, C, h => by simp at h
  | A, _ :: _, [], C, h => by simp at h
  | A, o :: old, n :: new, C, h => by
    simp only [setAt]
    have e : (A ++ (o :: old ++ C)).set A.length n = (A ++ [n]) ++ (old ++ C) := by simp
    rw [e]
    have := setAt_mid (A ++ [n]) old new C (by simpa using h)
    simp only [List.length_append, List.length_singleton] at this
    rw [this]
    simp

section
variable {w0 : World} {σ : Vw}

theorem flat_len {n : Nat} : ∀ (xs : List (List Value)), (∀ c, c ∈ xs → c.length = n) → xs.flatten.length = xs.length * n
  | [], _ => by simp
  | c :: r, h => by
    have := flat_len r (fun d hd => h d (List.mem_cons_of_mem _ hd))
    simp only [List.flatten_cons, List.length_append, List.length_cons, this, h c List.mem_cons_self]
    rw [Nat.add_mul, Nat.one_mul, Nat.add_comm]

theorem flat_get {n : Nat} : ∀ (xs : List (List Value)), (∀ c, c ∈ xs → c.length = n) → ∀ (j : Nat) (c : List Value), xs[j]? = some c → ∀ i, i < n → xs.flatten[j * n + i]? = c[i]?
  | [], _, j, c, hj, i, hi => by simp at hj
  | d :: r, h, 0, c, hj, i, hi => by
    simp at hj; subst hj
    have := h d List.mem_cons_self
    rw [List.flatten_cons, Nat.zero_mul, Nat.zero_add, List.getElem?_append_left (by omega)]
  | d :: r, h, j + 1, c, hj, i, hi => by
    have hd := h d List.mem_cons_self
    rw [List.flatten_cons, Nat.add_mul, Nat.one_mul, List.getElem?_append_right (by omega)]
    have := flat_get r (fun d hd => h d (List.mem_cons_of_mem _ hd)) j c (by simpa using hj) i hi
    rw [← this]
    congr 1
    omega

/-- What lies in a row of our own can be read. -/
theorem RSl.own {α : Type} {n : Nat} {R : (Addr → Option Value) → List Value → α → Prop} {b cap : Nat} {r : Row} {xs : List α} {cs : List (List Value)} {tail : List Value} (hb : w0.heap.size ≤ b) (hr : σ b = some r) (hc : r.cells = cs.flatten ++ tail) (hn : ∀ c, c ∈ cs → c.length = n)
    (hl : cs.length = xs.length) (hm : xs.length ≤ cap ∧ cap ≤ 9223372036854775807) (hR : ∀ (j : Nat) (c : List Value) (x : α), cs[j]? = some c → xs[j]? = some x → R (Av.get w0 σ) c x) : RSl n R (Av.get w0 σ) (.slice (some ⟨b, 0, none⟩) xs.length cap) xs := by
  refine ⟨_, cap, rfl, hm, fun j x hj => ?_⟩
  have hlt : j < cs.length := by have := (List.getElem?_eq_some_iff.1 hj).1; omega
  have hcj := List.getElem?_eq_getElem hlt
  refine ⟨_, cs[j], rfl, hn _ (List.getElem_mem hlt), fun i hi => ?_, hR j _ x hcj hj⟩
  rw [addr_add, get_row hb hr, Nat.zero_add, hc, ← flat_get cs hn j _ hcj i hi, List.getElem?_append_left]
  rw [flat_len cs hn]
  calc j * n + i < j * n + n := by omega
    _ = (j + 1) * n := by rw [Nat.add_mul, Nat.one_mul]
    _ ≤ cs.length * n := Nat.mul_le_mul_right n hlt

theorem RSl.one {α : Type} {n : Nat} {R : (Addr → Option Value) → List Value → α → Prop} {rd : Addr → Option Value} {v : Value} {xs : List α} (h : RSl n R rd v xs) : v.oneCell' = true := by
  obtain ⟨A, cap, rfl, _⟩ := h
  rfl
theorem RSl.le {α : Type} {n : Nat} {R : (Addr → Option Value) → List Value → α → Prop} {rd : Addr → Option Value} {v : Value} {xs : List α} (h : RSl n R rd v xs) : xs.length ≤ 9223372036854775807 := by
  obtain ⟨_, _, _, h2, _⟩ := h; exact Nat.le_trans h2.1 h2.2
theorem pVal_2 {v v' : Value} {A : Prop} (h : v.oneCell' = true) (h' : v'.oneCell' = true) : pVal true 2 (.agg ⟨[v, v']⟩) A ↔ A := pValN rfl (by simp [h, h'])
end
end Go.Av

/- The lists of structs, whatever their element: their size, their comparison. -/
set_option linter.unusedVariables false
set_option linter.unusedSimpArgs false
namespace Go.Av
open Go Go.RowKit

/-- What is left of n. -/
def left (n : Int) (t : Nat) : Int := if n - t < 0 then -1 else n - t
def sumBy {α : Type} (f : α → Nat) : List α → Nat
  | [] => 0
  | s :: r => f s + sumBy f r
theorem sumBy_take {α : Type} {f : α → Nat} {xs : List α} : ∀ {j : Nat} {x : α}, xs[j]? = some x → sumBy f (xs.take (j + 1)) = sumBy f (xs.take j) + f x := by
  induction xs with
  | nil => intro j x h; simp at h
  | cons a r ih =>
    intro j x h
    cases j with
    | zero => simp at h; subst h; simp [sumBy]
    | succ j =>
      simp at h
      have := ih h
      simp only [List.take_succ_cons, sumBy, this]
      omega
theorem sumBy_le {α : Type} {f : α → Nat} {xs : List α} : ∀ (j : Nat), sumBy f (xs.take j) ≤ sumBy f xs := by
  induction xs with
  | nil => intro j; simp [sumBy]
  | cons a r ih =>
    intro j
    cases j with
    | zero => simp [sumBy]
    | succ j => have := ih j; simp only [List.take_succ_cons, sumBy]; omega

section
variable {P : Program} {w0 : World} {σ : Vw} {α : Type}

end
end Go.Av

/- Lists that lie in rows of our own, each part in rows of its own; the copy of a list of structs. -/
set_option linter.unusedVariables false
set_option linter.unusedSimpArgs false
namespace Go.Av
open Go Go.RowKit

section
variable {P : Program} {w0 : World} {σ σ' : Vw} {α : Type}

/-- What a rule for parts in rows of our own must keep. -/
structure OOk (w0 : World) (n : Nat) (Rel : (Addr → Option Value) → List Value → α → Prop) (O : Vw → List Nat → List Value → α → Prop) : Prop where
  rel : ∀ σ F es x, O σ F es x → Rel (Av.get w0 σ) es x
  frame : ∀ σ σ' F es x, O σ F es x → (∀ b, b ∈ F → σ' b = σ b) → O σ' F es x
  dom : ∀ σ F es x, O σ F es x → ∀ b, b ∈ F → w0.heap.size ≤ b ∧ σ b ≠ none
  nodup : ∀ σ F es x, O σ F es x → F.Nodup
  len : ∀ σ F es x, O σ F es x → es.length = n
  one : ∀ σ F es x, O σ F es x → ∀ c, c ∈ es → c.oneCell' = true

/-- A list in a row of our own, the elements' own parts in other rows. -/
def OSl (w0 : World) (n : Nat) (O : Vw → List Nat → List Value → α → Prop) (σ : Vw) (F : List Nat) (v : Value) (xs : List α) : Prop :=
  xs.length ≤ 9223372036854775807 ∧ F.Nodup ∧ ((v = .slice none 0 0 ∧ xs = [] ∧ F = []) ∨
  ∃ (b off cap : Nat) (r : Row) (pre post : List Value) (css : List (List Value)) (Fs : List (List Nat)), v = .slice (some ⟨b, off, none⟩) xs.length cap ∧ (xs.length ≤ cap ∧ cap ≤ 9223372036854775807) ∧ w0.heap.size ≤ b ∧ σ b = some r ∧ r.cells = pre ++ (css.flatten ++ post) ∧ pre.length = off ∧
    css.length = xs.length ∧ Fs.length = xs.length ∧ F = b :: Fs.flatten ∧ ∀ (j : Nat) (c : List Value) (x : α) (f : List Nat), css[j]? = some c → xs[j]? = some x → Fs[j]? = some f → O σ f c x)

theorem mem_flat {l : List (List Nat)} {b : Nat} (h : b ∈ l.flatten) : ∃ (j : Nat) (f : List Nat), l[j]? = some f ∧ b ∈ f := by
  obtain ⟨f, h1, h2⟩ := List.mem_flatten.1 h
  obtain ⟨j, hj⟩ := List.getElem?_of_mem h1
  exact ⟨j, f, hj, h2⟩

theorem OSl.frame {n : Nat} {Rel : (Addr → Option Value) → List Value → α → Prop} {O : Vw → List Nat → List Value → α → Prop} (ok : OOk w0 n Rel O) {F : List Nat} {v : Value} {xs : List α} (h : OSl w0 n O σ F v xs) (hF : ∀ b, b ∈ F → σ' b = σ b) : OSl w0 n O σ' F v xs := by
  obtain ⟨h1, h2, h3 | ⟨b, off, cap, r, pre, post, css, Fs, g1, gc, g2, g3, g4, g5, g6, g7, g8, g9⟩⟩ := h
  · exact ⟨h1, h2, .inl h3⟩
  · refine ⟨h1, h2, .inr ⟨b, off, cap, r, pre, post, css, Fs, g1, gc, g2, ?_, g4, g5, g6, g7, g8, fun j c x f e1 e2 e3 => ?_⟩⟩
    · rw [hF b (by rw [g8]; exact List.mem_cons_self)]; exact g3
    · refine ok.frame _ _ _ _ _ (g9 j c x f e1 e2 e3) fun i hi => hF i ?_
      rw [g8]
      exact List.mem_cons_of_mem _ (List.mem_flatten.2 ⟨f, List.mem_of_getElem? e3, hi⟩)

theorem OSl.dom {n : Nat} {Rel : (Addr → Option Value) → List Value → α → Prop} {O : Vw → List Nat → List Value → α → Prop} (ok : OOk w0 n Rel O) {F : List Nat} {v : Value} {xs : List α} (h : OSl w0 n O σ F v xs) : ∀ b, b ∈ F → w0.heap.size ≤ b ∧ σ b ≠ none := by
  obtain ⟨h1, h2, ⟨_, _, h3⟩ | ⟨b, off, cap, r, pre, post, css, Fs, g1, gc, g2, g3, g4, g5, g6, g7, g8, g9⟩⟩ := h
  · rw [h3]; intro b hb; cases hb
  · rw [g8]
    intro i hi
    rcases List.mem_cons.1 hi with e | e
    · rw [e]; exact ⟨g2, by rw [g3]; simp⟩
    · obtain ⟨j, f, e1, e2⟩ := mem_flat e
      have hj : j < Fs.length := (List.getElem?_eq_some_iff.1 e1).1
      exact ok.dom _ _ _ _ (g9 j _ _ f (List.getElem?_eq_getElem (by omega)) (List.getElem?_eq_getElem (by omega)) e1) i e2

theorem OSl.rel {n : Nat} {Rel : (Addr → Option Value) → List Value → α → Prop} {O : Vw → List Nat → List Value → α → Prop} (ok : OOk w0 n Rel O) {F : List Nat} {v : Value} {xs : List α} (h : OSl w0 n O σ F v xs) : RSl n Rel (Av.get w0 σ) v xs := by
  obtain ⟨h1, h2, ⟨rfl, rfl, _⟩ | ⟨b, off, cap, r, pre, post, css, Fs, rfl, gc, g2, g3, g4, g5, g6, g7, g8, g9⟩⟩ := h
  · exact ⟨none, 0, rfl, by simp, fun j x hj => by simp at hj⟩
  · have each : ∀ (j : Nat) (c : List Value), css[j]? = some c → c.length = n := fun j c hj => by
      have hlt : j < css.length := (List.getElem?_eq_some_iff.1 hj).1
      exact ok.len _ _ _ _ (g9 j c _ _ hj (List.getElem?_eq_getElem (by omega)) (List.getElem?_eq_getElem (by omega)))
    have hn : ∀ c, c ∈ css → c.length = n := fun c hc => by obtain ⟨j, hj⟩ := List.getElem?_of_mem hc; exact each j c hj
    refine ⟨_, cap, rfl, gc, fun j x hj => ?_⟩
    have hlt : j < css.length := by have := (List.getElem?_eq_some_iff.1 hj).1; omega
    have hcj := List.getElem?_eq_getElem hlt
    refine ⟨_, css[j], rfl, each j _ hcj, fun i hi => ?_, ok.rel _ _ _ _ (g9 j _ x _ hcj hj (List.getElem?_eq_getElem (by omega)))⟩
    rw [addr_add, get_row g2 g3, g4, List.getElem?_append_right (by omega)]
    rw [show off + (j * n + i) - pre.length = j * n + i by omega, List.getElem?_append_left, flat_get css hn j _ hcj i hi]
    rw [flat_len css hn]
    calc j * n + i < j * n + n := by omega
      _ = (j + 1) * n := by rw [Nat.add_mul, Nat.one_mul]
      _ ≤ css.length * n := Nat.mul_le_mul_right n hlt

end
end Go.Av

/- Lists in rows of our own, written element by element: the focus on one element, and the loops that mark and that look at marks. -/
set_option linter.unusedVariables false
set_option linter.unusedSimpArgs false
namespace Go.Av
open Go Go.RowKit

/-- Every row but those of F stays as it is. -/
def KeepsBut (F : List Nat) (σ σ' : Vw) : Prop := ∀ b r, σ b = some r → b ∉ F → σ' b = some r
theorem KeepsBut.refl (F : List Nat) (σ : Vw) : KeepsBut F σ σ := fun _ _ h _ => h
theorem Keeps.but {F : List Nat} {σ σ' : Vw} (h : Keeps σ σ') : KeepsBut F σ σ' := fun b r hb _ => h b r hb
theorem KeepsBut.trans {F : List Nat} {σ σ' σ'' : Vw} (h : KeepsBut F σ σ') (h' : KeepsBut F σ' σ'') : KeepsBut F σ σ'' := fun b r hb hF => h' b r (h b r hb hF) hF
/-- What is older than F stays. -/
theorem KeepsBut.old {F : List Nat} {σ0 σ σ' : Vw} (h : KeepsBut F σ σ') (h0 : Keeps σ0 σ) (hF : ∀ b, b ∈ F → σ0 b = none) : Keeps σ0 σ' := fun b r hb => h b r (h0 b r hb) fun hb' => by rw [hF b hb'] at hb; cases hb
theorem KeepsBut.at {F G : List Nat} {σ σ' : Vw} (h : KeepsBut F σ σ') (hG : ∀ b, b ∈ G → σ b ≠ none) (hd : ∀ b, b ∈ G → b ∉ F) : ∀ b, b ∈ G → σ' b = σ b := fun b hb => by
  cases hs : σ b with
  | none => exact absurd hs (hG b hb)
  | some r => exact h b r hs (hd b hb)
theorem KeepsBut.put {F : List Nat} {σ : Vw} {b : Nat} {r : Row} (hb : b ∈ F) : KeepsBut F σ (σ.put b r) := fun i x hi hF => by
  have : i ≠ b := fun e => hF (e ▸ hb)
  simp [Vw.put, this, hi]

section
variable {P : Program} {w0 : World} {σ σ' : Vw} {α : Type}

theorem nodup_at {l : List (List Nat)} {i j : Nat} {f g : List Nat} (h : l.flatten.Nodup) (hi : l[i]? = some f) (hj : l[j]? = some g) (hij : i ≠ j) : ∀ b, b ∈ f → b ∉ g := by
  induction l generalizing i j with
  | nil => simp at hi
  | cons a r ih =>
    rw [List.flatten_cons, List.nodup_append] at h
    intro b hb hb'
    cases i with
    | zero =>
      cases j with
      | zero => exact hij rfl
      | succ j =>
        simp at hi hj
        subst hi
        exact h.2.2 b hb b (List.mem_flatten.2 ⟨g, List.mem_of_getElem? hj, hb'⟩) rfl
    | succ i =>
      cases j with
      | zero =>
        simp at hi hj
        subst hj
        exact h.2.2 b hb' b (List.mem_flatten.2 ⟨f, List.mem_of_getElem? hi, hb⟩) rfl
      | succ j =>
        simp at hi hj
        exact ih h.2.1 hi hj (fun e => hij (by rw [e])) b hb hb'

theorem split_at {l : List (List Value)} {j : Nat} {c : List Value} (hj : l[j]? = some c) : l.flatten = (l.take j).flatten ++ (c ++ (l.drop (j + 1)).flatten) := by
  have hlt := (List.getElem?_eq_some_iff.1 hj).1
  have e : l = l.take j ++ (c :: l.drop (j + 1)) := by
    have := List.take_append_drop j l
    rw [List.drop_eq_getElem_cons hlt] at this
    have hc : l[j] = c := (List.getElem?_eq_some_iff.1 hj).2
    rw [hc] at this
    exact this.symm
  calc l.flatten = (l.take j ++ (c :: l.drop (j + 1))).flatten := by rw [← e]
    _ = _ := by rw [List.flatten_append, List.flatten_cons]

/-- One element of a list of our own, and how the list is put together again behind a change of it. -/
theorem OSl.focus {n : Nat} {Rel : (Addr → Option Value) → List Value → α → Prop} {O : Vw → List Nat → List Value → α → Prop} (ok : OOk w0 n Rel O) {F : List Nat} {v : Value} {xs : List α} (h : OSl w0 n O σ F v xs) {j : Nat} {x : α} (hj : xs[j]? = some x) :
    ∃ (b o : Nat) (f : List Nat) (c A C : List Value) (r : Row), (∀ K : Value → Prop, K (.pointer (some ⟨b, o, none⟩)) → pIndexAddr n v (.int .i64 j) K) ∧ w0.heap.size ≤ b ∧ σ b = some r ∧ r.cells = A ++ (c ++ C) ∧ A.length = o ∧ O σ f c x ∧ b ∈ F ∧ (∀ i, i ∈ f → i ∈ F ∧ i ≠ b) ∧
      ∀ (σ' : Vw) (c' : List Value) (x' : α) (r' : Row), σ' b = some r' → r'.cells = A ++ (c' ++ C) → O σ' f c' x' → (∀ i, i ∈ F → i ≠ b → i ∉ f → σ' i = σ i) → OSl w0 n O σ' F v (xs.set j x') := by
  obtain ⟨h1, h2, ⟨rfl, rfl, _⟩ | ⟨b, off, cap, r, pre, post, css, Fs, rfl, gc, g2, g3, g4, g5, g6, g7, g8, g9⟩⟩ := h
  · simp at hj
  have hlt : j < xs.length := (List.getElem?_eq_some_iff.1 hj).1
  have hcj := List.getElem?_eq_getElem (show j < css.length by omega)
  have hfj := List.getElem?_eq_getElem (show j < Fs.length by omega)
  generalize hce : css[j]'(by omega) = c at hcj
  generalize hfe : Fs[j]'(by omega) = f at hfj
  have hO := g9 j c x f hcj hj hfj
  have hn : ∀ c, c ∈ css → c.length = n := fun c hc => by
    obtain ⟨i, hi⟩ := List.getElem?_of_mem hc
    have hil : i < css.length := (List.getElem?_eq_some_iff.1 hi).1
    exact ok.len _ _ _ _ (g9 i c _ _ hi (List.getElem?_eq_getElem (by omega)) (List.getElem?_eq_getElem (by omega)))
  have hA : (pre ++ (css.take j).flatten).length = off + j * n := by
    rw [List.length_append, g5, flat_len _ fun c hc => hn c (List.mem_of_mem_take hc), List.length_take]
    congr 2; omega
  rw [g8] at h2
  have hbf : b ∉ f := fun hb => (List.nodup_cons.1 h2).1 (List.mem_flatten.2 ⟨f, List.mem_of_getElem? hfj, hb⟩)
  refine ⟨b, off + j * n, f, c, pre ++ (css.take j).flatten, (css.drop (j + 1)).flatten ++ post, r, fun K hK => ?_, g2, g3, ?_, hA, hO, by rw [g8]; exact List.mem_cons_self, fun i hi => ⟨?_, fun e => hbf (e ▸ hi)⟩, ?_⟩
  · refine ⟨⟨b, off, none⟩, xs.length, cap, .i64, j, rfl, rfl, by omega, by omega, ?_⟩
    rw [addr_add]; exact hK
  · rw [g4, split_at hcj]; simp only [List.append_assoc]
  · rw [g8]; exact List.mem_cons_of_mem _ (List.mem_flatten.2 ⟨f, List.mem_of_getElem? hfj, hi⟩)
  · intro σ' c' x' r' hr' hcells hO' hrest
    have hlen' := ok.len _ _ _ _ hO'
    refine ⟨by rw [List.length_set]; exact h1, by rw [g8]; exact h2, .inr ⟨b, off, cap, r', pre, post, css.set j c', Fs, by rw [List.length_set], by rw [List.length_set]; exact gc, g2, hr', ?_, g5, by rw [List.length_set, List.length_set]; exact g6, by rw [List.length_set]; exact g7, g8, ?_⟩⟩
    · have hcj' : (css.set j c')[j]? = some c' := List.getElem?_set_self (by omega)
      rw [hcells, split_at hcj', List.take_set_of_le (Nat.le_refl j), List.drop_set_of_lt (by omega)]
      simp only [List.append_assoc]
    · intro i ci y fi e1 e2 e3
      by_cases hij : j = i
      · subst hij
        rw [List.getElem?_set_self (by omega)] at e1 e2
        cases e1; cases e2
        rw [hfj] at e3; cases e3
        exact hO'
      · rw [List.getElem?_set_ne hij] at e1 e2
        refine ok.frame _ _ _ _ _ (g9 i ci y fi e1 e2 e3) fun k hk => ?_
        have hkF : k ∈ Fs.flatten := List.mem_flatten.2 ⟨fi, List.mem_of_getElem? e3, hk⟩
        exact hrest k (by rw [g8]; exact List.mem_cons_of_mem _ hkF) (fun e => (List.nodup_cons.1 h2).1 (e ▸ hkF)) (nodup_at (List.nodup_cons.1 h2).2 e3 hfj (fun e => hij e.symm) k hk)

/-- A field of an element is written. -/
theorem field_store {b o off : Nat} {r : Row} {A c C : List Value} {y : Value} {K : Vw → Prop} (hr : σ b = some r) (hc : r.cells = A ++ (c ++ C)) (hA : A.length = o) (hoff : off < c.length) (hy : y.oneCell' = true)
    (hK : K (σ.put b { r with cells := A ++ (c.set off y ++ C) })) : pField off (.pointer (some ⟨b, o, none⟩)) fun q => pVal false 1 y (pStore q [y] σ K) := by
  rw [pField_s, pVal1 hy, addr_add]
  refine ⟨b, o + off, r, rfl, hr, ?_, ?_⟩
  · rw [hc]; simp only [List.length_append, List.length_singleton]; omega
  · have e : setAt r.cells (o + off) [y] = A ++ (c.set off y ++ C) := by
      simp only [setAt]
      rw [hc, List.set_append_right _ _ (by omega), List.set_append_left _ _ (by omega), hA]
      congr 3; omega
    rw [e]; exact hK
/-- A field of an element is read. -/
theorem field_load {b o off : Nat} {r : Row} {A c C : List Value} {y : Value} {K : (Nat → Value) → Prop} (hb : w0.heap.size ≤ b) (hr : σ b = some r) (hc : r.cells = A ++ (c ++ C)) (hA : A.length = o) (hoff : c[off]? = some y)
    (hK : ∀ g : Nat → Value, g 0 = y → K g) : pField off (.pointer (some ⟨b, o, none⟩)) fun q => pLoad w0 1 q σ K := by
  rw [pField_s, addr_add]
  refine ⟨_, fun _ => y, rfl, fun j hj => ?_, hK _ rfl⟩
  have : j = 0 := by omega
  subst this
  have hlt : off < c.length := (List.getElem?_eq_some_iff.1 hoff).1
  rw [addr_add, get_row hb hr, hc, List.getElem?_append_right (by omega), List.getElem?_append_left (by omega)]
  rw [show o + off + 0 - A.length = off by omega]; exact hoff

/-! ### Marks -/
end
end Go.Av

/- The plain side, part 3: what the statement's reading of an argument says of the cells. -/
set_option linter.unusedVariables false
set_option linter.unusedSimpArgs false
namespace Go.Av
open Go Go.RowKit

def σ0 : Vw := fun _ => none

section
variable {H : Type} {enc : TypeId × Value → H} {P : Program} {W : World} {fuel : Nat} {cs : List Value} {x : DataW H × List MemPlace}

theorem sat0 (W : World) : Sat W σ0 W := ⟨Below.refl _ _, fun b r h => by cases h⟩

theorem get0 {a : Addr} {v : Value} (h : W.cell? a = some v) {σ : Vw} : Av.get W σ a = some v := by
  have hlt : a.block < W.heap.size := by
    rcases Nat.lt_or_ge a.block W.heap.size with h1 | h1
    · exact h1
    · have : W.heap[a.block]? = none := Array.getElem?_eq_none h1
      unfold World.cell? at h
      simp [this] at h
  unfold Av.get
  rw [if_pos hlt]; exact h

theorem listOf {α : Type} (p : Nat → α → Prop) : ∀ (n : Nat), (∀ i, i < n → ∃ x, p i x) → ∃ xs : List α, xs.length = n ∧ ∀ (j : Nat) (x : α), xs[j]? = some x → p j x
  | 0, _ => ⟨[], rfl, fun j x h => by simp at h⟩
  | n + 1, h => by
    obtain ⟨xs, hl, hx⟩ := listOf p n (fun i hi => h i (by omega))
    obtain ⟨y, hy⟩ := h n (by omega)
    refine ⟨xs ++ [y], by simp [hl], fun j x hj => ?_⟩
    by_cases e : j < xs.length
    · rw [List.getElem?_append_left e] at hj; exact hx j x hj
    · rw [List.getElem?_append_right (by omega)] at hj
      have : j - xs.length = 0 := by
        rcases Nat.eq_zero_or_pos (j - xs.length) with h0 | h0
        · exact h0
        · rw [List.getElem?_eq_none (by simp; omega)] at hj; cases hj
      rw [this] at hj
      simp at hj
      subst hj
      have : j = n := by omega
      subst this; exact hy

/-- A slice is opened, its elements by a rule of their own. -/
theorem open_rsl {α : Type} {t e n : Nat} {R : (Addr → Option Value) → List Value → α → Prop} {spare : Nat → Bool} (ht : P.underlying t = some (.slice e)) (hc : P.cellsOf e = n)
    (hR : ∀ (fuel : Nat) (es : List Value) (y : DataW H × List MemPlace), DataW.trod enc P W 0 spare true fuel e es = some y → es.length = n → ∃ x, R (Av.get W σ0) es x) (h : DataW.trod enc P W 0 spare true fuel t cs = some x) : ∃ v xs, cs = [v] ∧ RSl n R (Av.get W σ0) v xs := by
  rcases DataW.trod_slice ht h with ⟨rfl, _⟩ | ⟨a, len, cap, elems, rest, m, _, rfl, _, hb, hl, hm, hlen, hel, _, _⟩
  · exact ⟨_, [], rfl, none, 0, rfl, by simp, fun j x hj => by simp at hj⟩
  · have each : ∀ i, i < len → ∃ x : α, ∃ es : List Value, es.length = n ∧ (∀ k, k < n → Av.get W σ0 (a.add (i * n + k)) = es[k]?) ∧ R (Av.get W σ0) es x := by
      intro i hi
      have h1 := hel i hi
      rw [hc, List.getElem?_eq_getElem (by omega), Option.bind_eq_some_iff] at h1
      obtain ⟨es, h2, h3⟩ := h1
      obtain ⟨_, hes, hcell⟩ := World.cells?_some h2
      obtain ⟨x, hx⟩ := hR m es _ h3 hes
      refine ⟨x, es, hes, fun k hk => ?_, hx⟩
      have := hcell k hk
      rw [add_add] at this
      have hlt : k < es.length := by omega
      rw [List.getElem?_eq_getElem hlt] at this ⊢
      exact get0 this
    obtain ⟨xs, hxl, hxs⟩ := listOf _ len each
    have hmax : cap ≤ 9223372036854775807 := by have : maxLen = 9223372036854775807 := by decide
                                                omega
    refine ⟨_, xs, rfl, some a, cap, by rw [hxl], ⟨by omega, hmax⟩, fun j x hj => ?_⟩
    obtain ⟨es, g1, g2, g3⟩ := hxs j x hj
    exact ⟨a, es, rfl, g1, g2, g3⟩

/-- From the functions to the statement. -/
theorem AC.calls {f : FuncId} {args : List Value} {R : Value → Vw → Prop} (h : AC P W f args σ0 R) : Calls P f args.toArray W fun e W' => ∃ v σ', e = .returned v ∧ R v σ' ∧ Below W.heap.size W W' :=
  (h.2 W (sat0 W)).mono fun e W' ⟨v, σ', h1, h2, h3⟩ => ⟨v, σ', h1, h2, h3.sat.bel⟩
end
end Go.Av

/- The plain side, part 4: what the statement's reading of an argument says, with the fuel told; numbers, bools, texts. -/
set_option linter.unusedVariables false
set_option linter.unusedSimpArgs false
namespace Go.Av
open Go Go.RowKit

theorem RSl.imp {α : Type} {n : Nat} {R R' : (Addr → Option Value) → List Value → α → Prop} {rd : Addr → Option Value} {v : Value} {xs : List α} (h : RSl n R rd v xs) (hR : ∀ es x, R rd es x → R' rd es x) : RSl n R' rd v xs := by
  obtain ⟨A, cap, h1, h2, h3⟩ := h
  refine ⟨A, cap, h1, h2, fun j x hj => ?_⟩
  obtain ⟨a, es, h4, h5, h6, h7⟩ := h3 j x hj
  exact ⟨a, es, h4, h5, h6, hR _ _ h7⟩

section
variable {H : Type} {enc : TypeId × Value → H} {P : Program} {W : World} {fuel : Nat} {cs : List Value} {x : DataW H × List MemPlace}

end
end Go.Av

/- The plain side, part 5: more operations at known values. -/
set_option linter.unusedVariables false
set_option linter.unusedSimpArgs false
namespace Go.Av
open Go Go.RowKit IntWalk

section
variable {P : Program} {w0 : World} {σ σ' : Vw}
theorem pConv_s {k k' : IntKind} {n : Int} {K : Value → Prop} : pConvInt k (.int k' n) K ↔ K (.int k (k.wrap n)) :=
  ⟨fun ⟨_, _, h, hK⟩ => by cases h; exact hK, fun h => ⟨_, _, rfl, h⟩⟩
theorem pConv_u8 {k' : IntKind} {n : Int} {K : Value → Prop} (h : 0 ≤ n ∧ n ≤ 255) : pConvInt .u8 (.int k' n) K ↔ K (.int .u8 n) := by rw [pConv_s, u8_in n h]
theorem pConv_i64 {k' : IntKind} {n : Int} {K : Value → Prop} (h : -9223372036854775808 ≤ n ∧ n ≤ 9223372036854775807) : pConvInt .i64 (.int k' n) K ↔ K (.int .i64 n) := by rw [pConv_s, i64_in n h]
theorem pConv_u64 {k' : IntKind} {n : Int} {K : Value → Prop} (h : 0 ≤ n ∧ n ≤ 18446744073709551615) : pConvInt .u64 (.int k' n) K ↔ K (.int .u64 n) := by rw [pConv_s, u64_in n h]
theorem pBin_rem {T : Nat} {k : IntKind} {a b : Int} {K : Value → Prop} (h : 0 ≤ a ∧ 0 < b) : pBin P T .rem (.int k a) (.int k b) K ↔ K (.int k (a % b)) :=
  pBin_i (by simp only [aint]; rw [if_neg (by omega), Int.tmod_eq_emod_of_nonneg h.1])
theorem pBin_quo {T : Nat} {a b : Int} {K : Value → Prop} (h : 0 ≤ a ∧ a ≤ 9223372036854775807 ∧ 0 < b) : pBin P T .quo (.int .i64 a) (.int .i64 b) K ↔ K (.int .i64 (a / b)) :=
  pBin_i (by simp only [aint]; rw [if_neg (by omega), i64_quo a b (by omega)])
theorem pBin_cat {T : Nat} {a b : ByteArray} {K : Value → Prop} (h : a.size + b.size ≤ 9223372036854775807) : pBin P T .add (.string a) (.string b) K ↔ K (.string (a ++ b)) :=
  pBin_s (by
    have e : IntKind.i64.max = 9223372036854775807 := by decide
    simp only [astr, e]
    rw [if_neg (by omega)])
theorem pExtract_s {vs : List Value} {i : Nat} {v : Value} {K : Value → Prop} (h : vs[i]? = some v) : pExtract (.tuple ⟨vs⟩) i K ↔ K v := by
  obtain ⟨hl, he⟩ := List.getElem?_eq_some_iff.1 h
  exact ⟨fun ⟨_, e, hl', hK⟩ => by cases e; rw [he] at hK; exact hK, fun hK => ⟨_, rfl, hl, by rw [he]; exact hK⟩⟩
theorem pIndexStr_s {s : ByteArray} {j : Nat} {K : Value → Prop} (h : j < s.size) (hK : K (.int .u8 ((s[j]'h).toNat : Int))) : pIndexStr (.string s) (.int .i64 j) K :=
  ⟨s, .i64, j, rfl, rfl, by omega, h, hK⟩
theorem pSliceStr_s {s : ByteArray} {lo hi : Option Value} {l h : Int} {K : Value → Prop} (hl : boundOf 0 lo = some l) (hh : boundOf s.size hi = some h) (h0 : 0 ≤ l ∧ l ≤ h ∧ h ≤ s.size) (hK : K (.string (s.extract l.toNat h.toNat))) : pSliceStr (.string s) lo hi K :=
  ⟨s, l, h, rfl, hl, hh, h0.1, h0.2.1, h0.2.2, hK⟩
end
end Go.Av

/- Lists that grow by append, in a row of our own; elements that need no row; elements that are read in what is older. -/
set_option linter.unusedVariables false
set_option linter.unusedSimpArgs false
namespace Go.Av
open Go Go.RowKit

section
variable {P : Program} {w0 : World} {σ σ' : Vw} {α : Type}

/-! ### Elements that are read by a reader that is fixed -/
def RB (Rel : (Addr → Option Value) → List Value → α → Prop) (rd0 : Addr → Option Value) (rd : Addr → Option Value) (es : List Value) (x : α) : Prop := Rel rd0 es x
def OB (Rel : (Addr → Option Value) → List Value → α → Prop) (rd0 : Addr → Option Value) (σ : Vw) (F : List Nat) (es : List Value) (x : α) : Prop := F = [] ∧ Rel rd0 es x
/-- What a rule of reading must keep. -/
structure ROk (n : Nat) (Rel : (Addr → Option Value) → List Value → α → Prop) : Prop where
  mono : ∀ rd rd' es x, Le rd rd' → Rel rd es x → Rel rd' es x
  len : ∀ rd es x, Rel rd es x → es.length = n
  one : ∀ rd es x, Rel rd es x → ∀ c, c ∈ es → c.oneCell' = true
theorem ok_base {n : Nat} {Rel : (Addr → Option Value) → List Value → α → Prop} (ok : ROk n Rel) (w0 : World) (rd0 : Addr → Option Value) : OOk w0 n (RB Rel rd0) (OB Rel rd0) := by
  refine ⟨?_, ?_, ?_, ?_, ?_, ?_⟩
  · rintro σ F es x ⟨_, h⟩; exact h
  · rintro σ σ' F es x h _; exact h
  · rintro σ F es x ⟨rfl, _⟩ b hb; cases hb
  · rintro σ F es x ⟨rfl, _⟩; exact List.nodup_nil
  · rintro σ F es x ⟨_, h⟩; exact ok.len _ _ _ h
  · rintro σ F es x ⟨_, h⟩; exact ok.one _ _ _ h
theorem RSl.unbase {n : Nat} {Rel : (Addr → Option Value) → List Value → α → Prop} (ok : ROk n Rel) {rd0 rd : Addr → Option Value} {v : Value} {xs : List α} (h : RSl n (RB Rel rd0) rd v xs) (hle : Le rd0 rd) : RSl n Rel rd v xs :=
  h.imp fun es x hx => ok.mono _ _ _ _ hle hx

/-! ### Elements that need no row -/
/-! ### Growing lists -/
def OAcc (w0 : World) (ety n : Nat) (O : Vw → List Nat → List Value → α → Prop) (σ : Vw) (F : List Nat) (v : Value) (xs : List α) : Prop :=
  xs.length ≤ 9223372036854775807 ∧ F.Nodup ∧ ((v = .slice none 0 0 ∧ xs = [] ∧ F = []) ∨
  ∃ (b cap : Nat) (css : List (List Value)) (Fs : List (List Nat)), v = .slice (some ⟨b, 0, none⟩) xs.length cap ∧ (xs.length ≤ cap ∧ cap ≤ 9223372036854775807) ∧ w0.heap.size ≤ b ∧ σ b = some ⟨ety, css.flatten, cap * n, (0, 0)⟩ ∧
    css.length = xs.length ∧ Fs.length = xs.length ∧ F = b :: Fs.flatten ∧ ∀ (j : Nat) (c : List Value) (x : α) (f : List Nat), css[j]? = some c → xs[j]? = some x → Fs[j]? = some f → O σ f c x)

theorem OAcc.osl {ety n : Nat} {O : Vw → List Nat → List Value → α → Prop} {F : List Nat} {v : Value} {xs : List α} (h : OAcc w0 ety n O σ F v xs) : OSl w0 n O σ F v xs := by
  obtain ⟨h1, h2, h3 | ⟨b, cap, css, Fs, g1, g2, g3, g4, g5, g6, g7, g8⟩⟩ := h
  · exact ⟨h1, h2, .inl h3⟩
  · exact ⟨h1, h2, .inr ⟨b, 0, cap, _, [], [], css, Fs, g1, g2, g3, g4, by simp, rfl, g5, g6, g7, g8⟩⟩
theorem OAcc.frame {ety n : Nat} {Rel : (Addr → Option Value) → List Value → α → Prop} {O : Vw → List Nat → List Value → α → Prop} (ok : OOk w0 n Rel O) {F : List Nat} {v : Value} {xs : List α} (h : OAcc w0 ety n O σ F v xs) (hF : ∀ b, b ∈ F → σ' b = σ b) : OAcc w0 ety n O σ' F v xs := by
  obtain ⟨h1, h2, h3 | ⟨b, cap, css, Fs, g1, g2, g3, g4, g5, g6, g7, g8⟩⟩ := h
  · exact ⟨h1, h2, .inl h3⟩
  · refine ⟨h1, h2, .inr ⟨b, cap, css, Fs, g1, g2, g3, by rw [hF b (by rw [g7]; exact List.mem_cons_self)]; exact g4, g5, g6, g7, fun j c x f e1 e2 e3 => ?_⟩⟩
    refine ok.frame _ _ _ _ _ (g8 j c x f e1 e2 e3) fun i hi => hF i ?_
    rw [g7]
    exact List.mem_cons_of_mem _ (List.mem_flatten.2 ⟨f, List.mem_of_getElem? e3, hi⟩)
theorem OAcc.dom {ety n : Nat} {Rel : (Addr → Option Value) → List Value → α → Prop} {O : Vw → List Nat → List Value → α → Prop} (ok : OOk w0 n Rel O) {F : List Nat} {v : Value} {xs : List α} (h : OAcc w0 ety n O σ F v xs) : ∀ b, b ∈ F → w0.heap.size ≤ b ∧ σ b ≠ none := h.osl.dom ok
theorem OAcc.nil {ety n : Nat} {O : Vw → List Nat → List Value → α → Prop} : OAcc w0 ety n O σ [] (.slice none 0 0) [] := ⟨by simp, by simp, .inl ⟨rfl, rfl, rfl⟩⟩
theorem OAcc.new {ety n b : Nat} {O : Vw → List Nat → List Value → α → Prop} (hb : w0.heap.size ≤ b) : OAcc w0 ety n O (σ.put b ⟨ety, [], 0, (0, 0)⟩) [b] (.slice (some ⟨b, 0, none⟩) 0 0) [] :=
  ⟨by simp, by simp, .inr ⟨b, 0, [], [], rfl, by simp, hb, by rw [put_at]; simp, rfl, rfl, rfl, fun j c x f h => by simp at h⟩⟩

theorem Keeps.but_at {F : List Nat} (h : Keeps σ σ') (hF : ∀ b, b ∈ F → σ b ≠ none) : ∀ b, b ∈ F → σ' b = σ b := fun b hb => by
  cases hs : σ b with
  | none => exact absurd hs (hF b hb)
  | some r => exact h b r hs

/-- Elements are appended, each with rows of its own. -/
theorem OAcc.pushX {ety n bytes m : Nat} {Rel : (Addr → Option Value) → List Value → α → Prop} {O : Vw → List Nat → List Value → α → Prop} (ok : OOk w0 n Rel O) {F : List Nat} {v : Value} {xs ys : List α} {nss : List (List Value)} {Gs : List (List Nat)} {new : List Value}
    (h : OAcc w0 ety n O σ F v xs) (hm : ys.length = m) (hnl : nss.length = m) (hGl : Gs.length = m) (hnew : new = nss.flatten) (hO : ∀ (j : Nat) (c : List Value) (y : α) (g : List Nat), nss[j]? = some c → ys[j]? = some y → Gs[j]? = some g → O σ g c y)
    (hG : Gs.flatten.Nodup) (hGF : ∀ i, i ∈ Gs.flatten → i ∉ F) (hlen : xs.length + m ≤ 1000000000000) (hbytes : bytes ≤ 140) {K : Value → Vw → Prop}
    (hK : ∀ v' F' σ', Ext σ σ' → KeepsBut F σ σ' → OAcc w0 ety n O σ' F' v' (xs ++ ys) → (∀ i, i ∈ F' → i ∈ F ∨ i ∈ Gs.flatten ∨ σ i = none) → K v' σ') : pAppend w0 ety n bytes v m new σ K := by
  have hb47 : (xs.length + m) * bytes ≤ 2 ^ 47 := by
    have h1 : (xs.length + m) * bytes ≤ 1000000000000 * 140 := Nat.mul_le_mul hlen hbytes
    have h2 : (2 : Nat) ^ 47 = 140737488355328 := by decide
    omega
  have hn2 : ∀ c, c ∈ nss → c.length = n := fun c hc => by
    obtain ⟨i, hi⟩ := List.getElem?_of_mem hc
    have hil : i < nss.length := (List.getElem?_eq_some_iff.1 hi).1
    exact ok.len _ _ _ _ (hO i c _ _ hi (List.getElem?_eq_getElem (by omega)) (List.getElem?_eq_getElem (by omega)))
  have hnewl : new.length = m * n := by rw [hnew, flat_len _ hn2, hnl]
  have hGdom : ∀ i, i ∈ Gs.flatten → σ i ≠ none := fun i hi => by
    obtain ⟨j, f, e1, e2⟩ := mem_flat hi
    have hj : j < Gs.length := (List.getElem?_eq_some_iff.1 e1).1
    exact (ok.dom _ _ _ _ (hO j _ _ f (List.getElem?_eq_getElem (by omega)) (List.getElem?_eq_getElem (by omega)) e1) i e2).2
  obtain ⟨h1, h2, ⟨rfl, rfl, rfl⟩ | ⟨b, cap, css, Fs, rfl, g2, g3, g4, g5, g6, g7, g8⟩⟩ := h
  · refine .inr (.inl ⟨0, [], ⟨by simp, .inl ⟨rfl, rfl⟩⟩, hnewl, by simpa using (by omega : m ≤ 9223372036854775807), by simpa using hb47, fun v' σ' hg => ?_⟩)
    rcases hg with ⟨rfl, rfl, _, h0, _⟩ | ⟨b', c', rfl, g1, g2, rfl, g3, g4⟩
    · have : m = 0 := by omega
      subst this
      have hy : ys = [] := List.length_eq_zero_iff.1 hm
      subst hy
      exact hK _ [] _ (Ext.refl _) (KeepsBut.refl _ _) (by simpa using OAcc.nil) (fun i hi => by cases hi)
    · have hb' : σ b' = none := by
        rcases g4 with h | ⟨n0, c0, h⟩
        · exact h
        · cases h
      have hbG : b' ∉ Gs.flatten := fun hi => hGdom b' hi hb'
      refine hK _ (b' :: Gs.flatten) _ (Keeps.put hb').ext (Keeps.put hb').but ?_ fun i hi => ?_
      · refine ⟨by simp; omega, List.nodup_cons.2 ⟨hbG, hG⟩, .inr ⟨b', c', nss, Gs, by simp [hm], by simp [hm]; omega, g3, by rw [put_at]; simp [hnew], by simp [hm, hnl], by simp [hm, hGl], rfl, fun j c x f e1 e2 e3 => ?_⟩⟩
        simp only [List.nil_append] at e2
        refine ok.frame _ _ _ _ _ (hO j c x f e1 e2 e3) fun i hi => ?_
        have : i ≠ b' := fun e => hbG (e ▸ List.mem_flatten.2 ⟨f, List.mem_of_getElem? e3, hi⟩)
        simp [Vw.put, this]
      · rcases List.mem_cons.1 hi with e | e
        · rw [e]; exact .inr (.inr hb')
        · exact .inr (.inl e)
  · have hn1 : ∀ c, c ∈ css → c.length = n := fun c hc => by
      obtain ⟨i, hi⟩ := List.getElem?_of_mem hc
      have hil : i < css.length := (List.getElem?_eq_some_iff.1 hi).1
      exact ok.len _ _ _ _ (g8 i c _ _ hi (List.getElem?_eq_getElem (by omega)) (List.getElem?_eq_getElem (by omega)))
    have g4' := g4
    rw [g7] at h2
    have hbFs : b ∉ Fs.flatten := (List.nodup_cons.1 h2).1
    have hbG : b ∉ Gs.flatten := fun hi => hGF b hi (by rw [g7]; exact List.mem_cons_self)
    have hFsdom : ∀ i, i ∈ Fs.flatten → σ i ≠ none := fun i hi => by
      obtain ⟨j, f, e1, e2⟩ := mem_flat hi
      have hj : j < Fs.length := (List.getElem?_eq_some_iff.1 e1).1
      exact (ok.dom _ _ _ _ (g8 j _ _ f (List.getElem?_eq_getElem (by omega)) (List.getElem?_eq_getElem (by omega)) e1) i e2).2
    refine .inr (.inl ⟨xs.length, css.flatten, ⟨by rw [flat_len _ hn1, g5], .inr ⟨b, cap, rfl, g4, g2.1, g2.2⟩⟩, hnewl, by omega, hb47, fun v' σ' hg => ?_⟩)
    rcases hg with ⟨rfl, rfl, h, _⟩ | ⟨b', c', rfl, k1, k2, rfl, k3, k4⟩
    · cases h
    · have hb' : b' ∉ Fs.flatten ∧ b' ∉ Gs.flatten ∧ (b' = b ∨ σ b' = none) := by
        rcases k4 with h | ⟨n0, c0, h⟩
        · exact ⟨fun hi => hFsdom b' hi h, fun hi => hGdom b' hi h, .inr h⟩
        · cases h; exact ⟨hbFs, hbG, .inl rfl⟩
      refine hK _ (b' :: (Fs ++ Gs).flatten) _ ?_ ?_ ?_ fun i hi => ?_
      · rcases hb'.2.2 with rfl | h
        · intro i r hi
          by_cases e : i = b'
          · subst e
            rw [g4'] at hi; cases hi
            exact ⟨_, put_at, List.prefix_append _ _⟩
          · exact ⟨r, by simp [Vw.put, e, hi], List.prefix_refl _⟩
        · exact (Keeps.put h).ext
      · rcases hb'.2.2 with rfl | h
        · exact KeepsBut.put (by rw [g7]; exact List.mem_cons_self)
        · exact (Keeps.put h).but
      · refine ⟨by simp; omega, ?_, .inr ⟨b', c', css ++ nss, Fs ++ Gs, by simp [hm], by simp [hm]; omega, k3, by rw [put_at, hnew]; simp, by simp [hm, hnl, g5], by simp [hm, hGl, g6], rfl, fun j c x f e1 e2 e3 => ?_⟩⟩
        · rw [List.flatten_append, List.nodup_cons]
          refine ⟨fun hi => ?_, List.nodup_append.2 ⟨(List.nodup_cons.1 h2).2, hG, fun a ha d hd e => hGF d hd (by rw [g7, ← e]; exact List.mem_cons_of_mem _ ha)⟩⟩
          rcases List.mem_append.1 hi with h | h
          · exact hb'.1 h
          · exact hb'.2.1 h
        · have hput : ∀ i, i ≠ b' → (σ.put b' ⟨ety, css.flatten ++ new, c' * n, (0, 0)⟩) i = σ i := fun i hi => by simp [Vw.put, hi]
          by_cases hj : j < xs.length
          · rw [List.getElem?_append_left (by omega)] at e1 e2 e3
            exact ok.frame _ _ _ _ _ (g8 j c x f e1 e2 e3) fun i hi => hput i fun e => hb'.1 (e ▸ List.mem_flatten.2 ⟨f, List.mem_of_getElem? e3, hi⟩)
          · rw [List.getElem?_append_right (by omega)] at e1 e2 e3
            rw [g5] at e1; rw [g6] at e3
            exact ok.frame _ _ _ _ _ (hO _ c x f e1 e2 e3) fun i hi => hput i fun e => hb'.2.1 (e ▸ List.mem_flatten.2 ⟨f, List.mem_of_getElem? e3, hi⟩)
      · rw [g7]
        rcases List.mem_cons.1 hi with e | e
        · rw [e]
          rcases hb'.2.2 with rfl | h
          · exact .inl List.mem_cons_self
          · exact .inr (.inr h)
        · rw [List.flatten_append] at e
          rcases List.mem_append.1 e with h | h
          · exact .inl (List.mem_cons_of_mem _ h)
          · exact .inr (.inl h)

/-- One element is appended. -/
theorem OAcc.oneX {ety n bytes : Nat} {Rel : (Addr → Option Value) → List Value → α → Prop} {O : Vw → List Nat → List Value → α → Prop} (ok : OOk w0 n Rel O) {F f : List Nat} {v : Value} {xs : List α} {y : α} {es : List Value}
    (h : OAcc w0 ety n O σ F v xs) (hy : O σ f es y) (hf : ∀ i, i ∈ f → i ∉ F) (hlen : xs.length + 1 ≤ 1000000000000) (hbytes : bytes ≤ 140) {K : Value → Vw → Prop}
    (hK : ∀ v' F' σ', Ext σ σ' → KeepsBut F σ σ' → OAcc w0 ety n O σ' F' v' (xs ++ [y]) → (∀ i, i ∈ F' → i ∈ F ∨ i ∈ f ∨ σ i = none) → K v' σ') : allOne es ∧ pAppend w0 ety n bytes v 1 es σ K := by
  refine ⟨ok.one _ _ _ _ hy, ?_⟩
  refine h.pushX ok (ys := [y]) (nss := [es]) (Gs := [f]) rfl rfl rfl (by simp) (fun j c z g e1 e2 e3 => ?_) (by simpa using ok.nodup _ _ _ _ hy) (by simpa using hf) hlen hbytes (by simpa using hK)
  cases j with
  | zero => simp at e1 e2 e3; subst e1 e2 e3; exact hy
  | succ j => simp at e1

/-- All elements of a list that is read are appended; they need no rows of their own. -/
theorem OAcc.allX {ety n bytes : Nat} {Rel Rel0 : (Addr → Option Value) → List Value → α → Prop} {O : Vw → List Nat → List Value → α → Prop} (ok : OOk w0 n Rel O) {rd0 : Addr → Option Value} {F : List Nat} {v s : Value} {xs ys : List α}
    (h : OAcc w0 ety n O σ F v xs) (hs : RSl n Rel0 rd0 s ys) (hle : Le rd0 (Av.get w0 σ)) (hO : ∀ es y, Rel0 rd0 es y → O σ [] es y) (hlen : xs.length + ys.length ≤ 1000000000000) (hbytes : bytes ≤ 140) {K : Value → Vw → Prop}
    (hK : ∀ v' F' σ', Ext σ σ' → KeepsBut F σ σ' → OAcc w0 ety n O σ' F' v' (xs ++ ys) → (∀ i, i ∈ F' → i ∈ F ∨ σ i = none) → K v' σ') : pAppendS w0 ety n bytes v s σ K := by
  obtain ⟨A, cap, rfl, hc, hel⟩ := hs
  obtain ⟨css, hcl, hcs⟩ := listOf (fun i (c : List Value) => ∃ a y, A = some a ∧ ys[i]? = some y ∧ c.length = n ∧ (∀ k, k < n → rd0 (a.add (i * n + k)) = c[k]?) ∧ Rel0 rd0 c y) ys.length (fun i hi => by
    obtain ⟨a, es, h1, h2, h3, h4⟩ := hel i _ (List.getElem?_eq_getElem hi)
    exact ⟨es, a, _, h1, List.getElem?_eq_getElem hi, h2, h3, h4⟩)
  have hn : ∀ c, c ∈ css → c.length = n := fun c hc => by
    obtain ⟨i, hi⟩ := List.getElem?_of_mem hc
    obtain ⟨_, _, _, _, h, _⟩ := hcs i c hi
    exact h
  refine ⟨A, ys.length, cap, css.flatten, rfl, by rw [flat_len _ hn, hcl], ?_, ?_, ?_⟩
  · intro c hc
    obtain ⟨es, he, hce⟩ := List.mem_flatten.1 hc
    obtain ⟨i, hi⟩ := List.getElem?_of_mem he
    obtain ⟨a, y, _, _, _, _, hR⟩ := hcs i es hi
    exact ok.one _ _ _ _ (hO _ _ hR) c hce
  · intro j hj
    rw [flat_len _ hn, hcl] at hj
    have hn0 : 0 < n := by
      rcases Nat.eq_zero_or_pos n with e | e
      · subst e; omega
      · exact e
    have hq : j / n < css.length := by rw [hcl]; exact (Nat.div_lt_iff_lt_mul hn0).2 hj
    obtain ⟨a, y, hA, hy, hl, hk, hR⟩ := hcs (j / n) _ (List.getElem?_eq_getElem hq)
    have hr : j % n < n := Nat.mod_lt _ hn0
    have hdm : j / n * n + j % n = j := by rw [Nat.mul_comm]; exact Nat.div_add_mod j n
    refine ⟨a, hA, ?_⟩
    have e1 := flat_get css hn (j / n) _ (List.getElem?_eq_getElem hq) (j % n) hr
    rw [hdm] at e1
    have e2 := hk (j % n) hr
    rw [hdm, ← e1] at e2
    have hj' : j < css.flatten.length := by rw [flat_len _ hn, hcl]; exact hj
    rw [List.getElem?_eq_getElem hj'] at e2
    exact hle _ _ e2
  · refine h.pushX ok (ys := ys) (nss := css) (Gs := List.replicate ys.length []) rfl hcl (by simp) rfl (fun j c y g e1 e2 e3 => ?_) (by simp) (by simp) hlen hbytes (by simpa using hK)
    obtain ⟨a, y', _, hy, _, _, hR⟩ := hcs j c e1
    rw [e2] at hy; cases hy
    rw [List.getElem?_replicate] at e3
    split at e3
    · cases e3; exact hO _ _ hR
    · cases e3

theorem OAcc.one {ety n bytes : Nat} {Rel : (Addr → Option Value) → List Value → α → Prop} {O : Vw → List Nat → List Value → α → Prop} (ok : OOk w0 n Rel O) {F f : List Nat} {v : Value} {xs : List α} {y : α} {es : List Value}
    (h : OAcc w0 ety n O σ F v xs) (hy : O σ f es y) (hf : ∀ i, i ∈ f → i ∉ F) (hlen : xs.length + 1 ≤ 1000000000000) (hbytes : bytes ≤ 140) {K : Value → Vw → Prop}
    (hK : ∀ v' F' σ', KeepsBut F σ σ' → OAcc w0 ety n O σ' F' v' (xs ++ [y]) → (∀ i, i ∈ F' → i ∈ F ∨ i ∈ f ∨ σ i = none) → K v' σ') : allOne es ∧ pAppend w0 ety n bytes v 1 es σ K :=
  OAcc.oneX ok h hy hf hlen hbytes fun v' F' σ' _ => hK v' F' σ'
theorem OAcc.all {ety n bytes : Nat} {Rel Rel0 : (Addr → Option Value) → List Value → α → Prop} {O : Vw → List Nat → List Value → α → Prop} (ok : OOk w0 n Rel O) {rd0 : Addr → Option Value} {F : List Nat} {v s : Value} {xs ys : List α}
    (h : OAcc w0 ety n O σ F v xs) (hs : RSl n Rel0 rd0 s ys) (hle : Le rd0 (Av.get w0 σ)) (hO : ∀ es y, Rel0 rd0 es y → O σ [] es y) (hlen : xs.length + ys.length ≤ 1000000000000) (hbytes : bytes ≤ 140) {K : Value → Vw → Prop}
    (hK : ∀ v' F' σ', KeepsBut F σ σ' → OAcc w0 ety n O σ' F' v' (xs ++ ys) → (∀ i, i ∈ F' → i ∈ F ∨ σ i = none) → K v' σ') : pAppendS w0 ety n bytes v s σ K :=
  OAcc.allX ok h hs hle hO hlen hbytes fun v' F' σ' _ => hK v' F' σ'
end
end Go.Av

/- A part of a list that is read; slices of texts. -/
set_option linter.unusedVariables false
set_option linter.unusedSimpArgs false
namespace Go.Av
open Go Go.RowKit

section
variable {P : Program} {w0 : World} {σ σ' : Vw} {α : Type}

theorem RSl.slice {n : Nat} {R : (Addr → Option Value) → List Value → α → Prop} {rd : Addr → Option Value} {v : Value} {xs : List α} (h : RSl n R rd v xs) {lo hi : Option Value} {l u : Nat} (hl : boundOf 0 lo = some (l : Int)) (hu : boundOf xs.length hi = some (u : Int)) (hlu : l ≤ u) (hux : u ≤ xs.length) {K : Value → Prop}
    (hK : ∀ v', RSl n R rd v' ((xs.take u).drop l) → K v') : pSlice n v lo hi K := by
  obtain ⟨A, cap, rfl, h2, h3⟩ := h
  refine ⟨A, xs.length, cap, l, u, rfl, hl, hu, by omega, by omega, by omega, hK _ ?_⟩
  have hlen : ((xs.take u).drop l).length = u - l := by rw [List.length_drop, List.length_take]; omega
  simp only [Int.toNat_natCast]
  refine ⟨if cap = l then A else Option.map (fun x => x.add (l * n)) A, cap - l, by rw [hlen], by rw [hlen]; omega, fun j x hj => ?_⟩
  rw [List.getElem?_drop] at hj
  have hlt : l + j < u := by
    rcases Nat.lt_or_ge (l + j) u with h | h
    · exact h
    · rw [List.getElem?_eq_none (by rw [List.length_take]; omega)] at hj; cases hj
  rw [List.getElem?_take_of_lt hlt] at hj
  obtain ⟨a, es, rfl, g1, g2, g3⟩ := h3 _ x hj
  refine ⟨a.add (l * n), es, ?_, g1, fun i hi => ?_, g3⟩
  · rw [if_neg (by omega)]; rfl
  · rw [add_add, ← g2 i hi]
    congr 2
    rw [Nat.add_mul]; omega

theorem RSl.atfp {n : Nat} {R : (Addr → Option Value) → List Value → α → Prop} {v : Value} {xs : List α} (h : RSl n R (Av.get w0 σ) v xs) {j : Nat} {x : α} (hj : xs[j]? = some x) (o : Nat) (ho : o < n) {K : Value → (Nat → Value) → Prop} (hK : ∀ (q : Value) (es : List Value) (g : Nat → Value), R (Av.get w0 σ) es x → es[o]? = some (g 0) → K q g) :
    pIndexAddr n v (.int .i64 j) fun p => pField o p fun q => pLoad w0 1 q σ (K q) := by
  obtain ⟨A, cap, rfl, _, h3⟩ := h
  obtain ⟨a, es, rfl, h5, h6, h7⟩ := h3 j x hj
  have hlt : j < xs.length := (List.getElem?_eq_some_iff.1 hj).1
  refine ⟨a, xs.length, cap, .i64, j, rfl, rfl, by omega, by omega, a.add (j * n), rfl, (a.add (j * n)).add o, fun _ => es.getD o undef, rfl, fun i hi => ?_, hK _ es _ h7 ?_⟩
  · have e : i = 0 := by omega
    subst e
    have := h6 o ho
    rw [add_add, add_add, Nat.add_zero, this, List.getElem?_eq_getElem (by omega)]
    simp only [List.getD_eq_getElem?_getD, List.getElem?_eq_getElem (show o < es.length by omega), Option.getD_some]
  · simp only [List.getD_eq_getElem?_getD, List.getElem?_eq_getElem (show o < es.length by omega), Option.getD_some]

end
end Go.Av

/- Rows of our own: cells stored, an element taken out in place, the copy of two lists in any order. -/
set_option linter.unusedVariables false
set_option linter.unusedSimpArgs false
namespace Go.Av
open Go Go.RowKit

section
variable {P : Program} {w0 : World} {σ σ' : Vw} {α γ : Type}

theorem cell_store {b o : Nat} {r : Row} {A c C new : List Value} {K : Vw → Prop} (hr : σ b = some r) (hc : r.cells = A ++ (c ++ C)) (hA : A.length = o) (hl : c.length = new.length)
    (hK : K (σ.put b { r with cells := A ++ (new ++ C) })) : pStore (.pointer (some ⟨b, o, none⟩)) new σ K := by
  refine ⟨b, o, r, rfl, hr, by rw [hc]; simp only [List.length_append]; omega, ?_⟩
  rw [hc, ← hA, setAt_mid A c new C hl]
  exact hK

/-- An element of a list of our own is written, all its cells. -/
theorem OSl.store {n : Nat} {Rel : (Addr → Option Value) → List Value → α → Prop} {O : Vw → List Nat → List Value → α → Prop} (ok : OOk w0 n Rel O) {F : List Nat} {v : Value} {xs : List α} (h : OSl w0 n O σ F v xs) {j : Nat} {x y : α} {new : List Value} (hj : xs[j]? = some x)
    (hO : ∀ f c σ', O σ f c x → O σ' f new y) (hn : new.length = n) {K : Vw → Prop}
    (hK : ∀ σ', KeepsBut F σ σ' → OSl w0 n O σ' F v (xs.set j y) → K σ') : pIndexAddr n v (.int .i64 j) fun p => pStore p new σ K := by
  obtain ⟨b, o, f, c, A, C, r, hix, hb, hr, hc, hA, hOx, hbF, hf, hput⟩ := h.focus ok hj
  refine hix _ ?_
  have hcl := ok.len _ _ _ _ hOx
  refine cell_store hr hc hA (by rw [hcl, hn]) ?_
  exact hK _ (KeepsBut.put hbF) (hput _ new y _ put_at rfl (hO _ _ _ hOx) fun i hi hne _ => by simp [Vw.put, hne])

theorem fresh_in {F F' : List Nat} {σ s : Vw} (k : Keeps σ s) (hF : ∀ i, i ∈ F → σ i = none) (h : ∀ i, i ∈ F' → i ∈ F ∨ s i = none) : ∀ i, i ∈ F' → σ i = none := fun i hi => by
  rcases h i hi with e | e
  · exact hF i e
  · cases hs : σ i with
    | none => rfl
    | some r => rw [k i r hs] at e; cases e
/-! ### An element is taken out, in place -/
def VDel (P : Program) (w0 : World) (T ety n bytes : Nat) (z : List Value) (a0 a1 a2 : Value) (σ : Vw) (R : Value → Vw → Prop) : Prop :=
  pLen a0 (fun v0 => pSlice3 n a0 (some a1) (some a2) (some v0) (fun v1 => pBin P T .eql a1 a2 (fun v2 => pIf v2 (R a0 σ) (pLen a0 (fun v3 => pSlice n a0 none (some a1) (fun v4 => pSlice n a0 (some a2) none (fun v5 => pAppendS w0 ety n bytes v4 v5 σ (fun v6 s7 => pLen v6 (fun v8 => pSlice n v6 (some v8) (some v3) (fun v9 => pClear n z v9 s7 (fun s10 => R v6 s10)))))))))))

theorem del_row {T ety n bytes b off cap j : Nat} {z : List Value} {r : Row} {pre post : List Value} {css : List (List Value)} (hz : z.length = n) (hz1 : ∀ c, c ∈ z → c.oneCell' = true) (hb : w0.heap.size ≤ b) (hr : σ b = some r) (hc : r.cells = pre ++ (css.flatten ++ post)) (hpre : pre.length = off)
    (hn : ∀ c, c ∈ css → c.length = n) (h1 : ∀ c, c ∈ css → ∀ u, u ∈ c → u.oneCell' = true) (hn0 : 0 < n) (hcap : css.length ≤ cap ∧ cap ≤ 9223372036854775807) (hj : j < css.length) {R : Value → Vw → Prop}
    (hR : R (.slice (some ⟨b, off, none⟩) (css.length - 1) cap) (σ.put b { r with cells := pre ++ ((css.take j ++ css.drop (j + 1)).flatten ++ (z ++ post)) })) :
    VDel P w0 T ety n bytes z (.slice (some ⟨b, off, none⟩) css.length cap) (.int .i64 (j : Nat)) (.int .i64 ((j : Int) + 1)) σ R := by
  obtain ⟨m, hm⟩ : ∃ m, css.length = j + 1 + m := ⟨css.length - (j + 1), by omega⟩
  have hcj := List.getElem?_eq_getElem hj
  have htl : ∀ c, c ∈ css.take j → c.length = n := fun c hc => hn c (List.mem_of_mem_take hc)
  have hdl : ∀ c, c ∈ css.drop (j + 1) → c.length = n := fun c hc => hn c (List.mem_of_mem_drop hc)
  have hfl := split_at hcj
  have hcl := hn _ (List.getElem_mem hj)
  have htlen : (css.take j).flatten.length = j * n := by rw [flat_len _ htl, List.length_take, Nat.min_eq_left (by omega)]
  have hdlen : (css.drop (j + 1)).flatten.length = m * n := by rw [flat_len _ hdl, List.length_drop]; congr 1; omega
  unfold VDel
  rw [pLen_s]
  refine ⟨some ⟨b, off, none⟩, css.length, cap, (j : Int), (j : Int) + 1, (css.length : Int), rfl, rfl, rfl, rfl, rfl, rfl, by omega, by omega, by omega, by omega, ?_⟩
  rw [pBin_eq, pIf_d]
  refine ⟨fun h => by omega, fun _ => ?_⟩
  rw [pLen_s]
  refine ⟨some ⟨b, off, none⟩, css.length, cap, 0, (j : Int), rfl, rfl, rfl, by omega, by omega, by omega, ?_⟩
  refine ⟨some ⟨b, off, none⟩, css.length, cap, (j : Int) + 1, (css.length : Int), rfl, rfl, rfl, by omega, by omega, by omega, ?_⟩
  have e0 : (if cap = (0 : Int).toNat then some (Addr.mk b off none) else (some (Addr.mk b off none)).map (·.add ((0 : Int).toNat * n))) = some (Addr.mk b off none) := by
    split
    · rfl
    · simp [Addr.add]
  rw [e0]
  simp only [Int.toNat_natCast, Int.toNat_zero, Nat.sub_zero]
  have ej : ((j : Int) + 1).toNat = j + 1 := by omega
  rw [ej]
  have hcells : r.cells = (pre ++ (css.take j).flatten) ++ ((css[j] ++ (css.drop (j + 1)).flatten) ++ post) := by rw [hc, hfl]; simp
  -- what is moved
  refine ⟨_, css.length - (j + 1), cap - (j + 1), (css.drop (j + 1)).flatten, rfl, by rw [hdlen]; congr 1; omega, fun u hu => ?_, fun i hi => ?_, .inl ⟨b, off, j, cap, r, rfl, hr, by omega, by rw [hdlen]; congr 1; omega, fun u hu => ?_, ?_, ?_⟩⟩
  · obtain ⟨c, hc1, hc2⟩ := List.mem_flatten.1 hu
    exact h1 c (List.mem_of_mem_drop hc1) u hc2
  · have hi' : i < m * n := by rw [← hdlen]; exact hi
    have hcapne : ¬ cap = j + 1 := fun e => by
      have : m = 0 := by omega
      subst this; omega
    refine ⟨_, by rw [if_neg hcapne]; rfl, ?_⟩
    rw [add_add, addr_add, get_row hb hr, hc, ← List.getElem?_eq_getElem hi]
    rw [List.getElem?_append_right (by omega), hpre]
    have e2 : off + ((j + 1) * n + i) - off = (j + 1) * n + i := by omega
    have hlt : (j + 1) * n + i < css.flatten.length := by
      rw [flat_len _ hn, hm, Nat.add_mul (j + 1)]; omega
    rw [e2, List.getElem?_append_left hlt]
    have h3 : css.flatten = (css.take (j + 1)).flatten ++ (css.drop (j + 1)).flatten := by rw [← List.flatten_append, List.take_append_drop]
    have h4 : (css.take (j + 1)).flatten.length = (j + 1) * n := by
      rw [flat_len _ fun c hc => hn c (List.mem_of_mem_take hc), List.length_take, Nat.min_eq_left (by omega)]
    rw [h3, List.getElem?_append_right (by omega), h4]
    congr 1; omega
  · obtain ⟨c, hc1, hc2⟩ := List.mem_flatten.1 hu
    exact h1 c (List.mem_of_mem_drop hc1) u hc2
  · rw [hcells]; simp only [List.length_append]; omega
  · -- the cells behind it
    generalize hDe : (css.drop (j + 1)).flatten = D at *
    generalize hTe : (css.take j).flatten = T' at *
    generalize hce : css[j] = cj at *
    have hB : (cj ++ D).length = n + m * n := by rw [List.length_append, hcl, hdlen]
    have hsplit : cj ++ D = (cj ++ D).take (m * n) ++ (cj ++ D).drop (m * n) := (List.take_append_drop _ _).symm
    have hold : ((cj ++ D).take (m * n)).length = D.length := by rw [List.length_take, hB, hdlen]; omega
    have hlast : ((cj ++ D).drop (m * n)).length = n := by rw [List.length_drop, hB]; omega
    have hset : setAt r.cells (off + j * n) D = (pre ++ T') ++ (D ++ ((cj ++ D).drop (m * n) ++ post)) := by
      have hA : (pre ++ T').length = off + j * n := by rw [List.length_append, hpre, htlen]
      have hcells2 : r.cells = (pre ++ T') ++ ((cj ++ D).take (m * n) ++ ((cj ++ D).drop (m * n) ++ post)) := by
        rw [hcells, ← List.append_assoc ((cj ++ D).take (m * n)), List.take_append_drop]
      rw [hcells2, ← hA, setAt_mid _ _ _ _ hold]
    rw [hset]
    have e3 : j + (css.length - (j + 1)) = css.length - 1 := by omega
    rw [e3, pLen_s]
    refine ⟨some ⟨b, off, none⟩, css.length - 1, cap, ((css.length - 1 : Nat) : Int), (css.length : Int), rfl, rfl, rfl, by omega, by omega, by omega, ?_⟩
    simp only [Int.toNat_natCast]
    have e4 : css.length - (css.length - 1) = 1 := by omega
    have hcapne : ¬ cap = css.length - 1 := by omega
    rw [e4, if_neg hcapne]
    refine ⟨hz, hz1, _, 1, cap - (css.length - 1), rfl, .inr ⟨b, off + (css.length - 1) * n, _, by simp [addr_add], by omega, put_at, ?_, ?_⟩⟩
    · simp only [List.length_append, hpre, htlen, hdlen, hlast]
      have : (css.length - 1) * n = j * n + m * n := by rw [← Nat.add_mul]; congr 1; omega
      omega
    · have e5 : (List.replicate 1 z).flatten = z := by simp
      have hA2 : (pre ++ T' ++ D).length = off + (css.length - 1) * n := by
        simp only [List.length_append, hpre, htlen, hdlen]
        have : (css.length - 1) * n = j * n + m * n := by rw [← Nat.add_mul]; congr 1; omega
        omega
      simp only
      rw [e5]
      have e6 : (pre ++ T') ++ (D ++ ((cj ++ D).drop (m * n) ++ post)) = (pre ++ T' ++ D) ++ ((cj ++ D).drop (m * n) ++ post) := by simp
      rw [e6, ← hA2, setAt_mid _ _ _ _ (by rw [hlast, hz]), put_put]
      have e7 : (pre ++ T' ++ D) ++ (z ++ post) = pre ++ ((css.take j ++ css.drop (j + 1)).flatten ++ (z ++ post)) := by
        rw [List.flatten_append, hTe, hDe]; simp
      rw [e7]
      exact hR

/-- An element of a list of our own is taken out: what is read then. -/
theorem OSl.del {T ety n bytes j : Nat} {z : List Value} {Rel : (Addr → Option Value) → List Value → α → Prop} {O : Vw → List Nat → List Value → α → Prop} (ok : OOk w0 n Rel O) (hO : ∀ s s' f es y, O s f es y → f = [] ∧ O s' f es y) (hz : z.length = n) (hz1 : ∀ c, c ∈ z → c.oneCell' = true) (hn0 : 0 < n) {F : List Nat} {v : Value} {xs : List α}
    (h : OSl w0 n O σ F v xs) (hj : j < xs.length) {R : Value → Vw → Prop} (hR : ∀ v' σ', KeepsBut F σ σ' → RSl n Rel (Av.get w0 σ') v' (xs.take j ++ xs.drop (j + 1)) → R v' σ') : VDel P w0 T ety n bytes z v (.int .i64 (j : Nat)) (.int .i64 ((j : Int) + 1)) σ R := by
  obtain ⟨g1, g2, ⟨rfl, rfl, _⟩ | ⟨b, off, cap, r, pre, post, css, Fs, rfl, gc, g3, g4, g5, g6, g7, g8, g9, g10⟩⟩ := h
  · simp at hj
  · have each : ∀ (i : Nat) (c : List Value), css[i]? = some c → ∃ x f, xs[i]? = some x ∧ O σ f c x := fun i c hi => by
      have hlt : i < css.length := (List.getElem?_eq_some_iff.1 hi).1
      exact ⟨_, _, List.getElem?_eq_getElem (by omega), g10 i c _ _ hi (List.getElem?_eq_getElem (by omega)) (List.getElem?_eq_getElem (by omega))⟩
    have hn : ∀ c, c ∈ css → c.length = n := fun c hc => by obtain ⟨i, hi⟩ := List.getElem?_of_mem hc; obtain ⟨x, f, _, ho⟩ := each i c hi; exact ok.len _ _ _ _ ho
    have h1 : ∀ c, c ∈ css → ∀ u, u ∈ c → u.oneCell' = true := fun c hc => by obtain ⟨i, hi⟩ := List.getElem?_of_mem hc; obtain ⟨x, f, _, ho⟩ := each i c hi; exact ok.one _ _ _ _ ho
    rw [← g7]
    refine del_row hz hz1 g3 g4 g5 g6 hn h1 hn0 (by rw [g7]; exact gc) (by omega) (hR _ _ (KeepsBut.put (by rw [g9]; exact List.mem_cons_self)) ?_)
    have hlen : (xs.take j ++ xs.drop (j + 1)).length = css.length - 1 := by simp only [List.length_append, List.length_take, List.length_drop]; omega
    refine ⟨_, cap, by rw [hlen], by rw [hlen]; omega, fun i x hi => ?_⟩
    -- the cells of the element
    have hget : ∃ c f, (css.take j ++ css.drop (j + 1))[i]? = some c ∧ O σ f c x := by
      by_cases hij : i < j
      · rw [List.getElem?_append_left (by rw [List.length_take]; omega), List.getElem?_take_of_lt hij] at hi
        refine ⟨css[i]'(by omega), _, ?_, g10 i _ x _ (List.getElem?_eq_getElem (by omega)) hi (List.getElem?_eq_getElem (by omega))⟩
        rw [List.getElem?_append_left (by rw [List.length_take]; omega), List.getElem?_take_of_lt hij]
        exact List.getElem?_eq_getElem (by omega)
      · rw [List.getElem?_append_right (by rw [List.length_take]; omega), List.getElem?_drop, List.length_take, Nat.min_eq_left (by omega)] at hi
        have hlt : j + 1 + (i - j) < xs.length := (List.getElem?_eq_some_iff.1 hi).1
        refine ⟨css[j + 1 + (i - j)]'(by omega), _, ?_, g10 _ _ x _ (List.getElem?_eq_getElem (by omega)) hi (List.getElem?_eq_getElem (by omega))⟩
        rw [List.getElem?_append_right (by rw [List.length_take]; omega), List.getElem?_drop, List.length_take, Nat.min_eq_left (by omega)]
        exact List.getElem?_eq_getElem (by omega)
    obtain ⟨c, f, hci, ho⟩ := hget
    have hn' : ∀ c, c ∈ css.take j ++ css.drop (j + 1) → c.length = n := fun c hc => by
      rcases List.mem_append.1 hc with h | h
      · exact hn c (List.mem_of_mem_take h)
      · exact hn c (List.mem_of_mem_drop h)
    obtain ⟨rfl, ho'⟩ := hO σ (σ.put b { r with cells := pre ++ ((css.take j ++ css.drop (j + 1)).flatten ++ (z ++ post)) }) f c x ho
    refine ⟨_, c, rfl, ok.len _ _ _ _ ho, fun k hk => ?_, ok.rel _ _ _ _ ho'⟩
    rw [addr_add, get_row g3 put_at]
    simp only
    rw [List.getElem?_append_right (by omega), show off + (i * n + k) - pre.length = i * n + k by omega, List.getElem?_append_left, flat_get _ hn' i c hci k hk]
    have hil : i < (css.take j ++ css.drop (j + 1)).length := (List.getElem?_eq_some_iff.1 hci).1
    rw [flat_len _ hn']
    calc i * n + k < i * n + n := by omega
      _ = (i + 1) * n := by rw [Nat.add_mul, Nat.one_mul]
      _ ≤ (css.take j ++ css.drop (j + 1)).length * n := Nat.mul_le_mul_right n hil
end
end Go.Av

/- What each function owes, reckoned out. MADE BY PROGRAM (emit.py). -/
set_option linter.unusedVariables false
namespace Go.Proofs.YtkbhjejalkbogaaGreat
open Go Go.Av

abbrev t_int : Nat := 3
abbrev t_uint8 : Nat := 5
abbrev t_string : Nat := 9
abbrev t_s_uint8 : Nat := 22
abbrev t_s_string : Nat := 23
abbrev t_impl_Tree : Nat := 26
abbrev t_impl_Mark : Nat := 31
abbrev t_p_impl_Tree : Nat := 73
abbrev n_laws_FnTrailAdd : Nat := 5
abbrev n_spec_DrawTrailAdd : Nat := 8
abbrev n_impl_TrailAdd : Nat := 13
abbrev n_laws_wuMarks : Nat := 26
abbrev n_spec_TrailAdd : Nat := 27
abbrev n_impl_TrailOk : Nat := 28
abbrev n_spec_TrailOk : Nat := 29
abbrev n_spec_DrawTrailOf : Nat := 30
abbrev n_impl_TrailOf : Nat := 31
abbrev n_spec_TrailOf : Nat := 32
abbrev n_laws_wuMarked : Nat := 33
abbrev n_spec_l1Open : Nat := 38
abbrev n_spec_l4Tree : Nat := 39
abbrev n_spec_l13Any : Nat := 40
abbrev n_spec_l13Mark : Nat := 41
abbrev n_impl_TreeOk : Nat := 42
abbrev n_spec_TreeOk : Nat := 44
abbrev n_laws_wtTexts : Nat := 46
abbrev n_impl_markOk : Nat := 48
abbrev n_impl_cloneMarks : Nat := 49
abbrev n_impl_add : Nat := 50
abbrev n_spec_l11Copy : Nat := 66
abbrev n_spec_l11MarkOk : Nat := 67
abbrev n_spec_l11Put : Nat := 68
abbrev n_spec_l11Coarser : Nat := 69
abbrev n_slices_Compare_string_string : Nat := 70
abbrev n_impl_under : Nat := 71
abbrev n_spec_l11Less : Nat := 72
abbrev n_spec_l2Within : Nat := 73
abbrev n_spec_DrawTreeDo : Nat := 74
abbrev n_impl_Tree_marksOf : Nat := 75
abbrev n_spec_l2CallOk : Nat := 76
abbrev n_spec_l1At : Nat := 77
abbrev n_laws_wtHead : Nat := 78
abbrev n_p_impl_Tree_at : Nat := 80
abbrev n_p_spec_l1Rd_pick : Nat := 83
abbrev n_spec_l4Spoil : Nat := 84
abbrev n_spec_l4Path : Nat := 86
abbrev n_spec_l4Data : Nat := 87
abbrev n_spec_TreeDo : Nat := 88
abbrev n_spec_l4Calls : Nat := 89
abbrev n_spec_l13Trail : Nat := 90
abbrev n_spec_l13Spoil : Nat := 91
abbrev n_p_spec_l1Rd_of : Nat := 92
abbrev n_impl_Tree_sound : Nat := 93
abbrev n_impl_Tree_paths : Nat := 94
abbrev n_impl_marked : Nat := 97
abbrev n_p_impl_Tree_kid : Nat := 102
abbrev n_spec_l1Parts : Nat := 103
abbrev n_spec_l1Count : Nat := 104
abbrev n_spec_l11Under : Nat := 107
abbrev n_spec_l11Marked : Nat := 109
abbrev n_impl_namesOk : Nat := 115
abbrev n_impl_begins : Nat := 116
abbrev n_slices_SortFunc_impl_Mark_impl_Mark : Nat := 117
abbrev n_impl_add_c1 : Nat := 118
abbrev n_slices_Delete_impl_Mark_impl_Mark : Nat := 119
abbrev n_spec_l2PathOk : Nat := 120
abbrev n_cmp_Compare_string : Nat := 121
abbrev n_spec_l4Any : Nat := 122
abbrev n_spec_l4Call : Nat := 123
abbrev n_impl_Call_isCall : Nat := 124
abbrev n_spec_l1In : Nat := 125
abbrev n_spec_l1Find : Nat := 126
abbrev n_spec_l1Copy : Nat := 127
abbrev n_spec_l1Many : Nat := 128
abbrev n_spec_l1Dec : Nat := 129
abbrev n_spec_l4Name : Nat := 131
abbrev n_spec_l2Do : Nat := 132
abbrev n_impl_modeOk : Nat := 133
abbrev n_impl_nameOk : Nat := 134
abbrev n_slices_ContainsFunc_impl_Mark_impl_Mark : Nat := 137
abbrev n_impl_marked_c1 : Nat := 138
abbrev n_slices_Equal_string_string : Nat := 139
abbrev n_slices_Index_string_string : Nat := 142
abbrev n_spec_l1Plain : Nat := 143
abbrev n_spec_l11Same : Nat := 144
abbrev n_impl_within : Nat := 145
abbrev n_slices_pdqsortCmpFunc_impl_Mark : Nat := 146
abbrev n_math_bits_Len : Nat := 147
abbrev n_spec_l1NameOk : Nat := 148
abbrev n_cmp_isNaN_string : Nat := 149
abbrev n_spec_l4Full : Nat := 150
abbrev n_spec_l2Parent : Nat := 151
abbrev n_spec_l2Fits : Nat := 152
abbrev n_spec_l2Set : Nat := 153
abbrev n_spec_l2File : Nat := 154
abbrev n_spec_l2Rename : Nat := 155
abbrev n_slices_IndexFunc_impl_Mark_impl_Mark : Nat := 156
abbrev n_slices_insertionSortCmpFunc_impl_Mark : Nat := 158
abbrev n_slices_heapSortCmpFunc_impl_Mark : Nat := 159
abbrev n_slices_breakPatternsCmpFunc_impl_Mark : Nat := 160
abbrev n_slices_choosePivotCmpFunc_impl_Mark : Nat := 161
abbrev n_slices_reverseRangeCmpFunc_impl_Mark : Nat := 162
abbrev n_slices_partialInsertionSortCmpFunc_impl_Mark : Nat := 163
abbrev n_slices_partitionEqualCmpFunc_impl_Mark : Nat := 164
abbrev n_slices_partitionCmpFunc_impl_Mark : Nat := 165
abbrev n_math_bits_Len64 : Nat := 167
abbrev n_spec_l2Write : Nat := 168
abbrev n_slices_nextPowerOfTwo : Nat := 179
abbrev n_p_slices_xorshift_Next : Nat := 180
theorem is_math_bits_Len64 : ∃ fn, Tryz.prog.funcs[n_math_bits_Len64]? = some fn ∧ (fn.name == "runtime.NumGoroutine") = false ∧ fn.body.isNone = false := ⟨Tryz.f167, Tryz.func167, by kernel_rfl, by kernel_rfl⟩
end Go.Proofs.YtkbhjejalkbogaaGreat

/- What each function owes, reckoned out, part 1. MADE BY PROGRAM (emit.py). -/
set_option linter.unusedVariables false
namespace Go.Proofs.YtkbhjejalkbogaaGreat
open Go.Av renaming vget → G, cellOf → C, pVal → V, pBin → B, pIndexAddr → X, pLoad → L, pField → F, pIf → Q, pExtract → E, pAppend → A, pLen → N, pNew → W
open Go.Proofs.Tryz renaming prog → P
open Go Go.Av

/-- laws.FnTrailMore -/
def kp_laws_FnTrailMore : Nat → Keep
  | _ => ⟨[], [], [], .done, []⟩
/-- laws.FnTrailAdd -/
def kp_laws_FnTrailAdd : Nat → Keep
  | 8 => ⟨[], [], [], .step 0 (.step 1 (.step 3 (.step 4 (.step 2 (.step 5 (.step 6 (.step 7 (.done)))))))), [(2, [0, 1]), (5, [0, 1, 2, 3, 4]), (6, [0, 1, 2, 3, 4, 5]), (7, [0, 1, 2, 3, 4, 5, 6])]⟩
  | 13 => ⟨[4, 5, 7, 10], [(6, 2)], [6], .done, []⟩
  | _ => ⟨[], [], [], .done, []⟩
def esc_laws_FnTrailAdd : Nat → Bool
  | 75 => true
  | _ => false
def vc_laws_FnTrailAdd (w0 : World) (a0 a1 : Value) (σ : Vw) (R : Value → Vw → Prop) : Prop :=
  N a0 fun v0 => B P 3 .gtr v0 (.int .i64 1048576) fun v1 => Q v1 (R (.bool true) σ) (N a1 fun v2 => B P 3 .gtr v2 (.int .i64 1048576) fun v3 => Q v3 (R (.bool true) σ) (AC P w0 n_spec_DrawTrailAdd [a0] σ fun v4 s5 => E v4 0 fun v6 => E v4 1 fun v7 => V true 2 v7 (AC P w0 n_impl_TrailAdd ([v6, .agg (⟨[C v7 0, C v7 1]⟩)]) s5 fun v8 s9 => AC P w0 n_spec_TrailAdd ([v6, .agg (⟨[C v7 0, C v7 1]⟩)]) s9 fun v10 s11 => AC P w0 n_laws_wuMarks [v8, v10] s11 fun v12 s13 => pUn .not v12 fun v14 => Q v14 (R (.bool false) s13) (AC P w0 n_impl_TrailOk [v6] s13 fun v15 s16 => AC P w0 n_spec_TrailOk [v6] s16 fun v17 s18 => B P 4 .neq v15 v17 fun v19 => Q v19 (R (.bool false) s18) (AC P w0 n_spec_DrawTrailOf [a1] s18 fun v20 s21 => E v20 0 fun v22 => E v20 1 fun v23 => V true 5 v22 (V true 5 v23 (AC P w0 n_impl_TrailOf ([.agg (⟨[C v22 0, C v22 1, C v22 2, C v22 3, C v22 4]⟩), .agg (⟨[C v23 0, C v23 1, C v23 2, C v23 3, C v23 4]⟩)]) s21 fun v24 s25 => AC P w0 n_spec_TrailOf ([.agg (⟨[C v22 0, C v22 1, C v22 2, C v22 3, C v22 4]⟩), .agg (⟨[C v23 0, C v23 1, C v23 2, C v23 3, C v23 4]⟩)]) s25 fun v26 s27 => AC P w0 n_laws_wuMarks [v24, v26] s27 fun v28 s29 => pUn .not v28 fun v30 => Q v30 (R (.bool false) s29) (AC P w0 n_spec_TrailOk [v6] s29 fun v31 s32 => pUn .not v31 fun v33 => Q v33 (N v8 fun v34 => B P 3 .eql v34 (.int .i64 0) fun v35 => R v35 s32) (pLoop (fun l36 K37 s38 => N (G l36 1) fun v39 => B P 3 .lss (G l36 3) v39 fun v40 => Q v40 (X 2 (G l36 1) (G l36 3) fun v41 => F 0 v41 fun v42 => L w0 1 v42 s38 fun g43 => AC P w0 n_laws_wuMarked [G l36 2, g43 0] s38 fun v44 s45 => pUn .not v44 fun v46 => Q v46 (K37 .ret [.bool false, G l36 1, G l36 2, G l36 3, G l36 4, G l36 5] s45) (B P 3 .add (G l36 3) (.int .i64 1) fun v47 => K37 .normal [G l36 0, G l36 1, G l36 2, v47, G l36 4, G l36 5] s45)) (K37 (.exit 0) [G l36 0, G l36 1, G l36 2, G l36 3, G l36 4, G l36 5] s38)) [.bool false, v6, v8, .int .i64 0, C v7 0, C v7 1] s32 fun x48 l49 s50 => match x48 with | .normal => V true 2 (.agg (⟨[G l49 4, G l49 5]⟩)) (W w0 31 [G l49 4, G l49 5] s50 fun n51 s52 => AC P w0 n_spec_TrailOk [.slice (some (Addr.mk n51 0 none)) 1 1] s52 fun v53 s54 => AC P w0 n_impl_TrailOk [G l49 2] s54 fun v55 s56 => Q v55 (pUn .not v53 fun v57 => Q v57 (AC P w0 n_impl_TrailAdd ([G l49 2, .agg (⟨[G l49 4, G l49 5]⟩)]) s56 fun v58 s59 => AC P w0 n_laws_wuMarks [v58, G l49 2] s59 fun v60 s61 => R v60 s61) (AC P w0 n_laws_wuMarked [G l49 2, G l49 4] s56 fun v62 s63 => Q v62 (AC P w0 n_impl_TrailAdd ([G l49 2, .agg (⟨[G l49 4, G l49 5]⟩)]) s63 fun v64 s65 => AC P w0 n_laws_wuMarks [v64, G l49 2] s65 fun v66 s67 => R v66 s67) (R (.bool false) s63))) (R (.bool false) s56)) | .ret => R (G l49 0) s50 | .exit i68 => (match Nat.beq i68 0 with | true => V true 2 (.agg (⟨[G l49 4, G l49 5]⟩)) (W w0 31 [G l49 4, G l49 5] s50 fun n69 s70 => AC P w0 n_spec_TrailOk [.slice (some (Addr.mk n69 0 none)) 1 1] s70 fun v71 s72 => AC P w0 n_impl_TrailOk [G l49 2] s72 fun v73 s74 => Q v73 (pUn .not v71 fun v75 => Q v75 (AC P w0 n_impl_TrailAdd ([G l49 2, .agg (⟨[G l49 4, G l49 5]⟩)]) s74 fun v76 s77 => AC P w0 n_laws_wuMarks [v76, G l49 2] s77 fun v78 s79 => R v78 s79) (AC P w0 n_laws_wuMarked [G l49 2, G l49 4] s74 fun v80 s81 => Q v80 (AC P w0 n_impl_TrailAdd ([G l49 2, .agg (⟨[G l49 4, G l49 5]⟩)]) s81 fun v82 s83 => AC P w0 n_laws_wuMarks [v82, G l49 2] s83 fun v84 s85 => R v84 s85) (R (.bool false) s81))) (R (.bool false) s74)) | false => False))))))))))
theorem vc_laws_FnTrailAdd_eq (w0 : World) (a0 a1 : Value) (σ : Vw) (R : Value → Vw → Prop) : vc_laws_FnTrailAdd w0 a0 a1 σ R = den Tryz.prog w0 kp_laws_FnTrailAdd esc_laws_FnTrailAdd (Tryz.f5.body.getD .skip) (entry Tryz.f5.ntmps [a0, a1]) σ (retK Tryz.prog Tryz.f5.results.toList R) := by kernel_rfl
theorem ac_laws_FnTrailAdd {w0 : World} {a0 a1 : Value} {σ : Vw} {R : Value → Vw → Prop} (h : vc_laws_FnTrailAdd w0 a0 a1 σ R) : AC Tryz.prog w0 n_laws_FnTrailAdd [a0, a1] σ R := by
  refine ac_rule (fn := Tryz.f5) (c := Tryz.f5.body.getD .skip) kp_laws_FnTrailAdd esc_laws_FnTrailAdd Tryz.func5 (by kernel_rfl) (by kernel_rfl) ?_
  rw [← vc_laws_FnTrailAdd_eq]
  exact h

/-- spec.DrawTrailAdd -/
def kp_spec_DrawTrailAdd : Nat → Keep
  | 3 => ⟨[], [], [], .step 0 (.step 1 (.step 3 (.step 4 (.step 2 (.step 5 (.step 6 (.step 7 (.done)))))))), [(2, [0, 1]), (5, [0, 1, 2, 3, 4]), (6, [0, 1, 2, 3, 4, 5]), (7, [0, 1, 2, 3, 4, 5, 6])]⟩
  | _ => ⟨[], [], [], .done, []⟩
def esc_spec_DrawTrailAdd : Nat → Bool
  | _ => false
def vc_spec_DrawTrailAdd (w0 : World) (a0 : Value) (σ : Vw) (R : Value → Vw → Prop) : Prop :=
  AC P w0 n_spec_l1Open [a0] σ fun v0 s1 => AC P w0 n_spec_l4Tree [v0] s1 fun v2 s3 => V true 5 v2 (AC P w0 n_spec_l13Any ([v0, .agg (⟨[C v2 0, C v2 1, C v2 2, C v2 3, C v2 4]⟩)]) s3 fun v4 s5 => AC P w0 n_spec_l13Mark ([v0, .agg (⟨[C v2 0, C v2 1, C v2 2, C v2 3, C v2 4]⟩)]) s5 fun v6 s7 => V true 2 v6 (R (.tuple (⟨[v4, .agg (⟨[C v6 0, C v6 1]⟩)]⟩)) s7))
theorem vc_spec_DrawTrailAdd_eq (w0 : World) (a0 : Value) (σ : Vw) (R : Value → Vw → Prop) : vc_spec_DrawTrailAdd w0 a0 σ R = den Tryz.prog w0 kp_spec_DrawTrailAdd esc_spec_DrawTrailAdd (Tryz.f8.body.getD .skip) (entry Tryz.f8.ntmps [a0]) σ (retK Tryz.prog Tryz.f8.results.toList R) := by kernel_rfl
theorem ac_spec_DrawTrailAdd {w0 : World} {a0 : Value} {σ : Vw} {R : Value → Vw → Prop} (h : vc_spec_DrawTrailAdd w0 a0 σ R) : AC Tryz.prog w0 n_spec_DrawTrailAdd [a0] σ R := by
  refine ac_rule (fn := Tryz.f8) (c := Tryz.f8.body.getD .skip) kp_spec_DrawTrailAdd esc_spec_DrawTrailAdd Tryz.func8 (by kernel_rfl) (by kernel_rfl) ?_
  rw [← vc_spec_DrawTrailAdd_eq]
  exact h

/-- laws.wtEntries -/
def kp_laws_wtEntries : Nat → Keep
  | 4 => ⟨[0, 1, 4, 5], [], [], .done, []⟩
  | 6 => ⟨[], [], [], .step 0 (.step 1 (.step 2 (.step 3 (.step 4 (.step 5 (.step 6 (.step 7 (.step 8 (.step 9 (.step 10 (.step 11 (.step 12 (.step 13 (.step 14 (.step 15 (.step 16 (.step 17 (.step 18 (.step 19 (.step 20 (.step 21 (.step 22 (.step 23 (.step 24 (.step 25 (.step 26 (.step 27 (.step 28 (.step 29 (.step 30 (.step 31 (.step 32 (.step 33 (.step 34 (.step 35 (.step 36 (.step 37 (.step 38 (.step 39 (.step 40 (.step 41 (.step 42 (.step 43 (.step 44 (.step 45 (.step 46 (.step 47 (.step 48 (.step 49 (.step 50 (.step 51 (.step 52 (.step 53 (.step 54 (.step 55 (.step 56 (.step 57 (.step 58 (.step 59 (.step 60 (.step 61 (.step 62 (.step 63 (.done)))))))))))))))))))))))))))))))))))))))))))))))))))))))))))))))), [(2, [0, 1]), (3, [0, 1, 2]), (4, [0, 1, 2, 3]), (7, [5, 6]), (8, [5, 6, 7]), (9, [5, 6, 7, 8]), (10, [0, 1, 2, 3, 4, 5, 6, 7, 8, 9]), (11, [0, 1, 2, 3, 4, 5, 6, 7, 8, 9, 10]), (12, [0, 1, 2, 3, 4, 5, 6, 7, 8, 9, 10, 11]), (13, [0, 1, 2, 3, 4, 5, 6, 7, 8, 9, 10, 11, 12]), (14, [0, 1, 2, 3, 4, 5, 6, 7, 8, 9, 10, 11, 12]), (15, [0, 1, 2, 3, 4, 5, 6, 7, 8, 9, 10, 11, 12, 13, 14]), (16, [0, 1, 2, 3, 4, 5, 6, 7, 8, 9, 10, 11, 12, 13, 14, 15]), (17, [0, 1, 2, 3, 4, 5, 6, 7, 8, 9, 10, 11, 12, 13, 14, 15, 16]), (18, [0, 1, 2, 3, 4, 5, 6, 7, 8, 9, 10, 11, 12]), (19, [0, 1, 2, 3, 4, 5, 6, 7, 8, 9, 10, 11, 12]), (20, [0, 1, 2, 3, 4, 5, 6, 7, 8, 9, 10, 11, 12, 18, 19]), (21, [0, 1, 2, 3, 4, 5, 6, 7, 8, 9, 10, 11, 12, 18, 19, 20]), (22, [0, 1, 2, 3, 4, 5, 6, 7, 8, 9, 10, 11, 12, 18, 19, 20, 21]), (23, [0, 1, 2, 3, 4, 5, 6, 7, 8, 9, 10, 11, 12, 13, 14, 15, 16, 17, 18, 19, 20, 21, 22]), (24, [0, 1, 2, 3, 4, 5, 6, 7, 8, 9, 10, 11, 12, 13, 14, 15, 16, 17, 18, 19, 20, 21, 22, 23]), (25, [0, 1, 2, 3, 4, 5, 6, 7, 8, 9, 10, 11, 12, 13, 14, 15, 16, 17, 18, 19, 20, 21, 22, 23, 24]), (26, [0, 1, 2, 3, 4, 5, 6, 7, 8, 9, 10, 11, 12, 13, 14, 15, 16, 17, 18, 19, 20, 21, 22, 23, 24, 25]), (27, [0, 1, 2, 3, 4, 5, 6, 7, 8, 9, 10, 11, 12, 13, 14, 15, 16, 17, 18, 19, 20, 21, 22, 23, 24, 25]), (28, [0, 1, 2, 3, 4, 5, 6, 7, 8, 9, 10, 11, 12, 13, 14, 15, 16, 17, 18, 19, 20, 21, 22, 23, 24, 25, 26, 27]), (29, [0, 1, 2, 3, 4, 5, 6, 7, 8, 9, 10, 11, 12, 13, 14, 15, 16, 17, 18, 19, 20, 21, 22, 23, 24, 25, 26, 27, 28]), (30, [0, 1, 2, 3, 4, 5, 6, 7, 8, 9, 10, 11, 12, 13, 14, 15, 16, 17, 18, 19, 20, 21, 22, 23, 24, 25, 26, 27, 28, 29]), (31, [0, 1, 2, 3, 4, 5, 6, 7, 8, 9, 10, 11, 12, 13, 14, 15, 16, 17, 18, 19, 20, 21, 22, 23, 24, 25]), (32, [0, 1, 2, 3, 4, 5, 6, 7, 8, 9, 10, 11, 12, 13, 14, 15, 16, 17, 18, 19, 20, 21, 22, 23, 24, 25]), (33, [0, 1, 2, 3, 4, 5, 6, 7, 8, 9, 10, 11, 12, 13, 14, 15, 16, 17, 18, 19, 20, 21, 22, 23, 24, 25, 31, 32]), (34, [0, 1, 2, 3, 4, 5, 6, 7, 8, 9, 10, 11, 12, 13, 14, 15, 16, 17, 18, 19, 20, 21, 22, 23, 24, 25, 31, 32, 33]), (35, [0, 1, 2, 3, 4, 5, 6, 7, 8, 9, 10, 11, 12, 13, 14, 15, 16, 17, 18, 19, 20, 21, 22, 23, 24, 25, 31, 32, 33, 34]), (36, [0, 1, 2, 3, 4, 5, 6, 7, 8, 9, 10, 11, 12, 13, 14, 15, 16, 17, 18, 19, 20, 21, 22, 23, 24, 25, 26, 27, 28, 29, 30, 31, 32, 33, 34, 35]), (37, [0, 1, 2, 3, 4, 5, 6, 7, 8, 9, 10, 11, 12, 13, 14, 15, 16, 17, 18, 19, 20, 21, 22, 23, 24, 25, 26, 27, 28, 29, 30, 31, 32, 33, 34, 35, 36]), (38, [0, 1, 2, 3, 4, 5, 6, 7, 8, 9, 10, 11, 12, 13, 14, 15, 16, 17, 18, 19, 20, 21, 22, 23, 24, 25, 26, 27, 28, 29, 30, 31, 32, 33, 34, 35, 36, 37]), (39, [0, 1, 2, 3, 4, 5, 6, 7, 8, 9, 10, 11, 12, 13, 14, 15, 16, 17, 18, 19, 20, 21, 22, 23, 24, 25, 26, 27, 28, 29, 30, 31, 32, 33, 34, 35, 36, 37, 38]), (40, [0, 1, 2, 3, 4, 5, 6, 7, 8, 9, 10, 11, 12, 13, 14, 15, 16, 17, 18, 19, 20, 21, 22, 23, 24, 25, 26, 27, 28, 29, 30, 31, 32, 33, 34, 35, 36, 37, 38]), (41, [0, 1, 2, 3, 4, 5, 6, 7, 8, 9, 10, 11, 12, 13, 14, 15, 16, 17, 18, 19, 20, 21, 22, 23, 24, 25, 26, 27, 28, 29, 30, 31, 32, 33, 34, 35, 36, 37, 38, 39, 40]), (42, [0, 1, 2, 3, 4, 5, 6, 7, 8, 9, 10, 11, 12, 13, 14, 15, 16, 17, 18, 19, 20, 21, 22, 23, 24, 25, 26, 27, 28, 29, 30, 31, 32, 33, 34, 35, 36, 37, 38, 39, 40, 41]), (43, [0, 1, 2, 3, 4, 5, 6, 7, 8, 9, 10, 11, 12, 13, 14, 15, 16, 17, 18, 19, 20, 21, 22, 23, 24, 25, 26, 27, 28, 29, 30, 31, 32, 33, 34, 35, 36, 37, 38, 39, 40, 41, 42]), (44, [0, 1, 2, 3, 4, 5, 6, 7, 8, 9, 10, 11, 12, 13, 14, 15, 16, 17, 18, 19, 20, 21, 22, 23, 24, 25, 26, 27, 28, 29, 30, 31, 32, 33, 34, 35, 36, 37, 38]), (45, [0, 1, 2, 3, 4, 5, 6, 7, 8, 9, 10, 11, 12, 13, 14, 15, 16, 17, 18, 19, 20, 21, 22, 23, 24, 25, 26, 27, 28, 29, 30, 31, 32, 33, 34, 35, 36, 37, 38]), (46, [0, 1, 2, 3, 4, 5, 6, 7, 8, 9, 10, 11, 12, 13, 14, 15, 16, 17, 18, 19, 20, 21, 22, 23, 24, 25, 26, 27, 28, 29, 30, 31, 32, 33, 34, 35, 36, 37, 38, 44, 45]), (47, [0, 1, 2, 3, 4, 5, 6, 7, 8, 9, 10, 11, 12, 13, 14, 15, 16, 17, 18, 19, 20, 21, 22, 23, 24, 25, 26, 27, 28, 29, 30, 31, 32, 33, 34, 35, 36, 37, 38, 44, 45, 46]), (48, [0, 1, 2, 3, 4, 5, 6, 7, 8, 9, 10, 11, 12, 13, 14, 15, 16, 17, 18, 19, 20, 21, 22, 23, 24, 25, 26, 27, 28, 29, 30, 31, 32, 33, 34, 35, 36, 37, 38, 44, 45, 46, 47]), (49, [0, 1, 2, 3, 4, 5, 6, 7, 8, 9, 10, 11, 12, 13, 14, 15, 16, 17, 18, 19, 20, 21, 22, 23, 24, 25, 26, 27, 28, 29, 30, 31, 32, 33, 34, 35, 36, 37, 38, 39, 40, 41, 42, 43, 44, 45, 46, 47, 48]), (50, [0, 1, 2, 3, 4, 5, 6, 7, 8, 9, 10, 11, 12, 13, 14, 15, 16, 17, 18, 19, 20, 21, 22, 23, 24, 25, 26, 27, 28, 29, 30, 31, 32, 33, 34, 35, 36, 37, 38, 39, 40, 41, 42, 43, 44, 45, 46, 47, 48, 49]), (51, [0, 1, 2, 3, 4, 5, 6, 7, 8, 9, 10, 11, 12, 13, 14, 15, 16, 17, 18, 19, 20, 21, 22, 23, 24, 25, 26, 27, 28, 29, 30, 31, 32, 33, 34, 35, 36, 37, 38, 39, 40, 41, 42, 43, 44, 45, 46, 47, 48, 49, 50]), (52, [0, 1, 2, 3, 4, 5, 6, 7, 8, 9, 10, 11, 12, 13, 14, 15, 16, 17, 18, 19, 20, 21, 22, 23, 24, 25, 26, 27, 28, 29, 30, 31, 32, 33, 34, 35, 36, 37, 38, 39, 40, 41, 42, 43, 44, 45, 46, 47, 48, 49, 50, 51]), (53, [0, 1, 2, 3, 4, 5, 6, 7, 8, 9, 10, 11, 12, 13, 14, 15, 16, 17, 18, 19, 20, 21, 22, 23, 24, 25, 26, 27, 28, 29, 30, 31, 32, 33, 34, 35, 36, 37, 38, 39, 40, 41, 42, 43, 44, 45, 46, 47, 48, 49, 50, 51]), (54, [0, 1, 2, 3, 4, 5, 6, 7, 8, 9, 10, 11, 12, 13, 14, 15, 16, 17, 18, 19, 20, 21, 22, 23, 24, 25, 26, 27, 28, 29, 30, 31, 32, 33, 34, 35, 36, 37, 38, 39, 40, 41, 42, 43, 44, 45, 46, 47, 48, 49, 50, 51, 52, 53]), (55, [0, 1, 2, 3, 4, 5, 6, 7, 8, 9, 10, 11, 12, 13, 14, 15, 16, 17, 18, 19, 20, 21, 22, 23, 24, 25, 26, 27, 28, 29, 30, 31, 32, 33, 34, 35, 36, 37, 38, 39, 40, 41, 42, 43, 44, 45, 46, 47, 48, 49, 50, 51, 52, 53, 54]), (56, [0, 1, 2, 3, 4, 5, 6, 7, 8, 9, 10, 11, 12, 13, 14, 15, 16, 17, 18, 19, 20, 21, 22, 23, 24, 25, 26, 27, 28, 29, 30, 31, 32, 33, 34, 35, 36, 37, 38, 39, 40, 41, 42, 43, 44, 45, 46, 47, 48, 49, 50, 51, 52, 53, 54, 55]), (57, [0, 1, 2, 3, 4, 5, 6, 7, 8, 9, 10, 11, 12, 13, 14, 15, 16, 17, 18, 19, 20, 21, 22, 23, 24, 25, 26, 27, 28, 29, 30, 31, 32, 33, 34, 35, 36, 37, 38, 39, 40, 41, 42, 43, 44, 45, 46, 47, 48, 49, 50, 51]), (58, [0, 1, 2, 3, 4, 5, 6, 7, 8, 9, 10, 11, 12, 13, 14, 15, 16, 17, 18, 19, 20, 21, 22, 23, 24, 25, 26, 27, 28, 29, 30, 31, 32, 33, 34, 35, 36, 37, 38, 39, 40, 41, 42, 43, 44, 45, 46, 47, 48, 49, 50, 51]), (59, [0, 1, 2, 3, 4, 5, 6, 7, 8, 9, 10, 11, 12, 13, 14, 15, 16, 17, 18, 19, 20, 21, 22, 23, 24, 25, 26, 27, 28, 29, 30, 31, 32, 33, 34, 35, 36, 37, 38, 39, 40, 41, 42, 43, 44, 45, 46, 47, 48, 49, 50, 51, 57, 58]), (60, [0, 1, 2, 3, 4, 5, 6, 7, 8, 9, 10, 11, 12, 13, 14, 15, 16, 17, 18, 19, 20, 21, 22, 23, 24, 25, 26, 27, 28, 29, 30, 31, 32, 33, 34, 35, 36, 37, 38, 39, 40, 41, 42, 43, 44, 45, 46, 47, 48, 49, 50, 51, 57, 58, 59]), (61, [0, 1, 2, 3, 4, 5, 6, 7, 8, 9, 10, 11, 12, 13, 14, 15, 16, 17, 18, 19, 20, 21, 22, 23, 24, 25, 26, 27, 28, 29, 30, 31, 32, 33, 34, 35, 36, 37, 38, 39, 40, 41, 42, 43, 44, 45, 46, 47, 48, 49, 50, 51, 57, 58, 59, 60]), (62, [0, 1, 2, 3, 4, 5, 6, 7, 8, 9, 10, 11, 12, 13, 14, 15, 16, 17, 18, 19, 20, 21, 22, 23, 24, 25, 26, 27, 28, 29, 30, 31, 32, 33, 34, 35, 36, 37, 38, 39, 40, 41, 42, 43, 44, 45, 46, 47, 48, 49, 50, 51, 52, 53, 54, 55, 56, 57, 58, 59, 60, 61]), (63, [0, 1, 2, 3, 4, 5, 6, 7, 8, 9, 10, 11, 12, 13, 14, 15, 16, 17, 18, 19, 20, 21, 22, 23, 24, 25, 26, 27, 28, 29, 30, 31, 32, 33, 34, 35, 36, 37, 38, 39, 40, 41, 42, 43, 44, 45, 46, 47, 48, 49, 50, 51, 52, 53, 54, 55, 56, 57, 58, 59, 60, 61, 62])]⟩
  | _ => ⟨[], [], [], .done, []⟩
/-- impl.TrailAdd -/
def kp_impl_TrailAdd : Nat → Keep
  | 5 => ⟨[], [], [], .step 0 (.step 2 (.step 1 (.step 3 (.step 4 (.step 5 (.done)))))), [(1, [0]), (3, [0, 1, 2]), (4, [0, 1, 2, 3]), (5, [0, 1, 2, 3, 4])]⟩
  | _ => ⟨[], [], [], .done, []⟩
def esc_impl_TrailAdd : Nat → Bool
  | 8 => true
  | _ => false
def vc_impl_TrailAdd (w0 : World) (a0 a1 : Value) (σ : Vw) (R : Value → Vw → Prop) : Prop :=
  V true 2 a1 (AC P w0 n_impl_TrailOk [a0] σ fun v0 s1 => pUn .not v0 fun v2 => Q v2 (W w0 31 [] s1 fun n3 s4 => R (.slice (some (Addr.mk n3 0 none)) 0 0) s4) (AC P w0 n_impl_markOk ([.agg (⟨[C a1 0, C a1 1]⟩)]) s1 fun v5 s6 => pUn .not v5 fun v7 => Q v7 (AC P w0 n_impl_cloneMarks [a0] s6 fun v8 s9 => R v8 s9) (AC P w0 n_impl_cloneMarks [a0] s6 fun v10 s11 => AC P w0 n_impl_add ([v10, .agg (⟨[C a1 0, C a1 1]⟩)]) s11 fun v12 s13 => AC P w0 n_impl_cloneMarks [v12] s13 fun v14 s15 => R v14 s15)))
theorem vc_impl_TrailAdd_eq (w0 : World) (a0 a1 : Value) (σ : Vw) (R : Value → Vw → Prop) : vc_impl_TrailAdd w0 a0 a1 σ R = den Tryz.prog w0 kp_impl_TrailAdd esc_impl_TrailAdd (Tryz.f13.body.getD .skip) (entry Tryz.f13.ntmps [a0, a1]) σ (retK Tryz.prog Tryz.f13.results.toList R) := by kernel_rfl
theorem ac_impl_TrailAdd {w0 : World} {a0 a1 : Value} {σ : Vw} {R : Value → Vw → Prop} (h : vc_impl_TrailAdd w0 a0 a1 σ R) : AC Tryz.prog w0 n_impl_TrailAdd [a0, a1] σ R := by
  refine ac_rule (fn := Tryz.f13) (c := Tryz.f13.body.getD .skip) kp_impl_TrailAdd esc_impl_TrailAdd Tryz.func13 (by kernel_rfl) (by kernel_rfl) ?_
  rw [← vc_impl_TrailAdd_eq]
  exact h

/-- laws.markMarkS -/
def kp_laws_markMarkS : Nat → Keep
  | 2 => ⟨[0, 1, 5], [], [], .done, []⟩
  | _ => ⟨[], [], [], .done, []⟩
/-- laws.wuMarks -/
def kp_laws_wuMarks : Nat → Keep
  | 4 => ⟨[0, 1, 4, 5], [], [], .done, []⟩
  | 6 => ⟨[], [], [], .step 0 (.step 1 (.step 2 (.step 3 (.step 4 (.step 5 (.step 6 (.step 7 (.step 8 (.step 9 (.step 10 (.step 11 (.step 12 (.step 13 (.step 14 (.step 15 (.step 16 (.step 17 (.step 18 (.step 19 (.step 20 (.step 21 (.step 22 (.step 23 (.step 24 (.done))))))))))))))))))))))))), [(2, [0, 1]), (3, [0, 1, 2]), (4, [0, 1, 2, 3]), (7, [5, 6]), (8, [5, 6, 7]), (9, [5, 6, 7, 8]), (10, [0, 1, 2, 3, 4, 5, 6, 7, 8, 9]), (11, [0, 1, 2, 3, 4, 5, 6, 7, 8, 9, 10]), (12, [0, 1, 2, 3, 4, 5, 6, 7, 8, 9, 10, 11]), (13, [0, 1, 2, 3, 4, 5, 6, 7, 8, 9, 10, 11, 12]), (14, [0, 1, 2, 3, 4, 5, 6, 7, 8, 9, 10, 11, 12]), (15, [0, 1, 2, 3, 4, 5, 6, 7, 8, 9, 10, 11, 12, 13, 14]), (16, [0, 1, 2, 3, 4, 5, 6, 7, 8, 9, 10, 11, 12, 13, 14, 15]), (17, [0, 1, 2, 3, 4, 5, 6, 7, 8, 9, 10, 11, 12, 13, 14, 15, 16]), (18, [0, 1, 2, 3, 4, 5, 6, 7, 8, 9, 10, 11, 12]), (19, [0, 1, 2, 3, 4, 5, 6, 7, 8, 9, 10, 11, 12]), (20, [0, 1, 2, 3, 4, 5, 6, 7, 8, 9, 10, 11, 12, 18, 19]), (21, [0, 1, 2, 3, 4, 5, 6, 7, 8, 9, 10, 11, 12, 18, 19, 20]), (22, [0, 1, 2, 3, 4, 5, 6, 7, 8, 9, 10, 11, 12, 18, 19, 20, 21]), (23, [0, 1, 2, 3, 4, 5, 6, 7, 8, 9, 10, 11, 12, 13, 14, 15, 16, 17, 18, 19, 20, 21, 22]), (24, [0, 1, 2, 3, 4, 5, 6, 7, 8, 9, 10, 11, 12, 13, 14, 15, 16, 17, 18, 19, 20, 21, 22, 23])]⟩
  | _ => ⟨[], [], [], .done, []⟩
def esc_laws_wuMarks : Nat → Bool
  | _ => false
def vc_laws_wuMarks (w0 : World) (a0 a1 : Value) (σ : Vw) (R : Value → Vw → Prop) : Prop :=
  N a0 fun v0 => N a1 fun v1 => B P 3 .neq v0 v1 fun v2 => Q v2 (R (.bool false) σ) (pLoop (fun l3 K4 s5 => N (G l3 0) fun v6 => B P 3 .lss (G l3 3) v6 fun v7 => Q v7 (X 2 (G l3 0) (G l3 3) fun v8 => F 0 v8 fun v9 => L w0 1 v9 s5 fun g10 => X 2 (G l3 1) (G l3 3) fun v11 => F 0 v11 fun v12 => L w0 1 v12 s5 fun g13 => AC P w0 n_laws_wtTexts [g10 0, g13 0] s5 fun v14 s15 => pUn .not v14 fun v16 => Q v16 (K4 .ret [G l3 0, G l3 1, .bool false, G l3 3] s15) (X 2 (G l3 0) (G l3 3) fun v17 => F 1 v17 fun v18 => L w0 1 v18 s15 fun g19 => X 2 (G l3 1) (G l3 3) fun v20 => F 1 v20 fun v21 => L w0 1 v21 s15 fun g22 => B P 4 .neq (g19 0) (g22 0) fun v23 => Q v23 (K4 .ret [G l3 0, G l3 1, .bool false, G l3 3] s15) (B P 3 .add (G l3 3) (.int .i64 1) fun v24 => K4 .normal [G l3 0, G l3 1, G l3 2, v24] s15))) (K4 (.exit 0) [G l3 0, G l3 1, G l3 2, G l3 3] s5)) [a0, a1, .bool false, .int .i64 0] σ fun x25 l26 s27 => match x25 with | .normal => R (.bool true) s27 | .ret => R (G l26 2) s27 | .exit i28 => (match Nat.beq i28 0 with | true => R (.bool true) s27 | false => False))
theorem vc_laws_wuMarks_eq (w0 : World) (a0 a1 : Value) (σ : Vw) (R : Value → Vw → Prop) : vc_laws_wuMarks w0 a0 a1 σ R = den Tryz.prog w0 kp_laws_wuMarks esc_laws_wuMarks (Tryz.f26.body.getD .skip) (entry Tryz.f26.ntmps [a0, a1]) σ (retK Tryz.prog Tryz.f26.results.toList R) := by kernel_rfl
theorem ac_laws_wuMarks {w0 : World} {a0 a1 : Value} {σ : Vw} {R : Value → Vw → Prop} (h : vc_laws_wuMarks w0 a0 a1 σ R) : AC Tryz.prog w0 n_laws_wuMarks [a0, a1] σ R := by
  refine ac_rule (fn := Tryz.f26) (c := Tryz.f26.body.getD .skip) kp_laws_wuMarks esc_laws_wuMarks Tryz.func26 (by kernel_rfl) (by kernel_rfl) ?_
  rw [← vc_laws_wuMarks_eq]
  exact h

/-- spec.TrailAdd -/
def kp_spec_TrailAdd : Nat → Keep
  | 7 => ⟨[5], [], [], .done, []⟩
  | _ => ⟨[], [], [], .done, []⟩
def esc_spec_TrailAdd : Nat → Bool
  | 9 => true
  | _ => false
def vc_spec_TrailAdd (w0 : World) (a0 a1 : Value) (σ : Vw) (R : Value → Vw → Prop) : Prop :=
  V true 2 a1 (AC P w0 n_spec_TrailOk [a0] σ fun v0 s1 => pUn .not v0 fun v2 => Q v2 (W w0 31 [] s1 fun n3 s4 => R (.slice (some (Addr.mk n3 0 none)) 0 0) s4) (AC P w0 n_spec_l11Copy [a0] s1 fun v5 s6 => AC P w0 n_spec_l11MarkOk ([.agg (⟨[C a1 0, C a1 1]⟩)]) s6 fun v7 s8 => pUn .not v7 fun v9 => Q v9 (R v5 s8) (AC P w0 n_spec_l11Put ([v5, .agg (⟨[C a1 0, C a1 1]⟩)]) s8 fun v10 s11 => pLoop (fun l12 K13 s14 => N (G l12 0) fun v15 => B P 3 .gtr v15 (.int .i64 6) fun v16 => Q v16 (AC P w0 n_spec_l11Coarser [G l12 0] s14 fun v17 s18 => K13 .normal [v17] s18) (K13 (.exit 0) [G l12 0] s14)) [v10] s11 fun x19 l20 s21 => match x19 with | .normal => AC P w0 n_spec_l11Copy [G l20 0] s21 (fun v22 s23 => R v22 s23) | .ret => False | .exit i24 => (match Nat.beq i24 0 with | true => AC P w0 n_spec_l11Copy [G l20 0] s21 (fun v25 s26 => R v25 s26) | false => False))))
theorem vc_spec_TrailAdd_eq (w0 : World) (a0 a1 : Value) (σ : Vw) (R : Value → Vw → Prop) : vc_spec_TrailAdd w0 a0 a1 σ R = den Tryz.prog w0 kp_spec_TrailAdd esc_spec_TrailAdd (Tryz.f27.body.getD .skip) (entry Tryz.f27.ntmps [a0, a1]) σ (retK Tryz.prog Tryz.f27.results.toList R) := by kernel_rfl
theorem ac_spec_TrailAdd {w0 : World} {a0 a1 : Value} {σ : Vw} {R : Value → Vw → Prop} (h : vc_spec_TrailAdd w0 a0 a1 σ R) : AC Tryz.prog w0 n_spec_TrailAdd [a0, a1] σ R := by
  refine ac_rule (fn := Tryz.f27) (c := Tryz.f27.body.getD .skip) kp_spec_TrailAdd esc_spec_TrailAdd Tryz.func27 (by kernel_rfl) (by kernel_rfl) ?_
  rw [← vc_spec_TrailAdd_eq]
  exact h

/-- impl.TrailOk -/
def kp_impl_TrailOk : Nat → Keep
  | 2 => ⟨[0, 2, 5, 6, 7], [], [], .done, []⟩
  | 4 => ⟨[], [], [], .step 0 (.step 1 (.step 2 (.step 3 (.step 4 (.step 5 (.step 6 (.step 7 (.step 8 (.step 9 (.step 10 (.step 11 (.step 12 (.step 13 (.step 14 (.step 15 (.step 16 (.step 17 (.step 18 (.step 19 (.step 20 (.step 21 (.step 22 (.step 23 (.step 24 (.step 25 (.step 26 (.done))))))))))))))))))))))))))), [(1, [0]), (2, [0, 1]), (3, [0, 1, 2]), (4, [0, 1, 2, 3]), (5, [0, 1, 2, 3, 4]), (6, [0, 1, 2, 3, 4, 5]), (7, [0, 1, 2, 3, 4, 5, 6]), (8, [0, 1, 2, 3, 4, 5, 6]), (9, [0, 1, 2, 3, 4, 5, 6, 8]), (10, [0, 1, 2, 3, 4, 5, 6, 7, 8, 9]), (11, [0, 1, 2, 3, 4, 5, 6, 7, 8, 9, 10]), (12, [0, 1, 2, 3, 4, 5, 6, 7, 8, 9, 10, 11]), (13, [0, 1, 2, 3, 4, 5, 6]), (14, [0, 1, 2, 3, 4, 5, 6, 13]), (15, [0, 1, 2, 3, 4, 5, 6, 7, 8, 9, 10, 11, 12, 13, 14]), (16, [0, 1, 2, 3, 4, 5, 6, 7, 8, 9, 10, 11, 12, 13, 14, 15]), (17, [0, 1, 2, 3, 4, 5, 6, 7, 8, 9, 10, 11, 12, 13, 14, 15, 16]), (18, [0, 1, 2, 3, 4, 5, 6, 7, 8, 9, 10, 11, 12, 13, 14, 15, 16, 17]), (19, [0, 1, 2, 3, 4, 5, 6, 7, 8, 9, 10, 11, 12, 13, 14, 15, 16, 17, 18]), (20, [0, 1, 2, 3, 4, 5, 6, 7, 8, 9, 10, 11, 12, 13, 14, 15, 16, 17, 18, 19]), (21, [0, 1, 2, 3, 4, 5, 6, 7, 8, 9, 10, 11, 12, 13, 14, 15, 16, 17, 18, 19]), (22, [0, 1, 2, 3, 4, 5, 6, 7, 8, 9, 10, 11, 12, 13, 14, 15, 16, 17, 18, 19, 20, 21]), (23, [0, 1, 2, 3, 4, 5, 6, 7, 8, 9, 10, 11, 12, 13, 14, 15, 16, 17, 18, 19]), (24, [0, 1, 2, 3, 4, 5, 6, 7, 8, 9, 10, 11, 12, 13, 14, 15, 16, 17, 18, 19, 23]), (25, [0, 1, 2, 3, 4, 5, 6, 7, 8, 9, 10, 11, 12, 13, 14, 15, 16, 17, 18, 19, 20, 21, 22, 23, 24]), (26, [0, 1, 2, 3, 4, 5, 6, 7, 8, 9, 10, 11, 12, 13, 14, 15, 16, 17, 18, 19, 20, 21, 22, 23, 24, 25])]⟩
  | _ => ⟨[], [], [], .done, []⟩
def esc_impl_TrailOk : Nat → Bool
  | _ => false
def vc_impl_TrailOk (w0 : World) (a0 : Value) (σ : Vw) (R : Value → Vw → Prop) : Prop :=
  N a0 fun v0 => pLoop (fun l1 K2 s3 => B P 3 .lss (G l1 4) (G l1 3) fun v4 => Q v4 (X 2 (G l1 2) (G l1 4) fun v5 => L w0 2 v5 s3 fun g6 => V true 2 (.agg (⟨[g6 0, g6 1]⟩)) (AC P w0 n_impl_markOk ([.agg (⟨[g6 0, g6 1]⟩)]) s3 fun v7 s8 => pUn .not v7 fun v9 => Q v9 (K2 .ret [G l1 0, .bool false, G l1 2, G l1 3, G l1 4] s8) (B P 3 .gtr (G l1 4) (.int .i64 0) fun v10 => Q v10 (B P 3 .sub (G l1 4) (.int .i64 1) fun v11 => X 2 (G l1 0) v11 fun v12 => F 0 v12 fun v13 => L w0 1 v13 s8 fun g14 => AC P w0 n_slices_Compare_string_string [g14 0, g6 0] s8 fun v15 s16 => B P 3 .geq v15 (.int .i64 0) fun v17 => Q v17 (K2 .ret [G l1 0, .bool false, G l1 2, G l1 3, G l1 4] s16) (pSlice 2 (G l1 0) none (some (G l1 4)) fun v18 => AC P w0 n_impl_under [v18, g6 0] s16 fun v19 s20 => Q v19 (K2 .ret [G l1 0, .bool false, G l1 2, G l1 3, G l1 4] s20) (B P 3 .add (G l1 4) (.int .i64 1) fun v21 => K2 .normal [G l1 0, G l1 1, G l1 2, G l1 3, v21] s20))) (pSlice 2 (G l1 0) none (some (G l1 4)) fun v22 => AC P w0 n_impl_under [v22, g6 0] s8 fun v23 s24 => Q v23 (K2 .ret [G l1 0, .bool false, G l1 2, G l1 3, G l1 4] s24) (B P 3 .add (G l1 4) (.int .i64 1) fun v25 => K2 .normal [G l1 0, G l1 1, G l1 2, G l1 3, v25] s24))))) (K2 (.exit 0) [G l1 0, G l1 1, G l1 2, G l1 3, G l1 4] s3)) [a0, .bool false, a0, v0, .int .i64 0] σ fun x26 l27 s28 => match x26 with | .normal => N (G l27 0) (fun v29 => B P 3 .leq v29 (.int .i64 6) fun v30 => R v30 s28) | .ret => R (G l27 1) s28 | .exit i31 => (match Nat.beq i31 0 with | true => N (G l27 0) (fun v32 => B P 3 .leq v32 (.int .i64 6) fun v33 => R v33 s28) | false => False)
theorem vc_impl_TrailOk_eq (w0 : World) (a0 : Value) (σ : Vw) (R : Value → Vw → Prop) : vc_impl_TrailOk w0 a0 σ R = den Tryz.prog w0 kp_impl_TrailOk esc_impl_TrailOk (Tryz.f28.body.getD .skip) (entry Tryz.f28.ntmps [a0]) σ (retK Tryz.prog Tryz.f28.results.toList R) := by kernel_rfl
theorem ac_impl_TrailOk {w0 : World} {a0 : Value} {σ : Vw} {R : Value → Vw → Prop} (h : vc_impl_TrailOk w0 a0 σ R) : AC Tryz.prog w0 n_impl_TrailOk [a0] σ R := by
  refine ac_rule (fn := Tryz.f28) (c := Tryz.f28.body.getD .skip) kp_impl_TrailOk esc_impl_TrailOk Tryz.func28 (by kernel_rfl) (by kernel_rfl) ?_
  rw [← vc_impl_TrailOk_eq]
  exact h

/-- spec.TrailOk -/
def kp_spec_TrailOk : Nat → Keep
  | 2 => ⟨[0, 2, 3], [], [], .done, []⟩
  | 4 => ⟨[], [], [], .step 0 (.step 1 (.step 2 (.step 3 (.step 4 (.step 5 (.step 6 (.step 7 (.step 8 (.step 9 (.step 10 (.step 11 (.step 12 (.step 13 (.step 14 (.step 15 (.step 16 (.step 17 (.step 18 (.step 19 (.step 20 (.step 21 (.step 22 (.step 23 (.step 24 (.done))))))))))))))))))))))))), [(2, [0, 1]), (3, [0, 1, 2]), (4, [0, 1, 2, 3]), (5, [0, 1, 2, 3, 4]), (6, [0, 1, 2, 3, 4, 5]), (7, [0, 1, 2, 3, 4, 5, 6]), (8, [0, 1, 2, 3, 4, 5, 6, 7]), (9, [0, 1, 2, 3, 4, 5, 6, 7, 8]), (10, [0, 1, 2, 3, 4, 5, 6, 7, 8, 9]), (11, [0, 1, 2, 3, 4, 5, 6, 7, 8, 9]), (12, [0, 1, 2, 3, 4, 5, 6, 7, 8, 9, 11]), (13, [0, 1, 2, 3, 4, 5, 6, 7, 8, 9, 10, 11, 12]), (14, [0, 1, 2, 3, 4, 5, 6, 7, 8, 9, 10, 11, 12, 13]), (15, [0, 1, 2, 3, 4, 5, 6, 7, 8, 9, 10, 11, 12, 13, 14]), (16, [0, 1, 2, 3, 4, 5, 6, 7, 8, 9]), (17, [0, 1, 2, 3, 4, 5, 6, 7, 8, 9]), (18, [0, 1, 2, 3, 4, 5, 6, 7, 8, 9, 16, 17]), (19, [0, 1, 2, 3, 4, 5, 6, 7, 8, 9, 16, 17, 18]), (20, [0, 1, 2, 3, 4, 5, 6, 7, 8, 9, 16, 17, 18, 19]), (21, [0, 1, 2, 3, 4, 5, 6, 7, 8, 9, 10, 11, 12, 13, 14, 15, 16, 17, 18, 19, 20]), (22, [0, 1, 2, 3, 4, 5, 6, 7, 8, 9, 10, 11, 12, 13, 14, 15, 16, 17, 18, 19, 20, 21]), (23, [0, 1, 2, 3, 4, 5, 6, 7, 8, 9, 10, 11, 12, 13, 14, 15, 16, 17, 18, 19, 20, 21, 22]), (24, [0, 1, 2, 3, 4, 5, 6, 7, 8, 9, 10, 11, 12, 13, 14, 15, 16, 17, 18, 19, 20, 21, 22, 23])]⟩
  | 7 => ⟨[0, 2, 3, 4], [], [], .done, []⟩
  | 9 => ⟨[], [], [], .step 0 (.step 1 (.step 2 (.step 3 (.step 4 (.step 5 (.step 6 (.step 7 (.step 8 (.step 9 (.step 10 (.step 11 (.step 12 (.step 13 (.step 14 (.step 15 (.step 16 (.step 17 (.done)))))))))))))))))), [(2, [0, 1]), (3, [0, 1, 2]), (4, [0, 1, 2, 3]), (5, [0, 1, 2, 3, 4]), (6, [0, 1, 2, 3, 4, 5]), (7, [0, 1, 2, 3, 4, 5]), (8, [0, 1, 2, 3, 4, 5, 6, 7]), (9, [0, 1, 2, 3, 4, 5, 6, 7, 8]), (10, [0, 1, 2, 3, 4, 5, 6, 7, 8, 9]), (11, [0, 1, 2, 3, 4, 5]), (12, [0, 1, 2, 3, 4, 5]), (13, [0, 1, 2, 3, 4, 5, 11, 12]), (14, [0, 1, 2, 3, 4, 5, 11, 12, 13]), (15, [0, 1, 2, 3, 4, 5, 11, 12, 13, 14]), (16, [0, 1, 2, 3, 4, 5, 6, 7, 8, 9, 10, 11, 12, 13, 14, 15]), (17, [0, 1, 2, 3, 4, 5, 6, 7, 8, 9, 10, 11, 12, 13, 14, 15, 16])]⟩
  | _ => ⟨[], [], [], .done, []⟩
def esc_spec_TrailOk : Nat → Bool
  | _ => false
def vc_spec_TrailOk (w0 : World) (a0 : Value) (σ : Vw) (R : Value → Vw → Prop) : Prop :=
  pLoop (fun l0 K1 s2 => N (G l0 0) fun v3 => B P 3 .lss (G l0 2) v3 fun v4 => Q v4 (X 2 (G l0 0) (G l0 2) fun v5 => L w0 2 v5 s2 fun g6 => AC P w0 n_spec_l11MarkOk ([.agg (⟨[g6 0, g6 1]⟩)]) s2 fun v7 s8 => pUn .not v7 fun v9 => Q v9 (K1 .ret [G l0 0, .bool false, G l0 2] s8) (B P 3 .gtr (G l0 2) (.int .i64 0) fun v10 => Q v10 (B P 3 .sub (G l0 2) (.int .i64 1) fun v11 => X 2 (G l0 0) v11 fun v12 => F 0 v12 fun v13 => L w0 1 v13 s8 fun g14 => X 2 (G l0 0) (G l0 2) fun v15 => F 0 v15 fun v16 => L w0 1 v16 s8 fun g17 => AC P w0 n_spec_l11Less [g14 0, g17 0] s8 fun v18 s19 => pUn .not v18 fun v20 => Q v20 (K1 .ret [G l0 0, .bool false, G l0 2] s19) (pLoop (fun l21 K22 s23 => B P 3 .lss (G l21 3) (G l21 2) fun v24 => Q v24 (X 2 (G l21 0) (G l21 3) fun v25 => F 1 v25 fun v26 => L w0 1 v26 s23 fun g27 => Q (g27 0) (X 2 (G l21 0) (G l21 2) fun v28 => F 0 v28 fun v29 => L w0 1 v29 s23 fun g30 => X 2 (G l21 0) (G l21 3) fun v31 => F 0 v31 fun v32 => L w0 1 v32 s23 fun g33 => AC P w0 n_spec_l2Within [g30 0, g33 0] s23 fun v34 s35 => Q v34 (K22 .ret [G l21 0, .bool false, G l21 2, G l21 3] s35) (B P 3 .add (G l21 3) (.int .i64 1) fun v36 => K22 .normal [G l21 0, G l21 1, G l21 2, v36] s35)) (B P 3 .add (G l21 3) (.int .i64 1) fun v37 => K22 .normal [G l21 0, G l21 1, G l21 2, v37] s23)) (K22 (.exit 2) [G l21 0, G l21 1, G l21 2, G l21 3] s23)) [G l0 0, G l0 1, G l0 2, .int .i64 0] s19 fun x38 l39 s40 => match x38 with | .normal => B P 3 .add (G l39 2) (.int .i64 1) (fun v41 => K1 .normal [G l39 0, G l39 1, v41] s40) | .ret => K1 .ret [G l39 0, G l39 1, G l39 2] s40 | .exit i42 => (match Nat.beq i42 2 with | true => B P 3 .add (G l39 2) (.int .i64 1) (fun v43 => K1 .normal [G l39 0, G l39 1, v43] s40) | false => (match Nat.beq i42 1 with | true => B P 3 .add (G l39 2) (.int .i64 1) (fun v44 => K1 .normal [G l39 0, G l39 1, v44] s40) | false => K1 (.exit i42) [G l39 0, G l39 1, G l39 2] s40)))) (pLoop (fun l45 K46 s47 => B P 3 .lss (G l45 3) (G l45 2) fun v48 => Q v48 (X 2 (G l45 0) (G l45 3) fun v49 => F 1 v49 fun v50 => L w0 1 v50 s47 fun g51 => Q (g51 0) (X 2 (G l45 0) (G l45 2) fun v52 => F 0 v52 fun v53 => L w0 1 v53 s47 fun g54 => X 2 (G l45 0) (G l45 3) fun v55 => F 0 v55 fun v56 => L w0 1 v56 s47 fun g57 => AC P w0 n_spec_l2Within [g54 0, g57 0] s47 fun v58 s59 => Q v58 (K46 .ret [G l45 0, .bool false, G l45 2, G l45 3] s59) (B P 3 .add (G l45 3) (.int .i64 1) fun v60 => K46 .normal [G l45 0, G l45 1, G l45 2, v60] s59)) (B P 3 .add (G l45 3) (.int .i64 1) fun v61 => K46 .normal [G l45 0, G l45 1, G l45 2, v61] s47)) (K46 (.exit 2) [G l45 0, G l45 1, G l45 2, G l45 3] s47)) [G l0 0, G l0 1, G l0 2, .int .i64 0] s8 fun x62 l63 s64 => match x62 with | .normal => B P 3 .add (G l63 2) (.int .i64 1) (fun v65 => K1 .normal [G l63 0, G l63 1, v65] s64) | .ret => K1 .ret [G l63 0, G l63 1, G l63 2] s64 | .exit i66 => (match Nat.beq i66 2 with | true => B P 3 .add (G l63 2) (.int .i64 1) (fun v67 => K1 .normal [G l63 0, G l63 1, v67] s64) | false => (match Nat.beq i66 1 with | true => B P 3 .add (G l63 2) (.int .i64 1) (fun v68 => K1 .normal [G l63 0, G l63 1, v68] s64) | false => K1 (.exit i66) [G l63 0, G l63 1, G l63 2] s64))))) (K1 (.exit 0) [G l0 0, G l0 1, G l0 2] s2)) [a0, .bool false, .int .i64 0] σ fun x69 l70 s71 => match x69 with | .normal => N (G l70 0) (fun v72 => B P 3 .leq v72 (.int .i64 6) fun v73 => R v73 s71) | .ret => R (G l70 1) s71 | .exit i74 => (match Nat.beq i74 0 with | true => N (G l70 0) (fun v75 => B P 3 .leq v75 (.int .i64 6) fun v76 => R v76 s71) | false => False)
theorem vc_spec_TrailOk_eq (w0 : World) (a0 : Value) (σ : Vw) (R : Value → Vw → Prop) : vc_spec_TrailOk w0 a0 σ R = den Tryz.prog w0 kp_spec_TrailOk esc_spec_TrailOk (Tryz.f29.body.getD .skip) (entry Tryz.f29.ntmps [a0]) σ (retK Tryz.prog Tryz.f29.results.toList R) := by kernel_rfl
theorem ac_spec_TrailOk {w0 : World} {a0 : Value} {σ : Vw} {R : Value → Vw → Prop} (h : vc_spec_TrailOk w0 a0 σ R) : AC Tryz.prog w0 n_spec_TrailOk [a0] σ R := by
  refine ac_rule (fn := Tryz.f29) (c := Tryz.f29.body.getD .skip) kp_spec_TrailOk esc_spec_TrailOk Tryz.func29 (by kernel_rfl) (by kernel_rfl) ?_
  rw [← vc_spec_TrailOk_eq]
  exact h

/-- spec.DrawTrailOf -/
def kp_spec_DrawTrailOf : Nat → Keep
  | _ => ⟨[], [], [], .done, []⟩
def esc_spec_DrawTrailOf : Nat → Bool
  | _ => false
def vc_spec_DrawTrailOf (w0 : World) (a0 : Value) (σ : Vw) (R : Value → Vw → Prop) : Prop :=
  AC P w0 n_spec_DrawTreeDo [a0] σ fun v0 s1 => E v0 0 fun v2 => E v0 1 fun v3 => V true 5 v2 (V true 5 v3 (R (.tuple (⟨[.agg (⟨[C v2 0, C v2 1, C v2 2, C v2 3, C v2 4]⟩), .agg (⟨[C v3 0, C v3 1, C v3 2, C v3 3, C v3 4]⟩)]⟩)) s1))
theorem vc_spec_DrawTrailOf_eq (w0 : World) (a0 : Value) (σ : Vw) (R : Value → Vw → Prop) : vc_spec_DrawTrailOf w0 a0 σ R = den Tryz.prog w0 kp_spec_DrawTrailOf esc_spec_DrawTrailOf (Tryz.f30.body.getD .skip) (entry Tryz.f30.ntmps [a0]) σ (retK Tryz.prog Tryz.f30.results.toList R) := by kernel_rfl
theorem ac_spec_DrawTrailOf {w0 : World} {a0 : Value} {σ : Vw} {R : Value → Vw → Prop} (h : vc_spec_DrawTrailOf w0 a0 σ R) : AC Tryz.prog w0 n_spec_DrawTrailOf [a0] σ R := by
  refine ac_rule (fn := Tryz.f30) (c := Tryz.f30.body.getD .skip) kp_spec_DrawTrailOf esc_spec_DrawTrailOf Tryz.func30 (by kernel_rfl) (by kernel_rfl) ?_
  rw [← vc_spec_DrawTrailOf_eq]
  exact h

/-- impl.TrailOf -/
def kp_impl_TrailOf : Nat → Keep
  | _ => ⟨[], [], [], .done, []⟩
def esc_impl_TrailOf : Nat → Bool
  | 8 => true
  | _ => false
def vc_impl_TrailOf (w0 : World) (a0 a1 : Value) (σ : Vw) (R : Value → Vw → Prop) : Prop :=
  V true 5 a0 (V true 5 a1 (AC P w0 n_impl_TreeOk ([.agg (⟨[C a0 0, C a0 1, C a0 2, C a0 3, C a0 4]⟩)]) σ fun v0 s1 => pUn .not v0 fun v2 => Q v2 (W w0 31 [] s1 fun n3 s4 => R (.slice (some (Addr.mk n3 0 none)) 0 0) s4) (AC P w0 n_impl_Tree_marksOf ([.agg (⟨[C a0 0, C a0 1, C a0 2, C a0 3, C a0 4]⟩), .agg (⟨[C a1 0, C a1 1, C a1 2, C a1 3, C a1 4]⟩)]) s1 fun v5 s6 => R v5 s6)))
theorem vc_impl_TrailOf_eq (w0 : World) (a0 a1 : Value) (σ : Vw) (R : Value → Vw → Prop) : vc_impl_TrailOf w0 a0 a1 σ R = den Tryz.prog w0 kp_impl_TrailOf esc_impl_TrailOf (Tryz.f31.body.getD .skip) (entry Tryz.f31.ntmps [a0, a1]) σ (retK Tryz.prog Tryz.f31.results.toList R) := by kernel_rfl
theorem ac_impl_TrailOf {w0 : World} {a0 a1 : Value} {σ : Vw} {R : Value → Vw → Prop} (h : vc_impl_TrailOf w0 a0 a1 σ R) : AC Tryz.prog w0 n_impl_TrailOf [a0, a1] σ R := by
  refine ac_rule (fn := Tryz.f31) (c := Tryz.f31.body.getD .skip) kp_impl_TrailOf esc_impl_TrailOf Tryz.func31 (by kernel_rfl) (by kernel_rfl) ?_
  rw [← vc_impl_TrailOf_eq]
  exact h

/-- spec.TrailOf -/
def kp_spec_TrailOf : Nat → Keep
  | 7 => ⟨[], [], [], .step 0 (.step 1 (.step 2 (.step 3 (.step 5 (.step 6 (.step 8 (.step 9 (.step 4 (.step 7 (.step 10 (.step 11 (.step 12 (.done))))))))))))), [(2, [1]), (3, [0, 1, 2]), (6, [5]), (7, [4, 5, 6]), (9, [8]), (10, [4, 5, 6, 7, 8, 9]), (11, [0, 1, 2, 3, 4, 5, 6, 7, 8, 9, 10]), (12, [0, 1, 2, 3, 4, 5, 6, 7, 8, 9, 10, 11])]⟩
  | _ => ⟨[], [], [], .done, []⟩
def esc_spec_TrailOf : Nat → Bool
  | 16 => true
  | 17 => true
  | 26 => true
  | 38 => true
  | 45 => true
  | _ => false
def vc_spec_TrailOf (w0 : World) (a0 a1 : Value) (σ : Vw) (R : Value → Vw → Prop) : Prop :=
  V true 5 a0 (V true 5 a1 (AC P w0 n_spec_TreeOk ([.agg (⟨[C a0 0, C a0 1, C a0 2, C a0 3, C a0 4]⟩)]) σ fun v0 s1 => pUn .not v0 fun v2 => Q v2 (W w0 31 [] s1 fun n3 s4 => R (.slice (some (Addr.mk n3 0 none)) 0 0) s4) (AC P w0 n_spec_l2CallOk ([.agg (⟨[C a1 0, C a1 1, C a1 2, C a1 3, C a1 4]⟩)]) s1 fun v5 s6 => pUn .not v5 fun v7 => Q v7 (W w0 31 [] s6 fun n8 s9 => R (.slice (some (Addr.mk n8 0 none)) 0 0) s9) (W w0 9 [] s6 fun n10 s11 => pAppendS w0 9 1 16 (.slice (some (Addr.mk n10 0 none)) 0 0) (C a1 1) s11 fun v12 s13 => B P 3 .neq (C a1 0) (.int .i64 5) fun v14 => Q v14 (V false 1 v12 (V true 2 (.agg (⟨[v12, .bool false]⟩)) (W w0 31 [v12, .bool false] s13 fun n15 s16 => R (.slice (some (Addr.mk n15 0 none)) 1 1) s16))) (AC P w0 n_spec_l1At ([.agg (⟨[C a0 0, C a0 1, C a0 2, C a0 3, C a0 4]⟩), C a1 1]) s13 fun v17 s18 => E v17 0 fun v19 => E v17 1 fun v20 => V true 5 v19 (V false 1 v12 (V false 1 (C v19 0) (W w0 9 [] s18 fun n21 s22 => pAppendS w0 9 1 16 (.slice (some (Addr.mk n21 0 none)) 0 0) (C a1 2) s22 fun v23 s24 => V false 1 v23 (V false 1 (C v19 0) (V true 2 (.agg (⟨[v12, C v19 0]⟩)) (V true 2 (.agg (⟨[v23, C v19 0]⟩)) (W w0 31 [v12, C v19 0, v23, C v19 0] s24 fun n25 s26 => R (.slice (some (Addr.mk n25 0 none)) 2 2) s26))))))))))))
theorem vc_spec_TrailOf_eq (w0 : World) (a0 a1 : Value) (σ : Vw) (R : Value → Vw → Prop) : vc_spec_TrailOf w0 a0 a1 σ R = den Tryz.prog w0 kp_spec_TrailOf esc_spec_TrailOf (Tryz.f32.body.getD .skip) (entry Tryz.f32.ntmps [a0, a1]) σ (retK Tryz.prog Tryz.f32.results.toList R) := by kernel_rfl
theorem ac_spec_TrailOf {w0 : World} {a0 a1 : Value} {σ : Vw} {R : Value → Vw → Prop} (h : vc_spec_TrailOf w0 a0 a1 σ R) : AC Tryz.prog w0 n_spec_TrailOf [a0, a1] σ R := by
  refine ac_rule (fn := Tryz.f32) (c := Tryz.f32.body.getD .skip) kp_spec_TrailOf esc_spec_TrailOf Tryz.func32 (by kernel_rfl) (by kernel_rfl) ?_
  rw [← vc_spec_TrailOf_eq]
  exact h

/-- laws.wuMarked -/
def kp_laws_wuMarked : Nat → Keep
  | 2 => ⟨[0, 1, 4, 5], [], [], .done, []⟩
  | _ => ⟨[], [], [], .done, []⟩
def esc_laws_wuMarked : Nat → Bool
  | _ => false
def vc_laws_wuMarked (w0 : World) (a0 a1 : Value) (σ : Vw) (R : Value → Vw → Prop) : Prop :=
  pLoop (fun l0 K1 s2 => N (G l0 0) fun v3 => B P 3 .lss (G l0 3) v3 fun v4 => Q v4 (X 2 (G l0 0) (G l0 3) fun v5 => F 0 v5 fun v6 => L w0 1 v6 s2 fun g7 => AC P w0 n_laws_wtTexts [g7 0, G l0 1] s2 fun v8 s9 => Q v8 (K1 .ret [G l0 0, G l0 1, .bool true, G l0 3] s9) (X 2 (G l0 0) (G l0 3) fun v10 => F 1 v10 fun v11 => L w0 1 v11 s9 fun g12 => Q (g12 0) (X 2 (G l0 0) (G l0 3) fun v13 => F 0 v13 fun v14 => L w0 1 v14 s9 fun g15 => AC P w0 n_laws_wtHead [G l0 1, g15 0] s9 fun v16 s17 => Q v16 (K1 .ret [G l0 0, G l0 1, .bool true, G l0 3] s17) (B P 3 .add (G l0 3) (.int .i64 1) fun v18 => K1 .normal [G l0 0, G l0 1, G l0 2, v18] s17)) (B P 3 .add (G l0 3) (.int .i64 1) fun v19 => K1 .normal [G l0 0, G l0 1, G l0 2, v19] s9))) (K1 (.exit 0) [G l0 0, G l0 1, G l0 2, G l0 3] s2)) [a0, a1, .bool false, .int .i64 0] σ fun x20 l21 s22 => match x20 with | .normal => R (.bool false) s22 | .ret => R (G l21 2) s22 | .exit i23 => (match Nat.beq i23 0 with | true => R (.bool false) s22 | false => False)
theorem vc_laws_wuMarked_eq (w0 : World) (a0 a1 : Value) (σ : Vw) (R : Value → Vw → Prop) : vc_laws_wuMarked w0 a0 a1 σ R = den Tryz.prog w0 kp_laws_wuMarked esc_laws_wuMarked (Tryz.f33.body.getD .skip) (entry Tryz.f33.ntmps [a0, a1]) σ (retK Tryz.prog Tryz.f33.results.toList R) := by kernel_rfl
theorem ac_laws_wuMarked {w0 : World} {a0 a1 : Value} {σ : Vw} {R : Value → Vw → Prop} (h : vc_laws_wuMarked w0 a0 a1 σ R) : AC Tryz.prog w0 n_laws_wuMarked [a0, a1] σ R := by
  refine ac_rule (fn := Tryz.f33) (c := Tryz.f33.body.getD .skip) kp_laws_wuMarked esc_laws_wuMarked Tryz.func33 (by kernel_rfl) (by kernel_rfl) ?_
  rw [← vc_laws_wuMarked_eq]
  exact h

/-- spec.l1Open -/
def kp_spec_l1Open : Nat → Keep
  | _ => ⟨[], [], [], .done, []⟩
def esc_spec_l1Open : Nat → Bool
  | 10 => true
  | _ => false
def vc_spec_l1Open (w0 : World) (a0 : Value) (σ : Vw) (R : Value → Vw → Prop) : Prop :=
  N a0 fun v0 => B P 3 .gtr v0 (.int .i64 2000) fun v1 => Q v1 (pSlice 1 a0 none (some (.int .i64 2000)) fun v2 => V false 1 v2 (V true 2 (.agg (⟨[v2, .int .i64 0]⟩)) (W w0 111 [v2, .int .i64 0] σ fun n3 s4 => R (.pointer (some (Addr.mk n3 0 none))) s4))) (V false 1 a0 (V true 2 (.agg (⟨[a0, .int .i64 0]⟩)) (W w0 111 [a0, .int .i64 0] σ fun n5 s6 => R (.pointer (some (Addr.mk n5 0 none))) s6)))
theorem vc_spec_l1Open_eq (w0 : World) (a0 : Value) (σ : Vw) (R : Value → Vw → Prop) : vc_spec_l1Open w0 a0 σ R = den Tryz.prog w0 kp_spec_l1Open esc_spec_l1Open (Tryz.f38.body.getD .skip) (entry Tryz.f38.ntmps [a0]) σ (retK Tryz.prog Tryz.f38.results.toList R) := by kernel_rfl
theorem ac_spec_l1Open {w0 : World} {a0 : Value} {σ : Vw} {R : Value → Vw → Prop} (h : vc_spec_l1Open w0 a0 σ R) : AC Tryz.prog w0 n_spec_l1Open [a0] σ R := by
  refine ac_rule (fn := Tryz.f38) (c := Tryz.f38.body.getD .skip) kp_spec_l1Open esc_spec_l1Open Tryz.func38 (by kernel_rfl) (by kernel_rfl) ?_
  rw [← vc_spec_l1Open_eq]
  exact h

/-- spec.l4Tree -/
def kp_spec_l4Tree : Nat → Keep
  | 3 => ⟨[0, 4], [(2, 5), (3, 5)], [2, 3], .done, []⟩
  | 5 => ⟨[], [], [], .step 0 (.step 3 (.step 4 (.step 7 (.step 1 (.step 2 (.step 5 (.step 6 (.step 8 (.done))))))))), [(1, [0]), (2, [0, 1]), (5, [0, 1, 3, 4]), (6, [0, 1, 2, 3, 4, 5]), (8, [0, 1, 2, 3, 4, 5, 6, 7])]⟩
  | 11 => ⟨[], [], [], .step 0 (.step 1 (.step 2 (.step 3 (.step 4 (.step 5 (.done)))))), [(3, [2]), (4, [0, 1, 2, 3]), (5, [0, 1, 2, 3, 4])]⟩
  | _ => ⟨[], [], [], .done, []⟩
def esc_spec_l4Tree : Nat → Bool
  | _ => false
def vc_spec_l4Tree (w0 : World) (a0 : Value) (σ : Vw) (R : Value → Vw → Prop) : Prop :=
  AC P w0 n_p_spec_l1Rd_pick [a0, .int .i64 8] σ fun v0 s1 => AC P w0 n_p_spec_l1Rd_pick [a0, .int .i64 2] s1 fun v2 s3 => B P 3 .mul v0 v2 fun v4 => V false 1 (.bool true) (V false 1 v4 (V true 5 (.agg (⟨[.bool true, v4, .string ({ data := #[] }), .slice none 0 0, .slice none 0 0]⟩)) (AC P w0 n_p_spec_l1Rd_pick [a0, .int .i64 12] s3 fun v5 s6 => pLoop (fun l7 K8 s9 => B P 3 .gtr (G l7 1) (.int .i64 0) fun v10 => Q v10 (AC P w0 n_p_spec_l1Rd_pick [G l7 0, .int .i64 2] s9 fun v11 s12 => B P 3 .add (.int .i64 1) v11 fun v13 => AC P w0 n_spec_l4Path ([G l7 0, .agg (⟨[G l7 7, G l7 8, G l7 9, G l7 10, G l7 11]⟩)]) s12 fun v14 s15 => V false 1 v13 (V false 1 v14 (V true 5 (.agg (⟨[v13, v14, .slice none 0 0, .int .i64 0, .string ({ data := #[] })]⟩)) (B P 3 .eql v13 (.int .i64 2) fun v16 => Q v16 (AC P w0 n_spec_l4Data [G l7 0] s15 fun v17 s18 => V false 1 v17 (AC P w0 n_spec_TreeDo ([.agg (⟨[G l7 7, G l7 8, G l7 9, G l7 10, G l7 11]⟩), .agg (⟨[v13, v14, .slice none 0 0, .int .i64 0, v17]⟩)]) s18 fun v19 s20 => E v19 0 fun v21 => E v19 1 fun v22 => V true 5 v21 (B P 3 .eql v22 (.int .i64 0) fun v23 => Q v23 (V true 5 (.agg (⟨[C v21 0, C v21 1, C v21 2, C v21 3, C v21 4]⟩)) (B P 3 .sub (G l7 1) (.int .i64 1) fun v24 => K8 .normal [G l7 0, v24, G l7 2, G l7 3, G l7 4, G l7 5, G l7 6, C v21 0, C v21 1, C v21 2, C v21 3, C v21 4] s20)) (B P 3 .sub (G l7 1) (.int .i64 1) fun v25 => K8 .normal [G l7 0, v25, G l7 2, G l7 3, G l7 4, G l7 5, G l7 6, G l7 7, G l7 8, G l7 9, G l7 10, G l7 11] s20)))) (AC P w0 n_spec_TreeDo ([.agg (⟨[G l7 7, G l7 8, G l7 9, G l7 10, G l7 11]⟩), .agg (⟨[v13, v14, .slice none 0 0, .int .i64 0, .string ({ data := #[] })]⟩)]) s15 fun v26 s27 => E v26 0 fun v28 => E v26 1 fun v29 => V true 5 v28 (B P 3 .eql v29 (.int .i64 0) fun v30 => Q v30 (V true 5 (.agg (⟨[C v28 0, C v28 1, C v28 2, C v28 3, C v28 4]⟩)) (B P 3 .sub (G l7 1) (.int .i64 1) fun v31 => K8 .normal [G l7 0, v31, G l7 2, G l7 3, G l7 4, G l7 5, G l7 6, C v28 0, C v28 1, C v28 2, C v28 3, C v28 4] s27)) (B P 3 .sub (G l7 1) (.int .i64 1) fun v32 => K8 .normal [G l7 0, v32, G l7 2, G l7 3, G l7 4, G l7 5, G l7 6, G l7 7, G l7 8, G l7 9, G l7 10, G l7 11] s27))))))) (K8 (.exit 0) [G l7 0, G l7 1, G l7 2, G l7 3, G l7 4, G l7 5, G l7 6, G l7 7, G l7 8, G l7 9, G l7 10, G l7 11] s9)) ([a0, v5, .bool false, .int .i64 0, .string ({ data := #[] }), .slice none 0 0, .slice none 0 0, .bool true, v4, .string ({ data := #[] }), .slice none 0 0, .slice none 0 0]) s6 fun x33 l34 s35 => match x33 with | .normal => AC P w0 n_p_spec_l1Rd_pick [G l34 0, .int .i64 6] s35 (fun v36 s37 => AC P w0 n_spec_l4Calls ([G l34 0, .agg (⟨[G l34 7, G l34 8, G l34 9, G l34 10, G l34 11]⟩), v36]) s37 fun v38 s39 => V true 5 v38 (R (.agg (⟨[C v38 0, C v38 1, C v38 2, C v38 3, C v38 4]⟩)) s39)) | .ret => R (.agg (⟨[G l34 2, G l34 3, G l34 4, G l34 5, G l34 6]⟩)) s35 | .exit i40 => (match Nat.beq i40 0 with | true => AC P w0 n_p_spec_l1Rd_pick [G l34 0, .int .i64 6] s35 (fun v41 s42 => AC P w0 n_spec_l4Calls ([G l34 0, .agg (⟨[G l34 7, G l34 8, G l34 9, G l34 10, G l34 11]⟩), v41]) s42 fun v43 s44 => V true 5 v43 (R (.agg (⟨[C v43 0, C v43 1, C v43 2, C v43 3, C v43 4]⟩)) s44)) | false => False))))
theorem vc_spec_l4Tree_eq (w0 : World) (a0 : Value) (σ : Vw) (R : Value → Vw → Prop) : vc_spec_l4Tree w0 a0 σ R = den Tryz.prog w0 kp_spec_l4Tree esc_spec_l4Tree (Tryz.f39.body.getD .skip) (entry Tryz.f39.ntmps [a0]) σ (retK Tryz.prog Tryz.f39.results.toList R) := by kernel_rfl
theorem ac_spec_l4Tree {w0 : World} {a0 : Value} {σ : Vw} {R : Value → Vw → Prop} (h : vc_spec_l4Tree w0 a0 σ R) : AC Tryz.prog w0 n_spec_l4Tree [a0] σ R := by
  refine ac_rule (fn := Tryz.f39) (c := Tryz.f39.body.getD .skip) kp_spec_l4Tree esc_spec_l4Tree Tryz.func39 (by kernel_rfl) (by kernel_rfl) ?_
  rw [← vc_spec_l4Tree_eq]
  exact h

/-- spec.l13Any -/
def kp_spec_l13Any : Nat → Keep
  | _ => ⟨[], [], [], .done, []⟩
def esc_spec_l13Any : Nat → Bool
  | _ => false
def vc_spec_l13Any (w0 : World) (a0 a1 : Value) (σ : Vw) (R : Value → Vw → Prop) : Prop :=
  V true 5 a1 (AC P w0 n_spec_l13Trail ([a0, .agg (⟨[C a1 0, C a1 1, C a1 2, C a1 3, C a1 4]⟩)]) σ fun v0 s1 => AC P w0 n_p_spec_l1Rd_pick [a0, .int .i64 20] s1 fun v2 s3 => B P 3 .eql v2 (.int .i64 0) fun v4 => Q v4 (AC P w0 n_spec_l13Spoil [a0, v0] s3 fun v5 s6 => R v5 s6) (R v0 s3))
theorem vc_spec_l13Any_eq (w0 : World) (a0 a1 : Value) (σ : Vw) (R : Value → Vw → Prop) : vc_spec_l13Any w0 a0 a1 σ R = den Tryz.prog w0 kp_spec_l13Any esc_spec_l13Any (Tryz.f40.body.getD .skip) (entry Tryz.f40.ntmps [a0, a1]) σ (retK Tryz.prog Tryz.f40.results.toList R) := by kernel_rfl
theorem ac_spec_l13Any {w0 : World} {a0 a1 : Value} {σ : Vw} {R : Value → Vw → Prop} (h : vc_spec_l13Any w0 a0 a1 σ R) : AC Tryz.prog w0 n_spec_l13Any [a0, a1] σ R := by
  refine ac_rule (fn := Tryz.f40) (c := Tryz.f40.body.getD .skip) kp_spec_l13Any esc_spec_l13Any Tryz.func40 (by kernel_rfl) (by kernel_rfl) ?_
  rw [← vc_spec_l13Any_eq]
  exact h

/-- spec.l13Mark -/
def kp_spec_l13Mark : Nat → Keep
  | _ => ⟨[], [], [], .done, []⟩
def esc_spec_l13Mark : Nat → Bool
  | 17 => true
  | 22 => true
  | 24 => true
  | _ => false
def vc_spec_l13Mark (w0 : World) (a0 a1 : Value) (σ : Vw) (R : Value → Vw → Prop) : Prop :=
  V true 5 a1 (AC P w0 n_spec_l4Path ([a0, .agg (⟨[C a1 0, C a1 1, C a1 2, C a1 3, C a1 4]⟩)]) σ fun v0 s1 => AC P w0 n_p_spec_l1Rd_pick [a0, .int .i64 4] s1 fun v2 s3 => B P 3 .eql v2 (.int .i64 0) fun v4 => V false 1 v0 (V false 1 v4 (V true 2 (.agg (⟨[v0, v4]⟩)) (AC P w0 n_p_spec_l1Rd_pick [a0, .int .i64 20] s3 fun v5 s6 => B P 3 .eql v5 (.int .i64 0) fun v7 => Q v7 (W w0 9 [] s6 fun n8 s9 => V false 1 (.slice (some (Addr.mk n8 0 none)) 0 0) (V true 2 (.agg (⟨[.slice (some (Addr.mk n8 0 none)) 0 0, v4]⟩)) (R (.agg (⟨[.slice (some (Addr.mk n8 0 none)) 0 0, v4]⟩)) s9))) (B P 3 .eql v5 (.int .i64 1) fun v10 => Q v10 (V false 1 (.string ({ data := #[] })) (V false 1 (.string ({ data := #[65] })) (V false 1 (.string ({ data := #[97] })) (W w0 9 ([.string ({ data := #[] }), .string ({ data := #[65] }), .string ({ data := #[97] })]) s6 fun n11 s12 => AC P w0 n_p_spec_l1Rd_of [a0, .slice (some (Addr.mk n11 0 none)) 3 3] s12 fun v13 s14 => V false 1 v13 (W w0 9 [v13] s14 fun n15 s16 => V false 1 (.slice (some (Addr.mk n15 0 none)) 1 1) (V true 2 (.agg (⟨[.slice (some (Addr.mk n15 0 none)) 1 1, v4]⟩)) (R (.agg (⟨[.slice (some (Addr.mk n15 0 none)) 1 1, v4]⟩)) s16))))))) (V true 2 (.agg (⟨[v0, v4]⟩)) (R (.agg (⟨[v0, v4]⟩)) s6)))))))
theorem vc_spec_l13Mark_eq (w0 : World) (a0 a1 : Value) (σ : Vw) (R : Value → Vw → Prop) : vc_spec_l13Mark w0 a0 a1 σ R = den Tryz.prog w0 kp_spec_l13Mark esc_spec_l13Mark (Tryz.f41.body.getD .skip) (entry Tryz.f41.ntmps [a0, a1]) σ (retK Tryz.prog Tryz.f41.results.toList R) := by kernel_rfl
theorem ac_spec_l13Mark {w0 : World} {a0 a1 : Value} {σ : Vw} {R : Value → Vw → Prop} (h : vc_spec_l13Mark w0 a0 a1 σ R) : AC Tryz.prog w0 n_spec_l13Mark [a0, a1] σ R := by
  refine ac_rule (fn := Tryz.f41) (c := Tryz.f41.body.getD .skip) kp_spec_l13Mark esc_spec_l13Mark Tryz.func41 (by kernel_rfl) (by kernel_rfl) ?_
  rw [← vc_spec_l13Mark_eq]
  exact h

/-- impl.TreeOk -/
def kp_impl_TreeOk : Nat → Keep
  | _ => ⟨[], [], [], .done, []⟩
def esc_impl_TreeOk : Nat → Bool
  | _ => false
def vc_impl_TreeOk (w0 : World) (a0 : Value) (σ : Vw) (R : Value → Vw → Prop) : Prop :=
  V true 5 a0 (Q (C a0 0) (AC P w0 n_impl_Tree_sound ([.agg (⟨[C a0 0, C a0 1, C a0 2, C a0 3, C a0 4]⟩), .int .i64 0]) σ fun v0 s1 => Q v0 (AC P w0 n_impl_Tree_paths ([.agg (⟨[C a0 0, C a0 1, C a0 2, C a0 3, C a0 4]⟩)]) s1 fun v2 s3 => B P 3 .leq v2 (.int .i64 31) fun v4 => R v4 s3) (R (.bool false) s1)) (R (.bool false) σ))
theorem vc_impl_TreeOk_eq (w0 : World) (a0 : Value) (σ : Vw) (R : Value → Vw → Prop) : vc_impl_TreeOk w0 a0 σ R = den Tryz.prog w0 kp_impl_TreeOk esc_impl_TreeOk (Tryz.f42.body.getD .skip) (entry Tryz.f42.ntmps [a0]) σ (retK Tryz.prog Tryz.f42.results.toList R) := by kernel_rfl
theorem ac_impl_TreeOk {w0 : World} {a0 : Value} {σ : Vw} {R : Value → Vw → Prop} (h : vc_impl_TreeOk w0 a0 σ R) : AC Tryz.prog w0 n_impl_TreeOk [a0] σ R := by
  refine ac_rule (fn := Tryz.f42) (c := Tryz.f42.body.getD .skip) kp_impl_TreeOk esc_impl_TreeOk Tryz.func42 (by kernel_rfl) (by kernel_rfl) ?_
  rw [← vc_impl_TreeOk_eq]
  exact h

/-- spec.TreeOk -/
def kp_spec_TreeOk : Nat → Keep
  | _ => ⟨[], [], [], .done, []⟩
def esc_spec_TreeOk : Nat → Bool
  | _ => false
def vc_spec_TreeOk (w0 : World) (a0 : Value) (σ : Vw) (R : Value → Vw → Prop) : Prop :=
  V true 5 a0 (Q (C a0 0) (AC P w0 n_spec_l1Parts ([.agg (⟨[C a0 0, C a0 1, C a0 2, C a0 3, C a0 4]⟩), .int .i64 0]) σ fun v0 s1 => Q v0 (AC P w0 n_spec_l1Count ([.agg (⟨[C a0 0, C a0 1, C a0 2, C a0 3, C a0 4]⟩)]) s1 fun v2 s3 => B P 3 .leq v2 (.int .i64 30) fun v4 => R v4 s3) (R (.bool false) s1)) (R (.bool false) σ))
theorem vc_spec_TreeOk_eq (w0 : World) (a0 : Value) (σ : Vw) (R : Value → Vw → Prop) : vc_spec_TreeOk w0 a0 σ R = den Tryz.prog w0 kp_spec_TreeOk esc_spec_TreeOk (Tryz.f44.body.getD .skip) (entry Tryz.f44.ntmps [a0]) σ (retK Tryz.prog Tryz.f44.results.toList R) := by kernel_rfl
theorem ac_spec_TreeOk {w0 : World} {a0 : Value} {σ : Vw} {R : Value → Vw → Prop} (h : vc_spec_TreeOk w0 a0 σ R) : AC Tryz.prog w0 n_spec_TreeOk [a0] σ R := by
  refine ac_rule (fn := Tryz.f44) (c := Tryz.f44.body.getD .skip) kp_spec_TreeOk esc_spec_TreeOk Tryz.func44 (by kernel_rfl) (by kernel_rfl) ?_
  rw [← vc_spec_TreeOk_eq]
  exact h

/-- laws.wtTexts -/
def kp_laws_wtTexts : Nat → Keep
  | 4 => ⟨[0, 1, 4, 5], [], [], .done, []⟩
  | 6 => ⟨[], [], [], .step 0 (.step 1 (.step 2 (.step 3 (.step 4 (.step 5 (.step 6 (.step 7 (.step 8 (.done))))))))), [(2, [0, 1]), (3, [0, 1, 2]), (6, [4, 5]), (7, [4, 5, 6]), (8, [0, 1, 2, 3, 4, 5, 6, 7])]⟩
  | _ => ⟨[], [], [], .done, []⟩
def esc_laws_wtTexts : Nat → Bool
  | _ => false
def vc_laws_wtTexts (w0 : World) (a0 a1 : Value) (σ : Vw) (R : Value → Vw → Prop) : Prop :=
  N a0 fun v0 => N a1 fun v1 => B P 3 .neq v0 v1 fun v2 => Q v2 (R (.bool false) σ) (pLoop (fun l3 K4 s5 => N (G l3 0) fun v6 => B P 3 .lss (G l3 3) v6 fun v7 => Q v7 (X 1 (G l3 0) (G l3 3) fun v8 => L w0 1 v8 s5 fun g9 => X 1 (G l3 1) (G l3 3) fun v10 => L w0 1 v10 s5 fun g11 => B P 9 .neq (g9 0) (g11 0) fun v12 => Q v12 (K4 .ret [G l3 0, G l3 1, .bool false, G l3 3] s5) (B P 3 .add (G l3 3) (.int .i64 1) fun v13 => K4 .normal [G l3 0, G l3 1, G l3 2, v13] s5)) (K4 (.exit 0) [G l3 0, G l3 1, G l3 2, G l3 3] s5)) [a0, a1, .bool false, .int .i64 0] σ fun x14 l15 s16 => match x14 with | .normal => R (.bool true) s16 | .ret => R (G l15 2) s16 | .exit i17 => (match Nat.beq i17 0 with | true => R (.bool true) s16 | false => False))
theorem vc_laws_wtTexts_eq (w0 : World) (a0 a1 : Value) (σ : Vw) (R : Value → Vw → Prop) : vc_laws_wtTexts w0 a0 a1 σ R = den Tryz.prog w0 kp_laws_wtTexts esc_laws_wtTexts (Tryz.f46.body.getD .skip) (entry Tryz.f46.ntmps [a0, a1]) σ (retK Tryz.prog Tryz.f46.results.toList R) := by kernel_rfl
theorem ac_laws_wtTexts {w0 : World} {a0 a1 : Value} {σ : Vw} {R : Value → Vw → Prop} (h : vc_laws_wtTexts w0 a0 a1 σ R) : AC Tryz.prog w0 n_laws_wtTexts [a0, a1] σ R := by
  refine ac_rule (fn := Tryz.f46) (c := Tryz.f46.body.getD .skip) kp_laws_wtTexts esc_laws_wtTexts Tryz.func46 (by kernel_rfl) (by kernel_rfl) ?_
  rw [← vc_laws_wtTexts_eq]
  exact h

/-- impl.markOk -/
def kp_impl_markOk : Nat → Keep
  | _ => ⟨[], [], [], .done, []⟩
def esc_impl_markOk : Nat → Bool
  | _ => false
def vc_impl_markOk (w0 : World) (a0 : Value) (σ : Vw) (R : Value → Vw → Prop) : Prop :=
  V true 2 a0 (AC P w0 n_impl_namesOk [C a0 0, .int .i64 0] σ fun v0 s1 => Q v0 (N (C a0 0) fun v2 => B P 3 .gtr v2 (.int .i64 0) fun v3 => Q v3 (R (.bool true) s1) (R (C a0 1) s1)) (R (.bool false) s1))
theorem vc_impl_markOk_eq (w0 : World) (a0 : Value) (σ : Vw) (R : Value → Vw → Prop) : vc_impl_markOk w0 a0 σ R = den Tryz.prog w0 kp_impl_markOk esc_impl_markOk (Tryz.f48.body.getD .skip) (entry Tryz.f48.ntmps [a0]) σ (retK Tryz.prog Tryz.f48.results.toList R) := by kernel_rfl
theorem ac_impl_markOk {w0 : World} {a0 : Value} {σ : Vw} {R : Value → Vw → Prop} (h : vc_impl_markOk w0 a0 σ R) : AC Tryz.prog w0 n_impl_markOk [a0] σ R := by
  refine ac_rule (fn := Tryz.f48) (c := Tryz.f48.body.getD .skip) kp_impl_markOk esc_impl_markOk Tryz.func48 (by kernel_rfl) (by kernel_rfl) ?_
  rw [← vc_impl_markOk_eq]
  exact h

/-- impl.cloneMarks -/
def kp_impl_cloneMarks : Nat → Keep
  | 3 => ⟨[3, 7, 8, 9], [], [], .done, []⟩
  | 5 => ⟨[], [], [], .step 0 (.step 2 (.step 3 (.step 5 (.step 6 (.step 1 (.step 4 (.step 7 (.step 8 (.step 9 (.step 10 (.done))))))))))), [(3, [2]), (4, [1, 2, 3]), (6, [5]), (7, [1, 2, 3, 4, 5, 6]), (8, [1, 2, 3, 4, 5, 6, 7]), (9, [0, 1, 2, 3, 4, 5, 6, 7, 8]), (10, [0, 1, 2, 3, 4, 5, 6, 7, 8, 9])]⟩
  | _ => ⟨[], [], [], .done, []⟩
def esc_impl_cloneMarks : Nat → Bool
  | 6 => true
  | 14 => true
  | _ => false
def vc_impl_cloneMarks (w0 : World) (a0 : Value) (σ : Vw) (R : Value → Vw → Prop) : Prop :=
  W w0 31 [] σ fun n0 s1 => N a0 fun v2 => pLoop (fun l3 K4 s5 => B P 3 .lss (G l3 3) (G l3 2) fun v6 => Q v6 (X 2 (G l3 1) (G l3 3) fun v7 => L w0 2 v7 s5 fun g8 => V true 2 (.agg (⟨[g8 0, g8 1]⟩)) (W w0 9 [] s5 fun n9 s10 => pAppendS w0 9 1 16 (.slice (some (Addr.mk n9 0 none)) 0 0) (g8 0) s10 fun v11 s12 => V false 1 v11 (V false 1 (g8 1) (V true 2 (.agg (⟨[v11, g8 1]⟩)) ((allOne [v11, g8 1]) ∧ (A w0 31 2 32 (G l3 0) 1 [v11, g8 1] s12 fun v13 s14 => B P 3 .add (G l3 3) (.int .i64 1) fun v15 => K4 .normal [v13, G l3 1, G l3 2, v15] s14)))))) (K4 (.exit 0) [G l3 0, G l3 1, G l3 2, G l3 3] s5)) [.slice (some (Addr.mk n0 0 none)) 0 0, a0, v2, .int .i64 0] s1 fun x16 l17 s18 => match x16 with | .normal => R (G l17 0) s18 | .ret => False | .exit i19 => (match Nat.beq i19 0 with | true => R (G l17 0) s18 | false => False)
theorem vc_impl_cloneMarks_eq (w0 : World) (a0 : Value) (σ : Vw) (R : Value → Vw → Prop) : vc_impl_cloneMarks w0 a0 σ R = den Tryz.prog w0 kp_impl_cloneMarks esc_impl_cloneMarks (Tryz.f49.body.getD .skip) (entry Tryz.f49.ntmps [a0]) σ (retK Tryz.prog Tryz.f49.results.toList R) := by kernel_rfl
theorem ac_impl_cloneMarks {w0 : World} {a0 : Value} {σ : Vw} {R : Value → Vw → Prop} (h : vc_impl_cloneMarks w0 a0 σ R) : AC Tryz.prog w0 n_impl_cloneMarks [a0] σ R := by
  refine ac_rule (fn := Tryz.f49) (c := Tryz.f49.body.getD .skip) kp_impl_cloneMarks esc_impl_cloneMarks Tryz.func49 (by kernel_rfl) (by kernel_rfl) ?_
  rw [← vc_impl_cloneMarks_eq]
  exact h

end Go.Proofs.YtkbhjejalkbogaaGreat

/- What each function owes, reckoned out, part 2. MADE BY PROGRAM (emit.py). -/
set_option linter.unusedVariables false
namespace Go.Proofs.YtkbhjejalkbogaaGreat
open Go.Av renaming vget → G, cellOf → C, pVal → V, pBin → B, pIndexAddr → X, pLoad → L, pField → F, pIf → Q, pExtract → E, pAppend → A, pLen → N, pNew → W
open Go.Proofs.Tryz renaming prog → P
open Go Go.Av

/-- impl.add -/
def kp_impl_add : Nat → Keep
  | 5 => ⟨[5, 29, 30, 31], [(3, 2)], [3], .done, []⟩
  | 12 => ⟨[5], [], [], .done, []⟩
  | 15 => ⟨[5, 8, 60, 61, 62], [], [], .done, []⟩
  | 17 => ⟨[], [], [], .step 0 (.step 1 (.step 2 (.step 3 (.step 4 (.step 5 (.step 6 (.step 7 (.step 8 (.step 9 (.done)))))))))), [(1, [0]), (2, [0, 1]), (5, [3, 4]), (6, [3, 4, 5]), (7, [3, 4, 5, 6]), (8, [3, 4, 5, 6, 7]), (9, [0, 1, 2, 3, 4, 5, 6, 7, 8])]⟩
  | _ => ⟨[], [], [], .done, []⟩
def esc_impl_add : Nat → Bool
  | 28 => true
  | _ => false
def vc_impl_add (w0 : World) (a0 a1 : Value) (σ : Vw) (R : Value → Vw → Prop) : Prop :=
  V true 2 a1 (AC P w0 n_impl_under [a0, C a1 0] σ fun v0 s1 => Q v0 (R a0 s1) (pUn .not (C a1 1) fun v2 => Q v2 (AC P w0 n_impl_marked [a0, C a1 0] s1 fun v3 s4 => Q v3 (R a0 s4) (W w0 31 [] s4 fun n5 s6 => N a0 fun v7 => pLoop (fun l8 K9 s10 => B P 3 .lss (G l8 3) (G l8 2) fun v11 => Q v11 (X 2 (G l8 1) (G l8 3) fun v12 => L w0 2 v12 s10 fun g13 => V true 2 (.agg (⟨[g13 0, g13 1]⟩)) (pUn .not (G l8 5) fun v14 => Q v14 (V true 2 (.agg (⟨[g13 0, g13 1]⟩)) ((allOne [g13 0, g13 1]) ∧ (A w0 31 2 32 (G l8 0) 1 [g13 0, g13 1] s10 fun v15 s16 => B P 3 .add (G l8 3) (.int .i64 1) fun v17 => K9 .normal [v15, G l8 1, G l8 2, v17, G l8 4, G l8 5] s16))) (AC P w0 n_impl_begins [g13 0, G l8 4] s10 fun v18 s19 => pUn .not v18 fun v20 => Q v20 (V true 2 (.agg (⟨[g13 0, g13 1]⟩)) ((allOne [g13 0, g13 1]) ∧ (A w0 31 2 32 (G l8 0) 1 [g13 0, g13 1] s19 fun v21 s22 => B P 3 .add (G l8 3) (.int .i64 1) fun v23 => K9 .normal [v21, G l8 1, G l8 2, v23, G l8 4, G l8 5] s22))) (B P 3 .add (G l8 3) (.int .i64 1) fun v24 => K9 .normal [G l8 0, G l8 1, G l8 2, v24, G l8 4, G l8 5] s19)))) (K9 (.exit 0) [G l8 0, G l8 1, G l8 2, G l8 3, G l8 4, G l8 5] s10)) [.slice (some (Addr.mk n5 0 none)) 0 0, a0, v7, .int .i64 0, C a1 0, C a1 1] s6 fun x25 l26 s27 => match x25 with | .normal => V true 2 (.agg (⟨[G l26 4, G l26 5]⟩)) ((allOne [G l26 4, G l26 5]) ∧ (A w0 31 2 32 (G l26 0) 1 [G l26 4, G l26 5] s27 fun v28 s29 => AC P w0 n_slices_SortFunc_impl_Mark_impl_Mark ([v28, .func (Fn.func 118) ⟨[]⟩ ⟨[]⟩]) s29 fun v30 s31 => pLoop (fun l32 K33 s34 => N (G l32 0) fun v35 => B P 3 .gtr v35 (.int .i64 6) fun v36 => Q v36 (N (G l32 0) fun v37 => pLoop (fun l38 K39 s40 => B P 3 .lss (G l38 4) (G l38 3) fun v41 => Q v41 (X 2 (G l38 2) (G l38 4) fun v42 => L w0 2 v42 s40 fun g43 => V true 2 (.agg (⟨[g43 0, g43 1]⟩)) (N (g43 0) fun v44 => X 2 (G l38 0) (G l38 1) fun v45 => F 0 v45 fun v46 => L w0 1 v46 s40 fun g47 => N (g47 0) fun v48 => B P 3 .geq v44 v48 fun v49 => Q v49 (B P 3 .add (G l38 4) (.int .i64 1) fun v50 => K39 .normal [G l38 0, G l38 4, G l38 2, G l38 3, v50] s40) (B P 3 .add (G l38 4) (.int .i64 1) fun v51 => K39 .normal [G l38 0, G l38 1, G l38 2, G l38 3, v51] s40))) (K39 (.exit 4) [G l38 0, G l38 1, G l38 2, G l38 3, G l38 4] s40)) [G l32 0, .int .i64 0, G l32 0, v37, .int .i64 0] s34 fun x52 l53 s54 => match x52 with | .normal => X 2 (G l53 0) (G l53 1) (fun v55 => F 0 v55 fun v56 => L w0 1 v56 s54 fun g57 => B P 3 .add (G l53 1) (.int .i64 1) fun v58 => AC P w0 n_slices_Delete_impl_Mark_impl_Mark [G l53 0, G l53 1, v58] s54 fun v59 s60 => N (g57 0) fun v61 => B P 3 .sub v61 (.int .i64 1) fun v62 => pSlice 1 (g57 0) none (some v62) fun v63 => V false 1 v63 (V false 1 (.bool true) (AC P w0 n_impl_add ([v59, .agg (⟨[v63, .bool true]⟩)]) s60 fun v64 s65 => K33 .normal [v64] s65))) | .ret => K33 .ret [G l53 0] s54 | .exit i66 => (match Nat.beq i66 4 with | true => X 2 (G l53 0) (G l53 1) (fun v67 => F 0 v67 fun v68 => L w0 1 v68 s54 fun g69 => B P 3 .add (G l53 1) (.int .i64 1) fun v70 => AC P w0 n_slices_Delete_impl_Mark_impl_Mark [G l53 0, G l53 1, v70] s54 fun v71 s72 => N (g69 0) fun v73 => B P 3 .sub v73 (.int .i64 1) fun v74 => pSlice 1 (g69 0) none (some v74) fun v75 => V false 1 v75 (V false 1 (.bool true) (AC P w0 n_impl_add ([v71, .agg (⟨[v75, .bool true]⟩)]) s72 fun v76 s77 => K33 .normal [v76] s77))) | false => (match Nat.beq i66 3 with | true => K33 .normal [G l53 0] s54 | false => K33 (.exit i66) [G l53 0] s54))) (K33 (.exit 2) [G l32 0] s34)) [v28] s31 fun x78 l79 s80 => match x78 with | .normal => R (G l79 0) s80 | .ret => False | .exit i81 => (match Nat.beq i81 2 with | true => R (G l79 0) s80 | false => False))) | .ret => False | .exit i82 => (match Nat.beq i82 0 with | true => V true 2 (.agg (⟨[G l26 4, G l26 5]⟩)) ((allOne [G l26 4, G l26 5]) ∧ (A w0 31 2 32 (G l26 0) 1 [G l26 4, G l26 5] s27 fun v83 s84 => AC P w0 n_slices_SortFunc_impl_Mark_impl_Mark ([v83, .func (Fn.func 118) ⟨[]⟩ ⟨[]⟩]) s84 fun v85 s86 => pLoop (fun l87 K88 s89 => N (G l87 0) fun v90 => B P 3 .gtr v90 (.int .i64 6) fun v91 => Q v91 (N (G l87 0) fun v92 => pLoop (fun l93 K94 s95 => B P 3 .lss (G l93 4) (G l93 3) fun v96 => Q v96 (X 2 (G l93 2) (G l93 4) fun v97 => L w0 2 v97 s95 fun g98 => V true 2 (.agg (⟨[g98 0, g98 1]⟩)) (N (g98 0) fun v99 => X 2 (G l93 0) (G l93 1) fun v100 => F 0 v100 fun v101 => L w0 1 v101 s95 fun g102 => N (g102 0) fun v103 => B P 3 .geq v99 v103 fun v104 => Q v104 (B P 3 .add (G l93 4) (.int .i64 1) fun v105 => K94 .normal [G l93 0, G l93 4, G l93 2, G l93 3, v105] s95) (B P 3 .add (G l93 4) (.int .i64 1) fun v106 => K94 .normal [G l93 0, G l93 1, G l93 2, G l93 3, v106] s95))) (K94 (.exit 4) [G l93 0, G l93 1, G l93 2, G l93 3, G l93 4] s95)) [G l87 0, .int .i64 0, G l87 0, v92, .int .i64 0] s89 fun x107 l108 s109 => match x107 with | .normal => X 2 (G l108 0) (G l108 1) (fun v110 => F 0 v110 fun v111 => L w0 1 v111 s109 fun g112 => B P 3 .add (G l108 1) (.int .i64 1) fun v113 => AC P w0 n_slices_Delete_impl_Mark_impl_Mark [G l108 0, G l108 1, v113] s109 fun v114 s115 => N (g112 0) fun v116 => B P 3 .sub v116 (.int .i64 1) fun v117 => pSlice 1 (g112 0) none (some v117) fun v118 => V false 1 v118 (V false 1 (.bool true) (AC P w0 n_impl_add ([v114, .agg (⟨[v118, .bool true]⟩)]) s115 fun v119 s120 => K88 .normal [v119] s120))) | .ret => K88 .ret [G l108 0] s109 | .exit i121 => (match Nat.beq i121 4 with | true => X 2 (G l108 0) (G l108 1) (fun v122 => F 0 v122 fun v123 => L w0 1 v123 s109 fun g124 => B P 3 .add (G l108 1) (.int .i64 1) fun v125 => AC P w0 n_slices_Delete_impl_Mark_impl_Mark [G l108 0, G l108 1, v125] s109 fun v126 s127 => N (g124 0) fun v128 => B P 3 .sub v128 (.int .i64 1) fun v129 => pSlice 1 (g124 0) none (some v129) fun v130 => V false 1 v130 (V false 1 (.bool true) (AC P w0 n_impl_add ([v126, .agg (⟨[v130, .bool true]⟩)]) s127 fun v131 s132 => K88 .normal [v131] s132))) | false => (match Nat.beq i121 3 with | true => K88 .normal [G l108 0] s109 | false => K88 (.exit i121) [G l108 0] s109))) (K88 (.exit 2) [G l87 0] s89)) [v83] s86 fun x133 l134 s135 => match x133 with | .normal => R (G l134 0) s135 | .ret => False | .exit i136 => (match Nat.beq i136 2 with | true => R (G l134 0) s135 | false => False))) | false => False))) (W w0 31 [] s1 fun n137 s138 => N a0 fun v139 => pLoop (fun l140 K141 s142 => B P 3 .lss (G l140 3) (G l140 2) fun v143 => Q v143 (X 2 (G l140 1) (G l140 3) fun v144 => L w0 2 v144 s142 fun g145 => V true 2 (.agg (⟨[g145 0, g145 1]⟩)) (pUn .not (G l140 5) fun v146 => Q v146 (V true 2 (.agg (⟨[g145 0, g145 1]⟩)) ((allOne [g145 0, g145 1]) ∧ (A w0 31 2 32 (G l140 0) 1 [g145 0, g145 1] s142 fun v147 s148 => B P 3 .add (G l140 3) (.int .i64 1) fun v149 => K141 .normal [v147, G l140 1, G l140 2, v149, G l140 4, G l140 5] s148))) (AC P w0 n_impl_begins [g145 0, G l140 4] s142 fun v150 s151 => pUn .not v150 fun v152 => Q v152 (V true 2 (.agg (⟨[g145 0, g145 1]⟩)) ((allOne [g145 0, g145 1]) ∧ (A w0 31 2 32 (G l140 0) 1 [g145 0, g145 1] s151 fun v153 s154 => B P 3 .add (G l140 3) (.int .i64 1) fun v155 => K141 .normal [v153, G l140 1, G l140 2, v155, G l140 4, G l140 5] s154))) (B P 3 .add (G l140 3) (.int .i64 1) fun v156 => K141 .normal [G l140 0, G l140 1, G l140 2, v156, G l140 4, G l140 5] s151)))) (K141 (.exit 0) [G l140 0, G l140 1, G l140 2, G l140 3, G l140 4, G l140 5] s142)) [.slice (some (Addr.mk n137 0 none)) 0 0, a0, v139, .int .i64 0, C a1 0, C a1 1] s138 fun x157 l158 s159 => match x157 with | .normal => V true 2 (.agg (⟨[G l158 4, G l158 5]⟩)) ((allOne [G l158 4, G l158 5]) ∧ (A w0 31 2 32 (G l158 0) 1 [G l158 4, G l158 5] s159 fun v160 s161 => AC P w0 n_slices_SortFunc_impl_Mark_impl_Mark ([v160, .func (Fn.func 118) ⟨[]⟩ ⟨[]⟩]) s161 fun v162 s163 => pLoop (fun l164 K165 s166 => N (G l164 0) fun v167 => B P 3 .gtr v167 (.int .i64 6) fun v168 => Q v168 (N (G l164 0) fun v169 => pLoop (fun l170 K171 s172 => B P 3 .lss (G l170 4) (G l170 3) fun v173 => Q v173 (X 2 (G l170 2) (G l170 4) fun v174 => L w0 2 v174 s172 fun g175 => V true 2 (.agg (⟨[g175 0, g175 1]⟩)) (N (g175 0) fun v176 => X 2 (G l170 0) (G l170 1) fun v177 => F 0 v177 fun v178 => L w0 1 v178 s172 fun g179 => N (g179 0) fun v180 => B P 3 .geq v176 v180 fun v181 => Q v181 (B P 3 .add (G l170 4) (.int .i64 1) fun v182 => K171 .normal [G l170 0, G l170 4, G l170 2, G l170 3, v182] s172) (B P 3 .add (G l170 4) (.int .i64 1) fun v183 => K171 .normal [G l170 0, G l170 1, G l170 2, G l170 3, v183] s172))) (K171 (.exit 4) [G l170 0, G l170 1, G l170 2, G l170 3, G l170 4] s172)) [G l164 0, .int .i64 0, G l164 0, v169, .int .i64 0] s166 fun x184 l185 s186 => match x184 with | .normal => X 2 (G l185 0) (G l185 1) (fun v187 => F 0 v187 fun v188 => L w0 1 v188 s186 fun g189 => B P 3 .add (G l185 1) (.int .i64 1) fun v190 => AC P w0 n_slices_Delete_impl_Mark_impl_Mark [G l185 0, G l185 1, v190] s186 fun v191 s192 => N (g189 0) fun v193 => B P 3 .sub v193 (.int .i64 1) fun v194 => pSlice 1 (g189 0) none (some v194) fun v195 => V false 1 v195 (V false 1 (.bool true) (AC P w0 n_impl_add ([v191, .agg (⟨[v195, .bool true]⟩)]) s192 fun v196 s197 => K165 .normal [v196] s197))) | .ret => K165 .ret [G l185 0] s186 | .exit i198 => (match Nat.beq i198 4 with | true => X 2 (G l185 0) (G l185 1) (fun v199 => F 0 v199 fun v200 => L w0 1 v200 s186 fun g201 => B P 3 .add (G l185 1) (.int .i64 1) fun v202 => AC P w0 n_slices_Delete_impl_Mark_impl_Mark [G l185 0, G l185 1, v202] s186 fun v203 s204 => N (g201 0) fun v205 => B P 3 .sub v205 (.int .i64 1) fun v206 => pSlice 1 (g201 0) none (some v206) fun v207 => V false 1 v207 (V false 1 (.bool true) (AC P w0 n_impl_add ([v203, .agg (⟨[v207, .bool true]⟩)]) s204 fun v208 s209 => K165 .normal [v208] s209))) | false => (match Nat.beq i198 3 with | true => K165 .normal [G l185 0] s186 | false => K165 (.exit i198) [G l185 0] s186))) (K165 (.exit 2) [G l164 0] s166)) [v160] s163 fun x210 l211 s212 => match x210 with | .normal => R (G l211 0) s212 | .ret => False | .exit i213 => (match Nat.beq i213 2 with | true => R (G l211 0) s212 | false => False))) | .ret => False | .exit i214 => (match Nat.beq i214 0 with | true => V true 2 (.agg (⟨[G l158 4, G l158 5]⟩)) ((allOne [G l158 4, G l158 5]) ∧ (A w0 31 2 32 (G l158 0) 1 [G l158 4, G l158 5] s159 fun v215 s216 => AC P w0 n_slices_SortFunc_impl_Mark_impl_Mark ([v215, .func (Fn.func 118) ⟨[]⟩ ⟨[]⟩]) s216 fun v217 s218 => pLoop (fun l219 K220 s221 => N (G l219 0) fun v222 => B P 3 .gtr v222 (.int .i64 6) fun v223 => Q v223 (N (G l219 0) fun v224 => pLoop (fun l225 K226 s227 => B P 3 .lss (G l225 4) (G l225 3) fun v228 => Q v228 (X 2 (G l225 2) (G l225 4) fun v229 => L w0 2 v229 s227 fun g230 => V true 2 (.agg (⟨[g230 0, g230 1]⟩)) (N (g230 0) fun v231 => X 2 (G l225 0) (G l225 1) fun v232 => F 0 v232 fun v233 => L w0 1 v233 s227 fun g234 => N (g234 0) fun v235 => B P 3 .geq v231 v235 fun v236 => Q v236 (B P 3 .add (G l225 4) (.int .i64 1) fun v237 => K226 .normal [G l225 0, G l225 4, G l225 2, G l225 3, v237] s227) (B P 3 .add (G l225 4) (.int .i64 1) fun v238 => K226 .normal [G l225 0, G l225 1, G l225 2, G l225 3, v238] s227))) (K226 (.exit 4) [G l225 0, G l225 1, G l225 2, G l225 3, G l225 4] s227)) [G l219 0, .int .i64 0, G l219 0, v224, .int .i64 0] s221 fun x239 l240 s241 => match x239 with | .normal => X 2 (G l240 0) (G l240 1) (fun v242 => F 0 v242 fun v243 => L w0 1 v243 s241 fun g244 => B P 3 .add (G l240 1) (.int .i64 1) fun v245 => AC P w0 n_slices_Delete_impl_Mark_impl_Mark [G l240 0, G l240 1, v245] s241 fun v246 s247 => N (g244 0) fun v248 => B P 3 .sub v248 (.int .i64 1) fun v249 => pSlice 1 (g244 0) none (some v249) fun v250 => V false 1 v250 (V false 1 (.bool true) (AC P w0 n_impl_add ([v246, .agg (⟨[v250, .bool true]⟩)]) s247 fun v251 s252 => K220 .normal [v251] s252))) | .ret => K220 .ret [G l240 0] s241 | .exit i253 => (match Nat.beq i253 4 with | true => X 2 (G l240 0) (G l240 1) (fun v254 => F 0 v254 fun v255 => L w0 1 v255 s241 fun g256 => B P 3 .add (G l240 1) (.int .i64 1) fun v257 => AC P w0 n_slices_Delete_impl_Mark_impl_Mark [G l240 0, G l240 1, v257] s241 fun v258 s259 => N (g256 0) fun v260 => B P 3 .sub v260 (.int .i64 1) fun v261 => pSlice 1 (g256 0) none (some v261) fun v262 => V false 1 v262 (V false 1 (.bool true) (AC P w0 n_impl_add ([v258, .agg (⟨[v262, .bool true]⟩)]) s259 fun v263 s264 => K220 .normal [v263] s264))) | false => (match Nat.beq i253 3 with | true => K220 .normal [G l240 0] s241 | false => K220 (.exit i253) [G l240 0] s241))) (K220 (.exit 2) [G l219 0] s221)) [v215] s218 fun x265 l266 s267 => match x265 with | .normal => R (G l266 0) s267 | .ret => False | .exit i268 => (match Nat.beq i268 2 with | true => R (G l266 0) s267 | false => False))) | false => False))))
theorem vc_impl_add_eq (w0 : World) (a0 a1 : Value) (σ : Vw) (R : Value → Vw → Prop) : vc_impl_add w0 a0 a1 σ R = den Tryz.prog w0 kp_impl_add esc_impl_add (Tryz.f50.body.getD .skip) (entry Tryz.f50.ntmps [a0, a1]) σ (retK Tryz.prog Tryz.f50.results.toList R) := by kernel_rfl
theorem ac_impl_add {w0 : World} {a0 a1 : Value} {σ : Vw} {R : Value → Vw → Prop} (h : vc_impl_add w0 a0 a1 σ R) : AC Tryz.prog w0 n_impl_add [a0, a1] σ R := by
  refine ac_rule (fn := Tryz.f50) (c := Tryz.f50.body.getD .skip) kp_impl_add esc_impl_add Tryz.func50 (by kernel_rfl) (by kernel_rfl) ?_
  rw [← vc_impl_add_eq]
  exact h

def esc_laws_szStringS : Nat → Bool
  | _ => false
/-- laws.toStringS -/
def kp_laws_toStringS : Nat → Keep
  | 3 => ⟨[0, 3, 4], [], [], .done, []⟩
  | _ => ⟨[], [], [], .done, []⟩
/-- laws.eqStringS -/
def kp_laws_eqStringS : Nat → Keep
  | 4 => ⟨[0, 1, 4, 5], [], [], .done, []⟩
  | 6 => ⟨[], [], [], .step 0 (.step 1 (.step 2 (.step 3 (.step 4 (.step 5 (.step 6 (.step 7 (.step 8 (.done))))))))), [(2, [0, 1]), (3, [0, 1, 2]), (6, [4, 5]), (7, [4, 5, 6]), (8, [0, 1, 2, 3, 4, 5, 6, 7])]⟩
  | _ => ⟨[], [], [], .done, []⟩
/-- laws.markStringS -/
def kp_laws_markStringS : Nat → Keep
  | 2 => ⟨[0, 1, 5], [], [], .done, []⟩
  | _ => ⟨[], [], [], .done, []⟩
/-- spec.l11Copy -/
def kp_spec_l11Copy : Nat → Keep
  | 3 => ⟨[0, 3, 4], [], [], .done, []⟩
  | 5 => ⟨[], [], [], .step 0 (.step 2 (.step 3 (.step 4 (.step 5 (.step 6 (.step 8 (.step 9 (.step 10 (.step 11 (.step 12 (.step 1 (.step 7 (.step 13 (.step 14 (.step 15 (.step 16 (.done))))))))))))))))), [(4, [2, 3]), (5, [2, 3, 4]), (6, [2, 3, 4, 5]), (7, [1, 2, 3, 4, 5, 6]), (10, [8, 9]), (11, [8, 9, 10]), (12, [8, 9, 10, 11]), (13, [1, 2, 3, 4, 5, 6, 7, 8, 9, 10, 11, 12]), (14, [1, 2, 3, 4, 5, 6, 7, 8, 9, 10, 11, 12, 13]), (15, [0, 1, 2, 3, 4, 5, 6, 7, 8, 9, 10, 11, 12, 13, 14]), (16, [0, 1, 2, 3, 4, 5, 6, 7, 8, 9, 10, 11, 12, 13, 14, 15])]⟩
  | _ => ⟨[], [], [], .done, []⟩
def esc_spec_l11Copy : Nat → Bool
  | 5 => true
  | 13 => true
  | _ => false
def vc_spec_l11Copy (w0 : World) (a0 : Value) (σ : Vw) (R : Value → Vw → Prop) : Prop :=
  W w0 31 [] σ fun n0 s1 => pLoop (fun l2 K3 s4 => N (G l2 0) fun v5 => B P 3 .lss (G l2 2) v5 fun v6 => Q v6 (X 2 (G l2 0) (G l2 2) fun v7 => F 0 v7 fun v8 => L w0 1 v8 s4 fun g9 => X 2 (G l2 0) (G l2 2) fun v10 => F 1 v10 fun v11 => L w0 1 v11 s4 fun g12 => W w0 9 [] s4 fun n13 s14 => (Stay w0 s4 s14 v11 1) ∧ ((Stay w0 s4 s14 v8 1) ∧ (pAppendS w0 9 1 16 (.slice (some (Addr.mk n13 0 none)) 0 0) (g9 0) s14 fun v15 s16 => (Stay w0 s14 s16 v11 1) ∧ (V false 1 v15 (V false 1 (g12 0) (V true 2 (.agg (⟨[v15, g12 0]⟩)) ((allOne [v15, g12 0]) ∧ (A w0 31 2 32 (G l2 1) 1 [v15, g12 0] s16 fun v17 s18 => B P 3 .add (G l2 2) (.int .i64 1) fun v19 => K3 .normal [G l2 0, v17, v19] s18)))))))) (K3 (.exit 0) [G l2 0, G l2 1, G l2 2] s4)) [a0, .slice (some (Addr.mk n0 0 none)) 0 0, .int .i64 0] s1 fun x20 l21 s22 => match x20 with | .normal => R (G l21 1) s22 | .ret => False | .exit i23 => (match Nat.beq i23 0 with | true => R (G l21 1) s22 | false => False)
theorem vc_spec_l11Copy_eq (w0 : World) (a0 : Value) (σ : Vw) (R : Value → Vw → Prop) : vc_spec_l11Copy w0 a0 σ R = den Tryz.prog w0 kp_spec_l11Copy esc_spec_l11Copy (Tryz.f66.body.getD .skip) (entry Tryz.f66.ntmps [a0]) σ (retK Tryz.prog Tryz.f66.results.toList R) := by kernel_rfl
theorem ac_spec_l11Copy {w0 : World} {a0 : Value} {σ : Vw} {R : Value → Vw → Prop} (h : vc_spec_l11Copy w0 a0 σ R) : AC Tryz.prog w0 n_spec_l11Copy [a0] σ R := by
  refine ac_rule (fn := Tryz.f66) (c := Tryz.f66.body.getD .skip) kp_spec_l11Copy esc_spec_l11Copy Tryz.func66 (by kernel_rfl) (by kernel_rfl) ?_
  rw [← vc_spec_l11Copy_eq]
  exact h

/-- spec.l11MarkOk -/
def kp_spec_l11MarkOk : Nat → Keep
  | _ => ⟨[], [], [], .done, []⟩
def esc_spec_l11MarkOk : Nat → Bool
  | _ => false
def vc_spec_l11MarkOk (w0 : World) (a0 : Value) (σ : Vw) (R : Value → Vw → Prop) : Prop :=
  V true 2 a0 (N (C a0 0) fun v0 => B P 3 .eql v0 (.int .i64 0) fun v1 => Q v1 (R (C a0 1) σ) (AC P w0 n_spec_l2PathOk [C a0 0] σ fun v2 s3 => R v2 s3))
theorem vc_spec_l11MarkOk_eq (w0 : World) (a0 : Value) (σ : Vw) (R : Value → Vw → Prop) : vc_spec_l11MarkOk w0 a0 σ R = den Tryz.prog w0 kp_spec_l11MarkOk esc_spec_l11MarkOk (Tryz.f67.body.getD .skip) (entry Tryz.f67.ntmps [a0]) σ (retK Tryz.prog Tryz.f67.results.toList R) := by kernel_rfl
theorem ac_spec_l11MarkOk {w0 : World} {a0 : Value} {σ : Vw} {R : Value → Vw → Prop} (h : vc_spec_l11MarkOk w0 a0 σ R) : AC Tryz.prog w0 n_spec_l11MarkOk [a0] σ R := by
  refine ac_rule (fn := Tryz.f67) (c := Tryz.f67.body.getD .skip) kp_spec_l11MarkOk esc_spec_l11MarkOk Tryz.func67 (by kernel_rfl) (by kernel_rfl) ?_
  rw [← vc_spec_l11MarkOk_eq]
  exact h

/-- spec.l11Put -/
def kp_spec_l11Put : Nat → Keep
  | 6 => ⟨[0, 5, 6, 7], [(3, 2)], [3], .done, []⟩
  | _ => ⟨[], [], [], .done, []⟩
def esc_spec_l11Put : Nat → Bool
  | 25 => true
  | _ => false
def vc_spec_l11Put (w0 : World) (a0 a1 : Value) (σ : Vw) (R : Value → Vw → Prop) : Prop :=
  V true 2 a1 (AC P w0 n_spec_l11Under [a0, C a1 0] σ fun v0 s1 => Q v0 (R a0 s1) (pUn .not (C a1 1) fun v2 => Q v2 (AC P w0 n_spec_l11Marked [a0, C a1 0] s1 fun v3 s4 => Q v3 (R a0 s4) (W w0 31 [] s4 fun n5 s6 => pLoop (fun l7 K8 s9 => N (G l7 0) fun v10 => B P 3 .lss (G l7 3) v10 fun v11 => Q v11 (X 2 (G l7 0) (G l7 3) fun v12 => L w0 2 v12 s9 fun g13 => V true 2 (.agg (⟨[g13 0, g13 1]⟩)) (Q (G l7 5) (AC P w0 n_spec_l2Within [g13 0, G l7 4] s9 fun v14 s15 => Q v14 (B P 3 .add (G l7 3) (.int .i64 1) fun v16 => K8 .normal [G l7 0, G l7 1, G l7 2, v16, G l7 4, G l7 5] s15) (pUn .not (G l7 2) fun v17 => Q v17 (AC P w0 n_spec_l11Less [G l7 4, g13 0] s15 fun v18 s19 => Q v18 (V true 2 (.agg (⟨[G l7 4, G l7 5]⟩)) ((allOne [G l7 4, G l7 5]) ∧ (A w0 31 2 32 (G l7 1) 1 [G l7 4, G l7 5] s19 fun v20 s21 => V true 2 (.agg (⟨[g13 0, g13 1]⟩)) ((allOne [g13 0, g13 1]) ∧ (A w0 31 2 32 v20 1 [g13 0, g13 1] s21 fun v22 s23 => B P 3 .add (G l7 3) (.int .i64 1) fun v24 => K8 .normal [G l7 0, v22, .bool true, v24, G l7 4, G l7 5] s23))))) (V true 2 (.agg (⟨[g13 0, g13 1]⟩)) ((allOne [g13 0, g13 1]) ∧ (A w0 31 2 32 (G l7 1) 1 [g13 0, g13 1] s19 fun v25 s26 => B P 3 .add (G l7 3) (.int .i64 1) fun v27 => K8 .normal [G l7 0, v25, G l7 2, v27, G l7 4, G l7 5] s26)))) (V true 2 (.agg (⟨[g13 0, g13 1]⟩)) ((allOne [g13 0, g13 1]) ∧ (A w0 31 2 32 (G l7 1) 1 [g13 0, g13 1] s15 fun v28 s29 => B P 3 .add (G l7 3) (.int .i64 1) fun v30 => K8 .normal [G l7 0, v28, G l7 2, v30, G l7 4, G l7 5] s29))))) (pUn .not (G l7 2) fun v31 => Q v31 (AC P w0 n_spec_l11Less [G l7 4, g13 0] s9 fun v32 s33 => Q v32 (V true 2 (.agg (⟨[G l7 4, G l7 5]⟩)) ((allOne [G l7 4, G l7 5]) ∧ (A w0 31 2 32 (G l7 1) 1 [G l7 4, G l7 5] s33 fun v34 s35 => V true 2 (.agg (⟨[g13 0, g13 1]⟩)) ((allOne [g13 0, g13 1]) ∧ (A w0 31 2 32 v34 1 [g13 0, g13 1] s35 fun v36 s37 => B P 3 .add (G l7 3) (.int .i64 1) fun v38 => K8 .normal [G l7 0, v36, .bool true, v38, G l7 4, G l7 5] s37))))) (V true 2 (.agg (⟨[g13 0, g13 1]⟩)) ((allOne [g13 0, g13 1]) ∧ (A w0 31 2 32 (G l7 1) 1 [g13 0, g13 1] s33 fun v39 s40 => B P 3 .add (G l7 3) (.int .i64 1) fun v41 => K8 .normal [G l7 0, v39, G l7 2, v41, G l7 4, G l7 5] s40)))) (V true 2 (.agg (⟨[g13 0, g13 1]⟩)) ((allOne [g13 0, g13 1]) ∧ (A w0 31 2 32 (G l7 1) 1 [g13 0, g13 1] s9 fun v42 s43 => B P 3 .add (G l7 3) (.int .i64 1) fun v44 => K8 .normal [G l7 0, v42, G l7 2, v44, G l7 4, G l7 5] s43)))))) (K8 (.exit 0) [G l7 0, G l7 1, G l7 2, G l7 3, G l7 4, G l7 5] s9)) [a0, .slice (some (Addr.mk n5 0 none)) 0 0, .bool false, .int .i64 0, C a1 0, C a1 1] s6 fun x45 l46 s47 => match x45 with | .normal => pUn .not (G l46 2) (fun v48 => Q v48 (V true 2 (.agg (⟨[G l46 4, G l46 5]⟩)) ((allOne [G l46 4, G l46 5]) ∧ (A w0 31 2 32 (G l46 1) 1 [G l46 4, G l46 5] s47 fun v49 s50 => R v49 s50))) (R (G l46 1) s47)) | .ret => False | .exit i51 => (match Nat.beq i51 0 with | true => pUn .not (G l46 2) (fun v52 => Q v52 (V true 2 (.agg (⟨[G l46 4, G l46 5]⟩)) ((allOne [G l46 4, G l46 5]) ∧ (A w0 31 2 32 (G l46 1) 1 [G l46 4, G l46 5] s47 fun v53 s54 => R v53 s54))) (R (G l46 1) s47)) | false => False))) (W w0 31 [] s1 fun n55 s56 => pLoop (fun l57 K58 s59 => N (G l57 0) fun v60 => B P 3 .lss (G l57 3) v60 fun v61 => Q v61 (X 2 (G l57 0) (G l57 3) fun v62 => L w0 2 v62 s59 fun g63 => V true 2 (.agg (⟨[g63 0, g63 1]⟩)) (Q (G l57 5) (AC P w0 n_spec_l2Within [g63 0, G l57 4] s59 fun v64 s65 => Q v64 (B P 3 .add (G l57 3) (.int .i64 1) fun v66 => K58 .normal [G l57 0, G l57 1, G l57 2, v66, G l57 4, G l57 5] s65) (pUn .not (G l57 2) fun v67 => Q v67 (AC P w0 n_spec_l11Less [G l57 4, g63 0] s65 fun v68 s69 => Q v68 (V true 2 (.agg (⟨[G l57 4, G l57 5]⟩)) ((allOne [G l57 4, G l57 5]) ∧ (A w0 31 2 32 (G l57 1) 1 [G l57 4, G l57 5] s69 fun v70 s71 => V true 2 (.agg (⟨[g63 0, g63 1]⟩)) ((allOne [g63 0, g63 1]) ∧ (A w0 31 2 32 v70 1 [g63 0, g63 1] s71 fun v72 s73 => B P 3 .add (G l57 3) (.int .i64 1) fun v74 => K58 .normal [G l57 0, v72, .bool true, v74, G l57 4, G l57 5] s73))))) (V true 2 (.agg (⟨[g63 0, g63 1]⟩)) ((allOne [g63 0, g63 1]) ∧ (A w0 31 2 32 (G l57 1) 1 [g63 0, g63 1] s69 fun v75 s76 => B P 3 .add (G l57 3) (.int .i64 1) fun v77 => K58 .normal [G l57 0, v75, G l57 2, v77, G l57 4, G l57 5] s76)))) (V true 2 (.agg (⟨[g63 0, g63 1]⟩)) ((allOne [g63 0, g63 1]) ∧ (A w0 31 2 32 (G l57 1) 1 [g63 0, g63 1] s65 fun v78 s79 => B P 3 .add (G l57 3) (.int .i64 1) fun v80 => K58 .normal [G l57 0, v78, G l57 2, v80, G l57 4, G l57 5] s79))))) (pUn .not (G l57 2) fun v81 => Q v81 (AC P w0 n_spec_l11Less [G l57 4, g63 0] s59 fun v82 s83 => Q v82 (V true 2 (.agg (⟨[G l57 4, G l57 5]⟩)) ((allOne [G l57 4, G l57 5]) ∧ (A w0 31 2 32 (G l57 1) 1 [G l57 4, G l57 5] s83 fun v84 s85 => V true 2 (.agg (⟨[g63 0, g63 1]⟩)) ((allOne [g63 0, g63 1]) ∧ (A w0 31 2 32 v84 1 [g63 0, g63 1] s85 fun v86 s87 => B P 3 .add (G l57 3) (.int .i64 1) fun v88 => K58 .normal [G l57 0, v86, .bool true, v88, G l57 4, G l57 5] s87))))) (V true 2 (.agg (⟨[g63 0, g63 1]⟩)) ((allOne [g63 0, g63 1]) ∧ (A w0 31 2 32 (G l57 1) 1 [g63 0, g63 1] s83 fun v89 s90 => B P 3 .add (G l57 3) (.int .i64 1) fun v91 => K58 .normal [G l57 0, v89, G l57 2, v91, G l57 4, G l57 5] s90)))) (V true 2 (.agg (⟨[g63 0, g63 1]⟩)) ((allOne [g63 0, g63 1]) ∧ (A w0 31 2 32 (G l57 1) 1 [g63 0, g63 1] s59 fun v92 s93 => B P 3 .add (G l57 3) (.int .i64 1) fun v94 => K58 .normal [G l57 0, v92, G l57 2, v94, G l57 4, G l57 5] s93)))))) (K58 (.exit 0) [G l57 0, G l57 1, G l57 2, G l57 3, G l57 4, G l57 5] s59)) [a0, .slice (some (Addr.mk n55 0 none)) 0 0, .bool false, .int .i64 0, C a1 0, C a1 1] s56 fun x95 l96 s97 => match x95 with | .normal => pUn .not (G l96 2) (fun v98 => Q v98 (V true 2 (.agg (⟨[G l96 4, G l96 5]⟩)) ((allOne [G l96 4, G l96 5]) ∧ (A w0 31 2 32 (G l96 1) 1 [G l96 4, G l96 5] s97 fun v99 s100 => R v99 s100))) (R (G l96 1) s97)) | .ret => False | .exit i101 => (match Nat.beq i101 0 with | true => pUn .not (G l96 2) (fun v102 => Q v102 (V true 2 (.agg (⟨[G l96 4, G l96 5]⟩)) ((allOne [G l96 4, G l96 5]) ∧ (A w0 31 2 32 (G l96 1) 1 [G l96 4, G l96 5] s97 fun v103 s104 => R v103 s104))) (R (G l96 1) s97)) | false => False))))
theorem vc_spec_l11Put_eq (w0 : World) (a0 a1 : Value) (σ : Vw) (R : Value → Vw → Prop) : vc_spec_l11Put w0 a0 a1 σ R = den Tryz.prog w0 kp_spec_l11Put esc_spec_l11Put (Tryz.f68.body.getD .skip) (entry Tryz.f68.ntmps [a0, a1]) σ (retK Tryz.prog Tryz.f68.results.toList R) := by kernel_rfl
theorem ac_spec_l11Put {w0 : World} {a0 a1 : Value} {σ : Vw} {R : Value → Vw → Prop} (h : vc_spec_l11Put w0 a0 a1 σ R) : AC Tryz.prog w0 n_spec_l11Put [a0, a1] σ R := by
  refine ac_rule (fn := Tryz.f68) (c := Tryz.f68.body.getD .skip) kp_spec_l11Put esc_spec_l11Put Tryz.func68 (by kernel_rfl) (by kernel_rfl) ?_
  rw [← vc_spec_l11Put_eq]
  exact h

/-- spec.l11Coarser -/
def kp_spec_l11Coarser : Nat → Keep
  | 3 => ⟨[0, 3, 4], [], [], .done, []⟩
  | 5 => ⟨[], [], [], .step 0 (.step 1 (.step 2 (.step 3 (.step 4 (.step 5 (.step 6 (.step 7 (.step 8 (.step 9 (.step 10 (.step 11 (.step 12 (.done))))))))))))), [(2, [0, 1]), (3, [0, 1, 2]), (4, [0, 1, 2, 3]), (5, [0, 1, 2, 3, 4]), (8, [6, 7]), (9, [6, 7, 8]), (10, [6, 7, 8, 9]), (11, [6, 7, 8, 9, 10]), (12, [0, 1, 2, 3, 4, 5, 6, 7, 8, 9, 10, 11])]⟩
  | _ => ⟨[], [], [], .done, []⟩
def esc_spec_l11Coarser : Nat → Bool
  | 32 => true
  | _ => false
def vc_spec_l11Coarser (w0 : World) (a0 : Value) (σ : Vw) (R : Value → Vw → Prop) : Prop :=
  pLoop (fun l0 K1 s2 => N (G l0 0) fun v3 => B P 3 .lss (G l0 2) v3 fun v4 => Q v4 (X 2 (G l0 0) (G l0 2) fun v5 => F 0 v5 fun v6 => L w0 1 v6 s2 fun g7 => N (g7 0) fun v8 => X 2 (G l0 0) (G l0 1) fun v9 => F 0 v9 fun v10 => L w0 1 v10 s2 fun g11 => N (g11 0) fun v12 => B P 3 .geq v8 v12 fun v13 => Q v13 (B P 3 .add (G l0 2) (.int .i64 1) fun v14 => K1 .normal [G l0 0, G l0 2, v14] s2) (B P 3 .add (G l0 2) (.int .i64 1) fun v15 => K1 .normal [G l0 0, G l0 1, v15] s2)) (K1 (.exit 0) [G l0 0, G l0 1, G l0 2] s2)) [a0, .int .i64 0, .int .i64 1] σ fun x16 l17 s18 => match x16 with | .normal => X 2 (G l17 0) (G l17 1) (fun v19 => F 0 v19 fun v20 => L w0 1 v20 s18 fun g21 => W w0 9 [] s18 fun n22 s23 => N (g21 0) fun v24 => B P 3 .sub v24 (.int .i64 1) fun v25 => pSlice 1 (g21 0) none (some v25) fun v26 => pAppendS w0 9 1 16 (.slice (some (Addr.mk n22 0 none)) 0 0) v26 s23 fun v27 s28 => V false 1 v27 (V false 1 (.bool true) (AC P w0 n_spec_l11Put ([G l17 0, .agg (⟨[v27, .bool true]⟩)]) s28 fun v29 s30 => R v29 s30))) | .ret => False | .exit i31 => (match Nat.beq i31 0 with | true => X 2 (G l17 0) (G l17 1) (fun v32 => F 0 v32 fun v33 => L w0 1 v33 s18 fun g34 => W w0 9 [] s18 fun n35 s36 => N (g34 0) fun v37 => B P 3 .sub v37 (.int .i64 1) fun v38 => pSlice 1 (g34 0) none (some v38) fun v39 => pAppendS w0 9 1 16 (.slice (some (Addr.mk n35 0 none)) 0 0) v39 s36 fun v40 s41 => V false 1 v40 (V false 1 (.bool true) (AC P w0 n_spec_l11Put ([G l17 0, .agg (⟨[v40, .bool true]⟩)]) s41 fun v42 s43 => R v42 s43))) | false => False)
theorem vc_spec_l11Coarser_eq (w0 : World) (a0 : Value) (σ : Vw) (R : Value → Vw → Prop) : vc_spec_l11Coarser w0 a0 σ R = den Tryz.prog w0 kp_spec_l11Coarser esc_spec_l11Coarser (Tryz.f69.body.getD .skip) (entry Tryz.f69.ntmps [a0]) σ (retK Tryz.prog Tryz.f69.results.toList R) := by kernel_rfl
theorem ac_spec_l11Coarser {w0 : World} {a0 : Value} {σ : Vw} {R : Value → Vw → Prop} (h : vc_spec_l11Coarser w0 a0 σ R) : AC Tryz.prog w0 n_spec_l11Coarser [a0] σ R := by
  refine ac_rule (fn := Tryz.f69) (c := Tryz.f69.body.getD .skip) kp_spec_l11Coarser esc_spec_l11Coarser Tryz.func69 (by kernel_rfl) (by kernel_rfl) ?_
  rw [← vc_spec_l11Coarser_eq]
  exact h

/-- slices.Compare[[]string,string] -/
def kp_slices_Compare_string_string : Nat → Keep
  | 2 => ⟨[0, 1, 4, 9, 10, 11], [], [], .done, []⟩
  | _ => ⟨[], [], [], .done, []⟩
def esc_slices_Compare_string_string : Nat → Bool
  | _ => false
def vc_slices_Compare_string_string (w0 : World) (a0 a1 : Value) (σ : Vw) (R : Value → Vw → Prop) : Prop :=
  N a0 fun v0 => pLoop (fun l1 K2 s3 => B P 3 .lss (G l1 5) (G l1 4) fun v4 => Q v4 (X 1 (G l1 3) (G l1 5) fun v5 => L w0 1 v5 s3 fun g6 => N (G l1 1) fun v7 => B P 3 .geq (G l1 5) v7 fun v8 => Q v8 (K2 .ret [G l1 0, G l1 1, .int .i64 1, G l1 3, G l1 4, G l1 5] s3) (X 1 (G l1 1) (G l1 5) fun v9 => L w0 1 v9 s3 fun g10 => AC P w0 n_cmp_Compare_string [g6 0, g10 0] s3 fun v11 s12 => B P 3 .neq v11 (.int .i64 0) fun v13 => Q v13 (K2 .ret [G l1 0, G l1 1, v11, G l1 3, G l1 4, G l1 5] s12) (B P 3 .add (G l1 5) (.int .i64 1) fun v14 => K2 .normal [G l1 0, G l1 1, G l1 2, G l1 3, G l1 4, v14] s12))) (K2 (.exit 0) [G l1 0, G l1 1, G l1 2, G l1 3, G l1 4, G l1 5] s3)) [a0, a1, .int .i64 0, a0, v0, .int .i64 0] σ fun x15 l16 s17 => match x15 with | .normal => N (G l16 0) (fun v18 => N (G l16 1) fun v19 => B P 3 .lss v18 v19 fun v20 => Q v20 (R (.int .i64 (-1)) s17) (R (.int .i64 0) s17)) | .ret => R (G l16 2) s17 | .exit i21 => (match Nat.beq i21 0 with | true => N (G l16 0) (fun v22 => N (G l16 1) fun v23 => B P 3 .lss v22 v23 fun v24 => Q v24 (R (.int .i64 (-1)) s17) (R (.int .i64 0) s17)) | false => False)
theorem vc_slices_Compare_string_string_eq (w0 : World) (a0 a1 : Value) (σ : Vw) (R : Value → Vw → Prop) : vc_slices_Compare_string_string w0 a0 a1 σ R = den Tryz.prog w0 kp_slices_Compare_string_string esc_slices_Compare_string_string (Tryz.f70.body.getD .skip) (entry Tryz.f70.ntmps [a0, a1]) σ (retK Tryz.prog Tryz.f70.results.toList R) := by kernel_rfl
theorem ac_slices_Compare_string_string {w0 : World} {a0 a1 : Value} {σ : Vw} {R : Value → Vw → Prop} (h : vc_slices_Compare_string_string w0 a0 a1 σ R) : AC Tryz.prog w0 n_slices_Compare_string_string [a0, a1] σ R := by
  refine ac_rule (fn := Tryz.f70) (c := Tryz.f70.body.getD .skip) kp_slices_Compare_string_string esc_slices_Compare_string_string Tryz.func70 (by kernel_rfl) (by kernel_rfl) ?_
  rw [← vc_slices_Compare_string_string_eq]
  exact h

/-- impl.under -/
def kp_impl_under : Nat → Keep
  | 2 => ⟨[1, 4, 7, 8, 9], [], [], .done, []⟩
  | _ => ⟨[], [], [], .done, []⟩
def esc_impl_under : Nat → Bool
  | _ => false
def vc_impl_under (w0 : World) (a0 a1 : Value) (σ : Vw) (R : Value → Vw → Prop) : Prop :=
  N a0 fun v0 => pLoop (fun l1 K2 s3 => B P 3 .lss (G l1 4) (G l1 3) fun v4 => Q v4 (X 2 (G l1 2) (G l1 4) fun v5 => L w0 2 v5 s3 fun g6 => V true 2 (.agg (⟨[g6 0, g6 1]⟩)) (Q (g6 1) (AC P w0 n_impl_begins [G l1 0, g6 0] s3 fun v7 s8 => Q v7 (K2 .ret [G l1 0, .bool true, G l1 2, G l1 3, G l1 4] s8) (B P 3 .add (G l1 4) (.int .i64 1) fun v9 => K2 .normal [G l1 0, G l1 1, G l1 2, G l1 3, v9] s8)) (B P 3 .add (G l1 4) (.int .i64 1) fun v10 => K2 .normal [G l1 0, G l1 1, G l1 2, G l1 3, v10] s3))) (K2 (.exit 0) [G l1 0, G l1 1, G l1 2, G l1 3, G l1 4] s3)) [a1, .bool false, a0, v0, .int .i64 0] σ fun x11 l12 s13 => match x11 with | .normal => R (.bool false) s13 | .ret => R (G l12 1) s13 | .exit i14 => (match Nat.beq i14 0 with | true => R (.bool false) s13 | false => False)
theorem vc_impl_under_eq (w0 : World) (a0 a1 : Value) (σ : Vw) (R : Value → Vw → Prop) : vc_impl_under w0 a0 a1 σ R = den Tryz.prog w0 kp_impl_under esc_impl_under (Tryz.f71.body.getD .skip) (entry Tryz.f71.ntmps [a0, a1]) σ (retK Tryz.prog Tryz.f71.results.toList R) := by kernel_rfl
theorem ac_impl_under {w0 : World} {a0 a1 : Value} {σ : Vw} {R : Value → Vw → Prop} (h : vc_impl_under w0 a0 a1 σ R) : AC Tryz.prog w0 n_impl_under [a0, a1] σ R := by
  refine ac_rule (fn := Tryz.f71) (c := Tryz.f71.body.getD .skip) kp_impl_under esc_impl_under Tryz.func71 (by kernel_rfl) (by kernel_rfl) ?_
  rw [← vc_impl_under_eq]
  exact h

/-- spec.l11Less -/
def kp_spec_l11Less : Nat → Keep
  | 2 => ⟨[0, 1, 4, 5], [], [], .done, []⟩
  | 4 => ⟨[], [], [], .step 0 (.step 1 (.step 2 (.step 3 (.step 4 (.step 5 (.step 6 (.step 7 (.step 8 (.done))))))))), [(2, [0, 1]), (3, [0, 1, 2]), (6, [4, 5]), (7, [4, 5, 6]), (8, [0, 1, 2, 3, 4, 5, 6, 7])]⟩
  | 5 => ⟨[], [], [], .step 0 (.step 1 (.step 2 (.step 3 (.step 4 (.step 5 (.step 6 (.step 7 (.step 8 (.step 9 (.done)))))))))), [(2, [0, 1]), (3, [0, 1, 2]), (6, [4, 5]), (7, [4, 5, 6]), (8, [0, 1, 2, 3, 4, 5, 6, 7]), (9, [0, 1, 2, 3, 4, 5, 6, 7, 8])]⟩
  | _ => ⟨[], [], [], .done, []⟩
def esc_spec_l11Less : Nat → Bool
  | _ => false
def vc_spec_l11Less (w0 : World) (a0 a1 : Value) (σ : Vw) (R : Value → Vw → Prop) : Prop :=
  pLoop (fun l0 K1 s2 => N (G l0 0) fun v3 => B P 3 .lss (G l0 3) v3 fun v4 => Q v4 (N (G l0 1) fun v5 => B P 3 .lss (G l0 3) v5 fun v6 => Q v6 (X 1 (G l0 0) (G l0 3) fun v7 => L w0 1 v7 s2 fun g8 => X 1 (G l0 1) (G l0 3) fun v9 => L w0 1 v9 s2 fun g10 => B P 9 .neq (g8 0) (g10 0) fun v11 => Q v11 (X 1 (G l0 0) (G l0 3) fun v12 => L w0 1 v12 s2 fun g13 => X 1 (G l0 1) (G l0 3) fun v14 => L w0 1 v14 s2 fun g15 => B P 9 .lss (g13 0) (g15 0) fun v16 => K1 .ret [G l0 0, G l0 1, v16, G l0 3] s2) (B P 3 .add (G l0 3) (.int .i64 1) fun v17 => K1 .normal [G l0 0, G l0 1, G l0 2, v17] s2)) (K1 (.exit 0) [G l0 0, G l0 1, G l0 2, G l0 3] s2)) (K1 (.exit 0) [G l0 0, G l0 1, G l0 2, G l0 3] s2)) [a0, a1, .bool false, .int .i64 0] σ fun x18 l19 s20 => match x18 with | .normal => N (G l19 0) (fun v21 => N (G l19 1) fun v22 => B P 3 .lss v21 v22 fun v23 => R v23 s20) | .ret => R (G l19 2) s20 | .exit i24 => (match Nat.beq i24 0 with | true => N (G l19 0) (fun v25 => N (G l19 1) fun v26 => B P 3 .lss v25 v26 fun v27 => R v27 s20) | false => False)
theorem vc_spec_l11Less_eq (w0 : World) (a0 a1 : Value) (σ : Vw) (R : Value → Vw → Prop) : vc_spec_l11Less w0 a0 a1 σ R = den Tryz.prog w0 kp_spec_l11Less esc_spec_l11Less (Tryz.f72.body.getD .skip) (entry Tryz.f72.ntmps [a0, a1]) σ (retK Tryz.prog Tryz.f72.results.toList R) := by kernel_rfl
theorem ac_spec_l11Less {w0 : World} {a0 a1 : Value} {σ : Vw} {R : Value → Vw → Prop} (h : vc_spec_l11Less w0 a0 a1 σ R) : AC Tryz.prog w0 n_spec_l11Less [a0, a1] σ R := by
  refine ac_rule (fn := Tryz.f72) (c := Tryz.f72.body.getD .skip) kp_spec_l11Less esc_spec_l11Less Tryz.func72 (by kernel_rfl) (by kernel_rfl) ?_
  rw [← vc_spec_l11Less_eq]
  exact h

/-- spec.l2Within -/
def kp_spec_l2Within : Nat → Keep
  | 4 => ⟨[0, 1, 4, 5], [], [], .done, []⟩
  | 6 => ⟨[], [], [], .step 0 (.step 1 (.step 2 (.step 3 (.step 4 (.step 5 (.step 6 (.step 7 (.step 8 (.done))))))))), [(2, [0, 1]), (3, [0, 1, 2]), (6, [4, 5]), (7, [4, 5, 6]), (8, [0, 1, 2, 3, 4, 5, 6, 7])]⟩
  | _ => ⟨[], [], [], .done, []⟩
def esc_spec_l2Within : Nat → Bool
  | _ => false
def vc_spec_l2Within (w0 : World) (a0 a1 : Value) (σ : Vw) (R : Value → Vw → Prop) : Prop :=
  N a0 fun v0 => N a1 fun v1 => B P 3 .lss v0 v1 fun v2 => Q v2 (R (.bool false) σ) (pLoop (fun l3 K4 s5 => N (G l3 1) fun v6 => B P 3 .lss (G l3 3) v6 fun v7 => Q v7 (X 1 (G l3 0) (G l3 3) fun v8 => L w0 1 v8 s5 fun g9 => X 1 (G l3 1) (G l3 3) fun v10 => L w0 1 v10 s5 fun g11 => B P 9 .neq (g9 0) (g11 0) fun v12 => Q v12 (K4 .ret [G l3 0, G l3 1, .bool false, G l3 3] s5) (B P 3 .add (G l3 3) (.int .i64 1) fun v13 => K4 .normal [G l3 0, G l3 1, G l3 2, v13] s5)) (K4 (.exit 0) [G l3 0, G l3 1, G l3 2, G l3 3] s5)) [a0, a1, .bool false, .int .i64 0] σ fun x14 l15 s16 => match x14 with | .normal => R (.bool true) s16 | .ret => R (G l15 2) s16 | .exit i17 => (match Nat.beq i17 0 with | true => R (.bool true) s16 | false => False))
theorem vc_spec_l2Within_eq (w0 : World) (a0 a1 : Value) (σ : Vw) (R : Value → Vw → Prop) : vc_spec_l2Within w0 a0 a1 σ R = den Tryz.prog w0 kp_spec_l2Within esc_spec_l2Within (Tryz.f73.body.getD .skip) (entry Tryz.f73.ntmps [a0, a1]) σ (retK Tryz.prog Tryz.f73.results.toList R) := by kernel_rfl
theorem ac_spec_l2Within {w0 : World} {a0 a1 : Value} {σ : Vw} {R : Value → Vw → Prop} (h : vc_spec_l2Within w0 a0 a1 σ R) : AC Tryz.prog w0 n_spec_l2Within [a0, a1] σ R := by
  refine ac_rule (fn := Tryz.f73) (c := Tryz.f73.body.getD .skip) kp_spec_l2Within esc_spec_l2Within Tryz.func73 (by kernel_rfl) (by kernel_rfl) ?_
  rw [← vc_spec_l2Within_eq]
  exact h

/-- spec.DrawTreeDo -/
def kp_spec_DrawTreeDo : Nat → Keep
  | 3 => ⟨[], [], [], .step 0 (.step 1 (.step 2 (.step 3 (.step 4 (.step 5 (.done)))))), [(3, [1, 2]), (4, [0, 1, 2, 3]), (5, [0, 1, 2, 3, 4])]⟩
  | _ => ⟨[], [], [], .done, []⟩
def esc_spec_DrawTreeDo : Nat → Bool
  | _ => false
def vc_spec_DrawTreeDo (w0 : World) (a0 : Value) (σ : Vw) (R : Value → Vw → Prop) : Prop :=
  AC P w0 n_spec_l1Open [a0] σ fun v0 s1 => AC P w0 n_spec_l4Any [v0] s1 fun v2 s3 => V true 5 v2 (AC P w0 n_spec_l4Call ([v0, .agg (⟨[C v2 0, C v2 1, C v2 2, C v2 3, C v2 4]⟩)]) s3 fun v4 s5 => V true 5 (.agg (⟨[C v2 0, C v2 1, C v2 2, C v2 3, C v2 4]⟩)) (V true 5 v4 (R (.tuple (⟨[.agg (⟨[C v2 0, C v2 1, C v2 2, C v2 3, C v2 4]⟩), .agg (⟨[C v4 0, C v4 1, C v4 2, C v4 3, C v4 4]⟩)]⟩)) s5)))
theorem vc_spec_DrawTreeDo_eq (w0 : World) (a0 : Value) (σ : Vw) (R : Value → Vw → Prop) : vc_spec_DrawTreeDo w0 a0 σ R = den Tryz.prog w0 kp_spec_DrawTreeDo esc_spec_DrawTreeDo (Tryz.f74.body.getD .skip) (entry Tryz.f74.ntmps [a0]) σ (retK Tryz.prog Tryz.f74.results.toList R) := by kernel_rfl
theorem ac_spec_DrawTreeDo {w0 : World} {a0 : Value} {σ : Vw} {R : Value → Vw → Prop} (h : vc_spec_DrawTreeDo w0 a0 σ R) : AC Tryz.prog w0 n_spec_DrawTreeDo [a0] σ R := by
  refine ac_rule (fn := Tryz.f74) (c := Tryz.f74.body.getD .skip) kp_spec_DrawTreeDo esc_spec_DrawTreeDo Tryz.func74 (by kernel_rfl) (by kernel_rfl) ?_
  rw [← vc_spec_DrawTreeDo_eq]
  exact h

/-- (impl.Tree).marksOf -/
def kp_impl_Tree_marksOf : Nat → Keep
  | _ => ⟨[], [], [], .done, []⟩
def esc_impl_Tree_marksOf : Nat → Bool
  | 2 => true
  | 11 => true
  | 15 => true
  | 38 => true
  | _ => false
def vc_impl_Tree_marksOf (w0 : World) (a0 a1 : Value) (σ : Vw) (R : Value → Vw → Prop) : Prop :=
  V true 5 a0 (W w0 26 [C a0 0, C a0 1, C a0 2, C a0 3, C a0 4] σ fun n0 s1 => V true 5 a1 (AC P w0 n_impl_Call_isCall ([.agg (⟨[C a1 0, C a1 1, C a1 2, C a1 3, C a1 4]⟩)]) s1 fun v2 s3 => pUn .not v2 fun v4 => Q v4 (W w0 31 [] s3 fun n5 s6 => R (.slice (some (Addr.mk n5 0 none)) 0 0) s6) (V false 1 (C a1 1) (V true 2 (.agg (⟨[C a1 1, .bool false]⟩)) (W w0 31 [C a1 1, .bool false] s3 fun n7 s8 => B P 3 .eql (C a1 0) (.int .i64 5) fun v9 => Q v9 (AC P w0 n_p_impl_Tree_at [.pointer (some (Addr.mk n0 0 none)), C a1 1] s8 fun v10 s11 => B P 73 .neq v10 (.pointer none) fun v12 => Q v12 (pNil v10 (F 0 v10 fun v13 => L w0 1 v13 s11 fun g14 => V false 1 (C a1 1) (V false 1 (g14 0) (V false 1 (C a1 2) (V false 1 (g14 0) (V true 2 (.agg (⟨[C a1 1, g14 0]⟩)) (V true 2 (.agg (⟨[C a1 2, g14 0]⟩)) (W w0 31 [C a1 1, g14 0, C a1 2, g14 0] s11 fun n15 s16 => AC P w0 n_impl_cloneMarks [.slice (some (Addr.mk n15 0 none)) 2 2] s16 fun v17 s18 => R v17 s18)))))))) (V false 1 (C a1 1) (V false 1 (.bool false) (V false 1 (C a1 2) (V false 1 (.bool false) (V true 2 (.agg (⟨[C a1 1, .bool false]⟩)) (V true 2 (.agg (⟨[C a1 2, .bool false]⟩)) (W w0 31 [C a1 1, .bool false, C a1 2, .bool false] s11 fun n19 s20 => AC P w0 n_impl_cloneMarks [.slice (some (Addr.mk n19 0 none)) 2 2] s20 fun v21 s22 => R v21 s22)))))))) (AC P w0 n_impl_cloneMarks [.slice (some (Addr.mk n7 0 none)) 1 1] s8 fun v23 s24 => R v23 s24))))))
theorem vc_impl_Tree_marksOf_eq (w0 : World) (a0 a1 : Value) (σ : Vw) (R : Value → Vw → Prop) : vc_impl_Tree_marksOf w0 a0 a1 σ R = den Tryz.prog w0 kp_impl_Tree_marksOf esc_impl_Tree_marksOf (Tryz.f75.body.getD .skip) (entry Tryz.f75.ntmps [a0, a1]) σ (retK Tryz.prog Tryz.f75.results.toList R) := by kernel_rfl
theorem ac_impl_Tree_marksOf {w0 : World} {a0 a1 : Value} {σ : Vw} {R : Value → Vw → Prop} (h : vc_impl_Tree_marksOf w0 a0 a1 σ R) : AC Tryz.prog w0 n_impl_Tree_marksOf [a0, a1] σ R := by
  refine ac_rule (fn := Tryz.f75) (c := Tryz.f75.body.getD .skip) kp_impl_Tree_marksOf esc_impl_Tree_marksOf Tryz.func75 (by kernel_rfl) (by kernel_rfl) ?_
  rw [← vc_impl_Tree_marksOf_eq]
  exact h

/-- spec.l2CallOk -/
def kp_spec_l2CallOk : Nat → Keep
  | _ => ⟨[], [], [], .done, []⟩
def esc_spec_l2CallOk : Nat → Bool
  | _ => false
def vc_spec_l2CallOk (w0 : World) (a0 : Value) (σ : Vw) (R : Value → Vw → Prop) : Prop :=
  V true 5 a0 (B P 3 .eql (C a0 0) (.int .i64 1) fun v0 => Q v0 (Q v0 (AC P w0 n_spec_l2PathOk [C a0 1] σ fun v1 s2 => Q v1 (AC P w0 n_spec_l1In [C a0 3, .int .i64 0, .int .i64 7] s2 fun v3 s4 => R v3 s4) (R (.bool false) s2)) (B P 3 .eql (C a0 0) (.int .i64 2) fun v5 => Q v5 (Q v5 (AC P w0 n_spec_l2PathOk [C a0 1] σ fun v6 s7 => Q v6 (AC P w0 n_spec_l1In [C a0 3, .int .i64 0, .int .i64 24] s7 fun v8 s9 => R v8 s9) (R (.bool false) s7)) (B P 3 .eql (C a0 0) (.int .i64 4) fun v10 => Q v10 (AC P w0 n_spec_l2PathOk [C a0 1] σ fun v11 s12 => R v11 s12) (B P 3 .eql (C a0 0) (.int .i64 5) fun v13 => Q v13 (AC P w0 n_spec_l2PathOk [C a0 1] σ fun v14 s15 => Q v14 (AC P w0 n_spec_l2PathOk [C a0 2] s15 fun v16 s17 => R v16 s17) (R (.bool false) s15)) (R (.bool false) σ)))) (B P 3 .eql (C a0 0) (.int .i64 3) fun v18 => Q v18 (AC P w0 n_spec_l2PathOk [C a0 1] σ fun v19 s20 => Q v19 (AC P w0 n_spec_l1In [C a0 3, .int .i64 0, .int .i64 24] s20 fun v21 s22 => R v21 s22) (R (.bool false) s20)) (B P 3 .eql (C a0 0) (.int .i64 4) fun v23 => Q v23 (AC P w0 n_spec_l2PathOk [C a0 1] σ fun v24 s25 => R v24 s25) (B P 3 .eql (C a0 0) (.int .i64 5) fun v26 => Q v26 (AC P w0 n_spec_l2PathOk [C a0 1] σ fun v27 s28 => Q v27 (AC P w0 n_spec_l2PathOk [C a0 2] s28 fun v29 s30 => R v29 s30) (R (.bool false) s28)) (R (.bool false) σ)))))) (B P 3 .eql (C a0 0) (.int .i64 6) fun v31 => Q v31 (AC P w0 n_spec_l2PathOk [C a0 1] σ fun v32 s33 => Q v32 (AC P w0 n_spec_l1In [C a0 3, .int .i64 0, .int .i64 7] s33 fun v34 s35 => R v34 s35) (R (.bool false) s33)) (B P 3 .eql (C a0 0) (.int .i64 2) fun v36 => Q v36 (Q v36 (AC P w0 n_spec_l2PathOk [C a0 1] σ fun v37 s38 => Q v37 (AC P w0 n_spec_l1In [C a0 3, .int .i64 0, .int .i64 24] s38 fun v39 s40 => R v39 s40) (R (.bool false) s38)) (B P 3 .eql (C a0 0) (.int .i64 4) fun v41 => Q v41 (AC P w0 n_spec_l2PathOk [C a0 1] σ fun v42 s43 => R v42 s43) (B P 3 .eql (C a0 0) (.int .i64 5) fun v44 => Q v44 (AC P w0 n_spec_l2PathOk [C a0 1] σ fun v45 s46 => Q v45 (AC P w0 n_spec_l2PathOk [C a0 2] s46 fun v47 s48 => R v47 s48) (R (.bool false) s46)) (R (.bool false) σ)))) (B P 3 .eql (C a0 0) (.int .i64 3) fun v49 => Q v49 (AC P w0 n_spec_l2PathOk [C a0 1] σ fun v50 s51 => Q v50 (AC P w0 n_spec_l1In [C a0 3, .int .i64 0, .int .i64 24] s51 fun v52 s53 => R v52 s53) (R (.bool false) s51)) (B P 3 .eql (C a0 0) (.int .i64 4) fun v54 => Q v54 (AC P w0 n_spec_l2PathOk [C a0 1] σ fun v55 s56 => R v55 s56) (B P 3 .eql (C a0 0) (.int .i64 5) fun v57 => Q v57 (AC P w0 n_spec_l2PathOk [C a0 1] σ fun v58 s59 => Q v58 (AC P w0 n_spec_l2PathOk [C a0 2] s59 fun v60 s61 => R v60 s61) (R (.bool false) s59)) (R (.bool false) σ)))))))
theorem vc_spec_l2CallOk_eq (w0 : World) (a0 : Value) (σ : Vw) (R : Value → Vw → Prop) : vc_spec_l2CallOk w0 a0 σ R = den Tryz.prog w0 kp_spec_l2CallOk esc_spec_l2CallOk (Tryz.f76.body.getD .skip) (entry Tryz.f76.ntmps [a0]) σ (retK Tryz.prog Tryz.f76.results.toList R) := by kernel_rfl
theorem ac_spec_l2CallOk {w0 : World} {a0 : Value} {σ : Vw} {R : Value → Vw → Prop} (h : vc_spec_l2CallOk w0 a0 σ R) : AC Tryz.prog w0 n_spec_l2CallOk [a0] σ R := by
  refine ac_rule (fn := Tryz.f76) (c := Tryz.f76.body.getD .skip) kp_spec_l2CallOk esc_spec_l2CallOk Tryz.func76 (by kernel_rfl) (by kernel_rfl) ?_
  rw [← vc_spec_l2CallOk_eq]
  exact h

/-- spec.l1At -/
def kp_spec_l1At : Nat → Keep
  | 3 => ⟨[], [], [], .step 0 (.step 1 (.step 2 (.step 3 (.step 4 (.step 5 (.done)))))), [(2, [1]), (3, [1, 2]), (4, [0, 1, 2, 3]), (5, [0, 1, 2, 3, 4])]⟩
  | 6 => ⟨[], [], [], .step 0 (.step 1 (.step 2 (.step 3 (.step 4 (.step 5 (.step 6 (.step 7 (.step 8 (.step 9 (.step 10 (.step 11 (.done)))))))))))), [(1, [0]), (3, [0, 1, 2]), (4, [0, 1, 2, 3]), (6, [5]), (7, [0, 1, 2, 3, 4, 5, 6]), (8, [0, 1, 2, 3, 4, 5, 6, 7]), (9, [0, 1, 2, 3, 4, 5, 6, 7]), (10, [0, 1, 2, 3, 4, 5, 6, 7, 8, 9]), (11, [0, 1, 2, 3, 4, 5, 6, 7, 8, 9, 10])]⟩
  | _ => ⟨[], [], [], .done, []⟩
def esc_spec_l1At : Nat → Bool
  | _ => false
def vc_spec_l1At (w0 : World) (a0 a1 : Value) (σ : Vw) (R : Value → Vw → Prop) : Prop :=
  V true 5 a0 (N a1 fun v0 => B P 3 .eql v0 (.int .i64 0) fun v1 => Q v1 (V true 5 (.agg (⟨[C a0 0, C a0 1, C a0 2, C a0 3, C a0 4]⟩)) (R (.tuple (⟨[.agg (⟨[C a0 0, C a0 1, C a0 2, C a0 3, C a0 4]⟩), .bool true]⟩)) σ)) (X 1 a1 (.int .i64 0) fun v2 => L w0 1 v2 σ fun g3 => AC P w0 n_spec_l1Find ([.agg (⟨[C a0 0, C a0 1, C a0 2, C a0 3, C a0 4]⟩), g3 0]) σ fun v4 s5 => B P 3 .lss v4 (.int .i64 0) fun v6 => Q v6 (V true 5 (.agg (⟨[.bool false, .int .i64 0, .string ({ data := #[] }), .slice none 0 0, .slice none 0 0]⟩)) (R (.tuple (⟨[.agg (⟨[.bool false, .int .i64 0, .string ({ data := #[] }), .slice none 0 0, .slice none 0 0]⟩), .bool false]⟩)) s5)) (X 5 (C a0 4) v4 fun v7 => L w0 5 v7 s5 fun g8 => pSlice 1 a1 (some (.int .i64 1)) none fun v9 => AC P w0 n_spec_l1At ([.agg (⟨[g8 0, g8 1, g8 2, g8 3, g8 4]⟩), v9]) s5 fun v10 s11 => E v10 0 fun v12 => E v10 1 fun v13 => V true 5 v12 (R (.tuple (⟨[.agg (⟨[C v12 0, C v12 1, C v12 2, C v12 3, C v12 4]⟩), v13]⟩)) s11))))
theorem vc_spec_l1At_eq (w0 : World) (a0 a1 : Value) (σ : Vw) (R : Value → Vw → Prop) : vc_spec_l1At w0 a0 a1 σ R = den Tryz.prog w0 kp_spec_l1At esc_spec_l1At (Tryz.f77.body.getD .skip) (entry Tryz.f77.ntmps [a0, a1]) σ (retK Tryz.prog Tryz.f77.results.toList R) := by kernel_rfl
theorem ac_spec_l1At {w0 : World} {a0 a1 : Value} {σ : Vw} {R : Value → Vw → Prop} (h : vc_spec_l1At w0 a0 a1 σ R) : AC Tryz.prog w0 n_spec_l1At [a0, a1] σ R := by
  refine ac_rule (fn := Tryz.f77) (c := Tryz.f77.body.getD .skip) kp_spec_l1At esc_spec_l1At Tryz.func77 (by kernel_rfl) (by kernel_rfl) ?_
  rw [← vc_spec_l1At_eq]
  exact h

/-- laws.wtHead -/
def kp_laws_wtHead : Nat → Keep
  | _ => ⟨[], [], [], .done, []⟩
def esc_laws_wtHead : Nat → Bool
  | _ => false
def vc_laws_wtHead (w0 : World) (a0 a1 : Value) (σ : Vw) (R : Value → Vw → Prop) : Prop :=
  N a0 fun v0 => N a1 fun v1 => B P 3 .geq v0 v1 fun v2 => Q v2 (N a1 fun v3 => pSlice 1 a0 none (some v3) fun v4 => AC P w0 n_laws_wtTexts [v4, a1] σ fun v5 s6 => R v5 s6) (R (.bool false) σ)
theorem vc_laws_wtHead_eq (w0 : World) (a0 a1 : Value) (σ : Vw) (R : Value → Vw → Prop) : vc_laws_wtHead w0 a0 a1 σ R = den Tryz.prog w0 kp_laws_wtHead esc_laws_wtHead (Tryz.f78.body.getD .skip) (entry Tryz.f78.ntmps [a0, a1]) σ (retK Tryz.prog Tryz.f78.results.toList R) := by kernel_rfl
theorem ac_laws_wtHead {w0 : World} {a0 a1 : Value} {σ : Vw} {R : Value → Vw → Prop} (h : vc_laws_wtHead w0 a0 a1 σ R) : AC Tryz.prog w0 n_laws_wtHead [a0, a1] σ R := by
  refine ac_rule (fn := Tryz.f78) (c := Tryz.f78.body.getD .skip) kp_laws_wtHead esc_laws_wtHead Tryz.func78 (by kernel_rfl) (by kernel_rfl) ?_
  rw [← vc_laws_wtHead_eq]
  exact h

/-- (*impl.Tree).at -/
def kp_p_impl_Tree_at : Nat → Keep
  | 2 => ⟨[0, 4, 7, 8, 9], [], [], .done, []⟩
  | _ => ⟨[], [], [], .done, []⟩
def esc_p_impl_Tree_at : Nat → Bool
  | _ => false
def vc_p_impl_Tree_at (w0 : World) (a0 a1 : Value) (σ : Vw) (R : Value → Vw → Prop) : Prop :=
  N a1 fun v0 => pLoop (fun l1 K2 s3 => B P 3 .lss (G l1 4) (G l1 3) fun v4 => Q v4 (X 1 (G l1 2) (G l1 4) fun v5 => L w0 1 v5 s3 fun g6 => AC P w0 n_p_impl_Tree_kid [G l1 0, g6 0] s3 fun v7 s8 => B P 73 .eql v7 (.pointer none) fun v9 => Q v9 (K2 .ret [v7, .pointer none, G l1 2, G l1 3, G l1 4] s8) (B P 3 .add (G l1 4) (.int .i64 1) fun v10 => K2 .normal [v7, G l1 1, G l1 2, G l1 3, v10] s8)) (K2 (.exit 0) [G l1 0, G l1 1, G l1 2, G l1 3, G l1 4] s3)) [a0, .pointer none, a1, v0, .int .i64 0] σ fun x11 l12 s13 => match x11 with | .normal => R (G l12 0) s13 | .ret => R (G l12 1) s13 | .exit i14 => (match Nat.beq i14 0 with | true => R (G l12 0) s13 | false => False)
theorem vc_p_impl_Tree_at_eq (w0 : World) (a0 a1 : Value) (σ : Vw) (R : Value → Vw → Prop) : vc_p_impl_Tree_at w0 a0 a1 σ R = den Tryz.prog w0 kp_p_impl_Tree_at esc_p_impl_Tree_at (Tryz.f80.body.getD .skip) (entry Tryz.f80.ntmps [a0, a1]) σ (retK Tryz.prog Tryz.f80.results.toList R) := by kernel_rfl
theorem ac_p_impl_Tree_at {w0 : World} {a0 a1 : Value} {σ : Vw} {R : Value → Vw → Prop} (h : vc_p_impl_Tree_at w0 a0 a1 σ R) : AC Tryz.prog w0 n_p_impl_Tree_at [a0, a1] σ R := by
  refine ac_rule (fn := Tryz.f80) (c := Tryz.f80.body.getD .skip) kp_p_impl_Tree_at esc_p_impl_Tree_at Tryz.func80 (by kernel_rfl) (by kernel_rfl) ?_
  rw [← vc_p_impl_Tree_at_eq]
  exact h

/-- (*spec.l1Rd).pick -/
def kp_p_spec_l1Rd_pick : Nat → Keep
  | 7 => ⟨[], [], [], .step 0 (.step 1 (.step 2 (.step 3 (.step 4 (.step 5 (.step 6 (.step 7 (.step 8 (.step 9 (.step 10 (.step 11 (.step 12 (.step 13 (.step 14 (.step 15 (.step 16 (.step 17 (.step 18 (.step 19 (.step 20 (.step 21 (.step 22 (.step 23 (.step 24 (.step 25 (.step 26 (.step 27 (.step 28 (.step 29 (.step 30 (.step 31 (.step 32 (.step 33 (.step 34 (.step 35 (.step 36 (.step 37 (.step 38 (.step 39 (.step 40 (.step 41 (.step 42 (.step 43 (.step 44 (.step 45 (.done)))))))))))))))))))))))))))))))))))))))))))))), [(1, [0]), (2, [0, 1]), (3, [0, 1, 2]), (6, [5]), (7, [5, 6]), (8, [5, 6, 7]), (9, [5, 6, 7, 8]), (10, [4, 5, 6, 7, 8, 9]), (11, [0, 1, 2, 3, 4, 5, 6, 7, 8, 9, 10]), (12, [0, 1, 2, 3, 4, 5, 6, 7, 8, 9, 10, 11]), (13, [0, 1, 2, 3, 4, 5, 6, 7, 8, 9, 10, 11, 12]), (14, [0, 1, 2, 3, 4, 5, 6, 7, 8, 9, 10, 11, 12, 13]), (16, [15]), (17, [15, 16]), (18, [15, 16, 17]), (20, [19]), (21, [19, 20]), (23, [22]), (24, [22, 23]), (25, [22, 23, 24]), (26, [22, 23, 24, 25]), (27, [19, 20, 21, 22, 23, 24, 25, 26]), (28, [15, 16, 17, 18, 19, 20, 21, 22, 23, 24, 25, 26, 27]), (29, [15, 16, 17, 18, 19, 20, 21, 22, 23, 24, 25, 26, 27, 28]), (30, [15, 16, 17, 18, 19, 20, 21, 22, 23, 24, 25, 26, 27, 28, 29]), (31, [15, 16, 17, 18, 19, 20, 21, 22, 23, 24, 25, 26, 27, 28, 29, 30]), (32, [0, 1, 2, 3, 4, 5, 6, 7, 8, 9, 10, 11, 12, 13, 14, 15, 16, 17, 18, 19, 20, 21, 22, 23, 24, 25, 26, 27, 28, 29, 30, 31]), (34, [33]), (35, [0, 1, 2, 3, 4, 5, 6, 7, 8, 9, 10, 11, 12, 13, 14, 15, 16, 17, 18, 19, 20, 21, 22, 23, 24, 25, 26, 27, 28, 29, 30, 31, 32, 33, 34]), (38, [37]), (39, [37, 38]), (40, [37, 38, 39]), (41, [37, 38, 39, 40]), (42, [36, 37, 38, 39, 40, 41]), (43, [36, 37, 38, 39, 40, 41, 42]), (44, [0, 1, 2, 3, 4, 5, 6, 7, 8, 9, 10, 11, 12, 13, 14, 15, 16, 17, 18, 19, 20, 21, 22, 23, 24, 25, 26, 27, 28, 29, 30, 31, 32, 33, 34, 35, 36, 37, 38, 39, 40, 41, 42, 43]), (45, [0, 1, 2, 3, 4, 5, 6, 7, 8, 9, 10, 11, 12, 13, 14, 15, 16, 17, 18, 19, 20, 21, 22, 23, 24, 25, 26, 27, 28, 29, 30, 31, 32, 33, 34, 35, 36, 37, 38, 39, 40, 41, 42, 43, 44])]⟩
  | _ => ⟨[], [], [], .done, []⟩
def esc_p_spec_l1Rd_pick : Nat → Bool
  | _ => false
def vc_p_spec_l1Rd_pick (w0 : World) (a0 a1 : Value) (σ : Vw) (R : Value → Vw → Prop) : Prop :=
  pNil a0 (F 1 a0 fun v0 => L w0 1 v0 σ fun g1 => B P 3 .add (g1 0) (.int .i64 1) fun v2 => pNil a0 (F 1 a0 fun v3 => V false 1 v2 (pStore v3 [v2] σ fun s4 => B P 3 .lss a1 (.int .i64 1) fun v5 => Q v5 (R (.int .i64 0) s4) (pNil a0 (F 0 a0 fun v6 => L w0 1 v6 s4 fun g7 => N (g7 0) fun v8 => B P 3 .eql v8 (.int .i64 0) fun v9 => Q v9 (R (.int .i64 0) s4) (pNil a0 (F 1 a0 fun v10 => L w0 1 v10 s4 fun g11 => B P 3 .sub (g11 0) (.int .i64 1) fun v12 => pNil a0 (F 0 a0 fun v13 => L w0 1 v13 s4 fun g14 => N (g14 0) fun v15 => B P 3 .lss v12 v15 fun v16 => Q v16 (pNil a0 (F 0 a0 fun v17 => L w0 1 v17 s4 fun g18 => X 1 (g18 0) v12 fun v19 => L w0 1 v19 s4 fun g20 => pConvInt .i64 (g20 0) fun v21 => B P 3 .rem v21 a1 fun v22 => R v22 s4)) (pNil a0 (F 0 a0 fun v23 => L w0 1 v23 s4 fun g24 => pNil a0 (F 0 a0 fun v25 => L w0 1 v25 s4 fun g26 => N (g26 0) fun v27 => B P 3 .rem v12 v27 fun v28 => X 1 (g24 0) v28 fun v29 => L w0 1 v29 s4 fun g30 => pConvInt .i64 (g30 0) fun v31 => B P 3 .mul v31 (.int .i64 131) fun v32 => pNil a0 (F 0 a0 fun v33 => L w0 1 v33 s4 fun g34 => B P 3 .mul v12 (.int .i64 7) fun v35 => B P 3 .add v35 (.int .i64 3) fun v36 => pNil a0 (F 0 a0 fun v37 => L w0 1 v37 s4 fun g38 => N (g38 0) fun v39 => B P 3 .rem v36 v39 fun v40 => X 1 (g34 0) v40 fun v41 => L w0 1 v41 s4 fun g42 => pConvInt .i64 (g42 0) fun v43 => B P 3 .mul v43 (.int .i64 1117) fun v44 => B P 3 .add v32 v44 fun v45 => B P 3 .mul v12 (.int .i64 29) fun v46 => B P 3 .add v45 v46 fun v47 => pNil a0 (F 0 a0 fun v48 => L w0 1 v48 s4 fun g49 => N (g49 0) fun v50 => B P 3 .quo v12 v50 fun v51 => B P 3 .mul v51 (.int .i64 53) fun v52 => B P 3 .add v47 v52 fun v53 => B P 3 .quo v53 (.int .i64 64) fun v54 => B P 3 .xor v53 v54 fun v55 => B P 3 .rem v55 a1 fun v56 => R v56 s4))))))))))))))
theorem vc_p_spec_l1Rd_pick_eq (w0 : World) (a0 a1 : Value) (σ : Vw) (R : Value → Vw → Prop) : vc_p_spec_l1Rd_pick w0 a0 a1 σ R = den Tryz.prog w0 kp_p_spec_l1Rd_pick esc_p_spec_l1Rd_pick (Tryz.f83.body.getD .skip) (entry Tryz.f83.ntmps [a0, a1]) σ (retK Tryz.prog Tryz.f83.results.toList R) := by kernel_rfl
theorem ac_p_spec_l1Rd_pick {w0 : World} {a0 a1 : Value} {σ : Vw} {R : Value → Vw → Prop} (h : vc_p_spec_l1Rd_pick w0 a0 a1 σ R) : AC Tryz.prog w0 n_p_spec_l1Rd_pick [a0, a1] σ R := by
  refine ac_rule (fn := Tryz.f83) (c := Tryz.f83.body.getD .skip) kp_p_spec_l1Rd_pick esc_p_spec_l1Rd_pick Tryz.func83 (by kernel_rfl) (by kernel_rfl) ?_
  rw [← vc_p_spec_l1Rd_pick_eq]
  exact h

end Go.Proofs.YtkbhjejalkbogaaGreat

/- What each function owes, reckoned out, part 3. MADE BY PROGRAM (emit.py). -/
set_option linter.unusedVariables false
namespace Go.Proofs.YtkbhjejalkbogaaGreat
open Go.Av renaming vget → G, cellOf → C, pVal → V, pBin → B, pIndexAddr → X, pLoad → L, pField → F, pIf → Q, pExtract → E, pAppend → A, pLen → N, pNew → W
open Go.Proofs.Tryz renaming prog → P
open Go Go.Av

/-- spec.l4Spoil -/
def kp_spec_l4Spoil : Nat → Keep
  | 4 => ⟨[], [], [], .step 0 (.step 1 (.step 2 (.step 3 (.step 4 (.step 5 (.step 6 (.step 7 (.step 8 (.step 9 (.step 10 (.step 11 (.done)))))))))))), [(1, [0]), (5, [4]), (7, [4, 5, 6]), (8, [4, 5, 6, 7]), (9, [3, 4, 5, 6, 7, 8]), (10, [0, 1, 2, 3, 4, 5, 6, 7, 8, 9]), (11, [0, 1, 2, 3, 4, 5, 6, 7, 8, 9, 10])]⟩
  | 8 => ⟨[8], [(4, 5), (5, 5)], [4, 5], .done, []⟩
  | 10 => ⟨[], [], [], .step 0 (.step 1 (.step 2 (.step 3 (.step 4 (.step 5 (.step 6 (.step 7 (.step 8 (.step 9 (.done)))))))))), [(1, [0]), (3, [2]), (4, [2, 3]), (5, [2, 3, 4]), (6, [2, 3, 4, 5]), (7, [0, 1, 2, 3, 4, 5, 6]), (8, [0, 1, 2, 3, 4, 5, 6, 7]), (9, [0, 1, 2, 3, 4, 5, 6, 7, 8])]⟩
  | 19 => ⟨[], [], [], .step 0 (.step 1 (.step 2 (.step 3 (.step 4 (.step 5 (.step 6 (.step 7 (.step 8 (.done))))))))), [(1, [0]), (4, [2, 3]), (5, [2, 3, 4]), (6, [0, 1, 2, 3, 4, 5]), (7, [0, 1, 2, 3, 4, 5, 6]), (8, [0, 1, 2, 3, 4, 5, 6, 7])]⟩
  | 27 => ⟨[0, 7], [(4, 5), (5, 5)], [4, 5], .done, []⟩
  | _ => ⟨[], [], [], .done, []⟩
def esc_spec_l4Spoil : Nat → Bool
  | 60 => true
  | 83 => true
  | 117 => true
  | 119 => true
  | _ => false
def vc_spec_l4Spoil (w0 : World) (a0 a1 : Value) (σ : Vw) (R : Value → Vw → Prop) : Prop :=
  V true 5 a1 (AC P w0 n_spec_l1Copy ([.agg (⟨[C a1 0, C a1 1, C a1 2, C a1 3, C a1 4]⟩)]) σ fun v0 s1 => V true 5 v0 (N (C v0 4) fun v2 => B P 3 .gtr v2 (.int .i64 0) fun v3 => Q v3 (AC P w0 n_p_spec_l1Rd_pick [a0, .int .i64 2] s1 fun v4 s5 => B P 3 .eql v4 (.int .i64 0) fun v6 => Q v6 (N (C v0 4) fun v7 => AC P w0 n_p_spec_l1Rd_pick [a0, v7] s5 fun v8 s9 => X 5 (C v0 4) v8 fun v10 => L w0 5 v10 s9 fun g11 => AC P w0 n_spec_l4Spoil ([a0, .agg (⟨[g11 0, g11 1, g11 2, g11 3, g11 4]⟩)]) s9 fun v12 s13 => X 5 (C v0 4) v8 fun v14 => V true 5 v12 (pStore v14 [C v12 0, C v12 1, C v12 2, C v12 3, C v12 4] s13 fun s15 => V true 5 (.agg (⟨[C v0 0, C v0 1, C v0 2, C v0 3, C v0 4]⟩)) (R (.agg (⟨[C v0 0, C v0 1, C v0 2, C v0 3, C v0 4]⟩)) s15))) (AC P w0 n_p_spec_l1Rd_pick [a0, .int .i64 8] s5 fun v16 s17 => B P 3 .eql v16 (.int .i64 0) fun v18 => Q v18 (V false 1 (.int .i64 (-1)) (V false 1 (.int .i64 7) (V false 1 (.int .i64 8) (W w0 3 [.int .i64 (-1), .int .i64 7, .int .i64 8] s17 fun n19 s20 => AC P w0 n_p_spec_l1Rd_pick [a0, .int .i64 3] s20 fun v21 s22 => X 1 (.slice (some (Addr.mk n19 0 none)) 3 3) v21 fun v23 => L w0 1 v23 s22 fun g24 => V false 1 (g24 0) (V true 5 (.agg (⟨[C v0 0, g24 0, C v0 2, C v0 3, C v0 4]⟩)) (R (.agg (⟨[C v0 0, g24 0, C v0 2, C v0 3, C v0 4]⟩)) s22)))))) (B P 3 .eql v16 (.int .i64 1) fun v25 => Q v25 (pUn .not (C v0 0) fun v26 => V false 1 v26 (V true 5 (.agg (⟨[v26, C v0 1, C v0 2, C v0 3, C v0 4]⟩)) (R (.agg (⟨[v26, C v0 1, C v0 2, C v0 3, C v0 4]⟩)) s17))) (B P 3 .eql v16 (.int .i64 2) fun v27 => Q v27 (B P 9 .add (C v0 2) (.string ({ data := #[120] })) fun v28 => V false 1 v28 (V true 5 (.agg (⟨[C v0 0, C v0 1, v28, C v0 3, C v0 4]⟩)) (R (.agg (⟨[C v0 0, C v0 1, v28, C v0 3, C v0 4]⟩)) s17))) (B P 3 .eql v16 (.int .i64 3) fun v29 => Q v29 (V false 1 (.string ({ data := #[122, 122] })) (V false 1 (.string ({ data := #[] })) (V false 1 (.string ({ data := #[97] })) (V false 1 (.string ({ data := #[90] })) (V false 1 (.string ({ data := #[116, 111, 111, 108, 111, 110, 103] })) (W w0 9 ([.string ({ data := #[122, 122] }), .string ({ data := #[] }), .string ({ data := #[97] }), .string ({ data := #[90] }), .string ({ data := #[116, 111, 111, 108, 111, 110, 103] })]) s17 fun n30 s31 => AC P w0 n_p_spec_l1Rd_of [a0, .slice (some (Addr.mk n30 0 none)) 5 5] s31 fun v32 s33 => V false 1 v32 ((allOne [v32]) ∧ (A w0 9 1 16 (C v0 3) 1 [v32] s33 fun v34 s35 => V false 1 v34 (V true 5 (.agg (⟨[.bool false, .int .i64 0, .string ({ data := #[] }), .slice none 0 0, .slice none 0 0]⟩)) ((allOne ([.bool false, .int .i64 0, .string ({ data := #[] }), .slice none 0 0, .slice none 0 0])) ∧ (A w0 26 5 80 (C v0 4) 1 ([.bool false, .int .i64 0, .string ({ data := #[] }), .slice none 0 0, .slice none 0 0]) s35 fun v36 s37 => V false 1 v36 (V true 5 (.agg (⟨[C v0 0, C v0 1, C v0 2, v34, v36]⟩)) (R (.agg (⟨[C v0 0, C v0 1, C v0 2, v34, v36]⟩)) s37))))))))))))) (B P 3 .eql v16 (.int .i64 4) fun v38 => Q v38 (V false 1 (.string ({ data := #[122, 122, 122] })) ((allOne ([.string ({ data := #[122, 122, 122] })])) ∧ (A w0 9 1 16 (C v0 3) 1 ([.string ({ data := #[122, 122, 122] })]) s17 fun v39 s40 => V false 1 v39 (V true 5 (.agg (⟨[C v0 0, C v0 1, C v0 2, v39, C v0 4]⟩)) (R (.agg (⟨[C v0 0, C v0 1, C v0 2, v39, C v0 4]⟩)) s40))))) (B P 3 .eql v16 (.int .i64 5) fun v41 => Q v41 (AC P w0 n_p_spec_l1Rd_pick [a0, .int .i64 2] s17 fun v42 s43 => B P 3 .add (.int .i64 24) v42 fun v44 => AC P w0 n_spec_l1Many ([.string ({ data := #[100] }), v44]) s43 fun v45 s46 => V false 1 v45 (V true 5 (.agg (⟨[C v0 0, C v0 1, v45, C v0 3, C v0 4]⟩)) (R (.agg (⟨[C v0 0, C v0 1, v45, C v0 3, C v0 4]⟩)) s46))) (B P 3 .eql v16 (.int .i64 6) fun v47 => Q v47 (pLoop (fun l48 K49 s50 => AC P w0 n_p_spec_l1Rd_pick [G l48 0, .int .i64 2] s50 fun v51 s52 => B P 3 .add (.int .i64 4) v51 fun v53 => B P 3 .lss (G l48 1) v53 fun v54 => Q v54 (V false 1 (.string ({ data := #[110] })) (W w0 9 ([.string ({ data := #[110] })]) s52 fun n55 s56 => V true 5 (.agg (⟨[G l48 7, G l48 8, G l48 9, G l48 10, G l48 11]⟩)) (W w0 26 [G l48 7, G l48 8, G l48 9, G l48 10, G l48 11] s56 fun n57 s58 => V false 1 (.bool true) (V false 1 (.slice (some (Addr.mk n55 0 none)) 1 1) (V false 1 (.slice (some (Addr.mk n57 0 none)) 1 1) (V true 5 (.agg (⟨[.bool true, .int .i64 0, .string ({ data := #[] }), .slice (some (Addr.mk n55 0 none)) 1 1, .slice (some (Addr.mk n57 0 none)) 1 1]⟩)) (B P 3 .add (G l48 1) (.int .i64 1) fun v59 => K49 .normal ([G l48 0, v59, G l48 2, G l48 3, G l48 4, G l48 5, G l48 6, .bool true, .int .i64 0, .string ({ data := #[] }), .slice (some (Addr.mk n55 0 none)) 1 1, .slice (some (Addr.mk n57 0 none)) 1 1]) s58))))))) (K49 (.exit 3) [G l48 0, G l48 1, G l48 2, G l48 3, G l48 4, G l48 5, G l48 6, G l48 7, G l48 8, G l48 9, G l48 10, G l48 11] s52)) ([a0, .int .i64 0, .bool false, .int .i64 0, .string ({ data := #[] }), .slice none 0 0, .slice none 0 0, C v0 0, C v0 1, C v0 2, C v0 3, C v0 4]) s17 fun x60 l61 s62 => match x60 with | .normal => V true 5 (.agg (⟨[G l61 7, G l61 8, G l61 9, G l61 10, G l61 11]⟩)) (R (.agg (⟨[G l61 7, G l61 8, G l61 9, G l61 10, G l61 11]⟩)) s62) | .ret => R (.agg (⟨[G l61 2, G l61 3, G l61 4, G l61 5, G l61 6]⟩)) s62 | .exit i63 => (match Nat.beq i63 3 with | true => V true 5 (.agg (⟨[G l61 7, G l61 8, G l61 9, G l61 10, G l61 11]⟩)) (R (.agg (⟨[G l61 7, G l61 8, G l61 9, G l61 10, G l61 11]⟩)) s62) | false => (match Nat.beq i63 0 with | true => V true 5 (.agg (⟨[G l61 7, G l61 8, G l61 9, G l61 10, G l61 11]⟩)) (R (.agg (⟨[G l61 7, G l61 8, G l61 9, G l61 10, G l61 11]⟩)) s62) | false => False))) (pLoop (fun l64 K65 s66 => B P 3 .lss (G l64 0) (.int .i64 30) fun v67 => Q v67 (B P 3 .add (.int .i64 100) (G l64 0) fun v68 => AC P w0 n_spec_l1Dec [v68] s66 fun v69 s70 => B P 9 .add (.string ({ data := #[122, 122] })) v69 fun v71 => V false 1 v71 ((allOne [v71]) ∧ (A w0 9 1 16 (G l64 9) 1 [v71] s70 fun v72 s73 => V false 1 v72 (V true 5 (.agg (⟨[.bool false, .int .i64 0, .string ({ data := #[] }), .slice none 0 0, .slice none 0 0]⟩)) ((allOne ([.bool false, .int .i64 0, .string ({ data := #[] }), .slice none 0 0, .slice none 0 0])) ∧ (A w0 26 5 80 (G l64 10) 1 ([.bool false, .int .i64 0, .string ({ data := #[] }), .slice none 0 0, .slice none 0 0]) s73 fun v74 s75 => V false 1 v74 (B P 3 .add (G l64 0) (.int .i64 1) fun v76 => K65 .normal [v76, G l64 1, G l64 2, G l64 3, G l64 4, G l64 5, G l64 6, G l64 7, G l64 8, v72, v74] s75))))))) (K65 (.exit 1) [G l64 0, G l64 1, G l64 2, G l64 3, G l64 4, G l64 5, G l64 6, G l64 7, G l64 8, G l64 9, G l64 10] s66)) ([.int .i64 0, .bool false, .int .i64 0, .string ({ data := #[] }), .slice none 0 0, .slice none 0 0, C v0 0, C v0 1, C v0 2, C v0 3, C v0 4]) s17 fun x77 l78 s79 => match x77 with | .normal => V true 5 (.agg (⟨[G l78 6, G l78 7, G l78 8, G l78 9, G l78 10]⟩)) (R (.agg (⟨[G l78 6, G l78 7, G l78 8, G l78 9, G l78 10]⟩)) s79) | .ret => R (.agg (⟨[G l78 1, G l78 2, G l78 3, G l78 4, G l78 5]⟩)) s79 | .exit i80 => (match Nat.beq i80 1 with | true => V true 5 (.agg (⟨[G l78 6, G l78 7, G l78 8, G l78 9, G l78 10]⟩)) (R (.agg (⟨[G l78 6, G l78 7, G l78 8, G l78 9, G l78 10]⟩)) s79) | false => (match Nat.beq i80 0 with | true => V true 5 (.agg (⟨[G l78 6, G l78 7, G l78 8, G l78 9, G l78 10]⟩)) (R (.agg (⟨[G l78 6, G l78 7, G l78 8, G l78 9, G l78 10]⟩)) s79) | false => False))))))))))) (AC P w0 n_p_spec_l1Rd_pick [a0, .int .i64 8] s1 fun v81 s82 => B P 3 .eql v81 (.int .i64 0) fun v83 => Q v83 (V false 1 (.int .i64 (-1)) (V false 1 (.int .i64 7) (V false 1 (.int .i64 8) (W w0 3 [.int .i64 (-1), .int .i64 7, .int .i64 8] s82 fun n84 s85 => AC P w0 n_p_spec_l1Rd_pick [a0, .int .i64 3] s85 fun v86 s87 => X 1 (.slice (some (Addr.mk n84 0 none)) 3 3) v86 fun v88 => L w0 1 v88 s87 fun g89 => V false 1 (g89 0) (V true 5 (.agg (⟨[C v0 0, g89 0, C v0 2, C v0 3, C v0 4]⟩)) (R (.agg (⟨[C v0 0, g89 0, C v0 2, C v0 3, C v0 4]⟩)) s87)))))) (B P 3 .eql v81 (.int .i64 1) fun v90 => Q v90 (pUn .not (C v0 0) fun v91 => V false 1 v91 (V true 5 (.agg (⟨[v91, C v0 1, C v0 2, C v0 3, C v0 4]⟩)) (R (.agg (⟨[v91, C v0 1, C v0 2, C v0 3, C v0 4]⟩)) s82))) (B P 3 .eql v81 (.int .i64 2) fun v92 => Q v92 (B P 9 .add (C v0 2) (.string ({ data := #[120] })) fun v93 => V false 1 v93 (V true 5 (.agg (⟨[C v0 0, C v0 1, v93, C v0 3, C v0 4]⟩)) (R (.agg (⟨[C v0 0, C v0 1, v93, C v0 3, C v0 4]⟩)) s82))) (B P 3 .eql v81 (.int .i64 3) fun v94 => Q v94 (V false 1 (.string ({ data := #[122, 122] })) (V false 1 (.string ({ data := #[] })) (V false 1 (.string ({ data := #[97] })) (V false 1 (.string ({ data := #[90] })) (V false 1 (.string ({ data := #[116, 111, 111, 108, 111, 110, 103] })) (W w0 9 ([.string ({ data := #[122, 122] }), .string ({ data := #[] }), .string ({ data := #[97] }), .string ({ data := #[90] }), .string ({ data := #[116, 111, 111, 108, 111, 110, 103] })]) s82 fun n95 s96 => AC P w0 n_p_spec_l1Rd_of [a0, .slice (some (Addr.mk n95 0 none)) 5 5] s96 fun v97 s98 => V false 1 v97 ((allOne [v97]) ∧ (A w0 9 1 16 (C v0 3) 1 [v97] s98 fun v99 s100 => V false 1 v99 (V true 5 (.agg (⟨[.bool false, .int .i64 0, .string ({ data := #[] }), .slice none 0 0, .slice none 0 0]⟩)) ((allOne ([.bool false, .int .i64 0, .string ({ data := #[] }), .slice none 0 0, .slice none 0 0])) ∧ (A w0 26 5 80 (C v0 4) 1 ([.bool false, .int .i64 0, .string ({ data := #[] }), .slice none 0 0, .slice none 0 0]) s100 fun v101 s102 => V false 1 v101 (V true 5 (.agg (⟨[C v0 0, C v0 1, C v0 2, v99, v101]⟩)) (R (.agg (⟨[C v0 0, C v0 1, C v0 2, v99, v101]⟩)) s102))))))))))))) (B P 3 .eql v81 (.int .i64 4) fun v103 => Q v103 (V false 1 (.string ({ data := #[122, 122, 122] })) ((allOne ([.string ({ data := #[122, 122, 122] })])) ∧ (A w0 9 1 16 (C v0 3) 1 ([.string ({ data := #[122, 122, 122] })]) s82 fun v104 s105 => V false 1 v104 (V true 5 (.agg (⟨[C v0 0, C v0 1, C v0 2, v104, C v0 4]⟩)) (R (.agg (⟨[C v0 0, C v0 1, C v0 2, v104, C v0 4]⟩)) s105))))) (B P 3 .eql v81 (.int .i64 5) fun v106 => Q v106 (AC P w0 n_p_spec_l1Rd_pick [a0, .int .i64 2] s82 fun v107 s108 => B P 3 .add (.int .i64 24) v107 fun v109 => AC P w0 n_spec_l1Many ([.string ({ data := #[100] }), v109]) s108 fun v110 s111 => V false 1 v110 (V true 5 (.agg (⟨[C v0 0, C v0 1, v110, C v0 3, C v0 4]⟩)) (R (.agg (⟨[C v0 0, C v0 1, v110, C v0 3, C v0 4]⟩)) s111))) (B P 3 .eql v81 (.int .i64 6) fun v112 => Q v112 (pLoop (fun l113 K114 s115 => AC P w0 n_p_spec_l1Rd_pick [G l113 0, .int .i64 2] s115 fun v116 s117 => B P 3 .add (.int .i64 4) v116 fun v118 => B P 3 .lss (G l113 1) v118 fun v119 => Q v119 (V false 1 (.string ({ data := #[110] })) (W w0 9 ([.string ({ data := #[110] })]) s117 fun n120 s121 => V true 5 (.agg (⟨[G l113 7, G l113 8, G l113 9, G l113 10, G l113 11]⟩)) (W w0 26 [G l113 7, G l113 8, G l113 9, G l113 10, G l113 11] s121 fun n122 s123 => V false 1 (.bool true) (V false 1 (.slice (some (Addr.mk n120 0 none)) 1 1) (V false 1 (.slice (some (Addr.mk n122 0 none)) 1 1) (V true 5 (.agg (⟨[.bool true, .int .i64 0, .string ({ data := #[] }), .slice (some (Addr.mk n120 0 none)) 1 1, .slice (some (Addr.mk n122 0 none)) 1 1]⟩)) (B P 3 .add (G l113 1) (.int .i64 1) fun v124 => K114 .normal ([G l113 0, v124, G l113 2, G l113 3, G l113 4, G l113 5, G l113 6, .bool true, .int .i64 0, .string ({ data := #[] }), .slice (some (Addr.mk n120 0 none)) 1 1, .slice (some (Addr.mk n122 0 none)) 1 1]) s123))))))) (K114 (.exit 3) [G l113 0, G l113 1, G l113 2, G l113 3, G l113 4, G l113 5, G l113 6, G l113 7, G l113 8, G l113 9, G l113 10, G l113 11] s117)) ([a0, .int .i64 0, .bool false, .int .i64 0, .string ({ data := #[] }), .slice none 0 0, .slice none 0 0, C v0 0, C v0 1, C v0 2, C v0 3, C v0 4]) s82 fun x125 l126 s127 => match x125 with | .normal => V true 5 (.agg (⟨[G l126 7, G l126 8, G l126 9, G l126 10, G l126 11]⟩)) (R (.agg (⟨[G l126 7, G l126 8, G l126 9, G l126 10, G l126 11]⟩)) s127) | .ret => R (.agg (⟨[G l126 2, G l126 3, G l126 4, G l126 5, G l126 6]⟩)) s127 | .exit i128 => (match Nat.beq i128 3 with | true => V true 5 (.agg (⟨[G l126 7, G l126 8, G l126 9, G l126 10, G l126 11]⟩)) (R (.agg (⟨[G l126 7, G l126 8, G l126 9, G l126 10, G l126 11]⟩)) s127) | false => (match Nat.beq i128 0 with | true => V true 5 (.agg (⟨[G l126 7, G l126 8, G l126 9, G l126 10, G l126 11]⟩)) (R (.agg (⟨[G l126 7, G l126 8, G l126 9, G l126 10, G l126 11]⟩)) s127) | false => False))) (pLoop (fun l129 K130 s131 => B P 3 .lss (G l129 0) (.int .i64 30) fun v132 => Q v132 (B P 3 .add (.int .i64 100) (G l129 0) fun v133 => AC P w0 n_spec_l1Dec [v133] s131 fun v134 s135 => B P 9 .add (.string ({ data := #[122, 122] })) v134 fun v136 => V false 1 v136 ((allOne [v136]) ∧ (A w0 9 1 16 (G l129 9) 1 [v136] s135 fun v137 s138 => V false 1 v137 (V true 5 (.agg (⟨[.bool false, .int .i64 0, .string ({ data := #[] }), .slice none 0 0, .slice none 0 0]⟩)) ((allOne ([.bool false, .int .i64 0, .string ({ data := #[] }), .slice none 0 0, .slice none 0 0])) ∧ (A w0 26 5 80 (G l129 10) 1 ([.bool false, .int .i64 0, .string ({ data := #[] }), .slice none 0 0, .slice none 0 0]) s138 fun v139 s140 => V false 1 v139 (B P 3 .add (G l129 0) (.int .i64 1) fun v141 => K130 .normal [v141, G l129 1, G l129 2, G l129 3, G l129 4, G l129 5, G l129 6, G l129 7, G l129 8, v137, v139] s140))))))) (K130 (.exit 1) [G l129 0, G l129 1, G l129 2, G l129 3, G l129 4, G l129 5, G l129 6, G l129 7, G l129 8, G l129 9, G l129 10] s131)) ([.int .i64 0, .bool false, .int .i64 0, .string ({ data := #[] }), .slice none 0 0, .slice none 0 0, C v0 0, C v0 1, C v0 2, C v0 3, C v0 4]) s82 fun x142 l143 s144 => match x142 with | .normal => V true 5 (.agg (⟨[G l143 6, G l143 7, G l143 8, G l143 9, G l143 10]⟩)) (R (.agg (⟨[G l143 6, G l143 7, G l143 8, G l143 9, G l143 10]⟩)) s144) | .ret => R (.agg (⟨[G l143 1, G l143 2, G l143 3, G l143 4, G l143 5]⟩)) s144 | .exit i145 => (match Nat.beq i145 1 with | true => V true 5 (.agg (⟨[G l143 6, G l143 7, G l143 8, G l143 9, G l143 10]⟩)) (R (.agg (⟨[G l143 6, G l143 7, G l143 8, G l143 9, G l143 10]⟩)) s144) | false => (match Nat.beq i145 0 with | true => V true 5 (.agg (⟨[G l143 6, G l143 7, G l143 8, G l143 9, G l143 10]⟩)) (R (.agg (⟨[G l143 6, G l143 7, G l143 8, G l143 9, G l143 10]⟩)) s144) | false => False))))))))))))
theorem vc_spec_l4Spoil_eq (w0 : World) (a0 a1 : Value) (σ : Vw) (R : Value → Vw → Prop) : vc_spec_l4Spoil w0 a0 a1 σ R = den Tryz.prog w0 kp_spec_l4Spoil esc_spec_l4Spoil (Tryz.f84.body.getD .skip) (entry Tryz.f84.ntmps [a0, a1]) σ (retK Tryz.prog Tryz.f84.results.toList R) := by kernel_rfl
theorem ac_spec_l4Spoil {w0 : World} {a0 a1 : Value} {σ : Vw} {R : Value → Vw → Prop} (h : vc_spec_l4Spoil w0 a0 a1 σ R) : AC Tryz.prog w0 n_spec_l4Spoil [a0, a1] σ R := by
  refine ac_rule (fn := Tryz.f84) (c := Tryz.f84.body.getD .skip) kp_spec_l4Spoil esc_spec_l4Spoil Tryz.func84 (by kernel_rfl) (by kernel_rfl) ?_
  rw [← vc_spec_l4Spoil_eq]
  exact h

/-- spec.l4Path -/
def kp_spec_l4Path : Nat → Keep
  | 3 => ⟨[0, 5], [(6, 5)], [6], .done, []⟩
  | 6 => ⟨[], [], [], .step 0 (.step 1 (.step 2 (.step 3 (.step 4 (.step 5 (.step 6 (.step 7 (.step 8 (.step 9 (.done)))))))))), [(1, [0]), (4, [3]), (5, [3, 4]), (6, [2, 3, 4, 5]), (7, [0, 1, 2, 3, 4, 5, 6]), (8, [0, 1, 2, 3, 4, 5, 6, 7]), (9, [0, 1, 2, 3, 4, 5, 6, 7, 8])]⟩
  | _ => ⟨[], [], [], .done, []⟩
def esc_spec_l4Path : Nat → Bool
  | 9 => true
  | _ => false
def vc_spec_l4Path (w0 : World) (a0 a1 : Value) (σ : Vw) (R : Value → Vw → Prop) : Prop :=
  V true 5 a1 (W w0 9 [] σ fun n0 s1 => V true 5 (.agg (⟨[C a1 0, C a1 1, C a1 2, C a1 3, C a1 4]⟩)) (pLoop (fun l2 K3 s4 => N (G l2 1) fun v5 => B P 3 .lss v5 (.int .i64 4) fun v6 => Q v6 (N (G l2 1) fun v7 => B P 3 .eql v7 (.int .i64 0) fun v8 => Q v8 (AC P w0 n_spec_l4Name [G l2 0] s4 fun v9 s10 => N (G l2 5) fun v11 => B P 3 .gtr v11 (.int .i64 0) fun v12 => Q v12 (AC P w0 n_p_spec_l1Rd_pick [G l2 0, .int .i64 4] s10 fun v13 s14 => B P 3 .gtr v13 (.int .i64 0) fun v15 => Q v15 (N (G l2 5) fun v16 => AC P w0 n_p_spec_l1Rd_pick [G l2 0, v16] s14 fun v17 s18 => X 1 (G l2 5) v17 fun v19 => L w0 1 v19 s18 fun g20 => V false 1 (g20 0) ((allOne [g20 0]) ∧ (A w0 9 1 16 (G l2 1) 1 [g20 0] s18 fun v21 s22 => AC P w0 n_spec_l1Find ([.agg (⟨[G l2 2, G l2 3, G l2 4, G l2 5, G l2 6]⟩), g20 0]) s22 fun v23 s24 => B P 3 .lss v23 (.int .i64 0) fun v25 => Q v25 (K3 (.exit 0) [G l2 0, v21, G l2 2, G l2 3, G l2 4, G l2 5, G l2 6] s24) (N (G l2 6) fun v26 => B P 3 .geq v23 v26 fun v27 => Q v27 (K3 (.exit 0) [G l2 0, v21, G l2 2, G l2 3, G l2 4, G l2 5, G l2 6] s24) (X 5 (G l2 6) v23 fun v28 => L w0 5 v28 s24 fun g29 => V true 5 (.agg (⟨[g29 0, g29 1, g29 2, g29 3, g29 4]⟩)) (K3 .normal [G l2 0, v21, g29 0, g29 1, g29 2, g29 3, g29 4] s24)))))) (V false 1 v9 ((allOne [v9]) ∧ (A w0 9 1 16 (G l2 1) 1 [v9] s14 fun v30 s31 => AC P w0 n_spec_l1Find ([.agg (⟨[G l2 2, G l2 3, G l2 4, G l2 5, G l2 6]⟩), v9]) s31 fun v32 s33 => B P 3 .lss v32 (.int .i64 0) fun v34 => Q v34 (K3 (.exit 0) [G l2 0, v30, G l2 2, G l2 3, G l2 4, G l2 5, G l2 6] s33) (N (G l2 6) fun v35 => B P 3 .geq v32 v35 fun v36 => Q v36 (K3 (.exit 0) [G l2 0, v30, G l2 2, G l2 3, G l2 4, G l2 5, G l2 6] s33) (X 5 (G l2 6) v32 fun v37 => L w0 5 v37 s33 fun g38 => V true 5 (.agg (⟨[g38 0, g38 1, g38 2, g38 3, g38 4]⟩)) (K3 .normal [G l2 0, v30, g38 0, g38 1, g38 2, g38 3, g38 4] s33))))))) (V false 1 v9 ((allOne [v9]) ∧ (A w0 9 1 16 (G l2 1) 1 [v9] s10 fun v39 s40 => AC P w0 n_spec_l1Find ([.agg (⟨[G l2 2, G l2 3, G l2 4, G l2 5, G l2 6]⟩), v9]) s40 fun v41 s42 => B P 3 .lss v41 (.int .i64 0) fun v43 => Q v43 (K3 (.exit 0) [G l2 0, v39, G l2 2, G l2 3, G l2 4, G l2 5, G l2 6] s42) (N (G l2 6) fun v44 => B P 3 .geq v41 v44 fun v45 => Q v45 (K3 (.exit 0) [G l2 0, v39, G l2 2, G l2 3, G l2 4, G l2 5, G l2 6] s42) (X 5 (G l2 6) v41 fun v46 => L w0 5 v46 s42 fun g47 => V true 5 (.agg (⟨[g47 0, g47 1, g47 2, g47 3, g47 4]⟩)) (K3 .normal [G l2 0, v39, g47 0, g47 1, g47 2, g47 3, g47 4] s42))))))) (AC P w0 n_p_spec_l1Rd_pick [G l2 0, .int .i64 3] s4 fun v48 s49 => B P 3 .gtr v48 (.int .i64 0) fun v50 => Q v50 (AC P w0 n_spec_l4Name [G l2 0] s49 fun v51 s52 => N (G l2 5) fun v53 => B P 3 .gtr v53 (.int .i64 0) fun v54 => Q v54 (AC P w0 n_p_spec_l1Rd_pick [G l2 0, .int .i64 4] s52 fun v55 s56 => B P 3 .gtr v55 (.int .i64 0) fun v57 => Q v57 (N (G l2 5) fun v58 => AC P w0 n_p_spec_l1Rd_pick [G l2 0, v58] s56 fun v59 s60 => X 1 (G l2 5) v59 fun v61 => L w0 1 v61 s60 fun g62 => V false 1 (g62 0) ((allOne [g62 0]) ∧ (A w0 9 1 16 (G l2 1) 1 [g62 0] s60 fun v63 s64 => AC P w0 n_spec_l1Find ([.agg (⟨[G l2 2, G l2 3, G l2 4, G l2 5, G l2 6]⟩), g62 0]) s64 fun v65 s66 => B P 3 .lss v65 (.int .i64 0) fun v67 => Q v67 (K3 (.exit 0) [G l2 0, v63, G l2 2, G l2 3, G l2 4, G l2 5, G l2 6] s66) (N (G l2 6) fun v68 => B P 3 .geq v65 v68 fun v69 => Q v69 (K3 (.exit 0) [G l2 0, v63, G l2 2, G l2 3, G l2 4, G l2 5, G l2 6] s66) (X 5 (G l2 6) v65 fun v70 => L w0 5 v70 s66 fun g71 => V true 5 (.agg (⟨[g71 0, g71 1, g71 2, g71 3, g71 4]⟩)) (K3 .normal [G l2 0, v63, g71 0, g71 1, g71 2, g71 3, g71 4] s66)))))) (V false 1 v51 ((allOne [v51]) ∧ (A w0 9 1 16 (G l2 1) 1 [v51] s56 fun v72 s73 => AC P w0 n_spec_l1Find ([.agg (⟨[G l2 2, G l2 3, G l2 4, G l2 5, G l2 6]⟩), v51]) s73 fun v74 s75 => B P 3 .lss v74 (.int .i64 0) fun v76 => Q v76 (K3 (.exit 0) [G l2 0, v72, G l2 2, G l2 3, G l2 4, G l2 5, G l2 6] s75) (N (G l2 6) fun v77 => B P 3 .geq v74 v77 fun v78 => Q v78 (K3 (.exit 0) [G l2 0, v72, G l2 2, G l2 3, G l2 4, G l2 5, G l2 6] s75) (X 5 (G l2 6) v74 fun v79 => L w0 5 v79 s75 fun g80 => V true 5 (.agg (⟨[g80 0, g80 1, g80 2, g80 3, g80 4]⟩)) (K3 .normal [G l2 0, v72, g80 0, g80 1, g80 2, g80 3, g80 4] s75))))))) (V false 1 v51 ((allOne [v51]) ∧ (A w0 9 1 16 (G l2 1) 1 [v51] s52 fun v81 s82 => AC P w0 n_spec_l1Find ([.agg (⟨[G l2 2, G l2 3, G l2 4, G l2 5, G l2 6]⟩), v51]) s82 fun v83 s84 => B P 3 .lss v83 (.int .i64 0) fun v85 => Q v85 (K3 (.exit 0) [G l2 0, v81, G l2 2, G l2 3, G l2 4, G l2 5, G l2 6] s84) (N (G l2 6) fun v86 => B P 3 .geq v83 v86 fun v87 => Q v87 (K3 (.exit 0) [G l2 0, v81, G l2 2, G l2 3, G l2 4, G l2 5, G l2 6] s84) (X 5 (G l2 6) v83 fun v88 => L w0 5 v88 s84 fun g89 => V true 5 (.agg (⟨[g89 0, g89 1, g89 2, g89 3, g89 4]⟩)) (K3 .normal [G l2 0, v81, g89 0, g89 1, g89 2, g89 3, g89 4] s84))))))) (K3 (.exit 0) [G l2 0, G l2 1, G l2 2, G l2 3, G l2 4, G l2 5, G l2 6] s49))) (K3 (.exit 0) [G l2 0, G l2 1, G l2 2, G l2 3, G l2 4, G l2 5, G l2 6] s4)) [a0, .slice (some (Addr.mk n0 0 none)) 0 0, C a1 0, C a1 1, C a1 2, C a1 3, C a1 4] s1 fun x90 l91 s92 => match x90 with | .normal => R (G l91 1) s92 | .ret => False | .exit i93 => (match Nat.beq i93 0 with | true => R (G l91 1) s92 | false => False)))
theorem vc_spec_l4Path_eq (w0 : World) (a0 a1 : Value) (σ : Vw) (R : Value → Vw → Prop) : vc_spec_l4Path w0 a0 a1 σ R = den Tryz.prog w0 kp_spec_l4Path esc_spec_l4Path (Tryz.f86.body.getD .skip) (entry Tryz.f86.ntmps [a0, a1]) σ (retK Tryz.prog Tryz.f86.results.toList R) := by kernel_rfl
theorem ac_spec_l4Path {w0 : World} {a0 a1 : Value} {σ : Vw} {R : Value → Vw → Prop} (h : vc_spec_l4Path w0 a0 a1 σ R) : AC Tryz.prog w0 n_spec_l4Path [a0, a1] σ R := by
  refine ac_rule (fn := Tryz.f86) (c := Tryz.f86.body.getD .skip) kp_spec_l4Path esc_spec_l4Path Tryz.func86 (by kernel_rfl) (by kernel_rfl) ?_
  rw [← vc_spec_l4Path_eq]
  exact h

/-- spec.l4Data -/
def kp_spec_l4Data : Nat → Keep
  | _ => ⟨[], [], [], .done, []⟩
def esc_spec_l4Data : Nat → Bool
  | 7 => true
  | _ => false
def vc_spec_l4Data (w0 : World) (a0 : Value) (σ : Vw) (R : Value → Vw → Prop) : Prop :=
  AC P w0 n_p_spec_l1Rd_pick [a0, .int .i64 25] σ fun v0 s1 => AC P w0 n_spec_l1Many ([.string ({ data := #[122] }), v0]) s1 fun v2 s3 => V false 1 (.string ({ data := #[] })) (V false 1 (.string ({ data := #[120] })) (V false 1 (.string ({ data := #[104, 101, 108, 108, 111] })) (V false 1 (.string ({ data := #[0, 255] })) (V false 1 (.string ({ data := #[48, 49, 50, 51, 52, 53, 54, 55, 56, 57] })) (V false 1 v2 (W w0 9 ([.string ({ data := #[] }), .string ({ data := #[120] }), .string ({ data := #[104, 101, 108, 108, 111] }), .string ({ data := #[0, 255] }), .string ({ data := #[48, 49, 50, 51, 52, 53, 54, 55, 56, 57] }), v2]) s3 fun n4 s5 => AC P w0 n_p_spec_l1Rd_of [a0, .slice (some (Addr.mk n4 0 none)) 6 6] s5 fun v6 s7 => R v6 s7))))))
theorem vc_spec_l4Data_eq (w0 : World) (a0 : Value) (σ : Vw) (R : Value → Vw → Prop) : vc_spec_l4Data w0 a0 σ R = den Tryz.prog w0 kp_spec_l4Data esc_spec_l4Data (Tryz.f87.body.getD .skip) (entry Tryz.f87.ntmps [a0]) σ (retK Tryz.prog Tryz.f87.results.toList R) := by kernel_rfl
theorem ac_spec_l4Data {w0 : World} {a0 : Value} {σ : Vw} {R : Value → Vw → Prop} (h : vc_spec_l4Data w0 a0 σ R) : AC Tryz.prog w0 n_spec_l4Data [a0] σ R := by
  refine ac_rule (fn := Tryz.f87) (c := Tryz.f87.body.getD .skip) kp_spec_l4Data esc_spec_l4Data Tryz.func87 (by kernel_rfl) (by kernel_rfl) ?_
  rw [← vc_spec_l4Data_eq]
  exact h

/-- spec.TreeDo -/
def kp_spec_TreeDo : Nat → Keep
  | _ => ⟨[], [], [], .done, []⟩
def esc_spec_TreeDo : Nat → Bool
  | _ => false
def vc_spec_TreeDo (w0 : World) (a0 a1 : Value) (σ : Vw) (R : Value → Vw → Prop) : Prop :=
  V true 5 a0 (V true 5 a1 (AC P w0 n_spec_TreeOk ([.agg (⟨[C a0 0, C a0 1, C a0 2, C a0 3, C a0 4]⟩)]) σ fun v0 s1 => pUn .not v0 fun v2 => Q v2 (V true 5 (.agg (⟨[.bool false, .int .i64 0, .string ({ data := #[] }), .slice none 0 0, .slice none 0 0]⟩)) (R (.tuple (⟨[.agg (⟨[.bool false, .int .i64 0, .string ({ data := #[] }), .slice none 0 0, .slice none 0 0]⟩), .int .i64 1]⟩)) s1)) (AC P w0 n_spec_l2CallOk ([.agg (⟨[C a1 0, C a1 1, C a1 2, C a1 3, C a1 4]⟩)]) s1 fun v3 s4 => pUn .not v3 fun v5 => Q v5 (AC P w0 n_spec_l1Copy ([.agg (⟨[C a0 0, C a0 1, C a0 2, C a0 3, C a0 4]⟩)]) s4 fun v6 s7 => V true 5 v6 (R (.tuple (⟨[.agg (⟨[C v6 0, C v6 1, C v6 2, C v6 3, C v6 4]⟩), .int .i64 2]⟩)) s7)) (AC P w0 n_spec_l2Do ([.agg (⟨[C a0 0, C a0 1, C a0 2, C a0 3, C a0 4]⟩), .agg (⟨[C a1 0, C a1 1, C a1 2, C a1 3, C a1 4]⟩)]) s4 fun v8 s9 => E v8 0 fun v10 => E v8 1 fun v11 => V true 5 v10 (AC P w0 n_spec_l1Copy ([.agg (⟨[C v10 0, C v10 1, C v10 2, C v10 3, C v10 4]⟩)]) s9 fun v12 s13 => V true 5 v12 (R (.tuple (⟨[.agg (⟨[C v12 0, C v12 1, C v12 2, C v12 3, C v12 4]⟩), v11]⟩)) s13))))))
theorem vc_spec_TreeDo_eq (w0 : World) (a0 a1 : Value) (σ : Vw) (R : Value → Vw → Prop) : vc_spec_TreeDo w0 a0 a1 σ R = den Tryz.prog w0 kp_spec_TreeDo esc_spec_TreeDo (Tryz.f88.body.getD .skip) (entry Tryz.f88.ntmps [a0, a1]) σ (retK Tryz.prog Tryz.f88.results.toList R) := by kernel_rfl
theorem ac_spec_TreeDo {w0 : World} {a0 a1 : Value} {σ : Vw} {R : Value → Vw → Prop} (h : vc_spec_TreeDo w0 a0 a1 σ R) : AC Tryz.prog w0 n_spec_TreeDo [a0, a1] σ R := by
  refine ac_rule (fn := Tryz.f88) (c := Tryz.f88.body.getD .skip) kp_spec_TreeDo esc_spec_TreeDo Tryz.func88 (by kernel_rfl) (by kernel_rfl) ?_
  rw [← vc_spec_TreeDo_eq]
  exact h

/-- spec.l4Calls -/
def kp_spec_l4Calls : Nat → Keep
  | 1 => ⟨[0, 2], [(4, 5), (6, 5)], [4, 6], .done, []⟩
  | 3 => ⟨[], [], [], .step 0 (.step 1 (.step 2 (.step 8 (.step 3 (.step 4 (.step 5 (.step 6 (.step 7 (.step 9 (.step 10 (.done))))))))))), [(3, [1, 2]), (4, [0, 1, 2, 3]), (5, [0, 1, 2, 3, 4]), (6, [0, 1, 2, 3, 4, 5]), (7, [0, 1, 2, 3, 4, 5]), (9, [0, 1, 2, 3, 4, 5, 6, 8]), (10, [0, 1, 2, 3, 4, 5, 6, 7, 8, 9])]⟩
  | _ => ⟨[], [], [], .done, []⟩
def esc_spec_l4Calls : Nat → Bool
  | _ => false
def vc_spec_l4Calls (w0 : World) (a0 a1 a2 : Value) (σ : Vw) (R : Value → Vw → Prop) : Prop :=
  V true 5 a1 (pLoop (fun l0 K1 s2 => B P 3 .gtr (G l0 1) (.int .i64 0) fun v3 => Q v3 (AC P w0 n_spec_l4Call ([G l0 0, .agg (⟨[G l0 2, G l0 3, G l0 4, G l0 5, G l0 6]⟩)]) s2 fun v4 s5 => AC P w0 n_spec_TreeDo ([.agg (⟨[G l0 2, G l0 3, G l0 4, G l0 5, G l0 6]⟩), v4]) s5 fun v6 s7 => E v6 0 fun v8 => E v6 1 fun v9 => V true 5 v8 (B P 3 .eql v9 (.int .i64 0) fun v10 => Q v10 (V true 5 (.agg (⟨[C v8 0, C v8 1, C v8 2, C v8 3, C v8 4]⟩)) (B P 3 .sub (G l0 1) (.int .i64 1) fun v11 => K1 .normal [G l0 0, v11, C v8 0, C v8 1, C v8 2, C v8 3, C v8 4, G l0 7, G l0 8, G l0 9, G l0 10, G l0 11] s7)) (B P 3 .sub (G l0 1) (.int .i64 1) fun v12 => K1 .normal [G l0 0, v12, G l0 2, G l0 3, G l0 4, G l0 5, G l0 6, G l0 7, G l0 8, G l0 9, G l0 10, G l0 11] s7))) (K1 (.exit 0) [G l0 0, G l0 1, G l0 2, G l0 3, G l0 4, G l0 5, G l0 6, G l0 7, G l0 8, G l0 9, G l0 10, G l0 11] s2)) ([a0, a2, C a1 0, C a1 1, C a1 2, C a1 3, C a1 4, .bool false, .int .i64 0, .string ({ data := #[] }), .slice none 0 0, .slice none 0 0]) σ fun x13 l14 s15 => match x13 with | .normal => V true 5 (.agg (⟨[G l14 2, G l14 3, G l14 4, G l14 5, G l14 6]⟩)) (R (.agg (⟨[G l14 2, G l14 3, G l14 4, G l14 5, G l14 6]⟩)) s15) | .ret => R (.agg (⟨[G l14 7, G l14 8, G l14 9, G l14 10, G l14 11]⟩)) s15 | .exit i16 => (match Nat.beq i16 0 with | true => V true 5 (.agg (⟨[G l14 2, G l14 3, G l14 4, G l14 5, G l14 6]⟩)) (R (.agg (⟨[G l14 2, G l14 3, G l14 4, G l14 5, G l14 6]⟩)) s15) | false => False))
theorem vc_spec_l4Calls_eq (w0 : World) (a0 a1 a2 : Value) (σ : Vw) (R : Value → Vw → Prop) : vc_spec_l4Calls w0 a0 a1 a2 σ R = den Tryz.prog w0 kp_spec_l4Calls esc_spec_l4Calls (Tryz.f89.body.getD .skip) (entry Tryz.f89.ntmps [a0, a1, a2]) σ (retK Tryz.prog Tryz.f89.results.toList R) := by kernel_rfl
theorem ac_spec_l4Calls {w0 : World} {a0 a1 a2 : Value} {σ : Vw} {R : Value → Vw → Prop} (h : vc_spec_l4Calls w0 a0 a1 a2 σ R) : AC Tryz.prog w0 n_spec_l4Calls [a0, a1, a2] σ R := by
  refine ac_rule (fn := Tryz.f89) (c := Tryz.f89.body.getD .skip) kp_spec_l4Calls esc_spec_l4Calls Tryz.func89 (by kernel_rfl) (by kernel_rfl) ?_
  rw [← vc_spec_l4Calls_eq]
  exact h

/-- spec.l13Trail -/
def kp_spec_l13Trail : Nat → Keep
  | 3 => ⟨[0, 5, 6], [(3, 5)], [3], .done, []⟩
  | _ => ⟨[], [], [], .done, []⟩
def esc_spec_l13Trail : Nat → Bool
  | 7 => true
  | _ => false
def vc_spec_l13Trail (w0 : World) (a0 a1 : Value) (σ : Vw) (R : Value → Vw → Prop) : Prop :=
  V true 5 a1 (W w0 31 [] σ fun n0 s1 => AC P w0 n_p_spec_l1Rd_pick [a0, .int .i64 9] s1 fun v2 s3 => pLoop (fun l4 K5 s6 => B P 3 .gtr (G l4 2) (.int .i64 0) fun v7 => Q v7 (AC P w0 n_spec_l13Mark ([G l4 0, .agg (⟨[G l4 3, G l4 4, G l4 5, G l4 6, G l4 7]⟩)]) s6 fun v8 s9 => AC P w0 n_spec_TrailAdd [G l4 1, v8] s9 fun v10 s11 => B P 3 .sub (G l4 2) (.int .i64 1) fun v12 => K5 .normal [G l4 0, v10, v12, G l4 3, G l4 4, G l4 5, G l4 6, G l4 7] s11) (K5 (.exit 0) [G l4 0, G l4 1, G l4 2, G l4 3, G l4 4, G l4 5, G l4 6, G l4 7] s6)) [a0, .slice (some (Addr.mk n0 0 none)) 0 0, v2, C a1 0, C a1 1, C a1 2, C a1 3, C a1 4] s3 fun x13 l14 s15 => match x13 with | .normal => R (G l14 1) s15 | .ret => False | .exit i16 => (match Nat.beq i16 0 with | true => R (G l14 1) s15 | false => False))
theorem vc_spec_l13Trail_eq (w0 : World) (a0 a1 : Value) (σ : Vw) (R : Value → Vw → Prop) : vc_spec_l13Trail w0 a0 a1 σ R = den Tryz.prog w0 kp_spec_l13Trail esc_spec_l13Trail (Tryz.f90.body.getD .skip) (entry Tryz.f90.ntmps [a0, a1]) σ (retK Tryz.prog Tryz.f90.results.toList R) := by kernel_rfl
theorem ac_spec_l13Trail {w0 : World} {a0 a1 : Value} {σ : Vw} {R : Value → Vw → Prop} (h : vc_spec_l13Trail w0 a0 a1 σ R) : AC Tryz.prog w0 n_spec_l13Trail [a0, a1] σ R := by
  refine ac_rule (fn := Tryz.f90) (c := Tryz.f90.body.getD .skip) kp_spec_l13Trail esc_spec_l13Trail Tryz.func90 (by kernel_rfl) (by kernel_rfl) ?_
  rw [← vc_spec_l13Trail_eq]
  exact h

/-- spec.l13Spoil -/
def kp_spec_l13Spoil : Nat → Keep
  | 4 => ⟨[0, 5, 6], [], [], .done, []⟩
  | 14 => ⟨[], [], [], .step 0 (.step 1 (.step 2 (.step 3 (.step 4 (.step 5 (.step 6 (.step 7 (.step 8 (.step 9 (.step 10 (.step 11 (.step 12 (.step 13 (.step 14 (.done))))))))))))))), [(4, [2, 3]), (5, [2, 3, 4]), (6, [2, 3, 4, 5]), (9, [7, 8]), (10, [7, 8, 9]), (11, [2, 3, 4, 5, 6, 7, 8, 9, 10]), (12, [0, 1, 2, 3, 4, 5, 6, 7, 8, 9, 10, 11]), (13, [0, 1, 2, 3, 4, 5, 6, 7, 8, 9, 10, 11, 12]), (14, [0, 1, 2, 3, 4, 5, 6, 7, 8, 9, 10, 11, 12, 13])]⟩
  | _ => ⟨[], [], [], .done, []⟩
def esc_spec_l13Spoil : Nat → Bool
  | 31 => true
  | 44 => true
  | 69 => true
  | _ => false
def vc_spec_l13Spoil (w0 : World) (a0 a1 : Value) (σ : Vw) (R : Value → Vw → Prop) : Prop :=
  AC P w0 n_spec_l11Copy [a1] σ fun v0 s1 => N v0 fun v2 => B P 3 .eql v2 (.int .i64 0) fun v3 => Q v3 (pLoop (fun l4 K5 s6 => N (G l4 1) fun v7 => AC P w0 n_p_spec_l1Rd_pick [G l4 0, .int .i64 2] s6 fun v8 s9 => B P 3 .add (.int .i64 6) v8 fun v10 => B P 3 .lss v7 v10 fun v11 => Q v11 (B P 3 .add (.int .i64 100) (G l4 2) fun v12 => AC P w0 n_spec_l1Dec [v12] s9 fun v13 s14 => B P 9 .add (.string ({ data := #[122] })) v13 fun v15 => V false 1 v15 (W w0 9 [v15] s14 fun n16 s17 => V false 1 (.slice (some (Addr.mk n16 0 none)) 1 1) (V true 2 (.agg (⟨[.slice (some (Addr.mk n16 0 none)) 1 1, .bool false]⟩)) ((allOne [.slice (some (Addr.mk n16 0 none)) 1 1, .bool false]) ∧ (A w0 31 2 32 (G l4 1) 1 [.slice (some (Addr.mk n16 0 none)) 1 1, .bool false] s17 fun v18 s19 => B P 3 .add (G l4 2) (.int .i64 1) fun v20 => K5 .normal [G l4 0, v18, v20] s19))))) (K5 (.exit 0) [G l4 0, G l4 1, G l4 2] s9)) [a0, v0, .int .i64 0] s1 fun x21 l22 s23 => match x21 with | .normal => R (G l22 1) s23 | .ret => False | .exit i24 => (match Nat.beq i24 0 with | true => R (G l22 1) s23 | false => False)) (AC P w0 n_p_spec_l1Rd_pick [a0, .int .i64 4] s1 fun v25 s26 => B P 3 .eql v25 (.int .i64 0) fun v27 => Q v27 (pLoop (fun l28 K29 s30 => N (G l28 1) fun v31 => AC P w0 n_p_spec_l1Rd_pick [G l28 0, .int .i64 2] s30 fun v32 s33 => B P 3 .add (.int .i64 6) v32 fun v34 => B P 3 .lss v31 v34 fun v35 => Q v35 (B P 3 .add (.int .i64 100) (G l28 2) fun v36 => AC P w0 n_spec_l1Dec [v36] s33 fun v37 s38 => B P 9 .add (.string ({ data := #[122] })) v37 fun v39 => V false 1 v39 (W w0 9 [v39] s38 fun n40 s41 => V false 1 (.slice (some (Addr.mk n40 0 none)) 1 1) (V true 2 (.agg (⟨[.slice (some (Addr.mk n40 0 none)) 1 1, .bool false]⟩)) ((allOne [.slice (some (Addr.mk n40 0 none)) 1 1, .bool false]) ∧ (A w0 31 2 32 (G l28 1) 1 [.slice (some (Addr.mk n40 0 none)) 1 1, .bool false] s41 fun v42 s43 => B P 3 .add (G l28 2) (.int .i64 1) fun v44 => K29 .normal [G l28 0, v42, v44] s43))))) (K29 (.exit 0) [G l28 0, G l28 1, G l28 2] s33)) [a0, v0, .int .i64 0] s26 fun x45 l46 s47 => match x45 with | .normal => R (G l46 1) s47 | .ret => False | .exit i48 => (match Nat.beq i48 0 with | true => R (G l46 1) s47 | false => False)) (N v0 fun v49 => AC P w0 n_p_spec_l1Rd_pick [a0, v49] s26 fun v50 s51 => AC P w0 n_p_spec_l1Rd_pick [a0, .int .i64 4] s51 fun v52 s53 => B P 3 .eql v52 (.int .i64 0) fun v54 => Q v54 (X 2 v0 v50 fun v55 => F 1 v55 fun v56 => L w0 1 v56 s53 fun g57 => pUn .not (g57 0) fun v58 => X 2 v0 v50 fun v59 => F 1 v59 fun v60 => V false 1 v58 (pStore v60 [v58] s53 fun s61 => R v0 s61)) (B P 3 .eql v52 (.int .i64 1) fun v62 => Q v62 (X 2 v0 v50 fun v63 => F 0 v63 fun v64 => L w0 1 v64 s53 fun g65 => V false 1 (.string ({ data := #[97] })) (V false 1 (.string ({ data := #[] })) (V false 1 (.string ({ data := #[120] })) (W w0 9 ([.string ({ data := #[97] }), .string ({ data := #[] }), .string ({ data := #[120] })]) s53 fun n66 s67 => (Stay w0 s53 s67 v64 1) ∧ (AC P w0 n_p_spec_l1Rd_of [a0, .slice (some (Addr.mk n66 0 none)) 3 3] s67 fun v68 s69 => (Stay w0 s67 s69 v64 1) ∧ (V false 1 v68 ((allOne [v68]) ∧ (A w0 9 1 16 (g65 0) 1 [v68] s69 fun v70 s71 => X 2 v0 v50 fun v72 => F 0 v72 fun v73 => V false 1 v70 (pStore v73 [v70] s71 fun s74 => R v0 s74))))))))) (B P 3 .eql v52 (.int .i64 2) fun v75 => Q v75 (X 2 v0 v50 fun v76 => L w0 2 v76 s53 fun g77 => V true 2 (.agg (⟨[g77 0, g77 1]⟩)) ((allOne [g77 0, g77 1]) ∧ (A w0 31 2 32 v0 1 [g77 0, g77 1] s53 fun v78 s79 => R v78 s79))) (W w0 9 [] s53 fun n80 s81 => X 2 v0 v50 fun v82 => F 0 v82 fun v83 => V false 1 (.slice (some (Addr.mk n80 0 none)) 0 0) (pStore v83 [.slice (some (Addr.mk n80 0 none)) 0 0] s81 fun s84 => R v0 s84))))))
theorem vc_spec_l13Spoil_eq (w0 : World) (a0 a1 : Value) (σ : Vw) (R : Value → Vw → Prop) : vc_spec_l13Spoil w0 a0 a1 σ R = den Tryz.prog w0 kp_spec_l13Spoil esc_spec_l13Spoil (Tryz.f91.body.getD .skip) (entry Tryz.f91.ntmps [a0, a1]) σ (retK Tryz.prog Tryz.f91.results.toList R) := by kernel_rfl
theorem ac_spec_l13Spoil {w0 : World} {a0 a1 : Value} {σ : Vw} {R : Value → Vw → Prop} (h : vc_spec_l13Spoil w0 a0 a1 σ R) : AC Tryz.prog w0 n_spec_l13Spoil [a0, a1] σ R := by
  refine ac_rule (fn := Tryz.f91) (c := Tryz.f91.body.getD .skip) kp_spec_l13Spoil esc_spec_l13Spoil Tryz.func91 (by kernel_rfl) (by kernel_rfl) ?_
  rw [← vc_spec_l13Spoil_eq]
  exact h

/-- (*spec.l1Rd).of -/
def kp_p_spec_l1Rd_of : Nat → Keep
  | _ => ⟨[], [], [], .done, []⟩
def esc_p_spec_l1Rd_of : Nat → Bool
  | _ => false
def vc_p_spec_l1Rd_of (w0 : World) (a0 a1 : Value) (σ : Vw) (R : Value → Vw → Prop) : Prop :=
  N a1 fun v0 => AC P w0 n_p_spec_l1Rd_pick [a0, v0] σ fun v1 s2 => X 1 a1 v1 fun v3 => L w0 1 v3 s2 fun g4 => R (g4 0) s2
theorem vc_p_spec_l1Rd_of_eq (w0 : World) (a0 a1 : Value) (σ : Vw) (R : Value → Vw → Prop) : vc_p_spec_l1Rd_of w0 a0 a1 σ R = den Tryz.prog w0 kp_p_spec_l1Rd_of esc_p_spec_l1Rd_of (Tryz.f92.body.getD .skip) (entry Tryz.f92.ntmps [a0, a1]) σ (retK Tryz.prog Tryz.f92.results.toList R) := by kernel_rfl
theorem ac_p_spec_l1Rd_of {w0 : World} {a0 a1 : Value} {σ : Vw} {R : Value → Vw → Prop} (h : vc_p_spec_l1Rd_of w0 a0 a1 σ R) : AC Tryz.prog w0 n_p_spec_l1Rd_of [a0, a1] σ R := by
  refine ac_rule (fn := Tryz.f92) (c := Tryz.f92.body.getD .skip) kp_p_spec_l1Rd_of esc_p_spec_l1Rd_of Tryz.func92 (by kernel_rfl) (by kernel_rfl) ?_
  rw [← vc_p_spec_l1Rd_of_eq]
  exact h

/-- (impl.Tree).sound -/
def kp_impl_Tree_sound : Nat → Keep
  | 8 => ⟨[1, 4, 41, 42, 43], [(2, 5)], [2], .done, []⟩
  | _ => ⟨[], [], [], .done, []⟩
def esc_impl_Tree_sound : Nat → Bool
  | _ => false
def vc_impl_Tree_sound (w0 : World) (a0 a1 : Value) (σ : Vw) (R : Value → Vw → Prop) : Prop :=
  V true 5 a0 (AC P w0 n_impl_modeOk [C a0 1] σ fun v0 s1 => pUn .not v0 fun v2 => Q v2 (R (.bool false) s1) (B P 3 .gtr a1 (.int .i64 4) fun v3 => Q v3 (R (.bool false) s1) (N (C a0 3) fun v4 => N (C a0 4) fun v5 => B P 3 .neq v4 v5 fun v6 => Q v6 (R (.bool false) s1) (pUn .not (C a0 0) fun v7 => Q v7 (pLenS (C a0 2) fun v8 => B P 3 .leq v8 (.int .i64 24) fun v9 => Q v9 (N (C a0 3) fun v10 => B P 3 .eql v10 (.int .i64 0) fun v11 => R v11 s1) (R (.bool false) s1)) (B P 9 .neq (C a0 2) (.string ({ data := #[] })) fun v12 => Q v12 (R (.bool false) s1) (N (C a0 3) fun v13 => pLoop (fun l14 K15 s16 => B P 3 .lss (G l14 4) (G l14 3) fun v17 => Q v17 (X 1 (G l14 2) (G l14 4) fun v18 => L w0 1 v18 s16 fun g19 => AC P w0 n_impl_nameOk [g19 0] s16 fun v20 s21 => pUn .not v20 fun v22 => Q v22 (K15 .ret [G l14 0, .bool false, G l14 2, G l14 3, G l14 4, G l14 5, G l14 6, G l14 7, G l14 8, G l14 9] s21) (B P 3 .gtr (G l14 4) (.int .i64 0) fun v23 => Q v23 (B P 3 .sub (G l14 4) (.int .i64 1) fun v24 => X 1 (G l14 8) v24 fun v25 => L w0 1 v25 s21 fun g26 => B P 9 .geq (g26 0) (g19 0) fun v27 => Q v27 (K15 .ret [G l14 0, .bool false, G l14 2, G l14 3, G l14 4, G l14 5, G l14 6, G l14 7, G l14 8, G l14 9] s21) (X 5 (G l14 9) (G l14 4) fun v28 => L w0 5 v28 s21 fun g29 => B P 3 .add (G l14 0) (.int .i64 1) fun v30 => AC P w0 n_impl_Tree_sound ([.agg (⟨[g29 0, g29 1, g29 2, g29 3, g29 4]⟩), v30]) s21 fun v31 s32 => pUn .not v31 fun v33 => Q v33 (K15 .ret [G l14 0, .bool false, G l14 2, G l14 3, G l14 4, G l14 5, G l14 6, G l14 7, G l14 8, G l14 9] s32) (B P 3 .add (G l14 4) (.int .i64 1) fun v34 => K15 .normal [G l14 0, G l14 1, G l14 2, G l14 3, v34, G l14 5, G l14 6, G l14 7, G l14 8, G l14 9] s32))) (X 5 (G l14 9) (G l14 4) fun v35 => L w0 5 v35 s21 fun g36 => B P 3 .add (G l14 0) (.int .i64 1) fun v37 => AC P w0 n_impl_Tree_sound ([.agg (⟨[g36 0, g36 1, g36 2, g36 3, g36 4]⟩), v37]) s21 fun v38 s39 => pUn .not v38 fun v40 => Q v40 (K15 .ret [G l14 0, .bool false, G l14 2, G l14 3, G l14 4, G l14 5, G l14 6, G l14 7, G l14 8, G l14 9] s39) (B P 3 .add (G l14 4) (.int .i64 1) fun v41 => K15 .normal [G l14 0, G l14 1, G l14 2, G l14 3, v41, G l14 5, G l14 6, G l14 7, G l14 8, G l14 9] s39)))) (K15 (.exit 0) [G l14 0, G l14 1, G l14 2, G l14 3, G l14 4, G l14 5, G l14 6, G l14 7, G l14 8, G l14 9] s16)) [a1, .bool false, C a0 3, v13, .int .i64 0, C a0 0, C a0 1, C a0 2, C a0 3, C a0 4] s1 fun x42 l43 s44 => match x42 with | .normal => R (.bool true) s44 | .ret => R (G l43 1) s44 | .exit i45 => (match Nat.beq i45 0 with | true => R (.bool true) s44 | false => False)))))))
theorem vc_impl_Tree_sound_eq (w0 : World) (a0 a1 : Value) (σ : Vw) (R : Value → Vw → Prop) : vc_impl_Tree_sound w0 a0 a1 σ R = den Tryz.prog w0 kp_impl_Tree_sound esc_impl_Tree_sound (Tryz.f93.body.getD .skip) (entry Tryz.f93.ntmps [a0, a1]) σ (retK Tryz.prog Tryz.f93.results.toList R) := by kernel_rfl
theorem ac_impl_Tree_sound {w0 : World} {a0 a1 : Value} {σ : Vw} {R : Value → Vw → Prop} (h : vc_impl_Tree_sound w0 a0 a1 σ R) : AC Tryz.prog w0 n_impl_Tree_sound [a0, a1] σ R := by
  refine ac_rule (fn := Tryz.f93) (c := Tryz.f93.body.getD .skip) kp_impl_Tree_sound esc_impl_Tree_sound Tryz.func93 (by kernel_rfl) (by kernel_rfl) ?_
  rw [← vc_impl_Tree_sound_eq]
  exact h

/-- (impl.Tree).paths -/
def kp_impl_Tree_paths : Nat → Keep
  | 3 => ⟨[3, 7, 8, 9], [], [], .done, []⟩
  | _ => ⟨[], [], [], .done, []⟩
def esc_impl_Tree_paths : Nat → Bool
  | _ => false
def vc_impl_Tree_paths (w0 : World) (a0 : Value) (σ : Vw) (R : Value → Vw → Prop) : Prop :=
  V true 5 a0 (N (C a0 4) fun v0 => pLoop (fun l1 K2 s3 => B P 3 .lss (G l1 3) (G l1 2) fun v4 => Q v4 (X 5 (G l1 1) (G l1 3) fun v5 => L w0 5 v5 s3 fun g6 => V true 5 (.agg (⟨[g6 0, g6 1, g6 2, g6 3, g6 4]⟩)) (AC P w0 n_impl_Tree_paths ([.agg (⟨[g6 0, g6 1, g6 2, g6 3, g6 4]⟩)]) s3 fun v7 s8 => B P 3 .add (G l1 0) v7 fun v9 => B P 3 .add (G l1 3) (.int .i64 1) fun v10 => K2 .normal [v9, G l1 1, G l1 2, v10] s8)) (K2 (.exit 0) [G l1 0, G l1 1, G l1 2, G l1 3] s3)) [.int .i64 1, C a0 4, v0, .int .i64 0] σ fun x11 l12 s13 => match x11 with | .normal => R (G l12 0) s13 | .ret => False | .exit i14 => (match Nat.beq i14 0 with | true => R (G l12 0) s13 | false => False))
theorem vc_impl_Tree_paths_eq (w0 : World) (a0 : Value) (σ : Vw) (R : Value → Vw → Prop) : vc_impl_Tree_paths w0 a0 σ R = den Tryz.prog w0 kp_impl_Tree_paths esc_impl_Tree_paths (Tryz.f94.body.getD .skip) (entry Tryz.f94.ntmps [a0]) σ (retK Tryz.prog Tryz.f94.results.toList R) := by kernel_rfl
theorem ac_impl_Tree_paths {w0 : World} {a0 : Value} {σ : Vw} {R : Value → Vw → Prop} (h : vc_impl_Tree_paths w0 a0 σ R) : AC Tryz.prog w0 n_impl_Tree_paths [a0] σ R := by
  refine ac_rule (fn := Tryz.f94) (c := Tryz.f94.body.getD .skip) kp_impl_Tree_paths esc_impl_Tree_paths Tryz.func94 (by kernel_rfl) (by kernel_rfl) ?_
  rw [← vc_impl_Tree_paths_eq]
  exact h

/-- impl.marked -/
def kp_impl_marked : Nat → Keep
  | _ => ⟨[], [], [], .done, []⟩
def esc_impl_marked : Nat → Bool
  | 3 => true
  | _ => false
def vc_impl_marked (w0 : World) (a0 a1 : Value) (σ : Vw) (R : Value → Vw → Prop) : Prop :=
  V false 1 a1 (W w0 23 [a1] σ fun n0 s1 => L w0 1 (.pointer (some (Addr.mk n0 0 none))) s1 fun g2 => AC P w0 n_impl_under [a0, g2 0] s1 fun v3 s4 => Q v3 (R (.bool true) s4) (AC P w0 n_slices_ContainsFunc_impl_Mark_impl_Mark ([a0, .func (Fn.func 138) ⟨[]⟩ (⟨[.pointer (some (Addr.mk n0 0 none))]⟩)]) s4 fun v5 s6 => R v5 s6))
theorem vc_impl_marked_eq (w0 : World) (a0 a1 : Value) (σ : Vw) (R : Value → Vw → Prop) : vc_impl_marked w0 a0 a1 σ R = den Tryz.prog w0 kp_impl_marked esc_impl_marked (Tryz.f97.body.getD .skip) (entry Tryz.f97.ntmps [a0, a1]) σ (retK Tryz.prog Tryz.f97.results.toList R) := by kernel_rfl
theorem ac_impl_marked {w0 : World} {a0 a1 : Value} {σ : Vw} {R : Value → Vw → Prop} (h : vc_impl_marked w0 a0 a1 σ R) : AC Tryz.prog w0 n_impl_marked [a0, a1] σ R := by
  refine ac_rule (fn := Tryz.f97) (c := Tryz.f97.body.getD .skip) kp_impl_marked esc_impl_marked Tryz.func97 (by kernel_rfl) (by kernel_rfl) ?_
  rw [← vc_impl_marked_eq]
  exact h

def esc_impl_below : Nat → Bool
  | 5 => true
  | _ => false
/-- impl.leads -/
def kp_impl_leads : Nat → Keep
  | 2 => ⟨[1, 4, 7, 8, 9], [], [], .done, []⟩
  | _ => ⟨[], [], [], .done, []⟩
/-- (*impl.Tree).kid -/
def kp_p_impl_Tree_kid : Nat → Keep
  | _ => ⟨[], [], [], .done, []⟩
def esc_p_impl_Tree_kid : Nat → Bool
  | _ => false
def vc_p_impl_Tree_kid (w0 : World) (a0 a1 : Value) (σ : Vw) (R : Value → Vw → Prop) : Prop :=
  pNil a0 (F 3 a0 fun v0 => L w0 1 v0 σ fun g1 => AC P w0 n_slices_Index_string_string [g1 0, a1] σ fun v2 s3 => B P 3 .lss v2 (.int .i64 0) fun v4 => Q v4 (R (.pointer none) s3) (pNil a0 (F 4 a0 fun v5 => L w0 1 v5 s3 fun g6 => N (g6 0) fun v7 => B P 3 .geq v2 v7 fun v8 => Q v8 (R (.pointer none) s3) (pNil a0 (F 4 a0 fun v9 => L w0 1 v9 s3 fun g10 => X 5 (g10 0) v2 fun v11 => R v11 s3)))))
theorem vc_p_impl_Tree_kid_eq (w0 : World) (a0 a1 : Value) (σ : Vw) (R : Value → Vw → Prop) : vc_p_impl_Tree_kid w0 a0 a1 σ R = den Tryz.prog w0 kp_p_impl_Tree_kid esc_p_impl_Tree_kid (Tryz.f102.body.getD .skip) (entry Tryz.f102.ntmps [a0, a1]) σ (retK Tryz.prog Tryz.f102.results.toList R) := by kernel_rfl
theorem ac_p_impl_Tree_kid {w0 : World} {a0 a1 : Value} {σ : Vw} {R : Value → Vw → Prop} (h : vc_p_impl_Tree_kid w0 a0 a1 σ R) : AC Tryz.prog w0 n_p_impl_Tree_kid [a0, a1] σ R := by
  refine ac_rule (fn := Tryz.f102) (c := Tryz.f102.body.getD .skip) kp_p_impl_Tree_kid esc_p_impl_Tree_kid Tryz.func102 (by kernel_rfl) (by kernel_rfl) ?_
  rw [← vc_p_impl_Tree_kid_eq]
  exact h

/-- spec.l1Parts -/
def kp_spec_l1Parts : Nat → Keep
  | 4 => ⟨[1, 4, 5], [(2, 5)], [2], .done, []⟩
  | _ => ⟨[], [], [], .done, []⟩
def esc_spec_l1Parts : Nat → Bool
  | _ => false
def vc_spec_l1Parts (w0 : World) (a0 a1 : Value) (σ : Vw) (R : Value → Vw → Prop) : Prop :=
  V true 5 a0 (AC P w0 n_spec_l1Plain ([.agg (⟨[C a0 0, C a0 1, C a0 2, C a0 3, C a0 4]⟩)]) σ fun v0 s1 => pUn .not v0 fun v2 => Q v2 (R (.bool false) s1) (B P 3 .gtr a1 (.int .i64 4) fun v3 => Q v3 (R (.bool false) s1) (pLoop (fun l4 K5 s6 => N (G l4 7) fun v7 => B P 3 .lss (G l4 2) v7 fun v8 => Q v8 (X 5 (G l4 7) (G l4 2) fun v9 => L w0 5 v9 s6 fun g10 => B P 3 .add (G l4 0) (.int .i64 1) fun v11 => AC P w0 n_spec_l1Parts ([.agg (⟨[g10 0, g10 1, g10 2, g10 3, g10 4]⟩), v11]) s6 fun v12 s13 => pUn .not v12 fun v14 => Q v14 (K5 .ret [G l4 0, .bool false, G l4 2, G l4 3, G l4 4, G l4 5, G l4 6, G l4 7] s13) (B P 3 .add (G l4 2) (.int .i64 1) fun v15 => K5 .normal [G l4 0, G l4 1, v15, G l4 3, G l4 4, G l4 5, G l4 6, G l4 7] s13)) (K5 (.exit 0) [G l4 0, G l4 1, G l4 2, G l4 3, G l4 4, G l4 5, G l4 6, G l4 7] s6)) [a1, .bool false, .int .i64 0, C a0 0, C a0 1, C a0 2, C a0 3, C a0 4] s1 fun x16 l17 s18 => match x16 with | .normal => R (.bool true) s18 | .ret => R (G l17 1) s18 | .exit i19 => (match Nat.beq i19 0 with | true => R (.bool true) s18 | false => False))))
theorem vc_spec_l1Parts_eq (w0 : World) (a0 a1 : Value) (σ : Vw) (R : Value → Vw → Prop) : vc_spec_l1Parts w0 a0 a1 σ R = den Tryz.prog w0 kp_spec_l1Parts esc_spec_l1Parts (Tryz.f103.body.getD .skip) (entry Tryz.f103.ntmps [a0, a1]) σ (retK Tryz.prog Tryz.f103.results.toList R) := by kernel_rfl
theorem ac_spec_l1Parts {w0 : World} {a0 a1 : Value} {σ : Vw} {R : Value → Vw → Prop} (h : vc_spec_l1Parts w0 a0 a1 σ R) : AC Tryz.prog w0 n_spec_l1Parts [a0, a1] σ R := by
  refine ac_rule (fn := Tryz.f103) (c := Tryz.f103.body.getD .skip) kp_spec_l1Parts esc_spec_l1Parts Tryz.func103 (by kernel_rfl) (by kernel_rfl) ?_
  rw [← vc_spec_l1Parts_eq]
  exact h

/-- spec.l1Count -/
def kp_spec_l1Count : Nat → Keep
  | 3 => ⟨[3, 4], [(1, 5)], [1], .done, []⟩
  | _ => ⟨[], [], [], .done, []⟩
def esc_spec_l1Count : Nat → Bool
  | _ => false
def vc_spec_l1Count (w0 : World) (a0 : Value) (σ : Vw) (R : Value → Vw → Prop) : Prop :=
  V true 5 a0 (N (C a0 4) fun v0 => pLoop (fun l1 K2 s3 => N (G l1 6) fun v4 => B P 3 .lss (G l1 1) v4 fun v5 => Q v5 (X 5 (G l1 6) (G l1 1) fun v6 => L w0 5 v6 s3 fun g7 => AC P w0 n_spec_l1Count ([.agg (⟨[g7 0, g7 1, g7 2, g7 3, g7 4]⟩)]) s3 fun v8 s9 => B P 3 .add (G l1 0) v8 fun v10 => B P 3 .add (G l1 1) (.int .i64 1) fun v11 => K2 .normal [v10, v11, G l1 2, G l1 3, G l1 4, G l1 5, G l1 6] s9) (K2 (.exit 0) [G l1 0, G l1 1, G l1 2, G l1 3, G l1 4, G l1 5, G l1 6] s3)) [v0, .int .i64 0, C a0 0, C a0 1, C a0 2, C a0 3, C a0 4] σ fun x12 l13 s14 => match x12 with | .normal => R (G l13 0) s14 | .ret => False | .exit i15 => (match Nat.beq i15 0 with | true => R (G l13 0) s14 | false => False))
theorem vc_spec_l1Count_eq (w0 : World) (a0 : Value) (σ : Vw) (R : Value → Vw → Prop) : vc_spec_l1Count w0 a0 σ R = den Tryz.prog w0 kp_spec_l1Count esc_spec_l1Count (Tryz.f104.body.getD .skip) (entry Tryz.f104.ntmps [a0]) σ (retK Tryz.prog Tryz.f104.results.toList R) := by kernel_rfl
theorem ac_spec_l1Count {w0 : World} {a0 : Value} {σ : Vw} {R : Value → Vw → Prop} (h : vc_spec_l1Count w0 a0 σ R) : AC Tryz.prog w0 n_spec_l1Count [a0] σ R := by
  refine ac_rule (fn := Tryz.f104) (c := Tryz.f104.body.getD .skip) kp_spec_l1Count esc_spec_l1Count Tryz.func104 (by kernel_rfl) (by kernel_rfl) ?_
  rw [← vc_spec_l1Count_eq]
  exact h

/-- spec.l11Under -/
def kp_spec_l11Under : Nat → Keep
  | 2 => ⟨[0, 1, 4, 5], [], [], .done, []⟩
  | _ => ⟨[], [], [], .done, []⟩
def esc_spec_l11Under : Nat → Bool
  | _ => false
def vc_spec_l11Under (w0 : World) (a0 a1 : Value) (σ : Vw) (R : Value → Vw → Prop) : Prop :=
  pLoop (fun l0 K1 s2 => N (G l0 0) fun v3 => B P 3 .lss (G l0 3) v3 fun v4 => Q v4 (X 2 (G l0 0) (G l0 3) fun v5 => F 1 v5 fun v6 => L w0 1 v6 s2 fun g7 => Q (g7 0) (X 2 (G l0 0) (G l0 3) fun v8 => F 0 v8 fun v9 => L w0 1 v9 s2 fun g10 => AC P w0 n_spec_l2Within [G l0 1, g10 0] s2 fun v11 s12 => Q v11 (K1 .ret [G l0 0, G l0 1, .bool true, G l0 3] s12) (B P 3 .add (G l0 3) (.int .i64 1) fun v13 => K1 .normal [G l0 0, G l0 1, G l0 2, v13] s12)) (B P 3 .add (G l0 3) (.int .i64 1) fun v14 => K1 .normal [G l0 0, G l0 1, G l0 2, v14] s2)) (K1 (.exit 0) [G l0 0, G l0 1, G l0 2, G l0 3] s2)) [a0, a1, .bool false, .int .i64 0] σ fun x15 l16 s17 => match x15 with | .normal => R (.bool false) s17 | .ret => R (G l16 2) s17 | .exit i18 => (match Nat.beq i18 0 with | true => R (.bool false) s17 | false => False)
theorem vc_spec_l11Under_eq (w0 : World) (a0 a1 : Value) (σ : Vw) (R : Value → Vw → Prop) : vc_spec_l11Under w0 a0 a1 σ R = den Tryz.prog w0 kp_spec_l11Under esc_spec_l11Under (Tryz.f107.body.getD .skip) (entry Tryz.f107.ntmps [a0, a1]) σ (retK Tryz.prog Tryz.f107.results.toList R) := by kernel_rfl
theorem ac_spec_l11Under {w0 : World} {a0 a1 : Value} {σ : Vw} {R : Value → Vw → Prop} (h : vc_spec_l11Under w0 a0 a1 σ R) : AC Tryz.prog w0 n_spec_l11Under [a0, a1] σ R := by
  refine ac_rule (fn := Tryz.f107) (c := Tryz.f107.body.getD .skip) kp_spec_l11Under esc_spec_l11Under Tryz.func107 (by kernel_rfl) (by kernel_rfl) ?_
  rw [← vc_spec_l11Under_eq]
  exact h

/-- spec.l11Marked -/
def kp_spec_l11Marked : Nat → Keep
  | 2 => ⟨[0, 1, 4, 5], [], [], .done, []⟩
  | _ => ⟨[], [], [], .done, []⟩
def esc_spec_l11Marked : Nat → Bool
  | _ => false
def vc_spec_l11Marked (w0 : World) (a0 a1 : Value) (σ : Vw) (R : Value → Vw → Prop) : Prop :=
  pLoop (fun l0 K1 s2 => N (G l0 0) fun v3 => B P 3 .lss (G l0 3) v3 fun v4 => Q v4 (X 2 (G l0 0) (G l0 3) fun v5 => F 0 v5 fun v6 => L w0 1 v6 s2 fun g7 => AC P w0 n_spec_l11Same [g7 0, G l0 1] s2 fun v8 s9 => Q v8 (K1 .ret [G l0 0, G l0 1, .bool true, G l0 3] s9) (X 2 (G l0 0) (G l0 3) fun v10 => F 1 v10 fun v11 => L w0 1 v11 s9 fun g12 => Q (g12 0) (X 2 (G l0 0) (G l0 3) fun v13 => F 0 v13 fun v14 => L w0 1 v14 s9 fun g15 => AC P w0 n_spec_l2Within [G l0 1, g15 0] s9 fun v16 s17 => Q v16 (K1 .ret [G l0 0, G l0 1, .bool true, G l0 3] s17) (B P 3 .add (G l0 3) (.int .i64 1) fun v18 => K1 .normal [G l0 0, G l0 1, G l0 2, v18] s17)) (B P 3 .add (G l0 3) (.int .i64 1) fun v19 => K1 .normal [G l0 0, G l0 1, G l0 2, v19] s9))) (K1 (.exit 0) [G l0 0, G l0 1, G l0 2, G l0 3] s2)) [a0, a1, .bool false, .int .i64 0] σ fun x20 l21 s22 => match x20 with | .normal => R (.bool false) s22 | .ret => R (G l21 2) s22 | .exit i23 => (match Nat.beq i23 0 with | true => R (.bool false) s22 | false => False)
theorem vc_spec_l11Marked_eq (w0 : World) (a0 a1 : Value) (σ : Vw) (R : Value → Vw → Prop) : vc_spec_l11Marked w0 a0 a1 σ R = den Tryz.prog w0 kp_spec_l11Marked esc_spec_l11Marked (Tryz.f109.body.getD .skip) (entry Tryz.f109.ntmps [a0, a1]) σ (retK Tryz.prog Tryz.f109.results.toList R) := by kernel_rfl
theorem ac_spec_l11Marked {w0 : World} {a0 a1 : Value} {σ : Vw} {R : Value → Vw → Prop} (h : vc_spec_l11Marked w0 a0 a1 σ R) : AC Tryz.prog w0 n_spec_l11Marked [a0, a1] σ R := by
  refine ac_rule (fn := Tryz.f109) (c := Tryz.f109.body.getD .skip) kp_spec_l11Marked esc_spec_l11Marked Tryz.func109 (by kernel_rfl) (by kernel_rfl) ?_
  rw [← vc_spec_l11Marked_eq]
  exact h

/-- impl.namesOk -/
def kp_impl_namesOk : Nat → Keep
  | 2 => ⟨[0, 1, 4, 7, 8, 9], [], [], .done, []⟩
  | _ => ⟨[], [], [], .done, []⟩
def esc_impl_namesOk : Nat → Bool
  | _ => false
def vc_impl_namesOk (w0 : World) (a0 a1 : Value) (σ : Vw) (R : Value → Vw → Prop) : Prop :=
  N a0 fun v0 => pLoop (fun l1 K2 s3 => B P 3 .lss (G l1 5) (G l1 4) fun v4 => Q v4 (X 1 (G l1 3) (G l1 5) fun v5 => L w0 1 v5 s3 fun g6 => AC P w0 n_impl_nameOk [g6 0] s3 fun v7 s8 => pUn .not v7 fun v9 => Q v9 (K2 .ret [G l1 0, G l1 1, .bool false, G l1 3, G l1 4, G l1 5] s8) (B P 3 .add (G l1 5) (.int .i64 1) fun v10 => K2 .normal [G l1 0, G l1 1, G l1 2, G l1 3, G l1 4, v10] s8)) (K2 (.exit 0) [G l1 0, G l1 1, G l1 2, G l1 3, G l1 4, G l1 5] s3)) [a0, a1, .bool false, a0, v0, .int .i64 0] σ fun x11 l12 s13 => match x11 with | .normal => N (G l12 0) (fun v14 => AC P w0 n_impl_within [v14, G l12 1, .int .i64 4] s13 fun v15 s16 => R v15 s16) | .ret => R (G l12 2) s13 | .exit i17 => (match Nat.beq i17 0 with | true => N (G l12 0) (fun v18 => AC P w0 n_impl_within [v18, G l12 1, .int .i64 4] s13 fun v19 s20 => R v19 s20) | false => False)
theorem vc_impl_namesOk_eq (w0 : World) (a0 a1 : Value) (σ : Vw) (R : Value → Vw → Prop) : vc_impl_namesOk w0 a0 a1 σ R = den Tryz.prog w0 kp_impl_namesOk esc_impl_namesOk (Tryz.f115.body.getD .skip) (entry Tryz.f115.ntmps [a0, a1]) σ (retK Tryz.prog Tryz.f115.results.toList R) := by kernel_rfl
theorem ac_impl_namesOk {w0 : World} {a0 a1 : Value} {σ : Vw} {R : Value → Vw → Prop} (h : vc_impl_namesOk w0 a0 a1 σ R) : AC Tryz.prog w0 n_impl_namesOk [a0, a1] σ R := by
  refine ac_rule (fn := Tryz.f115) (c := Tryz.f115.body.getD .skip) kp_impl_namesOk esc_impl_namesOk Tryz.func115 (by kernel_rfl) (by kernel_rfl) ?_
  rw [← vc_impl_namesOk_eq]
  exact h

/-- impl.begins -/
def kp_impl_begins : Nat → Keep
  | 4 => ⟨[0, 1, 4, 12, 13], [], [], .done, []⟩
  | 6 => ⟨[], [], [], .step 0 (.step 1 (.step 2 (.step 3 (.step 4 (.step 5 (.step 6 (.step 7 (.step 8 (.done))))))))), [(2, [0, 1]), (3, [0, 1, 2]), (6, [4, 5]), (7, [4, 5, 6]), (8, [0, 1, 2, 3, 4, 5, 6, 7])]⟩
  | _ => ⟨[], [], [], .done, []⟩
def esc_impl_begins : Nat → Bool
  | _ => false
def vc_impl_begins (w0 : World) (a0 a1 : Value) (σ : Vw) (R : Value → Vw → Prop) : Prop :=
  N a0 fun v0 => N a1 fun v1 => B P 3 .lss v0 v1 fun v2 => Q v2 (R (.bool false) σ) (N a1 fun v3 => pLoop (fun l4 K5 s6 => B P 3 .lss (G l4 4) (G l4 3) fun v7 => Q v7 (X 1 (G l4 0) (G l4 4) fun v8 => L w0 1 v8 s6 fun g9 => X 1 (G l4 1) (G l4 4) fun v10 => L w0 1 v10 s6 fun g11 => B P 9 .neq (g9 0) (g11 0) fun v12 => Q v12 (K5 .ret [G l4 0, G l4 1, .bool false, G l4 3, G l4 4] s6) (B P 3 .add (G l4 4) (.int .i64 1) fun v13 => K5 .normal [G l4 0, G l4 1, G l4 2, G l4 3, v13] s6)) (K5 (.exit 0) [G l4 0, G l4 1, G l4 2, G l4 3, G l4 4] s6)) [a0, a1, .bool false, v3, .int .i64 0] σ fun x14 l15 s16 => match x14 with | .normal => R (.bool true) s16 | .ret => R (G l15 2) s16 | .exit i17 => (match Nat.beq i17 0 with | true => R (.bool true) s16 | false => False))
theorem vc_impl_begins_eq (w0 : World) (a0 a1 : Value) (σ : Vw) (R : Value → Vw → Prop) : vc_impl_begins w0 a0 a1 σ R = den Tryz.prog w0 kp_impl_begins esc_impl_begins (Tryz.f116.body.getD .skip) (entry Tryz.f116.ntmps [a0, a1]) σ (retK Tryz.prog Tryz.f116.results.toList R) := by kernel_rfl
theorem ac_impl_begins {w0 : World} {a0 a1 : Value} {σ : Vw} {R : Value → Vw → Prop} (h : vc_impl_begins w0 a0 a1 σ R) : AC Tryz.prog w0 n_impl_begins [a0, a1] σ R := by
  refine ac_rule (fn := Tryz.f116) (c := Tryz.f116.body.getD .skip) kp_impl_begins esc_impl_begins Tryz.func116 (by kernel_rfl) (by kernel_rfl) ?_
  rw [← vc_impl_begins_eq]
  exact h

/-- slices.SortFunc[[]impl.Mark,impl.Mark] -/
def kp_slices_SortFunc_impl_Mark_impl_Mark : Nat → Keep
  | _ => ⟨[], [], [], .done, []⟩
def esc_slices_SortFunc_impl_Mark_impl_Mark : Nat → Bool
  | _ => false
def vc_slices_SortFunc_impl_Mark_impl_Mark (w0 : World) (a0 a1 : Value) (σ : Vw) (R : Value → Vw → Prop) : Prop :=
  N a0 fun v0 => pConvInt .u64 v0 fun v1 => AC P w0 n_math_bits_Len [v1] σ fun v2 s3 => AC P w0 n_slices_pdqsortCmpFunc_impl_Mark [a0, .int .i64 0, v0, v2, a1] s3 fun v4 s5 => R (.tuple ⟨[]⟩) s5
theorem vc_slices_SortFunc_impl_Mark_impl_Mark_eq (w0 : World) (a0 a1 : Value) (σ : Vw) (R : Value → Vw → Prop) : vc_slices_SortFunc_impl_Mark_impl_Mark w0 a0 a1 σ R = den Tryz.prog w0 kp_slices_SortFunc_impl_Mark_impl_Mark esc_slices_SortFunc_impl_Mark_impl_Mark (Tryz.f117.body.getD .skip) (entry Tryz.f117.ntmps [a0, a1]) σ (retK Tryz.prog Tryz.f117.results.toList R) := by kernel_rfl
theorem ac_slices_SortFunc_impl_Mark_impl_Mark {w0 : World} {a0 a1 : Value} {σ : Vw} {R : Value → Vw → Prop} (h : vc_slices_SortFunc_impl_Mark_impl_Mark w0 a0 a1 σ R) : AC Tryz.prog w0 n_slices_SortFunc_impl_Mark_impl_Mark [a0, a1] σ R := by
  refine ac_rule (fn := Tryz.f117) (c := Tryz.f117.body.getD .skip) kp_slices_SortFunc_impl_Mark_impl_Mark esc_slices_SortFunc_impl_Mark_impl_Mark Tryz.func117 (by kernel_rfl) (by kernel_rfl) ?_
  rw [← vc_slices_SortFunc_impl_Mark_impl_Mark_eq]
  exact h

/-- impl.add$1 -/
def kp_impl_add_c1 : Nat → Keep
  | _ => ⟨[], [], [], .done, []⟩
def esc_impl_add_c1 : Nat → Bool
  | _ => false
def vc_impl_add_c1 (w0 : World) (a0 a1 : Value) (σ : Vw) (R : Value → Vw → Prop) : Prop :=
  V true 2 a0 (V true 2 a1 (AC P w0 n_slices_Compare_string_string [C a0 0, C a1 0] σ fun v0 s1 => R v0 s1))
theorem vc_impl_add_c1_eq (w0 : World) (a0 a1 : Value) (σ : Vw) (R : Value → Vw → Prop) : vc_impl_add_c1 w0 a0 a1 σ R = den Tryz.prog w0 kp_impl_add_c1 esc_impl_add_c1 (Tryz.f118.body.getD .skip) (entry Tryz.f118.ntmps [a0, a1]) σ (retK Tryz.prog Tryz.f118.results.toList R) := by kernel_rfl
theorem ac_impl_add_c1 {w0 : World} {a0 a1 : Value} {σ : Vw} {R : Value → Vw → Prop} (h : vc_impl_add_c1 w0 a0 a1 σ R) : AC Tryz.prog w0 n_impl_add_c1 [a0, a1] σ R := by
  refine ac_rule (fn := Tryz.f118) (c := Tryz.f118.body.getD .skip) kp_impl_add_c1 esc_impl_add_c1 Tryz.func118 (by kernel_rfl) (by kernel_rfl) ?_
  rw [← vc_impl_add_c1_eq]
  exact h

/-- slices.Delete[[]impl.Mark,impl.Mark] -/
def kp_slices_Delete_impl_Mark_impl_Mark : Nat → Keep
  | 5 => ⟨[], [], [], .step 0 (.step 1 (.step 2 (.step 3 (.step 4 (.step 5 (.step 6 (.step 7 (.done)))))))), [(2, [0, 1]), (5, [3, 4]), (6, [0, 1, 2, 3, 4, 5]), (7, [0, 1, 2, 3, 4, 5, 6])]⟩
  | _ => ⟨[], [], [], .done, []⟩
def esc_slices_Delete_impl_Mark_impl_Mark : Nat → Bool
  | _ => false
def vc_slices_Delete_impl_Mark_impl_Mark (w0 : World) (a0 a1 a2 : Value) (σ : Vw) (R : Value → Vw → Prop) : Prop :=
  N a0 fun v0 => pSlice3 2 a0 (some a1) (some a2) (some v0) fun v1 => B P 3 .eql a1 a2 fun v2 => Q v2 (R a0 σ) (N a0 fun v3 => pSlice 2 a0 none (some a1) fun v4 => pSlice 2 a0 (some a2) none fun v5 => pAppendS w0 31 2 32 v4 v5 σ fun v6 s7 => N v6 fun v8 => pSlice 2 v6 (some v8) (some v3) fun v9 => pClear 2 [.slice none 0 0, .bool false] v9 s7 fun s10 => R v6 s10)
theorem vc_slices_Delete_impl_Mark_impl_Mark_eq (w0 : World) (a0 a1 a2 : Value) (σ : Vw) (R : Value → Vw → Prop) : vc_slices_Delete_impl_Mark_impl_Mark w0 a0 a1 a2 σ R = den Tryz.prog w0 kp_slices_Delete_impl_Mark_impl_Mark esc_slices_Delete_impl_Mark_impl_Mark (Tryz.f119.body.getD .skip) (entry Tryz.f119.ntmps [a0, a1, a2]) σ (retK Tryz.prog Tryz.f119.results.toList R) := by kernel_rfl
theorem ac_slices_Delete_impl_Mark_impl_Mark {w0 : World} {a0 a1 a2 : Value} {σ : Vw} {R : Value → Vw → Prop} (h : vc_slices_Delete_impl_Mark_impl_Mark w0 a0 a1 a2 σ R) : AC Tryz.prog w0 n_slices_Delete_impl_Mark_impl_Mark [a0, a1, a2] σ R := by
  refine ac_rule (fn := Tryz.f119) (c := Tryz.f119.body.getD .skip) kp_slices_Delete_impl_Mark_impl_Mark esc_slices_Delete_impl_Mark_impl_Mark Tryz.func119 (by kernel_rfl) (by kernel_rfl) ?_
  rw [← vc_slices_Delete_impl_Mark_impl_Mark_eq]
  exact h

/-- spec.l2PathOk -/
def kp_spec_l2PathOk : Nat → Keep
  | 2 => ⟨[0, 2, 3], [], [], .done, []⟩
  | _ => ⟨[], [], [], .done, []⟩
def esc_spec_l2PathOk : Nat → Bool
  | _ => false
def vc_spec_l2PathOk (w0 : World) (a0 : Value) (σ : Vw) (R : Value → Vw → Prop) : Prop :=
  pLoop (fun l0 K1 s2 => N (G l0 0) fun v3 => B P 3 .lss (G l0 2) v3 fun v4 => Q v4 (X 1 (G l0 0) (G l0 2) fun v5 => L w0 1 v5 s2 fun g6 => AC P w0 n_spec_l1NameOk [g6 0] s2 fun v7 s8 => pUn .not v7 fun v9 => Q v9 (K1 .ret [G l0 0, .bool false, G l0 2] s8) (B P 3 .add (G l0 2) (.int .i64 1) fun v10 => K1 .normal [G l0 0, G l0 1, v10] s8)) (K1 (.exit 0) [G l0 0, G l0 1, G l0 2] s2)) [a0, .bool false, .int .i64 0] σ fun x11 l12 s13 => match x11 with | .normal => N (G l12 0) (fun v14 => AC P w0 n_spec_l1In [v14, .int .i64 1, .int .i64 4] s13 fun v15 s16 => R v15 s16) | .ret => R (G l12 1) s13 | .exit i17 => (match Nat.beq i17 0 with | true => N (G l12 0) (fun v18 => AC P w0 n_spec_l1In [v18, .int .i64 1, .int .i64 4] s13 fun v19 s20 => R v19 s20) | false => False)
theorem vc_spec_l2PathOk_eq (w0 : World) (a0 : Value) (σ : Vw) (R : Value → Vw → Prop) : vc_spec_l2PathOk w0 a0 σ R = den Tryz.prog w0 kp_spec_l2PathOk esc_spec_l2PathOk (Tryz.f120.body.getD .skip) (entry Tryz.f120.ntmps [a0]) σ (retK Tryz.prog Tryz.f120.results.toList R) := by kernel_rfl
theorem ac_spec_l2PathOk {w0 : World} {a0 : Value} {σ : Vw} {R : Value → Vw → Prop} (h : vc_spec_l2PathOk w0 a0 σ R) : AC Tryz.prog w0 n_spec_l2PathOk [a0] σ R := by
  refine ac_rule (fn := Tryz.f120) (c := Tryz.f120.body.getD .skip) kp_spec_l2PathOk esc_spec_l2PathOk Tryz.func120 (by kernel_rfl) (by kernel_rfl) ?_
  rw [← vc_spec_l2PathOk_eq]
  exact h

/-- cmp.Compare[string] -/
def kp_cmp_Compare_string : Nat → Keep
  | _ => ⟨[], [], [], .done, []⟩
def esc_cmp_Compare_string : Nat → Bool
  | _ => false
def vc_cmp_Compare_string (w0 : World) (a0 a1 : Value) (σ : Vw) (R : Value → Vw → Prop) : Prop :=
  AC P w0 n_cmp_isNaN_string [a0] σ fun v0 s1 => AC P w0 n_cmp_isNaN_string [a1] s1 fun v2 s3 => Q v0 (Q v2 (R (.int .i64 0) s3) (R (.int .i64 (-1)) s3)) (Q v2 (R (.int .i64 1) s3) (B P 9 .lss a0 a1 fun v4 => Q v4 (R (.int .i64 (-1)) s3) (B P 9 .gtr a0 a1 fun v5 => Q v5 (R (.int .i64 1) s3) (R (.int .i64 0) s3))))
theorem vc_cmp_Compare_string_eq (w0 : World) (a0 a1 : Value) (σ : Vw) (R : Value → Vw → Prop) : vc_cmp_Compare_string w0 a0 a1 σ R = den Tryz.prog w0 kp_cmp_Compare_string esc_cmp_Compare_string (Tryz.f121.body.getD .skip) (entry Tryz.f121.ntmps [a0, a1]) σ (retK Tryz.prog Tryz.f121.results.toList R) := by kernel_rfl
theorem ac_cmp_Compare_string {w0 : World} {a0 a1 : Value} {σ : Vw} {R : Value → Vw → Prop} (h : vc_cmp_Compare_string w0 a0 a1 σ R) : AC Tryz.prog w0 n_cmp_Compare_string [a0, a1] σ R := by
  refine ac_rule (fn := Tryz.f121) (c := Tryz.f121.body.getD .skip) kp_cmp_Compare_string esc_cmp_Compare_string Tryz.func121 (by kernel_rfl) (by kernel_rfl) ?_
  rw [← vc_cmp_Compare_string_eq]
  exact h

/-- spec.l4Any -/
def kp_spec_l4Any : Nat → Keep
  | _ => ⟨[], [], [], .done, []⟩
def esc_spec_l4Any : Nat → Bool
  | _ => false
def vc_spec_l4Any (w0 : World) (a0 : Value) (σ : Vw) (R : Value → Vw → Prop) : Prop :=
  AC P w0 n_p_spec_l1Rd_pick [a0, .int .i64 24] σ fun v0 s1 => B P 3 .eql v0 (.int .i64 0) fun v2 => Q v2 (AC P w0 n_spec_l4Tree [a0] s1 fun v3 s4 => AC P w0 n_spec_l4Spoil [a0, v3] s4 fun v5 s6 => V true 5 v5 (R (.agg (⟨[C v5 0, C v5 1, C v5 2, C v5 3, C v5 4]⟩)) s6)) (B P 3 .eql v0 (.int .i64 1) fun v7 => Q v7 (AC P w0 n_spec_l4Full [a0] s1 fun v8 s9 => V true 5 v8 (R (.agg (⟨[C v8 0, C v8 1, C v8 2, C v8 3, C v8 4]⟩)) s9)) (AC P w0 n_spec_l4Tree [a0] s1 fun v10 s11 => V true 5 v10 (R (.agg (⟨[C v10 0, C v10 1, C v10 2, C v10 3, C v10 4]⟩)) s11)))
theorem vc_spec_l4Any_eq (w0 : World) (a0 : Value) (σ : Vw) (R : Value → Vw → Prop) : vc_spec_l4Any w0 a0 σ R = den Tryz.prog w0 kp_spec_l4Any esc_spec_l4Any (Tryz.f122.body.getD .skip) (entry Tryz.f122.ntmps [a0]) σ (retK Tryz.prog Tryz.f122.results.toList R) := by kernel_rfl
theorem ac_spec_l4Any {w0 : World} {a0 : Value} {σ : Vw} {R : Value → Vw → Prop} (h : vc_spec_l4Any w0 a0 σ R) : AC Tryz.prog w0 n_spec_l4Any [a0] σ R := by
  refine ac_rule (fn := Tryz.f122) (c := Tryz.f122.body.getD .skip) kp_spec_l4Any esc_spec_l4Any Tryz.func122 (by kernel_rfl) (by kernel_rfl) ?_
  rw [← vc_spec_l4Any_eq]
  exact h

end Go.Proofs.YtkbhjejalkbogaaGreat
