/- The law FnDiffNone holds: it returns true, and the input reads as it did. No condition. This is part 2 of 5 of its proof. -/
import Derived.Test.YtkbhjejalkbogaaXFnDiffNone1
import Derived.IntWalk
import Derived.ChangeArms
import Derived.WideShapes
import Derived.ProofKit
import Derived.Below
import Derived.Test.YtkbhjejalkbogaaProg

/- The plain side, part 1: the operations at known values; loops; what is read in a slice. -/
set_option linter.unusedVariables false
set_option linter.unusedSimpArgs false
namespace Go.Av
open Go Go.RowKit IntWalk

section
variable {P : Program} {w0 : World} {σ σ' : Vw}

/-! ### The operations at known values -/
theorem pIf_b {b : Bool} {A B : Prop} : pIf (.bool b) A B ↔ (b = true → A) ∧ (b = false → B) :=
  ⟨fun ⟨c, h, h1, h2⟩ => by cases h; exact ⟨h1, h2⟩, fun ⟨h1, h2⟩ => ⟨b, rfl, h1, h2⟩⟩
theorem pIf_d {p : Prop} [Decidable p] {A B : Prop} : pIf (.bool (decide p)) A B ↔ (p → A) ∧ (¬ p → B) := by
  rw [pIf_b]; simp
theorem pLen_s {A : Option Addr} {n c : Nat} {K : Value → Prop} : pLen (.slice A n c) K ↔ K (.int .i64 n) :=
  ⟨fun ⟨_, _, _, h, hK⟩ => by cases h; exact hK, fun h => ⟨_, _, _, rfl, h⟩⟩
theorem pLenS_s {s : ByteArray} {K : Value → Prop} : pLenS (.string s) K ↔ K (.int .i64 s.size) :=
  ⟨fun ⟨_, h, hK⟩ => by cases h; exact hK, fun h => ⟨_, rfl, h⟩⟩
theorem pNil_s {a : Addr} {K : Prop} : pNil (.pointer (some a)) K ↔ K := ⟨fun ⟨_, _, h⟩ => h, fun h => ⟨a, rfl, h⟩⟩
theorem pField_s {o : Nat} {a : Addr} {K : Value → Prop} : pField o (.pointer (some a)) K ↔ K (.pointer (some (a.add o))) :=
  ⟨fun ⟨_, h, hK⟩ => by cases h; exact hK, fun h => ⟨_, rfl, h⟩⟩
theorem pUn_not {b : Bool} {K : Value → Prop} : pUn .not (.bool b) K ↔ K (.bool !b) :=
  ⟨fun ⟨_, h, hK⟩ => by simp only [aun, Option.some.injEq] at h; subst h; exact hK, fun h => ⟨_, rfl, h⟩⟩
theorem pBin_i {T : Nat} {op : BinOp} {k : IntKind} {a b : Int} {v : Value} {K : Value → Prop} (h : aint op k a b = some v) : pBin P T op (.int k a) (.int k b) K ↔ K v := by
  have e : abinT P T op (.int k a) (.int k b) = some v := by unfold abinT; simp only [if_true]; exact h
  exact ⟨fun ⟨_, h, hK⟩ => by rw [e] at h; cases h; exact hK, fun h => ⟨_, e, h⟩⟩
theorem pBin_lt {T : Nat} {k : IntKind} {a b : Int} {K : Value → Prop} : pBin P T .lss (.int k a) (.int k b) K ↔ K (.bool (decide (a < b))) := pBin_i rfl
theorem pBin_le {T : Nat} {k : IntKind} {a b : Int} {K : Value → Prop} : pBin P T .leq (.int k a) (.int k b) K ↔ K (.bool (decide (a ≤ b))) := pBin_i rfl
theorem pBin_gt {T : Nat} {k : IntKind} {a b : Int} {K : Value → Prop} : pBin P T .gtr (.int k a) (.int k b) K ↔ K (.bool (decide (b < a))) := pBin_i rfl
theorem pBin_ge {T : Nat} {k : IntKind} {a b : Int} {K : Value → Prop} : pBin P T .geq (.int k a) (.int k b) K ↔ K (.bool (decide (b ≤ a))) := pBin_i rfl
theorem pBin_eq {T : Nat} {k : IntKind} {a b : Int} {K : Value → Prop} : pBin P T .eql (.int k a) (.int k b) K ↔ K (.bool (decide (a = b))) := pBin_i rfl
theorem pBin_ne {T : Nat} {k : IntKind} {a b : Int} {K : Value → Prop} : pBin P T .neq (.int k a) (.int k b) K ↔ K (.bool (decide (a ≠ b))) :=
  pBin_i (by simp only [aint, bne, Option.some.injEq, Value.bool.injEq]; by_cases h : a = b <;> simp [h])
theorem pBin_add {T : Nat} {a b : Int} {K : Value → Prop} (h : -9223372036854775808 ≤ a + b ∧ a + b ≤ 9223372036854775807) : pBin P T .add (.int .i64 a) (.int .i64 b) K ↔ K (.int .i64 (a + b)) :=
  pBin_i (by simp only [aint, i64_in _ h])
theorem pBin_sub {T : Nat} {a b : Int} {K : Value → Prop} (h : -9223372036854775808 ≤ a - b ∧ a - b ≤ 9223372036854775807) : pBin P T .sub (.int .i64 a) (.int .i64 b) K ↔ K (.int .i64 (a - b)) :=
  pBin_i (by simp only [aint, i64_in _ h])
theorem pBin_mul {T : Nat} {a b : Int} {K : Value → Prop} (h : -9223372036854775808 ≤ a * b ∧ a * b ≤ 9223372036854775807) : pBin P T .mul (.int .i64 a) (.int .i64 b) K ↔ K (.int .i64 (a * b)) :=
  pBin_i (by simp only [aint, i64_in _ h])

theorem bytes_inj {a b : ByteArray} (h : a.toList = b.toList) : a = b := by
  rw [ByteArray.toList_eq, ByteArray.toList_eq] at h
  cases a; cases b
  simp only [ByteArray.mk.injEq]
  exact Array.toList_inj.1 h
theorem toList_eq {a b : ByteArray} : (a.toList == b.toList) = decide (a = b) := by
  have : a.toList = b.toList ↔ a = b := ⟨fun h => Go.Av.bytes_inj h, fun h => by rw [h]⟩
  by_cases h : a = b
  · subst h; simp
  · have h' : ¬ a.toList = b.toList := fun e => h (this.1 e)
    simp [h, h']
theorem pBin_s {T : Nat} {op : BinOp} {a b : ByteArray} {v : Value} {K : Value → Prop} (h : astr op a b = some v) : pBin P T op (.string a) (.string b) K ↔ K v :=
  ⟨fun ⟨_, h', hK⟩ => by rw [show abinT P T op (.string a) (.string b) = some v from h] at h'; cases h'; exact hK, fun hK => ⟨_, h, hK⟩⟩
theorem pBin_seq {T : Nat} {a b : ByteArray} {K : Value → Prop} : pBin P T .eql (.string a) (.string b) K ↔ K (.bool (decide (a = b))) := pBin_s (by simp only [astr, toList_eq])
theorem pBin_sne {T : Nat} {a b : ByteArray} {K : Value → Prop} : pBin P T .neq (.string a) (.string b) K ↔ K (.bool (decide (a ≠ b))) := pBin_s (by simp only [astr, toList_eq]; simp)
theorem pBin_b {T : Nat} {op : BinOp} {a b : Bool} {v : Value} {K : Value → Prop} (hT : P.underlying T = some .bool) (h : (match op with | .eql => some (Value.bool (a == b)) | .neq => some (.bool (!(a == b))) | _ => none) = some v) : pBin P T op (.bool a) (.bool b) K ↔ K v := by
  have e : abinT P T op (.bool a) (.bool b) = some v := by simp only [abinT, hT]; exact h
  exact ⟨fun ⟨_, h', hK⟩ => by rw [e] at h'; cases h'; exact hK, fun hK => ⟨_, e, hK⟩⟩

theorem pVal1 {n : Nat} {v : Value} {A : Prop} (h : v.oneCell' = true) : pVal false n v A ↔ A := ⟨fun h => h.2, fun hA => ⟨h, hA⟩⟩
theorem pValN {n : Nat} {cs : List Value} {A : Prop} (hl : cs.length = n) (h : ∀ c, c ∈ cs → c.oneCell' = true) : pVal true n (.agg ⟨cs⟩) A ↔ A := ⟨fun h => h.2, fun hA => ⟨⟨cs, rfl, hl, h⟩, hA⟩⟩
theorem cellOf_agg {cs : List Value} {i : Nat} : cellOf (.agg ⟨cs⟩) i = cs.getD i undef := rfl
theorem pStr1 {b : Nat} {K : Value → Prop} {n : Int} {c : Nat} (h : Av.get w0 σ ⟨b, 0, none⟩ = some (.int .u8 n)) (hK : K (.string (strOfNums [n]))) : pStr w0 (.slice (some ⟨b, 0, none⟩) 1 c) σ K :=
  .inr ⟨b, 0, 1, c, [n], rfl, rfl, (fun j hj => by
    have e : j = 0 := by omega
    subst e
    exact h), hK⟩

/-! ### Loops -/
theorem loop_rule {B : List Value → (AX → List Value → Vw → Prop) → Vw → Prop} {K : AX → List Value → Vw → Prop} (I : Nat → List Value → Vw → Prop)
    (step : ∀ m vs σ (L : List Value → Vw → Prop), I m vs σ → (∀ vs' σ', ∀ m', m' + 1 = m → I m' vs' σ' → L vs' σ') → B vs (fun e vs' σ' => match e with | .normal => L vs' σ' | .exit i => K (.exit i) vs' σ' | .ret => K .ret vs' σ') σ)
    {m : Nat} {vs : List Value} (h : I m vs σ) : pLoop B vs σ K := by
  refine ⟨m + 1, ?_⟩
  induction m generalizing vs σ with
  | zero => exact step 0 vs σ _ h (fun vs' σ' m' e => by omega)
  | succ m ih =>
    refine step (m + 1) vs σ _ h (fun vs' σ' m' e hI => ?_)
    have e : m' = m := by omega
    subst e
    exact ih hI

/-! ### Reading -/
theorem add_add (a : Addr) (i j : Nat) : (a.add i).add j = a.add (i + j) := by
  unfold Addr.add
  by_cases hi : i = 0
  · simp [hi]
  · by_cases hj : j = 0
    · simp [hj]
    · have : i + j ≠ 0 := by omega
      simp [hi, hj, this, Nat.add_assoc]

/-- A reader that reads no less. -/
def Le (rd rd' : Addr → Option Value) : Prop := ∀ a v, rd a = some v → rd' a = some v
theorem Le.refl (rd : Addr → Option Value) : Le rd rd := fun _ _ h => h
theorem Le.trans {rd rd' rd'' : Addr → Option Value} (h : Le rd rd') (h' : Le rd' rd'') : Le rd rd'' := fun a v ha => h' a v (h a v ha)
theorem Ext.le (hx : Ext σ σ') : Le (Av.get w0 σ) (Av.get w0 σ') := fun _ _ h => get_ext hx h

/-- What is read behind a slice: xs, each of n cells. -/
def RSl {α : Type} (n : Nat) (R : (Addr → Option Value) → List Value → α → Prop) (rd : Addr → Option Value) (v : Value) (xs : List α) : Prop :=
  ∃ A cap, v = .slice A xs.length cap ∧ (xs.length ≤ cap ∧ cap ≤ 9223372036854775807) ∧ ∀ (j : Nat) (x : α), xs[j]? = some x → ∃ a es, A = some a ∧ es.length = n ∧ (∀ i, i < n → rd (a.add (j * n + i)) = es[i]?) ∧ R rd es x

theorem RSl.mono {α : Type} {n : Nat} {R : (Addr → Option Value) → List Value → α → Prop} {rd rd' : Addr → Option Value} {v : Value} {xs : List α} (h : RSl n R rd v xs) (hx : Le rd rd') (hR : ∀ es x, R rd es x → R rd' es x) : RSl n R rd' v xs := by
  obtain ⟨A, cap, h1, h2, h3⟩ := h
  refine ⟨A, cap, h1, h2, fun j x hj => ?_⟩
  obtain ⟨a, es, h4, h5, h6, h7⟩ := h3 j x hj
  refine ⟨a, es, h4, h5, fun i hi => ?_, hR _ _ h7⟩
  have := h6 i hi
  have hlt : i < es.length := by omega
  rw [List.getElem?_eq_getElem hlt] at this ⊢
  exact hx _ _ this

theorem RSl.len {α : Type} {n : Nat} {R : (Addr → Option Value) → List Value → α → Prop} {rd : Addr → Option Value} {v : Value} {xs : List α} (h : RSl n R rd v xs) {K : Value → Prop} : pLen v K ↔ K (.int .i64 xs.length) := by
  obtain ⟨A, cap, rfl, _⟩ := h
  exact pLen_s

/-- An element is read. -/
theorem RSl.at {α : Type} {n : Nat} {R : (Addr → Option Value) → List Value → α → Prop} {v : Value} {xs : List α} (h : RSl n R (Av.get w0 σ) v xs) {j : Nat} {x : α} (hj : xs[j]? = some x) {K : (Nat → Value) → Prop} (hK : ∀ g : Nat → Value, R (Av.get w0 σ) (expl g 0 n) x → K g) :
    pIndexAddr n v (.int .i64 j) fun p => pLoad w0 n p σ K := by
  obtain ⟨A, cap, rfl, _, h3⟩ := h
  obtain ⟨a, es, rfl, h5, h6, h7⟩ := h3 j x hj
  have hlt : j < xs.length := (List.getElem?_eq_some_iff.1 hj).1
  refine ⟨a, xs.length, cap, .i64, j, rfl, rfl, by omega, by omega, a.add (j * n), fun i => es.getD i undef, rfl, fun i hi => ?_, hK _ ?_⟩
  · have := h6 i hi
    have hlt : i < es.length := by omega
    rw [add_add, this, List.getElem?_eq_getElem hlt]
    simp only [List.getD_eq_getElem?_getD, List.getElem?_eq_getElem hlt, Option.getD_some]
  · have : expl (fun i => es.getD i undef) 0 n = es := by
      apply List.ext_getElem?
      intro i
      by_cases hi : i < n
      · rw [expl_get _ _ _ _ hi, Nat.zero_add, List.getD_eq_getElem?_getD]
        have hlt : i < es.length := by omega
        rw [List.getElem?_eq_getElem hlt]; rfl
      · rw [List.getElem?_eq_none (by rw [length_expl]; omega), List.getElem?_eq_none (by omega)]
    rw [this]; exact h7

/-- A text. -/
def RS (rd : Addr → Option Value) (cs : List Value) (s : ByteArray) : Prop := cs = [.string s] ∧ s.size ≤ 9223372036854775807
end
end Go.Av

/- The plain side, part 2: rows of our own. -/
set_option linter.unusedVariables false
set_option linter.unusedSimpArgs false
namespace Go.Av
open Go Go.RowKit

/-- Every row stays as it is; there may be new ones. -/
def Keeps (σ σ' : Vw) : Prop := ∀ b r, σ b = some r → σ' b = some r
theorem Keeps.refl (σ : Vw) : Keeps σ σ := fun _ _ h => h
theorem Keeps.trans {σ σ' σ'' : Vw} (h : Keeps σ σ') (h' : Keeps σ' σ'') : Keeps σ σ'' := fun b r hb => h' b r (h b r hb)
theorem Keeps.ext {σ σ' : Vw} (h : Keeps σ σ') : Ext σ σ' := fun b r hb => ⟨r, h b r hb, List.prefix_refl _⟩
theorem Keeps.le {w0 : World} {σ σ' : Vw} (h : Keeps σ σ') : Le (Av.get w0 σ) (Av.get w0 σ') := h.ext.le
theorem Keeps.stay {w0 : World} {σ σ' : Vw} {v : Value} {n : Nat} (h : Keeps σ σ') : Stay w0 σ σ' v n := fun a g _ hc j hj => h.le _ _ (hc j hj)
theorem Keeps.put {σ : Vw} {b : Nat} {r : Row} (h : σ b = none) : Keeps σ (σ.put b r) := fun i x hi => by
  have : i ≠ b := fun e => by rw [e, h] at hi; cases hi
  simp [Vw.put, this, hi]
/-- A new row is made, then others, then the first is written. -/
theorem Keeps.fill {σ σ' : Vw} {b : Nat} {r : Row} (h : Keeps σ σ') (hb : σ b = none) : Keeps σ (σ'.put b r) := fun i x hi => by
  have : i ≠ b := fun e => by rw [e, hb] at hi; cases hi
  simp [Vw.put, this, h i x hi]
theorem put_at {σ : Vw} {b : Nat} {r : Row} : σ.put b r b = some r := by simp [Vw.put]
theorem put_put {σ : Vw} {b : Nat} {r r' : Row} : (σ.put b r).put b r' = σ.put b r' := by
  funext i; simp only [Vw.put]; split <;> rfl

theorem get_row {w0 : World} {σ : Vw} {b off : Nat} {r : Row} (hb : w0.heap.size ≤ b) (h : σ b = some r) : Av.get w0 σ ⟨b, off, none⟩ = r.cells[off]? := by
  unfold Av.get
  simp only
  rw [if_neg (by omega), if_pos trivial, h]; rfl

theorem addr_add (b off i : Nat) : (Addr.mk b off none).add i = ⟨b, off + i, none⟩ := by
  unfold Addr.add
  split
  · rename_i h; subst h; rfl
  · rfl

theorem setAt_mid : ∀ (A old new C : List Value), old.length = new.length → setAt (A ++ (old ++ C)) A.length new = A ++ (new ++ C)
  | A, [], [], C, _ => by simp [setAt]
  | A, [], _ :: _, C, h => by simp at h
  | A, _ :: _, [], C, h => by simp at h
  | A, o :: old, n :: new, C, h => by
    simp only [setAt]
    have e : (A ++ (o :: old ++ C)).set A.length n = (A ++ [n]) ++ (old ++ C) := by simp
    rw [e]
    have := setAt_mid (A ++ [n]) old new C (by simpa using h)
    simp only [List.length_append, List.length_singleton] at this
    rw [this]
    simp

section
variable {w0 : World} {σ : Vw}

theorem flat_len {n : Nat} : ∀ (xs : List (List Value)), (∀ c, c ∈ xs → c.length = n) → xs.flatten.length = xs.length * n
  | [], _ => by simp
  | c :: r, h => by
    have := flat_len r (fun d hd => h d (List.mem_cons_of_mem _ hd))
    simp only [List.flatten_cons, List.length_append, List.length_cons, this, h c List.mem_cons_self]
    rw [Nat.add_mul, Nat.one_mul, Nat.add_comm]

theorem flat_get {n : Nat} : ∀ (xs : List (List Value)), (∀ c, c ∈ xs → c.length = n) → ∀ (j : Nat) (c : List Value), xs[j]? = some c → ∀ i, i < n → xs.flatten[j * n + i]? = c[i]?
  | [], _, j, c, hj, i, hi => by simp at hj
  | d :: r, h, 0, c, hj, i, hi => by
    simp at hj; subst hj
    have := h d List.mem_cons_self
    rw [List.flatten_cons, Nat.zero_mul, Nat.zero_add, List.getElem?_append_left (by omega)]
  | d :: r, h, j + 1, c, hj, i, hi => by
    have hd := h d List.mem_cons_self
    rw [List.flatten_cons, Nat.add_mul, Nat.one_mul, List.getElem?_append_right (by omega)]
    have := flat_get r (fun d hd => h d (List.mem_cons_of_mem _ hd)) j c (by simpa using hj) i hi
    rw [← this]
    congr 1
    omega

/-- What lies in a row of our own can be read. -/
theorem RSl.own {α : Type} {n : Nat} {R : (Addr → Option Value) → List Value → α → Prop} {b cap : Nat} {r : Row} {xs : List α} {cs : List (List Value)} {tail : List Value} (hb : w0.heap.size ≤ b) (hr : σ b = some r) (hc : r.cells = cs.flatten ++ tail) (hn : ∀ c, c ∈ cs → c.length = n)
    (hl : cs.length = xs.length) (hm : xs.length ≤ cap ∧ cap ≤ 9223372036854775807) (hR : ∀ (j : Nat) (c : List Value) (x : α), cs[j]? = some c → xs[j]? = some x → R (Av.get w0 σ) c x) : RSl n R (Av.get w0 σ) (.slice (some ⟨b, 0, none⟩) xs.length cap) xs := by
  refine ⟨_, cap, rfl, hm, fun j x hj => ?_⟩
  have hlt : j < cs.length := by have := (List.getElem?_eq_some_iff.1 hj).1; omega
  have hcj := List.getElem?_eq_getElem hlt
  refine ⟨_, cs[j], rfl, hn _ (List.getElem_mem hlt), fun i hi => ?_, hR j _ x hcj hj⟩
  rw [addr_add, get_row hb hr, Nat.zero_add, hc, ← flat_get cs hn j _ hcj i hi, List.getElem?_append_left]
  rw [flat_len cs hn]
  calc j * n + i < j * n + n := by omega
    _ = (j + 1) * n := by rw [Nat.add_mul, Nat.one_mul]
    _ ≤ cs.length * n := Nat.mul_le_mul_right n hlt

theorem RSl.one {α : Type} {n : Nat} {R : (Addr → Option Value) → List Value → α → Prop} {rd : Addr → Option Value} {v : Value} {xs : List α} (h : RSl n R rd v xs) : v.oneCell' = true := by
  obtain ⟨A, cap, rfl, _⟩ := h
  rfl
theorem RSl.le {α : Type} {n : Nat} {R : (Addr → Option Value) → List Value → α → Prop} {rd : Addr → Option Value} {v : Value} {xs : List α} (h : RSl n R rd v xs) : xs.length ≤ 9223372036854775807 := by
  obtain ⟨_, _, _, h2, _⟩ := h; exact Nat.le_trans h2.1 h2.2
theorem pVal_2 {v v' : Value} {A : Prop} (h : v.oneCell' = true) (h' : v'.oneCell' = true) : pVal true 2 (.agg ⟨[v, v']⟩) A ↔ A := pValN rfl (by simp [h, h'])
end
end Go.Av

/- The lists of structs, whatever their element: their size, their comparison. -/
set_option linter.unusedVariables false
set_option linter.unusedSimpArgs false
namespace Go.Av
open Go Go.RowKit

/-- What is left of n. -/
def left (n : Int) (t : Nat) : Int := if n - t < 0 then -1 else n - t
def sumBy {α : Type} (f : α → Nat) : List α → Nat
  | [] => 0
  | s :: r => f s + sumBy f r
theorem sumBy_take {α : Type} {f : α → Nat} {xs : List α} : ∀ {j : Nat} {x : α}, xs[j]? = some x → sumBy f (xs.take (j + 1)) = sumBy f (xs.take j) + f x := by
  induction xs with
  | nil => intro j x h; simp at h
  | cons a r ih =>
    intro j x h
    cases j with
    | zero => simp at h; subst h; simp [sumBy]
    | succ j =>
      simp at h
      have := ih h
      simp only [List.take_succ_cons, sumBy, this]
      omega
theorem sumBy_le {α : Type} {f : α → Nat} {xs : List α} : ∀ (j : Nat), sumBy f (xs.take j) ≤ sumBy f xs := by
  induction xs with
  | nil => intro j; simp [sumBy]
  | cons a r ih =>
    intro j
    cases j with
    | zero => simp [sumBy]
    | succ j => have := ih j; simp only [List.take_succ_cons, sumBy]; omega

section
variable {P : Program} {w0 : World} {σ : Vw} {α : Type}

end
end Go.Av

/- Lists that lie in rows of our own, each part in rows of its own; the copy of a list of structs. -/
set_option linter.unusedVariables false
set_option linter.unusedSimpArgs false
namespace Go.Av
open Go Go.RowKit

section
variable {P : Program} {w0 : World} {σ σ' : Vw} {α : Type}

/-- What a rule for parts in rows of our own must keep. -/
structure OOk (w0 : World) (n : Nat) (Rel : (Addr → Option Value) → List Value → α → Prop) (O : Vw → List Nat → List Value → α → Prop) : Prop where
  rel : ∀ σ F es x, O σ F es x → Rel (Av.get w0 σ) es x
  frame : ∀ σ σ' F es x, O σ F es x → (∀ b, b ∈ F → σ' b = σ b) → O σ' F es x
  dom : ∀ σ F es x, O σ F es x → ∀ b, b ∈ F → w0.heap.size ≤ b ∧ σ b ≠ none
  nodup : ∀ σ F es x, O σ F es x → F.Nodup
  len : ∀ σ F es x, O σ F es x → es.length = n
  one : ∀ σ F es x, O σ F es x → ∀ c, c ∈ es → c.oneCell' = true

/-- A list in a row of our own, the elements' own parts in other rows. -/
def OSl (w0 : World) (n : Nat) (O : Vw → List Nat → List Value → α → Prop) (σ : Vw) (F : List Nat) (v : Value) (xs : List α) : Prop :=
  xs.length ≤ 9223372036854775807 ∧ F.Nodup ∧ ((v = .slice none 0 0 ∧ xs = [] ∧ F = []) ∨
  ∃ (b off cap : Nat) (r : Row) (pre post : List Value) (css : List (List Value)) (Fs : List (List Nat)), v = .slice (some ⟨b, off, none⟩) xs.length cap ∧ (xs.length ≤ cap ∧ cap ≤ 9223372036854775807) ∧ w0.heap.size ≤ b ∧ σ b = some r ∧ r.cells = pre ++ (css.flatten ++ post) ∧ pre.length = off ∧
    css.length = xs.length ∧ Fs.length = xs.length ∧ F = b :: Fs.flatten ∧ ∀ (j : Nat) (c : List Value) (x : α) (f : List Nat), css[j]? = some c → xs[j]? = some x → Fs[j]? = some f → O σ f c x)

theorem mem_flat {l : List (List Nat)} {b : Nat} (h : b ∈ l.flatten) : ∃ (j : Nat) (f : List Nat), l[j]? = some f ∧ b ∈ f := by
  obtain ⟨f, h1, h2⟩ := List.mem_flatten.1 h
  obtain ⟨j, hj⟩ := List.getElem?_of_mem h1
  exact ⟨j, f, hj, h2⟩

theorem OSl.frame {n : Nat} {Rel : (Addr → Option Value) → List Value → α → Prop} {O : Vw → List Nat → List Value → α → Prop} (ok : OOk w0 n Rel O) {F : List Nat} {v : Value} {xs : List α} (h : OSl w0 n O σ F v xs) (hF : ∀ b, b ∈ F → σ' b = σ b) : OSl w0 n O σ' F v xs := by
  obtain ⟨h1, h2, h3 | ⟨b, off, cap, r, pre, post, css, Fs, g1, gc, g2, g3, g4, g5, g6, g7, g8, g9⟩⟩ := h
  · exact ⟨h1, h2, .inl h3⟩
  · refine ⟨h1, h2, .inr ⟨b, off, cap, r, pre, post, css, Fs, g1, gc, g2, ?_, g4, g5, g6, g7, g8, fun j c x f e1 e2 e3 => ?_⟩⟩
    · rw [hF b (by rw [g8]; exact List.mem_cons_self)]; exact g3
    · refine ok.frame _ _ _ _ _ (g9 j c x f e1 e2 e3) fun i hi => hF i ?_
      rw [g8]
      exact List.mem_cons_of_mem _ (List.mem_flatten.2 ⟨f, List.mem_of_getElem? e3, hi⟩)

theorem OSl.dom {n : Nat} {Rel : (Addr → Option Value) → List Value → α → Prop} {O : Vw → List Nat → List Value → α → Prop} (ok : OOk w0 n Rel O) {F : List Nat} {v : Value} {xs : List α} (h : OSl w0 n O σ F v xs) : ∀ b, b ∈ F → w0.heap.size ≤ b ∧ σ b ≠ none := by
  obtain ⟨h1, h2, ⟨_, _, h3⟩ | ⟨b, off, cap, r, pre, post, css, Fs, g1, gc, g2, g3, g4, g5, g6, g7, g8, g9⟩⟩ := h
  · rw [h3]; intro b hb; cases hb
  · rw [g8]
    intro i hi
    rcases List.mem_cons.1 hi with e | e
    · rw [e]; exact ⟨g2, by rw [g3]; simp⟩
    · obtain ⟨j, f, e1, e2⟩ := mem_flat e
      have hj : j < Fs.length := (List.getElem?_eq_some_iff.1 e1).1
      exact ok.dom _ _ _ _ (g9 j _ _ f (List.getElem?_eq_getElem (by omega)) (List.getElem?_eq_getElem (by omega)) e1) i e2

theorem OSl.rel {n : Nat} {Rel : (Addr → Option Value) → List Value → α → Prop} {O : Vw → List Nat → List Value → α → Prop} (ok : OOk w0 n Rel O) {F : List Nat} {v : Value} {xs : List α} (h : OSl w0 n O σ F v xs) : RSl n Rel (Av.get w0 σ) v xs := by
  obtain ⟨h1, h2, ⟨rfl, rfl, _⟩ | ⟨b, off, cap, r, pre, post, css, Fs, rfl, gc, g2, g3, g4, g5, g6, g7, g8, g9⟩⟩ := h
  · exact ⟨none, 0, rfl, by simp, fun j x hj => by simp at hj⟩
  · have each : ∀ (j : Nat) (c : List Value), css[j]? = some c → c.length = n := fun j c hj => by
      have hlt : j < css.length := (List.getElem?_eq_some_iff.1 hj).1
      exact ok.len _ _ _ _ (g9 j c _ _ hj (List.getElem?_eq_getElem (by omega)) (List.getElem?_eq_getElem (by omega)))
    have hn : ∀ c, c ∈ css → c.length = n := fun c hc => by obtain ⟨j, hj⟩ := List.getElem?_of_mem hc; exact each j c hj
    refine ⟨_, cap, rfl, gc, fun j x hj => ?_⟩
    have hlt : j < css.length := by have := (List.getElem?_eq_some_iff.1 hj).1; omega
    have hcj := List.getElem?_eq_getElem hlt
    refine ⟨_, css[j], rfl, each j _ hcj, fun i hi => ?_, ok.rel _ _ _ _ (g9 j _ x _ hcj hj (List.getElem?_eq_getElem (by omega)))⟩
    rw [addr_add, get_row g2 g3, g4, List.getElem?_append_right (by omega)]
    rw [show off + (j * n + i) - pre.length = j * n + i by omega, List.getElem?_append_left, flat_get css hn j _ hcj i hi]
    rw [flat_len css hn]
    calc j * n + i < j * n + n := by omega
      _ = (j + 1) * n := by rw [Nat.add_mul, Nat.one_mul]
      _ ≤ css.length * n := Nat.mul_le_mul_right n hlt

end
end Go.Av

/- Lists in rows of our own, written element by element: the focus on one element, and the loops that mark and that look at marks. -/
set_option linter.unusedVariables false
set_option linter.unusedSimpArgs false
namespace Go.Av
open Go Go.RowKit

/-- Every row but those of F stays as it is. -/
def KeepsBut (F : List Nat) (σ σ' : Vw) : Prop := ∀ b r, σ b = some r → b ∉ F → σ' b = some r
theorem KeepsBut.refl (F : List Nat) (σ : Vw) : KeepsBut F σ σ := fun _ _ h _ => h
theorem Keeps.but {F : List Nat} {σ σ' : Vw} (h : Keeps σ σ') : KeepsBut F σ σ' := fun b r hb _ => h b r hb
theorem KeepsBut.trans {F : List Nat} {σ σ' σ'' : Vw} (h : KeepsBut F σ σ') (h' : KeepsBut F σ' σ'') : KeepsBut F σ σ'' := fun b r hb hF => h' b r (h b r hb hF) hF
theorem KeepsBut.mono {F F' : List Nat} {σ σ' : Vw} (h : KeepsBut F σ σ') (hF : ∀ b, b ∈ F → b ∈ F') : KeepsBut F' σ σ' := fun b r hb h' => h b r hb fun hb' => h' (hF b hb')
/-- What is older than F stays. -/
theorem KeepsBut.old {F : List Nat} {σ0 σ σ' : Vw} (h : KeepsBut F σ σ') (h0 : Keeps σ0 σ) (hF : ∀ b, b ∈ F → σ0 b = none) : Keeps σ0 σ' := fun b r hb => h b r (h0 b r hb) fun hb' => by rw [hF b hb'] at hb; cases hb
theorem KeepsBut.at {F G : List Nat} {σ σ' : Vw} (h : KeepsBut F σ σ') (hG : ∀ b, b ∈ G → σ b ≠ none) (hd : ∀ b, b ∈ G → b ∉ F) : ∀ b, b ∈ G → σ' b = σ b := fun b hb => by
  cases hs : σ b with
  | none => exact absurd hs (hG b hb)
  | some r => exact h b r hs (hd b hb)
theorem KeepsBut.put {F : List Nat} {σ : Vw} {b : Nat} {r : Row} (hb : b ∈ F) : KeepsBut F σ (σ.put b r) := fun i x hi hF => by
  have : i ≠ b := fun e => hF (e ▸ hb)
  simp [Vw.put, this, hi]

section
variable {P : Program} {w0 : World} {σ σ' : Vw} {α : Type}

theorem nodup_at {l : List (List Nat)} {i j : Nat} {f g : List Nat} (h : l.flatten.Nodup) (hi : l[i]? = some f) (hj : l[j]? = some g) (hij : i ≠ j) : ∀ b, b ∈ f → b ∉ g := by
  induction l generalizing i j with
  | nil => simp at hi
  | cons a r ih =>
    rw [List.flatten_cons, List.nodup_append] at h
    intro b hb hb'
    cases i with
    | zero =>
      cases j with
      | zero => exact hij rfl
      | succ j =>
        simp at hi hj
        subst hi
        exact h.2.2 b hb b (List.mem_flatten.2 ⟨g, List.mem_of_getElem? hj, hb'⟩) rfl
    | succ i =>
      cases j with
      | zero =>
        simp at hi hj
        subst hj
        exact h.2.2 b hb' b (List.mem_flatten.2 ⟨f, List.mem_of_getElem? hi, hb⟩) rfl
      | succ j =>
        simp at hi hj
        exact ih h.2.1 hi hj (fun e => hij (by rw [e])) b hb hb'

theorem split_at {l : List (List Value)} {j : Nat} {c : List Value} (hj : l[j]? = some c) : l.flatten = (l.take j).flatten ++ (c ++ (l.drop (j + 1)).flatten) := by
  have hlt := (List.getElem?_eq_some_iff.1 hj).1
  have e : l = l.take j ++ (c :: l.drop (j + 1)) := by
    have := List.take_append_drop j l
    rw [List.drop_eq_getElem_cons hlt] at this
    have hc : l[j] = c := (List.getElem?_eq_some_iff.1 hj).2
    rw [hc] at this
    exact this.symm
  calc l.flatten = (l.take j ++ (c :: l.drop (j + 1))).flatten := by rw [← e]
    _ = _ := by rw [List.flatten_append, List.flatten_cons]

/-- One element of a list of our own, and how the list is put together again behind a change of it. -/
theorem OSl.focus {n : Nat} {Rel : (Addr → Option Value) → List Value → α → Prop} {O : Vw → List Nat → List Value → α → Prop} (ok : OOk w0 n Rel O) {F : List Nat} {v : Value} {xs : List α} (h : OSl w0 n O σ F v xs) {j : Nat} {x : α} (hj : xs[j]? = some x) :
    ∃ (b o : Nat) (f : List Nat) (c A C : List Value) (r : Row), (∀ K : Value → Prop, K (.pointer (some ⟨b, o, none⟩)) → pIndexAddr n v (.int .i64 j) K) ∧ w0.heap.size ≤ b ∧ σ b = some r ∧ r.cells = A ++ (c ++ C) ∧ A.length = o ∧ O σ f c x ∧ b ∈ F ∧ (∀ i, i ∈ f → i ∈ F ∧ i ≠ b) ∧
      ∀ (σ' : Vw) (c' : List Value) (x' : α) (r' : Row), σ' b = some r' → r'.cells = A ++ (c' ++ C) → O σ' f c' x' → (∀ i, i ∈ F → i ≠ b → i ∉ f → σ' i = σ i) → OSl w0 n O σ' F v (xs.set j x') := by
  obtain ⟨h1, h2, ⟨rfl, rfl, _⟩ | ⟨b, off, cap, r, pre, post, css, Fs, rfl, gc, g2, g3, g4, g5, g6, g7, g8, g9⟩⟩ := h
  · simp at hj
  have hlt : j < xs.length := (List.getElem?_eq_some_iff.1 hj).1
  have hcj := List.getElem?_eq_getElem (show j < css.length by omega)
  have hfj := List.getElem?_eq_getElem (show j < Fs.length by omega)
  generalize hce : css[j]'(by omega) = c at hcj
  generalize hfe : Fs[j]'(by omega) = f at hfj
  have hO := g9 j c x f hcj hj hfj
  have hn : ∀ c, c ∈ css → c.length = n := fun c hc => by
    obtain ⟨i, hi⟩ := List.getElem?_of_mem hc
    have hil : i < css.length := (List.getElem?_eq_some_iff.1 hi).1
    exact ok.len _ _ _ _ (g9 i c _ _ hi (List.getElem?_eq_getElem (by omega)) (List.getElem?_eq_getElem (by omega)))
  have hA : (pre ++ (css.take j).flatten).length = off + j * n := by
    rw [List.length_append, g5, flat_len _ fun c hc => hn c (List.mem_of_mem_take hc), List.length_take]
    congr 2; omega
  rw [g8] at h2
  have hbf : b ∉ f := fun hb => (List.nodup_cons.1 h2).1 (List.mem_flatten.2 ⟨f, List.mem_of_getElem? hfj, hb⟩)
  refine ⟨b, off + j * n, f, c, pre ++ (css.take j).flatten, (css.drop (j + 1)).flatten ++ post, r, fun K hK => ?_, g2, g3, ?_, hA, hO, by rw [g8]; exact List.mem_cons_self, fun i hi => ⟨?_, fun e => hbf (e ▸ hi)⟩, ?_⟩
  · refine ⟨⟨b, off, none⟩, xs.length, cap, .i64, j, rfl, rfl, by omega, by omega, ?_⟩
    rw [addr_add]; exact hK
  · rw [g4, split_at hcj]; simp only [List.append_assoc]
  · rw [g8]; exact List.mem_cons_of_mem _ (List.mem_flatten.2 ⟨f, List.mem_of_getElem? hfj, hi⟩)
  · intro σ' c' x' r' hr' hcells hO' hrest
    have hlen' := ok.len _ _ _ _ hO'
    refine ⟨by rw [List.length_set]; exact h1, by rw [g8]; exact h2, .inr ⟨b, off, cap, r', pre, post, css.set j c', Fs, by rw [List.length_set], by rw [List.length_set]; exact gc, g2, hr', ?_, g5, by rw [List.length_set, List.length_set]; exact g6, by rw [List.length_set]; exact g7, g8, ?_⟩⟩
    · have hcj' : (css.set j c')[j]? = some c' := List.getElem?_set_self (by omega)
      rw [hcells, split_at hcj', List.take_set_of_le (Nat.le_refl j), List.drop_set_of_lt (by omega)]
      simp only [List.append_assoc]
    · intro i ci y fi e1 e2 e3
      by_cases hij : j = i
      · subst hij
        rw [List.getElem?_set_self (by omega)] at e1 e2
        cases e1; cases e2
        rw [hfj] at e3; cases e3
        exact hO'
      · rw [List.getElem?_set_ne hij] at e1 e2
        refine ok.frame _ _ _ _ _ (g9 i ci y fi e1 e2 e3) fun k hk => ?_
        have hkF : k ∈ Fs.flatten := List.mem_flatten.2 ⟨fi, List.mem_of_getElem? e3, hk⟩
        exact hrest k (by rw [g8]; exact List.mem_cons_of_mem _ hkF) (fun e => (List.nodup_cons.1 h2).1 (e ▸ hkF)) (nodup_at (List.nodup_cons.1 h2).2 e3 hfj (fun e => hij e.symm) k hk)

/-- A field of an element is written. -/
theorem field_store {b o off : Nat} {r : Row} {A c C : List Value} {y : Value} {K : Vw → Prop} (hr : σ b = some r) (hc : r.cells = A ++ (c ++ C)) (hA : A.length = o) (hoff : off < c.length) (hy : y.oneCell' = true)
    (hK : K (σ.put b { r with cells := A ++ (c.set off y ++ C) })) : pField off (.pointer (some ⟨b, o, none⟩)) fun q => pVal false 1 y (pStore q [y] σ K) := by
  rw [pField_s, pVal1 hy, addr_add]
  refine ⟨b, o + off, r, rfl, hr, ?_, ?_⟩
  · rw [hc]; simp only [List.length_append, List.length_singleton]; omega
  · have e : setAt r.cells (o + off) [y] = A ++ (c.set off y ++ C) := by
      simp only [setAt]
      rw [hc, List.set_append_right _ _ (by omega), List.set_append_left _ _ (by omega), hA]
      congr 3; omega
    rw [e]; exact hK
theorem elem_store {b o : Nat} {r : Row} {A C : List Value} {x y : Value} {K : Vw → Prop} (hr : σ b = some r) (hc : r.cells = A ++ ([x] ++ C)) (hA : A.length = o) (hy : y.oneCell' = true)
    (hK : K (σ.put b { r with cells := A ++ ([y] ++ C) })) : pVal false 1 y (pStore (.pointer (some ⟨b, o, none⟩)) [y] σ K) := by
  rw [pVal1 hy]
  refine ⟨b, o, r, rfl, hr, ?_, ?_⟩
  · rw [hc]; simp only [List.length_append, List.length_singleton]; omega
  · have e : setAt r.cells o [y] = A ++ ([y] ++ C) := by
      simp only [setAt]
      rw [hc, List.set_append_right _ _ (by omega), hA, Nat.sub_self]; rfl
    rw [e]; exact hK
/-- A field of an element is read. -/
theorem field_load {b o off : Nat} {r : Row} {A c C : List Value} {y : Value} {K : (Nat → Value) → Prop} (hb : w0.heap.size ≤ b) (hr : σ b = some r) (hc : r.cells = A ++ (c ++ C)) (hA : A.length = o) (hoff : c[off]? = some y)
    (hK : ∀ g : Nat → Value, g 0 = y → K g) : pField off (.pointer (some ⟨b, o, none⟩)) fun q => pLoad w0 1 q σ K := by
  rw [pField_s, addr_add]
  refine ⟨_, fun _ => y, rfl, fun j hj => ?_, hK _ rfl⟩
  have : j = 0 := by omega
  subst this
  have hlt : off < c.length := (List.getElem?_eq_some_iff.1 hoff).1
  rw [addr_add, get_row hb hr, hc, List.getElem?_append_right (by omega), List.getElem?_append_left (by omega)]
  rw [show o + off + 0 - A.length = off by omega]; exact hoff

/-! ### Marks -/
end
end Go.Av

/- The plain side, part 3: what the statement's reading of an argument says of the cells. -/
set_option linter.unusedVariables false
set_option linter.unusedSimpArgs false
namespace Go.Av
open Go Go.RowKit

def σ0 : Vw := fun _ => none

section
variable {H : Type} {enc : TypeId × Value → H} {P : Program} {W : World} {fuel : Nat} {cs : List Value} {x : DataW H × List MemPlace}

theorem sat0 (W : World) : Sat W σ0 W := ⟨Below.refl _ _, fun b r h => by cases h⟩

theorem get0 {a : Addr} {v : Value} (h : W.cell? a = some v) {σ : Vw} : Av.get W σ a = some v := by
  have hlt : a.block < W.heap.size := by
    rcases Nat.lt_or_ge a.block W.heap.size with h1 | h1
    · exact h1
    · have : W.heap[a.block]? = none := Array.getElem?_eq_none h1
      unfold World.cell? at h
      simp [this] at h
  unfold Av.get
  rw [if_pos hlt]; exact h

theorem listOf {α : Type} (p : Nat → α → Prop) : ∀ (n : Nat), (∀ i, i < n → ∃ x, p i x) → ∃ xs : List α, xs.length = n ∧ ∀ (j : Nat) (x : α), xs[j]? = some x → p j x
  | 0, _ => ⟨[], rfl, fun j x h => by simp at h⟩
  | n + 1, h => by
    obtain ⟨xs, hl, hx⟩ := listOf p n (fun i hi => h i (by omega))
    obtain ⟨y, hy⟩ := h n (by omega)
    refine ⟨xs ++ [y], by simp [hl], fun j x hj => ?_⟩
    by_cases e : j < xs.length
    · rw [List.getElem?_append_left e] at hj; exact hx j x hj
    · rw [List.getElem?_append_right (by omega)] at hj
      have : j - xs.length = 0 := by
        rcases Nat.eq_zero_or_pos (j - xs.length) with h0 | h0
        · exact h0
        · rw [List.getElem?_eq_none (by simp; omega)] at hj; cases hj
      rw [this] at hj
      simp at hj
      subst hj
      have : j = n := by omega
      subst this; exact hy

/-- A slice is opened, its elements by a rule of their own. -/
theorem open_rsl {α : Type} {t e n : Nat} {R : (Addr → Option Value) → List Value → α → Prop} {spare : Nat → Bool} (ht : P.underlying t = some (.slice e)) (hc : P.cellsOf e = n)
    (hR : ∀ (fuel : Nat) (es : List Value) (y : DataW H × List MemPlace), DataW.trod enc P W 0 spare true fuel e es = some y → es.length = n → ∃ x, R (Av.get W σ0) es x) (h : DataW.trod enc P W 0 spare true fuel t cs = some x) : ∃ v xs, cs = [v] ∧ RSl n R (Av.get W σ0) v xs := by
  rcases DataW.trod_slice ht h with ⟨rfl, _⟩ | ⟨a, len, cap, elems, rest, m, _, rfl, _, hb, hl, hm, hlen, hel, _, _⟩
  · exact ⟨_, [], rfl, none, 0, rfl, by simp, fun j x hj => by simp at hj⟩
  · have each : ∀ i, i < len → ∃ x : α, ∃ es : List Value, es.length = n ∧ (∀ k, k < n → Av.get W σ0 (a.add (i * n + k)) = es[k]?) ∧ R (Av.get W σ0) es x := by
      intro i hi
      have h1 := hel i hi
      rw [hc, List.getElem?_eq_getElem (by omega), Option.bind_eq_some_iff] at h1
      obtain ⟨es, h2, h3⟩ := h1
      obtain ⟨_, hes, hcell⟩ := World.cells?_some h2
      obtain ⟨x, hx⟩ := hR m es _ h3 hes
      refine ⟨x, es, hes, fun k hk => ?_, hx⟩
      have := hcell k hk
      rw [add_add] at this
      have hlt : k < es.length := by omega
      rw [List.getElem?_eq_getElem hlt] at this ⊢
      exact get0 this
    obtain ⟨xs, hxl, hxs⟩ := listOf _ len each
    have hmax : cap ≤ 9223372036854775807 := by have : maxLen = 9223372036854775807 := by decide
                                                omega
    refine ⟨_, xs, rfl, some a, cap, by rw [hxl], ⟨by omega, hmax⟩, fun j x hj => ?_⟩
    obtain ⟨es, g1, g2, g3⟩ := hxs j x hj
    exact ⟨a, es, rfl, g1, g2, g3⟩

/-- From the functions to the statement. -/
theorem AC.calls {f : FuncId} {args : List Value} {R : Value → Vw → Prop} (h : AC P W f args σ0 R) : Calls P f args.toArray W fun e W' => ∃ v σ', e = .returned v ∧ R v σ' ∧ Below W.heap.size W W' :=
  (h.2 W (sat0 W)).mono fun e W' ⟨v, σ', h1, h2, h3⟩ => ⟨v, σ', h1, h2, h3.sat.bel⟩
end
end Go.Av

/- The plain side, part 4: what the statement's reading of an argument says, with the fuel told; numbers, bools, texts. -/
set_option linter.unusedVariables false
set_option linter.unusedSimpArgs false
namespace Go.Av
open Go Go.RowKit

theorem RSl.imp {α : Type} {n : Nat} {R R' : (Addr → Option Value) → List Value → α → Prop} {rd : Addr → Option Value} {v : Value} {xs : List α} (h : RSl n R rd v xs) (hR : ∀ es x, R rd es x → R' rd es x) : RSl n R' rd v xs := by
  obtain ⟨A, cap, h1, h2, h3⟩ := h
  refine ⟨A, cap, h1, h2, fun j x hj => ?_⟩
  obtain ⟨a, es, h4, h5, h6, h7⟩ := h3 j x hj
  exact ⟨a, es, h4, h5, h6, hR _ _ h7⟩

section
variable {H : Type} {enc : TypeId × Value → H} {P : Program} {W : World} {fuel : Nat} {cs : List Value} {x : DataW H × List MemPlace}

end
end Go.Av

/- The plain side, part 5: more operations at known values. -/
set_option linter.unusedVariables false
set_option linter.unusedSimpArgs false
namespace Go.Av
open Go Go.RowKit IntWalk

section
variable {P : Program} {w0 : World} {σ σ' : Vw}
theorem pConv_s {k k' : IntKind} {n : Int} {K : Value → Prop} : pConvInt k (.int k' n) K ↔ K (.int k (k.wrap n)) :=
  ⟨fun ⟨_, _, h, hK⟩ => by cases h; exact hK, fun h => ⟨_, _, rfl, h⟩⟩
theorem pConv_u8 {k' : IntKind} {n : Int} {K : Value → Prop} (h : 0 ≤ n ∧ n ≤ 255) : pConvInt .u8 (.int k' n) K ↔ K (.int .u8 n) := by rw [pConv_s, u8_in n h]
theorem pConv_i64 {k' : IntKind} {n : Int} {K : Value → Prop} (h : -9223372036854775808 ≤ n ∧ n ≤ 9223372036854775807) : pConvInt .i64 (.int k' n) K ↔ K (.int .i64 n) := by rw [pConv_s, i64_in n h]
theorem pBin_rem {T : Nat} {k : IntKind} {a b : Int} {K : Value → Prop} (h : 0 ≤ a ∧ 0 < b) : pBin P T .rem (.int k a) (.int k b) K ↔ K (.int k (a % b)) :=
  pBin_i (by simp only [aint]; rw [if_neg (by omega), Int.tmod_eq_emod_of_nonneg h.1])
theorem pBin_quo {T : Nat} {a b : Int} {K : Value → Prop} (h : 0 ≤ a ∧ a ≤ 9223372036854775807 ∧ 0 < b) : pBin P T .quo (.int .i64 a) (.int .i64 b) K ↔ K (.int .i64 (a / b)) :=
  pBin_i (by simp only [aint]; rw [if_neg (by omega), i64_quo a b (by omega)])
theorem pBin_cat {T : Nat} {a b : ByteArray} {K : Value → Prop} (h : a.size + b.size ≤ 9223372036854775807) : pBin P T .add (.string a) (.string b) K ↔ K (.string (a ++ b)) :=
  pBin_s (by
    have e : IntKind.i64.max = 9223372036854775807 := by decide
    simp only [astr, e]
    rw [if_neg (by omega)])
theorem pExtract_s {vs : List Value} {i : Nat} {v : Value} {K : Value → Prop} (h : vs[i]? = some v) : pExtract (.tuple ⟨vs⟩) i K ↔ K v := by
  obtain ⟨hl, he⟩ := List.getElem?_eq_some_iff.1 h
  exact ⟨fun ⟨_, e, hl', hK⟩ => by cases e; rw [he] at hK; exact hK, fun hK => ⟨_, rfl, hl, by rw [he]; exact hK⟩⟩
theorem pIndexStr_s {s : ByteArray} {j : Nat} {K : Value → Prop} (h : j < s.size) (hK : K (.int .u8 ((s[j]'h).toNat : Int))) : pIndexStr (.string s) (.int .i64 j) K :=
  ⟨s, .i64, j, rfl, rfl, by omega, h, hK⟩
theorem pSliceStr_s {s : ByteArray} {lo hi : Option Value} {l h : Int} {K : Value → Prop} (hl : boundOf 0 lo = some l) (hh : boundOf s.size hi = some h) (h0 : 0 ≤ l ∧ l ≤ h ∧ h ≤ s.size) (hK : K (.string (s.extract l.toNat h.toNat))) : pSliceStr (.string s) lo hi K :=
  ⟨s, l, h, rfl, hl, hh, h0.1, h0.2.1, h0.2.2, hK⟩
end
end Go.Av

/- Lists that grow by append, in a row of our own; elements that need no row; elements that are read in what is older. -/
set_option linter.unusedVariables false
set_option linter.unusedSimpArgs false
namespace Go.Av
open Go Go.RowKit

section
variable {P : Program} {w0 : World} {σ σ' : Vw} {α : Type}

/-! ### Elements that are read by a reader that is fixed -/
def RB (Rel : (Addr → Option Value) → List Value → α → Prop) (rd0 : Addr → Option Value) (rd : Addr → Option Value) (es : List Value) (x : α) : Prop := Rel rd0 es x
def OB (Rel : (Addr → Option Value) → List Value → α → Prop) (rd0 : Addr → Option Value) (σ : Vw) (F : List Nat) (es : List Value) (x : α) : Prop := F = [] ∧ Rel rd0 es x
/-- What a rule of reading must keep. -/
structure ROk (n : Nat) (Rel : (Addr → Option Value) → List Value → α → Prop) : Prop where
  mono : ∀ rd rd' es x, Le rd rd' → Rel rd es x → Rel rd' es x
  len : ∀ rd es x, Rel rd es x → es.length = n
  one : ∀ rd es x, Rel rd es x → ∀ c, c ∈ es → c.oneCell' = true
theorem ok_base {n : Nat} {Rel : (Addr → Option Value) → List Value → α → Prop} (ok : ROk n Rel) (w0 : World) (rd0 : Addr → Option Value) : OOk w0 n (RB Rel rd0) (OB Rel rd0) := by
  refine ⟨?_, ?_, ?_, ?_, ?_, ?_⟩
  · rintro σ F es x ⟨_, h⟩; exact h
  · rintro σ σ' F es x h _; exact h
  · rintro σ F es x ⟨rfl, _⟩ b hb; cases hb
  · rintro σ F es x ⟨rfl, _⟩; exact List.nodup_nil
  · rintro σ F es x ⟨_, h⟩; exact ok.len _ _ _ h
  · rintro σ F es x ⟨_, h⟩; exact ok.one _ _ _ h
theorem RSl.unbase {n : Nat} {Rel : (Addr → Option Value) → List Value → α → Prop} (ok : ROk n Rel) {rd0 rd : Addr → Option Value} {v : Value} {xs : List α} (h : RSl n (RB Rel rd0) rd v xs) (hle : Le rd0 rd) : RSl n Rel rd v xs :=
  h.imp fun es x hx => ok.mono _ _ _ _ hle hx

/-! ### Elements that need no row -/
/-! ### Growing lists -/
def OAcc (w0 : World) (ety n : Nat) (O : Vw → List Nat → List Value → α → Prop) (σ : Vw) (F : List Nat) (v : Value) (xs : List α) : Prop :=
  xs.length ≤ 9223372036854775807 ∧ F.Nodup ∧ ((v = .slice none 0 0 ∧ xs = [] ∧ F = []) ∨
  ∃ (b cap : Nat) (css : List (List Value)) (Fs : List (List Nat)), v = .slice (some ⟨b, 0, none⟩) xs.length cap ∧ (xs.length ≤ cap ∧ cap ≤ 9223372036854775807) ∧ w0.heap.size ≤ b ∧ σ b = some ⟨ety, css.flatten, cap * n, (0, 0)⟩ ∧
    css.length = xs.length ∧ Fs.length = xs.length ∧ F = b :: Fs.flatten ∧ ∀ (j : Nat) (c : List Value) (x : α) (f : List Nat), css[j]? = some c → xs[j]? = some x → Fs[j]? = some f → O σ f c x)

theorem OAcc.osl {ety n : Nat} {O : Vw → List Nat → List Value → α → Prop} {F : List Nat} {v : Value} {xs : List α} (h : OAcc w0 ety n O σ F v xs) : OSl w0 n O σ F v xs := by
  obtain ⟨h1, h2, h3 | ⟨b, cap, css, Fs, g1, g2, g3, g4, g5, g6, g7, g8⟩⟩ := h
  · exact ⟨h1, h2, .inl h3⟩
  · exact ⟨h1, h2, .inr ⟨b, 0, cap, _, [], [], css, Fs, g1, g2, g3, g4, by simp, rfl, g5, g6, g7, g8⟩⟩
theorem OAcc.frame {ety n : Nat} {Rel : (Addr → Option Value) → List Value → α → Prop} {O : Vw → List Nat → List Value → α → Prop} (ok : OOk w0 n Rel O) {F : List Nat} {v : Value} {xs : List α} (h : OAcc w0 ety n O σ F v xs) (hF : ∀ b, b ∈ F → σ' b = σ b) : OAcc w0 ety n O σ' F v xs := by
  obtain ⟨h1, h2, h3 | ⟨b, cap, css, Fs, g1, g2, g3, g4, g5, g6, g7, g8⟩⟩ := h
  · exact ⟨h1, h2, .inl h3⟩
  · refine ⟨h1, h2, .inr ⟨b, cap, css, Fs, g1, g2, g3, by rw [hF b (by rw [g7]; exact List.mem_cons_self)]; exact g4, g5, g6, g7, fun j c x f e1 e2 e3 => ?_⟩⟩
    refine ok.frame _ _ _ _ _ (g8 j c x f e1 e2 e3) fun i hi => hF i ?_
    rw [g7]
    exact List.mem_cons_of_mem _ (List.mem_flatten.2 ⟨f, List.mem_of_getElem? e3, hi⟩)
theorem OAcc.dom {ety n : Nat} {Rel : (Addr → Option Value) → List Value → α → Prop} {O : Vw → List Nat → List Value → α → Prop} (ok : OOk w0 n Rel O) {F : List Nat} {v : Value} {xs : List α} (h : OAcc w0 ety n O σ F v xs) : ∀ b, b ∈ F → w0.heap.size ≤ b ∧ σ b ≠ none := h.osl.dom ok
theorem OAcc.nil {ety n : Nat} {O : Vw → List Nat → List Value → α → Prop} : OAcc w0 ety n O σ [] (.slice none 0 0) [] := ⟨by simp, by simp, .inl ⟨rfl, rfl, rfl⟩⟩
theorem OAcc.new {ety n b : Nat} {O : Vw → List Nat → List Value → α → Prop} (hb : w0.heap.size ≤ b) : OAcc w0 ety n O (σ.put b ⟨ety, [], 0, (0, 0)⟩) [b] (.slice (some ⟨b, 0, none⟩) 0 0) [] :=
  ⟨by simp, by simp, .inr ⟨b, 0, [], [], rfl, by simp, hb, by rw [put_at]; simp, rfl, rfl, rfl, fun j c x f h => by simp at h⟩⟩

theorem Keeps.but_at {F : List Nat} (h : Keeps σ σ') (hF : ∀ b, b ∈ F → σ b ≠ none) : ∀ b, b ∈ F → σ' b = σ b := fun b hb => by
  cases hs : σ b with
  | none => exact absurd hs (hF b hb)
  | some r => exact h b r hs

/-- Elements are appended, each with rows of its own. -/
theorem OAcc.pushX {ety n bytes m : Nat} {Rel : (Addr → Option Value) → List Value → α → Prop} {O : Vw → List Nat → List Value → α → Prop} (ok : OOk w0 n Rel O) {F : List Nat} {v : Value} {xs ys : List α} {nss : List (List Value)} {Gs : List (List Nat)} {new : List Value}
    (h : OAcc w0 ety n O σ F v xs) (hm : ys.length = m) (hnl : nss.length = m) (hGl : Gs.length = m) (hnew : new = nss.flatten) (hO : ∀ (j : Nat) (c : List Value) (y : α) (g : List Nat), nss[j]? = some c → ys[j]? = some y → Gs[j]? = some g → O σ g c y)
    (hG : Gs.flatten.Nodup) (hGF : ∀ i, i ∈ Gs.flatten → i ∉ F) (hlen : xs.length + m ≤ 1000000000000) (hbytes : bytes ≤ 140) {K : Value → Vw → Prop}
    (hK : ∀ v' F' σ', Ext σ σ' → KeepsBut F σ σ' → OAcc w0 ety n O σ' F' v' (xs ++ ys) → (∀ i, i ∈ F' → i ∈ F ∨ i ∈ Gs.flatten ∨ σ i = none) → K v' σ') : pAppend w0 ety n bytes v m new σ K := by
  have hb47 : (xs.length + m) * bytes ≤ 2 ^ 47 := by
    have h1 : (xs.length + m) * bytes ≤ 1000000000000 * 140 := Nat.mul_le_mul hlen hbytes
    have h2 : (2 : Nat) ^ 47 = 140737488355328 := by decide
    omega
  have hn2 : ∀ c, c ∈ nss → c.length = n := fun c hc => by
    obtain ⟨i, hi⟩ := List.getElem?_of_mem hc
    have hil : i < nss.length := (List.getElem?_eq_some_iff.1 hi).1
    exact ok.len _ _ _ _ (hO i c _ _ hi (List.getElem?_eq_getElem (by omega)) (List.getElem?_eq_getElem (by omega)))
  have hnewl : new.length = m * n := by rw [hnew, flat_len _ hn2, hnl]
  have hGdom : ∀ i, i ∈ Gs.flatten → σ i ≠ none := fun i hi => by
    obtain ⟨j, f, e1, e2⟩ := mem_flat hi
    have hj : j < Gs.length := (List.getElem?_eq_some_iff.1 e1).1
    exact (ok.dom _ _ _ _ (hO j _ _ f (List.getElem?_eq_getElem (by omega)) (List.getElem?_eq_getElem (by omega)) e1) i e2).2
  obtain ⟨h1, h2, ⟨rfl, rfl, rfl⟩ | ⟨b, cap, css, Fs, rfl, g2, g3, g4, g5, g6, g7, g8⟩⟩ := h
  · refine .inr (.inl ⟨0, [], ⟨by simp, .inl ⟨rfl, rfl⟩⟩, hnewl, by simpa using (by omega : m ≤ 9223372036854775807), by simpa using hb47, fun v' σ' hg => ?_⟩)
    rcases hg with ⟨rfl, rfl, _, h0, _⟩ | ⟨b', c', rfl, g1, g2, rfl, g3, g4⟩
    · have : m = 0 := by omega
      subst this
      have hy : ys = [] := List.length_eq_zero_iff.1 hm
      subst hy
      exact hK _ [] _ (Ext.refl _) (KeepsBut.refl _ _) (by simpa using OAcc.nil) (fun i hi => by cases hi)
    · have hb' : σ b' = none := by
        rcases g4 with h | ⟨n0, c0, h⟩
        · exact h
        · cases h
      have hbG : b' ∉ Gs.flatten := fun hi => hGdom b' hi hb'
      refine hK _ (b' :: Gs.flatten) _ (Keeps.put hb').ext (Keeps.put hb').but ?_ fun i hi => ?_
      · refine ⟨by simp; omega, List.nodup_cons.2 ⟨hbG, hG⟩, .inr ⟨b', c', nss, Gs, by simp [hm], by simp [hm]; omega, g3, by rw [put_at]; simp [hnew], by simp [hm, hnl], by simp [hm, hGl], rfl, fun j c x f e1 e2 e3 => ?_⟩⟩
        simp only [List.nil_append] at e2
        refine ok.frame _ _ _ _ _ (hO j c x f e1 e2 e3) fun i hi => ?_
        have : i ≠ b' := fun e => hbG (e ▸ List.mem_flatten.2 ⟨f, List.mem_of_getElem? e3, hi⟩)
        simp [Vw.put, this]
      · rcases List.mem_cons.1 hi with e | e
        · rw [e]; exact .inr (.inr hb')
        · exact .inr (.inl e)
  · have hn1 : ∀ c, c ∈ css → c.length = n := fun c hc => by
      obtain ⟨i, hi⟩ := List.getElem?_of_mem hc
      have hil : i < css.length := (List.getElem?_eq_some_iff.1 hi).1
      exact ok.len _ _ _ _ (g8 i c _ _ hi (List.getElem?_eq_getElem (by omega)) (List.getElem?_eq_getElem (by omega)))
    have g4' := g4
    rw [g7] at h2
    have hbFs : b ∉ Fs.flatten := (List.nodup_cons.1 h2).1
    have hbG : b ∉ Gs.flatten := fun hi => hGF b hi (by rw [g7]; exact List.mem_cons_self)
    have hFsdom : ∀ i, i ∈ Fs.flatten → σ i ≠ none := fun i hi => by
      obtain ⟨j, f, e1, e2⟩ := mem_flat hi
      have hj : j < Fs.length := (List.getElem?_eq_some_iff.1 e1).1
      exact (ok.dom _ _ _ _ (g8 j _ _ f (List.getElem?_eq_getElem (by omega)) (List.getElem?_eq_getElem (by omega)) e1) i e2).2
    refine .inr (.inl ⟨xs.length, css.flatten, ⟨by rw [flat_len _ hn1, g5], .inr ⟨b, cap, rfl, g4, g2.1, g2.2⟩⟩, hnewl, by omega, hb47, fun v' σ' hg => ?_⟩)
    rcases hg with ⟨rfl, rfl, h, _⟩ | ⟨b', c', rfl, k1, k2, rfl, k3, k4⟩
    · cases h
    · have hb' : b' ∉ Fs.flatten ∧ b' ∉ Gs.flatten ∧ (b' = b ∨ σ b' = none) := by
        rcases k4 with h | ⟨n0, c0, h⟩
        · exact ⟨fun hi => hFsdom b' hi h, fun hi => hGdom b' hi h, .inr h⟩
        · cases h; exact ⟨hbFs, hbG, .inl rfl⟩
      refine hK _ (b' :: (Fs ++ Gs).flatten) _ ?_ ?_ ?_ fun i hi => ?_
      · rcases hb'.2.2 with rfl | h
        · intro i r hi
          by_cases e : i = b'
          · subst e
            rw [g4'] at hi; cases hi
            exact ⟨_, put_at, List.prefix_append _ _⟩
          · exact ⟨r, by simp [Vw.put, e, hi], List.prefix_refl _⟩
        · exact (Keeps.put h).ext
      · rcases hb'.2.2 with rfl | h
        · exact KeepsBut.put (by rw [g7]; exact List.mem_cons_self)
        · exact (Keeps.put h).but
      · refine ⟨by simp; omega, ?_, .inr ⟨b', c', css ++ nss, Fs ++ Gs, by simp [hm], by simp [hm]; omega, k3, by rw [put_at, hnew]; simp, by simp [hm, hnl, g5], by simp [hm, hGl, g6], rfl, fun j c x f e1 e2 e3 => ?_⟩⟩
        · rw [List.flatten_append, List.nodup_cons]
          refine ⟨fun hi => ?_, List.nodup_append.2 ⟨(List.nodup_cons.1 h2).2, hG, fun a ha d hd e => hGF d hd (by rw [g7, ← e]; exact List.mem_cons_of_mem _ ha)⟩⟩
          rcases List.mem_append.1 hi with h | h
          · exact hb'.1 h
          · exact hb'.2.1 h
        · have hput : ∀ i, i ≠ b' → (σ.put b' ⟨ety, css.flatten ++ new, c' * n, (0, 0)⟩) i = σ i := fun i hi => by simp [Vw.put, hi]
          by_cases hj : j < xs.length
          · rw [List.getElem?_append_left (by omega)] at e1 e2 e3
            exact ok.frame _ _ _ _ _ (g8 j c x f e1 e2 e3) fun i hi => hput i fun e => hb'.1 (e ▸ List.mem_flatten.2 ⟨f, List.mem_of_getElem? e3, hi⟩)
          · rw [List.getElem?_append_right (by omega)] at e1 e2 e3
            rw [g5] at e1; rw [g6] at e3
            exact ok.frame _ _ _ _ _ (hO _ c x f e1 e2 e3) fun i hi => hput i fun e => hb'.2.1 (e ▸ List.mem_flatten.2 ⟨f, List.mem_of_getElem? e3, hi⟩)
      · rw [g7]
        rcases List.mem_cons.1 hi with e | e
        · rw [e]
          rcases hb'.2.2 with rfl | h
          · exact .inl List.mem_cons_self
          · exact .inr (.inr h)
        · rw [List.flatten_append] at e
          rcases List.mem_append.1 e with h | h
          · exact .inl (List.mem_cons_of_mem _ h)
          · exact .inr (.inl h)

/-- One element is appended. -/
theorem OAcc.oneX {ety n bytes : Nat} {Rel : (Addr → Option Value) → List Value → α → Prop} {O : Vw → List Nat → List Value → α → Prop} (ok : OOk w0 n Rel O) {F f : List Nat} {v : Value} {xs : List α} {y : α} {es : List Value}
    (h : OAcc w0 ety n O σ F v xs) (hy : O σ f es y) (hf : ∀ i, i ∈ f → i ∉ F) (hlen : xs.length + 1 ≤ 1000000000000) (hbytes : bytes ≤ 140) {K : Value → Vw → Prop}
    (hK : ∀ v' F' σ', Ext σ σ' → KeepsBut F σ σ' → OAcc w0 ety n O σ' F' v' (xs ++ [y]) → (∀ i, i ∈ F' → i ∈ F ∨ i ∈ f ∨ σ i = none) → K v' σ') : allOne es ∧ pAppend w0 ety n bytes v 1 es σ K := by
  refine ⟨ok.one _ _ _ _ hy, ?_⟩
  refine h.pushX ok (ys := [y]) (nss := [es]) (Gs := [f]) rfl rfl rfl (by simp) (fun j c z g e1 e2 e3 => ?_) (by simpa using ok.nodup _ _ _ _ hy) (by simpa using hf) hlen hbytes (by simpa using hK)
  cases j with
  | zero => simp at e1 e2 e3; subst e1 e2 e3; exact hy
  | succ j => simp at e1

/-- All elements of a list that is read are appended; they need no rows of their own. -/
theorem OAcc.allX {ety n bytes : Nat} {Rel Rel0 : (Addr → Option Value) → List Value → α → Prop} {O : Vw → List Nat → List Value → α → Prop} (ok : OOk w0 n Rel O) {rd0 : Addr → Option Value} {F : List Nat} {v s : Value} {xs ys : List α}
    (h : OAcc w0 ety n O σ F v xs) (hs : RSl n Rel0 rd0 s ys) (hle : Le rd0 (Av.get w0 σ)) (hO : ∀ es y, Rel0 rd0 es y → O σ [] es y) (hlen : xs.length + ys.length ≤ 1000000000000) (hbytes : bytes ≤ 140) {K : Value → Vw → Prop}
    (hK : ∀ v' F' σ', Ext σ σ' → KeepsBut F σ σ' → OAcc w0 ety n O σ' F' v' (xs ++ ys) → (∀ i, i ∈ F' → i ∈ F ∨ σ i = none) → K v' σ') : pAppendS w0 ety n bytes v s σ K := by
  obtain ⟨A, cap, rfl, hc, hel⟩ := hs
  obtain ⟨css, hcl, hcs⟩ := listOf (fun i (c : List Value) => ∃ a y, A = some a ∧ ys[i]? = some y ∧ c.length = n ∧ (∀ k, k < n → rd0 (a.add (i * n + k)) = c[k]?) ∧ Rel0 rd0 c y) ys.length (fun i hi => by
    obtain ⟨a, es, h1, h2, h3, h4⟩ := hel i _ (List.getElem?_eq_getElem hi)
    exact ⟨es, a, _, h1, List.getElem?_eq_getElem hi, h2, h3, h4⟩)
  have hn : ∀ c, c ∈ css → c.length = n := fun c hc => by
    obtain ⟨i, hi⟩ := List.getElem?_of_mem hc
    obtain ⟨_, _, _, _, h, _⟩ := hcs i c hi
    exact h
  refine ⟨A, ys.length, cap, css.flatten, rfl, by rw [flat_len _ hn, hcl], ?_, ?_, ?_⟩
  · intro c hc
    obtain ⟨es, he, hce⟩ := List.mem_flatten.1 hc
    obtain ⟨i, hi⟩ := List.getElem?_of_mem he
    obtain ⟨a, y, _, _, _, _, hR⟩ := hcs i es hi
    exact ok.one _ _ _ _ (hO _ _ hR) c hce
  · intro j hj
    rw [flat_len _ hn, hcl] at hj
    have hn0 : 0 < n := by
      rcases Nat.eq_zero_or_pos n with e | e
      · subst e; omega
      · exact e
    have hq : j / n < css.length := by rw [hcl]; exact (Nat.div_lt_iff_lt_mul hn0).2 hj
    obtain ⟨a, y, hA, hy, hl, hk, hR⟩ := hcs (j / n) _ (List.getElem?_eq_getElem hq)
    have hr : j % n < n := Nat.mod_lt _ hn0
    have hdm : j / n * n + j % n = j := by rw [Nat.mul_comm]; exact Nat.div_add_mod j n
    refine ⟨a, hA, ?_⟩
    have e1 := flat_get css hn (j / n) _ (List.getElem?_eq_getElem hq) (j % n) hr
    rw [hdm] at e1
    have e2 := hk (j % n) hr
    rw [hdm, ← e1] at e2
    have hj' : j < css.flatten.length := by rw [flat_len _ hn, hcl]; exact hj
    rw [List.getElem?_eq_getElem hj'] at e2
    exact hle _ _ e2
  · refine h.pushX ok (ys := ys) (nss := css) (Gs := List.replicate ys.length []) rfl hcl (by simp) rfl (fun j c y g e1 e2 e3 => ?_) (by simp) (by simp) hlen hbytes (by simpa using hK)
    obtain ⟨a, y', _, hy, _, _, hR⟩ := hcs j c e1
    rw [e2] at hy; cases hy
    rw [List.getElem?_replicate] at e3
    split at e3
    · cases e3; exact hO _ _ hR
    · cases e3

/-- All elements of a list of our own are appended, with their rows. -/
theorem OAcc.allOwnX {ety n bytes : Nat} {Rel : (Addr → Option Value) → List Value → α → Prop} {O : Vw → List Nat → List Value → α → Prop} (ok : OOk w0 n Rel O) {F G : List Nat} {v s : Value} {xs ys : List α}
    (h : OAcc w0 ety n O σ F v xs) (hs : OSl w0 n O σ G s ys) (hGF : ∀ i, i ∈ G → i ∉ F) (hlen : xs.length + ys.length ≤ 1000000000000) (hbytes : bytes ≤ 140) {K : Value → Vw → Prop}
    (hK : ∀ v' F' σ', Ext σ σ' → KeepsBut F σ σ' → OAcc w0 ety n O σ' F' v' (xs ++ ys) → (∀ i, i ∈ F' → i ∈ F ∨ i ∈ G ∨ σ i = none) → K v' σ') : pAppendS w0 ety n bytes v s σ K := by
  obtain ⟨s1, s2, ⟨rfl, rfl, rfl⟩ | ⟨b, off, cap, r, pre, post, css, Gs, rfl, gc, g2, g3, g4, g5, g6, g7, g8, g9⟩⟩ := hs
  · refine ⟨none, 0, 0, [], rfl, by simp, by simp, fun j hj => by simp at hj, ?_⟩
    exact h.pushX ok (ys := []) (nss := []) (Gs := []) rfl rfl rfl rfl (fun j c y g e1 => by simp at e1) (by simp) (by simp) (by simpa using hlen) hbytes (by simpa using hK)
  · have hn : ∀ c, c ∈ css → c.length = n := fun c hc => by
      obtain ⟨i, hi⟩ := List.getElem?_of_mem hc
      have hil : i < css.length := (List.getElem?_eq_some_iff.1 hi).1
      exact ok.len _ _ _ _ (g9 i c _ _ hi (List.getElem?_eq_getElem (by omega)) (List.getElem?_eq_getElem (by omega)))
    rw [g8] at s2
    refine ⟨_, ys.length, cap, css.flatten, rfl, by rw [flat_len _ hn, g6], ?_, ?_, ?_⟩
    · intro c hc
      obtain ⟨es, he, hce⟩ := List.mem_flatten.1 hc
      obtain ⟨i, hi⟩ := List.getElem?_of_mem he
      have hil : i < css.length := (List.getElem?_eq_some_iff.1 hi).1
      exact ok.one _ _ _ _ (g9 i es _ _ hi (List.getElem?_eq_getElem (by omega)) (List.getElem?_eq_getElem (by omega))) c hce
    · intro j hj
      refine ⟨_, rfl, ?_⟩
      rw [addr_add, get_row g2 g3, g4, List.getElem?_append_right (by omega), List.getElem?_append_left (by omega), ← List.getElem?_eq_getElem hj]
      congr 1; omega
    · refine h.pushX ok (ys := ys) (nss := css) (Gs := Gs) rfl g6 g7 rfl g9 (List.nodup_cons.1 s2).2 (fun i hi => hGF i (by rw [g8]; exact List.mem_cons_of_mem _ hi)) hlen hbytes fun v' F' σ' k0 k1 k2 k3 => hK v' F' σ' k0 k1 k2 fun i hi => ?_
      rcases k3 i hi with h | h | h
      · exact .inl h
      · exact .inr (.inl (by rw [g8]; exact List.mem_cons_of_mem _ h))
      · exact .inr (.inr h)
theorem OAcc.push {ety n bytes m : Nat} {Rel : (Addr → Option Value) → List Value → α → Prop} {O : Vw → List Nat → List Value → α → Prop} (ok : OOk w0 n Rel O) {F : List Nat} {v : Value} {xs ys : List α} {nss : List (List Value)} {Gs : List (List Nat)} {new : List Value}
    (h : OAcc w0 ety n O σ F v xs) (hm : ys.length = m) (hnl : nss.length = m) (hGl : Gs.length = m) (hnew : new = nss.flatten) (hO : ∀ (j : Nat) (c : List Value) (y : α) (g : List Nat), nss[j]? = some c → ys[j]? = some y → Gs[j]? = some g → O σ g c y)
    (hG : Gs.flatten.Nodup) (hGF : ∀ i, i ∈ Gs.flatten → i ∉ F) (hlen : xs.length + m ≤ 1000000000000) (hbytes : bytes ≤ 140) {K : Value → Vw → Prop}
    (hK : ∀ v' F' σ', KeepsBut F σ σ' → OAcc w0 ety n O σ' F' v' (xs ++ ys) → (∀ i, i ∈ F' → i ∈ F ∨ i ∈ Gs.flatten ∨ σ i = none) → K v' σ') : pAppend w0 ety n bytes v m new σ K :=
  OAcc.pushX ok h hm hnl hGl hnew hO hG hGF hlen hbytes fun v' F' σ' _ => hK v' F' σ'
theorem OAcc.one {ety n bytes : Nat} {Rel : (Addr → Option Value) → List Value → α → Prop} {O : Vw → List Nat → List Value → α → Prop} (ok : OOk w0 n Rel O) {F f : List Nat} {v : Value} {xs : List α} {y : α} {es : List Value}
    (h : OAcc w0 ety n O σ F v xs) (hy : O σ f es y) (hf : ∀ i, i ∈ f → i ∉ F) (hlen : xs.length + 1 ≤ 1000000000000) (hbytes : bytes ≤ 140) {K : Value → Vw → Prop}
    (hK : ∀ v' F' σ', KeepsBut F σ σ' → OAcc w0 ety n O σ' F' v' (xs ++ [y]) → (∀ i, i ∈ F' → i ∈ F ∨ i ∈ f ∨ σ i = none) → K v' σ') : allOne es ∧ pAppend w0 ety n bytes v 1 es σ K :=
  OAcc.oneX ok h hy hf hlen hbytes fun v' F' σ' _ => hK v' F' σ'
theorem OAcc.all {ety n bytes : Nat} {Rel Rel0 : (Addr → Option Value) → List Value → α → Prop} {O : Vw → List Nat → List Value → α → Prop} (ok : OOk w0 n Rel O) {rd0 : Addr → Option Value} {F : List Nat} {v s : Value} {xs ys : List α}
    (h : OAcc w0 ety n O σ F v xs) (hs : RSl n Rel0 rd0 s ys) (hle : Le rd0 (Av.get w0 σ)) (hO : ∀ es y, Rel0 rd0 es y → O σ [] es y) (hlen : xs.length + ys.length ≤ 1000000000000) (hbytes : bytes ≤ 140) {K : Value → Vw → Prop}
    (hK : ∀ v' F' σ', KeepsBut F σ σ' → OAcc w0 ety n O σ' F' v' (xs ++ ys) → (∀ i, i ∈ F' → i ∈ F ∨ σ i = none) → K v' σ') : pAppendS w0 ety n bytes v s σ K :=
  OAcc.allX ok h hs hle hO hlen hbytes fun v' F' σ' _ => hK v' F' σ'
theorem OAcc.allOwn {ety n bytes : Nat} {Rel : (Addr → Option Value) → List Value → α → Prop} {O : Vw → List Nat → List Value → α → Prop} (ok : OOk w0 n Rel O) {F G : List Nat} {v s : Value} {xs ys : List α}
    (h : OAcc w0 ety n O σ F v xs) (hs : OSl w0 n O σ G s ys) (hGF : ∀ i, i ∈ G → i ∉ F) (hlen : xs.length + ys.length ≤ 1000000000000) (hbytes : bytes ≤ 140) {K : Value → Vw → Prop}
    (hK : ∀ v' F' σ', KeepsBut F σ σ' → OAcc w0 ety n O σ' F' v' (xs ++ ys) → (∀ i, i ∈ F' → i ∈ F ∨ i ∈ G ∨ σ i = none) → K v' σ') : pAppendS w0 ety n bytes v s σ K :=
  OAcc.allOwnX ok h hs hGF hlen hbytes fun v' F' σ' _ => hK v' F' σ'
end
end Go.Av

/- A part of a list that is read; slices of texts. -/
set_option linter.unusedVariables false
set_option linter.unusedSimpArgs false
namespace Go.Av
open Go Go.RowKit

section
variable {P : Program} {w0 : World} {σ σ' : Vw} {α : Type}

theorem RSl.slice {n : Nat} {R : (Addr → Option Value) → List Value → α → Prop} {rd : Addr → Option Value} {v : Value} {xs : List α} (h : RSl n R rd v xs) {lo hi : Option Value} {l u : Nat} (hl : boundOf 0 lo = some (l : Int)) (hu : boundOf xs.length hi = some (u : Int)) (hlu : l ≤ u) (hux : u ≤ xs.length) {K : Value → Prop}
    (hK : ∀ v', RSl n R rd v' ((xs.take u).drop l) → K v') : pSlice n v lo hi K := by
  obtain ⟨A, cap, rfl, h2, h3⟩ := h
  refine ⟨A, xs.length, cap, l, u, rfl, hl, hu, by omega, by omega, by omega, hK _ ?_⟩
  have hlen : ((xs.take u).drop l).length = u - l := by rw [List.length_drop, List.length_take]; omega
  simp only [Int.toNat_natCast]
  refine ⟨if cap = l then A else Option.map (fun x => x.add (l * n)) A, cap - l, by rw [hlen], by rw [hlen]; omega, fun j x hj => ?_⟩
  rw [List.getElem?_drop] at hj
  have hlt : l + j < u := by
    rcases Nat.lt_or_ge (l + j) u with h | h
    · exact h
    · rw [List.getElem?_eq_none (by rw [List.length_take]; omega)] at hj; cases hj
  rw [List.getElem?_take_of_lt hlt] at hj
  obtain ⟨a, es, rfl, g1, g2, g3⟩ := h3 _ x hj
  refine ⟨a.add (l * n), es, ?_, g1, fun i hi => ?_, g3⟩
  · rw [if_neg (by omega)]; rfl
  · rw [add_add, ← g2 i hi]
    congr 2
    rw [Nat.add_mul]; omega

/-- A field of an element is read. -/
theorem RSl.atp {n : Nat} {R : (Addr → Option Value) → List Value → α → Prop} {v : Value} {xs : List α} (h : RSl n R (Av.get w0 σ) v xs) {j : Nat} {x : α} (hj : xs[j]? = some x) {K : Value → (Nat → Value) → Prop} (hK : ∀ (p : Value) (g : Nat → Value), R (Av.get w0 σ) (expl g 0 n) x → K p g) :
    pIndexAddr n v (.int .i64 j) fun p => pLoad w0 n p σ (K p) := by
  have h' := h
  obtain ⟨A, cap, rfl, _, h3⟩ := h
  obtain ⟨a, es, rfl, h5, h6, h7⟩ := h3 j x hj
  have hlt : j < xs.length := (List.getElem?_eq_some_iff.1 hj).1
  refine ⟨a, xs.length, cap, .i64, j, rfl, rfl, by omega, by omega, a.add (j * n), fun i => es.getD i undef, rfl, fun i hi => ?_, hK _ _ ?_⟩
  · have := h6 i hi
    have hlt : i < es.length := by omega
    rw [add_add]
    show Av.get w0 σ (a.add (j * n + i)) = _
    rw [this, List.getElem?_eq_getElem hlt]
    simp only [List.getD_eq_getElem?_getD, List.getElem?_eq_getElem hlt, Option.getD_some]
  · have : expl (fun i => es.getD i undef) 0 n = es := by
      apply List.ext_getElem?
      intro i
      by_cases hi : i < n
      · rw [expl_get _ _ _ _ hi, Nat.zero_add, List.getD_eq_getElem?_getD]
        have hlt : i < es.length := by omega
        rw [List.getElem?_eq_getElem hlt]; rfl
      · rw [List.getElem?_eq_none (by rw [length_expl]; omega), List.getElem?_eq_none (by omega)]
    rw [this]; exact h7
theorem RSl.atfp {n : Nat} {R : (Addr → Option Value) → List Value → α → Prop} {v : Value} {xs : List α} (h : RSl n R (Av.get w0 σ) v xs) {j : Nat} {x : α} (hj : xs[j]? = some x) (o : Nat) (ho : o < n) {K : Value → (Nat → Value) → Prop} (hK : ∀ (q : Value) (es : List Value) (g : Nat → Value), R (Av.get w0 σ) es x → es[o]? = some (g 0) → K q g) :
    pIndexAddr n v (.int .i64 j) fun p => pField o p fun q => pLoad w0 1 q σ (K q) := by
  obtain ⟨A, cap, rfl, _, h3⟩ := h
  obtain ⟨a, es, rfl, h5, h6, h7⟩ := h3 j x hj
  have hlt : j < xs.length := (List.getElem?_eq_some_iff.1 hj).1
  refine ⟨a, xs.length, cap, .i64, j, rfl, rfl, by omega, by omega, a.add (j * n), rfl, (a.add (j * n)).add o, fun _ => es.getD o undef, rfl, fun i hi => ?_, hK _ es _ h7 ?_⟩
  · have e : i = 0 := by omega
    subst e
    have := h6 o ho
    rw [add_add, add_add, Nat.add_zero, this, List.getElem?_eq_getElem (by omega)]
    simp only [List.getD_eq_getElem?_getD, List.getElem?_eq_getElem (show o < es.length by omega), Option.getD_some]
  · simp only [List.getD_eq_getElem?_getD, List.getElem?_eq_getElem (show o < es.length by omega), Option.getD_some]

theorem RSl.atf {n : Nat} {R : (Addr → Option Value) → List Value → α → Prop} {v : Value} {xs : List α} (h : RSl n R (Av.get w0 σ) v xs) {j : Nat} {x : α} (hj : xs[j]? = some x) (o : Nat) (ho : o < n) {K : (Nat → Value) → Prop} (hK : ∀ (es : List Value) (g : Nat → Value), R (Av.get w0 σ) es x → es[o]? = some (g 0) → K g) :
    pIndexAddr n v (.int .i64 j) fun p => pField o p fun q => pLoad w0 1 q σ K :=
  h.atfp hj o ho fun q => hK

end
end Go.Av

/- Rows of our own: cells stored, an element taken out in place, the copy of two lists in any order. -/
set_option linter.unusedVariables false
set_option linter.unusedSimpArgs false
namespace Go.Av
open Go Go.RowKit

section
variable {P : Program} {w0 : World} {σ σ' : Vw} {α γ : Type}

theorem cell_store {b o : Nat} {r : Row} {A c C new : List Value} {K : Vw → Prop} (hr : σ b = some r) (hc : r.cells = A ++ (c ++ C)) (hA : A.length = o) (hl : c.length = new.length)
    (hK : K (σ.put b { r with cells := A ++ (new ++ C) })) : pStore (.pointer (some ⟨b, o, none⟩)) new σ K := by
  refine ⟨b, o, r, rfl, hr, by rw [hc]; simp only [List.length_append]; omega, ?_⟩
  rw [hc, ← hA, setAt_mid A c new C hl]
  exact hK

/-- An element of a list of our own is written, all its cells. -/
theorem OSl.store {n : Nat} {Rel : (Addr → Option Value) → List Value → α → Prop} {O : Vw → List Nat → List Value → α → Prop} (ok : OOk w0 n Rel O) {F : List Nat} {v : Value} {xs : List α} (h : OSl w0 n O σ F v xs) {j : Nat} {x y : α} {new : List Value} (hj : xs[j]? = some x)
    (hO : ∀ f c σ', O σ f c x → O σ' f new y) (hn : new.length = n) {K : Vw → Prop}
    (hK : ∀ σ', KeepsBut F σ σ' → OSl w0 n O σ' F v (xs.set j y) → K σ') : pIndexAddr n v (.int .i64 j) fun p => pStore p new σ K := by
  obtain ⟨b, o, f, c, A, C, r, hix, hb, hr, hc, hA, hOx, hbF, hf, hput⟩ := h.focus ok hj
  refine hix _ ?_
  have hcl := ok.len _ _ _ _ hOx
  refine cell_store hr hc hA (by rw [hcl, hn]) ?_
  exact hK _ (KeepsBut.put hbF) (hput _ new y _ put_at rfl (hO _ _ _ hOx) fun i hi hne _ => by simp [Vw.put, hne])

theorem fresh_in {F F' : List Nat} {σ s : Vw} (k : Keeps σ s) (hF : ∀ i, i ∈ F → σ i = none) (h : ∀ i, i ∈ F' → i ∈ F ∨ s i = none) : ∀ i, i ∈ F' → σ i = none := fun i hi => by
  rcases h i hi with e | e
  · exact hF i e
  · cases hs : σ i with
    | none => rfl
    | some r => rw [k i r hs] at e; cases e
theorem KeepsBut.dom {F : List Nat} {σ σ' : Vw} (k : KeepsBut F σ σ') {i : Nat} (h : σ i ≠ none) (hF : i ∉ F) : σ' i ≠ none := by
  cases hs : σ i with
  | none => exact absurd hs h
  | some r => rw [k i r hs hF]; simp

/-! ### An element is taken out, in place -/
def VDel (P : Program) (w0 : World) (T ety n bytes : Nat) (z : List Value) (a0 a1 a2 : Value) (σ : Vw) (R : Value → Vw → Prop) : Prop :=
  pLen a0 (fun v0 => pSlice3 n a0 (some a1) (some a2) (some v0) (fun v1 => pBin P T .eql a1 a2 (fun v2 => pIf v2 (R a0 σ) (pLen a0 (fun v3 => pSlice n a0 none (some a1) (fun v4 => pSlice n a0 (some a2) none (fun v5 => pAppendS w0 ety n bytes v4 v5 σ (fun v6 s7 => pLen v6 (fun v8 => pSlice n v6 (some v8) (some v3) (fun v9 => pClear n z v9 s7 (fun s10 => R v6 s10)))))))))))

theorem del_row {T ety n bytes b off cap j : Nat} {z : List Value} {r : Row} {pre post : List Value} {css : List (List Value)} (hz : z.length = n) (hz1 : ∀ c, c ∈ z → c.oneCell' = true) (hb : w0.heap.size ≤ b) (hr : σ b = some r) (hc : r.cells = pre ++ (css.flatten ++ post)) (hpre : pre.length = off)
    (hn : ∀ c, c ∈ css → c.length = n) (h1 : ∀ c, c ∈ css → ∀ u, u ∈ c → u.oneCell' = true) (hn0 : 0 < n) (hcap : css.length ≤ cap ∧ cap ≤ 9223372036854775807) (hj : j < css.length) {R : Value → Vw → Prop}
    (hR : R (.slice (some ⟨b, off, none⟩) (css.length - 1) cap) (σ.put b { r with cells := pre ++ ((css.take j ++ css.drop (j + 1)).flatten ++ (z ++ post)) })) :
    VDel P w0 T ety n bytes z (.slice (some ⟨b, off, none⟩) css.length cap) (.int .i64 (j : Nat)) (.int .i64 ((j : Int) + 1)) σ R := by
  obtain ⟨m, hm⟩ : ∃ m, css.length = j + 1 + m := ⟨css.length - (j + 1), by omega⟩
  have hcj := List.getElem?_eq_getElem hj
  have htl : ∀ c, c ∈ css.take j → c.length = n := fun c hc => hn c (List.mem_of_mem_take hc)
  have hdl : ∀ c, c ∈ css.drop (j + 1) → c.length = n := fun c hc => hn c (List.mem_of_mem_drop hc)
  have hfl := split_at hcj
  have hcl := hn _ (List.getElem_mem hj)
  have htlen : (css.take j).flatten.length = j * n := by rw [flat_len _ htl, List.length_take, Nat.min_eq_left (by omega)]
  have hdlen : (css.drop (j + 1)).flatten.length = m * n := by rw [flat_len _ hdl, List.length_drop]; congr 1; omega
  unfold VDel
  rw [pLen_s]
  refine ⟨some ⟨b, off, none⟩, css.length, cap, (j : Int), (j : Int) + 1, (css.length : Int), rfl, rfl, rfl, rfl, rfl, rfl, by omega, by omega, by omega, by omega, ?_⟩
  rw [pBin_eq, pIf_d]
  refine ⟨fun h => by omega, fun _ => ?_⟩
  rw [pLen_s]
  refine ⟨some ⟨b, off, none⟩, css.length, cap, 0, (j : Int), rfl, rfl, rfl, by omega, by omega, by omega, ?_⟩
  refine ⟨some ⟨b, off, none⟩, css.length, cap, (j : Int) + 1, (css.length : Int), rfl, rfl, rfl, by omega, by omega, by omega, ?_⟩
  have e0 : (if cap = (0 : Int).toNat then some (Addr.mk b off none) else (some (Addr.mk b off none)).map (·.add ((0 : Int).toNat * n))) = some (Addr.mk b off none) := by
    split
    · rfl
    · simp [Addr.add]
  rw [e0]
  simp only [Int.toNat_natCast, Int.toNat_zero, Nat.sub_zero]
  have ej : ((j : Int) + 1).toNat = j + 1 := by omega
  rw [ej]
  have hcells : r.cells = (pre ++ (css.take j).flatten) ++ ((css[j] ++ (css.drop (j + 1)).flatten) ++ post) := by rw [hc, hfl]; simp
  -- what is moved
  refine ⟨_, css.length - (j + 1), cap - (j + 1), (css.drop (j + 1)).flatten, rfl, by rw [hdlen]; congr 1; omega, fun u hu => ?_, fun i hi => ?_, .inl ⟨b, off, j, cap, r, rfl, hr, by omega, by rw [hdlen]; congr 1; omega, fun u hu => ?_, ?_, ?_⟩⟩
  · obtain ⟨c, hc1, hc2⟩ := List.mem_flatten.1 hu
    exact h1 c (List.mem_of_mem_drop hc1) u hc2
  · have hi' : i < m * n := by rw [← hdlen]; exact hi
    have hcapne : ¬ cap = j + 1 := fun e => by
      have : m = 0 := by omega
      subst this; omega
    refine ⟨_, by rw [if_neg hcapne]; rfl, ?_⟩
    rw [add_add, addr_add, get_row hb hr, hc, ← List.getElem?_eq_getElem hi]
    rw [List.getElem?_append_right (by omega), hpre]
    have e2 : off + ((j + 1) * n + i) - off = (j + 1) * n + i := by omega
    have hlt : (j + 1) * n + i < css.flatten.length := by
      rw [flat_len _ hn, hm, Nat.add_mul (j + 1)]; omega
    rw [e2, List.getElem?_append_left hlt]
    have h3 : css.flatten = (css.take (j + 1)).flatten ++ (css.drop (j + 1)).flatten := by rw [← List.flatten_append, List.take_append_drop]
    have h4 : (css.take (j + 1)).flatten.length = (j + 1) * n := by
      rw [flat_len _ fun c hc => hn c (List.mem_of_mem_take hc), List.length_take, Nat.min_eq_left (by omega)]
    rw [h3, List.getElem?_append_right (by omega), h4]
    congr 1; omega
  · obtain ⟨c, hc1, hc2⟩ := List.mem_flatten.1 hu
    exact h1 c (List.mem_of_mem_drop hc1) u hc2
  · rw [hcells]; simp only [List.length_append]; omega
  · -- the cells behind it
    generalize hDe : (css.drop (j + 1)).flatten = D at *
    generalize hTe : (css.take j).flatten = T' at *
    generalize hce : css[j] = cj at *
    have hB : (cj ++ D).length = n + m * n := by rw [List.length_append, hcl, hdlen]
    have hsplit : cj ++ D = (cj ++ D).take (m * n) ++ (cj ++ D).drop (m * n) := (List.take_append_drop _ _).symm
    have hold : ((cj ++ D).take (m * n)).length = D.length := by rw [List.length_take, hB, hdlen]; omega
    have hlast : ((cj ++ D).drop (m * n)).length = n := by rw [List.length_drop, hB]; omega
    have hset : setAt r.cells (off + j * n) D = (pre ++ T') ++ (D ++ ((cj ++ D).drop (m * n) ++ post)) := by
      have hA : (pre ++ T').length = off + j * n := by rw [List.length_append, hpre, htlen]
      have hcells2 : r.cells = (pre ++ T') ++ ((cj ++ D).take (m * n) ++ ((cj ++ D).drop (m * n) ++ post)) := by
        rw [hcells, ← List.append_assoc ((cj ++ D).take (m * n)), List.take_append_drop]
      rw [hcells2, ← hA, setAt_mid _ _ _ _ hold]
    rw [hset]
    have e3 : j + (css.length - (j + 1)) = css.length - 1 := by omega
    rw [e3, pLen_s]
    refine ⟨some ⟨b, off, none⟩, css.length - 1, cap, ((css.length - 1 : Nat) : Int), (css.length : Int), rfl, rfl, rfl, by omega, by omega, by omega, ?_⟩
    simp only [Int.toNat_natCast]
    have e4 : css.length - (css.length - 1) = 1 := by omega
    have hcapne : ¬ cap = css.length - 1 := by omega
    rw [e4, if_neg hcapne]
    refine ⟨hz, hz1, _, 1, cap - (css.length - 1), rfl, .inr ⟨b, off + (css.length - 1) * n, _, by simp [addr_add], by omega, put_at, ?_, ?_⟩⟩
    · simp only [List.length_append, hpre, htlen, hdlen, hlast]
      have : (css.length - 1) * n = j * n + m * n := by rw [← Nat.add_mul]; congr 1; omega
      omega
    · have e5 : (List.replicate 1 z).flatten = z := by simp
      have hA2 : (pre ++ T' ++ D).length = off + (css.length - 1) * n := by
        simp only [List.length_append, hpre, htlen, hdlen]
        have : (css.length - 1) * n = j * n + m * n := by rw [← Nat.add_mul]; congr 1; omega
        omega
      simp only
      rw [e5]
      have e6 : (pre ++ T') ++ (D ++ ((cj ++ D).drop (m * n) ++ post)) = (pre ++ T' ++ D) ++ ((cj ++ D).drop (m * n) ++ post) := by simp
      rw [e6, ← hA2, setAt_mid _ _ _ _ (by rw [hlast, hz]), put_put]
      have e7 : (pre ++ T' ++ D) ++ (z ++ post) = pre ++ ((css.take j ++ css.drop (j + 1)).flatten ++ (z ++ post)) := by
        rw [List.flatten_append, hTe, hDe]; simp
      rw [e7]
      exact hR

/-- An element of a list of our own is taken out: what is read then. -/
theorem OSl.del {T ety n bytes j : Nat} {z : List Value} {Rel : (Addr → Option Value) → List Value → α → Prop} {O : Vw → List Nat → List Value → α → Prop} (ok : OOk w0 n Rel O) (hO : ∀ s s' f es y, O s f es y → f = [] ∧ O s' f es y) (hz : z.length = n) (hz1 : ∀ c, c ∈ z → c.oneCell' = true) (hn0 : 0 < n) {F : List Nat} {v : Value} {xs : List α}
    (h : OSl w0 n O σ F v xs) (hj : j < xs.length) {R : Value → Vw → Prop} (hR : ∀ v' σ', KeepsBut F σ σ' → RSl n Rel (Av.get w0 σ') v' (xs.take j ++ xs.drop (j + 1)) → R v' σ') : VDel P w0 T ety n bytes z v (.int .i64 (j : Nat)) (.int .i64 ((j : Int) + 1)) σ R := by
  obtain ⟨g1, g2, ⟨rfl, rfl, _⟩ | ⟨b, off, cap, r, pre, post, css, Fs, rfl, gc, g3, g4, g5, g6, g7, g8, g9, g10⟩⟩ := h
  · simp at hj
  · have each : ∀ (i : Nat) (c : List Value), css[i]? = some c → ∃ x f, xs[i]? = some x ∧ O σ f c x := fun i c hi => by
      have hlt : i < css.length := (List.getElem?_eq_some_iff.1 hi).1
      exact ⟨_, _, List.getElem?_eq_getElem (by omega), g10 i c _ _ hi (List.getElem?_eq_getElem (by omega)) (List.getElem?_eq_getElem (by omega))⟩
    have hn : ∀ c, c ∈ css → c.length = n := fun c hc => by obtain ⟨i, hi⟩ := List.getElem?_of_mem hc; obtain ⟨x, f, _, ho⟩ := each i c hi; exact ok.len _ _ _ _ ho
    have h1 : ∀ c, c ∈ css → ∀ u, u ∈ c → u.oneCell' = true := fun c hc => by obtain ⟨i, hi⟩ := List.getElem?_of_mem hc; obtain ⟨x, f, _, ho⟩ := each i c hi; exact ok.one _ _ _ _ ho
    rw [← g7]
    refine del_row hz hz1 g3 g4 g5 g6 hn h1 hn0 (by rw [g7]; exact gc) (by omega) (hR _ _ (KeepsBut.put (by rw [g9]; exact List.mem_cons_self)) ?_)
    have hlen : (xs.take j ++ xs.drop (j + 1)).length = css.length - 1 := by simp only [List.length_append, List.length_take, List.length_drop]; omega
    refine ⟨_, cap, by rw [hlen], by rw [hlen]; omega, fun i x hi => ?_⟩
    -- the cells of the element
    have hget : ∃ c f, (css.take j ++ css.drop (j + 1))[i]? = some c ∧ O σ f c x := by
      by_cases hij : i < j
      · rw [List.getElem?_append_left (by rw [List.length_take]; omega), List.getElem?_take_of_lt hij] at hi
        refine ⟨css[i]'(by omega), _, ?_, g10 i _ x _ (List.getElem?_eq_getElem (by omega)) hi (List.getElem?_eq_getElem (by omega))⟩
        rw [List.getElem?_append_left (by rw [List.length_take]; omega), List.getElem?_take_of_lt hij]
        exact List.getElem?_eq_getElem (by omega)
      · rw [List.getElem?_append_right (by rw [List.length_take]; omega), List.getElem?_drop, List.length_take, Nat.min_eq_left (by omega)] at hi
        have hlt : j + 1 + (i - j) < xs.length := (List.getElem?_eq_some_iff.1 hi).1
        refine ⟨css[j + 1 + (i - j)]'(by omega), _, ?_, g10 _ _ x _ (List.getElem?_eq_getElem (by omega)) hi (List.getElem?_eq_getElem (by omega))⟩
        rw [List.getElem?_append_right (by rw [List.length_take]; omega), List.getElem?_drop, List.length_take, Nat.min_eq_left (by omega)]
        exact List.getElem?_eq_getElem (by omega)
    obtain ⟨c, f, hci, ho⟩ := hget
    have hn' : ∀ c, c ∈ css.take j ++ css.drop (j + 1) → c.length = n := fun c hc => by
      rcases List.mem_append.1 hc with h | h
      · exact hn c (List.mem_of_mem_take h)
      · exact hn c (List.mem_of_mem_drop h)
    obtain ⟨rfl, ho'⟩ := hO σ (σ.put b { r with cells := pre ++ ((css.take j ++ css.drop (j + 1)).flatten ++ (z ++ post)) }) f c x ho
    refine ⟨_, c, rfl, ok.len _ _ _ _ ho, fun k hk => ?_, ok.rel _ _ _ _ ho'⟩
    rw [addr_add, get_row g3 put_at]
    simp only
    rw [List.getElem?_append_right (by omega), show off + (i * n + k) - pre.length = i * n + k by omega, List.getElem?_append_left, flat_get _ hn' i c hci k hk]
    have hil : i < (css.take j ++ css.drop (j + 1)).length := (List.getElem?_eq_some_iff.1 hci).1
    rw [flat_len _ hn']
    calc i * n + k < i * n + n := by omega
      _ = (i + 1) * n := by rw [Nat.add_mul, Nat.one_mul]
      _ ≤ (css.take j ++ css.drop (j + 1)).length * n := Nat.mul_le_mul_right n hil
end
end Go.Av

/- What each function owes, reckoned out. MADE BY PROGRAM (emit.py). -/
set_option linter.unusedVariables false
namespace Go.Proofs.Ytkbhjejalkbogaa
open Go Go.Av

abbrev t_int : Nat := 3
abbrev t_uint8 : Nat := 5
abbrev t_string : Nat := 9
abbrev t_s_uint8 : Nat := 22
abbrev t_impl_Tree : Nat := 26
abbrev t_p_impl_Tree : Nat := 69
abbrev t_impl_Entry : Nat := 94
abbrev n_laws_FnDiffNone : Nat := 6
abbrev n_laws_wtTexts : Nat := 15
abbrev n_laws_wtTree : Nat := 16
abbrev n_spec_TreeOk : Nat := 19
abbrev n_spec_DrawDiffWalk : Nat := 31
abbrev n_impl_DiffWalk : Nat := 32
abbrev n_laws_wtEntries : Nat := 33
abbrev n_spec_DiffWalk : Nat := 34
abbrev n_spec_l1Open : Nat := 35
abbrev n_spec_l4Any : Nat := 36
abbrev n_spec_l4Path : Nat := 37
abbrev n_p_spec_l1Rd_pick : Nat := 38
abbrev n_impl_TreeOk : Nat := 39
abbrev n_spec_l1At : Nat := 41
abbrev n_spec_l1Copy : Nat := 44
abbrev n_impl_Tree_paths : Nat := 45
abbrev n_spec_l1Count : Nat := 46
abbrev n_spec_l1Parts : Nat := 47
abbrev n_spec_l4Calls : Nat := 63
abbrev n_impl_walk : Nat := 64
abbrev n_spec_l3Walk : Nat := 65
abbrev n_spec_l4Spoil : Nat := 66
abbrev n_spec_l4Tree : Nat := 67
abbrev n_spec_l4Full : Nat := 68
abbrev n_spec_l4Name : Nat := 69
abbrev n_spec_l1Find : Nat := 70
abbrev n_impl_Tree_sound : Nat := 71
abbrev n_p_impl_Tree_kid : Nat := 72
abbrev n_spec_l1Plain : Nat := 73
abbrev n_spec_l2Within : Nat := 76
abbrev n_impl_either : Nat := 82
abbrev n_spec_l3Path : Nat := 84
abbrev n_impl_below : Nat := 86
abbrev n_spec_TreeDo : Nat := 87
abbrev n_spec_l4Call : Nat := 88
abbrev n_impl_fresh : Nat := 89
abbrev n_impl_gone : Nat := 90
abbrev n_impl_changes : Nat := 91
abbrev n_spec_l3Gone : Nat := 92
abbrev n_spec_l3New : Nat := 93
abbrev n_spec_l3Part : Nat := 94
abbrev n_p_spec_l1Rd_of : Nat := 95
abbrev n_spec_l1Many : Nat := 96
abbrev n_spec_l1Dec : Nat := 97
abbrev n_spec_l4Data : Nat := 98
abbrev n_impl_modeOk : Nat := 99
abbrev n_impl_nameOk : Nat := 100
abbrev n_slices_Index_string_string : Nat := 101
abbrev n_spec_l1In : Nat := 102
abbrev n_spec_l1NameOk : Nat := 103
abbrev n_spec_l2PathOk : Nat := 104
abbrev n_slices_Sort_string_string : Nat := 108
abbrev n_slices_Compact_string_string : Nat := 109
abbrev n_spec_l2CallOk : Nat := 114
abbrev n_spec_l2Do : Nat := 115
abbrev n_impl_Tree_each : Nat := 116
abbrev n_impl_fresh_c1 : Nat := 117
abbrev n_impl_within : Nat := 118
abbrev n_spec_l2Parent : Nat := 123
abbrev n_spec_l2Fits : Nat := 124
abbrev n_spec_l2Set : Nat := 125
abbrev n_spec_l2File : Nat := 126
abbrev n_spec_l2Rename : Nat := 127
abbrev n_spec_l2Write : Nat := 139
theorem is_slices_Sort_string_string : ∃ fn, Try.prog.funcs[n_slices_Sort_string_string]? = some fn ∧ (fn.name == "runtime.NumGoroutine") = false ∧ fn.body.isNone = false := ⟨Try.f108, Try.func108, by kernel_rfl, by kernel_rfl⟩
theorem is_slices_Compact_string_string : ∃ fn, Try.prog.funcs[n_slices_Compact_string_string]? = some fn ∧ (fn.name == "runtime.NumGoroutine") = false ∧ fn.body.isNone = false := ⟨Try.f109, Try.func109, by kernel_rfl, by kernel_rfl⟩
end Go.Proofs.Ytkbhjejalkbogaa

/- What each function owes, reckoned out, part 1. MADE BY PROGRAM (emit.py). -/
set_option linter.unusedVariables false
namespace Go.Proofs.Ytkbhjejalkbogaa
open Go Go.Av

/-- laws.FnDiffNone -/
def kp_laws_FnDiffNone : Nat → Keep
  | _ => ⟨[], [], [], .done, []⟩
def esc_laws_FnDiffNone : Nat → Bool
  | _ => false
def vc_laws_FnDiffNone (w0 : World) (a0 : Value) (σ : Vw) (R : Value → Vw → Prop) : Prop :=
  pLen a0 (fun v0 => pBin Try.prog 3 BinOp.gtr v0 (Value.int IntKind.i64 1048576) (fun v1 => pIf v1 (R (Value.bool true) σ) (AC Try.prog w0 n_spec_DrawDiffWalk [a0] σ (fun v2 s3 => pExtract v2 0 (fun v4 => pExtract v2 1 (fun v5 => pVal true 5 v4 (pVal true 5 v5 (AC Try.prog w0 n_impl_DiffWalk ([Value.agg (⟨[cellOf v4 0, cellOf v4 1, cellOf v4 2, cellOf v4 3, cellOf v4 4]⟩), Value.agg (⟨[cellOf v5 0, cellOf v5 1, cellOf v5 2, cellOf v5 3, cellOf v5 4]⟩)]) s3 (fun v6 s7 => AC Try.prog w0 n_spec_DiffWalk ([Value.agg (⟨[cellOf v4 0, cellOf v4 1, cellOf v4 2, cellOf v4 3, cellOf v4 4]⟩), Value.agg (⟨[cellOf v5 0, cellOf v5 1, cellOf v5 2, cellOf v5 3, cellOf v5 4]⟩)]) s7 (fun v8 s9 => AC Try.prog w0 n_laws_wtEntries [v6, v8] s9 (fun v10 s11 => pUn UnOp.not v10 (fun v12 => pIf v12 (R (Value.bool false) s11) (AC Try.prog w0 n_spec_TreeOk ([Value.agg (⟨[cellOf v4 0, cellOf v4 1, cellOf v4 2, cellOf v4 3, cellOf v4 4]⟩)]) s11 (fun v13 s14 => pUn UnOp.not v13 (fun v15 => pIf v15 (R (Value.bool true) s14) (AC Try.prog w0 n_spec_TreeOk ([Value.agg (⟨[cellOf v5 0, cellOf v5 1, cellOf v5 2, cellOf v5 3, cellOf v5 4]⟩)]) s14 (fun v16 s17 => pUn UnOp.not v16 (fun v18 => pIf v18 (R (Value.bool true) s17) (pLen v6 (fun v19 => pBin Try.prog 3 BinOp.eql v19 (Value.int IntKind.i64 0) (fun v20 => AC Try.prog w0 n_laws_wtTree ([Value.agg (⟨[cellOf v4 0, cellOf v4 1, cellOf v4 2, cellOf v4 3, cellOf v4 4]⟩), Value.agg (⟨[cellOf v5 0, cellOf v5 1, cellOf v5 2, cellOf v5 3, cellOf v5 4]⟩)]) s17 (fun v21 s22 => pBin Try.prog 4 BinOp.eql v20 v21 (fun v23 => pIf v23 (AC Try.prog w0 n_impl_DiffWalk ([Value.agg (⟨[cellOf v4 0, cellOf v4 1, cellOf v4 2, cellOf v4 3, cellOf v4 4]⟩), Value.agg (⟨[cellOf v4 0, cellOf v4 1, cellOf v4 2, cellOf v4 3, cellOf v4 4]⟩)]) s22 (fun v24 s25 => pLen v24 (fun v26 => pBin Try.prog 3 BinOp.eql v26 (Value.int IntKind.i64 0) (fun v27 => R v27 s25)))) (R (Value.bool false) s22))))))))))))))))))))))))
theorem vc_laws_FnDiffNone_eq (w0 : World) (a0 : Value) (σ : Vw) (R : Value → Vw → Prop) : vc_laws_FnDiffNone w0 a0 σ R = den Try.prog w0 kp_laws_FnDiffNone esc_laws_FnDiffNone (Try.f6.body.getD .skip) (entry Try.f6.ntmps [a0]) σ (retK Try.prog Try.f6.results.toList R) := by kernel_rfl
theorem ac_laws_FnDiffNone {w0 : World} {a0 : Value} {σ : Vw} {R : Value → Vw → Prop} (h : vc_laws_FnDiffNone w0 a0 σ R) : AC Try.prog w0 n_laws_FnDiffNone [a0] σ R := by
  refine ac_rule (fn := Try.f6) (c := Try.f6.body.getD .skip) kp_laws_FnDiffNone esc_laws_FnDiffNone Try.func6 (by kernel_rfl) (by kernel_rfl) ?_
  rw [← vc_laws_FnDiffNone_eq]
  exact h

/-- laws.wtTexts -/
def kp_laws_wtTexts : Nat → Keep
  | 4 => ⟨[0, 1, 4, 5], [], [], .done, []⟩
  | 6 => ⟨[], [], [], .step 0 (.step 1 (.step 2 (.step 3 (.step 4 (.step 5 (.step 6 (.step 7 (.step 8 (.done))))))))), [(2, [0, 1]), (3, [0, 1, 2]), (6, [4, 5]), (7, [4, 5, 6]), (8, [0, 1, 2, 3, 4, 5, 6, 7])]⟩
  | _ => ⟨[], [], [], .done, []⟩
def esc_laws_wtTexts : Nat → Bool
  | _ => false
def vc_laws_wtTexts (w0 : World) (a0 a1 : Value) (σ : Vw) (R : Value → Vw → Prop) : Prop :=
  pLen a0 (fun v0 => pLen a1 (fun v1 => pBin Try.prog 3 BinOp.neq v0 v1 (fun v2 => pIf v2 (R (Value.bool false) σ) (pLoop (fun l3 K4 s5 => pLen (vget l3 0) (fun v6 => pBin Try.prog 3 BinOp.lss (vget l3 3) v6 (fun v7 => pIf v7 (pIndexAddr 1 (vget l3 0) (vget l3 3) (fun v8 => pLoad w0 1 v8 s5 (fun g9 => pIndexAddr 1 (vget l3 1) (vget l3 3) (fun v10 => pLoad w0 1 v10 s5 (fun g11 => pBin Try.prog 9 BinOp.neq (g9 0) (g11 0) (fun v12 => pIf v12 (K4 AX.ret [vget l3 0, vget l3 1, Value.bool false, vget l3 3] s5) (pBin Try.prog 3 BinOp.add (vget l3 3) (Value.int IntKind.i64 1) (fun v13 => K4 AX.normal [vget l3 0, vget l3 1, vget l3 2, v13] s5)))))))) (K4 (AX.exit 0) [vget l3 0, vget l3 1, vget l3 2, vget l3 3] s5)))) [a0, a1, Value.bool false, Value.int IntKind.i64 0] σ (fun x14 l15 s16 => match x14 with | .normal => R (Value.bool true) s16 | .ret => R (vget l15 2) s16 | .exit i17 => (match Nat.beq i17 0 with | true => R (Value.bool true) s16 | false => False))))))
theorem vc_laws_wtTexts_eq (w0 : World) (a0 a1 : Value) (σ : Vw) (R : Value → Vw → Prop) : vc_laws_wtTexts w0 a0 a1 σ R = den Try.prog w0 kp_laws_wtTexts esc_laws_wtTexts (Try.f15.body.getD .skip) (entry Try.f15.ntmps [a0, a1]) σ (retK Try.prog Try.f15.results.toList R) := by kernel_rfl
theorem ac_laws_wtTexts {w0 : World} {a0 a1 : Value} {σ : Vw} {R : Value → Vw → Prop} (h : vc_laws_wtTexts w0 a0 a1 σ R) : AC Try.prog w0 n_laws_wtTexts [a0, a1] σ R := by
  refine ac_rule (fn := Try.f15) (c := Try.f15.body.getD .skip) kp_laws_wtTexts esc_laws_wtTexts Try.func15 (by kernel_rfl) (by kernel_rfl) ?_
  rw [← vc_laws_wtTexts_eq]
  exact h

/-- laws.wtTree -/
def kp_laws_wtTree : Nat → Keep
  | 4 => ⟨[4, 5], [(2, 5), (3, 5)], [2, 3], .done, []⟩
  | 6 => ⟨[], [], [], .step 0 (.step 1 (.step 2 (.step 3 (.step 4 (.step 5 (.step 6 (.step 7 (.step 8 (.step 9 (.step 10 (.step 11 (.done)))))))))))), [(1, [0]), (3, [0, 1, 2]), (4, [0, 1, 2, 3]), (6, [5]), (8, [5, 6, 7]), (9, [5, 6, 7, 8]), (10, [0, 1, 2, 3, 4, 5, 6, 7, 8, 9]), (11, [0, 1, 2, 3, 4, 5, 6, 7, 8, 9, 10])]⟩
  | _ => ⟨[], [], [], .done, []⟩
def esc_laws_wtTree : Nat → Bool
  | _ => false
def vc_laws_wtTree (w0 : World) (a0 a1 : Value) (σ : Vw) (R : Value → Vw → Prop) : Prop :=
  pVal true 5 a0 (pVal true 5 a1 (pBin Try.prog 4 BinOp.neq (cellOf a0 0) (cellOf a1 0) (fun v0 => pIf v0 (R (Value.bool false) σ) (pBin Try.prog 3 BinOp.neq (cellOf a0 1) (cellOf a1 1) (fun v1 => pIf v1 (R (Value.bool false) σ) (pBin Try.prog 9 BinOp.neq (cellOf a0 2) (cellOf a1 2) (fun v2 => pIf v2 (R (Value.bool false) σ) (AC Try.prog w0 n_laws_wtTexts [cellOf a0 3, cellOf a1 3] σ (fun v3 s4 => pUn UnOp.not v3 (fun v5 => pIf v5 (R (Value.bool false) s4) (pLen (cellOf a0 4) (fun v6 => pLen (cellOf a1 4) (fun v7 => pBin Try.prog 3 BinOp.neq v6 v7 (fun v8 => pIf v8 (R (Value.bool false) s4) (pLoop (fun l9 K10 s11 => pLen (vget l9 6) (fun v12 => pBin Try.prog 3 BinOp.lss (vget l9 1) v12 (fun v13 => pIf v13 (pIndexAddr 5 (vget l9 6) (vget l9 1) (fun v14 => pLoad w0 5 v14 s11 (fun g15 => pIndexAddr 5 (vget l9 11) (vget l9 1) (fun v16 => pLoad w0 5 v16 s11 (fun g17 => AC Try.prog w0 n_laws_wtTree ([Value.agg (⟨[g15 0, g15 1, g15 2, g15 3, g15 4]⟩), Value.agg (⟨[g17 0, g17 1, g17 2, g17 3, g17 4]⟩)]) s11 (fun v18 s19 => pUn UnOp.not v18 (fun v20 => pIf v20 (K10 AX.ret [Value.bool false, vget l9 1, vget l9 2, vget l9 3, vget l9 4, vget l9 5, vget l9 6, vget l9 7, vget l9 8, vget l9 9, vget l9 10, vget l9 11] s19) (pBin Try.prog 3 BinOp.add (vget l9 1) (Value.int IntKind.i64 1) (fun v21 => K10 AX.normal [vget l9 0, v21, vget l9 2, vget l9 3, vget l9 4, vget l9 5, vget l9 6, vget l9 7, vget l9 8, vget l9 9, vget l9 10, vget l9 11] s19))))))))) (K10 (AX.exit 0) [vget l9 0, vget l9 1, vget l9 2, vget l9 3, vget l9 4, vget l9 5, vget l9 6, vget l9 7, vget l9 8, vget l9 9, vget l9 10, vget l9 11] s11)))) [Value.bool false, Value.int IntKind.i64 0, cellOf a0 0, cellOf a0 1, cellOf a0 2, cellOf a0 3, cellOf a0 4, cellOf a1 0, cellOf a1 1, cellOf a1 2, cellOf a1 3, cellOf a1 4] s4 (fun x22 l23 s24 => match x22 with | .normal => R (Value.bool true) s24 | .ret => R (vget l23 0) s24 | .exit i25 => (match Nat.beq i25 0 with | true => R (Value.bool true) s24 | false => False)))))))))))))))))
theorem vc_laws_wtTree_eq (w0 : World) (a0 a1 : Value) (σ : Vw) (R : Value → Vw → Prop) : vc_laws_wtTree w0 a0 a1 σ R = den Try.prog w0 kp_laws_wtTree esc_laws_wtTree (Try.f16.body.getD .skip) (entry Try.f16.ntmps [a0, a1]) σ (retK Try.prog Try.f16.results.toList R) := by kernel_rfl
theorem ac_laws_wtTree {w0 : World} {a0 a1 : Value} {σ : Vw} {R : Value → Vw → Prop} (h : vc_laws_wtTree w0 a0 a1 σ R) : AC Try.prog w0 n_laws_wtTree [a0, a1] σ R := by
  refine ac_rule (fn := Try.f16) (c := Try.f16.body.getD .skip) kp_laws_wtTree esc_laws_wtTree Try.func16 (by kernel_rfl) (by kernel_rfl) ?_
  rw [← vc_laws_wtTree_eq]
  exact h

/-- spec.TreeOk -/
def kp_spec_TreeOk : Nat → Keep
  | _ => ⟨[], [], [], .done, []⟩
def esc_spec_TreeOk : Nat → Bool
  | _ => false
def vc_spec_TreeOk (w0 : World) (a0 : Value) (σ : Vw) (R : Value → Vw → Prop) : Prop :=
  pVal true 5 a0 (pIf (cellOf a0 0) (AC Try.prog w0 n_spec_l1Parts ([Value.agg (⟨[cellOf a0 0, cellOf a0 1, cellOf a0 2, cellOf a0 3, cellOf a0 4]⟩), Value.int IntKind.i64 0]) σ (fun v0 s1 => pIf v0 (AC Try.prog w0 n_spec_l1Count ([Value.agg (⟨[cellOf a0 0, cellOf a0 1, cellOf a0 2, cellOf a0 3, cellOf a0 4]⟩)]) s1 (fun v2 s3 => pBin Try.prog 3 BinOp.leq v2 (Value.int IntKind.i64 30) (fun v4 => R v4 s3))) (R (Value.bool false) s1))) (R (Value.bool false) σ))
theorem vc_spec_TreeOk_eq (w0 : World) (a0 : Value) (σ : Vw) (R : Value → Vw → Prop) : vc_spec_TreeOk w0 a0 σ R = den Try.prog w0 kp_spec_TreeOk esc_spec_TreeOk (Try.f19.body.getD .skip) (entry Try.f19.ntmps [a0]) σ (retK Try.prog Try.f19.results.toList R) := by kernel_rfl
theorem ac_spec_TreeOk {w0 : World} {a0 : Value} {σ : Vw} {R : Value → Vw → Prop} (h : vc_spec_TreeOk w0 a0 σ R) : AC Try.prog w0 n_spec_TreeOk [a0] σ R := by
  refine ac_rule (fn := Try.f19) (c := Try.f19.body.getD .skip) kp_spec_TreeOk esc_spec_TreeOk Try.func19 (by kernel_rfl) (by kernel_rfl) ?_
  rw [← vc_spec_TreeOk_eq]
  exact h

/-- spec.DrawDiffWalk -/
def kp_spec_DrawDiffWalk : Nat → Keep
  | 4 => ⟨[], [], [], .step 0 (.step 1 (.step 2 (.step 3 (.step 4 (.done))))), [(2, [1]), (3, [0, 1, 2]), (4, [0, 1, 2, 3])]⟩
  | 5 => ⟨[], [], [], .step 0 (.step 1 (.step 2 (.step 3 (.step 4 (.step 5 (.step 6 (.step 7 (.done)))))))), [(4, [3]), (5, [1, 2, 3, 4]), (6, [0, 1, 2, 3, 4, 5]), (7, [0, 1, 2, 3, 4, 5, 6])]⟩
  | _ => ⟨[], [], [], .done, []⟩
def esc_spec_DrawDiffWalk : Nat → Bool
  | _ => false
def vc_spec_DrawDiffWalk (w0 : World) (a0 : Value) (σ : Vw) (R : Value → Vw → Prop) : Prop :=
  AC Try.prog w0 n_spec_l1Open [a0] σ (fun v0 s1 => AC Try.prog w0 n_spec_l4Any [v0] s1 (fun v2 s3 => pVal true 5 v2 (AC Try.prog w0 n_p_spec_l1Rd_pick [v0, Value.int IntKind.i64 6] s3 (fun v4 s5 => pBin Try.prog 3 BinOp.eql v4 (Value.int IntKind.i64 0) (fun v6 => pIf v6 (AC Try.prog w0 n_spec_l4Any [v0] s5 (fun v7 s8 => pVal true 5 (Value.agg (⟨[cellOf v2 0, cellOf v2 1, cellOf v2 2, cellOf v2 3, cellOf v2 4]⟩)) (pVal true 5 v7 (R (Value.tuple (⟨[Value.agg (⟨[cellOf v2 0, cellOf v2 1, cellOf v2 2, cellOf v2 3, cellOf v2 4]⟩), Value.agg (⟨[cellOf v7 0, cellOf v7 1, cellOf v7 2, cellOf v7 3, cellOf v7 4]⟩)]⟩)) s8)))) (AC Try.prog w0 n_spec_TreeOk ([Value.agg (⟨[cellOf v2 0, cellOf v2 1, cellOf v2 2, cellOf v2 3, cellOf v2 4]⟩)]) s5 (fun v9 s10 => pUn UnOp.not v9 (fun v11 => pIf v11 (AC Try.prog w0 n_spec_l4Any [v0] s10 (fun v12 s13 => pVal true 5 (Value.agg (⟨[cellOf v2 0, cellOf v2 1, cellOf v2 2, cellOf v2 3, cellOf v2 4]⟩)) (pVal true 5 v12 (R (Value.tuple (⟨[Value.agg (⟨[cellOf v2 0, cellOf v2 1, cellOf v2 2, cellOf v2 3, cellOf v2 4]⟩), Value.agg (⟨[cellOf v12 0, cellOf v12 1, cellOf v12 2, cellOf v12 3, cellOf v12 4]⟩)]⟩)) s13)))) (AC Try.prog w0 n_p_spec_l1Rd_pick [v0, Value.int IntKind.i64 9] s10 (fun v14 s15 => AC Try.prog w0 n_spec_l4Calls ([v0, Value.agg (⟨[cellOf v2 0, cellOf v2 1, cellOf v2 2, cellOf v2 3, cellOf v2 4]⟩), v14]) s15 (fun v16 s17 => pVal true 5 (Value.agg (⟨[cellOf v2 0, cellOf v2 1, cellOf v2 2, cellOf v2 3, cellOf v2 4]⟩)) (pVal true 5 v16 (R (Value.tuple (⟨[Value.agg (⟨[cellOf v2 0, cellOf v2 1, cellOf v2 2, cellOf v2 3, cellOf v2 4]⟩), Value.agg (⟨[cellOf v16 0, cellOf v16 1, cellOf v16 2, cellOf v16 3, cellOf v16 4]⟩)]⟩)) s17)))))))))))))
theorem vc_spec_DrawDiffWalk_eq (w0 : World) (a0 : Value) (σ : Vw) (R : Value → Vw → Prop) : vc_spec_DrawDiffWalk w0 a0 σ R = den Try.prog w0 kp_spec_DrawDiffWalk esc_spec_DrawDiffWalk (Try.f31.body.getD .skip) (entry Try.f31.ntmps [a0]) σ (retK Try.prog Try.f31.results.toList R) := by kernel_rfl
theorem ac_spec_DrawDiffWalk {w0 : World} {a0 : Value} {σ : Vw} {R : Value → Vw → Prop} (h : vc_spec_DrawDiffWalk w0 a0 σ R) : AC Try.prog w0 n_spec_DrawDiffWalk [a0] σ R := by
  refine ac_rule (fn := Try.f31) (c := Try.f31.body.getD .skip) kp_spec_DrawDiffWalk esc_spec_DrawDiffWalk Try.func31 (by kernel_rfl) (by kernel_rfl) ?_
  rw [← vc_spec_DrawDiffWalk_eq]
  exact h

/-- impl.DiffWalk -/
def kp_impl_DiffWalk : Nat → Keep
  | _ => ⟨[], [], [], .done, []⟩
def esc_impl_DiffWalk : Nat → Bool
  | 2 => true
  | 3 => true
  | 13 => true
  | _ => false
def vc_impl_DiffWalk (w0 : World) (a0 a1 : Value) (σ : Vw) (R : Value → Vw → Prop) : Prop :=
  pVal true 5 a0 (pNew w0 26 [cellOf a0 0, cellOf a0 1, cellOf a0 2, cellOf a0 3, cellOf a0 4] σ (fun n0 s1 => pVal true 5 a1 (pNew w0 26 [cellOf a1 0, cellOf a1 1, cellOf a1 2, cellOf a1 3, cellOf a1 4] s1 (fun n2 s3 => pLoad w0 5 (Value.pointer (Option.some (Addr.mk n0 0 Option.none))) s3 (fun g4 => AC Try.prog w0 n_impl_TreeOk ([Value.agg (⟨[g4 0, g4 1, g4 2, g4 3, g4 4]⟩)]) s3 (fun v5 s6 => pUn UnOp.not v5 (fun v7 => pIf v7 (pNew w0 94 [] s6 (fun n8 s9 => R (Value.slice (Option.some (Addr.mk n8 0 Option.none)) 0 0) s9)) (pLoad w0 5 (Value.pointer (Option.some (Addr.mk n2 0 Option.none))) s6 (fun g10 => AC Try.prog w0 n_impl_TreeOk ([Value.agg (⟨[g10 0, g10 1, g10 2, g10 3, g10 4]⟩)]) s6 (fun v11 s12 => pUn UnOp.not v11 (fun v13 => pIf v13 (pNew w0 94 [] s12 (fun n14 s15 => R (Value.slice (Option.some (Addr.mk n14 0 Option.none)) 0 0) s15)) (AC Try.prog w0 n_impl_walk [Value.slice Option.none 0 0, Value.pointer (Option.some (Addr.mk n0 0 Option.none)), Value.pointer (Option.some (Addr.mk n2 0 Option.none))] s12 (fun v16 s17 => R v16 s17)))))))))))))
theorem vc_impl_DiffWalk_eq (w0 : World) (a0 a1 : Value) (σ : Vw) (R : Value → Vw → Prop) : vc_impl_DiffWalk w0 a0 a1 σ R = den Try.prog w0 kp_impl_DiffWalk esc_impl_DiffWalk (Try.f32.body.getD .skip) (entry Try.f32.ntmps [a0, a1]) σ (retK Try.prog Try.f32.results.toList R) := by kernel_rfl
theorem ac_impl_DiffWalk {w0 : World} {a0 a1 : Value} {σ : Vw} {R : Value → Vw → Prop} (h : vc_impl_DiffWalk w0 a0 a1 σ R) : AC Try.prog w0 n_impl_DiffWalk [a0, a1] σ R := by
  refine ac_rule (fn := Try.f32) (c := Try.f32.body.getD .skip) kp_impl_DiffWalk esc_impl_DiffWalk Try.func32 (by kernel_rfl) (by kernel_rfl) ?_
  rw [← vc_impl_DiffWalk_eq]
  exact h

/-- laws.wtEntries -/
def kp_laws_wtEntries : Nat → Keep
  | 4 => ⟨[0, 1, 4, 5], [], [], .done, []⟩
  | 6 => ⟨[], [], [], .step 0 (.step 1 (.step 2 (.step 3 (.step 4 (.step 5 (.step 6 (.step 7 (.step 8 (.step 9 (.step 10 (.step 11 (.step 12 (.step 13 (.step 14 (.step 15 (.step 16 (.step 17 (.step 18 (.step 19 (.step 20 (.step 21 (.step 22 (.step 23 (.step 24 (.step 25 (.step 26 (.step 27 (.step 28 (.step 29 (.step 30 (.step 31 (.step 32 (.step 33 (.step 34 (.step 35 (.step 36 (.step 37 (.step 38 (.step 39 (.step 40 (.step 41 (.step 42 (.step 43 (.step 44 (.step 45 (.step 46 (.step 47 (.step 48 (.step 49 (.step 50 (.step 51 (.step 52 (.step 53 (.step 54 (.step 55 (.step 56 (.step 57 (.step 58 (.step 59 (.step 60 (.step 61 (.step 62 (.step 63 (.done)))))))))))))))))))))))))))))))))))))))))))))))))))))))))))))))), [(2, [0, 1]), (3, [0, 1, 2]), (4, [0, 1, 2, 3]), (7, [5, 6]), (8, [5, 6, 7]), (9, [5, 6, 7, 8]), (10, [0, 1, 2, 3, 4, 5, 6, 7, 8, 9]), (11, [0, 1, 2, 3, 4, 5, 6, 7, 8, 9, 10]), (12, [0, 1, 2, 3, 4, 5, 6, 7, 8, 9, 10, 11]), (13, [0, 1, 2, 3, 4, 5, 6, 7, 8, 9, 10, 11, 12]), (14, [0, 1, 2, 3, 4, 5, 6, 7, 8, 9, 10, 11, 12]), (15, [0, 1, 2, 3, 4, 5, 6, 7, 8, 9, 10, 11, 12, 13, 14]), (16, [0, 1, 2, 3, 4, 5, 6, 7, 8, 9, 10, 11, 12, 13, 14, 15]), (17, [0, 1, 2, 3, 4, 5, 6, 7, 8, 9, 10, 11, 12, 13, 14, 15, 16]), (18, [0, 1, 2, 3, 4, 5, 6, 7, 8, 9, 10, 11, 12]), (19, [0, 1, 2, 3, 4, 5, 6, 7, 8, 9, 10, 11, 12]), (20, [0, 1, 2, 3, 4, 5, 6, 7, 8, 9, 10, 11, 12, 18, 19]), (21, [0, 1, 2, 3, 4, 5, 6, 7, 8, 9, 10, 11, 12, 18, 19, 20]), (22, [0, 1, 2, 3, 4, 5, 6, 7, 8, 9, 10, 11, 12, 18, 19, 20, 21]), (23, [0, 1, 2, 3, 4, 5, 6, 7, 8, 9, 10, 11, 12, 13, 14, 15, 16, 17, 18, 19, 20, 21, 22]), (24, [0, 1, 2, 3, 4, 5, 6, 7, 8, 9, 10, 11, 12, 13, 14, 15, 16, 17, 18, 19, 20, 21, 22, 23]), (25, [0, 1, 2, 3, 4, 5, 6, 7, 8, 9, 10, 11, 12, 13, 14, 15, 16, 17, 18, 19, 20, 21, 22, 23, 24]), (26, [0, 1, 2, 3, 4, 5, 6, 7, 8, 9, 10, 11, 12, 13, 14, 15, 16, 17, 18, 19, 20, 21, 22, 23, 24, 25]), (27, [0, 1, 2, 3, 4, 5, 6, 7, 8, 9, 10, 11, 12, 13, 14, 15, 16, 17, 18, 19, 20, 21, 22, 23, 24, 25]), (28, [0, 1, 2, 3, 4, 5, 6, 7, 8, 9, 10, 11, 12, 13, 14, 15, 16, 17, 18, 19, 20, 21, 22, 23, 24, 25, 26, 27]), (29, [0, 1, 2, 3, 4, 5, 6, 7, 8, 9, 10, 11, 12, 13, 14, 15, 16, 17, 18, 19, 20, 21, 22, 23, 24, 25, 26, 27, 28]), (30, [0, 1, 2, 3, 4, 5, 6, 7, 8, 9, 10, 11, 12, 13, 14, 15, 16, 17, 18, 19, 20, 21, 22, 23, 24, 25, 26, 27, 28, 29]), (31, [0, 1, 2, 3, 4, 5, 6, 7, 8, 9, 10, 11, 12, 13, 14, 15, 16, 17, 18, 19, 20, 21, 22, 23, 24, 25]), (32, [0, 1, 2, 3, 4, 5, 6, 7, 8, 9, 10, 11, 12, 13, 14, 15, 16, 17, 18, 19, 20, 21, 22, 23, 24, 25]), (33, [0, 1, 2, 3, 4, 5, 6, 7, 8, 9, 10, 11, 12, 13, 14, 15, 16, 17, 18, 19, 20, 21, 22, 23, 24, 25, 31, 32]), (34, [0, 1, 2, 3, 4, 5, 6, 7, 8, 9, 10, 11, 12, 13, 14, 15, 16, 17, 18, 19, 20, 21, 22, 23, 24, 25, 31, 32, 33]), (35, [0, 1, 2, 3, 4, 5, 6, 7, 8, 9, 10, 11, 12, 13, 14, 15, 16, 17, 18, 19, 20, 21, 22, 23, 24, 25, 31, 32, 33, 34]), (36, [0, 1, 2, 3, 4, 5, 6, 7, 8, 9, 10, 11, 12, 13, 14, 15, 16, 17, 18, 19, 20, 21, 22, 23, 24, 25, 26, 27, 28, 29, 30, 31, 32, 33, 34, 35]), (37, [0, 1, 2, 3, 4, 5, 6, 7, 8, 9, 10, 11, 12, 13, 14, 15, 16, 17, 18, 19, 20, 21, 22, 23, 24, 25, 26, 27, 28, 29, 30, 31, 32, 33, 34, 35, 36]), (38, [0, 1, 2, 3, 4, 5, 6, 7, 8, 9, 10, 11, 12, 13, 14, 15, 16, 17, 18, 19, 20, 21, 22, 23, 24, 25, 26, 27, 28, 29, 30, 31, 32, 33, 34, 35, 36, 37]), (39, [0, 1, 2, 3, 4, 5, 6, 7, 8, 9, 10, 11, 12, 13, 14, 15, 16, 17, 18, 19, 20, 21, 22, 23, 24, 25, 26, 27, 28, 29, 30, 31, 32, 33, 34, 35, 36, 37, 38]), (40, [0, 1, 2, 3, 4, 5, 6, 7, 8, 9, 10, 11, 12, 13, 14, 15, 16, 17, 18, 19, 20, 21, 22, 23, 24, 25, 26, 27, 28, 29, 30, 31, 32, 33, 34, 35, 36, 37, 38]), (41, [0, 1, 2, 3, 4, 5, 6, 7, 8, 9, 10, 11, 12, 13, 14, 15, 16, 17, 18, 19, 20, 21, 22, 23, 24, 25, 26, 27, 28, 29, 30, 31, 32, 33, 34, 35, 36, 37, 38, 39, 40]), (42, [0, 1, 2, 3, 4, 5, 6, 7, 8, 9, 10, 11, 12, 13, 14, 15, 16, 17, 18, 19, 20, 21, 22, 23, 24, 25, 26, 27, 28, 29, 30, 31, 32, 33, 34, 35, 36, 37, 38, 39, 40, 41]), (43, [0, 1, 2, 3, 4, 5, 6, 7, 8, 9, 10, 11, 12, 13, 14, 15, 16, 17, 18, 19, 20, 21, 22, 23, 24, 25, 26, 27, 28, 29, 30, 31, 32, 33, 34, 35, 36, 37, 38, 39, 40, 41, 42]), (44, [0, 1, 2, 3, 4, 5, 6, 7, 8, 9, 10, 11, 12, 13, 14, 15, 16, 17, 18, 19, 20, 21, 22, 23, 24, 25, 26, 27, 28, 29, 30, 31, 32, 33, 34, 35, 36, 37, 38]), (45, [0, 1, 2, 3, 4, 5, 6, 7, 8, 9, 10, 11, 12, 13, 14, 15, 16, 17, 18, 19, 20, 21, 22, 23, 24, 25, 26, 27, 28, 29, 30, 31, 32, 33, 34, 35, 36, 37, 38]), (46, [0, 1, 2, 3, 4, 5, 6, 7, 8, 9, 10, 11, 12, 13, 14, 15, 16, 17, 18, 19, 20, 21, 22, 23, 24, 25, 26, 27, 28, 29, 30, 31, 32, 33, 34, 35, 36, 37, 38, 44, 45]), (47, [0, 1, 2, 3, 4, 5, 6, 7, 8, 9, 10, 11, 12, 13, 14, 15, 16, 17, 18, 19, 20, 21, 22, 23, 24, 25, 26, 27, 28, 29, 30, 31, 32, 33, 34, 35, 36, 37, 38, 44, 45, 46]), (48, [0, 1, 2, 3, 4, 5, 6, 7, 8, 9, 10, 11, 12, 13, 14, 15, 16, 17, 18, 19, 20, 21, 22, 23, 24, 25, 26, 27, 28, 29, 30, 31, 32, 33, 34, 35, 36, 37, 38, 44, 45, 46, 47]), (49, [0, 1, 2, 3, 4, 5, 6, 7, 8, 9, 10, 11, 12, 13, 14, 15, 16, 17, 18, 19, 20, 21, 22, 23, 24, 25, 26, 27, 28, 29, 30, 31, 32, 33, 34, 35, 36, 37, 38, 39, 40, 41, 42, 43, 44, 45, 46, 47, 48]), (50, [0, 1, 2, 3, 4, 5, 6, 7, 8, 9, 10, 11, 12, 13, 14, 15, 16, 17, 18, 19, 20, 21, 22, 23, 24, 25, 26, 27, 28, 29, 30, 31, 32, 33, 34, 35, 36, 37, 38, 39, 40, 41, 42, 43, 44, 45, 46, 47, 48, 49]), (51, [0, 1, 2, 3, 4, 5, 6, 7, 8, 9, 10, 11, 12, 13, 14, 15, 16, 17, 18, 19, 20, 21, 22, 23, 24, 25, 26, 27, 28, 29, 30, 31, 32, 33, 34, 35, 36, 37, 38, 39, 40, 41, 42, 43, 44, 45, 46, 47, 48, 49, 50]), (52, [0, 1, 2, 3, 4, 5, 6, 7, 8, 9, 10, 11, 12, 13, 14, 15, 16, 17, 18, 19, 20, 21, 22, 23, 24, 25, 26, 27, 28, 29, 30, 31, 32, 33, 34, 35, 36, 37, 38, 39, 40, 41, 42, 43, 44, 45, 46, 47, 48, 49, 50, 51]), (53, [0, 1, 2, 3, 4, 5, 6, 7, 8, 9, 10, 11, 12, 13, 14, 15, 16, 17, 18, 19, 20, 21, 22, 23, 24, 25, 26, 27, 28, 29, 30, 31, 32, 33, 34, 35, 36, 37, 38, 39, 40, 41, 42, 43, 44, 45, 46, 47, 48, 49, 50, 51]), (54, [0, 1, 2, 3, 4, 5, 6, 7, 8, 9, 10, 11, 12, 13, 14, 15, 16, 17, 18, 19, 20, 21, 22, 23, 24, 25, 26, 27, 28, 29, 30, 31, 32, 33, 34, 35, 36, 37, 38, 39, 40, 41, 42, 43, 44, 45, 46, 47, 48, 49, 50, 51, 52, 53]), (55, [0, 1, 2, 3, 4, 5, 6, 7, 8, 9, 10, 11, 12, 13, 14, 15, 16, 17, 18, 19, 20, 21, 22, 23, 24, 25, 26, 27, 28, 29, 30, 31, 32, 33, 34, 35, 36, 37, 38, 39, 40, 41, 42, 43, 44, 45, 46, 47, 48, 49, 50, 51, 52, 53, 54]), (56, [0, 1, 2, 3, 4, 5, 6, 7, 8, 9, 10, 11, 12, 13, 14, 15, 16, 17, 18, 19, 20, 21, 22, 23, 24, 25, 26, 27, 28, 29, 30, 31, 32, 33, 34, 35, 36, 37, 38, 39, 40, 41, 42, 43, 44, 45, 46, 47, 48, 49, 50, 51, 52, 53, 54, 55]), (57, [0, 1, 2, 3, 4, 5, 6, 7, 8, 9, 10, 11, 12, 13, 14, 15, 16, 17, 18, 19, 20, 21, 22, 23, 24, 25, 26, 27, 28, 29, 30, 31, 32, 33, 34, 35, 36, 37, 38, 39, 40, 41, 42, 43, 44, 45, 46, 47, 48, 49, 50, 51]), (58, [0, 1, 2, 3, 4, 5, 6, 7, 8, 9, 10, 11, 12, 13, 14, 15, 16, 17, 18, 19, 20, 21, 22, 23, 24, 25, 26, 27, 28, 29, 30, 31, 32, 33, 34, 35, 36, 37, 38, 39, 40, 41, 42, 43, 44, 45, 46, 47, 48, 49, 50, 51]), (59, [0, 1, 2, 3, 4, 5, 6, 7, 8, 9, 10, 11, 12, 13, 14, 15, 16, 17, 18, 19, 20, 21, 22, 23, 24, 25, 26, 27, 28, 29, 30, 31, 32, 33, 34, 35, 36, 37, 38, 39, 40, 41, 42, 43, 44, 45, 46, 47, 48, 49, 50, 51, 57, 58]), (60, [0, 1, 2, 3, 4, 5, 6, 7, 8, 9, 10, 11, 12, 13, 14, 15, 16, 17, 18, 19, 20, 21, 22, 23, 24, 25, 26, 27, 28, 29, 30, 31, 32, 33, 34, 35, 36, 37, 38, 39, 40, 41, 42, 43, 44, 45, 46, 47, 48, 49, 50, 51, 57, 58, 59]), (61, [0, 1, 2, 3, 4, 5, 6, 7, 8, 9, 10, 11, 12, 13, 14, 15, 16, 17, 18, 19, 20, 21, 22, 23, 24, 25, 26, 27, 28, 29, 30, 31, 32, 33, 34, 35, 36, 37, 38, 39, 40, 41, 42, 43, 44, 45, 46, 47, 48, 49, 50, 51, 57, 58, 59, 60]), (62, [0, 1, 2, 3, 4, 5, 6, 7, 8, 9, 10, 11, 12, 13, 14, 15, 16, 17, 18, 19, 20, 21, 22, 23, 24, 25, 26, 27, 28, 29, 30, 31, 32, 33, 34, 35, 36, 37, 38, 39, 40, 41, 42, 43, 44, 45, 46, 47, 48, 49, 50, 51, 52, 53, 54, 55, 56, 57, 58, 59, 60, 61]), (63, [0, 1, 2, 3, 4, 5, 6, 7, 8, 9, 10, 11, 12, 13, 14, 15, 16, 17, 18, 19, 20, 21, 22, 23, 24, 25, 26, 27, 28, 29, 30, 31, 32, 33, 34, 35, 36, 37, 38, 39, 40, 41, 42, 43, 44, 45, 46, 47, 48, 49, 50, 51, 52, 53, 54, 55, 56, 57, 58, 59, 60, 61, 62])]⟩
  | _ => ⟨[], [], [], .done, []⟩
def esc_laws_wtEntries : Nat → Bool
  | _ => false
def vc_laws_wtEntries (w0 : World) (a0 a1 : Value) (σ : Vw) (R : Value → Vw → Prop) : Prop :=
  pLen a0 (fun v0 => pLen a1 (fun v1 => pBin Try.prog 3 BinOp.neq v0 v1 (fun v2 => pIf v2 (R (Value.bool false) σ) (pLoop (fun l3 K4 s5 => pLen (vget l3 0) (fun v6 => pBin Try.prog 3 BinOp.lss (vget l3 3) v6 (fun v7 => pIf v7 (pIndexAddr 5 (vget l3 0) (vget l3 3) (fun v8 => pField 0 v8 (fun v9 => pLoad w0 1 v9 s5 (fun g10 => pIndexAddr 5 (vget l3 1) (vget l3 3) (fun v11 => pField 0 v11 (fun v12 => pLoad w0 1 v12 s5 (fun g13 => AC Try.prog w0 n_laws_wtTexts [g10 0, g13 0] s5 (fun v14 s15 => pUn UnOp.not v14 (fun v16 => pIf v16 (K4 AX.ret [vget l3 0, vget l3 1, Value.bool false, vget l3 3] s15) (pIndexAddr 5 (vget l3 0) (vget l3 3) (fun v17 => pField 1 v17 (fun v18 => pLoad w0 1 v18 s15 (fun g19 => pIndexAddr 5 (vget l3 1) (vget l3 3) (fun v20 => pField 1 v20 (fun v21 => pLoad w0 1 v21 s15 (fun g22 => pBin Try.prog 3 BinOp.neq (g19 0) (g22 0) (fun v23 => pIf v23 (K4 AX.ret [vget l3 0, vget l3 1, Value.bool false, vget l3 3] s15) (pIndexAddr 5 (vget l3 0) (vget l3 3) (fun v24 => pField 2 v24 (fun v25 => pLoad w0 1 v25 s15 (fun g26 => pIndexAddr 5 (vget l3 1) (vget l3 3) (fun v27 => pField 2 v27 (fun v28 => pLoad w0 1 v28 s15 (fun g29 => pBin Try.prog 4 BinOp.neq (g26 0) (g29 0) (fun v30 => pIf v30 (K4 AX.ret [vget l3 0, vget l3 1, Value.bool false, vget l3 3] s15) (pIndexAddr 5 (vget l3 0) (vget l3 3) (fun v31 => pField 3 v31 (fun v32 => pLoad w0 1 v32 s15 (fun g33 => pIndexAddr 5 (vget l3 1) (vget l3 3) (fun v34 => pField 3 v34 (fun v35 => pLoad w0 1 v35 s15 (fun g36 => pBin Try.prog 3 BinOp.neq (g33 0) (g36 0) (fun v37 => pIf v37 (K4 AX.ret [vget l3 0, vget l3 1, Value.bool false, vget l3 3] s15) (pIndexAddr 5 (vget l3 0) (vget l3 3) (fun v38 => pField 4 v38 (fun v39 => pLoad w0 1 v39 s15 (fun g40 => pIndexAddr 5 (vget l3 1) (vget l3 3) (fun v41 => pField 4 v41 (fun v42 => pLoad w0 1 v42 s15 (fun g43 => pBin Try.prog 9 BinOp.neq (g40 0) (g43 0) (fun v44 => pIf v44 (K4 AX.ret [vget l3 0, vget l3 1, Value.bool false, vget l3 3] s15) (pBin Try.prog 3 BinOp.add (vget l3 3) (Value.int IntKind.i64 1) (fun v45 => K4 AX.normal [vget l3 0, vget l3 1, vget l3 2, v45] s15))))))))))))))))))))))))))))))))))))))))))) (K4 (AX.exit 0) [vget l3 0, vget l3 1, vget l3 2, vget l3 3] s5)))) [a0, a1, Value.bool false, Value.int IntKind.i64 0] σ (fun x46 l47 s48 => match x46 with | .normal => R (Value.bool true) s48 | .ret => R (vget l47 2) s48 | .exit i49 => (match Nat.beq i49 0 with | true => R (Value.bool true) s48 | false => False))))))
theorem vc_laws_wtEntries_eq (w0 : World) (a0 a1 : Value) (σ : Vw) (R : Value → Vw → Prop) : vc_laws_wtEntries w0 a0 a1 σ R = den Try.prog w0 kp_laws_wtEntries esc_laws_wtEntries (Try.f33.body.getD .skip) (entry Try.f33.ntmps [a0, a1]) σ (retK Try.prog Try.f33.results.toList R) := by kernel_rfl
theorem ac_laws_wtEntries {w0 : World} {a0 a1 : Value} {σ : Vw} {R : Value → Vw → Prop} (h : vc_laws_wtEntries w0 a0 a1 σ R) : AC Try.prog w0 n_laws_wtEntries [a0, a1] σ R := by
  refine ac_rule (fn := Try.f33) (c := Try.f33.body.getD .skip) kp_laws_wtEntries esc_laws_wtEntries Try.func33 (by kernel_rfl) (by kernel_rfl) ?_
  rw [← vc_laws_wtEntries_eq]
  exact h

/-- spec.DiffWalk -/
def kp_spec_DiffWalk : Nat → Keep
  | _ => ⟨[], [], [], .done, []⟩
def esc_spec_DiffWalk : Nat → Bool
  | 13 => true
  | 14 => true
  | _ => false
def vc_spec_DiffWalk (w0 : World) (a0 a1 : Value) (σ : Vw) (R : Value → Vw → Prop) : Prop :=
  pVal true 5 a0 (pVal true 5 a1 (AC Try.prog w0 n_spec_TreeOk ([Value.agg (⟨[cellOf a0 0, cellOf a0 1, cellOf a0 2, cellOf a0 3, cellOf a0 4]⟩)]) σ (fun v0 s1 => pUn UnOp.not v0 (fun v2 => pIf v2 (pNew w0 94 [] s1 (fun n3 s4 => R (Value.slice (Option.some (Addr.mk n3 0 Option.none)) 0 0) s4)) (AC Try.prog w0 n_spec_TreeOk ([Value.agg (⟨[cellOf a1 0, cellOf a1 1, cellOf a1 2, cellOf a1 3, cellOf a1 4]⟩)]) s1 (fun v5 s6 => pUn UnOp.not v5 (fun v7 => pIf v7 (pNew w0 94 [] s6 (fun n8 s9 => R (Value.slice (Option.some (Addr.mk n8 0 Option.none)) 0 0) s9)) (pNew w0 9 [] s6 (fun n10 s11 => AC Try.prog w0 n_spec_l3Walk ([Value.slice (Option.some (Addr.mk n10 0 Option.none)) 0 0, Value.agg (⟨[cellOf a0 0, cellOf a0 1, cellOf a0 2, cellOf a0 3, cellOf a0 4]⟩), Value.agg (⟨[cellOf a1 0, cellOf a1 1, cellOf a1 2, cellOf a1 3, cellOf a1 4]⟩)]) s11 (fun v12 s13 => R v12 s13))))))))))
theorem vc_spec_DiffWalk_eq (w0 : World) (a0 a1 : Value) (σ : Vw) (R : Value → Vw → Prop) : vc_spec_DiffWalk w0 a0 a1 σ R = den Try.prog w0 kp_spec_DiffWalk esc_spec_DiffWalk (Try.f34.body.getD .skip) (entry Try.f34.ntmps [a0, a1]) σ (retK Try.prog Try.f34.results.toList R) := by kernel_rfl
theorem ac_spec_DiffWalk {w0 : World} {a0 a1 : Value} {σ : Vw} {R : Value → Vw → Prop} (h : vc_spec_DiffWalk w0 a0 a1 σ R) : AC Try.prog w0 n_spec_DiffWalk [a0, a1] σ R := by
  refine ac_rule (fn := Try.f34) (c := Try.f34.body.getD .skip) kp_spec_DiffWalk esc_spec_DiffWalk Try.func34 (by kernel_rfl) (by kernel_rfl) ?_
  rw [← vc_spec_DiffWalk_eq]
  exact h

/-- spec.l1Open -/
def kp_spec_l1Open : Nat → Keep
  | _ => ⟨[], [], [], .done, []⟩
def esc_spec_l1Open : Nat → Bool
  | 10 => true
  | _ => false
def vc_spec_l1Open (w0 : World) (a0 : Value) (σ : Vw) (R : Value → Vw → Prop) : Prop :=
  pLen a0 (fun v0 => pBin Try.prog 3 BinOp.gtr v0 (Value.int IntKind.i64 2000) (fun v1 => pIf v1 (pSlice 1 a0 Option.none (Option.some (Value.int IntKind.i64 2000)) (fun v2 => pVal false 1 v2 (pVal true 2 (Value.agg (⟨[v2, Value.int IntKind.i64 0]⟩)) (pNew w0 97 [v2, Value.int IntKind.i64 0] σ (fun n3 s4 => R (Value.pointer (Option.some (Addr.mk n3 0 Option.none))) s4))))) (pVal false 1 a0 (pVal true 2 (Value.agg (⟨[a0, Value.int IntKind.i64 0]⟩)) (pNew w0 97 [a0, Value.int IntKind.i64 0] σ (fun n5 s6 => R (Value.pointer (Option.some (Addr.mk n5 0 Option.none))) s6))))))
theorem vc_spec_l1Open_eq (w0 : World) (a0 : Value) (σ : Vw) (R : Value → Vw → Prop) : vc_spec_l1Open w0 a0 σ R = den Try.prog w0 kp_spec_l1Open esc_spec_l1Open (Try.f35.body.getD .skip) (entry Try.f35.ntmps [a0]) σ (retK Try.prog Try.f35.results.toList R) := by kernel_rfl
theorem ac_spec_l1Open {w0 : World} {a0 : Value} {σ : Vw} {R : Value → Vw → Prop} (h : vc_spec_l1Open w0 a0 σ R) : AC Try.prog w0 n_spec_l1Open [a0] σ R := by
  refine ac_rule (fn := Try.f35) (c := Try.f35.body.getD .skip) kp_spec_l1Open esc_spec_l1Open Try.func35 (by kernel_rfl) (by kernel_rfl) ?_
  rw [← vc_spec_l1Open_eq]
  exact h

/-- spec.l4Any -/
def kp_spec_l4Any : Nat → Keep
  | _ => ⟨[], [], [], .done, []⟩
def esc_spec_l4Any : Nat → Bool
  | _ => false
def vc_spec_l4Any (w0 : World) (a0 : Value) (σ : Vw) (R : Value → Vw → Prop) : Prop :=
  AC Try.prog w0 n_p_spec_l1Rd_pick [a0, Value.int IntKind.i64 24] σ (fun v0 s1 => pBin Try.prog 3 BinOp.eql v0 (Value.int IntKind.i64 0) (fun v2 => pIf v2 (AC Try.prog w0 n_spec_l4Tree [a0] s1 (fun v3 s4 => AC Try.prog w0 n_spec_l4Spoil [a0, v3] s4 (fun v5 s6 => pVal true 5 v5 (R (Value.agg (⟨[cellOf v5 0, cellOf v5 1, cellOf v5 2, cellOf v5 3, cellOf v5 4]⟩)) s6)))) (pBin Try.prog 3 BinOp.eql v0 (Value.int IntKind.i64 1) (fun v7 => pIf v7 (AC Try.prog w0 n_spec_l4Full [a0] s1 (fun v8 s9 => pVal true 5 v8 (R (Value.agg (⟨[cellOf v8 0, cellOf v8 1, cellOf v8 2, cellOf v8 3, cellOf v8 4]⟩)) s9))) (AC Try.prog w0 n_spec_l4Tree [a0] s1 (fun v10 s11 => pVal true 5 v10 (R (Value.agg (⟨[cellOf v10 0, cellOf v10 1, cellOf v10 2, cellOf v10 3, cellOf v10 4]⟩)) s11)))))))
theorem vc_spec_l4Any_eq (w0 : World) (a0 : Value) (σ : Vw) (R : Value → Vw → Prop) : vc_spec_l4Any w0 a0 σ R = den Try.prog w0 kp_spec_l4Any esc_spec_l4Any (Try.f36.body.getD .skip) (entry Try.f36.ntmps [a0]) σ (retK Try.prog Try.f36.results.toList R) := by kernel_rfl
theorem ac_spec_l4Any {w0 : World} {a0 : Value} {σ : Vw} {R : Value → Vw → Prop} (h : vc_spec_l4Any w0 a0 σ R) : AC Try.prog w0 n_spec_l4Any [a0] σ R := by
  refine ac_rule (fn := Try.f36) (c := Try.f36.body.getD .skip) kp_spec_l4Any esc_spec_l4Any Try.func36 (by kernel_rfl) (by kernel_rfl) ?_
  rw [← vc_spec_l4Any_eq]
  exact h

/-- spec.l4Path -/
def kp_spec_l4Path : Nat → Keep
  | 3 => ⟨[0, 5], [(6, 5)], [6], .done, []⟩
  | 6 => ⟨[], [], [], .step 0 (.step 1 (.step 2 (.step 3 (.step 4 (.step 5 (.step 6 (.step 7 (.step 8 (.step 9 (.done)))))))))), [(1, [0]), (4, [3]), (5, [3, 4]), (6, [2, 3, 4, 5]), (7, [0, 1, 2, 3, 4, 5, 6]), (8, [0, 1, 2, 3, 4, 5, 6, 7]), (9, [0, 1, 2, 3, 4, 5, 6, 7, 8])]⟩
  | _ => ⟨[], [], [], .done, []⟩
def esc_spec_l4Path : Nat → Bool
  | 9 => true
  | _ => false
def vc_spec_l4Path (w0 : World) (a0 a1 : Value) (σ : Vw) (R : Value → Vw → Prop) : Prop :=
  pVal true 5 a1 (pNew w0 9 [] σ (fun n0 s1 => pVal true 5 (Value.agg (⟨[cellOf a1 0, cellOf a1 1, cellOf a1 2, cellOf a1 3, cellOf a1 4]⟩)) (pLoop (fun l2 K3 s4 => pLen (vget l2 1) (fun v5 => pBin Try.prog 3 BinOp.lss v5 (Value.int IntKind.i64 4) (fun v6 => pIf v6 (pLen (vget l2 1) (fun v7 => pBin Try.prog 3 BinOp.eql v7 (Value.int IntKind.i64 0) (fun v8 => pIf v8 (AC Try.prog w0 n_spec_l4Name [vget l2 0] s4 (fun v9 s10 => pLen (vget l2 5) (fun v11 => pBin Try.prog 3 BinOp.gtr v11 (Value.int IntKind.i64 0) (fun v12 => pIf v12 (AC Try.prog w0 n_p_spec_l1Rd_pick [vget l2 0, Value.int IntKind.i64 4] s10 (fun v13 s14 => pBin Try.prog 3 BinOp.gtr v13 (Value.int IntKind.i64 0) (fun v15 => pIf v15 (pLen (vget l2 5) (fun v16 => AC Try.prog w0 n_p_spec_l1Rd_pick [vget l2 0, v16] s14 (fun v17 s18 => pIndexAddr 1 (vget l2 5) v17 (fun v19 => pLoad w0 1 v19 s18 (fun g20 => pVal false 1 (g20 0) ((allOne [g20 0]) ∧ (pAppend w0 9 1 16 (vget l2 1) 1 [g20 0] s18 (fun v21 s22 => AC Try.prog w0 n_spec_l1Find ([Value.agg (⟨[vget l2 2, vget l2 3, vget l2 4, vget l2 5, vget l2 6]⟩), g20 0]) s22 (fun v23 s24 => pBin Try.prog 3 BinOp.lss v23 (Value.int IntKind.i64 0) (fun v25 => pIf v25 (K3 (AX.exit 0) [vget l2 0, v21, vget l2 2, vget l2 3, vget l2 4, vget l2 5, vget l2 6] s24) (pLen (vget l2 6) (fun v26 => pBin Try.prog 3 BinOp.geq v23 v26 (fun v27 => pIf v27 (K3 (AX.exit 0) [vget l2 0, v21, vget l2 2, vget l2 3, vget l2 4, vget l2 5, vget l2 6] s24) (pIndexAddr 5 (vget l2 6) v23 (fun v28 => pLoad w0 5 v28 s24 (fun g29 => pVal true 5 (Value.agg (⟨[g29 0, g29 1, g29 2, g29 3, g29 4]⟩)) (K3 AX.normal [vget l2 0, v21, g29 0, g29 1, g29 2, g29 3, g29 4] s24))))))))))))))))) (pVal false 1 v9 ((allOne [v9]) ∧ (pAppend w0 9 1 16 (vget l2 1) 1 [v9] s14 (fun v30 s31 => AC Try.prog w0 n_spec_l1Find ([Value.agg (⟨[vget l2 2, vget l2 3, vget l2 4, vget l2 5, vget l2 6]⟩), v9]) s31 (fun v32 s33 => pBin Try.prog 3 BinOp.lss v32 (Value.int IntKind.i64 0) (fun v34 => pIf v34 (K3 (AX.exit 0) [vget l2 0, v30, vget l2 2, vget l2 3, vget l2 4, vget l2 5, vget l2 6] s33) (pLen (vget l2 6) (fun v35 => pBin Try.prog 3 BinOp.geq v32 v35 (fun v36 => pIf v36 (K3 (AX.exit 0) [vget l2 0, v30, vget l2 2, vget l2 3, vget l2 4, vget l2 5, vget l2 6] s33) (pIndexAddr 5 (vget l2 6) v32 (fun v37 => pLoad w0 5 v37 s33 (fun g38 => pVal true 5 (Value.agg (⟨[g38 0, g38 1, g38 2, g38 3, g38 4]⟩)) (K3 AX.normal [vget l2 0, v30, g38 0, g38 1, g38 2, g38 3, g38 4] s33)))))))))))))))) (pVal false 1 v9 ((allOne [v9]) ∧ (pAppend w0 9 1 16 (vget l2 1) 1 [v9] s10 (fun v39 s40 => AC Try.prog w0 n_spec_l1Find ([Value.agg (⟨[vget l2 2, vget l2 3, vget l2 4, vget l2 5, vget l2 6]⟩), v9]) s40 (fun v41 s42 => pBin Try.prog 3 BinOp.lss v41 (Value.int IntKind.i64 0) (fun v43 => pIf v43 (K3 (AX.exit 0) [vget l2 0, v39, vget l2 2, vget l2 3, vget l2 4, vget l2 5, vget l2 6] s42) (pLen (vget l2 6) (fun v44 => pBin Try.prog 3 BinOp.geq v41 v44 (fun v45 => pIf v45 (K3 (AX.exit 0) [vget l2 0, v39, vget l2 2, vget l2 3, vget l2 4, vget l2 5, vget l2 6] s42) (pIndexAddr 5 (vget l2 6) v41 (fun v46 => pLoad w0 5 v46 s42 (fun g47 => pVal true 5 (Value.agg (⟨[g47 0, g47 1, g47 2, g47 3, g47 4]⟩)) (K3 AX.normal [vget l2 0, v39, g47 0, g47 1, g47 2, g47 3, g47 4] s42))))))))))))))))) (AC Try.prog w0 n_p_spec_l1Rd_pick [vget l2 0, Value.int IntKind.i64 3] s4 (fun v48 s49 => pBin Try.prog 3 BinOp.gtr v48 (Value.int IntKind.i64 0) (fun v50 => pIf v50 (AC Try.prog w0 n_spec_l4Name [vget l2 0] s49 (fun v51 s52 => pLen (vget l2 5) (fun v53 => pBin Try.prog 3 BinOp.gtr v53 (Value.int IntKind.i64 0) (fun v54 => pIf v54 (AC Try.prog w0 n_p_spec_l1Rd_pick [vget l2 0, Value.int IntKind.i64 4] s52 (fun v55 s56 => pBin Try.prog 3 BinOp.gtr v55 (Value.int IntKind.i64 0) (fun v57 => pIf v57 (pLen (vget l2 5) (fun v58 => AC Try.prog w0 n_p_spec_l1Rd_pick [vget l2 0, v58] s56 (fun v59 s60 => pIndexAddr 1 (vget l2 5) v59 (fun v61 => pLoad w0 1 v61 s60 (fun g62 => pVal false 1 (g62 0) ((allOne [g62 0]) ∧ (pAppend w0 9 1 16 (vget l2 1) 1 [g62 0] s60 (fun v63 s64 => AC Try.prog w0 n_spec_l1Find ([Value.agg (⟨[vget l2 2, vget l2 3, vget l2 4, vget l2 5, vget l2 6]⟩), g62 0]) s64 (fun v65 s66 => pBin Try.prog 3 BinOp.lss v65 (Value.int IntKind.i64 0) (fun v67 => pIf v67 (K3 (AX.exit 0) [vget l2 0, v63, vget l2 2, vget l2 3, vget l2 4, vget l2 5, vget l2 6] s66) (pLen (vget l2 6) (fun v68 => pBin Try.prog 3 BinOp.geq v65 v68 (fun v69 => pIf v69 (K3 (AX.exit 0) [vget l2 0, v63, vget l2 2, vget l2 3, vget l2 4, vget l2 5, vget l2 6] s66) (pIndexAddr 5 (vget l2 6) v65 (fun v70 => pLoad w0 5 v70 s66 (fun g71 => pVal true 5 (Value.agg (⟨[g71 0, g71 1, g71 2, g71 3, g71 4]⟩)) (K3 AX.normal [vget l2 0, v63, g71 0, g71 1, g71 2, g71 3, g71 4] s66))))))))))))))))) (pVal false 1 v51 ((allOne [v51]) ∧ (pAppend w0 9 1 16 (vget l2 1) 1 [v51] s56 (fun v72 s73 => AC Try.prog w0 n_spec_l1Find ([Value.agg (⟨[vget l2 2, vget l2 3, vget l2 4, vget l2 5, vget l2 6]⟩), v51]) s73 (fun v74 s75 => pBin Try.prog 3 BinOp.lss v74 (Value.int IntKind.i64 0) (fun v76 => pIf v76 (K3 (AX.exit 0) [vget l2 0, v72, vget l2 2, vget l2 3, vget l2 4, vget l2 5, vget l2 6] s75) (pLen (vget l2 6) (fun v77 => pBin Try.prog 3 BinOp.geq v74 v77 (fun v78 => pIf v78 (K3 (AX.exit 0) [vget l2 0, v72, vget l2 2, vget l2 3, vget l2 4, vget l2 5, vget l2 6] s75) (pIndexAddr 5 (vget l2 6) v74 (fun v79 => pLoad w0 5 v79 s75 (fun g80 => pVal true 5 (Value.agg (⟨[g80 0, g80 1, g80 2, g80 3, g80 4]⟩)) (K3 AX.normal [vget l2 0, v72, g80 0, g80 1, g80 2, g80 3, g80 4] s75)))))))))))))))) (pVal false 1 v51 ((allOne [v51]) ∧ (pAppend w0 9 1 16 (vget l2 1) 1 [v51] s52 (fun v81 s82 => AC Try.prog w0 n_spec_l1Find ([Value.agg (⟨[vget l2 2, vget l2 3, vget l2 4, vget l2 5, vget l2 6]⟩), v51]) s82 (fun v83 s84 => pBin Try.prog 3 BinOp.lss v83 (Value.int IntKind.i64 0) (fun v85 => pIf v85 (K3 (AX.exit 0) [vget l2 0, v81, vget l2 2, vget l2 3, vget l2 4, vget l2 5, vget l2 6] s84) (pLen (vget l2 6) (fun v86 => pBin Try.prog 3 BinOp.geq v83 v86 (fun v87 => pIf v87 (K3 (AX.exit 0) [vget l2 0, v81, vget l2 2, vget l2 3, vget l2 4, vget l2 5, vget l2 6] s84) (pIndexAddr 5 (vget l2 6) v83 (fun v88 => pLoad w0 5 v88 s84 (fun g89 => pVal true 5 (Value.agg (⟨[g89 0, g89 1, g89 2, g89 3, g89 4]⟩)) (K3 AX.normal [vget l2 0, v81, g89 0, g89 1, g89 2, g89 3, g89 4] s84))))))))))))))))) (K3 (AX.exit 0) [vget l2 0, vget l2 1, vget l2 2, vget l2 3, vget l2 4, vget l2 5, vget l2 6] s49))))))) (K3 (AX.exit 0) [vget l2 0, vget l2 1, vget l2 2, vget l2 3, vget l2 4, vget l2 5, vget l2 6] s4)))) [a0, Value.slice (Option.some (Addr.mk n0 0 Option.none)) 0 0, cellOf a1 0, cellOf a1 1, cellOf a1 2, cellOf a1 3, cellOf a1 4] s1 (fun x90 l91 s92 => match x90 with | .normal => R (vget l91 1) s92 | .ret => False | .exit i93 => (match Nat.beq i93 0 with | true => R (vget l91 1) s92 | false => False)))))
theorem vc_spec_l4Path_eq (w0 : World) (a0 a1 : Value) (σ : Vw) (R : Value → Vw → Prop) : vc_spec_l4Path w0 a0 a1 σ R = den Try.prog w0 kp_spec_l4Path esc_spec_l4Path (Try.f37.body.getD .skip) (entry Try.f37.ntmps [a0, a1]) σ (retK Try.prog Try.f37.results.toList R) := by kernel_rfl
theorem ac_spec_l4Path {w0 : World} {a0 a1 : Value} {σ : Vw} {R : Value → Vw → Prop} (h : vc_spec_l4Path w0 a0 a1 σ R) : AC Try.prog w0 n_spec_l4Path [a0, a1] σ R := by
  refine ac_rule (fn := Try.f37) (c := Try.f37.body.getD .skip) kp_spec_l4Path esc_spec_l4Path Try.func37 (by kernel_rfl) (by kernel_rfl) ?_
  rw [← vc_spec_l4Path_eq]
  exact h

/-- (*spec.l1Rd).pick -/
def kp_p_spec_l1Rd_pick : Nat → Keep
  | 7 => ⟨[], [], [], .step 0 (.step 1 (.step 2 (.step 3 (.step 4 (.step 5 (.step 6 (.step 7 (.step 8 (.step 9 (.step 10 (.step 11 (.step 12 (.step 13 (.step 14 (.step 15 (.step 16 (.step 17 (.step 18 (.step 19 (.step 20 (.step 21 (.step 22 (.step 23 (.step 24 (.step 25 (.step 26 (.step 27 (.step 28 (.step 29 (.step 30 (.step 31 (.step 32 (.step 33 (.step 34 (.step 35 (.step 36 (.step 37 (.step 38 (.step 39 (.step 40 (.step 41 (.step 42 (.step 43 (.step 44 (.step 45 (.done)))))))))))))))))))))))))))))))))))))))))))))), [(1, [0]), (2, [0, 1]), (3, [0, 1, 2]), (6, [5]), (7, [5, 6]), (8, [5, 6, 7]), (9, [5, 6, 7, 8]), (10, [4, 5, 6, 7, 8, 9]), (11, [0, 1, 2, 3, 4, 5, 6, 7, 8, 9, 10]), (12, [0, 1, 2, 3, 4, 5, 6, 7, 8, 9, 10, 11]), (13, [0, 1, 2, 3, 4, 5, 6, 7, 8, 9, 10, 11, 12]), (14, [0, 1, 2, 3, 4, 5, 6, 7, 8, 9, 10, 11, 12, 13]), (16, [15]), (17, [15, 16]), (18, [15, 16, 17]), (20, [19]), (21, [19, 20]), (23, [22]), (24, [22, 23]), (25, [22, 23, 24]), (26, [22, 23, 24, 25]), (27, [19, 20, 21, 22, 23, 24, 25, 26]), (28, [15, 16, 17, 18, 19, 20, 21, 22, 23, 24, 25, 26, 27]), (29, [15, 16, 17, 18, 19, 20, 21, 22, 23, 24, 25, 26, 27, 28]), (30, [15, 16, 17, 18, 19, 20, 21, 22, 23, 24, 25, 26, 27, 28, 29]), (31, [15, 16, 17, 18, 19, 20, 21, 22, 23, 24, 25, 26, 27, 28, 29, 30]), (32, [0, 1, 2, 3, 4, 5, 6, 7, 8, 9, 10, 11, 12, 13, 14, 15, 16, 17, 18, 19, 20, 21, 22, 23, 24, 25, 26, 27, 28, 29, 30, 31]), (34, [33]), (35, [0, 1, 2, 3, 4, 5, 6, 7, 8, 9, 10, 11, 12, 13, 14, 15, 16, 17, 18, 19, 20, 21, 22, 23, 24, 25, 26, 27, 28, 29, 30, 31, 32, 33, 34]), (38, [37]), (39, [37, 38]), (40, [37, 38, 39]), (41, [37, 38, 39, 40]), (42, [36, 37, 38, 39, 40, 41]), (43, [36, 37, 38, 39, 40, 41, 42]), (44, [0, 1, 2, 3, 4, 5, 6, 7, 8, 9, 10, 11, 12, 13, 14, 15, 16, 17, 18, 19, 20, 21, 22, 23, 24, 25, 26, 27, 28, 29, 30, 31, 32, 33, 34, 35, 36, 37, 38, 39, 40, 41, 42, 43]), (45, [0, 1, 2, 3, 4, 5, 6, 7, 8, 9, 10, 11, 12, 13, 14, 15, 16, 17, 18, 19, 20, 21, 22, 23, 24, 25, 26, 27, 28, 29, 30, 31, 32, 33, 34, 35, 36, 37, 38, 39, 40, 41, 42, 43, 44])]⟩
  | _ => ⟨[], [], [], .done, []⟩
def esc_p_spec_l1Rd_pick : Nat → Bool
  | _ => false
def vc_p_spec_l1Rd_pick (w0 : World) (a0 a1 : Value) (σ : Vw) (R : Value → Vw → Prop) : Prop :=
  pNil a0 (pField 1 a0 (fun v0 => pLoad w0 1 v0 σ (fun g1 => pBin Try.prog 3 BinOp.add (g1 0) (Value.int IntKind.i64 1) (fun v2 => pNil a0 (pField 1 a0 (fun v3 => pVal false 1 v2 (pStore v3 [v2] σ (fun s4 => pBin Try.prog 3 BinOp.lss a1 (Value.int IntKind.i64 1) (fun v5 => pIf v5 (R (Value.int IntKind.i64 0) s4) (pNil a0 (pField 0 a0 (fun v6 => pLoad w0 1 v6 s4 (fun g7 => pLen (g7 0) (fun v8 => pBin Try.prog 3 BinOp.eql v8 (Value.int IntKind.i64 0) (fun v9 => pIf v9 (R (Value.int IntKind.i64 0) s4) (pNil a0 (pField 1 a0 (fun v10 => pLoad w0 1 v10 s4 (fun g11 => pBin Try.prog 3 BinOp.sub (g11 0) (Value.int IntKind.i64 1) (fun v12 => pNil a0 (pField 0 a0 (fun v13 => pLoad w0 1 v13 s4 (fun g14 => pLen (g14 0) (fun v15 => pBin Try.prog 3 BinOp.lss v12 v15 (fun v16 => pIf v16 (pNil a0 (pField 0 a0 (fun v17 => pLoad w0 1 v17 s4 (fun g18 => pIndexAddr 1 (g18 0) v12 (fun v19 => pLoad w0 1 v19 s4 (fun g20 => pConvInt IntKind.i64 (g20 0) (fun v21 => pBin Try.prog 3 BinOp.rem v21 a1 (fun v22 => R v22 s4)))))))) (pNil a0 (pField 0 a0 (fun v23 => pLoad w0 1 v23 s4 (fun g24 => pNil a0 (pField 0 a0 (fun v25 => pLoad w0 1 v25 s4 (fun g26 => pLen (g26 0) (fun v27 => pBin Try.prog 3 BinOp.rem v12 v27 (fun v28 => pIndexAddr 1 (g24 0) v28 (fun v29 => pLoad w0 1 v29 s4 (fun g30 => pConvInt IntKind.i64 (g30 0) (fun v31 => pBin Try.prog 3 BinOp.mul v31 (Value.int IntKind.i64 131) (fun v32 => pNil a0 (pField 0 a0 (fun v33 => pLoad w0 1 v33 s4 (fun g34 => pBin Try.prog 3 BinOp.mul v12 (Value.int IntKind.i64 7) (fun v35 => pBin Try.prog 3 BinOp.add v35 (Value.int IntKind.i64 3) (fun v36 => pNil a0 (pField 0 a0 (fun v37 => pLoad w0 1 v37 s4 (fun g38 => pLen (g38 0) (fun v39 => pBin Try.prog 3 BinOp.rem v36 v39 (fun v40 => pIndexAddr 1 (g34 0) v40 (fun v41 => pLoad w0 1 v41 s4 (fun g42 => pConvInt IntKind.i64 (g42 0) (fun v43 => pBin Try.prog 3 BinOp.mul v43 (Value.int IntKind.i64 1117) (fun v44 => pBin Try.prog 3 BinOp.add v32 v44 (fun v45 => pBin Try.prog 3 BinOp.mul v12 (Value.int IntKind.i64 29) (fun v46 => pBin Try.prog 3 BinOp.add v45 v46 (fun v47 => pNil a0 (pField 0 a0 (fun v48 => pLoad w0 1 v48 s4 (fun g49 => pLen (g49 0) (fun v50 => pBin Try.prog 3 BinOp.quo v12 v50 (fun v51 => pBin Try.prog 3 BinOp.mul v51 (Value.int IntKind.i64 53) (fun v52 => pBin Try.prog 3 BinOp.add v47 v52 (fun v53 => pBin Try.prog 3 BinOp.quo v53 (Value.int IntKind.i64 64) (fun v54 => pBin Try.prog 3 BinOp.xor v53 v54 (fun v55 => pBin Try.prog 3 BinOp.rem v55 a1 (fun v56 => R v56 s4)))))))))))))))))))))))))))))))))))))))))))))))))))))))))))))))))
theorem vc_p_spec_l1Rd_pick_eq (w0 : World) (a0 a1 : Value) (σ : Vw) (R : Value → Vw → Prop) : vc_p_spec_l1Rd_pick w0 a0 a1 σ R = den Try.prog w0 kp_p_spec_l1Rd_pick esc_p_spec_l1Rd_pick (Try.f38.body.getD .skip) (entry Try.f38.ntmps [a0, a1]) σ (retK Try.prog Try.f38.results.toList R) := by kernel_rfl
theorem ac_p_spec_l1Rd_pick {w0 : World} {a0 a1 : Value} {σ : Vw} {R : Value → Vw → Prop} (h : vc_p_spec_l1Rd_pick w0 a0 a1 σ R) : AC Try.prog w0 n_p_spec_l1Rd_pick [a0, a1] σ R := by
  refine ac_rule (fn := Try.f38) (c := Try.f38.body.getD .skip) kp_p_spec_l1Rd_pick esc_p_spec_l1Rd_pick Try.func38 (by kernel_rfl) (by kernel_rfl) ?_
  rw [← vc_p_spec_l1Rd_pick_eq]
  exact h

/-- impl.TreeOk -/
def kp_impl_TreeOk : Nat → Keep
  | _ => ⟨[], [], [], .done, []⟩
def esc_impl_TreeOk : Nat → Bool
  | _ => false
def vc_impl_TreeOk (w0 : World) (a0 : Value) (σ : Vw) (R : Value → Vw → Prop) : Prop :=
  pVal true 5 a0 (pIf (cellOf a0 0) (AC Try.prog w0 n_impl_Tree_sound ([Value.agg (⟨[cellOf a0 0, cellOf a0 1, cellOf a0 2, cellOf a0 3, cellOf a0 4]⟩), Value.int IntKind.i64 0]) σ (fun v0 s1 => pIf v0 (AC Try.prog w0 n_impl_Tree_paths ([Value.agg (⟨[cellOf a0 0, cellOf a0 1, cellOf a0 2, cellOf a0 3, cellOf a0 4]⟩)]) s1 (fun v2 s3 => pBin Try.prog 3 BinOp.leq v2 (Value.int IntKind.i64 31) (fun v4 => R v4 s3))) (R (Value.bool false) s1))) (R (Value.bool false) σ))
theorem vc_impl_TreeOk_eq (w0 : World) (a0 : Value) (σ : Vw) (R : Value → Vw → Prop) : vc_impl_TreeOk w0 a0 σ R = den Try.prog w0 kp_impl_TreeOk esc_impl_TreeOk (Try.f39.body.getD .skip) (entry Try.f39.ntmps [a0]) σ (retK Try.prog Try.f39.results.toList R) := by kernel_rfl
theorem ac_impl_TreeOk {w0 : World} {a0 : Value} {σ : Vw} {R : Value → Vw → Prop} (h : vc_impl_TreeOk w0 a0 σ R) : AC Try.prog w0 n_impl_TreeOk [a0] σ R := by
  refine ac_rule (fn := Try.f39) (c := Try.f39.body.getD .skip) kp_impl_TreeOk esc_impl_TreeOk Try.func39 (by kernel_rfl) (by kernel_rfl) ?_
  rw [← vc_impl_TreeOk_eq]
  exact h

/-- spec.l1At -/
def kp_spec_l1At : Nat → Keep
  | 3 => ⟨[], [], [], .step 0 (.step 1 (.step 2 (.step 3 (.step 4 (.step 5 (.done)))))), [(2, [1]), (3, [1, 2]), (4, [0, 1, 2, 3]), (5, [0, 1, 2, 3, 4])]⟩
  | 6 => ⟨[], [], [], .step 0 (.step 1 (.step 2 (.step 3 (.step 4 (.step 5 (.step 6 (.step 7 (.step 8 (.step 9 (.step 10 (.step 11 (.done)))))))))))), [(1, [0]), (3, [0, 1, 2]), (4, [0, 1, 2, 3]), (6, [5]), (7, [0, 1, 2, 3, 4, 5, 6]), (8, [0, 1, 2, 3, 4, 5, 6, 7]), (9, [0, 1, 2, 3, 4, 5, 6, 7]), (10, [0, 1, 2, 3, 4, 5, 6, 7, 8, 9]), (11, [0, 1, 2, 3, 4, 5, 6, 7, 8, 9, 10])]⟩
  | _ => ⟨[], [], [], .done, []⟩
def esc_spec_l1At : Nat → Bool
  | _ => false
def vc_spec_l1At (w0 : World) (a0 a1 : Value) (σ : Vw) (R : Value → Vw → Prop) : Prop :=
  pVal true 5 a0 (pLen a1 (fun v0 => pBin Try.prog 3 BinOp.eql v0 (Value.int IntKind.i64 0) (fun v1 => pIf v1 (pVal true 5 (Value.agg (⟨[cellOf a0 0, cellOf a0 1, cellOf a0 2, cellOf a0 3, cellOf a0 4]⟩)) (R (Value.tuple (⟨[Value.agg (⟨[cellOf a0 0, cellOf a0 1, cellOf a0 2, cellOf a0 3, cellOf a0 4]⟩), Value.bool true]⟩)) σ)) (pIndexAddr 1 a1 (Value.int IntKind.i64 0) (fun v2 => pLoad w0 1 v2 σ (fun g3 => AC Try.prog w0 n_spec_l1Find ([Value.agg (⟨[cellOf a0 0, cellOf a0 1, cellOf a0 2, cellOf a0 3, cellOf a0 4]⟩), g3 0]) σ (fun v4 s5 => pBin Try.prog 3 BinOp.lss v4 (Value.int IntKind.i64 0) (fun v6 => pIf v6 (pVal true 5 (Value.agg (⟨[Value.bool false, Value.int IntKind.i64 0, Value.string ({ data := #[] }), Value.slice Option.none 0 0, Value.slice Option.none 0 0]⟩)) (R (Value.tuple (⟨[Value.agg (⟨[Value.bool false, Value.int IntKind.i64 0, Value.string ({ data := #[] }), Value.slice Option.none 0 0, Value.slice Option.none 0 0]⟩), Value.bool false]⟩)) s5)) (pIndexAddr 5 (cellOf a0 4) v4 (fun v7 => pLoad w0 5 v7 s5 (fun g8 => pSlice 1 a1 (Option.some (Value.int IntKind.i64 1)) Option.none (fun v9 => AC Try.prog w0 n_spec_l1At ([Value.agg (⟨[g8 0, g8 1, g8 2, g8 3, g8 4]⟩), v9]) s5 (fun v10 s11 => pExtract v10 0 (fun v12 => pExtract v10 1 (fun v13 => pVal true 5 v12 (R (Value.tuple (⟨[Value.agg (⟨[cellOf v12 0, cellOf v12 1, cellOf v12 2, cellOf v12 3, cellOf v12 4]⟩), v13]⟩)) s11))))))))))))))))
theorem vc_spec_l1At_eq (w0 : World) (a0 a1 : Value) (σ : Vw) (R : Value → Vw → Prop) : vc_spec_l1At w0 a0 a1 σ R = den Try.prog w0 kp_spec_l1At esc_spec_l1At (Try.f41.body.getD .skip) (entry Try.f41.ntmps [a0, a1]) σ (retK Try.prog Try.f41.results.toList R) := by kernel_rfl
theorem ac_spec_l1At {w0 : World} {a0 a1 : Value} {σ : Vw} {R : Value → Vw → Prop} (h : vc_spec_l1At w0 a0 a1 σ R) : AC Try.prog w0 n_spec_l1At [a0, a1] σ R := by
  refine ac_rule (fn := Try.f41) (c := Try.f41.body.getD .skip) kp_spec_l1At esc_spec_l1At Try.func41 (by kernel_rfl) (by kernel_rfl) ?_
  rw [← vc_spec_l1At_eq]
  exact h

/-- spec.l1Copy -/
def kp_spec_l1Copy : Nat → Keep
  | 1 => ⟨[], [], [], .step 0 (.step 1 (.step 2 (.step 3 (.step 4 (.step 5 (.step 7 (.step 8 (.step 11 (.step 6 (.step 9 (.step 10 (.step 12 (.done))))))))))))), [(1, [0]), (3, [2]), (5, [4]), (8, [7]), (9, [6, 7, 8]), (10, [0, 1, 2, 3, 4, 5, 6, 7, 8, 9]), (12, [0, 1, 2, 3, 4, 5, 6, 7, 8, 9, 10, 11])]⟩
  | 3 => ⟨[4], [(1, 5), (2, 5), (3, 5)], [1, 2, 3], .done, []⟩
  | 5 => ⟨[], [], [], .step 0 (.step 1 (.step 2 (.step 3 (.step 4 (.step 5 (.step 6 (.step 7 (.step 8 (.step 9 (.step 10 (.step 11 (.done)))))))))))), [(1, [0]), (3, [2]), (5, [2, 3, 4]), (6, [2, 3, 4, 5]), (7, [2, 3, 4, 5, 6]), (8, [2, 3, 4, 5, 6, 7]), (9, [0, 1, 2, 3, 4, 5, 6, 7, 8]), (10, [0, 1, 2, 3, 4, 5, 6, 7, 8, 9]), (11, [0, 1, 2, 3, 4, 5, 6, 7, 8, 9, 10])]⟩
  | _ => ⟨[], [], [], .done, []⟩
def esc_spec_l1Copy : Nat → Bool
  | 11 => true
  | _ => false
def vc_spec_l1Copy (w0 : World) (a0 : Value) (σ : Vw) (R : Value → Vw → Prop) : Prop :=
  pVal true 5 a0 (pNew w0 9 [] σ (fun n0 s1 => pAppendS w0 9 1 16 (Value.slice (Option.some (Addr.mk n0 0 Option.none)) 0 0) (cellOf a0 3) s1 (fun v2 s3 => pVal false 1 (cellOf a0 0) (pVal false 1 (cellOf a0 1) (pVal false 1 (cellOf a0 2) (pVal false 1 v2 (pVal true 5 (Value.agg (⟨[cellOf a0 0, cellOf a0 1, cellOf a0 2, v2, Value.slice Option.none 0 0]⟩)) (pLoop (fun l4 K5 s6 => pLen (vget l4 5) (fun v7 => pBin Try.prog 3 BinOp.lss (vget l4 0) v7 (fun v8 => pIf v8 (pIndexAddr 5 (vget l4 5) (vget l4 0) (fun v9 => pLoad w0 5 v9 s6 (fun g10 => AC Try.prog w0 n_spec_l1Copy ([Value.agg (⟨[g10 0, g10 1, g10 2, g10 3, g10 4]⟩)]) s6 (fun v11 s12 => pVal true 5 v11 ((allOne [cellOf v11 0, cellOf v11 1, cellOf v11 2, cellOf v11 3, cellOf v11 4]) ∧ (pAppend w0 26 5 80 (vget l4 15) 1 [cellOf v11 0, cellOf v11 1, cellOf v11 2, cellOf v11 3, cellOf v11 4] s12 (fun v13 s14 => pVal false 1 v13 (pBin Try.prog 3 BinOp.add (vget l4 0) (Value.int IntKind.i64 1) (fun v15 => K5 AX.normal [v15, vget l4 1, vget l4 2, vget l4 3, vget l4 4, vget l4 5, vget l4 6, vget l4 7, vget l4 8, vget l4 9, vget l4 10, vget l4 11, vget l4 12, vget l4 13, vget l4 14, v13] s14))))))))) (K5 (AX.exit 0) [vget l4 0, vget l4 1, vget l4 2, vget l4 3, vget l4 4, vget l4 5, vget l4 6, vget l4 7, vget l4 8, vget l4 9, vget l4 10, vget l4 11, vget l4 12, vget l4 13, vget l4 14, vget l4 15] s6)))) ([Value.int IntKind.i64 0, cellOf a0 0, cellOf a0 1, cellOf a0 2, cellOf a0 3, cellOf a0 4, Value.bool false, Value.int IntKind.i64 0, Value.string ({ data := #[] }), Value.slice Option.none 0 0, Value.slice Option.none 0 0, cellOf a0 0, cellOf a0 1, cellOf a0 2, v2, Value.slice Option.none 0 0]) s3 (fun x16 l17 s18 => match x16 with | .normal => pVal true 5 (Value.agg (⟨[vget l17 11, vget l17 12, vget l17 13, vget l17 14, vget l17 15]⟩)) (R (Value.agg (⟨[vget l17 11, vget l17 12, vget l17 13, vget l17 14, vget l17 15]⟩)) s18) | .ret => R (Value.agg (⟨[vget l17 6, vget l17 7, vget l17 8, vget l17 9, vget l17 10]⟩)) s18 | .exit i19 => (match Nat.beq i19 0 with | true => pVal true 5 (Value.agg (⟨[vget l17 11, vget l17 12, vget l17 13, vget l17 14, vget l17 15]⟩)) (R (Value.agg (⟨[vget l17 11, vget l17 12, vget l17 13, vget l17 14, vget l17 15]⟩)) s18) | false => False))))))))))
theorem vc_spec_l1Copy_eq (w0 : World) (a0 : Value) (σ : Vw) (R : Value → Vw → Prop) : vc_spec_l1Copy w0 a0 σ R = den Try.prog w0 kp_spec_l1Copy esc_spec_l1Copy (Try.f44.body.getD .skip) (entry Try.f44.ntmps [a0]) σ (retK Try.prog Try.f44.results.toList R) := by kernel_rfl
theorem ac_spec_l1Copy {w0 : World} {a0 : Value} {σ : Vw} {R : Value → Vw → Prop} (h : vc_spec_l1Copy w0 a0 σ R) : AC Try.prog w0 n_spec_l1Copy [a0] σ R := by
  refine ac_rule (fn := Try.f44) (c := Try.f44.body.getD .skip) kp_spec_l1Copy esc_spec_l1Copy Try.func44 (by kernel_rfl) (by kernel_rfl) ?_
  rw [← vc_spec_l1Copy_eq]
  exact h

/-- (impl.Tree).paths -/
def kp_impl_Tree_paths : Nat → Keep
  | 3 => ⟨[3, 7, 8, 9], [], [], .done, []⟩
  | _ => ⟨[], [], [], .done, []⟩
def esc_impl_Tree_paths : Nat → Bool
  | _ => false
def vc_impl_Tree_paths (w0 : World) (a0 : Value) (σ : Vw) (R : Value → Vw → Prop) : Prop :=
  pVal true 5 a0 (pLen (cellOf a0 4) (fun v0 => pLoop (fun l1 K2 s3 => pBin Try.prog 3 BinOp.lss (vget l1 3) (vget l1 2) (fun v4 => pIf v4 (pIndexAddr 5 (vget l1 1) (vget l1 3) (fun v5 => pLoad w0 5 v5 s3 (fun g6 => pVal true 5 (Value.agg (⟨[g6 0, g6 1, g6 2, g6 3, g6 4]⟩)) (AC Try.prog w0 n_impl_Tree_paths ([Value.agg (⟨[g6 0, g6 1, g6 2, g6 3, g6 4]⟩)]) s3 (fun v7 s8 => pBin Try.prog 3 BinOp.add (vget l1 0) v7 (fun v9 => pBin Try.prog 3 BinOp.add (vget l1 3) (Value.int IntKind.i64 1) (fun v10 => K2 AX.normal [v9, vget l1 1, vget l1 2, v10] s8))))))) (K2 (AX.exit 0) [vget l1 0, vget l1 1, vget l1 2, vget l1 3] s3))) [Value.int IntKind.i64 1, cellOf a0 4, v0, Value.int IntKind.i64 0] σ (fun x11 l12 s13 => match x11 with | .normal => R (vget l12 0) s13 | .ret => False | .exit i14 => (match Nat.beq i14 0 with | true => R (vget l12 0) s13 | false => False))))
theorem vc_impl_Tree_paths_eq (w0 : World) (a0 : Value) (σ : Vw) (R : Value → Vw → Prop) : vc_impl_Tree_paths w0 a0 σ R = den Try.prog w0 kp_impl_Tree_paths esc_impl_Tree_paths (Try.f45.body.getD .skip) (entry Try.f45.ntmps [a0]) σ (retK Try.prog Try.f45.results.toList R) := by kernel_rfl
theorem ac_impl_Tree_paths {w0 : World} {a0 : Value} {σ : Vw} {R : Value → Vw → Prop} (h : vc_impl_Tree_paths w0 a0 σ R) : AC Try.prog w0 n_impl_Tree_paths [a0] σ R := by
  refine ac_rule (fn := Try.f45) (c := Try.f45.body.getD .skip) kp_impl_Tree_paths esc_impl_Tree_paths Try.func45 (by kernel_rfl) (by kernel_rfl) ?_
  rw [← vc_impl_Tree_paths_eq]
  exact h

/-- spec.l1Count -/
def kp_spec_l1Count : Nat → Keep
  | 3 => ⟨[3, 4], [(1, 5)], [1], .done, []⟩
  | _ => ⟨[], [], [], .done, []⟩
def esc_spec_l1Count : Nat → Bool
  | _ => false
def vc_spec_l1Count (w0 : World) (a0 : Value) (σ : Vw) (R : Value → Vw → Prop) : Prop :=
  pVal true 5 a0 (pLen (cellOf a0 4) (fun v0 => pLoop (fun l1 K2 s3 => pLen (vget l1 6) (fun v4 => pBin Try.prog 3 BinOp.lss (vget l1 1) v4 (fun v5 => pIf v5 (pIndexAddr 5 (vget l1 6) (vget l1 1) (fun v6 => pLoad w0 5 v6 s3 (fun g7 => AC Try.prog w0 n_spec_l1Count ([Value.agg (⟨[g7 0, g7 1, g7 2, g7 3, g7 4]⟩)]) s3 (fun v8 s9 => pBin Try.prog 3 BinOp.add (vget l1 0) v8 (fun v10 => pBin Try.prog 3 BinOp.add (vget l1 1) (Value.int IntKind.i64 1) (fun v11 => K2 AX.normal [v10, v11, vget l1 2, vget l1 3, vget l1 4, vget l1 5, vget l1 6] s9)))))) (K2 (AX.exit 0) [vget l1 0, vget l1 1, vget l1 2, vget l1 3, vget l1 4, vget l1 5, vget l1 6] s3)))) [v0, Value.int IntKind.i64 0, cellOf a0 0, cellOf a0 1, cellOf a0 2, cellOf a0 3, cellOf a0 4] σ (fun x12 l13 s14 => match x12 with | .normal => R (vget l13 0) s14 | .ret => False | .exit i15 => (match Nat.beq i15 0 with | true => R (vget l13 0) s14 | false => False))))
theorem vc_spec_l1Count_eq (w0 : World) (a0 : Value) (σ : Vw) (R : Value → Vw → Prop) : vc_spec_l1Count w0 a0 σ R = den Try.prog w0 kp_spec_l1Count esc_spec_l1Count (Try.f46.body.getD .skip) (entry Try.f46.ntmps [a0]) σ (retK Try.prog Try.f46.results.toList R) := by kernel_rfl
theorem ac_spec_l1Count {w0 : World} {a0 : Value} {σ : Vw} {R : Value → Vw → Prop} (h : vc_spec_l1Count w0 a0 σ R) : AC Try.prog w0 n_spec_l1Count [a0] σ R := by
  refine ac_rule (fn := Try.f46) (c := Try.f46.body.getD .skip) kp_spec_l1Count esc_spec_l1Count Try.func46 (by kernel_rfl) (by kernel_rfl) ?_
  rw [← vc_spec_l1Count_eq]
  exact h

/-- spec.l1Parts -/
def kp_spec_l1Parts : Nat → Keep
  | 4 => ⟨[1, 4, 5], [(2, 5)], [2], .done, []⟩
  | _ => ⟨[], [], [], .done, []⟩
def esc_spec_l1Parts : Nat → Bool
  | _ => false
def vc_spec_l1Parts (w0 : World) (a0 a1 : Value) (σ : Vw) (R : Value → Vw → Prop) : Prop :=
  pVal true 5 a0 (AC Try.prog w0 n_spec_l1Plain ([Value.agg (⟨[cellOf a0 0, cellOf a0 1, cellOf a0 2, cellOf a0 3, cellOf a0 4]⟩)]) σ (fun v0 s1 => pUn UnOp.not v0 (fun v2 => pIf v2 (R (Value.bool false) s1) (pBin Try.prog 3 BinOp.gtr a1 (Value.int IntKind.i64 4) (fun v3 => pIf v3 (R (Value.bool false) s1) (pLoop (fun l4 K5 s6 => pLen (vget l4 7) (fun v7 => pBin Try.prog 3 BinOp.lss (vget l4 2) v7 (fun v8 => pIf v8 (pIndexAddr 5 (vget l4 7) (vget l4 2) (fun v9 => pLoad w0 5 v9 s6 (fun g10 => pBin Try.prog 3 BinOp.add (vget l4 0) (Value.int IntKind.i64 1) (fun v11 => AC Try.prog w0 n_spec_l1Parts ([Value.agg (⟨[g10 0, g10 1, g10 2, g10 3, g10 4]⟩), v11]) s6 (fun v12 s13 => pUn UnOp.not v12 (fun v14 => pIf v14 (K5 AX.ret [vget l4 0, Value.bool false, vget l4 2, vget l4 3, vget l4 4, vget l4 5, vget l4 6, vget l4 7] s13) (pBin Try.prog 3 BinOp.add (vget l4 2) (Value.int IntKind.i64 1) (fun v15 => K5 AX.normal [vget l4 0, vget l4 1, v15, vget l4 3, vget l4 4, vget l4 5, vget l4 6, vget l4 7] s13)))))))) (K5 (AX.exit 0) [vget l4 0, vget l4 1, vget l4 2, vget l4 3, vget l4 4, vget l4 5, vget l4 6, vget l4 7] s6)))) [a1, Value.bool false, Value.int IntKind.i64 0, cellOf a0 0, cellOf a0 1, cellOf a0 2, cellOf a0 3, cellOf a0 4] s1 (fun x16 l17 s18 => match x16 with | .normal => R (Value.bool true) s18 | .ret => R (vget l17 1) s18 | .exit i19 => (match Nat.beq i19 0 with | true => R (Value.bool true) s18 | false => False))))))))
theorem vc_spec_l1Parts_eq (w0 : World) (a0 a1 : Value) (σ : Vw) (R : Value → Vw → Prop) : vc_spec_l1Parts w0 a0 a1 σ R = den Try.prog w0 kp_spec_l1Parts esc_spec_l1Parts (Try.f47.body.getD .skip) (entry Try.f47.ntmps [a0, a1]) σ (retK Try.prog Try.f47.results.toList R) := by kernel_rfl
theorem ac_spec_l1Parts {w0 : World} {a0 a1 : Value} {σ : Vw} {R : Value → Vw → Prop} (h : vc_spec_l1Parts w0 a0 a1 σ R) : AC Try.prog w0 n_spec_l1Parts [a0, a1] σ R := by
  refine ac_rule (fn := Try.f47) (c := Try.f47.body.getD .skip) kp_spec_l1Parts esc_spec_l1Parts Try.func47 (by kernel_rfl) (by kernel_rfl) ?_
  rw [← vc_spec_l1Parts_eq]
  exact h

end Go.Proofs.Ytkbhjejalkbogaa

/- What each function owes, reckoned out, part 2. MADE BY PROGRAM (emit.py). -/
set_option linter.unusedVariables false
namespace Go.Proofs.Ytkbhjejalkbogaa
open Go Go.Av

/-- spec.l4Calls -/
def kp_spec_l4Calls : Nat → Keep
  | 1 => ⟨[0, 2], [(4, 5), (6, 5)], [4, 6], .done, []⟩
  | 3 => ⟨[], [], [], .step 0 (.step 1 (.step 2 (.step 8 (.step 3 (.step 4 (.step 5 (.step 6 (.step 7 (.step 9 (.step 10 (.done))))))))))), [(3, [1, 2]), (4, [0, 1, 2, 3]), (5, [0, 1, 2, 3, 4]), (6, [0, 1, 2, 3, 4, 5]), (7, [0, 1, 2, 3, 4, 5]), (9, [0, 1, 2, 3, 4, 5, 6, 8]), (10, [0, 1, 2, 3, 4, 5, 6, 7, 8, 9])]⟩
  | _ => ⟨[], [], [], .done, []⟩
def esc_spec_l4Calls : Nat → Bool
  | _ => false
def vc_spec_l4Calls (w0 : World) (a0 a1 a2 : Value) (σ : Vw) (R : Value → Vw → Prop) : Prop :=
  pVal true 5 a1 (pLoop (fun l0 K1 s2 => pBin Try.prog 3 BinOp.gtr (vget l0 1) (Value.int IntKind.i64 0) (fun v3 => pIf v3 (AC Try.prog w0 n_spec_l4Call ([vget l0 0, Value.agg (⟨[vget l0 2, vget l0 3, vget l0 4, vget l0 5, vget l0 6]⟩)]) s2 (fun v4 s5 => AC Try.prog w0 n_spec_TreeDo ([Value.agg (⟨[vget l0 2, vget l0 3, vget l0 4, vget l0 5, vget l0 6]⟩), v4]) s5 (fun v6 s7 => pExtract v6 0 (fun v8 => pExtract v6 1 (fun v9 => pVal true 5 v8 (pBin Try.prog 3 BinOp.eql v9 (Value.int IntKind.i64 0) (fun v10 => pIf v10 (pVal true 5 (Value.agg (⟨[cellOf v8 0, cellOf v8 1, cellOf v8 2, cellOf v8 3, cellOf v8 4]⟩)) (pBin Try.prog 3 BinOp.sub (vget l0 1) (Value.int IntKind.i64 1) (fun v11 => K1 AX.normal [vget l0 0, v11, cellOf v8 0, cellOf v8 1, cellOf v8 2, cellOf v8 3, cellOf v8 4, vget l0 7, vget l0 8, vget l0 9, vget l0 10, vget l0 11] s7))) (pBin Try.prog 3 BinOp.sub (vget l0 1) (Value.int IntKind.i64 1) (fun v12 => K1 AX.normal [vget l0 0, v12, vget l0 2, vget l0 3, vget l0 4, vget l0 5, vget l0 6, vget l0 7, vget l0 8, vget l0 9, vget l0 10, vget l0 11] s7))))))))) (K1 (AX.exit 0) [vget l0 0, vget l0 1, vget l0 2, vget l0 3, vget l0 4, vget l0 5, vget l0 6, vget l0 7, vget l0 8, vget l0 9, vget l0 10, vget l0 11] s2))) ([a0, a2, cellOf a1 0, cellOf a1 1, cellOf a1 2, cellOf a1 3, cellOf a1 4, Value.bool false, Value.int IntKind.i64 0, Value.string ({ data := #[] }), Value.slice Option.none 0 0, Value.slice Option.none 0 0]) σ (fun x13 l14 s15 => match x13 with | .normal => pVal true 5 (Value.agg (⟨[vget l14 2, vget l14 3, vget l14 4, vget l14 5, vget l14 6]⟩)) (R (Value.agg (⟨[vget l14 2, vget l14 3, vget l14 4, vget l14 5, vget l14 6]⟩)) s15) | .ret => R (Value.agg (⟨[vget l14 7, vget l14 8, vget l14 9, vget l14 10, vget l14 11]⟩)) s15 | .exit i16 => (match Nat.beq i16 0 with | true => pVal true 5 (Value.agg (⟨[vget l14 2, vget l14 3, vget l14 4, vget l14 5, vget l14 6]⟩)) (R (Value.agg (⟨[vget l14 2, vget l14 3, vget l14 4, vget l14 5, vget l14 6]⟩)) s15) | false => False)))
theorem vc_spec_l4Calls_eq (w0 : World) (a0 a1 a2 : Value) (σ : Vw) (R : Value → Vw → Prop) : vc_spec_l4Calls w0 a0 a1 a2 σ R = den Try.prog w0 kp_spec_l4Calls esc_spec_l4Calls (Try.f63.body.getD .skip) (entry Try.f63.ntmps [a0, a1, a2]) σ (retK Try.prog Try.f63.results.toList R) := by kernel_rfl
theorem ac_spec_l4Calls {w0 : World} {a0 a1 a2 : Value} {σ : Vw} {R : Value → Vw → Prop} (h : vc_spec_l4Calls w0 a0 a1 a2 σ R) : AC Try.prog w0 n_spec_l4Calls [a0, a1, a2] σ R := by
  refine ac_rule (fn := Try.f63) (c := Try.f63.body.getD .skip) kp_spec_l4Calls esc_spec_l4Calls Try.func63 (by kernel_rfl) (by kernel_rfl) ?_
  rw [← vc_spec_l4Calls_eq]
  exact h

/-- impl.walk -/
def kp_impl_walk : Nat → Keep
  | 5 => ⟨[], [], [], .step 0 (.step 1 (.step 2 (.step 3 (.step 4 (.step 5 (.step 6 (.step 7 (.step 8 (.step 9 (.done)))))))))), [(1, [0]), (2, [0, 1]), (3, [0, 1, 2]), (5, [4]), (6, [4, 5]), (7, [4, 5, 6]), (8, [0, 1, 2, 3, 4, 5, 6, 7]), (9, [0, 1, 2, 3, 4, 5, 6, 7, 8])]⟩
  | 6 => ⟨[], [], [], .step 0 (.step 3 (.step 4 (.step 5 (.step 6 (.step 1 (.both (.step 2 (.step 7 (.step 8 (.step 9 (.done))))) (.step 7 (.step 2 (.step 8 (.step 9 (.done))))))))))), [(1, [0]), (2, [0, 1]), (5, [4]), (6, [4, 5]), (7, [0, 1, 3, 4, 5, 6]), (8, [0, 1, 2, 3, 4, 5, 6, 7]), (9, [0, 1, 2, 3, 4, 5, 6, 7, 8])]⟩
  | 7 => ⟨[], [], [], .step 0 (.step 1 (.step 2 (.step 3 (.step 4 (.step 5 (.step 6 (.step 7 (.step 8 (.done))))))))), [(2, [1]), (3, [1, 2]), (5, [4]), (6, [4, 5]), (7, [0, 1, 2, 3, 4, 5, 6]), (8, [0, 1, 2, 3, 4, 5, 6, 7])]⟩
  | 9 => ⟨[0, 1, 2, 7, 53, 54, 55], [], [], .done, []⟩
  | _ => ⟨[], [], [], .done, []⟩
def esc_impl_walk : Nat → Bool
  | 23 => true
  | 36 => true
  | _ => false
def vc_impl_walk (w0 : World) (a0 a1 a2 : Value) (σ : Vw) (R : Value → Vw → Prop) : Prop :=
  pBin Try.prog 69 BinOp.eql a1 (Value.pointer Option.none) (fun v0 => pIf v0 (pNil a2 (pLoad w0 5 a2 σ (fun g1 => AC Try.prog w0 n_impl_fresh ([a0, Value.agg (⟨[g1 0, g1 1, g1 2, g1 3, g1 4]⟩)]) σ (fun v2 s3 => R v2 s3)))) (pBin Try.prog 69 BinOp.eql a2 (Value.pointer Option.none) (fun v4 => pIf v4 (AC Try.prog w0 n_impl_gone [a0] σ (fun v5 s6 => pVal true 5 v5 (pNew w0 94 [cellOf v5 0, cellOf v5 1, cellOf v5 2, cellOf v5 3, cellOf v5 4] s6 (fun n7 s8 => R (Value.slice (Option.some (Addr.mk n7 0 Option.none)) 1 1) s8)))) (pNil a1 (pField 0 a1 (fun v9 => pLoad w0 1 v9 σ (fun g10 => pNil a2 (pField 0 a2 (fun v11 => pLoad w0 1 v11 σ (fun g12 => pBin Try.prog 4 BinOp.neq (g10 0) (g12 0) (fun v13 => pIf v13 (pNil a2 (pLoad w0 5 a2 σ (fun g14 => AC Try.prog w0 n_impl_gone [a0] σ (fun v15 s16 => (Stay w0 σ s16 a2 5) ∧ ((pVal true 5 v15 (pNew w0 94 [cellOf v15 0, cellOf v15 1, cellOf v15 2, cellOf v15 3, cellOf v15 4] s16 (fun n17 s18 => (Stay w0 s16 s18 a2 5) ∧ (AC Try.prog w0 n_impl_fresh ([a0, Value.agg (⟨[g14 0, g14 1, g14 2, g14 3, g14 4]⟩)]) s18 (fun v19 s20 => pAppendS w0 94 5 64 (Value.slice (Option.some (Addr.mk n17 0 Option.none)) 1 1) v19 s20 (fun v21 s22 => R v21 s22)))))) ∧ (AC Try.prog w0 n_impl_fresh ([a0, Value.agg (⟨[g14 0, g14 1, g14 2, g14 3, g14 4]⟩)]) s16 (fun v23 s24 => pVal true 5 v15 (pNew w0 94 [cellOf v15 0, cellOf v15 1, cellOf v15 2, cellOf v15 3, cellOf v15 4] s24 (fun n25 s26 => (Stay w0 s24 s26 a2 5) ∧ (pAppendS w0 94 5 64 (Value.slice (Option.some (Addr.mk n25 0 Option.none)) 1 1) v23 s26 (fun v27 s28 => R v27 s28))))))))))) (pNil a1 (pLoad w0 5 a1 σ (fun g29 => pNil a2 (pLoad w0 5 a2 σ (fun g30 => AC Try.prog w0 n_impl_changes ([a0, Value.agg (⟨[g29 0, g29 1, g29 2, g29 3, g29 4]⟩), Value.agg (⟨[g30 0, g30 1, g30 2, g30 3, g30 4]⟩)]) σ (fun v31 s32 => AC Try.prog w0 n_impl_either [a1, a2] s32 (fun v33 s34 => pLen v33 (fun v35 => pLoop (fun l36 K37 s38 => pBin Try.prog 3 BinOp.lss (vget l36 6) (vget l36 5) (fun v39 => pIf v39 (pIndexAddr 1 (vget l36 4) (vget l36 6) (fun v40 => pLoad w0 1 v40 s38 (fun g41 => AC Try.prog w0 n_impl_below [vget l36 0, g41 0] s38 (fun v42 s43 => AC Try.prog w0 n_p_impl_Tree_kid [vget l36 1, g41 0] s43 (fun v44 s45 => AC Try.prog w0 n_p_impl_Tree_kid [vget l36 2, g41 0] s45 (fun v46 s47 => AC Try.prog w0 n_impl_walk [v42, v44, v46] s47 (fun v48 s49 => pAppendS w0 94 5 64 (vget l36 3) v48 s49 (fun v50 s51 => pBin Try.prog 3 BinOp.add (vget l36 6) (Value.int IntKind.i64 1) (fun v52 => K37 AX.normal [vget l36 0, vget l36 1, vget l36 2, v50, vget l36 4, vget l36 5, v52] s51))))))))) (K37 (AX.exit 1) [vget l36 0, vget l36 1, vget l36 2, vget l36 3, vget l36 4, vget l36 5, vget l36 6] s38))) [a0, a1, a2, v31, v33, v35, Value.int IntKind.i64 0] s34 (fun x53 l54 s55 => match x53 with | .normal => R (vget l54 3) s55 | .ret => False | .exit i56 => (match Nat.beq i56 1 with | true => R (vget l54 3) s55 | false => False)))))))))))))))))))))
theorem vc_impl_walk_eq (w0 : World) (a0 a1 a2 : Value) (σ : Vw) (R : Value → Vw → Prop) : vc_impl_walk w0 a0 a1 a2 σ R = den Try.prog w0 kp_impl_walk esc_impl_walk (Try.f64.body.getD .skip) (entry Try.f64.ntmps [a0, a1, a2]) σ (retK Try.prog Try.f64.results.toList R) := by kernel_rfl
theorem ac_impl_walk {w0 : World} {a0 a1 a2 : Value} {σ : Vw} {R : Value → Vw → Prop} (h : vc_impl_walk w0 a0 a1 a2 σ R) : AC Try.prog w0 n_impl_walk [a0, a1, a2] σ R := by
  refine ac_rule (fn := Try.f64) (c := Try.f64.body.getD .skip) kp_impl_walk esc_impl_walk Try.func64 (by kernel_rfl) (by kernel_rfl) ?_
  rw [← vc_impl_walk_eq]
  exact h

/-- spec.l3Walk -/
def kp_spec_l3Walk : Nat → Keep
  | 2 => ⟨[], [], [], .step 0 (.step 2 (.step 3 (.step 1 (.step 4 (.step 5 (.step 6 (.done))))))), [(1, [0]), (4, [0, 1, 2, 3]), (5, [0, 1, 2, 3, 4]), (6, [0, 1, 2, 3, 4, 5])]⟩
  | 6 => ⟨[0, 7, 8, 9], [(4, 5), (5, 5)], [4, 5], .done, []⟩
  | 7 => ⟨[], [], [], .step 0 (.step 1 (.step 2 (.step 3 (.step 4 (.step 5 (.step 6 (.step 8 (.step 9 (.step 10 (.step 11 (.step 12 (.step 13 (.step 14 (.step 15 (.step 16 (.step 17 (.step 7 (.step 18 (.step 19 (.step 20 (.done))))))))))))))))))))), [(3, [2]), (5, [2, 3, 4]), (6, [2, 3, 4, 5]), (7, [1, 2, 3, 4, 5, 6]), (9, [8]), (11, [8, 9, 10]), (12, [8, 9, 10, 11]), (14, [13]), (16, [13, 14, 15]), (17, [13, 14, 15, 16]), (18, [1, 2, 3, 4, 5, 6, 7, 8, 9, 10, 11, 12, 13, 14, 15, 16, 17]), (19, [0, 1, 2, 3, 4, 5, 6, 7, 8, 9, 10, 11, 12, 13, 14, 15, 16, 17, 18]), (20, [0, 1, 2, 3, 4, 5, 6, 7, 8, 9, 10, 11, 12, 13, 14, 15, 16, 17, 18, 19])]⟩
  | 10 => ⟨[], [], [], .step 0 (.step 1 (.step 2 (.step 3 (.step 4 (.step 5 (.step 6 (.step 7 (.step 8 (.step 9 (.step 10 (.step 11 (.step 12 (.step 13 (.step 14 (.step 15 (.step 16 (.step 17 (.step 18 (.step 19 (.step 20 (.step 21 (.step 22 (.step 23 (.step 24 (.step 25 (.done)))))))))))))))))))))))))), [(2, [1]), (3, [1, 2]), (4, [0, 1, 2, 3]), (5, [0, 1, 2, 3, 4]), (6, [0, 1, 2, 3, 4, 5]), (7, [0, 1, 2, 3, 4, 5]), (8, [0, 1, 2, 3, 4, 5, 7]), (9, [0, 1, 2, 3, 4, 5, 7, 8]), (10, [0, 1, 2, 3, 4, 5, 6, 7, 8, 9]), (11, [0, 1, 2, 3, 4, 5, 6, 7, 8, 9, 10]), (12, [0, 1, 2, 3, 4, 5, 6, 7, 8, 9, 10, 11]), (13, [0, 1, 2, 3, 4, 5, 6, 7, 8, 9, 10, 11, 12]), (14, [0, 1, 2, 3, 4, 5, 6, 7, 8, 9, 10, 11]), (15, [0, 1, 2, 3, 4, 5, 6, 7, 8, 9, 10, 11, 12, 13, 14]), (16, [0, 1, 2, 3, 4, 5, 6, 7, 8, 9, 10, 11, 12, 13, 14, 15]), (17, [0, 1, 2, 3, 4, 5, 6, 7, 8, 9, 10, 11]), (18, [0, 1, 2, 3, 4, 5, 6, 7, 8, 9, 10, 11, 17]), (19, [0, 1, 2, 3, 4, 5, 6, 7, 8, 9, 10, 11]), (20, [0, 1, 2, 3, 4, 5, 6, 7, 8, 9, 10, 11, 17, 18, 19]), (21, [0, 1, 2, 3, 4, 5, 6, 7, 8, 9, 10, 11, 17, 18, 19, 20]), (22, [0, 1, 2, 3, 4, 5, 6, 7, 8, 9, 10, 11, 12, 13, 14, 15, 16, 17, 18, 19, 20, 21]), (23, [0, 1, 2, 3, 4, 5, 6, 7, 8, 9, 10, 11, 12, 13, 14, 15, 16, 17, 18, 19, 20, 21, 22]), (24, [0, 1, 2, 3, 4, 5, 6, 7, 8, 9, 10, 11, 12, 13, 14, 15, 16, 17, 18, 19, 20, 21, 22, 23]), (25, [0, 1, 2, 3, 4, 5, 6, 7, 8, 9, 10, 11, 12, 13, 14, 15, 16, 17, 18, 19, 20, 21, 22, 23, 24])]⟩
  | 13 => ⟨[], [], [], .step 0 (.step 1 (.step 2 (.step 3 (.step 4 (.step 5 (.step 6 (.step 7 (.step 8 (.step 9 (.step 10 (.step 11 (.step 12 (.step 13 (.step 14 (.step 15 (.step 16 (.step 17 (.step 18 (.done))))))))))))))))))), [(2, [1]), (3, [1, 2]), (4, [0, 1, 2, 3]), (5, [0, 1, 2, 3, 4]), (6, [0, 1, 2, 3, 4, 5]), (7, [0, 1, 2, 3, 4, 5, 6]), (8, [0, 1, 2, 3, 4, 5]), (9, [0, 1, 2, 3, 4, 5, 6, 7, 8]), (10, [0, 1, 2, 3, 4, 5, 6, 7, 8, 9]), (11, [0, 1, 2, 3, 4, 5]), (12, [0, 1, 2, 3, 4, 5, 11]), (13, [0, 1, 2, 3, 4, 5]), (14, [0, 1, 2, 3, 4, 5, 11, 12, 13]), (15, [0, 1, 2, 3, 4, 5, 11, 12, 13, 14]), (16, [0, 1, 2, 3, 4, 5, 6, 7, 8, 9, 10, 11, 12, 13, 14, 15]), (17, [0, 1, 2, 3, 4, 5, 6, 7, 8, 9, 10, 11, 12, 13, 14, 15, 16]), (18, [0, 1, 2, 3, 4, 5, 6, 7, 8, 9, 10, 11, 12, 13, 14, 15, 16, 17])]⟩
  | 14 => ⟨[], [], [], .step 0 (.step 1 (.step 2 (.step 3 (.step 4 (.step 5 (.step 6 (.step 8 (.step 9 (.step 10 (.step 11 (.step 12 (.step 7 (.step 13 (.step 14 (.step 15 (.done)))))))))))))))), [(3, [2]), (5, [2, 3, 4]), (6, [2, 3, 4, 5]), (7, [1, 2, 3, 4, 5, 6]), (9, [8]), (11, [8, 9, 10]), (12, [8, 9, 10, 11]), (13, [1, 2, 3, 4, 5, 6, 7, 8, 9, 10, 11, 12]), (14, [0, 1, 2, 3, 4, 5, 6, 7, 8, 9, 10, 11, 12, 13]), (15, [0, 1, 2, 3, 4, 5, 6, 7, 8, 9, 10, 11, 12, 13, 14])]⟩
  | _ => ⟨[], [], [], .done, []⟩
def esc_spec_l3Walk : Nat → Bool
  | _ => false
def vc_spec_l3Walk (w0 : World) (a0 a1 a2 : Value) (σ : Vw) (R : Value → Vw → Prop) : Prop :=
  pVal true 5 a1 (pVal true 5 a2 (pBin Try.prog 4 BinOp.neq (cellOf a1 0) (cellOf a2 0) (fun v0 => pIf v0 (AC Try.prog w0 n_spec_l3Gone [a0] σ (fun v1 s2 => AC Try.prog w0 n_spec_l3New ([a0, Value.agg (⟨[cellOf a2 0, cellOf a2 1, cellOf a2 2, cellOf a2 3, cellOf a2 4]⟩)]) s2 (fun v3 s4 => pAppendS w0 94 5 64 v1 v3 s4 (fun v5 s6 => R v5 s6)))) (AC Try.prog w0 n_spec_l3Part ([a0, Value.agg (⟨[cellOf a1 0, cellOf a1 1, cellOf a1 2, cellOf a1 3, cellOf a1 4]⟩), Value.agg (⟨[cellOf a2 0, cellOf a2 1, cellOf a2 2, cellOf a2 3, cellOf a2 4]⟩)]) σ (fun v7 s8 => pLoop (fun l9 K10 s11 => pLen (vget l9 7) (fun v12 => pBin Try.prog 3 BinOp.lss (vget l9 2) v12 (fun v13 => pIf v13 (pLen (vget l9 12) (fun v14 => pBin Try.prog 3 BinOp.geq (vget l9 3) v14 (fun v15 => pIf v15 (pIndexAddr 1 (vget l9 7) (vget l9 2) (fun v16 => pLoad w0 1 v16 s11 (fun g17 => AC Try.prog w0 n_spec_l3Path [vget l9 0, g17 0] s11 (fun v18 s19 => AC Try.prog w0 n_spec_l3Gone [v18] s19 (fun v20 s21 => pAppendS w0 94 5 64 (vget l9 1) v20 s21 (fun v22 s23 => pBin Try.prog 3 BinOp.add (vget l9 2) (Value.int IntKind.i64 1) (fun v24 => K10 AX.normal [vget l9 0, v22, v24, vget l9 3, vget l9 4, vget l9 5, vget l9 6, vget l9 7, vget l9 8, vget l9 9, vget l9 10, vget l9 11, vget l9 12, vget l9 13] s23))))))) (pLen (vget l9 7) (fun v25 => pBin Try.prog 3 BinOp.lss (vget l9 2) v25 (fun v26 => pIf v26 (pIndexAddr 1 (vget l9 7) (vget l9 2) (fun v27 => pLoad w0 1 v27 s11 (fun g28 => pIndexAddr 1 (vget l9 12) (vget l9 3) (fun v29 => pLoad w0 1 v29 s11 (fun g30 => pBin Try.prog 9 BinOp.lss (g28 0) (g30 0) (fun v31 => pIf v31 (pIndexAddr 1 (vget l9 7) (vget l9 2) (fun v32 => pLoad w0 1 v32 s11 (fun g33 => AC Try.prog w0 n_spec_l3Path [vget l9 0, g33 0] s11 (fun v34 s35 => AC Try.prog w0 n_spec_l3Gone [v34] s35 (fun v36 s37 => pAppendS w0 94 5 64 (vget l9 1) v36 s37 (fun v38 s39 => pBin Try.prog 3 BinOp.add (vget l9 2) (Value.int IntKind.i64 1) (fun v40 => K10 AX.normal [vget l9 0, v38, v40, vget l9 3, vget l9 4, vget l9 5, vget l9 6, vget l9 7, vget l9 8, vget l9 9, vget l9 10, vget l9 11, vget l9 12, vget l9 13] s39))))))) (pLen (vget l9 7) (fun v41 => pBin Try.prog 3 BinOp.geq (vget l9 2) v41 (fun v42 => pIf v42 (pIndexAddr 1 (vget l9 12) (vget l9 3) (fun v43 => pLoad w0 1 v43 s11 (fun g44 => pIndexAddr 5 (vget l9 13) (vget l9 3) (fun v45 => pLoad w0 5 v45 s11 (fun g46 => AC Try.prog w0 n_spec_l3Path [vget l9 0, g44 0] s11 (fun v47 s48 => (Stay w0 s11 s48 v45 5) ∧ (AC Try.prog w0 n_spec_l3New ([v47, Value.agg (⟨[g46 0, g46 1, g46 2, g46 3, g46 4]⟩)]) s48 (fun v49 s50 => pAppendS w0 94 5 64 (vget l9 1) v49 s50 (fun v51 s52 => pBin Try.prog 3 BinOp.add (vget l9 3) (Value.int IntKind.i64 1) (fun v53 => K10 AX.normal [vget l9 0, v51, vget l9 2, v53, vget l9 4, vget l9 5, vget l9 6, vget l9 7, vget l9 8, vget l9 9, vget l9 10, vget l9 11, vget l9 12, vget l9 13] s52)))))))))) (pIndexAddr 1 (vget l9 12) (vget l9 3) (fun v54 => pLoad w0 1 v54 s11 (fun g55 => pIndexAddr 1 (vget l9 7) (vget l9 2) (fun v56 => pLoad w0 1 v56 s11 (fun g57 => pBin Try.prog 9 BinOp.lss (g55 0) (g57 0) (fun v58 => pIf v58 (pIndexAddr 1 (vget l9 12) (vget l9 3) (fun v59 => pLoad w0 1 v59 s11 (fun g60 => pIndexAddr 5 (vget l9 13) (vget l9 3) (fun v61 => pLoad w0 5 v61 s11 (fun g62 => AC Try.prog w0 n_spec_l3Path [vget l9 0, g60 0] s11 (fun v63 s64 => (Stay w0 s11 s64 v61 5) ∧ (AC Try.prog w0 n_spec_l3New ([v63, Value.agg (⟨[g62 0, g62 1, g62 2, g62 3, g62 4]⟩)]) s64 (fun v65 s66 => pAppendS w0 94 5 64 (vget l9 1) v65 s66 (fun v67 s68 => pBin Try.prog 3 BinOp.add (vget l9 3) (Value.int IntKind.i64 1) (fun v69 => K10 AX.normal [vget l9 0, v67, vget l9 2, v69, vget l9 4, vget l9 5, vget l9 6, vget l9 7, vget l9 8, vget l9 9, vget l9 10, vget l9 11, vget l9 12, vget l9 13] s68)))))))))) (pIndexAddr 1 (vget l9 7) (vget l9 2) (fun v70 => pLoad w0 1 v70 s11 (fun g71 => pIndexAddr 5 (vget l9 8) (vget l9 2) (fun v72 => pLoad w0 5 v72 s11 (fun g73 => pIndexAddr 5 (vget l9 13) (vget l9 3) (fun v74 => pLoad w0 5 v74 s11 (fun g75 => AC Try.prog w0 n_spec_l3Path [vget l9 0, g71 0] s11 (fun v76 s77 => (Stay w0 s11 s77 v74 5) ∧ ((Stay w0 s11 s77 v72 5) ∧ (AC Try.prog w0 n_spec_l3Walk ([v76, Value.agg (⟨[g73 0, g73 1, g73 2, g73 3, g73 4]⟩), Value.agg (⟨[g75 0, g75 1, g75 2, g75 3, g75 4]⟩)]) s77 (fun v78 s79 => pAppendS w0 94 5 64 (vget l9 1) v78 s79 (fun v80 s81 => pBin Try.prog 3 BinOp.add (vget l9 2) (Value.int IntKind.i64 1) (fun v82 => pBin Try.prog 3 BinOp.add (vget l9 3) (Value.int IntKind.i64 1) (fun v83 => K10 AX.normal [vget l9 0, v80, v82, v83, vget l9 4, vget l9 5, vget l9 6, vget l9 7, vget l9 8, vget l9 9, vget l9 10, vget l9 11, vget l9 12, vget l9 13] s81))))))))))))))))))))))))))))) (pLen (vget l9 7) (fun v84 => pBin Try.prog 3 BinOp.geq (vget l9 2) v84 (fun v85 => pIf v85 (pIndexAddr 1 (vget l9 12) (vget l9 3) (fun v86 => pLoad w0 1 v86 s11 (fun g87 => pIndexAddr 5 (vget l9 13) (vget l9 3) (fun v88 => pLoad w0 5 v88 s11 (fun g89 => AC Try.prog w0 n_spec_l3Path [vget l9 0, g87 0] s11 (fun v90 s91 => (Stay w0 s11 s91 v88 5) ∧ (AC Try.prog w0 n_spec_l3New ([v90, Value.agg (⟨[g89 0, g89 1, g89 2, g89 3, g89 4]⟩)]) s91 (fun v92 s93 => pAppendS w0 94 5 64 (vget l9 1) v92 s93 (fun v94 s95 => pBin Try.prog 3 BinOp.add (vget l9 3) (Value.int IntKind.i64 1) (fun v96 => K10 AX.normal [vget l9 0, v94, vget l9 2, v96, vget l9 4, vget l9 5, vget l9 6, vget l9 7, vget l9 8, vget l9 9, vget l9 10, vget l9 11, vget l9 12, vget l9 13] s95)))))))))) (pIndexAddr 1 (vget l9 12) (vget l9 3) (fun v97 => pLoad w0 1 v97 s11 (fun g98 => pIndexAddr 1 (vget l9 7) (vget l9 2) (fun v99 => pLoad w0 1 v99 s11 (fun g100 => pBin Try.prog 9 BinOp.lss (g98 0) (g100 0) (fun v101 => pIf v101 (pIndexAddr 1 (vget l9 12) (vget l9 3) (fun v102 => pLoad w0 1 v102 s11 (fun g103 => pIndexAddr 5 (vget l9 13) (vget l9 3) (fun v104 => pLoad w0 5 v104 s11 (fun g105 => AC Try.prog w0 n_spec_l3Path [vget l9 0, g103 0] s11 (fun v106 s107 => (Stay w0 s11 s107 v104 5) ∧ (AC Try.prog w0 n_spec_l3New ([v106, Value.agg (⟨[g105 0, g105 1, g105 2, g105 3, g105 4]⟩)]) s107 (fun v108 s109 => pAppendS w0 94 5 64 (vget l9 1) v108 s109 (fun v110 s111 => pBin Try.prog 3 BinOp.add (vget l9 3) (Value.int IntKind.i64 1) (fun v112 => K10 AX.normal [vget l9 0, v110, vget l9 2, v112, vget l9 4, vget l9 5, vget l9 6, vget l9 7, vget l9 8, vget l9 9, vget l9 10, vget l9 11, vget l9 12, vget l9 13] s111)))))))))) (pIndexAddr 1 (vget l9 7) (vget l9 2) (fun v113 => pLoad w0 1 v113 s11 (fun g114 => pIndexAddr 5 (vget l9 8) (vget l9 2) (fun v115 => pLoad w0 5 v115 s11 (fun g116 => pIndexAddr 5 (vget l9 13) (vget l9 3) (fun v117 => pLoad w0 5 v117 s11 (fun g118 => AC Try.prog w0 n_spec_l3Path [vget l9 0, g114 0] s11 (fun v119 s120 => (Stay w0 s11 s120 v117 5) ∧ ((Stay w0 s11 s120 v115 5) ∧ (AC Try.prog w0 n_spec_l3Walk ([v119, Value.agg (⟨[g116 0, g116 1, g116 2, g116 3, g116 4]⟩), Value.agg (⟨[g118 0, g118 1, g118 2, g118 3, g118 4]⟩)]) s120 (fun v121 s122 => pAppendS w0 94 5 64 (vget l9 1) v121 s122 (fun v123 s124 => pBin Try.prog 3 BinOp.add (vget l9 2) (Value.int IntKind.i64 1) (fun v125 => pBin Try.prog 3 BinOp.add (vget l9 3) (Value.int IntKind.i64 1) (fun v126 => K10 AX.normal [vget l9 0, v123, v125, v126, vget l9 4, vget l9 5, vget l9 6, vget l9 7, vget l9 8, vget l9 9, vget l9 10, vget l9 11, vget l9 12, vget l9 13] s124))))))))))))))))))))))))))))) (pLen (vget l9 12) (fun v127 => pBin Try.prog 3 BinOp.lss (vget l9 3) v127 (fun v128 => pIf v128 (pLen (vget l9 12) (fun v129 => pBin Try.prog 3 BinOp.geq (vget l9 3) v129 (fun v130 => pIf v130 (pIndexAddr 1 (vget l9 7) (vget l9 2) (fun v131 => pLoad w0 1 v131 s11 (fun g132 => AC Try.prog w0 n_spec_l3Path [vget l9 0, g132 0] s11 (fun v133 s134 => AC Try.prog w0 n_spec_l3Gone [v133] s134 (fun v135 s136 => pAppendS w0 94 5 64 (vget l9 1) v135 s136 (fun v137 s138 => pBin Try.prog 3 BinOp.add (vget l9 2) (Value.int IntKind.i64 1) (fun v139 => K10 AX.normal [vget l9 0, v137, v139, vget l9 3, vget l9 4, vget l9 5, vget l9 6, vget l9 7, vget l9 8, vget l9 9, vget l9 10, vget l9 11, vget l9 12, vget l9 13] s138))))))) (pLen (vget l9 7) (fun v140 => pBin Try.prog 3 BinOp.lss (vget l9 2) v140 (fun v141 => pIf v141 (pIndexAddr 1 (vget l9 7) (vget l9 2) (fun v142 => pLoad w0 1 v142 s11 (fun g143 => pIndexAddr 1 (vget l9 12) (vget l9 3) (fun v144 => pLoad w0 1 v144 s11 (fun g145 => pBin Try.prog 9 BinOp.lss (g143 0) (g145 0) (fun v146 => pIf v146 (pIndexAddr 1 (vget l9 7) (vget l9 2) (fun v147 => pLoad w0 1 v147 s11 (fun g148 => AC Try.prog w0 n_spec_l3Path [vget l9 0, g148 0] s11 (fun v149 s150 => AC Try.prog w0 n_spec_l3Gone [v149] s150 (fun v151 s152 => pAppendS w0 94 5 64 (vget l9 1) v151 s152 (fun v153 s154 => pBin Try.prog 3 BinOp.add (vget l9 2) (Value.int IntKind.i64 1) (fun v155 => K10 AX.normal [vget l9 0, v153, v155, vget l9 3, vget l9 4, vget l9 5, vget l9 6, vget l9 7, vget l9 8, vget l9 9, vget l9 10, vget l9 11, vget l9 12, vget l9 13] s154))))))) (pLen (vget l9 7) (fun v156 => pBin Try.prog 3 BinOp.geq (vget l9 2) v156 (fun v157 => pIf v157 (pIndexAddr 1 (vget l9 12) (vget l9 3) (fun v158 => pLoad w0 1 v158 s11 (fun g159 => pIndexAddr 5 (vget l9 13) (vget l9 3) (fun v160 => pLoad w0 5 v160 s11 (fun g161 => AC Try.prog w0 n_spec_l3Path [vget l9 0, g159 0] s11 (fun v162 s163 => (Stay w0 s11 s163 v160 5) ∧ (AC Try.prog w0 n_spec_l3New ([v162, Value.agg (⟨[g161 0, g161 1, g161 2, g161 3, g161 4]⟩)]) s163 (fun v164 s165 => pAppendS w0 94 5 64 (vget l9 1) v164 s165 (fun v166 s167 => pBin Try.prog 3 BinOp.add (vget l9 3) (Value.int IntKind.i64 1) (fun v168 => K10 AX.normal [vget l9 0, v166, vget l9 2, v168, vget l9 4, vget l9 5, vget l9 6, vget l9 7, vget l9 8, vget l9 9, vget l9 10, vget l9 11, vget l9 12, vget l9 13] s167)))))))))) (pIndexAddr 1 (vget l9 12) (vget l9 3) (fun v169 => pLoad w0 1 v169 s11 (fun g170 => pIndexAddr 1 (vget l9 7) (vget l9 2) (fun v171 => pLoad w0 1 v171 s11 (fun g172 => pBin Try.prog 9 BinOp.lss (g170 0) (g172 0) (fun v173 => pIf v173 (pIndexAddr 1 (vget l9 12) (vget l9 3) (fun v174 => pLoad w0 1 v174 s11 (fun g175 => pIndexAddr 5 (vget l9 13) (vget l9 3) (fun v176 => pLoad w0 5 v176 s11 (fun g177 => AC Try.prog w0 n_spec_l3Path [vget l9 0, g175 0] s11 (fun v178 s179 => (Stay w0 s11 s179 v176 5) ∧ (AC Try.prog w0 n_spec_l3New ([v178, Value.agg (⟨[g177 0, g177 1, g177 2, g177 3, g177 4]⟩)]) s179 (fun v180 s181 => pAppendS w0 94 5 64 (vget l9 1) v180 s181 (fun v182 s183 => pBin Try.prog 3 BinOp.add (vget l9 3) (Value.int IntKind.i64 1) (fun v184 => K10 AX.normal [vget l9 0, v182, vget l9 2, v184, vget l9 4, vget l9 5, vget l9 6, vget l9 7, vget l9 8, vget l9 9, vget l9 10, vget l9 11, vget l9 12, vget l9 13] s183)))))))))) (pIndexAddr 1 (vget l9 7) (vget l9 2) (fun v185 => pLoad w0 1 v185 s11 (fun g186 => pIndexAddr 5 (vget l9 8) (vget l9 2) (fun v187 => pLoad w0 5 v187 s11 (fun g188 => pIndexAddr 5 (vget l9 13) (vget l9 3) (fun v189 => pLoad w0 5 v189 s11 (fun g190 => AC Try.prog w0 n_spec_l3Path [vget l9 0, g186 0] s11 (fun v191 s192 => (Stay w0 s11 s192 v189 5) ∧ ((Stay w0 s11 s192 v187 5) ∧ (AC Try.prog w0 n_spec_l3Walk ([v191, Value.agg (⟨[g188 0, g188 1, g188 2, g188 3, g188 4]⟩), Value.agg (⟨[g190 0, g190 1, g190 2, g190 3, g190 4]⟩)]) s192 (fun v193 s194 => pAppendS w0 94 5 64 (vget l9 1) v193 s194 (fun v195 s196 => pBin Try.prog 3 BinOp.add (vget l9 2) (Value.int IntKind.i64 1) (fun v197 => pBin Try.prog 3 BinOp.add (vget l9 3) (Value.int IntKind.i64 1) (fun v198 => K10 AX.normal [vget l9 0, v195, v197, v198, vget l9 4, vget l9 5, vget l9 6, vget l9 7, vget l9 8, vget l9 9, vget l9 10, vget l9 11, vget l9 12, vget l9 13] s196))))))))))))))))))))))))))))) (pLen (vget l9 7) (fun v199 => pBin Try.prog 3 BinOp.geq (vget l9 2) v199 (fun v200 => pIf v200 (pIndexAddr 1 (vget l9 12) (vget l9 3) (fun v201 => pLoad w0 1 v201 s11 (fun g202 => pIndexAddr 5 (vget l9 13) (vget l9 3) (fun v203 => pLoad w0 5 v203 s11 (fun g204 => AC Try.prog w0 n_spec_l3Path [vget l9 0, g202 0] s11 (fun v205 s206 => (Stay w0 s11 s206 v203 5) ∧ (AC Try.prog w0 n_spec_l3New ([v205, Value.agg (⟨[g204 0, g204 1, g204 2, g204 3, g204 4]⟩)]) s206 (fun v207 s208 => pAppendS w0 94 5 64 (vget l9 1) v207 s208 (fun v209 s210 => pBin Try.prog 3 BinOp.add (vget l9 3) (Value.int IntKind.i64 1) (fun v211 => K10 AX.normal [vget l9 0, v209, vget l9 2, v211, vget l9 4, vget l9 5, vget l9 6, vget l9 7, vget l9 8, vget l9 9, vget l9 10, vget l9 11, vget l9 12, vget l9 13] s210)))))))))) (pIndexAddr 1 (vget l9 12) (vget l9 3) (fun v212 => pLoad w0 1 v212 s11 (fun g213 => pIndexAddr 1 (vget l9 7) (vget l9 2) (fun v214 => pLoad w0 1 v214 s11 (fun g215 => pBin Try.prog 9 BinOp.lss (g213 0) (g215 0) (fun v216 => pIf v216 (pIndexAddr 1 (vget l9 12) (vget l9 3) (fun v217 => pLoad w0 1 v217 s11 (fun g218 => pIndexAddr 5 (vget l9 13) (vget l9 3) (fun v219 => pLoad w0 5 v219 s11 (fun g220 => AC Try.prog w0 n_spec_l3Path [vget l9 0, g218 0] s11 (fun v221 s222 => (Stay w0 s11 s222 v219 5) ∧ (AC Try.prog w0 n_spec_l3New ([v221, Value.agg (⟨[g220 0, g220 1, g220 2, g220 3, g220 4]⟩)]) s222 (fun v223 s224 => pAppendS w0 94 5 64 (vget l9 1) v223 s224 (fun v225 s226 => pBin Try.prog 3 BinOp.add (vget l9 3) (Value.int IntKind.i64 1) (fun v227 => K10 AX.normal [vget l9 0, v225, vget l9 2, v227, vget l9 4, vget l9 5, vget l9 6, vget l9 7, vget l9 8, vget l9 9, vget l9 10, vget l9 11, vget l9 12, vget l9 13] s226)))))))))) (pIndexAddr 1 (vget l9 7) (vget l9 2) (fun v228 => pLoad w0 1 v228 s11 (fun g229 => pIndexAddr 5 (vget l9 8) (vget l9 2) (fun v230 => pLoad w0 5 v230 s11 (fun g231 => pIndexAddr 5 (vget l9 13) (vget l9 3) (fun v232 => pLoad w0 5 v232 s11 (fun g233 => AC Try.prog w0 n_spec_l3Path [vget l9 0, g229 0] s11 (fun v234 s235 => (Stay w0 s11 s235 v232 5) ∧ ((Stay w0 s11 s235 v230 5) ∧ (AC Try.prog w0 n_spec_l3Walk ([v234, Value.agg (⟨[g231 0, g231 1, g231 2, g231 3, g231 4]⟩), Value.agg (⟨[g233 0, g233 1, g233 2, g233 3, g233 4]⟩)]) s235 (fun v236 s237 => pAppendS w0 94 5 64 (vget l9 1) v236 s237 (fun v238 s239 => pBin Try.prog 3 BinOp.add (vget l9 2) (Value.int IntKind.i64 1) (fun v240 => pBin Try.prog 3 BinOp.add (vget l9 3) (Value.int IntKind.i64 1) (fun v241 => K10 AX.normal [vget l9 0, v238, v240, v241, vget l9 4, vget l9 5, vget l9 6, vget l9 7, vget l9 8, vget l9 9, vget l9 10, vget l9 11, vget l9 12, vget l9 13] s239))))))))))))))))))))))))))))) (K10 (AX.exit 0) [vget l9 0, vget l9 1, vget l9 2, vget l9 3, vget l9 4, vget l9 5, vget l9 6, vget l9 7, vget l9 8, vget l9 9, vget l9 10, vget l9 11, vget l9 12, vget l9 13] s11))))))) [a0, v7, Value.int IntKind.i64 0, Value.int IntKind.i64 0, cellOf a1 0, cellOf a1 1, cellOf a1 2, cellOf a1 3, cellOf a1 4, cellOf a2 0, cellOf a2 1, cellOf a2 2, cellOf a2 3, cellOf a2 4] s8 (fun x242 l243 s244 => match x242 with | .normal => R (vget l243 1) s244 | .ret => False | .exit i245 => (match Nat.beq i245 0 with | true => R (vget l243 1) s244 | false => False)))))))
theorem vc_spec_l3Walk_eq (w0 : World) (a0 a1 a2 : Value) (σ : Vw) (R : Value → Vw → Prop) : vc_spec_l3Walk w0 a0 a1 a2 σ R = den Try.prog w0 kp_spec_l3Walk esc_spec_l3Walk (Try.f65.body.getD .skip) (entry Try.f65.ntmps [a0, a1, a2]) σ (retK Try.prog Try.f65.results.toList R) := by kernel_rfl
theorem ac_spec_l3Walk {w0 : World} {a0 a1 a2 : Value} {σ : Vw} {R : Value → Vw → Prop} (h : vc_spec_l3Walk w0 a0 a1 a2 σ R) : AC Try.prog w0 n_spec_l3Walk [a0, a1, a2] σ R := by
  refine ac_rule (fn := Try.f65) (c := Try.f65.body.getD .skip) kp_spec_l3Walk esc_spec_l3Walk Try.func65 (by kernel_rfl) (by kernel_rfl) ?_
  rw [← vc_spec_l3Walk_eq]
  exact h

/-- spec.l4Spoil -/
def kp_spec_l4Spoil : Nat → Keep
  | 4 => ⟨[], [], [], .step 0 (.step 1 (.step 2 (.step 3 (.step 4 (.step 5 (.step 6 (.step 7 (.step 8 (.step 9 (.step 10 (.step 11 (.done)))))))))))), [(1, [0]), (5, [4]), (7, [4, 5, 6]), (8, [4, 5, 6, 7]), (9, [3, 4, 5, 6, 7, 8]), (10, [0, 1, 2, 3, 4, 5, 6, 7, 8, 9]), (11, [0, 1, 2, 3, 4, 5, 6, 7, 8, 9, 10])]⟩
  | 8 => ⟨[8], [(4, 5), (5, 5)], [4, 5], .done, []⟩
  | 10 => ⟨[], [], [], .step 0 (.step 1 (.step 2 (.step 3 (.step 4 (.step 5 (.step 6 (.step 7 (.step 8 (.step 9 (.done)))))))))), [(1, [0]), (3, [2]), (4, [2, 3]), (5, [2, 3, 4]), (6, [2, 3, 4, 5]), (7, [0, 1, 2, 3, 4, 5, 6]), (8, [0, 1, 2, 3, 4, 5, 6, 7]), (9, [0, 1, 2, 3, 4, 5, 6, 7, 8])]⟩
  | 19 => ⟨[], [], [], .step 0 (.step 1 (.step 2 (.step 3 (.step 4 (.step 5 (.step 6 (.step 7 (.step 8 (.done))))))))), [(1, [0]), (4, [2, 3]), (5, [2, 3, 4]), (6, [0, 1, 2, 3, 4, 5]), (7, [0, 1, 2, 3, 4, 5, 6]), (8, [0, 1, 2, 3, 4, 5, 6, 7])]⟩
  | 27 => ⟨[0, 7], [(4, 5), (5, 5)], [4, 5], .done, []⟩
  | _ => ⟨[], [], [], .done, []⟩
def esc_spec_l4Spoil : Nat → Bool
  | 60 => true
  | 83 => true
  | 117 => true
  | 119 => true
  | _ => false
def vc_spec_l4Spoil (w0 : World) (a0 a1 : Value) (σ : Vw) (R : Value → Vw → Prop) : Prop :=
  pVal true 5 a1 (AC Try.prog w0 n_spec_l1Copy ([Value.agg (⟨[cellOf a1 0, cellOf a1 1, cellOf a1 2, cellOf a1 3, cellOf a1 4]⟩)]) σ (fun v0 s1 => pVal true 5 v0 (pLen (cellOf v0 4) (fun v2 => pBin Try.prog 3 BinOp.gtr v2 (Value.int IntKind.i64 0) (fun v3 => pIf v3 (AC Try.prog w0 n_p_spec_l1Rd_pick [a0, Value.int IntKind.i64 2] s1 (fun v4 s5 => pBin Try.prog 3 BinOp.eql v4 (Value.int IntKind.i64 0) (fun v6 => pIf v6 (pLen (cellOf v0 4) (fun v7 => AC Try.prog w0 n_p_spec_l1Rd_pick [a0, v7] s5 (fun v8 s9 => pIndexAddr 5 (cellOf v0 4) v8 (fun v10 => pLoad w0 5 v10 s9 (fun g11 => AC Try.prog w0 n_spec_l4Spoil ([a0, Value.agg (⟨[g11 0, g11 1, g11 2, g11 3, g11 4]⟩)]) s9 (fun v12 s13 => pIndexAddr 5 (cellOf v0 4) v8 (fun v14 => pVal true 5 v12 (pStore v14 [cellOf v12 0, cellOf v12 1, cellOf v12 2, cellOf v12 3, cellOf v12 4] s13 (fun s15 => pVal true 5 (Value.agg (⟨[cellOf v0 0, cellOf v0 1, cellOf v0 2, cellOf v0 3, cellOf v0 4]⟩)) (R (Value.agg (⟨[cellOf v0 0, cellOf v0 1, cellOf v0 2, cellOf v0 3, cellOf v0 4]⟩)) s15)))))))))) (AC Try.prog w0 n_p_spec_l1Rd_pick [a0, Value.int IntKind.i64 8] s5 (fun v16 s17 => pBin Try.prog 3 BinOp.eql v16 (Value.int IntKind.i64 0) (fun v18 => pIf v18 (pVal false 1 (Value.int IntKind.i64 (-1)) (pVal false 1 (Value.int IntKind.i64 7) (pVal false 1 (Value.int IntKind.i64 8) (pNew w0 3 [Value.int IntKind.i64 (-1), Value.int IntKind.i64 7, Value.int IntKind.i64 8] s17 (fun n19 s20 => AC Try.prog w0 n_p_spec_l1Rd_pick [a0, Value.int IntKind.i64 3] s20 (fun v21 s22 => pIndexAddr 1 (Value.slice (Option.some (Addr.mk n19 0 Option.none)) 3 3) v21 (fun v23 => pLoad w0 1 v23 s22 (fun g24 => pVal false 1 (g24 0) (pVal true 5 (Value.agg (⟨[cellOf v0 0, g24 0, cellOf v0 2, cellOf v0 3, cellOf v0 4]⟩)) (R (Value.agg (⟨[cellOf v0 0, g24 0, cellOf v0 2, cellOf v0 3, cellOf v0 4]⟩)) s22)))))))))) (pBin Try.prog 3 BinOp.eql v16 (Value.int IntKind.i64 1) (fun v25 => pIf v25 (pUn UnOp.not (cellOf v0 0) (fun v26 => pVal false 1 v26 (pVal true 5 (Value.agg (⟨[v26, cellOf v0 1, cellOf v0 2, cellOf v0 3, cellOf v0 4]⟩)) (R (Value.agg (⟨[v26, cellOf v0 1, cellOf v0 2, cellOf v0 3, cellOf v0 4]⟩)) s17)))) (pBin Try.prog 3 BinOp.eql v16 (Value.int IntKind.i64 2) (fun v27 => pIf v27 (pBin Try.prog 9 BinOp.add (cellOf v0 2) (Value.string ({ data := #[120] })) (fun v28 => pVal false 1 v28 (pVal true 5 (Value.agg (⟨[cellOf v0 0, cellOf v0 1, v28, cellOf v0 3, cellOf v0 4]⟩)) (R (Value.agg (⟨[cellOf v0 0, cellOf v0 1, v28, cellOf v0 3, cellOf v0 4]⟩)) s17)))) (pBin Try.prog 3 BinOp.eql v16 (Value.int IntKind.i64 3) (fun v29 => pIf v29 (pVal false 1 (Value.string ({ data := #[122, 122] })) (pVal false 1 (Value.string ({ data := #[] })) (pVal false 1 (Value.string ({ data := #[97] })) (pVal false 1 (Value.string ({ data := #[90] })) (pVal false 1 (Value.string ({ data := #[116, 111, 111, 108, 111, 110, 103] })) (pNew w0 9 ([Value.string ({ data := #[122, 122] }), Value.string ({ data := #[] }), Value.string ({ data := #[97] }), Value.string ({ data := #[90] }), Value.string ({ data := #[116, 111, 111, 108, 111, 110, 103] })]) s17 (fun n30 s31 => AC Try.prog w0 n_p_spec_l1Rd_of [a0, Value.slice (Option.some (Addr.mk n30 0 Option.none)) 5 5] s31 (fun v32 s33 => pVal false 1 v32 ((allOne [v32]) ∧ (pAppend w0 9 1 16 (cellOf v0 3) 1 [v32] s33 (fun v34 s35 => pVal false 1 v34 (pVal true 5 (Value.agg (⟨[Value.bool false, Value.int IntKind.i64 0, Value.string ({ data := #[] }), Value.slice Option.none 0 0, Value.slice Option.none 0 0]⟩)) ((allOne ([Value.bool false, Value.int IntKind.i64 0, Value.string ({ data := #[] }), Value.slice Option.none 0 0, Value.slice Option.none 0 0])) ∧ (pAppend w0 26 5 80 (cellOf v0 4) 1 ([Value.bool false, Value.int IntKind.i64 0, Value.string ({ data := #[] }), Value.slice Option.none 0 0, Value.slice Option.none 0 0]) s35 (fun v36 s37 => pVal false 1 v36 (pVal true 5 (Value.agg (⟨[cellOf v0 0, cellOf v0 1, cellOf v0 2, v34, v36]⟩)) (R (Value.agg (⟨[cellOf v0 0, cellOf v0 1, cellOf v0 2, v34, v36]⟩)) s37))))))))))))))))) (pBin Try.prog 3 BinOp.eql v16 (Value.int IntKind.i64 4) (fun v38 => pIf v38 (pVal false 1 (Value.string ({ data := #[122, 122, 122] })) ((allOne ([Value.string ({ data := #[122, 122, 122] })])) ∧ (pAppend w0 9 1 16 (cellOf v0 3) 1 ([Value.string ({ data := #[122, 122, 122] })]) s17 (fun v39 s40 => pVal false 1 v39 (pVal true 5 (Value.agg (⟨[cellOf v0 0, cellOf v0 1, cellOf v0 2, v39, cellOf v0 4]⟩)) (R (Value.agg (⟨[cellOf v0 0, cellOf v0 1, cellOf v0 2, v39, cellOf v0 4]⟩)) s40)))))) (pBin Try.prog 3 BinOp.eql v16 (Value.int IntKind.i64 5) (fun v41 => pIf v41 (AC Try.prog w0 n_p_spec_l1Rd_pick [a0, Value.int IntKind.i64 2] s17 (fun v42 s43 => pBin Try.prog 3 BinOp.add (Value.int IntKind.i64 24) v42 (fun v44 => AC Try.prog w0 n_spec_l1Many ([Value.string ({ data := #[100] }), v44]) s43 (fun v45 s46 => pVal false 1 v45 (pVal true 5 (Value.agg (⟨[cellOf v0 0, cellOf v0 1, v45, cellOf v0 3, cellOf v0 4]⟩)) (R (Value.agg (⟨[cellOf v0 0, cellOf v0 1, v45, cellOf v0 3, cellOf v0 4]⟩)) s46)))))) (pBin Try.prog 3 BinOp.eql v16 (Value.int IntKind.i64 6) (fun v47 => pIf v47 (pLoop (fun l48 K49 s50 => AC Try.prog w0 n_p_spec_l1Rd_pick [vget l48 0, Value.int IntKind.i64 2] s50 (fun v51 s52 => pBin Try.prog 3 BinOp.add (Value.int IntKind.i64 4) v51 (fun v53 => pBin Try.prog 3 BinOp.lss (vget l48 1) v53 (fun v54 => pIf v54 (pVal false 1 (Value.string ({ data := #[110] })) (pNew w0 9 ([Value.string ({ data := #[110] })]) s52 (fun n55 s56 => pVal true 5 (Value.agg (⟨[vget l48 7, vget l48 8, vget l48 9, vget l48 10, vget l48 11]⟩)) (pNew w0 26 [vget l48 7, vget l48 8, vget l48 9, vget l48 10, vget l48 11] s56 (fun n57 s58 => pVal false 1 (Value.bool true) (pVal false 1 (Value.slice (Option.some (Addr.mk n55 0 Option.none)) 1 1) (pVal false 1 (Value.slice (Option.some (Addr.mk n57 0 Option.none)) 1 1) (pVal true 5 (Value.agg (⟨[Value.bool true, Value.int IntKind.i64 0, Value.string ({ data := #[] }), Value.slice (Option.some (Addr.mk n55 0 Option.none)) 1 1, Value.slice (Option.some (Addr.mk n57 0 Option.none)) 1 1]⟩)) (pBin Try.prog 3 BinOp.add (vget l48 1) (Value.int IntKind.i64 1) (fun v59 => K49 AX.normal ([vget l48 0, v59, vget l48 2, vget l48 3, vget l48 4, vget l48 5, vget l48 6, Value.bool true, Value.int IntKind.i64 0, Value.string ({ data := #[] }), Value.slice (Option.some (Addr.mk n55 0 Option.none)) 1 1, Value.slice (Option.some (Addr.mk n57 0 Option.none)) 1 1]) s58)))))))))) (K49 (AX.exit 3) [vget l48 0, vget l48 1, vget l48 2, vget l48 3, vget l48 4, vget l48 5, vget l48 6, vget l48 7, vget l48 8, vget l48 9, vget l48 10, vget l48 11] s52))))) ([a0, Value.int IntKind.i64 0, Value.bool false, Value.int IntKind.i64 0, Value.string ({ data := #[] }), Value.slice Option.none 0 0, Value.slice Option.none 0 0, cellOf v0 0, cellOf v0 1, cellOf v0 2, cellOf v0 3, cellOf v0 4]) s17 (fun x60 l61 s62 => match x60 with | .normal => pVal true 5 (Value.agg (⟨[vget l61 7, vget l61 8, vget l61 9, vget l61 10, vget l61 11]⟩)) (R (Value.agg (⟨[vget l61 7, vget l61 8, vget l61 9, vget l61 10, vget l61 11]⟩)) s62) | .ret => R (Value.agg (⟨[vget l61 2, vget l61 3, vget l61 4, vget l61 5, vget l61 6]⟩)) s62 | .exit i63 => (match Nat.beq i63 3 with | true => pVal true 5 (Value.agg (⟨[vget l61 7, vget l61 8, vget l61 9, vget l61 10, vget l61 11]⟩)) (R (Value.agg (⟨[vget l61 7, vget l61 8, vget l61 9, vget l61 10, vget l61 11]⟩)) s62) | false => (match Nat.beq i63 0 with | true => pVal true 5 (Value.agg (⟨[vget l61 7, vget l61 8, vget l61 9, vget l61 10, vget l61 11]⟩)) (R (Value.agg (⟨[vget l61 7, vget l61 8, vget l61 9, vget l61 10, vget l61 11]⟩)) s62) | false => False)))) (pLoop (fun l64 K65 s66 => pBin Try.prog 3 BinOp.lss (vget l64 0) (Value.int IntKind.i64 30) (fun v67 => pIf v67 (pBin Try.prog 3 BinOp.add (Value.int IntKind.i64 100) (vget l64 0) (fun v68 => AC Try.prog w0 n_spec_l1Dec [v68] s66 (fun v69 s70 => pBin Try.prog 9 BinOp.add (Value.string ({ data := #[122, 122] })) v69 (fun v71 => pVal false 1 v71 ((allOne [v71]) ∧ (pAppend w0 9 1 16 (vget l64 9) 1 [v71] s70 (fun v72 s73 => pVal false 1 v72 (pVal true 5 (Value.agg (⟨[Value.bool false, Value.int IntKind.i64 0, Value.string ({ data := #[] }), Value.slice Option.none 0 0, Value.slice Option.none 0 0]⟩)) ((allOne ([Value.bool false, Value.int IntKind.i64 0, Value.string ({ data := #[] }), Value.slice Option.none 0 0, Value.slice Option.none 0 0])) ∧ (pAppend w0 26 5 80 (vget l64 10) 1 ([Value.bool false, Value.int IntKind.i64 0, Value.string ({ data := #[] }), Value.slice Option.none 0 0, Value.slice Option.none 0 0]) s73 (fun v74 s75 => pVal false 1 v74 (pBin Try.prog 3 BinOp.add (vget l64 0) (Value.int IntKind.i64 1) (fun v76 => K65 AX.normal [v76, vget l64 1, vget l64 2, vget l64 3, vget l64 4, vget l64 5, vget l64 6, vget l64 7, vget l64 8, v72, v74] s75))))))))))))) (K65 (AX.exit 1) [vget l64 0, vget l64 1, vget l64 2, vget l64 3, vget l64 4, vget l64 5, vget l64 6, vget l64 7, vget l64 8, vget l64 9, vget l64 10] s66))) ([Value.int IntKind.i64 0, Value.bool false, Value.int IntKind.i64 0, Value.string ({ data := #[] }), Value.slice Option.none 0 0, Value.slice Option.none 0 0, cellOf v0 0, cellOf v0 1, cellOf v0 2, cellOf v0 3, cellOf v0 4]) s17 (fun x77 l78 s79 => match x77 with | .normal => pVal true 5 (Value.agg (⟨[vget l78 6, vget l78 7, vget l78 8, vget l78 9, vget l78 10]⟩)) (R (Value.agg (⟨[vget l78 6, vget l78 7, vget l78 8, vget l78 9, vget l78 10]⟩)) s79) | .ret => R (Value.agg (⟨[vget l78 1, vget l78 2, vget l78 3, vget l78 4, vget l78 5]⟩)) s79 | .exit i80 => (match Nat.beq i80 1 with | true => pVal true 5 (Value.agg (⟨[vget l78 6, vget l78 7, vget l78 8, vget l78 9, vget l78 10]⟩)) (R (Value.agg (⟨[vget l78 6, vget l78 7, vget l78 8, vget l78 9, vget l78 10]⟩)) s79) | false => (match Nat.beq i80 0 with | true => pVal true 5 (Value.agg (⟨[vget l78 6, vget l78 7, vget l78 8, vget l78 9, vget l78 10]⟩)) (R (Value.agg (⟨[vget l78 6, vget l78 7, vget l78 8, vget l78 9, vget l78 10]⟩)) s79) | false => False)))))))))))))))))))))) (AC Try.prog w0 n_p_spec_l1Rd_pick [a0, Value.int IntKind.i64 8] s1 (fun v81 s82 => pBin Try.prog 3 BinOp.eql v81 (Value.int IntKind.i64 0) (fun v83 => pIf v83 (pVal false 1 (Value.int IntKind.i64 (-1)) (pVal false 1 (Value.int IntKind.i64 7) (pVal false 1 (Value.int IntKind.i64 8) (pNew w0 3 [Value.int IntKind.i64 (-1), Value.int IntKind.i64 7, Value.int IntKind.i64 8] s82 (fun n84 s85 => AC Try.prog w0 n_p_spec_l1Rd_pick [a0, Value.int IntKind.i64 3] s85 (fun v86 s87 => pIndexAddr 1 (Value.slice (Option.some (Addr.mk n84 0 Option.none)) 3 3) v86 (fun v88 => pLoad w0 1 v88 s87 (fun g89 => pVal false 1 (g89 0) (pVal true 5 (Value.agg (⟨[cellOf v0 0, g89 0, cellOf v0 2, cellOf v0 3, cellOf v0 4]⟩)) (R (Value.agg (⟨[cellOf v0 0, g89 0, cellOf v0 2, cellOf v0 3, cellOf v0 4]⟩)) s87)))))))))) (pBin Try.prog 3 BinOp.eql v81 (Value.int IntKind.i64 1) (fun v90 => pIf v90 (pUn UnOp.not (cellOf v0 0) (fun v91 => pVal false 1 v91 (pVal true 5 (Value.agg (⟨[v91, cellOf v0 1, cellOf v0 2, cellOf v0 3, cellOf v0 4]⟩)) (R (Value.agg (⟨[v91, cellOf v0 1, cellOf v0 2, cellOf v0 3, cellOf v0 4]⟩)) s82)))) (pBin Try.prog 3 BinOp.eql v81 (Value.int IntKind.i64 2) (fun v92 => pIf v92 (pBin Try.prog 9 BinOp.add (cellOf v0 2) (Value.string ({ data := #[120] })) (fun v93 => pVal false 1 v93 (pVal true 5 (Value.agg (⟨[cellOf v0 0, cellOf v0 1, v93, cellOf v0 3, cellOf v0 4]⟩)) (R (Value.agg (⟨[cellOf v0 0, cellOf v0 1, v93, cellOf v0 3, cellOf v0 4]⟩)) s82)))) (pBin Try.prog 3 BinOp.eql v81 (Value.int IntKind.i64 3) (fun v94 => pIf v94 (pVal false 1 (Value.string ({ data := #[122, 122] })) (pVal false 1 (Value.string ({ data := #[] })) (pVal false 1 (Value.string ({ data := #[97] })) (pVal false 1 (Value.string ({ data := #[90] })) (pVal false 1 (Value.string ({ data := #[116, 111, 111, 108, 111, 110, 103] })) (pNew w0 9 ([Value.string ({ data := #[122, 122] }), Value.string ({ data := #[] }), Value.string ({ data := #[97] }), Value.string ({ data := #[90] }), Value.string ({ data := #[116, 111, 111, 108, 111, 110, 103] })]) s82 (fun n95 s96 => AC Try.prog w0 n_p_spec_l1Rd_of [a0, Value.slice (Option.some (Addr.mk n95 0 Option.none)) 5 5] s96 (fun v97 s98 => pVal false 1 v97 ((allOne [v97]) ∧ (pAppend w0 9 1 16 (cellOf v0 3) 1 [v97] s98 (fun v99 s100 => pVal false 1 v99 (pVal true 5 (Value.agg (⟨[Value.bool false, Value.int IntKind.i64 0, Value.string ({ data := #[] }), Value.slice Option.none 0 0, Value.slice Option.none 0 0]⟩)) ((allOne ([Value.bool false, Value.int IntKind.i64 0, Value.string ({ data := #[] }), Value.slice Option.none 0 0, Value.slice Option.none 0 0])) ∧ (pAppend w0 26 5 80 (cellOf v0 4) 1 ([Value.bool false, Value.int IntKind.i64 0, Value.string ({ data := #[] }), Value.slice Option.none 0 0, Value.slice Option.none 0 0]) s100 (fun v101 s102 => pVal false 1 v101 (pVal true 5 (Value.agg (⟨[cellOf v0 0, cellOf v0 1, cellOf v0 2, v99, v101]⟩)) (R (Value.agg (⟨[cellOf v0 0, cellOf v0 1, cellOf v0 2, v99, v101]⟩)) s102))))))))))))))))) (pBin Try.prog 3 BinOp.eql v81 (Value.int IntKind.i64 4) (fun v103 => pIf v103 (pVal false 1 (Value.string ({ data := #[122, 122, 122] })) ((allOne ([Value.string ({ data := #[122, 122, 122] })])) ∧ (pAppend w0 9 1 16 (cellOf v0 3) 1 ([Value.string ({ data := #[122, 122, 122] })]) s82 (fun v104 s105 => pVal false 1 v104 (pVal true 5 (Value.agg (⟨[cellOf v0 0, cellOf v0 1, cellOf v0 2, v104, cellOf v0 4]⟩)) (R (Value.agg (⟨[cellOf v0 0, cellOf v0 1, cellOf v0 2, v104, cellOf v0 4]⟩)) s105)))))) (pBin Try.prog 3 BinOp.eql v81 (Value.int IntKind.i64 5) (fun v106 => pIf v106 (AC Try.prog w0 n_p_spec_l1Rd_pick [a0, Value.int IntKind.i64 2] s82 (fun v107 s108 => pBin Try.prog 3 BinOp.add (Value.int IntKind.i64 24) v107 (fun v109 => AC Try.prog w0 n_spec_l1Many ([Value.string ({ data := #[100] }), v109]) s108 (fun v110 s111 => pVal false 1 v110 (pVal true 5 (Value.agg (⟨[cellOf v0 0, cellOf v0 1, v110, cellOf v0 3, cellOf v0 4]⟩)) (R (Value.agg (⟨[cellOf v0 0, cellOf v0 1, v110, cellOf v0 3, cellOf v0 4]⟩)) s111)))))) (pBin Try.prog 3 BinOp.eql v81 (Value.int IntKind.i64 6) (fun v112 => pIf v112 (pLoop (fun l113 K114 s115 => AC Try.prog w0 n_p_spec_l1Rd_pick [vget l113 0, Value.int IntKind.i64 2] s115 (fun v116 s117 => pBin Try.prog 3 BinOp.add (Value.int IntKind.i64 4) v116 (fun v118 => pBin Try.prog 3 BinOp.lss (vget l113 1) v118 (fun v119 => pIf v119 (pVal false 1 (Value.string ({ data := #[110] })) (pNew w0 9 ([Value.string ({ data := #[110] })]) s117 (fun n120 s121 => pVal true 5 (Value.agg (⟨[vget l113 7, vget l113 8, vget l113 9, vget l113 10, vget l113 11]⟩)) (pNew w0 26 [vget l113 7, vget l113 8, vget l113 9, vget l113 10, vget l113 11] s121 (fun n122 s123 => pVal false 1 (Value.bool true) (pVal false 1 (Value.slice (Option.some (Addr.mk n120 0 Option.none)) 1 1) (pVal false 1 (Value.slice (Option.some (Addr.mk n122 0 Option.none)) 1 1) (pVal true 5 (Value.agg (⟨[Value.bool true, Value.int IntKind.i64 0, Value.string ({ data := #[] }), Value.slice (Option.some (Addr.mk n120 0 Option.none)) 1 1, Value.slice (Option.some (Addr.mk n122 0 Option.none)) 1 1]⟩)) (pBin Try.prog 3 BinOp.add (vget l113 1) (Value.int IntKind.i64 1) (fun v124 => K114 AX.normal ([vget l113 0, v124, vget l113 2, vget l113 3, vget l113 4, vget l113 5, vget l113 6, Value.bool true, Value.int IntKind.i64 0, Value.string ({ data := #[] }), Value.slice (Option.some (Addr.mk n120 0 Option.none)) 1 1, Value.slice (Option.some (Addr.mk n122 0 Option.none)) 1 1]) s123)))))))))) (K114 (AX.exit 3) [vget l113 0, vget l113 1, vget l113 2, vget l113 3, vget l113 4, vget l113 5, vget l113 6, vget l113 7, vget l113 8, vget l113 9, vget l113 10, vget l113 11] s117))))) ([a0, Value.int IntKind.i64 0, Value.bool false, Value.int IntKind.i64 0, Value.string ({ data := #[] }), Value.slice Option.none 0 0, Value.slice Option.none 0 0, cellOf v0 0, cellOf v0 1, cellOf v0 2, cellOf v0 3, cellOf v0 4]) s82 (fun x125 l126 s127 => match x125 with | .normal => pVal true 5 (Value.agg (⟨[vget l126 7, vget l126 8, vget l126 9, vget l126 10, vget l126 11]⟩)) (R (Value.agg (⟨[vget l126 7, vget l126 8, vget l126 9, vget l126 10, vget l126 11]⟩)) s127) | .ret => R (Value.agg (⟨[vget l126 2, vget l126 3, vget l126 4, vget l126 5, vget l126 6]⟩)) s127 | .exit i128 => (match Nat.beq i128 3 with | true => pVal true 5 (Value.agg (⟨[vget l126 7, vget l126 8, vget l126 9, vget l126 10, vget l126 11]⟩)) (R (Value.agg (⟨[vget l126 7, vget l126 8, vget l126 9, vget l126 10, vget l126 11]⟩)) s127) | false => (match Nat.beq i128 0 with | true => pVal true 5 (Value.agg (⟨[vget l126 7, vget l126 8, vget l126 9, vget l126 10, vget l126 11]⟩)) (R (Value.agg (⟨[vget l126 7, vget l126 8, vget l126 9, vget l126 10, vget l126 11]⟩)) s127) | false => False)))) (pLoop (fun l129 K130 s131 => pBin Try.prog 3 BinOp.lss (vget l129 0) (Value.int IntKind.i64 30) (fun v132 => pIf v132 (pBin Try.prog 3 BinOp.add (Value.int IntKind.i64 100) (vget l129 0) (fun v133 => AC Try.prog w0 n_spec_l1Dec [v133] s131 (fun v134 s135 => pBin Try.prog 9 BinOp.add (Value.string ({ data := #[122, 122] })) v134 (fun v136 => pVal false 1 v136 ((allOne [v136]) ∧ (pAppend w0 9 1 16 (vget l129 9) 1 [v136] s135 (fun v137 s138 => pVal false 1 v137 (pVal true 5 (Value.agg (⟨[Value.bool false, Value.int IntKind.i64 0, Value.string ({ data := #[] }), Value.slice Option.none 0 0, Value.slice Option.none 0 0]⟩)) ((allOne ([Value.bool false, Value.int IntKind.i64 0, Value.string ({ data := #[] }), Value.slice Option.none 0 0, Value.slice Option.none 0 0])) ∧ (pAppend w0 26 5 80 (vget l129 10) 1 ([Value.bool false, Value.int IntKind.i64 0, Value.string ({ data := #[] }), Value.slice Option.none 0 0, Value.slice Option.none 0 0]) s138 (fun v139 s140 => pVal false 1 v139 (pBin Try.prog 3 BinOp.add (vget l129 0) (Value.int IntKind.i64 1) (fun v141 => K130 AX.normal [v141, vget l129 1, vget l129 2, vget l129 3, vget l129 4, vget l129 5, vget l129 6, vget l129 7, vget l129 8, v137, v139] s140))))))))))))) (K130 (AX.exit 1) [vget l129 0, vget l129 1, vget l129 2, vget l129 3, vget l129 4, vget l129 5, vget l129 6, vget l129 7, vget l129 8, vget l129 9, vget l129 10] s131))) ([Value.int IntKind.i64 0, Value.bool false, Value.int IntKind.i64 0, Value.string ({ data := #[] }), Value.slice Option.none 0 0, Value.slice Option.none 0 0, cellOf v0 0, cellOf v0 1, cellOf v0 2, cellOf v0 3, cellOf v0 4]) s82 (fun x142 l143 s144 => match x142 with | .normal => pVal true 5 (Value.agg (⟨[vget l143 6, vget l143 7, vget l143 8, vget l143 9, vget l143 10]⟩)) (R (Value.agg (⟨[vget l143 6, vget l143 7, vget l143 8, vget l143 9, vget l143 10]⟩)) s144) | .ret => R (Value.agg (⟨[vget l143 1, vget l143 2, vget l143 3, vget l143 4, vget l143 5]⟩)) s144 | .exit i145 => (match Nat.beq i145 1 with | true => pVal true 5 (Value.agg (⟨[vget l143 6, vget l143 7, vget l143 8, vget l143 9, vget l143 10]⟩)) (R (Value.agg (⟨[vget l143 6, vget l143 7, vget l143 8, vget l143 9, vget l143 10]⟩)) s144) | false => (match Nat.beq i145 0 with | true => pVal true 5 (Value.agg (⟨[vget l143 6, vget l143 7, vget l143 8, vget l143 9, vget l143 10]⟩)) (R (Value.agg (⟨[vget l143 6, vget l143 7, vget l143 8, vget l143 9, vget l143 10]⟩)) s144) | false => False))))))))))))))))))))))))
theorem vc_spec_l4Spoil_eq (w0 : World) (a0 a1 : Value) (σ : Vw) (R : Value → Vw → Prop) : vc_spec_l4Spoil w0 a0 a1 σ R = den Try.prog w0 kp_spec_l4Spoil esc_spec_l4Spoil (Try.f66.body.getD .skip) (entry Try.f66.ntmps [a0, a1]) σ (retK Try.prog Try.f66.results.toList R) := by kernel_rfl
theorem ac_spec_l4Spoil {w0 : World} {a0 a1 : Value} {σ : Vw} {R : Value → Vw → Prop} (h : vc_spec_l4Spoil w0 a0 a1 σ R) : AC Try.prog w0 n_spec_l4Spoil [a0, a1] σ R := by
  refine ac_rule (fn := Try.f66) (c := Try.f66.body.getD .skip) kp_spec_l4Spoil esc_spec_l4Spoil Try.func66 (by kernel_rfl) (by kernel_rfl) ?_
  rw [← vc_spec_l4Spoil_eq]
  exact h

/-- spec.l4Tree -/
def kp_spec_l4Tree : Nat → Keep
  | 3 => ⟨[0, 4], [(2, 5), (3, 5)], [2, 3], .done, []⟩
  | 5 => ⟨[], [], [], .step 0 (.step 3 (.step 4 (.step 7 (.step 1 (.step 2 (.step 5 (.step 6 (.step 8 (.done))))))))), [(1, [0]), (2, [0, 1]), (5, [0, 1, 3, 4]), (6, [0, 1, 2, 3, 4, 5]), (8, [0, 1, 2, 3, 4, 5, 6, 7])]⟩
  | 11 => ⟨[], [], [], .step 0 (.step 1 (.step 2 (.step 3 (.step 4 (.step 5 (.done)))))), [(3, [2]), (4, [0, 1, 2, 3]), (5, [0, 1, 2, 3, 4])]⟩
  | _ => ⟨[], [], [], .done, []⟩
def esc_spec_l4Tree : Nat → Bool
  | _ => false
def vc_spec_l4Tree (w0 : World) (a0 : Value) (σ : Vw) (R : Value → Vw → Prop) : Prop :=
  AC Try.prog w0 n_p_spec_l1Rd_pick [a0, Value.int IntKind.i64 8] σ (fun v0 s1 => AC Try.prog w0 n_p_spec_l1Rd_pick [a0, Value.int IntKind.i64 2] s1 (fun v2 s3 => pBin Try.prog 3 BinOp.mul v0 v2 (fun v4 => pVal false 1 (Value.bool true) (pVal false 1 v4 (pVal true 5 (Value.agg (⟨[Value.bool true, v4, Value.string ({ data := #[] }), Value.slice Option.none 0 0, Value.slice Option.none 0 0]⟩)) (AC Try.prog w0 n_p_spec_l1Rd_pick [a0, Value.int IntKind.i64 12] s3 (fun v5 s6 => pLoop (fun l7 K8 s9 => pBin Try.prog 3 BinOp.gtr (vget l7 1) (Value.int IntKind.i64 0) (fun v10 => pIf v10 (AC Try.prog w0 n_p_spec_l1Rd_pick [vget l7 0, Value.int IntKind.i64 2] s9 (fun v11 s12 => pBin Try.prog 3 BinOp.add (Value.int IntKind.i64 1) v11 (fun v13 => AC Try.prog w0 n_spec_l4Path ([vget l7 0, Value.agg (⟨[vget l7 7, vget l7 8, vget l7 9, vget l7 10, vget l7 11]⟩)]) s12 (fun v14 s15 => pVal false 1 v13 (pVal false 1 v14 (pVal true 5 (Value.agg (⟨[v13, v14, Value.slice Option.none 0 0, Value.int IntKind.i64 0, Value.string ({ data := #[] })]⟩)) (pBin Try.prog 3 BinOp.eql v13 (Value.int IntKind.i64 2) (fun v16 => pIf v16 (AC Try.prog w0 n_spec_l4Data [vget l7 0] s15 (fun v17 s18 => pVal false 1 v17 (AC Try.prog w0 n_spec_TreeDo ([Value.agg (⟨[vget l7 7, vget l7 8, vget l7 9, vget l7 10, vget l7 11]⟩), Value.agg (⟨[v13, v14, Value.slice Option.none 0 0, Value.int IntKind.i64 0, v17]⟩)]) s18 (fun v19 s20 => pExtract v19 0 (fun v21 => pExtract v19 1 (fun v22 => pVal true 5 v21 (pBin Try.prog 3 BinOp.eql v22 (Value.int IntKind.i64 0) (fun v23 => pIf v23 (pVal true 5 (Value.agg (⟨[cellOf v21 0, cellOf v21 1, cellOf v21 2, cellOf v21 3, cellOf v21 4]⟩)) (pBin Try.prog 3 BinOp.sub (vget l7 1) (Value.int IntKind.i64 1) (fun v24 => K8 AX.normal [vget l7 0, v24, vget l7 2, vget l7 3, vget l7 4, vget l7 5, vget l7 6, cellOf v21 0, cellOf v21 1, cellOf v21 2, cellOf v21 3, cellOf v21 4] s20))) (pBin Try.prog 3 BinOp.sub (vget l7 1) (Value.int IntKind.i64 1) (fun v25 => K8 AX.normal [vget l7 0, v25, vget l7 2, vget l7 3, vget l7 4, vget l7 5, vget l7 6, vget l7 7, vget l7 8, vget l7 9, vget l7 10, vget l7 11] s20)))))))))) (AC Try.prog w0 n_spec_TreeDo ([Value.agg (⟨[vget l7 7, vget l7 8, vget l7 9, vget l7 10, vget l7 11]⟩), Value.agg (⟨[v13, v14, Value.slice Option.none 0 0, Value.int IntKind.i64 0, Value.string ({ data := #[] })]⟩)]) s15 (fun v26 s27 => pExtract v26 0 (fun v28 => pExtract v26 1 (fun v29 => pVal true 5 v28 (pBin Try.prog 3 BinOp.eql v29 (Value.int IntKind.i64 0) (fun v30 => pIf v30 (pVal true 5 (Value.agg (⟨[cellOf v28 0, cellOf v28 1, cellOf v28 2, cellOf v28 3, cellOf v28 4]⟩)) (pBin Try.prog 3 BinOp.sub (vget l7 1) (Value.int IntKind.i64 1) (fun v31 => K8 AX.normal [vget l7 0, v31, vget l7 2, vget l7 3, vget l7 4, vget l7 5, vget l7 6, cellOf v28 0, cellOf v28 1, cellOf v28 2, cellOf v28 3, cellOf v28 4] s27))) (pBin Try.prog 3 BinOp.sub (vget l7 1) (Value.int IntKind.i64 1) (fun v32 => K8 AX.normal [vget l7 0, v32, vget l7 2, vget l7 3, vget l7 4, vget l7 5, vget l7 6, vget l7 7, vget l7 8, vget l7 9, vget l7 10, vget l7 11] s27)))))))))))))))) (K8 (AX.exit 0) [vget l7 0, vget l7 1, vget l7 2, vget l7 3, vget l7 4, vget l7 5, vget l7 6, vget l7 7, vget l7 8, vget l7 9, vget l7 10, vget l7 11] s9))) ([a0, v5, Value.bool false, Value.int IntKind.i64 0, Value.string ({ data := #[] }), Value.slice Option.none 0 0, Value.slice Option.none 0 0, Value.bool true, v4, Value.string ({ data := #[] }), Value.slice Option.none 0 0, Value.slice Option.none 0 0]) s6 (fun x33 l34 s35 => match x33 with | .normal => AC Try.prog w0 n_p_spec_l1Rd_pick [vget l34 0, Value.int IntKind.i64 6] s35 (fun v36 s37 => AC Try.prog w0 n_spec_l4Calls ([vget l34 0, Value.agg (⟨[vget l34 7, vget l34 8, vget l34 9, vget l34 10, vget l34 11]⟩), v36]) s37 (fun v38 s39 => pVal true 5 v38 (R (Value.agg (⟨[cellOf v38 0, cellOf v38 1, cellOf v38 2, cellOf v38 3, cellOf v38 4]⟩)) s39))) | .ret => R (Value.agg (⟨[vget l34 2, vget l34 3, vget l34 4, vget l34 5, vget l34 6]⟩)) s35 | .exit i40 => (match Nat.beq i40 0 with | true => AC Try.prog w0 n_p_spec_l1Rd_pick [vget l34 0, Value.int IntKind.i64 6] s35 (fun v41 s42 => AC Try.prog w0 n_spec_l4Calls ([vget l34 0, Value.agg (⟨[vget l34 7, vget l34 8, vget l34 9, vget l34 10, vget l34 11]⟩), v41]) s42 (fun v43 s44 => pVal true 5 v43 (R (Value.agg (⟨[cellOf v43 0, cellOf v43 1, cellOf v43 2, cellOf v43 3, cellOf v43 4]⟩)) s44))) | false => False)))))))))
theorem vc_spec_l4Tree_eq (w0 : World) (a0 : Value) (σ : Vw) (R : Value → Vw → Prop) : vc_spec_l4Tree w0 a0 σ R = den Try.prog w0 kp_spec_l4Tree esc_spec_l4Tree (Try.f67.body.getD .skip) (entry Try.f67.ntmps [a0]) σ (retK Try.prog Try.f67.results.toList R) := by kernel_rfl
theorem ac_spec_l4Tree {w0 : World} {a0 : Value} {σ : Vw} {R : Value → Vw → Prop} (h : vc_spec_l4Tree w0 a0 σ R) : AC Try.prog w0 n_spec_l4Tree [a0] σ R := by
  refine ac_rule (fn := Try.f67) (c := Try.f67.body.getD .skip) kp_spec_l4Tree esc_spec_l4Tree Try.func67 (by kernel_rfl) (by kernel_rfl) ?_
  rw [← vc_spec_l4Tree_eq]
  exact h

/-- spec.l4Full -/
def kp_spec_l4Full : Nat → Keep
  | 3 => ⟨[0, 4], [(2, 5), (3, 5)], [2, 3], .done, []⟩
  | 5 => ⟨[], [], [], .step 0 (.step 1 (.step 2 (.step 3 (.step 4 (.step 5 (.step 6 (.step 7 (.step 8 (.step 9 (.step 10 (.step 11 (.done)))))))))))), [(2, [1]), (3, [1, 2]), (4, [1, 2, 3]), (5, [1, 2, 3, 4]), (6, [1, 2, 3, 4, 5]), (7, [0, 1, 2, 3, 4, 5, 6]), (8, [0, 1, 2, 3, 4, 5, 6, 7]), (9, [0, 1, 2, 3, 4, 5, 6, 7, 8]), (10, [0, 1, 2, 3, 4, 5, 6, 7, 8]), (11, [0, 1, 2, 3, 4, 5, 6, 7, 8, 9])]⟩
  | _ => ⟨[], [], [], .done, []⟩
def esc_spec_l4Full : Nat → Bool
  | 19 => true
  | _ => false
def vc_spec_l4Full (w0 : World) (a0 : Value) (σ : Vw) (R : Value → Vw → Prop) : Prop :=
  pVal false 1 (Value.bool true) (pVal true 5 (Value.agg (⟨[Value.bool true, Value.int IntKind.i64 0, Value.string ({ data := #[] }), Value.slice Option.none 0 0, Value.slice Option.none 0 0]⟩)) (pLoop (fun l0 K1 s2 => AC Try.prog w0 n_p_spec_l1Rd_pick [vget l0 0, Value.int IntKind.i64 3] s2 (fun v3 s4 => pBin Try.prog 3 BinOp.sub (Value.int IntKind.i64 30) v3 (fun v5 => pBin Try.prog 3 BinOp.lss (vget l0 1) v5 (fun v6 => pIf v6 (pBin Try.prog 3 BinOp.add (Value.int IntKind.i64 100) (vget l0 1) (fun v7 => AC Try.prog w0 n_spec_l1Dec [v7] s4 (fun v8 s9 => pBin Try.prog 9 BinOp.add (Value.string ({ data := #[102] })) v8 (fun v10 => pVal false 1 v10 (pNew w0 9 [v10] s9 (fun n11 s12 => pVal false 1 (Value.int IntKind.i64 2) (pVal false 1 (Value.slice (Option.some (Addr.mk n11 0 Option.none)) 1 1) (AC Try.prog w0 n_spec_TreeDo ([Value.agg (⟨[vget l0 7, vget l0 8, vget l0 9, vget l0 10, vget l0 11]⟩), Value.agg (⟨[Value.int IntKind.i64 2, Value.slice (Option.some (Addr.mk n11 0 Option.none)) 1 1, Value.slice Option.none 0 0, Value.int IntKind.i64 0, Value.string ({ data := #[] })]⟩)]) s12 (fun v13 s14 => pExtract v13 0 (fun v15 => pExtract v13 1 (fun v16 => pVal true 5 v15 (pBin Try.prog 3 BinOp.add (vget l0 1) (Value.int IntKind.i64 1) (fun v17 => K1 AX.normal [vget l0 0, v17, vget l0 2, vget l0 3, vget l0 4, vget l0 5, vget l0 6, cellOf v15 0, cellOf v15 1, cellOf v15 2, cellOf v15 3, cellOf v15 4] s14))))))))))))) (K1 (AX.exit 0) [vget l0 0, vget l0 1, vget l0 2, vget l0 3, vget l0 4, vget l0 5, vget l0 6, vget l0 7, vget l0 8, vget l0 9, vget l0 10, vget l0 11] s4))))) ([a0, Value.int IntKind.i64 0, Value.bool false, Value.int IntKind.i64 0, Value.string ({ data := #[] }), Value.slice Option.none 0 0, Value.slice Option.none 0 0, Value.bool true, Value.int IntKind.i64 0, Value.string ({ data := #[] }), Value.slice Option.none 0 0, Value.slice Option.none 0 0]) σ (fun x18 l19 s20 => match x18 with | .normal => pVal true 5 (Value.agg (⟨[vget l19 7, vget l19 8, vget l19 9, vget l19 10, vget l19 11]⟩)) (R (Value.agg (⟨[vget l19 7, vget l19 8, vget l19 9, vget l19 10, vget l19 11]⟩)) s20) | .ret => R (Value.agg (⟨[vget l19 2, vget l19 3, vget l19 4, vget l19 5, vget l19 6]⟩)) s20 | .exit i21 => (match Nat.beq i21 0 with | true => pVal true 5 (Value.agg (⟨[vget l19 7, vget l19 8, vget l19 9, vget l19 10, vget l19 11]⟩)) (R (Value.agg (⟨[vget l19 7, vget l19 8, vget l19 9, vget l19 10, vget l19 11]⟩)) s20) | false => False))))
theorem vc_spec_l4Full_eq (w0 : World) (a0 : Value) (σ : Vw) (R : Value → Vw → Prop) : vc_spec_l4Full w0 a0 σ R = den Try.prog w0 kp_spec_l4Full esc_spec_l4Full (Try.f68.body.getD .skip) (entry Try.f68.ntmps [a0]) σ (retK Try.prog Try.f68.results.toList R) := by kernel_rfl
theorem ac_spec_l4Full {w0 : World} {a0 : Value} {σ : Vw} {R : Value → Vw → Prop} (h : vc_spec_l4Full w0 a0 σ R) : AC Try.prog w0 n_spec_l4Full [a0] σ R := by
  refine ac_rule (fn := Try.f68) (c := Try.f68.body.getD .skip) kp_spec_l4Full esc_spec_l4Full Try.func68 (by kernel_rfl) (by kernel_rfl) ?_
  rw [← vc_spec_l4Full_eq]
  exact h

/-- spec.l4Name -/
def kp_spec_l4Name : Nat → Keep
  | _ => ⟨[], [], [], .done, []⟩
def esc_spec_l4Name : Nat → Bool
  | 4 => true
  | _ => false
def vc_spec_l4Name (w0 : World) (a0 : Value) (σ : Vw) (R : Value → Vw → Prop) : Prop :=
  pVal false 1 (Value.string ({ data := #[97] })) (pVal false 1 (Value.string ({ data := #[98] })) (pVal false 1 (Value.string ({ data := #[99] })) (pVal false 1 (Value.string ({ data := #[100, 49] })) (pVal false 1 (Value.string ({ data := #[101] })) (pNew w0 9 ([Value.string ({ data := #[97] }), Value.string ({ data := #[98] }), Value.string ({ data := #[99] }), Value.string ({ data := #[100, 49] }), Value.string ({ data := #[101] })]) σ (fun n0 s1 => AC Try.prog w0 n_p_spec_l1Rd_of [a0, Value.slice (Option.some (Addr.mk n0 0 Option.none)) 5 5] s1 (fun v2 s3 => R v2 s3)))))))
theorem vc_spec_l4Name_eq (w0 : World) (a0 : Value) (σ : Vw) (R : Value → Vw → Prop) : vc_spec_l4Name w0 a0 σ R = den Try.prog w0 kp_spec_l4Name esc_spec_l4Name (Try.f69.body.getD .skip) (entry Try.f69.ntmps [a0]) σ (retK Try.prog Try.f69.results.toList R) := by kernel_rfl
theorem ac_spec_l4Name {w0 : World} {a0 : Value} {σ : Vw} {R : Value → Vw → Prop} (h : vc_spec_l4Name w0 a0 σ R) : AC Try.prog w0 n_spec_l4Name [a0] σ R := by
  refine ac_rule (fn := Try.f69) (c := Try.f69.body.getD .skip) kp_spec_l4Name esc_spec_l4Name Try.func69 (by kernel_rfl) (by kernel_rfl) ?_
  rw [← vc_spec_l4Name_eq]
  exact h

/-- spec.l1Find -/
def kp_spec_l1Find : Nat → Keep
  | 2 => ⟨[1, 4, 5], [(2, 5)], [2], .done, []⟩
  | _ => ⟨[], [], [], .done, []⟩
def esc_spec_l1Find : Nat → Bool
  | _ => false
def vc_spec_l1Find (w0 : World) (a0 a1 : Value) (σ : Vw) (R : Value → Vw → Prop) : Prop :=
  pVal true 5 a0 (pLoop (fun l0 K1 s2 => pLen (vget l0 6) (fun v3 => pBin Try.prog 3 BinOp.lss (vget l0 2) v3 (fun v4 => pIf v4 (pIndexAddr 1 (vget l0 6) (vget l0 2) (fun v5 => pLoad w0 1 v5 s2 (fun g6 => pBin Try.prog 9 BinOp.eql (g6 0) (vget l0 0) (fun v7 => pIf v7 (K1 AX.ret [vget l0 0, vget l0 2, vget l0 2, vget l0 3, vget l0 4, vget l0 5, vget l0 6, vget l0 7] s2) (pBin Try.prog 3 BinOp.add (vget l0 2) (Value.int IntKind.i64 1) (fun v8 => K1 AX.normal [vget l0 0, vget l0 1, v8, vget l0 3, vget l0 4, vget l0 5, vget l0 6, vget l0 7] s2)))))) (K1 (AX.exit 0) [vget l0 0, vget l0 1, vget l0 2, vget l0 3, vget l0 4, vget l0 5, vget l0 6, vget l0 7] s2)))) [a1, Value.int IntKind.i64 0, Value.int IntKind.i64 0, cellOf a0 0, cellOf a0 1, cellOf a0 2, cellOf a0 3, cellOf a0 4] σ (fun x9 l10 s11 => match x9 with | .normal => R (Value.int IntKind.i64 (-1)) s11 | .ret => R (vget l10 1) s11 | .exit i12 => (match Nat.beq i12 0 with | true => R (Value.int IntKind.i64 (-1)) s11 | false => False)))
theorem vc_spec_l1Find_eq (w0 : World) (a0 a1 : Value) (σ : Vw) (R : Value → Vw → Prop) : vc_spec_l1Find w0 a0 a1 σ R = den Try.prog w0 kp_spec_l1Find esc_spec_l1Find (Try.f70.body.getD .skip) (entry Try.f70.ntmps [a0, a1]) σ (retK Try.prog Try.f70.results.toList R) := by kernel_rfl
theorem ac_spec_l1Find {w0 : World} {a0 a1 : Value} {σ : Vw} {R : Value → Vw → Prop} (h : vc_spec_l1Find w0 a0 a1 σ R) : AC Try.prog w0 n_spec_l1Find [a0, a1] σ R := by
  refine ac_rule (fn := Try.f70) (c := Try.f70.body.getD .skip) kp_spec_l1Find esc_spec_l1Find Try.func70 (by kernel_rfl) (by kernel_rfl) ?_
  rw [← vc_spec_l1Find_eq]
  exact h

/-- (impl.Tree).sound -/
def kp_impl_Tree_sound : Nat → Keep
  | 8 => ⟨[1, 4, 41, 42, 43], [(2, 5)], [2], .done, []⟩
  | _ => ⟨[], [], [], .done, []⟩
def esc_impl_Tree_sound : Nat → Bool
  | _ => false
def vc_impl_Tree_sound (w0 : World) (a0 a1 : Value) (σ : Vw) (R : Value → Vw → Prop) : Prop :=
  pVal true 5 a0 (AC Try.prog w0 n_impl_modeOk [cellOf a0 1] σ (fun v0 s1 => pUn UnOp.not v0 (fun v2 => pIf v2 (R (Value.bool false) s1) (pBin Try.prog 3 BinOp.gtr a1 (Value.int IntKind.i64 4) (fun v3 => pIf v3 (R (Value.bool false) s1) (pLen (cellOf a0 3) (fun v4 => pLen (cellOf a0 4) (fun v5 => pBin Try.prog 3 BinOp.neq v4 v5 (fun v6 => pIf v6 (R (Value.bool false) s1) (pUn UnOp.not (cellOf a0 0) (fun v7 => pIf v7 (pLenS (cellOf a0 2) (fun v8 => pBin Try.prog 3 BinOp.leq v8 (Value.int IntKind.i64 24) (fun v9 => pIf v9 (pLen (cellOf a0 3) (fun v10 => pBin Try.prog 3 BinOp.eql v10 (Value.int IntKind.i64 0) (fun v11 => R v11 s1))) (R (Value.bool false) s1)))) (pBin Try.prog 9 BinOp.neq (cellOf a0 2) (Value.string ({ data := #[] })) (fun v12 => pIf v12 (R (Value.bool false) s1) (pLen (cellOf a0 3) (fun v13 => pLoop (fun l14 K15 s16 => pBin Try.prog 3 BinOp.lss (vget l14 4) (vget l14 3) (fun v17 => pIf v17 (pIndexAddr 1 (vget l14 2) (vget l14 4) (fun v18 => pLoad w0 1 v18 s16 (fun g19 => AC Try.prog w0 n_impl_nameOk [g19 0] s16 (fun v20 s21 => pUn UnOp.not v20 (fun v22 => pIf v22 (K15 AX.ret [vget l14 0, Value.bool false, vget l14 2, vget l14 3, vget l14 4, vget l14 5, vget l14 6, vget l14 7, vget l14 8, vget l14 9] s21) (pBin Try.prog 3 BinOp.gtr (vget l14 4) (Value.int IntKind.i64 0) (fun v23 => pIf v23 (pBin Try.prog 3 BinOp.sub (vget l14 4) (Value.int IntKind.i64 1) (fun v24 => pIndexAddr 1 (vget l14 8) v24 (fun v25 => pLoad w0 1 v25 s21 (fun g26 => pBin Try.prog 9 BinOp.geq (g26 0) (g19 0) (fun v27 => pIf v27 (K15 AX.ret [vget l14 0, Value.bool false, vget l14 2, vget l14 3, vget l14 4, vget l14 5, vget l14 6, vget l14 7, vget l14 8, vget l14 9] s21) (pIndexAddr 5 (vget l14 9) (vget l14 4) (fun v28 => pLoad w0 5 v28 s21 (fun g29 => pBin Try.prog 3 BinOp.add (vget l14 0) (Value.int IntKind.i64 1) (fun v30 => AC Try.prog w0 n_impl_Tree_sound ([Value.agg (⟨[g29 0, g29 1, g29 2, g29 3, g29 4]⟩), v30]) s21 (fun v31 s32 => pUn UnOp.not v31 (fun v33 => pIf v33 (K15 AX.ret [vget l14 0, Value.bool false, vget l14 2, vget l14 3, vget l14 4, vget l14 5, vget l14 6, vget l14 7, vget l14 8, vget l14 9] s32) (pBin Try.prog 3 BinOp.add (vget l14 4) (Value.int IntKind.i64 1) (fun v34 => K15 AX.normal [vget l14 0, vget l14 1, vget l14 2, vget l14 3, v34, vget l14 5, vget l14 6, vget l14 7, vget l14 8, vget l14 9] s32))))))))))))) (pIndexAddr 5 (vget l14 9) (vget l14 4) (fun v35 => pLoad w0 5 v35 s21 (fun g36 => pBin Try.prog 3 BinOp.add (vget l14 0) (Value.int IntKind.i64 1) (fun v37 => AC Try.prog w0 n_impl_Tree_sound ([Value.agg (⟨[g36 0, g36 1, g36 2, g36 3, g36 4]⟩), v37]) s21 (fun v38 s39 => pUn UnOp.not v38 (fun v40 => pIf v40 (K15 AX.ret [vget l14 0, Value.bool false, vget l14 2, vget l14 3, vget l14 4, vget l14 5, vget l14 6, vget l14 7, vget l14 8, vget l14 9] s39) (pBin Try.prog 3 BinOp.add (vget l14 4) (Value.int IntKind.i64 1) (fun v41 => K15 AX.normal [vget l14 0, vget l14 1, vget l14 2, vget l14 3, v41, vget l14 5, vget l14 6, vget l14 7, vget l14 8, vget l14 9] s39))))))))))))))) (K15 (AX.exit 0) [vget l14 0, vget l14 1, vget l14 2, vget l14 3, vget l14 4, vget l14 5, vget l14 6, vget l14 7, vget l14 8, vget l14 9] s16))) [a1, Value.bool false, cellOf a0 3, v13, Value.int IntKind.i64 0, cellOf a0 0, cellOf a0 1, cellOf a0 2, cellOf a0 3, cellOf a0 4] s1 (fun x42 l43 s44 => match x42 with | .normal => R (Value.bool true) s44 | .ret => R (vget l43 1) s44 | .exit i45 => (match Nat.beq i45 0 with | true => R (Value.bool true) s44 | false => False)))))))))))))))))
theorem vc_impl_Tree_sound_eq (w0 : World) (a0 a1 : Value) (σ : Vw) (R : Value → Vw → Prop) : vc_impl_Tree_sound w0 a0 a1 σ R = den Try.prog w0 kp_impl_Tree_sound esc_impl_Tree_sound (Try.f71.body.getD .skip) (entry Try.f71.ntmps [a0, a1]) σ (retK Try.prog Try.f71.results.toList R) := by kernel_rfl
theorem ac_impl_Tree_sound {w0 : World} {a0 a1 : Value} {σ : Vw} {R : Value → Vw → Prop} (h : vc_impl_Tree_sound w0 a0 a1 σ R) : AC Try.prog w0 n_impl_Tree_sound [a0, a1] σ R := by
  refine ac_rule (fn := Try.f71) (c := Try.f71.body.getD .skip) kp_impl_Tree_sound esc_impl_Tree_sound Try.func71 (by kernel_rfl) (by kernel_rfl) ?_
  rw [← vc_impl_Tree_sound_eq]
  exact h

/-- (*impl.Tree).kid -/
def kp_p_impl_Tree_kid : Nat → Keep
  | _ => ⟨[], [], [], .done, []⟩
def esc_p_impl_Tree_kid : Nat → Bool
  | _ => false
def vc_p_impl_Tree_kid (w0 : World) (a0 a1 : Value) (σ : Vw) (R : Value → Vw → Prop) : Prop :=
  pNil a0 (pField 3 a0 (fun v0 => pLoad w0 1 v0 σ (fun g1 => AC Try.prog w0 n_slices_Index_string_string [g1 0, a1] σ (fun v2 s3 => pBin Try.prog 3 BinOp.lss v2 (Value.int IntKind.i64 0) (fun v4 => pIf v4 (R (Value.pointer Option.none) s3) (pNil a0 (pField 4 a0 (fun v5 => pLoad w0 1 v5 s3 (fun g6 => pLen (g6 0) (fun v7 => pBin Try.prog 3 BinOp.geq v2 v7 (fun v8 => pIf v8 (R (Value.pointer Option.none) s3) (pNil a0 (pField 4 a0 (fun v9 => pLoad w0 1 v9 s3 (fun g10 => pIndexAddr 5 (g10 0) v2 (fun v11 => R v11 s3))))))))))))))))
theorem vc_p_impl_Tree_kid_eq (w0 : World) (a0 a1 : Value) (σ : Vw) (R : Value → Vw → Prop) : vc_p_impl_Tree_kid w0 a0 a1 σ R = den Try.prog w0 kp_p_impl_Tree_kid esc_p_impl_Tree_kid (Try.f72.body.getD .skip) (entry Try.f72.ntmps [a0, a1]) σ (retK Try.prog Try.f72.results.toList R) := by kernel_rfl
theorem ac_p_impl_Tree_kid {w0 : World} {a0 a1 : Value} {σ : Vw} {R : Value → Vw → Prop} (h : vc_p_impl_Tree_kid w0 a0 a1 σ R) : AC Try.prog w0 n_p_impl_Tree_kid [a0, a1] σ R := by
  refine ac_rule (fn := Try.f72) (c := Try.f72.body.getD .skip) kp_p_impl_Tree_kid esc_p_impl_Tree_kid Try.func72 (by kernel_rfl) (by kernel_rfl) ?_
  rw [← vc_p_impl_Tree_kid_eq]
  exact h

/-- spec.l1Plain -/
def kp_spec_l1Plain : Nat → Keep
  | 6 => ⟨[2, 3], [(1, 5)], [1], .done, []⟩
  | 8 => ⟨[], [], [], .step 0 (.step 1 (.step 2 (.step 3 (.step 4 (.step 5 (.step 6 (.step 7 (.step 8 (.step 9 (.step 10 (.step 11 (.step 12 (.step 13 (.step 14 (.step 15 (.step 16 (.step 17 (.step 18 (.step 19 (.step 20 (.step 21 (.step 22 (.step 23 (.step 24 (.done))))))))))))))))))))))))), [(1, [0]), (3, [0, 1, 2]), (4, [0, 1, 2, 3]), (5, [0, 1, 2, 3, 4]), (6, [0, 1, 2, 3, 4, 5]), (7, [0, 1, 2, 3, 4, 5, 6]), (8, [0, 1, 2, 3, 4, 5, 6, 7]), (9, [0, 1, 2, 3, 4, 5, 6, 7, 8]), (10, [0, 1, 2, 3, 4, 5, 6, 7, 8, 9]), (11, [0, 1, 2, 3, 4, 5, 6, 7, 8, 9, 10]), (12, [0, 1, 2, 3, 4, 5, 6, 7, 8, 9, 10, 11]), (13, [0, 1, 2, 3, 4, 5, 6, 7, 8, 9, 10]), (14, [0, 1, 2, 3, 4, 5, 6, 7, 8, 9, 10, 13]), (15, [0, 1, 2, 3, 4, 5, 6, 7, 8, 9, 10, 11, 12, 13, 14]), (16, [0, 1, 2, 3, 4, 5, 6, 7, 8, 9, 10, 11, 12, 13, 14, 15]), (17, [0, 1, 2, 3, 4, 5, 6, 7, 8, 9, 10]), (18, [0, 1, 2, 3, 4, 5, 6, 7, 8, 9, 10, 17]), (19, [0, 1, 2, 3, 4, 5, 6, 7, 8, 9, 10]), (20, [0, 1, 2, 3, 4, 5, 6, 7, 8, 9, 10, 17, 18, 19]), (21, [0, 1, 2, 3, 4, 5, 6, 7, 8, 9, 10, 17, 18, 19, 20]), (22, [0, 1, 2, 3, 4, 5, 6, 7, 8, 9, 10, 11, 12, 13, 14, 15, 16, 17, 18, 19, 20, 21]), (23, [0, 1, 2, 3, 4, 5, 6, 7, 8, 9, 10, 11, 12, 13, 14, 15, 16, 17, 18, 19, 20, 21, 22]), (24, [0, 1, 2, 3, 4, 5, 6, 7, 8, 9, 10, 11, 12, 13, 14, 15, 16, 17, 18, 19, 20, 21, 22, 23])]⟩
  | _ => ⟨[], [], [], .done, []⟩
def esc_spec_l1Plain : Nat → Bool
  | _ => false
def vc_spec_l1Plain (w0 : World) (a0 : Value) (σ : Vw) (R : Value → Vw → Prop) : Prop :=
  pVal true 5 a0 (AC Try.prog w0 n_spec_l1In [cellOf a0 1, Value.int IntKind.i64 0, Value.int IntKind.i64 7] σ (fun v0 s1 => pUn UnOp.not v0 (fun v2 => pIf v2 (R (Value.bool false) s1) (pLen (cellOf a0 3) (fun v3 => pLen (cellOf a0 4) (fun v4 => pBin Try.prog 3 BinOp.neq v3 v4 (fun v5 => pIf v5 (R (Value.bool false) s1) (pUn UnOp.not (cellOf a0 0) (fun v6 => pIf v6 (pLenS (cellOf a0 2) (fun v7 => pBin Try.prog 3 BinOp.leq v7 (Value.int IntKind.i64 24) (fun v8 => pIf v8 (pLen (cellOf a0 3) (fun v9 => pBin Try.prog 3 BinOp.eql v9 (Value.int IntKind.i64 0) (fun v10 => R v10 s1))) (R (Value.bool false) s1)))) (pLoop (fun l11 K12 s13 => pLen (vget l11 5) (fun v14 => pBin Try.prog 3 BinOp.lss (vget l11 1) v14 (fun v15 => pIf v15 (pIndexAddr 1 (vget l11 5) (vget l11 1) (fun v16 => pLoad w0 1 v16 s13 (fun g17 => AC Try.prog w0 n_spec_l1NameOk [g17 0] s13 (fun v18 s19 => pUn UnOp.not v18 (fun v20 => pIf v20 (K12 AX.ret [Value.bool false, vget l11 1, vget l11 2, vget l11 3, vget l11 4, vget l11 5, vget l11 6] s19) (pBin Try.prog 3 BinOp.gtr (vget l11 1) (Value.int IntKind.i64 0) (fun v21 => pIf v21 (pBin Try.prog 3 BinOp.sub (vget l11 1) (Value.int IntKind.i64 1) (fun v22 => pIndexAddr 1 (vget l11 5) v22 (fun v23 => pLoad w0 1 v23 s19 (fun g24 => pIndexAddr 1 (vget l11 5) (vget l11 1) (fun v25 => pLoad w0 1 v25 s19 (fun g26 => pBin Try.prog 9 BinOp.geq (g24 0) (g26 0) (fun v27 => pIf v27 (K12 AX.ret [Value.bool false, vget l11 1, vget l11 2, vget l11 3, vget l11 4, vget l11 5, vget l11 6] s19) (pBin Try.prog 3 BinOp.add (vget l11 1) (Value.int IntKind.i64 1) (fun v28 => K12 AX.normal [vget l11 0, v28, vget l11 2, vget l11 3, vget l11 4, vget l11 5, vget l11 6] s19))))))))) (pBin Try.prog 3 BinOp.add (vget l11 1) (Value.int IntKind.i64 1) (fun v29 => K12 AX.normal [vget l11 0, v29, vget l11 2, vget l11 3, vget l11 4, vget l11 5, vget l11 6] s19))))))))) (K12 (AX.exit 0) [vget l11 0, vget l11 1, vget l11 2, vget l11 3, vget l11 4, vget l11 5, vget l11 6] s13)))) [Value.bool false, Value.int IntKind.i64 0, cellOf a0 0, cellOf a0 1, cellOf a0 2, cellOf a0 3, cellOf a0 4] s1 (fun x30 l31 s32 => match x30 with | .normal => pBin Try.prog 9 BinOp.eql (vget l31 4) (Value.string ({ data := #[] })) (fun v33 => R v33 s32) | .ret => R (vget l31 0) s32 | .exit i34 => (match Nat.beq i34 0 with | true => pBin Try.prog 9 BinOp.eql (vget l31 4) (Value.string ({ data := #[] })) (fun v35 => R v35 s32) | false => False))))))))))))
theorem vc_spec_l1Plain_eq (w0 : World) (a0 : Value) (σ : Vw) (R : Value → Vw → Prop) : vc_spec_l1Plain w0 a0 σ R = den Try.prog w0 kp_spec_l1Plain esc_spec_l1Plain (Try.f73.body.getD .skip) (entry Try.f73.ntmps [a0]) σ (retK Try.prog Try.f73.results.toList R) := by kernel_rfl
theorem ac_spec_l1Plain {w0 : World} {a0 : Value} {σ : Vw} {R : Value → Vw → Prop} (h : vc_spec_l1Plain w0 a0 σ R) : AC Try.prog w0 n_spec_l1Plain [a0] σ R := by
  refine ac_rule (fn := Try.f73) (c := Try.f73.body.getD .skip) kp_spec_l1Plain esc_spec_l1Plain Try.func73 (by kernel_rfl) (by kernel_rfl) ?_
  rw [← vc_spec_l1Plain_eq]
  exact h

/-- spec.l2Within -/
def kp_spec_l2Within : Nat → Keep
  | 4 => ⟨[0, 1, 4, 5], [], [], .done, []⟩
  | 6 => ⟨[], [], [], .step 0 (.step 1 (.step 2 (.step 3 (.step 4 (.step 5 (.step 6 (.step 7 (.step 8 (.done))))))))), [(2, [0, 1]), (3, [0, 1, 2]), (6, [4, 5]), (7, [4, 5, 6]), (8, [0, 1, 2, 3, 4, 5, 6, 7])]⟩
  | _ => ⟨[], [], [], .done, []⟩
def esc_spec_l2Within : Nat → Bool
  | _ => false
def vc_spec_l2Within (w0 : World) (a0 a1 : Value) (σ : Vw) (R : Value → Vw → Prop) : Prop :=
  pLen a0 (fun v0 => pLen a1 (fun v1 => pBin Try.prog 3 BinOp.lss v0 v1 (fun v2 => pIf v2 (R (Value.bool false) σ) (pLoop (fun l3 K4 s5 => pLen (vget l3 1) (fun v6 => pBin Try.prog 3 BinOp.lss (vget l3 3) v6 (fun v7 => pIf v7 (pIndexAddr 1 (vget l3 0) (vget l3 3) (fun v8 => pLoad w0 1 v8 s5 (fun g9 => pIndexAddr 1 (vget l3 1) (vget l3 3) (fun v10 => pLoad w0 1 v10 s5 (fun g11 => pBin Try.prog 9 BinOp.neq (g9 0) (g11 0) (fun v12 => pIf v12 (K4 AX.ret [vget l3 0, vget l3 1, Value.bool false, vget l3 3] s5) (pBin Try.prog 3 BinOp.add (vget l3 3) (Value.int IntKind.i64 1) (fun v13 => K4 AX.normal [vget l3 0, vget l3 1, vget l3 2, v13] s5)))))))) (K4 (AX.exit 0) [vget l3 0, vget l3 1, vget l3 2, vget l3 3] s5)))) [a0, a1, Value.bool false, Value.int IntKind.i64 0] σ (fun x14 l15 s16 => match x14 with | .normal => R (Value.bool true) s16 | .ret => R (vget l15 2) s16 | .exit i17 => (match Nat.beq i17 0 with | true => R (Value.bool true) s16 | false => False))))))
theorem vc_spec_l2Within_eq (w0 : World) (a0 a1 : Value) (σ : Vw) (R : Value → Vw → Prop) : vc_spec_l2Within w0 a0 a1 σ R = den Try.prog w0 kp_spec_l2Within esc_spec_l2Within (Try.f76.body.getD .skip) (entry Try.f76.ntmps [a0, a1]) σ (retK Try.prog Try.f76.results.toList R) := by kernel_rfl
theorem ac_spec_l2Within {w0 : World} {a0 a1 : Value} {σ : Vw} {R : Value → Vw → Prop} (h : vc_spec_l2Within w0 a0 a1 σ R) : AC Try.prog w0 n_spec_l2Within [a0, a1] σ R := by
  refine ac_rule (fn := Try.f76) (c := Try.f76.body.getD .skip) kp_spec_l2Within esc_spec_l2Within Try.func76 (by kernel_rfl) (by kernel_rfl) ?_
  rw [← vc_spec_l2Within_eq]
  exact h

end Go.Proofs.Ytkbhjejalkbogaa
