/- The law FnLayerText holds: it returns true, and the input reads as it did. No condition. This is part 2 of 5 of its proof. -/
import Derived.Test.YtkbhjejalkbogaaGreatDoorXFnLayerText1
import Derived.IntWalk
import Derived.ChangeArms
import Derived.WideShapes
import Derived.ProofKit
import Derived.Below
import Derived.Test.YtkbhjejalkbogaaGreatDoorProg

/- The plain side, part 1: the operations at known values; loops; what is read in a slice. -/
set_option linter.unusedVariables false
set_option linter.unusedSimpArgs false
namespace Go.Av
open Go Go.RowKit IntWalk

section
variable {P : Program} {w0 : World} {σ σ' : Vw}

/-! ### The operations at known values -/
theorem pIf_b {b : Bool} {A B : Prop} : pIf (.bool b) A B ↔ (b = true → A) ∧ (b = false → B) :=
  ⟨fun ⟨c, h, h1, h2⟩ => by cases h; exact ⟨h1, h2⟩, fun ⟨h1, h2⟩ => ⟨b, rfl, h1, h2⟩⟩
theorem pIf_d {p : Prop} [Decidable p] {A B : Prop} : pIf (.bool (decide p)) A B ↔ (p → A) ∧ (¬ p → B) := by
  rw [pIf_b]; simp
theorem pLen_s {A : Option Addr} {n c : Nat} {K : Value → Prop} : pLen (.slice A n c) K ↔ K (.int .i64 n) :=
  ⟨fun ⟨_, _, _, h, hK⟩ => by cases h; exact hK, fun h => ⟨_, _, _, rfl, h⟩⟩
theorem pLenS_s {s : ByteArray} {K : Value → Prop} : pLenS (.string s) K ↔ K (.int .i64 s.size) :=
  ⟨fun ⟨_, h, hK⟩ => by cases h; exact hK, fun h => ⟨_, rfl, h⟩⟩
theorem pNil_s {a : Addr} {K : Prop} : pNil (.pointer (some a)) K ↔ K := ⟨fun ⟨_, _, h⟩ => h, fun h => ⟨a, rfl, h⟩⟩
theorem pField_s {o : Nat} {a : Addr} {K : Value → Prop} : pField o (.pointer (some a)) K ↔ K (.pointer (some (a.add o))) :=
  ⟨fun ⟨_, h, hK⟩ => by cases h; exact hK, fun h => ⟨_, rfl, h⟩⟩
theorem pUn_not {b : Bool} {K : Value → Prop} : pUn .not (.bool b) K ↔ K (.bool !b) :=
  ⟨fun ⟨_, h, hK⟩ => by simp only [aun, Option.some.injEq] at h; subst h; exact hK, fun h => ⟨_, rfl, h⟩⟩
theorem pBin_i {T : Nat} {op : BinOp} {k : IntKind} {a b : Int} {v : Value} {K : Value → Prop} (h : aint op k a b = some v) : pBin P T op (.int k a) (.int k b) K ↔ K v := by
  have e : abinT P T op (.int k a) (.int k b) = some v := by unfold abinT; simp only [if_true]; exact h
  exact ⟨fun ⟨_, h, hK⟩ => by rw [e] at h; cases h; exact hK, fun h => ⟨_, e, h⟩⟩
theorem pBin_lt {T : Nat} {k : IntKind} {a b : Int} {K : Value → Prop} : pBin P T .lss (.int k a) (.int k b) K ↔ K (.bool (decide (a < b))) := pBin_i rfl
theorem pBin_le {T : Nat} {k : IntKind} {a b : Int} {K : Value → Prop} : pBin P T .leq (.int k a) (.int k b) K ↔ K (.bool (decide (a ≤ b))) := pBin_i rfl
theorem pBin_gt {T : Nat} {k : IntKind} {a b : Int} {K : Value → Prop} : pBin P T .gtr (.int k a) (.int k b) K ↔ K (.bool (decide (b < a))) := pBin_i rfl
theorem pBin_ge {T : Nat} {k : IntKind} {a b : Int} {K : Value → Prop} : pBin P T .geq (.int k a) (.int k b) K ↔ K (.bool (decide (b ≤ a))) := pBin_i rfl
theorem pBin_eq {T : Nat} {k : IntKind} {a b : Int} {K : Value → Prop} : pBin P T .eql (.int k a) (.int k b) K ↔ K (.bool (decide (a = b))) := pBin_i rfl
theorem pBin_ne {T : Nat} {k : IntKind} {a b : Int} {K : Value → Prop} : pBin P T .neq (.int k a) (.int k b) K ↔ K (.bool (decide (a ≠ b))) :=
  pBin_i (by simp only [aint, bne, Option.some.injEq, Value.bool.injEq]; by_cases h : a = b <;> simp [h])
theorem pBin_add {T : Nat} {a b : Int} {K : Value → Prop} (h : -9223372036854775808 ≤ a + b ∧ a + b ≤ 9223372036854775807) : pBin P T .add (.int .i64 a) (.int .i64 b) K ↔ K (.int .i64 (a + b)) :=
  pBin_i (by simp only [aint, i64_in _ h])
theorem pBin_sub {T : Nat} {a b : Int} {K : Value → Prop} (h : -9223372036854775808 ≤ a - b ∧ a - b ≤ 9223372036854775807) : pBin P T .sub (.int .i64 a) (.int .i64 b) K ↔ K (.int .i64 (a - b)) :=
  pBin_i (by simp only [aint, i64_in _ h])
theorem pBin_mul {T : Nat} {a b : Int} {K : Value → Prop} (h : -9223372036854775808 ≤ a * b ∧ a * b ≤ 9223372036854775807) : pBin P T .mul (.int .i64 a) (.int .i64 b) K ↔ K (.int .i64 (a * b)) :=
  pBin_i (by simp only [aint, i64_in _ h])

theorem bytes_inj {a b : ByteArray} (h : a.toList = b.toList) : a = b := by
  rw [ByteArray.toList_eq, ByteArray.toList_eq] at h
  cases a; cases b
  simp only [ByteArray.mk.injEq]
  exact Array.toList_inj.1 h
theorem toList_eq {a b : ByteArray} : (a.toList == b.toList) = decide (a = b) := by
  have : a.toList = b.toList ↔ a = b := ⟨fun h => Go.Av.bytes_inj h, fun h => by rw [h]⟩
  by_cases h : a = b
  · subst h; simp
  · have h' : ¬ a.toList = b.toList := fun e => h (this.1 e)
    simp [h, h']
theorem pBin_s {T : Nat} {op : BinOp} {a b : ByteArray} {v : Value} {K : Value → Prop} (h : astr op a b = some v) : pBin P T op (.string a) (.string b) K ↔ K v :=
  ⟨fun ⟨_, h', hK⟩ => by rw [show abinT P T op (.string a) (.string b) = some v from h] at h'; cases h'; exact hK, fun hK => ⟨_, h, hK⟩⟩
theorem pBin_seq {T : Nat} {a b : ByteArray} {K : Value → Prop} : pBin P T .eql (.string a) (.string b) K ↔ K (.bool (decide (a = b))) := pBin_s (by simp only [astr, toList_eq])
theorem pBin_sne {T : Nat} {a b : ByteArray} {K : Value → Prop} : pBin P T .neq (.string a) (.string b) K ↔ K (.bool (decide (a ≠ b))) := pBin_s (by simp only [astr, toList_eq]; simp)
theorem pBin_b {T : Nat} {op : BinOp} {a b : Bool} {v : Value} {K : Value → Prop} (hT : P.underlying T = some .bool) (h : (match op with | .eql => some (Value.bool (a == b)) | .neq => some (.bool (!(a == b))) | _ => none) = some v) : pBin P T op (.bool a) (.bool b) K ↔ K v := by
  have e : abinT P T op (.bool a) (.bool b) = some v := by simp only [abinT, hT]; exact h
  exact ⟨fun ⟨_, h', hK⟩ => by rw [e] at h'; cases h'; exact hK, fun hK => ⟨_, e, hK⟩⟩

theorem pVal1 {n : Nat} {v : Value} {A : Prop} (h : v.oneCell' = true) : pVal false n v A ↔ A := ⟨fun h => h.2, fun hA => ⟨h, hA⟩⟩
theorem pValN {n : Nat} {cs : List Value} {A : Prop} (hl : cs.length = n) (h : ∀ c, c ∈ cs → c.oneCell' = true) : pVal true n (.agg ⟨cs⟩) A ↔ A := ⟨fun h => h.2, fun hA => ⟨⟨cs, rfl, hl, h⟩, hA⟩⟩
theorem cellOf_agg {cs : List Value} {i : Nat} : cellOf (.agg ⟨cs⟩) i = cs.getD i undef := rfl
theorem pStr1 {b : Nat} {K : Value → Prop} {n : Int} {c : Nat} (h : Av.get w0 σ ⟨b, 0, none⟩ = some (.int .u8 n)) (hK : K (.string (strOfNums [n]))) : pStr w0 (.slice (some ⟨b, 0, none⟩) 1 c) σ K :=
  .inr ⟨b, 0, 1, c, [n], rfl, rfl, (fun j hj => by
    have e : j = 0 := by omega
    subst e
    exact h), hK⟩

/-! ### Loops -/
theorem loop_rule {B : List Value → (AX → List Value → Vw → Prop) → Vw → Prop} {K : AX → List Value → Vw → Prop} (I : Nat → List Value → Vw → Prop)
    (step : ∀ m vs σ (L : List Value → Vw → Prop), I m vs σ → (∀ vs' σ', ∀ m', m' + 1 = m → I m' vs' σ' → L vs' σ') → B vs (fun e vs' σ' => match e with | .normal => L vs' σ' | .exit i => K (.exit i) vs' σ' | .ret => K .ret vs' σ') σ)
    {m : Nat} {vs : List Value} (h : I m vs σ) : pLoop B vs σ K := by
  refine ⟨m + 1, ?_⟩
  induction m generalizing vs σ with
  | zero => exact step 0 vs σ _ h (fun vs' σ' m' e => by omega)
  | succ m ih =>
    refine step (m + 1) vs σ _ h (fun vs' σ' m' e hI => ?_)
    have e : m' = m := by omega
    subst e
    exact ih hI

/-! ### Reading -/
theorem add_add (a : Addr) (i j : Nat) : (a.add i).add j = a.add (i + j) := by
  unfold Addr.add
  by_cases hi : i = 0
  · simp [hi]
  · by_cases hj : j = 0
    · simp [hj]
    · have : i + j ≠ 0 := by omega
      simp [hi, hj, this, Nat.add_assoc]

/-- A reader that reads no less. -/
def Le (rd rd' : Addr → Option Value) : Prop := ∀ a v, rd a = some v → rd' a = some v
theorem Le.refl (rd : Addr → Option Value) : Le rd rd := fun _ _ h => h
theorem Ext.le (hx : Ext σ σ') : Le (Av.get w0 σ) (Av.get w0 σ') := fun _ _ h => get_ext hx h

/-- What is read behind a slice: xs, each of n cells. -/
def RSl {α : Type} (n : Nat) (R : (Addr → Option Value) → List Value → α → Prop) (rd : Addr → Option Value) (v : Value) (xs : List α) : Prop :=
  ∃ A cap, v = .slice A xs.length cap ∧ (xs.length ≤ cap ∧ cap ≤ 9223372036854775807) ∧ ∀ (j : Nat) (x : α), xs[j]? = some x → ∃ a es, A = some a ∧ es.length = n ∧ (∀ i, i < n → rd (a.add (j * n + i)) = es[i]?) ∧ R rd es x

theorem RSl.mono {α : Type} {n : Nat} {R : (Addr → Option Value) → List Value → α → Prop} {rd rd' : Addr → Option Value} {v : Value} {xs : List α} (h : RSl n R rd v xs) (hx : Le rd rd') (hR : ∀ es x, R rd es x → R rd' es x) : RSl n R rd' v xs := by
  obtain ⟨A, cap, h1, h2, h3⟩ := h
  refine ⟨A, cap, h1, h2, fun j x hj => ?_⟩
  obtain ⟨a, es, h4, h5, h6, h7⟩ := h3 j x hj
  refine ⟨a, es, h4, h5, fun i hi => ?_, hR _ _ h7⟩
  have := h6 i hi
  have hlt : i < es.length := by omega
  rw [List.getElem?_eq_getElem hlt] at this ⊢
  exact hx _ _ this

theorem RSl.len {α : Type} {n : Nat} {R : (Addr → Option Value) → List Value → α → Prop} {rd : Addr → Option Value} {v : Value} {xs : List α} (h : RSl n R rd v xs) {K : Value → Prop} : pLen v K ↔ K (.int .i64 xs.length) := by
  obtain ⟨A, cap, rfl, _⟩ := h
  exact pLen_s

/-- An element is read. -/
theorem RSl.at {α : Type} {n : Nat} {R : (Addr → Option Value) → List Value → α → Prop} {v : Value} {xs : List α} (h : RSl n R (Av.get w0 σ) v xs) {j : Nat} {x : α} (hj : xs[j]? = some x) {K : (Nat → Value) → Prop} (hK : ∀ g : Nat → Value, R (Av.get w0 σ) (expl g 0 n) x → K g) :
    pIndexAddr n v (.int .i64 j) fun p => pLoad w0 n p σ K := by
  obtain ⟨A, cap, rfl, _, h3⟩ := h
  obtain ⟨a, es, rfl, h5, h6, h7⟩ := h3 j x hj
  have hlt : j < xs.length := (List.getElem?_eq_some_iff.1 hj).1
  refine ⟨a, xs.length, cap, .i64, j, rfl, rfl, by omega, by omega, a.add (j * n), fun i => es.getD i undef, rfl, fun i hi => ?_, hK _ ?_⟩
  · have := h6 i hi
    have hlt : i < es.length := by omega
    rw [add_add, this, List.getElem?_eq_getElem hlt]
    simp only [List.getD_eq_getElem?_getD, List.getElem?_eq_getElem hlt, Option.getD_some]
  · have : expl (fun i => es.getD i undef) 0 n = es := by
      apply List.ext_getElem?
      intro i
      by_cases hi : i < n
      · rw [expl_get _ _ _ _ hi, Nat.zero_add, List.getD_eq_getElem?_getD]
        have hlt : i < es.length := by omega
        rw [List.getElem?_eq_getElem hlt]; rfl
      · rw [List.getElem?_eq_none (by rw [length_expl]; omega), List.getElem?_eq_none (by omega)]
    rw [this]; exact h7

/-- A text. -/
def RS (rd : Addr → Option Value) (cs : List Value) (s : ByteArray) : Prop := cs = [.string s] ∧ s.size ≤ 9223372036854775807
end
end Go.Av

/- The plain side, part 2: rows of our own. -/
set_option linter.unusedVariables false
set_option linter.unusedSimpArgs false
namespace Go.Av
open Go Go.RowKit

/-- Every row stays as it is; there may be new ones. -/
def Keeps (σ σ' : Vw) : Prop := ∀ b r, σ b = some r → σ' b = some r
theorem Keeps.refl (σ : Vw) : Keeps σ σ := fun _ _ h => h
theorem Keeps.trans {σ σ' σ'' : Vw} (h : Keeps σ σ') (h' : Keeps σ' σ'') : Keeps σ σ'' := fun b r hb => h' b r (h b r hb)
theorem Keeps.ext {σ σ' : Vw} (h : Keeps σ σ') : Ext σ σ' := fun b r hb => ⟨r, h b r hb, List.prefix_refl _⟩
theorem Keeps.le {w0 : World} {σ σ' : Vw} (h : Keeps σ σ') : Le (Av.get w0 σ) (Av.get w0 σ') := h.ext.le
theorem Keeps.stay {w0 : World} {σ σ' : Vw} {v : Value} {n : Nat} (h : Keeps σ σ') : Stay w0 σ σ' v n := fun a g _ hc j hj => h.le _ _ (hc j hj)
theorem Keeps.put {σ : Vw} {b : Nat} {r : Row} (h : σ b = none) : Keeps σ (σ.put b r) := fun i x hi => by
  have : i ≠ b := fun e => by rw [e, h] at hi; cases hi
  simp [Vw.put, this, hi]
/-- A new row is made, then others, then the first is written. -/
theorem Keeps.fill {σ σ' : Vw} {b : Nat} {r : Row} (h : Keeps σ σ') (hb : σ b = none) : Keeps σ (σ'.put b r) := fun i x hi => by
  have : i ≠ b := fun e => by rw [e, hb] at hi; cases hi
  simp [Vw.put, this, h i x hi]
theorem put_at {σ : Vw} {b : Nat} {r : Row} : σ.put b r b = some r := by simp [Vw.put]
theorem get_row {w0 : World} {σ : Vw} {b off : Nat} {r : Row} (hb : w0.heap.size ≤ b) (h : σ b = some r) : Av.get w0 σ ⟨b, off, none⟩ = r.cells[off]? := by
  unfold Av.get
  simp only
  rw [if_neg (by omega), if_pos trivial, h]; rfl

theorem addr_add (b off i : Nat) : (Addr.mk b off none).add i = ⟨b, off + i, none⟩ := by
  unfold Addr.add
  split
  · rename_i h; subst h; rfl
  · rfl

theorem setAt_mid : ∀ (A old new C : List Value), old.length = new.length → setAt (A ++ (old ++ C)) A.length new = A ++ (new ++ C)
  | A, [], [], C, _ => by simp [setAt]
  | A, [], _ :: _, C, h => by simp at h
  | A, _ :: _, [], C, h => by simp at h
  | A, o :: old, n :: new, C, h => by
    simp only [setAt]
    have e : (A ++ (o :: old ++ C)).set A.length n = (A ++ [n]) ++ (old ++ C) := by simp
    rw [e]
    have := setAt_mid (A ++ [n]) old new C (by simpa using h)
    simp only [List.length_append, List.length_singleton] at this
    rw [this]
    simp

section
variable {w0 : World} {σ : Vw}

theorem flat_len {n : Nat} : ∀ (xs : List (List Value)), (∀ c, c ∈ xs → c.length = n) → xs.flatten.length = xs.length * n
  | [], _ => by simp
  | c :: r, h => by
    have := flat_len r (fun d hd => h d (List.mem_cons_of_mem _ hd))
    simp only [List.flatten_cons, List.length_append, List.length_cons, this, h c List.mem_cons_self]
    rw [Nat.add_mul, Nat.one_mul, Nat.add_comm]

theorem flat_get {n : Nat} : ∀ (xs : List (List Value)), (∀ c, c ∈ xs → c.length = n) → ∀ (j : Nat) (c : List Value), xs[j]? = some c → ∀ i, i < n → xs.flatten[j * n + i]? = c[i]?
  | [], _, j, c, hj, i, hi => by simp at hj
  | d :: r, h, 0, c, hj, i, hi => by
    simp at hj; subst hj
    have := h d List.mem_cons_self
    rw [List.flatten_cons, Nat.zero_mul, Nat.zero_add, List.getElem?_append_left (by omega)]
  | d :: r, h, j + 1, c, hj, i, hi => by
    have hd := h d List.mem_cons_self
    rw [List.flatten_cons, Nat.add_mul, Nat.one_mul, List.getElem?_append_right (by omega)]
    have := flat_get r (fun d hd => h d (List.mem_cons_of_mem _ hd)) j c (by simpa using hj) i hi
    rw [← this]
    congr 1
    omega

/-- What lies in a row of our own can be read. -/
theorem RSl.own {α : Type} {n : Nat} {R : (Addr → Option Value) → List Value → α → Prop} {b cap : Nat} {r : Row} {xs : List α} {cs : List (List Value)} {tail : List Value} (hb : w0.heap.size ≤ b) (hr : σ b = some r) (hc : r.cells = cs.flatten ++ tail) (hn : ∀ c, c ∈ cs → c.length = n)
    (hl : cs.length = xs.length) (hm : xs.length ≤ cap ∧ cap ≤ 9223372036854775807) (hR : ∀ (j : Nat) (c : List Value) (x : α), cs[j]? = some c → xs[j]? = some x → R (Av.get w0 σ) c x) : RSl n R (Av.get w0 σ) (.slice (some ⟨b, 0, none⟩) xs.length cap) xs := by
  refine ⟨_, cap, rfl, hm, fun j x hj => ?_⟩
  have hlt : j < cs.length := by have := (List.getElem?_eq_some_iff.1 hj).1; omega
  have hcj := List.getElem?_eq_getElem hlt
  refine ⟨_, cs[j], rfl, hn _ (List.getElem_mem hlt), fun i hi => ?_, hR j _ x hcj hj⟩
  rw [addr_add, get_row hb hr, Nat.zero_add, hc, ← flat_get cs hn j _ hcj i hi, List.getElem?_append_left]
  rw [flat_len cs hn]
  calc j * n + i < j * n + n := by omega
    _ = (j + 1) * n := by rw [Nat.add_mul, Nat.one_mul]
    _ ≤ cs.length * n := Nat.mul_le_mul_right n hlt

theorem RSl.one {α : Type} {n : Nat} {R : (Addr → Option Value) → List Value → α → Prop} {rd : Addr → Option Value} {v : Value} {xs : List α} (h : RSl n R rd v xs) : v.oneCell' = true := by
  obtain ⟨A, cap, rfl, _⟩ := h
  rfl
theorem RSl.le {α : Type} {n : Nat} {R : (Addr → Option Value) → List Value → α → Prop} {rd : Addr → Option Value} {v : Value} {xs : List α} (h : RSl n R rd v xs) : xs.length ≤ 9223372036854775807 := by
  obtain ⟨_, _, _, h2, _⟩ := h; exact Nat.le_trans h2.1 h2.2
theorem pVal_2 {v v' : Value} {A : Prop} (h : v.oneCell' = true) (h' : v'.oneCell' = true) : pVal true 2 (.agg ⟨[v, v']⟩) A ↔ A := pValN rfl (by simp [h, h'])
end
end Go.Av

/- The lists of structs, whatever their element: their size, their comparison. -/
set_option linter.unusedVariables false
set_option linter.unusedSimpArgs false
namespace Go.Av
open Go Go.RowKit

/-- What is left of n. -/
def left (n : Int) (t : Nat) : Int := if n - t < 0 then -1 else n - t
def sumBy {α : Type} (f : α → Nat) : List α → Nat
  | [] => 0
  | s :: r => f s + sumBy f r
theorem sumBy_take {α : Type} {f : α → Nat} {xs : List α} : ∀ {j : Nat} {x : α}, xs[j]? = some x → sumBy f (xs.take (j + 1)) = sumBy f (xs.take j) + f x := by
  induction xs with
  | nil => intro j x h; simp at h
  | cons a r ih =>
    intro j x h
    cases j with
    | zero => simp at h; subst h; simp [sumBy]
    | succ j =>
      simp at h
      have := ih h
      simp only [List.take_succ_cons, sumBy, this]
      omega
theorem sumBy_le {α : Type} {f : α → Nat} {xs : List α} : ∀ (j : Nat), sumBy f (xs.take j) ≤ sumBy f xs := by
  induction xs with
  | nil => intro j; simp [sumBy]
  | cons a r ih =>
    intro j
    cases j with
    | zero => simp [sumBy]
    | succ j => have := ih j; simp only [List.take_succ_cons, sumBy]; omega

section
variable {P : Program} {w0 : World} {σ : Vw} {α : Type}

end
end Go.Av

/- Lists that lie in rows of our own, each part in rows of its own; the copy of a list of structs. -/
set_option linter.unusedVariables false
set_option linter.unusedSimpArgs false
namespace Go.Av
open Go Go.RowKit

section
variable {P : Program} {w0 : World} {σ σ' : Vw} {α : Type}

/-- What a rule for parts in rows of our own must keep. -/
structure OOk (w0 : World) (n : Nat) (Rel : (Addr → Option Value) → List Value → α → Prop) (O : Vw → List Nat → List Value → α → Prop) : Prop where
  rel : ∀ σ F es x, O σ F es x → Rel (Av.get w0 σ) es x
  frame : ∀ σ σ' F es x, O σ F es x → (∀ b, b ∈ F → σ' b = σ b) → O σ' F es x
  dom : ∀ σ F es x, O σ F es x → ∀ b, b ∈ F → w0.heap.size ≤ b ∧ σ b ≠ none
  nodup : ∀ σ F es x, O σ F es x → F.Nodup
  len : ∀ σ F es x, O σ F es x → es.length = n
  one : ∀ σ F es x, O σ F es x → ∀ c, c ∈ es → c.oneCell' = true

/-- A list in a row of our own, the elements' own parts in other rows. -/
def OSl (w0 : World) (n : Nat) (O : Vw → List Nat → List Value → α → Prop) (σ : Vw) (F : List Nat) (v : Value) (xs : List α) : Prop :=
  xs.length ≤ 9223372036854775807 ∧ F.Nodup ∧ ((v = .slice none 0 0 ∧ xs = [] ∧ F = []) ∨
  ∃ (b off cap : Nat) (r : Row) (pre post : List Value) (css : List (List Value)) (Fs : List (List Nat)), v = .slice (some ⟨b, off, none⟩) xs.length cap ∧ (xs.length ≤ cap ∧ cap ≤ 9223372036854775807) ∧ w0.heap.size ≤ b ∧ σ b = some r ∧ r.cells = pre ++ (css.flatten ++ post) ∧ pre.length = off ∧
    css.length = xs.length ∧ Fs.length = xs.length ∧ F = b :: Fs.flatten ∧ ∀ (j : Nat) (c : List Value) (x : α) (f : List Nat), css[j]? = some c → xs[j]? = some x → Fs[j]? = some f → O σ f c x)

theorem mem_flat {l : List (List Nat)} {b : Nat} (h : b ∈ l.flatten) : ∃ (j : Nat) (f : List Nat), l[j]? = some f ∧ b ∈ f := by
  obtain ⟨f, h1, h2⟩ := List.mem_flatten.1 h
  obtain ⟨j, hj⟩ := List.getElem?_of_mem h1
  exact ⟨j, f, hj, h2⟩

theorem OSl.frame {n : Nat} {Rel : (Addr → Option Value) → List Value → α → Prop} {O : Vw → List Nat → List Value → α → Prop} (ok : OOk w0 n Rel O) {F : List Nat} {v : Value} {xs : List α} (h : OSl w0 n O σ F v xs) (hF : ∀ b, b ∈ F → σ' b = σ b) : OSl w0 n O σ' F v xs := by
  obtain ⟨h1, h2, h3 | ⟨b, off, cap, r, pre, post, css, Fs, g1, gc, g2, g3, g4, g5, g6, g7, g8, g9⟩⟩ := h
  · exact ⟨h1, h2, .inl h3⟩
  · refine ⟨h1, h2, .inr ⟨b, off, cap, r, pre, post, css, Fs, g1, gc, g2, ?_, g4, g5, g6, g7, g8, fun j c x f e1 e2 e3 => ?_⟩⟩
    · rw [hF b (by rw [g8]; exact List.mem_cons_self)]; exact g3
    · refine ok.frame _ _ _ _ _ (g9 j c x f e1 e2 e3) fun i hi => hF i ?_
      rw [g8]
      exact List.mem_cons_of_mem _ (List.mem_flatten.2 ⟨f, List.mem_of_getElem? e3, hi⟩)

theorem OSl.dom {n : Nat} {Rel : (Addr → Option Value) → List Value → α → Prop} {O : Vw → List Nat → List Value → α → Prop} (ok : OOk w0 n Rel O) {F : List Nat} {v : Value} {xs : List α} (h : OSl w0 n O σ F v xs) : ∀ b, b ∈ F → w0.heap.size ≤ b ∧ σ b ≠ none := by
  obtain ⟨h1, h2, ⟨_, _, h3⟩ | ⟨b, off, cap, r, pre, post, css, Fs, g1, gc, g2, g3, g4, g5, g6, g7, g8, g9⟩⟩ := h
  · rw [h3]; intro b hb; cases hb
  · rw [g8]
    intro i hi
    rcases List.mem_cons.1 hi with e | e
    · rw [e]; exact ⟨g2, by rw [g3]; simp⟩
    · obtain ⟨j, f, e1, e2⟩ := mem_flat e
      have hj : j < Fs.length := (List.getElem?_eq_some_iff.1 e1).1
      exact ok.dom _ _ _ _ (g9 j _ _ f (List.getElem?_eq_getElem (by omega)) (List.getElem?_eq_getElem (by omega)) e1) i e2

theorem OSl.rel {n : Nat} {Rel : (Addr → Option Value) → List Value → α → Prop} {O : Vw → List Nat → List Value → α → Prop} (ok : OOk w0 n Rel O) {F : List Nat} {v : Value} {xs : List α} (h : OSl w0 n O σ F v xs) : RSl n Rel (Av.get w0 σ) v xs := by
  obtain ⟨h1, h2, ⟨rfl, rfl, _⟩ | ⟨b, off, cap, r, pre, post, css, Fs, rfl, gc, g2, g3, g4, g5, g6, g7, g8, g9⟩⟩ := h
  · exact ⟨none, 0, rfl, by simp, fun j x hj => by simp at hj⟩
  · have each : ∀ (j : Nat) (c : List Value), css[j]? = some c → c.length = n := fun j c hj => by
      have hlt : j < css.length := (List.getElem?_eq_some_iff.1 hj).1
      exact ok.len _ _ _ _ (g9 j c _ _ hj (List.getElem?_eq_getElem (by omega)) (List.getElem?_eq_getElem (by omega)))
    have hn : ∀ c, c ∈ css → c.length = n := fun c hc => by obtain ⟨j, hj⟩ := List.getElem?_of_mem hc; exact each j c hj
    refine ⟨_, cap, rfl, gc, fun j x hj => ?_⟩
    have hlt : j < css.length := by have := (List.getElem?_eq_some_iff.1 hj).1; omega
    have hcj := List.getElem?_eq_getElem hlt
    refine ⟨_, css[j], rfl, each j _ hcj, fun i hi => ?_, ok.rel _ _ _ _ (g9 j _ x _ hcj hj (List.getElem?_eq_getElem (by omega)))⟩
    rw [addr_add, get_row g2 g3, g4, List.getElem?_append_right (by omega)]
    rw [show off + (j * n + i) - pre.length = j * n + i by omega, List.getElem?_append_left, flat_get css hn j _ hcj i hi]
    rw [flat_len css hn]
    calc j * n + i < j * n + n := by omega
      _ = (j + 1) * n := by rw [Nat.add_mul, Nat.one_mul]
      _ ≤ css.length * n := Nat.mul_le_mul_right n hlt

end
end Go.Av

/- Lists in rows of our own, written element by element: the focus on one element, and the loops that mark and that look at marks. -/
set_option linter.unusedVariables false
set_option linter.unusedSimpArgs false
namespace Go.Av
open Go Go.RowKit

/-- Every row but those of F stays as it is. -/
def KeepsBut (F : List Nat) (σ σ' : Vw) : Prop := ∀ b r, σ b = some r → b ∉ F → σ' b = some r
theorem KeepsBut.refl (F : List Nat) (σ : Vw) : KeepsBut F σ σ := fun _ _ h _ => h
theorem Keeps.but {F : List Nat} {σ σ' : Vw} (h : Keeps σ σ') : KeepsBut F σ σ' := fun b r hb _ => h b r hb
/-- What is older than F stays. -/
theorem KeepsBut.old {F : List Nat} {σ0 σ σ' : Vw} (h : KeepsBut F σ σ') (h0 : Keeps σ0 σ) (hF : ∀ b, b ∈ F → σ0 b = none) : Keeps σ0 σ' := fun b r hb => h b r (h0 b r hb) fun hb' => by rw [hF b hb'] at hb; cases hb
theorem KeepsBut.at {F G : List Nat} {σ σ' : Vw} (h : KeepsBut F σ σ') (hG : ∀ b, b ∈ G → σ b ≠ none) (hd : ∀ b, b ∈ G → b ∉ F) : ∀ b, b ∈ G → σ' b = σ b := fun b hb => by
  cases hs : σ b with
  | none => exact absurd hs (hG b hb)
  | some r => exact h b r hs (hd b hb)
theorem KeepsBut.put {F : List Nat} {σ : Vw} {b : Nat} {r : Row} (hb : b ∈ F) : KeepsBut F σ (σ.put b r) := fun i x hi hF => by
  have : i ≠ b := fun e => hF (e ▸ hb)
  simp [Vw.put, this, hi]

section
variable {P : Program} {w0 : World} {σ σ' : Vw} {α : Type}

theorem nodup_at {l : List (List Nat)} {i j : Nat} {f g : List Nat} (h : l.flatten.Nodup) (hi : l[i]? = some f) (hj : l[j]? = some g) (hij : i ≠ j) : ∀ b, b ∈ f → b ∉ g := by
  induction l generalizing i j with
  | nil => simp at hi
  | cons a r ih =>
    rw [List.flatten_cons, List.nodup_append] at h
    intro b hb hb'
    cases i with
    | zero =>
      cases j with
      | zero => exact hij rfl
      | succ j =>
        simp at hi hj
        subst hi
        exact h.2.2 b hb b (List.mem_flatten.2 ⟨g, List.mem_of_getElem? hj, hb'⟩) rfl
    | succ i =>
      cases j with
      | zero =>
        simp at hi hj
        subst hj
        exact h.2.2 b hb' b (List.mem_flatten.2 ⟨f, List.mem_of_getElem? hi, hb⟩) rfl
      | succ j =>
        simp at hi hj
        exact ih h.2.1 hi hj (fun e => hij (by rw [e])) b hb hb'

theorem split_at {l : List (List Value)} {j : Nat} {c : List Value} (hj : l[j]? = some c) : l.flatten = (l.take j).flatten ++ (c ++ (l.drop (j + 1)).flatten) := by
  have hlt := (List.getElem?_eq_some_iff.1 hj).1
  have e : l = l.take j ++ (c :: l.drop (j + 1)) := by
    have := List.take_append_drop j l
    rw [List.drop_eq_getElem_cons hlt] at this
    have hc : l[j] = c := (List.getElem?_eq_some_iff.1 hj).2
    rw [hc] at this
    exact this.symm
  calc l.flatten = (l.take j ++ (c :: l.drop (j + 1))).flatten := by rw [← e]
    _ = _ := by rw [List.flatten_append, List.flatten_cons]

/-- One element of a list of our own, and how the list is put together again behind a change of it. -/
theorem OSl.focus {n : Nat} {Rel : (Addr → Option Value) → List Value → α → Prop} {O : Vw → List Nat → List Value → α → Prop} (ok : OOk w0 n Rel O) {F : List Nat} {v : Value} {xs : List α} (h : OSl w0 n O σ F v xs) {j : Nat} {x : α} (hj : xs[j]? = some x) :
    ∃ (b o : Nat) (f : List Nat) (c A C : List Value) (r : Row), (∀ K : Value → Prop, K (.pointer (some ⟨b, o, none⟩)) → pIndexAddr n v (.int .i64 j) K) ∧ w0.heap.size ≤ b ∧ σ b = some r ∧ r.cells = A ++ (c ++ C) ∧ A.length = o ∧ O σ f c x ∧ b ∈ F ∧ (∀ i, i ∈ f → i ∈ F ∧ i ≠ b) ∧
      ∀ (σ' : Vw) (c' : List Value) (x' : α) (r' : Row), σ' b = some r' → r'.cells = A ++ (c' ++ C) → O σ' f c' x' → (∀ i, i ∈ F → i ≠ b → i ∉ f → σ' i = σ i) → OSl w0 n O σ' F v (xs.set j x') := by
  obtain ⟨h1, h2, ⟨rfl, rfl, _⟩ | ⟨b, off, cap, r, pre, post, css, Fs, rfl, gc, g2, g3, g4, g5, g6, g7, g8, g9⟩⟩ := h
  · simp at hj
  have hlt : j < xs.length := (List.getElem?_eq_some_iff.1 hj).1
  have hcj := List.getElem?_eq_getElem (show j < css.length by omega)
  have hfj := List.getElem?_eq_getElem (show j < Fs.length by omega)
  generalize hce : css[j]'(by omega) = c at hcj
  generalize hfe : Fs[j]'(by omega) = f at hfj
  have hO := g9 j c x f hcj hj hfj
  have hn : ∀ c, c ∈ css → c.length = n := fun c hc => by
    obtain ⟨i, hi⟩ := List.getElem?_of_mem hc
    have hil : i < css.length := (List.getElem?_eq_some_iff.1 hi).1
    exact ok.len _ _ _ _ (g9 i c _ _ hi (List.getElem?_eq_getElem (by omega)) (List.getElem?_eq_getElem (by omega)))
  have hA : (pre ++ (css.take j).flatten).length = off + j * n := by
    rw [List.length_append, g5, flat_len _ fun c hc => hn c (List.mem_of_mem_take hc), List.length_take]
    congr 2; omega
  rw [g8] at h2
  have hbf : b ∉ f := fun hb => (List.nodup_cons.1 h2).1 (List.mem_flatten.2 ⟨f, List.mem_of_getElem? hfj, hb⟩)
  refine ⟨b, off + j * n, f, c, pre ++ (css.take j).flatten, (css.drop (j + 1)).flatten ++ post, r, fun K hK => ?_, g2, g3, ?_, hA, hO, by rw [g8]; exact List.mem_cons_self, fun i hi => ⟨?_, fun e => hbf (e ▸ hi)⟩, ?_⟩
  · refine ⟨⟨b, off, none⟩, xs.length, cap, .i64, j, rfl, rfl, by omega, by omega, ?_⟩
    rw [addr_add]; exact hK
  · rw [g4, split_at hcj]; simp only [List.append_assoc]
  · rw [g8]; exact List.mem_cons_of_mem _ (List.mem_flatten.2 ⟨f, List.mem_of_getElem? hfj, hi⟩)
  · intro σ' c' x' r' hr' hcells hO' hrest
    have hlen' := ok.len _ _ _ _ hO'
    refine ⟨by rw [List.length_set]; exact h1, by rw [g8]; exact h2, .inr ⟨b, off, cap, r', pre, post, css.set j c', Fs, by rw [List.length_set], by rw [List.length_set]; exact gc, g2, hr', ?_, g5, by rw [List.length_set, List.length_set]; exact g6, by rw [List.length_set]; exact g7, g8, ?_⟩⟩
    · have hcj' : (css.set j c')[j]? = some c' := List.getElem?_set_self (by omega)
      rw [hcells, split_at hcj', List.take_set_of_le (Nat.le_refl j), List.drop_set_of_lt (by omega)]
      simp only [List.append_assoc]
    · intro i ci y fi e1 e2 e3
      by_cases hij : j = i
      · subst hij
        rw [List.getElem?_set_self (by omega)] at e1 e2
        cases e1; cases e2
        rw [hfj] at e3; cases e3
        exact hO'
      · rw [List.getElem?_set_ne hij] at e1 e2
        refine ok.frame _ _ _ _ _ (g9 i ci y fi e1 e2 e3) fun k hk => ?_
        have hkF : k ∈ Fs.flatten := List.mem_flatten.2 ⟨fi, List.mem_of_getElem? e3, hk⟩
        exact hrest k (by rw [g8]; exact List.mem_cons_of_mem _ hkF) (fun e => (List.nodup_cons.1 h2).1 (e ▸ hkF)) (nodup_at (List.nodup_cons.1 h2).2 e3 hfj (fun e => hij e.symm) k hk)

/-- A field of an element is written. -/
theorem field_store {b o off : Nat} {r : Row} {A c C : List Value} {y : Value} {K : Vw → Prop} (hr : σ b = some r) (hc : r.cells = A ++ (c ++ C)) (hA : A.length = o) (hoff : off < c.length) (hy : y.oneCell' = true)
    (hK : K (σ.put b { r with cells := A ++ (c.set off y ++ C) })) : pField off (.pointer (some ⟨b, o, none⟩)) fun q => pVal false 1 y (pStore q [y] σ K) := by
  rw [pField_s, pVal1 hy, addr_add]
  refine ⟨b, o + off, r, rfl, hr, ?_, ?_⟩
  · rw [hc]; simp only [List.length_append, List.length_singleton]; omega
  · have e : setAt r.cells (o + off) [y] = A ++ (c.set off y ++ C) := by
      simp only [setAt]
      rw [hc, List.set_append_right _ _ (by omega), List.set_append_left _ _ (by omega), hA]
      congr 3; omega
    rw [e]; exact hK
/-- A field of an element is read. -/
theorem field_load {b o off : Nat} {r : Row} {A c C : List Value} {y : Value} {K : (Nat → Value) → Prop} (hb : w0.heap.size ≤ b) (hr : σ b = some r) (hc : r.cells = A ++ (c ++ C)) (hA : A.length = o) (hoff : c[off]? = some y)
    (hK : ∀ g : Nat → Value, g 0 = y → K g) : pField off (.pointer (some ⟨b, o, none⟩)) fun q => pLoad w0 1 q σ K := by
  rw [pField_s, addr_add]
  refine ⟨_, fun _ => y, rfl, fun j hj => ?_, hK _ rfl⟩
  have : j = 0 := by omega
  subst this
  have hlt : off < c.length := (List.getElem?_eq_some_iff.1 hoff).1
  rw [addr_add, get_row hb hr, hc, List.getElem?_append_right (by omega), List.getElem?_append_left (by omega)]
  rw [show o + off + 0 - A.length = off by omega]; exact hoff

/-! ### Marks -/
end
end Go.Av

/- The plain side, part 3: what the statement's reading of an argument says of the cells. -/
set_option linter.unusedVariables false
set_option linter.unusedSimpArgs false
namespace Go.Av
open Go Go.RowKit

def σ0 : Vw := fun _ => none

section
variable {H : Type} {enc : TypeId × Value → H} {P : Program} {W : World} {fuel : Nat} {cs : List Value} {x : DataW H × List MemPlace}

theorem sat0 (W : World) : Sat W σ0 W := ⟨Below.refl _ _, fun b r h => by cases h⟩

theorem get0 {a : Addr} {v : Value} (h : W.cell? a = some v) {σ : Vw} : Av.get W σ a = some v := by
  have hlt : a.block < W.heap.size := by
    rcases Nat.lt_or_ge a.block W.heap.size with h1 | h1
    · exact h1
    · have : W.heap[a.block]? = none := Array.getElem?_eq_none h1
      unfold World.cell? at h
      simp [this] at h
  unfold Av.get
  rw [if_pos hlt]; exact h

theorem listOf {α : Type} (p : Nat → α → Prop) : ∀ (n : Nat), (∀ i, i < n → ∃ x, p i x) → ∃ xs : List α, xs.length = n ∧ ∀ (j : Nat) (x : α), xs[j]? = some x → p j x
  | 0, _ => ⟨[], rfl, fun j x h => by simp at h⟩
  | n + 1, h => by
    obtain ⟨xs, hl, hx⟩ := listOf p n (fun i hi => h i (by omega))
    obtain ⟨y, hy⟩ := h n (by omega)
    refine ⟨xs ++ [y], by simp [hl], fun j x hj => ?_⟩
    by_cases e : j < xs.length
    · rw [List.getElem?_append_left e] at hj; exact hx j x hj
    · rw [List.getElem?_append_right (by omega)] at hj
      have : j - xs.length = 0 := by
        rcases Nat.eq_zero_or_pos (j - xs.length) with h0 | h0
        · exact h0
        · rw [List.getElem?_eq_none (by simp; omega)] at hj; cases hj
      rw [this] at hj
      simp at hj
      subst hj
      have : j = n := by omega
      subst this; exact hy

/-- A slice is opened, its elements by a rule of their own. -/
theorem open_rsl {α : Type} {t e n : Nat} {R : (Addr → Option Value) → List Value → α → Prop} {spare : Nat → Bool} (ht : P.underlying t = some (.slice e)) (hc : P.cellsOf e = n)
    (hR : ∀ (fuel : Nat) (es : List Value) (y : DataW H × List MemPlace), DataW.trod enc P W 0 spare true fuel e es = some y → es.length = n → ∃ x, R (Av.get W σ0) es x) (h : DataW.trod enc P W 0 spare true fuel t cs = some x) : ∃ v xs, cs = [v] ∧ RSl n R (Av.get W σ0) v xs := by
  rcases DataW.trod_slice ht h with ⟨rfl, _⟩ | ⟨a, len, cap, elems, rest, m, _, rfl, _, hb, hl, hm, hlen, hel, _, _⟩
  · exact ⟨_, [], rfl, none, 0, rfl, by simp, fun j x hj => by simp at hj⟩
  · have each : ∀ i, i < len → ∃ x : α, ∃ es : List Value, es.length = n ∧ (∀ k, k < n → Av.get W σ0 (a.add (i * n + k)) = es[k]?) ∧ R (Av.get W σ0) es x := by
      intro i hi
      have h1 := hel i hi
      rw [hc, List.getElem?_eq_getElem (by omega), Option.bind_eq_some_iff] at h1
      obtain ⟨es, h2, h3⟩ := h1
      obtain ⟨_, hes, hcell⟩ := World.cells?_some h2
      obtain ⟨x, hx⟩ := hR m es _ h3 hes
      refine ⟨x, es, hes, fun k hk => ?_, hx⟩
      have := hcell k hk
      rw [add_add] at this
      have hlt : k < es.length := by omega
      rw [List.getElem?_eq_getElem hlt] at this ⊢
      exact get0 this
    obtain ⟨xs, hxl, hxs⟩ := listOf _ len each
    have hmax : cap ≤ 9223372036854775807 := by have : maxLen = 9223372036854775807 := by decide
                                                omega
    refine ⟨_, xs, rfl, some a, cap, by rw [hxl], ⟨by omega, hmax⟩, fun j x hj => ?_⟩
    obtain ⟨es, g1, g2, g3⟩ := hxs j x hj
    exact ⟨a, es, rfl, g1, g2, g3⟩

def fsOf (P : Program) (t : Nat) : Array Field := match P.underlying t with | some (.struct fs) => fs | _ => #[]

/-- From the functions to the statement. -/
theorem AC.calls {f : FuncId} {args : List Value} {R : Value → Vw → Prop} (h : AC P W f args σ0 R) : Calls P f args.toArray W fun e W' => ∃ v σ', e = .returned v ∧ R v σ' ∧ Below W.heap.size W W' :=
  (h.2 W (sat0 W)).mono fun e W' ⟨v, σ', h1, h2, h3⟩ => ⟨v, σ', h1, h2, h3.sat.bel⟩
end
end Go.Av

/- The plain side, part 4: what the statement's reading of an argument says, with the fuel told; numbers, bools, texts. -/
set_option linter.unusedVariables false
set_option linter.unusedSimpArgs false
namespace Go.Av
open Go Go.RowKit

theorem RSl.imp {α : Type} {n : Nat} {R R' : (Addr → Option Value) → List Value → α → Prop} {rd : Addr → Option Value} {v : Value} {xs : List α} (h : RSl n R rd v xs) (hR : ∀ es x, R rd es x → R' rd es x) : RSl n R' rd v xs := by
  obtain ⟨A, cap, h1, h2, h3⟩ := h
  refine ⟨A, cap, h1, h2, fun j x hj => ?_⟩
  obtain ⟨a, es, h4, h5, h6, h7⟩ := h3 j x hj
  exact ⟨a, es, h4, h5, h6, hR _ _ h7⟩

section
variable {H : Type} {enc : TypeId × Value → H} {P : Program} {W : World} {fuel : Nat} {cs : List Value} {x : DataW H × List MemPlace}

end
end Go.Av

/- The plain side, part 5: more operations at known values. -/
set_option linter.unusedVariables false
set_option linter.unusedSimpArgs false
namespace Go.Av
open Go Go.RowKit IntWalk

section
variable {P : Program} {w0 : World} {σ σ' : Vw}
theorem pConv_s {k k' : IntKind} {n : Int} {K : Value → Prop} : pConvInt k (.int k' n) K ↔ K (.int k (k.wrap n)) :=
  ⟨fun ⟨_, _, h, hK⟩ => by cases h; exact hK, fun h => ⟨_, _, rfl, h⟩⟩
theorem pConv_u8 {k' : IntKind} {n : Int} {K : Value → Prop} (h : 0 ≤ n ∧ n ≤ 255) : pConvInt .u8 (.int k' n) K ↔ K (.int .u8 n) := by rw [pConv_s, u8_in n h]
theorem pConv_i64 {k' : IntKind} {n : Int} {K : Value → Prop} (h : -9223372036854775808 ≤ n ∧ n ≤ 9223372036854775807) : pConvInt .i64 (.int k' n) K ↔ K (.int .i64 n) := by rw [pConv_s, i64_in n h]
theorem pBin_rem {T : Nat} {k : IntKind} {a b : Int} {K : Value → Prop} (h : 0 ≤ a ∧ 0 < b) : pBin P T .rem (.int k a) (.int k b) K ↔ K (.int k (a % b)) :=
  pBin_i (by simp only [aint]; rw [if_neg (by omega), Int.tmod_eq_emod_of_nonneg h.1])
theorem pBin_quo {T : Nat} {a b : Int} {K : Value → Prop} (h : 0 ≤ a ∧ a ≤ 9223372036854775807 ∧ 0 < b) : pBin P T .quo (.int .i64 a) (.int .i64 b) K ↔ K (.int .i64 (a / b)) :=
  pBin_i (by simp only [aint]; rw [if_neg (by omega), i64_quo a b (by omega)])
theorem pBin_cat {T : Nat} {a b : ByteArray} {K : Value → Prop} (h : a.size + b.size ≤ 9223372036854775807) : pBin P T .add (.string a) (.string b) K ↔ K (.string (a ++ b)) :=
  pBin_s (by
    have e : IntKind.i64.max = 9223372036854775807 := by decide
    simp only [astr, e]
    rw [if_neg (by omega)])
theorem pExtract_s {vs : List Value} {i : Nat} {v : Value} {K : Value → Prop} (h : vs[i]? = some v) : pExtract (.tuple ⟨vs⟩) i K ↔ K v := by
  obtain ⟨hl, he⟩ := List.getElem?_eq_some_iff.1 h
  exact ⟨fun ⟨_, e, hl', hK⟩ => by cases e; rw [he] at hK; exact hK, fun hK => ⟨_, rfl, hl, by rw [he]; exact hK⟩⟩
theorem pIndexStr_s {s : ByteArray} {j : Nat} {K : Value → Prop} (h : j < s.size) (hK : K (.int .u8 ((s[j]'h).toNat : Int))) : pIndexStr (.string s) (.int .i64 j) K :=
  ⟨s, .i64, j, rfl, rfl, by omega, h, hK⟩
theorem pSliceStr_s {s : ByteArray} {lo hi : Option Value} {l h : Int} {K : Value → Prop} (hl : boundOf 0 lo = some l) (hh : boundOf s.size hi = some h) (h0 : 0 ≤ l ∧ l ≤ h ∧ h ≤ s.size) (hK : K (.string (s.extract l.toNat h.toNat))) : pSliceStr (.string s) lo hi K :=
  ⟨s, l, h, rfl, hl, hh, h0.1, h0.2.1, h0.2.2, hK⟩
end
end Go.Av

/- Lists that grow by append, in a row of our own; elements that need no row; elements that are read in what is older. -/
set_option linter.unusedVariables false
set_option linter.unusedSimpArgs false
namespace Go.Av
open Go Go.RowKit

section
variable {P : Program} {w0 : World} {σ σ' : Vw} {α : Type}

/-! ### Elements that are read by a reader that is fixed -/
def RB (Rel : (Addr → Option Value) → List Value → α → Prop) (rd0 : Addr → Option Value) (rd : Addr → Option Value) (es : List Value) (x : α) : Prop := Rel rd0 es x
def OB (Rel : (Addr → Option Value) → List Value → α → Prop) (rd0 : Addr → Option Value) (σ : Vw) (F : List Nat) (es : List Value) (x : α) : Prop := F = [] ∧ Rel rd0 es x
/-- What a rule of reading must keep. -/
structure ROk (n : Nat) (Rel : (Addr → Option Value) → List Value → α → Prop) : Prop where
  mono : ∀ rd rd' es x, Le rd rd' → Rel rd es x → Rel rd' es x
  len : ∀ rd es x, Rel rd es x → es.length = n
  one : ∀ rd es x, Rel rd es x → ∀ c, c ∈ es → c.oneCell' = true
theorem ok_base {n : Nat} {Rel : (Addr → Option Value) → List Value → α → Prop} (ok : ROk n Rel) (w0 : World) (rd0 : Addr → Option Value) : OOk w0 n (RB Rel rd0) (OB Rel rd0) := by
  refine ⟨?_, ?_, ?_, ?_, ?_, ?_⟩
  · rintro σ F es x ⟨_, h⟩; exact h
  · rintro σ σ' F es x h _; exact h
  · rintro σ F es x ⟨rfl, _⟩ b hb; cases hb
  · rintro σ F es x ⟨rfl, _⟩; exact List.nodup_nil
  · rintro σ F es x ⟨_, h⟩; exact ok.len _ _ _ h
  · rintro σ F es x ⟨_, h⟩; exact ok.one _ _ _ h
theorem RSl.unbase {n : Nat} {Rel : (Addr → Option Value) → List Value → α → Prop} (ok : ROk n Rel) {rd0 rd : Addr → Option Value} {v : Value} {xs : List α} (h : RSl n (RB Rel rd0) rd v xs) (hle : Le rd0 rd) : RSl n Rel rd v xs :=
  h.imp fun es x hx => ok.mono _ _ _ _ hle hx

/-! ### Elements that need no row -/
def RFl (enc : α → List Value) (good : α → Prop) (rd : Addr → Option Value) (es : List Value) (x : α) : Prop := es = enc x ∧ good x
def OFl (enc : α → List Value) (good : α → Prop) (σ : Vw) (F : List Nat) (es : List Value) (x : α) : Prop := F = [] ∧ es = enc x ∧ good x
theorem ok_fl {n : Nat} {enc : α → List Value} {good : α → Prop} (hl : ∀ x, (enc x).length = n) (ho : ∀ x c, c ∈ enc x → c.oneCell' = true) (w0 : World) : OOk w0 n (RFl enc good) (OFl enc good) := by
  refine ⟨?_, ?_, ?_, ?_, ?_, ?_⟩
  · rintro σ F es x ⟨_, h⟩; exact h
  · rintro σ σ' F es x h _; exact h
  · rintro σ F es x ⟨rfl, _⟩ b hb; cases hb
  · rintro σ F es x ⟨rfl, _⟩; exact List.nodup_nil
  · rintro σ F es x ⟨_, h, _⟩; rw [h]; exact hl x
  · rintro σ F es x ⟨_, h, _⟩; rw [h]; exact ho x

/-! ### Growing lists -/
def OAcc (w0 : World) (ety n : Nat) (O : Vw → List Nat → List Value → α → Prop) (σ : Vw) (F : List Nat) (v : Value) (xs : List α) : Prop :=
  xs.length ≤ 9223372036854775807 ∧ F.Nodup ∧ ((v = .slice none 0 0 ∧ xs = [] ∧ F = []) ∨
  ∃ (b cap : Nat) (css : List (List Value)) (Fs : List (List Nat)), v = .slice (some ⟨b, 0, none⟩) xs.length cap ∧ (xs.length ≤ cap ∧ cap ≤ 9223372036854775807) ∧ w0.heap.size ≤ b ∧ σ b = some ⟨ety, css.flatten, cap * n, (0, 0)⟩ ∧
    css.length = xs.length ∧ Fs.length = xs.length ∧ F = b :: Fs.flatten ∧ ∀ (j : Nat) (c : List Value) (x : α) (f : List Nat), css[j]? = some c → xs[j]? = some x → Fs[j]? = some f → O σ f c x)

theorem OAcc.osl {ety n : Nat} {O : Vw → List Nat → List Value → α → Prop} {F : List Nat} {v : Value} {xs : List α} (h : OAcc w0 ety n O σ F v xs) : OSl w0 n O σ F v xs := by
  obtain ⟨h1, h2, h3 | ⟨b, cap, css, Fs, g1, g2, g3, g4, g5, g6, g7, g8⟩⟩ := h
  · exact ⟨h1, h2, .inl h3⟩
  · exact ⟨h1, h2, .inr ⟨b, 0, cap, _, [], [], css, Fs, g1, g2, g3, g4, by simp, rfl, g5, g6, g7, g8⟩⟩
theorem OAcc.frame {ety n : Nat} {Rel : (Addr → Option Value) → List Value → α → Prop} {O : Vw → List Nat → List Value → α → Prop} (ok : OOk w0 n Rel O) {F : List Nat} {v : Value} {xs : List α} (h : OAcc w0 ety n O σ F v xs) (hF : ∀ b, b ∈ F → σ' b = σ b) : OAcc w0 ety n O σ' F v xs := by
  obtain ⟨h1, h2, h3 | ⟨b, cap, css, Fs, g1, g2, g3, g4, g5, g6, g7, g8⟩⟩ := h
  · exact ⟨h1, h2, .inl h3⟩
  · refine ⟨h1, h2, .inr ⟨b, cap, css, Fs, g1, g2, g3, by rw [hF b (by rw [g7]; exact List.mem_cons_self)]; exact g4, g5, g6, g7, fun j c x f e1 e2 e3 => ?_⟩⟩
    refine ok.frame _ _ _ _ _ (g8 j c x f e1 e2 e3) fun i hi => hF i ?_
    rw [g7]
    exact List.mem_cons_of_mem _ (List.mem_flatten.2 ⟨f, List.mem_of_getElem? e3, hi⟩)
theorem OAcc.dom {ety n : Nat} {Rel : (Addr → Option Value) → List Value → α → Prop} {O : Vw → List Nat → List Value → α → Prop} (ok : OOk w0 n Rel O) {F : List Nat} {v : Value} {xs : List α} (h : OAcc w0 ety n O σ F v xs) : ∀ b, b ∈ F → w0.heap.size ≤ b ∧ σ b ≠ none := h.osl.dom ok
theorem OAcc.nil {ety n : Nat} {O : Vw → List Nat → List Value → α → Prop} : OAcc w0 ety n O σ [] (.slice none 0 0) [] := ⟨by simp, by simp, .inl ⟨rfl, rfl, rfl⟩⟩
theorem OAcc.new {ety n b : Nat} {O : Vw → List Nat → List Value → α → Prop} (hb : w0.heap.size ≤ b) : OAcc w0 ety n O (σ.put b ⟨ety, [], 0, (0, 0)⟩) [b] (.slice (some ⟨b, 0, none⟩) 0 0) [] :=
  ⟨by simp, by simp, .inr ⟨b, 0, [], [], rfl, by simp, hb, by rw [put_at]; simp, rfl, rfl, rfl, fun j c x f h => by simp at h⟩⟩

theorem Keeps.but_at {F : List Nat} (h : Keeps σ σ') (hF : ∀ b, b ∈ F → σ b ≠ none) : ∀ b, b ∈ F → σ' b = σ b := fun b hb => by
  cases hs : σ b with
  | none => exact absurd hs (hF b hb)
  | some r => exact h b r hs

/-- Elements are appended, each with rows of its own. -/
theorem OAcc.pushX {ety n bytes m : Nat} {Rel : (Addr → Option Value) → List Value → α → Prop} {O : Vw → List Nat → List Value → α → Prop} (ok : OOk w0 n Rel O) {F : List Nat} {v : Value} {xs ys : List α} {nss : List (List Value)} {Gs : List (List Nat)} {new : List Value}
    (h : OAcc w0 ety n O σ F v xs) (hm : ys.length = m) (hnl : nss.length = m) (hGl : Gs.length = m) (hnew : new = nss.flatten) (hO : ∀ (j : Nat) (c : List Value) (y : α) (g : List Nat), nss[j]? = some c → ys[j]? = some y → Gs[j]? = some g → O σ g c y)
    (hG : Gs.flatten.Nodup) (hGF : ∀ i, i ∈ Gs.flatten → i ∉ F) (hlen : xs.length + m ≤ 1000000000000) (hbytes : bytes ≤ 140) {K : Value → Vw → Prop}
    (hK : ∀ v' F' σ', Ext σ σ' → KeepsBut F σ σ' → OAcc w0 ety n O σ' F' v' (xs ++ ys) → (∀ i, i ∈ F' → i ∈ F ∨ i ∈ Gs.flatten ∨ σ i = none) → K v' σ') : pAppend w0 ety n bytes v m new σ K := by
  have hb47 : (xs.length + m) * bytes ≤ 2 ^ 47 := by
    have h1 : (xs.length + m) * bytes ≤ 1000000000000 * 140 := Nat.mul_le_mul hlen hbytes
    have h2 : (2 : Nat) ^ 47 = 140737488355328 := by decide
    omega
  have hn2 : ∀ c, c ∈ nss → c.length = n := fun c hc => by
    obtain ⟨i, hi⟩ := List.getElem?_of_mem hc
    have hil : i < nss.length := (List.getElem?_eq_some_iff.1 hi).1
    exact ok.len _ _ _ _ (hO i c _ _ hi (List.getElem?_eq_getElem (by omega)) (List.getElem?_eq_getElem (by omega)))
  have hnewl : new.length = m * n := by rw [hnew, flat_len _ hn2, hnl]
  have hGdom : ∀ i, i ∈ Gs.flatten → σ i ≠ none := fun i hi => by
    obtain ⟨j, f, e1, e2⟩ := mem_flat hi
    have hj : j < Gs.length := (List.getElem?_eq_some_iff.1 e1).1
    exact (ok.dom _ _ _ _ (hO j _ _ f (List.getElem?_eq_getElem (by omega)) (List.getElem?_eq_getElem (by omega)) e1) i e2).2
  obtain ⟨h1, h2, ⟨rfl, rfl, rfl⟩ | ⟨b, cap, css, Fs, rfl, g2, g3, g4, g5, g6, g7, g8⟩⟩ := h
  · refine .inr (.inl ⟨0, [], ⟨by simp, .inl ⟨rfl, rfl⟩⟩, hnewl, by simpa using (by omega : m ≤ 9223372036854775807), by simpa using hb47, fun v' σ' hg => ?_⟩)
    rcases hg with ⟨rfl, rfl, _, h0, _⟩ | ⟨b', c', rfl, g1, g2, rfl, g3, g4⟩
    · have : m = 0 := by omega
      subst this
      have hy : ys = [] := List.length_eq_zero_iff.1 hm
      subst hy
      exact hK _ [] _ (Ext.refl _) (KeepsBut.refl _ _) (by simpa using OAcc.nil) (fun i hi => by cases hi)
    · have hb' : σ b' = none := by
        rcases g4 with h | ⟨n0, c0, h⟩
        · exact h
        · cases h
      have hbG : b' ∉ Gs.flatten := fun hi => hGdom b' hi hb'
      refine hK _ (b' :: Gs.flatten) _ (Keeps.put hb').ext (Keeps.put hb').but ?_ fun i hi => ?_
      · refine ⟨by simp; omega, List.nodup_cons.2 ⟨hbG, hG⟩, .inr ⟨b', c', nss, Gs, by simp [hm], by simp [hm]; omega, g3, by rw [put_at]; simp [hnew], by simp [hm, hnl], by simp [hm, hGl], rfl, fun j c x f e1 e2 e3 => ?_⟩⟩
        simp only [List.nil_append] at e2
        refine ok.frame _ _ _ _ _ (hO j c x f e1 e2 e3) fun i hi => ?_
        have : i ≠ b' := fun e => hbG (e ▸ List.mem_flatten.2 ⟨f, List.mem_of_getElem? e3, hi⟩)
        simp [Vw.put, this]
      · rcases List.mem_cons.1 hi with e | e
        · rw [e]; exact .inr (.inr hb')
        · exact .inr (.inl e)
  · have hn1 : ∀ c, c ∈ css → c.length = n := fun c hc => by
      obtain ⟨i, hi⟩ := List.getElem?_of_mem hc
      have hil : i < css.length := (List.getElem?_eq_some_iff.1 hi).1
      exact ok.len _ _ _ _ (g8 i c _ _ hi (List.getElem?_eq_getElem (by omega)) (List.getElem?_eq_getElem (by omega)))
    have g4' := g4
    rw [g7] at h2
    have hbFs : b ∉ Fs.flatten := (List.nodup_cons.1 h2).1
    have hbG : b ∉ Gs.flatten := fun hi => hGF b hi (by rw [g7]; exact List.mem_cons_self)
    have hFsdom : ∀ i, i ∈ Fs.flatten → σ i ≠ none := fun i hi => by
      obtain ⟨j, f, e1, e2⟩ := mem_flat hi
      have hj : j < Fs.length := (List.getElem?_eq_some_iff.1 e1).1
      exact (ok.dom _ _ _ _ (g8 j _ _ f (List.getElem?_eq_getElem (by omega)) (List.getElem?_eq_getElem (by omega)) e1) i e2).2
    refine .inr (.inl ⟨xs.length, css.flatten, ⟨by rw [flat_len _ hn1, g5], .inr ⟨b, cap, rfl, g4, g2.1, g2.2⟩⟩, hnewl, by omega, hb47, fun v' σ' hg => ?_⟩)
    rcases hg with ⟨rfl, rfl, h, _⟩ | ⟨b', c', rfl, k1, k2, rfl, k3, k4⟩
    · cases h
    · have hb' : b' ∉ Fs.flatten ∧ b' ∉ Gs.flatten ∧ (b' = b ∨ σ b' = none) := by
        rcases k4 with h | ⟨n0, c0, h⟩
        · exact ⟨fun hi => hFsdom b' hi h, fun hi => hGdom b' hi h, .inr h⟩
        · cases h; exact ⟨hbFs, hbG, .inl rfl⟩
      refine hK _ (b' :: (Fs ++ Gs).flatten) _ ?_ ?_ ?_ fun i hi => ?_
      · rcases hb'.2.2 with rfl | h
        · intro i r hi
          by_cases e : i = b'
          · subst e
            rw [g4'] at hi; cases hi
            exact ⟨_, put_at, List.prefix_append _ _⟩
          · exact ⟨r, by simp [Vw.put, e, hi], List.prefix_refl _⟩
        · exact (Keeps.put h).ext
      · rcases hb'.2.2 with rfl | h
        · exact KeepsBut.put (by rw [g7]; exact List.mem_cons_self)
        · exact (Keeps.put h).but
      · refine ⟨by simp; omega, ?_, .inr ⟨b', c', css ++ nss, Fs ++ Gs, by simp [hm], by simp [hm]; omega, k3, by rw [put_at, hnew]; simp, by simp [hm, hnl, g5], by simp [hm, hGl, g6], rfl, fun j c x f e1 e2 e3 => ?_⟩⟩
        · rw [List.flatten_append, List.nodup_cons]
          refine ⟨fun hi => ?_, List.nodup_append.2 ⟨(List.nodup_cons.1 h2).2, hG, fun a ha d hd e => hGF d hd (by rw [g7, ← e]; exact List.mem_cons_of_mem _ ha)⟩⟩
          rcases List.mem_append.1 hi with h | h
          · exact hb'.1 h
          · exact hb'.2.1 h
        · have hput : ∀ i, i ≠ b' → (σ.put b' ⟨ety, css.flatten ++ new, c' * n, (0, 0)⟩) i = σ i := fun i hi => by simp [Vw.put, hi]
          by_cases hj : j < xs.length
          · rw [List.getElem?_append_left (by omega)] at e1 e2 e3
            exact ok.frame _ _ _ _ _ (g8 j c x f e1 e2 e3) fun i hi => hput i fun e => hb'.1 (e ▸ List.mem_flatten.2 ⟨f, List.mem_of_getElem? e3, hi⟩)
          · rw [List.getElem?_append_right (by omega)] at e1 e2 e3
            rw [g5] at e1; rw [g6] at e3
            exact ok.frame _ _ _ _ _ (hO _ c x f e1 e2 e3) fun i hi => hput i fun e => hb'.2.1 (e ▸ List.mem_flatten.2 ⟨f, List.mem_of_getElem? e3, hi⟩)
      · rw [g7]
        rcases List.mem_cons.1 hi with e | e
        · rw [e]
          rcases hb'.2.2 with rfl | h
          · exact .inl List.mem_cons_self
          · exact .inr (.inr h)
        · rw [List.flatten_append] at e
          rcases List.mem_append.1 e with h | h
          · exact .inl (List.mem_cons_of_mem _ h)
          · exact .inr (.inl h)

/-- One element is appended. -/
theorem OAcc.oneX {ety n bytes : Nat} {Rel : (Addr → Option Value) → List Value → α → Prop} {O : Vw → List Nat → List Value → α → Prop} (ok : OOk w0 n Rel O) {F f : List Nat} {v : Value} {xs : List α} {y : α} {es : List Value}
    (h : OAcc w0 ety n O σ F v xs) (hy : O σ f es y) (hf : ∀ i, i ∈ f → i ∉ F) (hlen : xs.length + 1 ≤ 1000000000000) (hbytes : bytes ≤ 140) {K : Value → Vw → Prop}
    (hK : ∀ v' F' σ', Ext σ σ' → KeepsBut F σ σ' → OAcc w0 ety n O σ' F' v' (xs ++ [y]) → (∀ i, i ∈ F' → i ∈ F ∨ i ∈ f ∨ σ i = none) → K v' σ') : allOne es ∧ pAppend w0 ety n bytes v 1 es σ K := by
  refine ⟨ok.one _ _ _ _ hy, ?_⟩
  refine h.pushX ok (ys := [y]) (nss := [es]) (Gs := [f]) rfl rfl rfl (by simp) (fun j c z g e1 e2 e3 => ?_) (by simpa using ok.nodup _ _ _ _ hy) (by simpa using hf) hlen hbytes (by simpa using hK)
  cases j with
  | zero => simp at e1 e2 e3; subst e1 e2 e3; exact hy
  | succ j => simp at e1

/-- All elements of a list that is read are appended; they need no rows of their own. -/
theorem OAcc.allX {ety n bytes : Nat} {Rel Rel0 : (Addr → Option Value) → List Value → α → Prop} {O : Vw → List Nat → List Value → α → Prop} (ok : OOk w0 n Rel O) {rd0 : Addr → Option Value} {F : List Nat} {v s : Value} {xs ys : List α}
    (h : OAcc w0 ety n O σ F v xs) (hs : RSl n Rel0 rd0 s ys) (hle : Le rd0 (Av.get w0 σ)) (hO : ∀ es y, Rel0 rd0 es y → O σ [] es y) (hlen : xs.length + ys.length ≤ 1000000000000) (hbytes : bytes ≤ 140) {K : Value → Vw → Prop}
    (hK : ∀ v' F' σ', Ext σ σ' → KeepsBut F σ σ' → OAcc w0 ety n O σ' F' v' (xs ++ ys) → (∀ i, i ∈ F' → i ∈ F ∨ σ i = none) → K v' σ') : pAppendS w0 ety n bytes v s σ K := by
  obtain ⟨A, cap, rfl, hc, hel⟩ := hs
  obtain ⟨css, hcl, hcs⟩ := listOf (fun i (c : List Value) => ∃ a y, A = some a ∧ ys[i]? = some y ∧ c.length = n ∧ (∀ k, k < n → rd0 (a.add (i * n + k)) = c[k]?) ∧ Rel0 rd0 c y) ys.length (fun i hi => by
    obtain ⟨a, es, h1, h2, h3, h4⟩ := hel i _ (List.getElem?_eq_getElem hi)
    exact ⟨es, a, _, h1, List.getElem?_eq_getElem hi, h2, h3, h4⟩)
  have hn : ∀ c, c ∈ css → c.length = n := fun c hc => by
    obtain ⟨i, hi⟩ := List.getElem?_of_mem hc
    obtain ⟨_, _, _, _, h, _⟩ := hcs i c hi
    exact h
  refine ⟨A, ys.length, cap, css.flatten, rfl, by rw [flat_len _ hn, hcl], ?_, ?_, ?_⟩
  · intro c hc
    obtain ⟨es, he, hce⟩ := List.mem_flatten.1 hc
    obtain ⟨i, hi⟩ := List.getElem?_of_mem he
    obtain ⟨a, y, _, _, _, _, hR⟩ := hcs i es hi
    exact ok.one _ _ _ _ (hO _ _ hR) c hce
  · intro j hj
    rw [flat_len _ hn, hcl] at hj
    have hn0 : 0 < n := by
      rcases Nat.eq_zero_or_pos n with e | e
      · subst e; omega
      · exact e
    have hq : j / n < css.length := by rw [hcl]; exact (Nat.div_lt_iff_lt_mul hn0).2 hj
    obtain ⟨a, y, hA, hy, hl, hk, hR⟩ := hcs (j / n) _ (List.getElem?_eq_getElem hq)
    have hr : j % n < n := Nat.mod_lt _ hn0
    have hdm : j / n * n + j % n = j := by rw [Nat.mul_comm]; exact Nat.div_add_mod j n
    refine ⟨a, hA, ?_⟩
    have e1 := flat_get css hn (j / n) _ (List.getElem?_eq_getElem hq) (j % n) hr
    rw [hdm] at e1
    have e2 := hk (j % n) hr
    rw [hdm, ← e1] at e2
    have hj' : j < css.flatten.length := by rw [flat_len _ hn, hcl]; exact hj
    rw [List.getElem?_eq_getElem hj'] at e2
    exact hle _ _ e2
  · refine h.pushX ok (ys := ys) (nss := css) (Gs := List.replicate ys.length []) rfl hcl (by simp) rfl (fun j c y g e1 e2 e3 => ?_) (by simp) (by simp) hlen hbytes (by simpa using hK)
    obtain ⟨a, y', _, hy, _, _, hR⟩ := hcs j c e1
    rw [e2] at hy; cases hy
    rw [List.getElem?_replicate] at e3
    split at e3
    · cases e3; exact hO _ _ hR
    · cases e3

/-- All elements of a list of our own are appended, with their rows. -/
theorem OAcc.allOwnX {ety n bytes : Nat} {Rel : (Addr → Option Value) → List Value → α → Prop} {O : Vw → List Nat → List Value → α → Prop} (ok : OOk w0 n Rel O) {F G : List Nat} {v s : Value} {xs ys : List α}
    (h : OAcc w0 ety n O σ F v xs) (hs : OSl w0 n O σ G s ys) (hGF : ∀ i, i ∈ G → i ∉ F) (hlen : xs.length + ys.length ≤ 1000000000000) (hbytes : bytes ≤ 140) {K : Value → Vw → Prop}
    (hK : ∀ v' F' σ', Ext σ σ' → KeepsBut F σ σ' → OAcc w0 ety n O σ' F' v' (xs ++ ys) → (∀ i, i ∈ F' → i ∈ F ∨ i ∈ G ∨ σ i = none) → K v' σ') : pAppendS w0 ety n bytes v s σ K := by
  obtain ⟨s1, s2, ⟨rfl, rfl, rfl⟩ | ⟨b, off, cap, r, pre, post, css, Gs, rfl, gc, g2, g3, g4, g5, g6, g7, g8, g9⟩⟩ := hs
  · refine ⟨none, 0, 0, [], rfl, by simp, by simp, fun j hj => by simp at hj, ?_⟩
    exact h.pushX ok (ys := []) (nss := []) (Gs := []) rfl rfl rfl rfl (fun j c y g e1 => by simp at e1) (by simp) (by simp) (by simpa using hlen) hbytes (by simpa using hK)
  · have hn : ∀ c, c ∈ css → c.length = n := fun c hc => by
      obtain ⟨i, hi⟩ := List.getElem?_of_mem hc
      have hil : i < css.length := (List.getElem?_eq_some_iff.1 hi).1
      exact ok.len _ _ _ _ (g9 i c _ _ hi (List.getElem?_eq_getElem (by omega)) (List.getElem?_eq_getElem (by omega)))
    rw [g8] at s2
    refine ⟨_, ys.length, cap, css.flatten, rfl, by rw [flat_len _ hn, g6], ?_, ?_, ?_⟩
    · intro c hc
      obtain ⟨es, he, hce⟩ := List.mem_flatten.1 hc
      obtain ⟨i, hi⟩ := List.getElem?_of_mem he
      have hil : i < css.length := (List.getElem?_eq_some_iff.1 hi).1
      exact ok.one _ _ _ _ (g9 i es _ _ hi (List.getElem?_eq_getElem (by omega)) (List.getElem?_eq_getElem (by omega))) c hce
    · intro j hj
      refine ⟨_, rfl, ?_⟩
      rw [addr_add, get_row g2 g3, g4, List.getElem?_append_right (by omega), List.getElem?_append_left (by omega), ← List.getElem?_eq_getElem hj]
      congr 1; omega
    · refine h.pushX ok (ys := ys) (nss := css) (Gs := Gs) rfl g6 g7 rfl g9 (List.nodup_cons.1 s2).2 (fun i hi => hGF i (by rw [g8]; exact List.mem_cons_of_mem _ hi)) hlen hbytes fun v' F' σ' k0 k1 k2 k3 => hK v' F' σ' k0 k1 k2 fun i hi => ?_
      rcases k3 i hi with h | h | h
      · exact .inl h
      · exact .inr (.inl (by rw [g8]; exact List.mem_cons_of_mem _ h))
      · exact .inr (.inr h)
theorem OAcc.push {ety n bytes m : Nat} {Rel : (Addr → Option Value) → List Value → α → Prop} {O : Vw → List Nat → List Value → α → Prop} (ok : OOk w0 n Rel O) {F : List Nat} {v : Value} {xs ys : List α} {nss : List (List Value)} {Gs : List (List Nat)} {new : List Value}
    (h : OAcc w0 ety n O σ F v xs) (hm : ys.length = m) (hnl : nss.length = m) (hGl : Gs.length = m) (hnew : new = nss.flatten) (hO : ∀ (j : Nat) (c : List Value) (y : α) (g : List Nat), nss[j]? = some c → ys[j]? = some y → Gs[j]? = some g → O σ g c y)
    (hG : Gs.flatten.Nodup) (hGF : ∀ i, i ∈ Gs.flatten → i ∉ F) (hlen : xs.length + m ≤ 1000000000000) (hbytes : bytes ≤ 140) {K : Value → Vw → Prop}
    (hK : ∀ v' F' σ', KeepsBut F σ σ' → OAcc w0 ety n O σ' F' v' (xs ++ ys) → (∀ i, i ∈ F' → i ∈ F ∨ i ∈ Gs.flatten ∨ σ i = none) → K v' σ') : pAppend w0 ety n bytes v m new σ K :=
  OAcc.pushX ok h hm hnl hGl hnew hO hG hGF hlen hbytes fun v' F' σ' _ => hK v' F' σ'
theorem OAcc.one {ety n bytes : Nat} {Rel : (Addr → Option Value) → List Value → α → Prop} {O : Vw → List Nat → List Value → α → Prop} (ok : OOk w0 n Rel O) {F f : List Nat} {v : Value} {xs : List α} {y : α} {es : List Value}
    (h : OAcc w0 ety n O σ F v xs) (hy : O σ f es y) (hf : ∀ i, i ∈ f → i ∉ F) (hlen : xs.length + 1 ≤ 1000000000000) (hbytes : bytes ≤ 140) {K : Value → Vw → Prop}
    (hK : ∀ v' F' σ', KeepsBut F σ σ' → OAcc w0 ety n O σ' F' v' (xs ++ [y]) → (∀ i, i ∈ F' → i ∈ F ∨ i ∈ f ∨ σ i = none) → K v' σ') : allOne es ∧ pAppend w0 ety n bytes v 1 es σ K :=
  OAcc.oneX ok h hy hf hlen hbytes fun v' F' σ' _ => hK v' F' σ'
theorem OAcc.all {ety n bytes : Nat} {Rel Rel0 : (Addr → Option Value) → List Value → α → Prop} {O : Vw → List Nat → List Value → α → Prop} (ok : OOk w0 n Rel O) {rd0 : Addr → Option Value} {F : List Nat} {v s : Value} {xs ys : List α}
    (h : OAcc w0 ety n O σ F v xs) (hs : RSl n Rel0 rd0 s ys) (hle : Le rd0 (Av.get w0 σ)) (hO : ∀ es y, Rel0 rd0 es y → O σ [] es y) (hlen : xs.length + ys.length ≤ 1000000000000) (hbytes : bytes ≤ 140) {K : Value → Vw → Prop}
    (hK : ∀ v' F' σ', KeepsBut F σ σ' → OAcc w0 ety n O σ' F' v' (xs ++ ys) → (∀ i, i ∈ F' → i ∈ F ∨ σ i = none) → K v' σ') : pAppendS w0 ety n bytes v s σ K :=
  OAcc.allX ok h hs hle hO hlen hbytes fun v' F' σ' _ => hK v' F' σ'
theorem OAcc.allOwn {ety n bytes : Nat} {Rel : (Addr → Option Value) → List Value → α → Prop} {O : Vw → List Nat → List Value → α → Prop} (ok : OOk w0 n Rel O) {F G : List Nat} {v s : Value} {xs ys : List α}
    (h : OAcc w0 ety n O σ F v xs) (hs : OSl w0 n O σ G s ys) (hGF : ∀ i, i ∈ G → i ∉ F) (hlen : xs.length + ys.length ≤ 1000000000000) (hbytes : bytes ≤ 140) {K : Value → Vw → Prop}
    (hK : ∀ v' F' σ', KeepsBut F σ σ' → OAcc w0 ety n O σ' F' v' (xs ++ ys) → (∀ i, i ∈ F' → i ∈ F ∨ i ∈ G ∨ σ i = none) → K v' σ') : pAppendS w0 ety n bytes v s σ K :=
  OAcc.allOwnX ok h hs hGF hlen hbytes fun v' F' σ' _ => hK v' F' σ'
end
end Go.Av

/- A part of a list that is read; slices of texts. -/
set_option linter.unusedVariables false
set_option linter.unusedSimpArgs false
namespace Go.Av
open Go Go.RowKit

section
variable {P : Program} {w0 : World} {σ σ' : Vw} {α : Type}

theorem RSl.slice {n : Nat} {R : (Addr → Option Value) → List Value → α → Prop} {rd : Addr → Option Value} {v : Value} {xs : List α} (h : RSl n R rd v xs) {lo hi : Option Value} {l u : Nat} (hl : boundOf 0 lo = some (l : Int)) (hu : boundOf xs.length hi = some (u : Int)) (hlu : l ≤ u) (hux : u ≤ xs.length) {K : Value → Prop}
    (hK : ∀ v', RSl n R rd v' ((xs.take u).drop l) → K v') : pSlice n v lo hi K := by
  obtain ⟨A, cap, rfl, h2, h3⟩ := h
  refine ⟨A, xs.length, cap, l, u, rfl, hl, hu, by omega, by omega, by omega, hK _ ?_⟩
  have hlen : ((xs.take u).drop l).length = u - l := by rw [List.length_drop, List.length_take]; omega
  simp only [Int.toNat_natCast]
  refine ⟨if cap = l then A else Option.map (fun x => x.add (l * n)) A, cap - l, by rw [hlen], by rw [hlen]; omega, fun j x hj => ?_⟩
  rw [List.getElem?_drop] at hj
  have hlt : l + j < u := by
    rcases Nat.lt_or_ge (l + j) u with h | h
    · exact h
    · rw [List.getElem?_eq_none (by rw [List.length_take]; omega)] at hj; cases hj
  rw [List.getElem?_take_of_lt hlt] at hj
  obtain ⟨a, es, rfl, g1, g2, g3⟩ := h3 _ x hj
  refine ⟨a.add (l * n), es, ?_, g1, fun i hi => ?_, g3⟩
  · rw [if_neg (by omega)]; rfl
  · rw [add_add, ← g2 i hi]
    congr 2
    rw [Nat.add_mul]; omega

/-- A field of an element is read. -/
theorem RSl.atp {n : Nat} {R : (Addr → Option Value) → List Value → α → Prop} {v : Value} {xs : List α} (h : RSl n R (Av.get w0 σ) v xs) {j : Nat} {x : α} (hj : xs[j]? = some x) {K : Value → (Nat → Value) → Prop} (hK : ∀ (p : Value) (g : Nat → Value), R (Av.get w0 σ) (expl g 0 n) x → K p g) :
    pIndexAddr n v (.int .i64 j) fun p => pLoad w0 n p σ (K p) := by
  have h' := h
  obtain ⟨A, cap, rfl, _, h3⟩ := h
  obtain ⟨a, es, rfl, h5, h6, h7⟩ := h3 j x hj
  have hlt : j < xs.length := (List.getElem?_eq_some_iff.1 hj).1
  refine ⟨a, xs.length, cap, .i64, j, rfl, rfl, by omega, by omega, a.add (j * n), fun i => es.getD i undef, rfl, fun i hi => ?_, hK _ _ ?_⟩
  · have := h6 i hi
    have hlt : i < es.length := by omega
    rw [add_add]
    show Av.get w0 σ (a.add (j * n + i)) = _
    rw [this, List.getElem?_eq_getElem hlt]
    simp only [List.getD_eq_getElem?_getD, List.getElem?_eq_getElem hlt, Option.getD_some]
  · have : expl (fun i => es.getD i undef) 0 n = es := by
      apply List.ext_getElem?
      intro i
      by_cases hi : i < n
      · rw [expl_get _ _ _ _ hi, Nat.zero_add, List.getD_eq_getElem?_getD]
        have hlt : i < es.length := by omega
        rw [List.getElem?_eq_getElem hlt]; rfl
      · rw [List.getElem?_eq_none (by rw [length_expl]; omega), List.getElem?_eq_none (by omega)]
    rw [this]; exact h7
theorem RSl.atfp {n : Nat} {R : (Addr → Option Value) → List Value → α → Prop} {v : Value} {xs : List α} (h : RSl n R (Av.get w0 σ) v xs) {j : Nat} {x : α} (hj : xs[j]? = some x) (o : Nat) (ho : o < n) {K : Value → (Nat → Value) → Prop} (hK : ∀ (q : Value) (es : List Value) (g : Nat → Value), R (Av.get w0 σ) es x → es[o]? = some (g 0) → K q g) :
    pIndexAddr n v (.int .i64 j) fun p => pField o p fun q => pLoad w0 1 q σ (K q) := by
  obtain ⟨A, cap, rfl, _, h3⟩ := h
  obtain ⟨a, es, rfl, h5, h6, h7⟩ := h3 j x hj
  have hlt : j < xs.length := (List.getElem?_eq_some_iff.1 hj).1
  refine ⟨a, xs.length, cap, .i64, j, rfl, rfl, by omega, by omega, a.add (j * n), rfl, (a.add (j * n)).add o, fun _ => es.getD o undef, rfl, fun i hi => ?_, hK _ es _ h7 ?_⟩
  · have e : i = 0 := by omega
    subst e
    have := h6 o ho
    rw [add_add, add_add, Nat.add_zero, this, List.getElem?_eq_getElem (by omega)]
    simp only [List.getD_eq_getElem?_getD, List.getElem?_eq_getElem (show o < es.length by omega), Option.getD_some]
  · simp only [List.getD_eq_getElem?_getD, List.getElem?_eq_getElem (show o < es.length by omega), Option.getD_some]

theorem RSl.atf {n : Nat} {R : (Addr → Option Value) → List Value → α → Prop} {v : Value} {xs : List α} (h : RSl n R (Av.get w0 σ) v xs) {j : Nat} {x : α} (hj : xs[j]? = some x) (o : Nat) (ho : o < n) {K : (Nat → Value) → Prop} (hK : ∀ (es : List Value) (g : Nat → Value), R (Av.get w0 σ) es x → es[o]? = some (g 0) → K g) :
    pIndexAddr n v (.int .i64 j) fun p => pField o p fun q => pLoad w0 1 q σ K :=
  h.atfp hj o ho fun q => hK

end
end Go.Av

/- Rows of our own: cells stored, an element taken out in place, the copy of two lists in any order. -/
set_option linter.unusedVariables false
set_option linter.unusedSimpArgs false
namespace Go.Av
open Go Go.RowKit

section
variable {P : Program} {w0 : World} {σ σ' : Vw} {α γ : Type}

theorem cell_store {b o : Nat} {r : Row} {A c C new : List Value} {K : Vw → Prop} (hr : σ b = some r) (hc : r.cells = A ++ (c ++ C)) (hA : A.length = o) (hl : c.length = new.length)
    (hK : K (σ.put b { r with cells := A ++ (new ++ C) })) : pStore (.pointer (some ⟨b, o, none⟩)) new σ K := by
  refine ⟨b, o, r, rfl, hr, by rw [hc]; simp only [List.length_append]; omega, ?_⟩
  rw [hc, ← hA, setAt_mid A c new C hl]
  exact hK

/-- An element of a list of our own is written, all its cells. -/
theorem OSl.store {n : Nat} {Rel : (Addr → Option Value) → List Value → α → Prop} {O : Vw → List Nat → List Value → α → Prop} (ok : OOk w0 n Rel O) {F : List Nat} {v : Value} {xs : List α} (h : OSl w0 n O σ F v xs) {j : Nat} {x y : α} {new : List Value} (hj : xs[j]? = some x)
    (hO : ∀ f c σ', O σ f c x → O σ' f new y) (hn : new.length = n) {K : Vw → Prop}
    (hK : ∀ σ', KeepsBut F σ σ' → OSl w0 n O σ' F v (xs.set j y) → K σ') : pIndexAddr n v (.int .i64 j) fun p => pStore p new σ K := by
  obtain ⟨b, o, f, c, A, C, r, hix, hb, hr, hc, hA, hOx, hbF, hf, hput⟩ := h.focus ok hj
  refine hix _ ?_
  have hcl := ok.len _ _ _ _ hOx
  refine cell_store hr hc hA (by rw [hcl, hn]) ?_
  exact hK _ (KeepsBut.put hbF) (hput _ new y _ put_at rfl (hO _ _ _ hOx) fun i hi hne _ => by simp [Vw.put, hne])

theorem fresh_in {F F' : List Nat} {σ s : Vw} (k : Keeps σ s) (hF : ∀ i, i ∈ F → σ i = none) (h : ∀ i, i ∈ F' → i ∈ F ∨ s i = none) : ∀ i, i ∈ F' → σ i = none := fun i hi => by
  rcases h i hi with e | e
  · exact hF i e
  · cases hs : σ i with
    | none => rfl
    | some r => rw [k i r hs] at e; cases e
/-! ### An element is taken out, in place -/
end
end Go.Av

/- What each function owes, reckoned out. MADE BY PROGRAM (emit.py). -/
set_option linter.unusedVariables false
namespace Go.Proofs.YtkbhjejalkbogaaGreatDoor
open Go Go.Av

abbrev t_int : Nat := 3
abbrev t_uint8 : Nat := 5
abbrev t_string : Nat := 9
abbrev t_s_uint8 : Nat := 22
abbrev t_impl_Tree : Nat := 34
abbrev t_impl_Entry : Nat := 55
abbrev n_laws_FnLayerText : Nat := 3
abbrev n_spec_DrawLayerRead : Nat := 5
abbrev n_impl_LayerRead : Nat := 6
abbrev n_spec_LayerRead : Nat := 7
abbrev n_laws_wtEntries : Nat := 8
abbrev n_impl_LayerWrite : Nat := 9
abbrev n_spec_DrawLayerWrite : Nat := 10
abbrev n_spec_LayerWrite : Nat := 11
abbrev n_spec_l1Open : Nat := 23
abbrev n_spec_l4Entries : Nat := 24
abbrev n_spec_l4Tree : Nat := 25
abbrev n_p_spec_l1Rd_pick : Nat := 26
abbrev n_p_spec_l1Rd_of : Nat := 27
abbrev n_impl_linesOf : Nat := 28
abbrev n_strings_Split : Nat := 29
abbrev n_impl_pathRead : Nat := 30
abbrev n_impl_numRead : Nat := 31
abbrev n_impl_dataRead : Nat := 32
abbrev n_spec_l1Cut : Nat := 33
abbrev n_spec_l3Line : Nat := 34
abbrev n_laws_wtTexts : Nat := 35
abbrev n_impl_entryOk : Nat := 36
abbrev n_p_strings_Builder_WriteString : Nat := 37
abbrev n_impl_Entry_line : Nat := 38
abbrev n_p_strings_Builder_Len : Nat := 39
abbrev n_p_strings_Builder_String : Nat := 40
abbrev n_spec_DrawLayerApply : Nat := 41
abbrev n_spec_l3EntryOk : Nat := 42
abbrev n_spec_l3Text : Nat := 43
abbrev n_impl_look : Nat := 47
abbrev n_spec_TreeOk : Nat := 48
abbrev n_impl_pathText : Nat := 53
abbrev n_spec_l2Within : Nat := 58
abbrev n_spec_DiffWalk : Nat := 59
abbrev n_spec_l4Calls : Nat := 60
abbrev n_spec_l4Path : Nat := 61
abbrev n_spec_l4Data : Nat := 62
abbrev n_spec_TreeDo : Nat := 63
abbrev n_strings_TrimPrefix : Nat := 65
abbrev n_strconv_Atoi : Nat := 66
abbrev n_impl_unhex : Nat := 67
abbrev n_spec_l3Mode : Nat := 68
abbrev n_spec_l1Bytes : Nat := 69
abbrev n_impl_namesOk : Nat := 70
abbrev n_impl_modeOk : Nat := 71
abbrev n_strconv_Itoa : Nat := 73
abbrev n_impl_dataText : Nat := 74
abbrev n_spec_l4Any : Nat := 75
abbrev n_spec_l4SpoilEntries : Nat := 76
abbrev n_spec_l2PathOk : Nat := 77
abbrev n_spec_l1In : Nat := 78
abbrev n_spec_l3Name : Nat := 79
abbrev n_spec_l1Dec : Nat := 80
abbrev n_spec_l1Hex : Nat := 81
abbrev n_spec_l4Spoil : Nat := 82
abbrev n_impl_Tree_paths : Nat := 85
abbrev n_impl_under : Nat := 88
abbrev n_impl_fresh : Nat := 89
abbrev n_impl_gone : Nat := 90
abbrev n_impl_walk : Nat := 91
abbrev n_impl_both : Nat := 92
abbrev n_impl_marked : Nat := 93
abbrev n_impl_changes : Nat := 94
abbrev n_impl_either : Nat := 95
abbrev n_impl_below : Nat := 96
abbrev n_impl_leads : Nat := 97
abbrev n_p_impl_Tree_kid : Nat := 98
abbrev n_spec_l1Parts : Nat := 99
abbrev n_spec_l1Count : Nat := 100
abbrev n_spec_l3New : Nat := 102
abbrev n_spec_l3Gone : Nat := 103
abbrev n_spec_l3Walk : Nat := 105
abbrev n_spec_l3Part : Nat := 107
abbrev n_spec_l3Path : Nat := 109
abbrev n_strings_Join : Nat := 115
abbrev n_spec_l4Call : Nat := 117
abbrev n_spec_l4Name : Nat := 118
abbrev n_spec_l1Find : Nat := 119
abbrev n_spec_l1Many : Nat := 120
abbrev n_spec_l2CallOk : Nat := 121
abbrev n_spec_l1Copy : Nat := 122
abbrev n_spec_l2Do : Nat := 123
abbrev n_internal_stringslite_TrimPrefix : Nat := 127
abbrev n_impl_nibble : Nat := 130
abbrev n_spec_l1Digit : Nat := 131
abbrev n_impl_nameOk : Nat := 132
abbrev n_impl_within : Nat := 133
abbrev n_impl_hexOf : Nat := 136
abbrev n_spec_l4Full : Nat := 137
abbrev n_spec_l1NameOk : Nat := 138
abbrev n_spec_l1Plain : Nat := 150
abbrev n_spec_l1At : Nat := 152
abbrev n_spec_l2Parent : Nat := 157
abbrev n_spec_l2Fits : Nat := 158
abbrev n_spec_l2Set : Nat := 159
abbrev n_spec_l2File : Nat := 160
abbrev n_spec_l2Rename : Nat := 161
abbrev n_unicode_utf8_RuneCountInString : Nat := 162
abbrev n_unicode_utf8_DecodeRuneInString : Nat := 163
abbrev n_internal_stringslite_HasPrefix : Nat := 165
abbrev n_spec_l2Write : Nat := 182
theorem is_strings_Split : ∃ fn, Tryz.prog.funcs[n_strings_Split]? = some fn ∧ (fn.name == "runtime.NumGoroutine") = false ∧ fn.body.isNone = false := ⟨Tryz.f29, Tryz.func29, by kernel_rfl, by kernel_rfl⟩
theorem is_p_strings_Builder_WriteString : ∃ fn, Tryz.prog.funcs[n_p_strings_Builder_WriteString]? = some fn ∧ (fn.name == "runtime.NumGoroutine") = false ∧ fn.body.isNone = false := ⟨Tryz.f37, Tryz.func37, by kernel_rfl, by kernel_rfl⟩
theorem is_p_strings_Builder_String : ∃ fn, Tryz.prog.funcs[n_p_strings_Builder_String]? = some fn ∧ (fn.name == "runtime.NumGoroutine") = false ∧ fn.body.isNone = false := ⟨Tryz.f40, Tryz.func40, by kernel_rfl, by kernel_rfl⟩
theorem is_strconv_Atoi : ∃ fn, Tryz.prog.funcs[n_strconv_Atoi]? = some fn ∧ (fn.name == "runtime.NumGoroutine") = false ∧ fn.body.isNone = false := ⟨Tryz.f66, Tryz.func66, by kernel_rfl, by kernel_rfl⟩
theorem is_strconv_Itoa : ∃ fn, Tryz.prog.funcs[n_strconv_Itoa]? = some fn ∧ (fn.name == "runtime.NumGoroutine") = false ∧ fn.body.isNone = false := ⟨Tryz.f73, Tryz.func73, by kernel_rfl, by kernel_rfl⟩
theorem is_strings_Join : ∃ fn, Tryz.prog.funcs[n_strings_Join]? = some fn ∧ (fn.name == "runtime.NumGoroutine") = false ∧ fn.body.isNone = false := ⟨Tryz.f115, Tryz.func115, by kernel_rfl, by kernel_rfl⟩
end Go.Proofs.YtkbhjejalkbogaaGreatDoor

/- What each function owes, reckoned out, part 1. MADE BY PROGRAM (emit.py). -/
set_option linter.unusedVariables false
namespace Go.Proofs.YtkbhjejalkbogaaGreatDoor
open Go.Av renaming vget → G, cellOf → C, pVal → V, pBin → B, pIndexAddr → X, pLoad → L, pField → F, pIf → Q, pExtract → E, pAppend → A, pLen → N, pNew → W
open Go.Proofs.Tryz renaming prog → P
open Go Go.Av

/-- laws.FnLayerText -/
def kp_laws_FnLayerText : Nat → Keep
  | _ => ⟨[], [], [], .done, []⟩
def esc_laws_FnLayerText : Nat → Bool
  | _ => false
def vc_laws_FnLayerText (w0 : World) (a0 a1 : Value) (σ : Vw) (R : Value → Vw → Prop) : Prop :=
  N a0 fun v0 => B P 3 .gtr v0 (.int .i64 1048576) fun v1 => Q v1 (R (.bool true) σ) (N a1 fun v2 => B P 3 .gtr v2 (.int .i64 1048576) fun v3 => Q v3 (R (.bool true) σ) (AC P w0 n_spec_DrawLayerRead [a0] σ fun v4 s5 => AC P w0 n_impl_LayerRead [v4] s5 fun v6 s7 => E v6 0 fun v8 => E v6 1 fun v9 => AC P w0 n_spec_LayerRead [v4] s7 fun v10 s11 => E v10 0 fun v12 => E v10 1 fun v13 => B P 4 .neq v9 v13 fun v14 => Q v14 (R (.bool false) s11) (AC P w0 n_laws_wtEntries [v8, v12] s11 fun v15 s16 => pUn .not v15 fun v17 => Q v17 (R (.bool false) s16) (Q v9 (AC P w0 n_impl_LayerWrite [v8] s16 fun v18 s19 => B P 9 .neq v18 v4 fun v20 => Q v20 (R (.bool false) s19) (AC P w0 n_spec_DrawLayerWrite [a1] s19 fun v21 s22 => AC P w0 n_impl_LayerWrite [v21] s22 fun v23 s24 => AC P w0 n_impl_LayerRead [v23] s24 fun v25 s26 => E v25 0 fun v27 => E v25 1 fun v28 => AC P w0 n_spec_LayerWrite [v21] s26 fun v29 s30 => B P 9 .eql v23 v29 fun v31 => Q v31 (B P 9 .eql v23 (.string ({ data := #[] })) fun v32 => Q v32 (R (.bool true) s30) (Q v28 (AC P w0 n_laws_wtEntries [v27, v21] s30 fun v33 s34 => R v33 s34) (R (.bool false) s30))) (R (.bool false) s30))) (AC P w0 n_spec_DrawLayerWrite [a1] s16 fun v35 s36 => AC P w0 n_impl_LayerWrite [v35] s36 fun v37 s38 => AC P w0 n_impl_LayerRead [v37] s38 fun v39 s40 => E v39 0 fun v41 => E v39 1 fun v42 => AC P w0 n_spec_LayerWrite [v35] s40 fun v43 s44 => B P 9 .eql v37 v43 fun v45 => Q v45 (B P 9 .eql v37 (.string ({ data := #[] })) fun v46 => Q v46 (R (.bool true) s44) (Q v42 (AC P w0 n_laws_wtEntries [v41, v35] s44 fun v47 s48 => R v47 s48) (R (.bool false) s44))) (R (.bool false) s44))))))
theorem vc_laws_FnLayerText_eq (w0 : World) (a0 a1 : Value) (σ : Vw) (R : Value → Vw → Prop) : vc_laws_FnLayerText w0 a0 a1 σ R = den Tryz.prog w0 kp_laws_FnLayerText esc_laws_FnLayerText (Tryz.f3.body.getD .skip) (entry Tryz.f3.ntmps [a0, a1]) σ (retK Tryz.prog Tryz.f3.results.toList R) := by kernel_rfl
theorem ac_laws_FnLayerText {w0 : World} {a0 a1 : Value} {σ : Vw} {R : Value → Vw → Prop} (h : vc_laws_FnLayerText w0 a0 a1 σ R) : AC Tryz.prog w0 n_laws_FnLayerText [a0, a1] σ R := by
  refine ac_rule (fn := Tryz.f3) (c := Tryz.f3.body.getD .skip) kp_laws_FnLayerText esc_laws_FnLayerText Tryz.func3 (by kernel_rfl) (by kernel_rfl) ?_
  rw [← vc_laws_FnLayerText_eq]
  exact h

/-- spec.DrawLayerRead -/
def kp_spec_DrawLayerRead : Nat → Keep
  | 6 => ⟨[], [], [], .step 0 (.step 1 (.step 2 (.step 3 (.step 7 (.step 8 (.step 9 (.step 4 (.step 5 (.step 6 (.step 10 (.step 11 (.done)))))))))))), [(2, [0, 1]), (5, [3, 4]), (6, [0, 1, 2, 3, 4, 5]), (9, [7, 8]), (10, [0, 1, 2, 3, 4, 5, 6, 7, 8, 9]), (11, [0, 1, 2, 3, 4, 5, 6, 7, 8, 9, 10])]⟩
  | _ => ⟨[], [], [], .done, []⟩
def esc_spec_DrawLayerRead : Nat → Bool
  | 26 => true
  | 37 => true
  | _ => false
def vc_spec_DrawLayerRead (w0 : World) (a0 : Value) (σ : Vw) (R : Value → Vw → Prop) : Prop :=
  AC P w0 n_spec_l1Open [a0] σ fun v0 s1 => AC P w0 n_spec_l4Tree [v0] s1 fun v2 s3 => AC P w0 n_spec_l4Entries [v0, v2] s3 fun v4 s5 => AC P w0 n_spec_LayerWrite [v4] s5 fun v6 s7 => AC P w0 n_p_spec_l1Rd_pick [v0, .int .i64 4] s7 fun v8 s9 => B P 3 .eql v8 (.int .i64 0) fun v10 => Q v10 (pLenS v6 fun v11 => B P 3 .add v11 (.int .i64 1) fun v12 => AC P w0 n_p_spec_l1Rd_pick [v0, v12] s9 fun v13 s14 => pSliceStr v6 none (some v13) fun v15 => pSliceStr v6 (some v13) none fun v16 => V false 1 (.string ({ data := #[32] })) (V false 1 (.string ({ data := #[47] })) (V false 1 (.string ({ data := #[10] })) (V false 1 (.string ({ data := #[48] })) (V false 1 (.string ({ data := #[97] })) (V false 1 (.string ({ data := #[45] })) (W w0 9 ([.string ({ data := #[32] }), .string ({ data := #[47] }), .string ({ data := #[10] }), .string ({ data := #[48] }), .string ({ data := #[97] }), .string ({ data := #[45] })]) s14 fun n17 s18 => AC P w0 n_p_spec_l1Rd_of [v0, .slice (some (Addr.mk n17 0 none)) 6 6] s18 fun v19 s20 => B P 9 .add v15 v19 fun v21 => B P 9 .add v21 v16 fun v22 => R v22 s20))))))) (B P 3 .eql v8 (.int .i64 1) fun v23 => Q v23 (V false 1 (.string ({ data := #[103, 111, 110, 101, 32, 47, 10] })) (V false 1 (.string ({ data := #[103, 111, 110, 101, 32, 47, 97, 10] })) (V false 1 (.string ({ data := #[110, 101, 119, 32, 47, 97, 32, 48, 32, 45, 10] })) (V false 1 (.string ({ data := #[110, 101, 119, 32, 47, 97, 32, 56, 32, 45, 10] })) (V false 1 (.string ({ data := #[110, 101, 119, 100, 105, 114, 32, 47, 97, 32, 48, 10] })) (V false 1 (.string ({ data := #[110, 101, 119, 100, 105, 114, 32, 47, 32, 48, 10] })) (V false 1 (.string ({ data := #[109, 111, 100, 101, 32, 47, 32, 51, 10] })) (V false 1 (.string ({ data := #[109, 111, 100, 101, 32, 47, 97, 32, 48, 51, 10] })) (V false 1 (.string ({ data := #[100, 97, 116, 97, 32, 47, 32, 45, 10] })) (V false 1 (.string ({ data := #[100, 97, 116, 97, 32, 47, 97, 32, 48, 10] })) (V false 1 (.string ({ data := #[100, 97, 116, 97, 32, 47, 97, 32, 48, 48, 10] })) (V false 1 (.string ({ data := #[103, 111, 110, 101, 32, 97, 10] })) (V false 1 (.string ({ data := #[103, 111, 110, 101, 32, 47, 47, 97, 10] })) (V false 1 (.string ({ data := #[103, 111, 110, 101, 32, 47, 97] })) (V false 1 (.string ({ data := #[119, 104, 97, 116, 32, 47, 97, 10] })) (W w0 9 ([.string ({ data := #[103, 111, 110, 101, 32, 47, 10] }), .string ({ data := #[103, 111, 110, 101, 32, 47, 97, 10] }), .string ({ data := #[110, 101, 119, 32, 47, 97, 32, 48, 32, 45, 10] }), .string ({ data := #[110, 101, 119, 32, 47, 97, 32, 56, 32, 45, 10] }), .string ({ data := #[110, 101, 119, 100, 105, 114, 32, 47, 97, 32, 48, 10] }), .string ({ data := #[110, 101, 119, 100, 105, 114, 32, 47, 32, 48, 10] }), .string ({ data := #[109, 111, 100, 101, 32, 47, 32, 51, 10] }), .string ({ data := #[109, 111, 100, 101, 32, 47, 97, 32, 48, 51, 10] }), .string ({ data := #[100, 97, 116, 97, 32, 47, 32, 45, 10] }), .string ({ data := #[100, 97, 116, 97, 32, 47, 97, 32, 48, 10] }), .string ({ data := #[100, 97, 116, 97, 32, 47, 97, 32, 48, 48, 10] }), .string ({ data := #[103, 111, 110, 101, 32, 97, 10] }), .string ({ data := #[103, 111, 110, 101, 32, 47, 47, 97, 10] }), .string ({ data := #[103, 111, 110, 101, 32, 47, 97] }), .string ({ data := #[119, 104, 97, 116, 32, 47, 97, 10] })]) s9 fun n24 s25 => AC P w0 n_p_spec_l1Rd_of [v0, .slice (some (Addr.mk n24 0 none)) 15 15] s25 fun v26 s27 => B P 9 .add v6 v26 fun v28 => R v28 s27)))))))))))))))) (R v6 s9))
theorem vc_spec_DrawLayerRead_eq (w0 : World) (a0 : Value) (σ : Vw) (R : Value → Vw → Prop) : vc_spec_DrawLayerRead w0 a0 σ R = den Tryz.prog w0 kp_spec_DrawLayerRead esc_spec_DrawLayerRead (Tryz.f5.body.getD .skip) (entry Tryz.f5.ntmps [a0]) σ (retK Tryz.prog Tryz.f5.results.toList R) := by kernel_rfl
theorem ac_spec_DrawLayerRead {w0 : World} {a0 : Value} {σ : Vw} {R : Value → Vw → Prop} (h : vc_spec_DrawLayerRead w0 a0 σ R) : AC Tryz.prog w0 n_spec_DrawLayerRead [a0] σ R := by
  refine ac_rule (fn := Tryz.f5) (c := Tryz.f5.body.getD .skip) kp_spec_DrawLayerRead esc_spec_DrawLayerRead Tryz.func5 (by kernel_rfl) (by kernel_rfl) ?_
  rw [← vc_spec_DrawLayerRead_eq]
  exact h

/-- impl.LayerRead -/
def kp_impl_LayerRead : Nat → Keep
  | 5 => ⟨[0, 4, 15, 16, 17], [], [], .done, []⟩
  | 15 => ⟨[], [], [], .step 0 (.step 1 (.step 2 (.step 4 (.step 5 (.step 6 (.step 8 (.step 3 (.step 7 (.step 9 (.step 10 (.step 11 (.step 12 (.step 13 (.done)))))))))))))), [(1, [0]), (2, [0, 1]), (3, [0, 1, 2]), (5, [4]), (6, [4, 5]), (7, [0, 1, 2, 3, 4, 5, 6]), (9, [0, 1, 2, 3, 4, 5, 6, 7, 8]), (10, [0, 1, 2, 3, 4, 5, 6, 7, 8, 9]), (11, [0, 1, 2, 3, 4, 5, 6, 7, 8, 9, 10]), (12, [0, 1, 2, 3, 4, 5, 6, 7, 8, 9, 10, 11]), (13, [0, 1, 2, 3, 4, 5, 6, 7, 8, 9, 10, 11, 12])]⟩
  | _ => ⟨[], [], [], .done, []⟩
def esc_impl_LayerRead : Nat → Bool
  | 9 => true
  | 83 => true
  | _ => false
def vc_impl_LayerRead (w0 : World) (a0 : Value) (σ : Vw) (R : Value → Vw → Prop) : Prop :=
  W w0 55 [] σ fun n0 s1 => pLenS a0 fun v2 => B P 3 .gtr v2 (.int .i64 6000) fun v3 => Q v3 (R (.tuple (⟨[.slice (some (Addr.mk n0 0 none)) 0 0, .bool false]⟩)) s1) (AC P w0 n_impl_linesOf [a0] s1 fun v4 s5 => N v4 fun v6 => pLoop (fun l7 K8 s9 => B P 3 .lss (G l7 4) (G l7 3) fun v10 => Q v10 (X 1 (G l7 2) (G l7 4) fun v11 => L w0 1 v11 s9 fun g12 => AC P w0 n_strings_Split ([g12 0, .string ({ data := #[32] })]) s9 fun v13 s14 => V false 1 (.string ({ data := #[] })) (V false 1 (.string ({ data := #[] })) (V false 1 (.string ({ data := #[] })) ((allOne ([.string ({ data := #[] }), .string ({ data := #[] }), .string ({ data := #[] })])) ∧ (A w0 9 1 16 v13 3 ([.string ({ data := #[] }), .string ({ data := #[] }), .string ({ data := #[] })]) s14 fun v15 s16 => X 1 v15 (.int .i64 1) fun v17 => L w0 1 v17 s16 fun g18 => AC P w0 n_impl_pathRead [g18 0] s16 fun v19 s20 => V false 1 v19 (V true 5 (.agg (⟨[v19, .int .i64 0, .bool false, .int .i64 0, .string ({ data := #[] })]⟩)) (X 1 v15 (.int .i64 0) fun v21 => L w0 1 v21 s20 fun g22 => B P 9 .eql (g22 0) (.string ({ data := #[103, 111, 110, 101] })) fun v23 => Q v23 (V false 1 (.int .i64 1) (V true 5 (.agg (⟨[v19, .int .i64 1, .bool false, .int .i64 0, .string ({ data := #[] })]⟩)) ((allOne ([v19, .int .i64 1, .bool false, .int .i64 0, .string ({ data := #[] })])) ∧ (A w0 55 5 64 (G l7 1) 1 ([v19, .int .i64 1, .bool false, .int .i64 0, .string ({ data := #[] })]) s20 fun v24 s25 => B P 3 .add (G l7 4) (.int .i64 1) fun v26 => K8 .normal [G l7 0, v24, G l7 2, G l7 3, v26] s25)))) (B P 9 .eql (g22 0) (.string ({ data := #[110, 101, 119, 100, 105, 114] })) fun v27 => Q v27 (X 1 v15 (.int .i64 2) fun v28 => L w0 1 v28 s20 fun g29 => AC P w0 n_impl_numRead [g29 0] s20 fun v30 s31 => V false 1 (.int .i64 2) (V false 1 (.bool true) (V false 1 v30 (V true 5 (.agg (⟨[v19, .int .i64 2, .bool true, v30, .string ({ data := #[] })]⟩)) ((allOne ([v19, .int .i64 2, .bool true, v30, .string ({ data := #[] })])) ∧ (A w0 55 5 64 (G l7 1) 1 ([v19, .int .i64 2, .bool true, v30, .string ({ data := #[] })]) s31 fun v32 s33 => B P 3 .add (G l7 4) (.int .i64 1) fun v34 => K8 .normal [G l7 0, v32, G l7 2, G l7 3, v34] s33)))))) (B P 9 .eql (g22 0) (.string ({ data := #[110, 101, 119] })) fun v35 => Q v35 (X 1 v15 (.int .i64 2) fun v36 => L w0 1 v36 s20 fun g37 => X 1 v15 (.int .i64 3) fun v38 => L w0 1 v38 s20 fun g39 => AC P w0 n_impl_numRead [g37 0] s20 fun v40 s41 => (Stay w0 s20 s41 v38 1) ∧ (AC P w0 n_impl_dataRead [g39 0] s41 fun v42 s43 => V false 1 (.int .i64 2) (V false 1 v40 (V false 1 v42 (V true 5 (.agg (⟨[v19, .int .i64 2, .bool false, v40, v42]⟩)) ((allOne [v19, .int .i64 2, .bool false, v40, v42]) ∧ (A w0 55 5 64 (G l7 1) 1 [v19, .int .i64 2, .bool false, v40, v42] s43 fun v44 s45 => B P 3 .add (G l7 4) (.int .i64 1) fun v46 => K8 .normal [G l7 0, v44, G l7 2, G l7 3, v46] s45))))))) (B P 9 .eql (g22 0) (.string ({ data := #[109, 111, 100, 101] })) fun v47 => Q v47 (X 1 v15 (.int .i64 2) fun v48 => L w0 1 v48 s20 fun g49 => AC P w0 n_impl_numRead [g49 0] s20 fun v50 s51 => V false 1 (.int .i64 3) (V false 1 v50 (V true 5 (.agg (⟨[v19, .int .i64 3, .bool false, v50, .string ({ data := #[] })]⟩)) ((allOne ([v19, .int .i64 3, .bool false, v50, .string ({ data := #[] })])) ∧ (A w0 55 5 64 (G l7 1) 1 ([v19, .int .i64 3, .bool false, v50, .string ({ data := #[] })]) s51 fun v52 s53 => B P 3 .add (G l7 4) (.int .i64 1) fun v54 => K8 .normal [G l7 0, v52, G l7 2, G l7 3, v54] s53))))) (B P 9 .eql (g22 0) (.string ({ data := #[100, 97, 116, 97] })) fun v55 => Q v55 (X 1 v15 (.int .i64 2) fun v56 => L w0 1 v56 s20 fun g57 => AC P w0 n_impl_dataRead [g57 0] s20 fun v58 s59 => V false 1 (.int .i64 4) (V false 1 v58 (V true 5 (.agg (⟨[v19, .int .i64 4, .bool false, .int .i64 0, v58]⟩)) ((allOne [v19, .int .i64 4, .bool false, .int .i64 0, v58]) ∧ (A w0 55 5 64 (G l7 1) 1 [v19, .int .i64 4, .bool false, .int .i64 0, v58] s59 fun v60 s61 => B P 3 .add (G l7 4) (.int .i64 1) fun v62 => K8 .normal [G l7 0, v60, G l7 2, G l7 3, v62] s61))))) (V true 5 (.agg (⟨[v19, .int .i64 0, .bool false, .int .i64 0, .string ({ data := #[] })]⟩)) ((allOne ([v19, .int .i64 0, .bool false, .int .i64 0, .string ({ data := #[] })])) ∧ (A w0 55 5 64 (G l7 1) 1 ([v19, .int .i64 0, .bool false, .int .i64 0, .string ({ data := #[] })]) s20 fun v63 s64 => B P 3 .add (G l7 4) (.int .i64 1) fun v65 => K8 .normal [G l7 0, v63, G l7 2, G l7 3, v65] s64)))))))))))))) (K8 (.exit 0) [G l7 0, G l7 1, G l7 2, G l7 3, G l7 4] s9)) [a0, .slice (some (Addr.mk n0 0 none)) 0 0, v4, v6, .int .i64 0] s5 fun x66 l67 s68 => match x66 with | .normal => AC P w0 n_impl_LayerWrite [G l67 1] s68 (fun v69 s70 => B P 9 .neq v69 (G l67 0) fun v71 => Q v71 (W w0 55 [] s70 fun n72 s73 => R (.tuple (⟨[.slice (some (Addr.mk n72 0 none)) 0 0, .bool false]⟩)) s73) (R (.tuple (⟨[G l67 1, .bool true]⟩)) s70)) | .ret => False | .exit i74 => (match Nat.beq i74 0 with | true => AC P w0 n_impl_LayerWrite [G l67 1] s68 (fun v75 s76 => B P 9 .neq v75 (G l67 0) fun v77 => Q v77 (W w0 55 [] s76 fun n78 s79 => R (.tuple (⟨[.slice (some (Addr.mk n78 0 none)) 0 0, .bool false]⟩)) s79) (R (.tuple (⟨[G l67 1, .bool true]⟩)) s76)) | false => False))
theorem vc_impl_LayerRead_eq (w0 : World) (a0 : Value) (σ : Vw) (R : Value → Vw → Prop) : vc_impl_LayerRead w0 a0 σ R = den Tryz.prog w0 kp_impl_LayerRead esc_impl_LayerRead (Tryz.f6.body.getD .skip) (entry Tryz.f6.ntmps [a0]) σ (retK Tryz.prog Tryz.f6.results.toList R) := by kernel_rfl
theorem ac_impl_LayerRead {w0 : World} {a0 : Value} {σ : Vw} {R : Value → Vw → Prop} (h : vc_impl_LayerRead w0 a0 σ R) : AC Tryz.prog w0 n_impl_LayerRead [a0] σ R := by
  refine ac_rule (fn := Tryz.f6) (c := Tryz.f6.body.getD .skip) kp_impl_LayerRead esc_impl_LayerRead Tryz.func6 (by kernel_rfl) (by kernel_rfl) ?_
  rw [← vc_impl_LayerRead_eq]
  exact h

/-- spec.LayerRead -/
def kp_spec_LayerRead : Nat → Keep
  | 7 => ⟨[2, 3, 4, 5, 6, 7], [], [], .done, []⟩
  | _ => ⟨[], [], [], .done, []⟩
def esc_spec_LayerRead : Nat → Bool
  | 10 => true
  | 42 => true
  | _ => false
def vc_spec_LayerRead (w0 : World) (a0 : Value) (σ : Vw) (R : Value → Vw → Prop) : Prop :=
  W w0 55 [] σ fun n0 s1 => AC P w0 n_spec_l1Cut [a0, .int .u8 10] s1 fun v2 s3 => N v2 fun v4 => B P 3 .sub v4 (.int .i64 1) fun v5 => pLenS a0 fun v6 => B P 3 .gtr v6 (.int .i64 6000) fun v7 => Q v7 (R (.tuple (⟨[.slice (some (Addr.mk n0 0 none)) 0 0, .bool false]⟩)) s3) (X 1 v2 v5 fun v8 => L w0 1 v8 s3 fun g9 => B P 9 .neq (g9 0) (.string ({ data := #[] })) fun v10 => Q v10 (R (.tuple (⟨[.slice (some (Addr.mk n0 0 none)) 0 0, .bool false]⟩)) s3) (pLoop (fun l11 K12 s13 => B P 3 .lss (G l11 5) (G l11 4) fun v14 => Q v14 (X 1 (G l11 3) (G l11 5) fun v15 => L w0 1 v15 s13 fun g16 => AC P w0 n_spec_l3Line [g16 0] s13 fun v17 s18 => E v17 0 fun v19 => E v17 1 fun v20 => V true 5 v19 (pUn .not v20 fun v21 => Q v21 (W w0 55 [] s18 fun n22 s23 => K12 .ret [.slice (some (Addr.mk n22 0 none)) 0 0, .bool false, G l11 2, G l11 3, G l11 4, G l11 5] s23) (V true 5 (.agg (⟨[C v19 0, C v19 1, C v19 2, C v19 3, C v19 4]⟩)) ((allOne [C v19 0, C v19 1, C v19 2, C v19 3, C v19 4]) ∧ (A w0 55 5 64 (G l11 2) 1 [C v19 0, C v19 1, C v19 2, C v19 3, C v19 4] s18 fun v24 s25 => B P 3 .add (G l11 5) (.int .i64 1) fun v26 => K12 .normal [G l11 0, G l11 1, v24, G l11 3, G l11 4, v26] s25))))) (K12 (.exit 0) [G l11 0, G l11 1, G l11 2, G l11 3, G l11 4, G l11 5] s13)) [.slice none 0 0, .bool false, .slice (some (Addr.mk n0 0 none)) 0 0, v2, v5, .int .i64 0] s3 fun x27 l28 s29 => match x27 with | .normal => R (.tuple (⟨[G l28 2, .bool true]⟩)) s29 | .ret => R (.tuple (⟨[G l28 0, G l28 1]⟩)) s29 | .exit i30 => (match Nat.beq i30 0 with | true => R (.tuple (⟨[G l28 2, .bool true]⟩)) s29 | false => False)))
theorem vc_spec_LayerRead_eq (w0 : World) (a0 : Value) (σ : Vw) (R : Value → Vw → Prop) : vc_spec_LayerRead w0 a0 σ R = den Tryz.prog w0 kp_spec_LayerRead esc_spec_LayerRead (Tryz.f7.body.getD .skip) (entry Tryz.f7.ntmps [a0]) σ (retK Tryz.prog Tryz.f7.results.toList R) := by kernel_rfl
theorem ac_spec_LayerRead {w0 : World} {a0 : Value} {σ : Vw} {R : Value → Vw → Prop} (h : vc_spec_LayerRead w0 a0 σ R) : AC Tryz.prog w0 n_spec_LayerRead [a0] σ R := by
  refine ac_rule (fn := Tryz.f7) (c := Tryz.f7.body.getD .skip) kp_spec_LayerRead esc_spec_LayerRead Tryz.func7 (by kernel_rfl) (by kernel_rfl) ?_
  rw [← vc_spec_LayerRead_eq]
  exact h

/-- laws.wtEntries -/
def kp_laws_wtEntries : Nat → Keep
  | 4 => ⟨[0, 1, 4, 5], [], [], .done, []⟩
  | 6 => ⟨[], [], [], .step 0 (.step 1 (.step 2 (.step 3 (.step 4 (.step 5 (.step 6 (.step 7 (.step 8 (.step 9 (.step 10 (.step 11 (.step 12 (.step 13 (.step 14 (.step 15 (.step 16 (.step 17 (.step 18 (.step 19 (.step 20 (.step 21 (.step 22 (.step 23 (.step 24 (.step 25 (.step 26 (.step 27 (.step 28 (.step 29 (.step 30 (.step 31 (.step 32 (.step 33 (.step 34 (.step 35 (.step 36 (.step 37 (.step 38 (.step 39 (.step 40 (.step 41 (.step 42 (.step 43 (.step 44 (.step 45 (.step 46 (.step 47 (.step 48 (.step 49 (.step 50 (.step 51 (.step 52 (.step 53 (.step 54 (.step 55 (.step 56 (.step 57 (.step 58 (.step 59 (.step 60 (.step 61 (.step 62 (.step 63 (.done)))))))))))))))))))))))))))))))))))))))))))))))))))))))))))))))), [(2, [0, 1]), (3, [0, 1, 2]), (4, [0, 1, 2, 3]), (7, [5, 6]), (8, [5, 6, 7]), (9, [5, 6, 7, 8]), (10, [0, 1, 2, 3, 4, 5, 6, 7, 8, 9]), (11, [0, 1, 2, 3, 4, 5, 6, 7, 8, 9, 10]), (12, [0, 1, 2, 3, 4, 5, 6, 7, 8, 9, 10, 11]), (13, [0, 1, 2, 3, 4, 5, 6, 7, 8, 9, 10, 11, 12]), (14, [0, 1, 2, 3, 4, 5, 6, 7, 8, 9, 10, 11, 12]), (15, [0, 1, 2, 3, 4, 5, 6, 7, 8, 9, 10, 11, 12, 13, 14]), (16, [0, 1, 2, 3, 4, 5, 6, 7, 8, 9, 10, 11, 12, 13, 14, 15]), (17, [0, 1, 2, 3, 4, 5, 6, 7, 8, 9, 10, 11, 12, 13, 14, 15, 16]), (18, [0, 1, 2, 3, 4, 5, 6, 7, 8, 9, 10, 11, 12]), (19, [0, 1, 2, 3, 4, 5, 6, 7, 8, 9, 10, 11, 12]), (20, [0, 1, 2, 3, 4, 5, 6, 7, 8, 9, 10, 11, 12, 18, 19]), (21, [0, 1, 2, 3, 4, 5, 6, 7, 8, 9, 10, 11, 12, 18, 19, 20]), (22, [0, 1, 2, 3, 4, 5, 6, 7, 8, 9, 10, 11, 12, 18, 19, 20, 21]), (23, [0, 1, 2, 3, 4, 5, 6, 7, 8, 9, 10, 11, 12, 13, 14, 15, 16, 17, 18, 19, 20, 21, 22]), (24, [0, 1, 2, 3, 4, 5, 6, 7, 8, 9, 10, 11, 12, 13, 14, 15, 16, 17, 18, 19, 20, 21, 22, 23]), (25, [0, 1, 2, 3, 4, 5, 6, 7, 8, 9, 10, 11, 12, 13, 14, 15, 16, 17, 18, 19, 20, 21, 22, 23, 24]), (26, [0, 1, 2, 3, 4, 5, 6, 7, 8, 9, 10, 11, 12, 13, 14, 15, 16, 17, 18, 19, 20, 21, 22, 23, 24, 25]), (27, [0, 1, 2, 3, 4, 5, 6, 7, 8, 9, 10, 11, 12, 13, 14, 15, 16, 17, 18, 19, 20, 21, 22, 23, 24, 25]), (28, [0, 1, 2, 3, 4, 5, 6, 7, 8, 9, 10, 11, 12, 13, 14, 15, 16, 17, 18, 19, 20, 21, 22, 23, 24, 25, 26, 27]), (29, [0, 1, 2, 3, 4, 5, 6, 7, 8, 9, 10, 11, 12, 13, 14, 15, 16, 17, 18, 19, 20, 21, 22, 23, 24, 25, 26, 27, 28]), (30, [0, 1, 2, 3, 4, 5, 6, 7, 8, 9, 10, 11, 12, 13, 14, 15, 16, 17, 18, 19, 20, 21, 22, 23, 24, 25, 26, 27, 28, 29]), (31, [0, 1, 2, 3, 4, 5, 6, 7, 8, 9, 10, 11, 12, 13, 14, 15, 16, 17, 18, 19, 20, 21, 22, 23, 24, 25]), (32, [0, 1, 2, 3, 4, 5, 6, 7, 8, 9, 10, 11, 12, 13, 14, 15, 16, 17, 18, 19, 20, 21, 22, 23, 24, 25]), (33, [0, 1, 2, 3, 4, 5, 6, 7, 8, 9, 10, 11, 12, 13, 14, 15, 16, 17, 18, 19, 20, 21, 22, 23, 24, 25, 31, 32]), (34, [0, 1, 2, 3, 4, 5, 6, 7, 8, 9, 10, 11, 12, 13, 14, 15, 16, 17, 18, 19, 20, 21, 22, 23, 24, 25, 31, 32, 33]), (35, [0, 1, 2, 3, 4, 5, 6, 7, 8, 9, 10, 11, 12, 13, 14, 15, 16, 17, 18, 19, 20, 21, 22, 23, 24, 25, 31, 32, 33, 34]), (36, [0, 1, 2, 3, 4, 5, 6, 7, 8, 9, 10, 11, 12, 13, 14, 15, 16, 17, 18, 19, 20, 21, 22, 23, 24, 25, 26, 27, 28, 29, 30, 31, 32, 33, 34, 35]), (37, [0, 1, 2, 3, 4, 5, 6, 7, 8, 9, 10, 11, 12, 13, 14, 15, 16, 17, 18, 19, 20, 21, 22, 23, 24, 25, 26, 27, 28, 29, 30, 31, 32, 33, 34, 35, 36]), (38, [0, 1, 2, 3, 4, 5, 6, 7, 8, 9, 10, 11, 12, 13, 14, 15, 16, 17, 18, 19, 20, 21, 22, 23, 24, 25, 26, 27, 28, 29, 30, 31, 32, 33, 34, 35, 36, 37]), (39, [0, 1, 2, 3, 4, 5, 6, 7, 8, 9, 10, 11, 12, 13, 14, 15, 16, 17, 18, 19, 20, 21, 22, 23, 24, 25, 26, 27, 28, 29, 30, 31, 32, 33, 34, 35, 36, 37, 38]), (40, [0, 1, 2, 3, 4, 5, 6, 7, 8, 9, 10, 11, 12, 13, 14, 15, 16, 17, 18, 19, 20, 21, 22, 23, 24, 25, 26, 27, 28, 29, 30, 31, 32, 33, 34, 35, 36, 37, 38]), (41, [0, 1, 2, 3, 4, 5, 6, 7, 8, 9, 10, 11, 12, 13, 14, 15, 16, 17, 18, 19, 20, 21, 22, 23, 24, 25, 26, 27, 28, 29, 30, 31, 32, 33, 34, 35, 36, 37, 38, 39, 40]), (42, [0, 1, 2, 3, 4, 5, 6, 7, 8, 9, 10, 11, 12, 13, 14, 15, 16, 17, 18, 19, 20, 21, 22, 23, 24, 25, 26, 27, 28, 29, 30, 31, 32, 33, 34, 35, 36, 37, 38, 39, 40, 41]), (43, [0, 1, 2, 3, 4, 5, 6, 7, 8, 9, 10, 11, 12, 13, 14, 15, 16, 17, 18, 19, 20, 21, 22, 23, 24, 25, 26, 27, 28, 29, 30, 31, 32, 33, 34, 35, 36, 37, 38, 39, 40, 41, 42]), (44, [0, 1, 2, 3, 4, 5, 6, 7, 8, 9, 10, 11, 12, 13, 14, 15, 16, 17, 18, 19, 20, 21, 22, 23, 24, 25, 26, 27, 28, 29, 30, 31, 32, 33, 34, 35, 36, 37, 38]), (45, [0, 1, 2, 3, 4, 5, 6, 7, 8, 9, 10, 11, 12, 13, 14, 15, 16, 17, 18, 19, 20, 21, 22, 23, 24, 25, 26, 27, 28, 29, 30, 31, 32, 33, 34, 35, 36, 37, 38]), (46, [0, 1, 2, 3, 4, 5, 6, 7, 8, 9, 10, 11, 12, 13, 14, 15, 16, 17, 18, 19, 20, 21, 22, 23, 24, 25, 26, 27, 28, 29, 30, 31, 32, 33, 34, 35, 36, 37, 38, 44, 45]), (47, [0, 1, 2, 3, 4, 5, 6, 7, 8, 9, 10, 11, 12, 13, 14, 15, 16, 17, 18, 19, 20, 21, 22, 23, 24, 25, 26, 27, 28, 29, 30, 31, 32, 33, 34, 35, 36, 37, 38, 44, 45, 46]), (48, [0, 1, 2, 3, 4, 5, 6, 7, 8, 9, 10, 11, 12, 13, 14, 15, 16, 17, 18, 19, 20, 21, 22, 23, 24, 25, 26, 27, 28, 29, 30, 31, 32, 33, 34, 35, 36, 37, 38, 44, 45, 46, 47]), (49, [0, 1, 2, 3, 4, 5, 6, 7, 8, 9, 10, 11, 12, 13, 14, 15, 16, 17, 18, 19, 20, 21, 22, 23, 24, 25, 26, 27, 28, 29, 30, 31, 32, 33, 34, 35, 36, 37, 38, 39, 40, 41, 42, 43, 44, 45, 46, 47, 48]), (50, [0, 1, 2, 3, 4, 5, 6, 7, 8, 9, 10, 11, 12, 13, 14, 15, 16, 17, 18, 19, 20, 21, 22, 23, 24, 25, 26, 27, 28, 29, 30, 31, 32, 33, 34, 35, 36, 37, 38, 39, 40, 41, 42, 43, 44, 45, 46, 47, 48, 49]), (51, [0, 1, 2, 3, 4, 5, 6, 7, 8, 9, 10, 11, 12, 13, 14, 15, 16, 17, 18, 19, 20, 21, 22, 23, 24, 25, 26, 27, 28, 29, 30, 31, 32, 33, 34, 35, 36, 37, 38, 39, 40, 41, 42, 43, 44, 45, 46, 47, 48, 49, 50]), (52, [0, 1, 2, 3, 4, 5, 6, 7, 8, 9, 10, 11, 12, 13, 14, 15, 16, 17, 18, 19, 20, 21, 22, 23, 24, 25, 26, 27, 28, 29, 30, 31, 32, 33, 34, 35, 36, 37, 38, 39, 40, 41, 42, 43, 44, 45, 46, 47, 48, 49, 50, 51]), (53, [0, 1, 2, 3, 4, 5, 6, 7, 8, 9, 10, 11, 12, 13, 14, 15, 16, 17, 18, 19, 20, 21, 22, 23, 24, 25, 26, 27, 28, 29, 30, 31, 32, 33, 34, 35, 36, 37, 38, 39, 40, 41, 42, 43, 44, 45, 46, 47, 48, 49, 50, 51]), (54, [0, 1, 2, 3, 4, 5, 6, 7, 8, 9, 10, 11, 12, 13, 14, 15, 16, 17, 18, 19, 20, 21, 22, 23, 24, 25, 26, 27, 28, 29, 30, 31, 32, 33, 34, 35, 36, 37, 38, 39, 40, 41, 42, 43, 44, 45, 46, 47, 48, 49, 50, 51, 52, 53]), (55, [0, 1, 2, 3, 4, 5, 6, 7, 8, 9, 10, 11, 12, 13, 14, 15, 16, 17, 18, 19, 20, 21, 22, 23, 24, 25, 26, 27, 28, 29, 30, 31, 32, 33, 34, 35, 36, 37, 38, 39, 40, 41, 42, 43, 44, 45, 46, 47, 48, 49, 50, 51, 52, 53, 54]), (56, [0, 1, 2, 3, 4, 5, 6, 7, 8, 9, 10, 11, 12, 13, 14, 15, 16, 17, 18, 19, 20, 21, 22, 23, 24, 25, 26, 27, 28, 29, 30, 31, 32, 33, 34, 35, 36, 37, 38, 39, 40, 41, 42, 43, 44, 45, 46, 47, 48, 49, 50, 51, 52, 53, 54, 55]), (57, [0, 1, 2, 3, 4, 5, 6, 7, 8, 9, 10, 11, 12, 13, 14, 15, 16, 17, 18, 19, 20, 21, 22, 23, 24, 25, 26, 27, 28, 29, 30, 31, 32, 33, 34, 35, 36, 37, 38, 39, 40, 41, 42, 43, 44, 45, 46, 47, 48, 49, 50, 51]), (58, [0, 1, 2, 3, 4, 5, 6, 7, 8, 9, 10, 11, 12, 13, 14, 15, 16, 17, 18, 19, 20, 21, 22, 23, 24, 25, 26, 27, 28, 29, 30, 31, 32, 33, 34, 35, 36, 37, 38, 39, 40, 41, 42, 43, 44, 45, 46, 47, 48, 49, 50, 51]), (59, [0, 1, 2, 3, 4, 5, 6, 7, 8, 9, 10, 11, 12, 13, 14, 15, 16, 17, 18, 19, 20, 21, 22, 23, 24, 25, 26, 27, 28, 29, 30, 31, 32, 33, 34, 35, 36, 37, 38, 39, 40, 41, 42, 43, 44, 45, 46, 47, 48, 49, 50, 51, 57, 58]), (60, [0, 1, 2, 3, 4, 5, 6, 7, 8, 9, 10, 11, 12, 13, 14, 15, 16, 17, 18, 19, 20, 21, 22, 23, 24, 25, 26, 27, 28, 29, 30, 31, 32, 33, 34, 35, 36, 37, 38, 39, 40, 41, 42, 43, 44, 45, 46, 47, 48, 49, 50, 51, 57, 58, 59]), (61, [0, 1, 2, 3, 4, 5, 6, 7, 8, 9, 10, 11, 12, 13, 14, 15, 16, 17, 18, 19, 20, 21, 22, 23, 24, 25, 26, 27, 28, 29, 30, 31, 32, 33, 34, 35, 36, 37, 38, 39, 40, 41, 42, 43, 44, 45, 46, 47, 48, 49, 50, 51, 57, 58, 59, 60]), (62, [0, 1, 2, 3, 4, 5, 6, 7, 8, 9, 10, 11, 12, 13, 14, 15, 16, 17, 18, 19, 20, 21, 22, 23, 24, 25, 26, 27, 28, 29, 30, 31, 32, 33, 34, 35, 36, 37, 38, 39, 40, 41, 42, 43, 44, 45, 46, 47, 48, 49, 50, 51, 52, 53, 54, 55, 56, 57, 58, 59, 60, 61]), (63, [0, 1, 2, 3, 4, 5, 6, 7, 8, 9, 10, 11, 12, 13, 14, 15, 16, 17, 18, 19, 20, 21, 22, 23, 24, 25, 26, 27, 28, 29, 30, 31, 32, 33, 34, 35, 36, 37, 38, 39, 40, 41, 42, 43, 44, 45, 46, 47, 48, 49, 50, 51, 52, 53, 54, 55, 56, 57, 58, 59, 60, 61, 62])]⟩
  | _ => ⟨[], [], [], .done, []⟩
def esc_laws_wtEntries : Nat → Bool
  | _ => false
def vc_laws_wtEntries (w0 : World) (a0 a1 : Value) (σ : Vw) (R : Value → Vw → Prop) : Prop :=
  N a0 fun v0 => N a1 fun v1 => B P 3 .neq v0 v1 fun v2 => Q v2 (R (.bool false) σ) (pLoop (fun l3 K4 s5 => N (G l3 0) fun v6 => B P 3 .lss (G l3 3) v6 fun v7 => Q v7 (X 5 (G l3 0) (G l3 3) fun v8 => F 0 v8 fun v9 => L w0 1 v9 s5 fun g10 => X 5 (G l3 1) (G l3 3) fun v11 => F 0 v11 fun v12 => L w0 1 v12 s5 fun g13 => AC P w0 n_laws_wtTexts [g10 0, g13 0] s5 fun v14 s15 => pUn .not v14 fun v16 => Q v16 (K4 .ret [G l3 0, G l3 1, .bool false, G l3 3] s15) (X 5 (G l3 0) (G l3 3) fun v17 => F 1 v17 fun v18 => L w0 1 v18 s15 fun g19 => X 5 (G l3 1) (G l3 3) fun v20 => F 1 v20 fun v21 => L w0 1 v21 s15 fun g22 => B P 3 .neq (g19 0) (g22 0) fun v23 => Q v23 (K4 .ret [G l3 0, G l3 1, .bool false, G l3 3] s15) (X 5 (G l3 0) (G l3 3) fun v24 => F 2 v24 fun v25 => L w0 1 v25 s15 fun g26 => X 5 (G l3 1) (G l3 3) fun v27 => F 2 v27 fun v28 => L w0 1 v28 s15 fun g29 => B P 4 .neq (g26 0) (g29 0) fun v30 => Q v30 (K4 .ret [G l3 0, G l3 1, .bool false, G l3 3] s15) (X 5 (G l3 0) (G l3 3) fun v31 => F 3 v31 fun v32 => L w0 1 v32 s15 fun g33 => X 5 (G l3 1) (G l3 3) fun v34 => F 3 v34 fun v35 => L w0 1 v35 s15 fun g36 => B P 3 .neq (g33 0) (g36 0) fun v37 => Q v37 (K4 .ret [G l3 0, G l3 1, .bool false, G l3 3] s15) (X 5 (G l3 0) (G l3 3) fun v38 => F 4 v38 fun v39 => L w0 1 v39 s15 fun g40 => X 5 (G l3 1) (G l3 3) fun v41 => F 4 v41 fun v42 => L w0 1 v42 s15 fun g43 => B P 9 .neq (g40 0) (g43 0) fun v44 => Q v44 (K4 .ret [G l3 0, G l3 1, .bool false, G l3 3] s15) (B P 3 .add (G l3 3) (.int .i64 1) fun v45 => K4 .normal [G l3 0, G l3 1, G l3 2, v45] s15)))))) (K4 (.exit 0) [G l3 0, G l3 1, G l3 2, G l3 3] s5)) [a0, a1, .bool false, .int .i64 0] σ fun x46 l47 s48 => match x46 with | .normal => R (.bool true) s48 | .ret => R (G l47 2) s48 | .exit i49 => (match Nat.beq i49 0 with | true => R (.bool true) s48 | false => False))
theorem vc_laws_wtEntries_eq (w0 : World) (a0 a1 : Value) (σ : Vw) (R : Value → Vw → Prop) : vc_laws_wtEntries w0 a0 a1 σ R = den Tryz.prog w0 kp_laws_wtEntries esc_laws_wtEntries (Tryz.f8.body.getD .skip) (entry Tryz.f8.ntmps [a0, a1]) σ (retK Tryz.prog Tryz.f8.results.toList R) := by kernel_rfl
theorem ac_laws_wtEntries {w0 : World} {a0 a1 : Value} {σ : Vw} {R : Value → Vw → Prop} (h : vc_laws_wtEntries w0 a0 a1 σ R) : AC Tryz.prog w0 n_laws_wtEntries [a0, a1] σ R := by
  refine ac_rule (fn := Tryz.f8) (c := Tryz.f8.body.getD .skip) kp_laws_wtEntries esc_laws_wtEntries Tryz.func8 (by kernel_rfl) (by kernel_rfl) ?_
  rw [← vc_laws_wtEntries_eq]
  exact h

/-- impl.LayerWrite -/
def kp_impl_LayerWrite : Nat → Keep
  | 3 => ⟨[2, 3, 8, 9, 10], [], [], .done, []⟩
  | _ => ⟨[], [], [], .done, []⟩
def esc_impl_LayerWrite : Nat → Bool
  | 7 => true
  | _ => false
def vc_impl_LayerWrite (w0 : World) (a0 : Value) (σ : Vw) (R : Value → Vw → Prop) : Prop :=
  V true 2 (.agg (⟨[.pointer none, .slice none 0 0]⟩)) (W w0 64 [.pointer none, .slice none 0 0] σ fun n0 s1 => N a0 fun v2 => pLoop (fun l3 K4 s5 => B P 3 .lss (G l3 4) (G l3 3) fun v6 => Q v6 (X 5 (G l3 2) (G l3 4) fun v7 => L w0 5 v7 s5 fun g8 => V true 5 (.agg (⟨[g8 0, g8 1, g8 2, g8 3, g8 4]⟩)) (AC P w0 n_impl_entryOk ([.agg (⟨[g8 0, g8 1, g8 2, g8 3, g8 4]⟩)]) s5 fun v9 s10 => pUn .not v9 fun v11 => Q v11 (K4 .ret ([.string ({ data := #[] }), G l3 1, G l3 2, G l3 3, G l3 4]) s10) (AC P w0 n_impl_Entry_line ([.agg (⟨[g8 0, g8 1, g8 2, g8 3, g8 4]⟩)]) s10 fun v12 s13 => AC P w0 n_p_strings_Builder_WriteString [G l3 1, v12] s13 fun v14 s15 => B P 3 .add (G l3 4) (.int .i64 1) fun v16 => K4 .normal [G l3 0, G l3 1, G l3 2, G l3 3, v16] s15))) (K4 (.exit 0) [G l3 0, G l3 1, G l3 2, G l3 3, G l3 4] s5)) ([.string ({ data := #[] }), .pointer (some (Addr.mk n0 0 none)), a0, v2, .int .i64 0]) s1 fun x17 l18 s19 => match x17 with | .normal => AC P w0 n_p_strings_Builder_Len [G l18 1] s19 (fun v20 s21 => B P 3 .gtr v20 (.int .i64 6000) fun v22 => Q v22 (R (.string ({ data := #[] })) s21) (AC P w0 n_p_strings_Builder_String [G l18 1] s21 fun v23 s24 => R v23 s24)) | .ret => R (G l18 0) s19 | .exit i25 => (match Nat.beq i25 0 with | true => AC P w0 n_p_strings_Builder_Len [G l18 1] s19 (fun v26 s27 => B P 3 .gtr v26 (.int .i64 6000) fun v28 => Q v28 (R (.string ({ data := #[] })) s27) (AC P w0 n_p_strings_Builder_String [G l18 1] s27 fun v29 s30 => R v29 s30)) | false => False))
theorem vc_impl_LayerWrite_eq (w0 : World) (a0 : Value) (σ : Vw) (R : Value → Vw → Prop) : vc_impl_LayerWrite w0 a0 σ R = den Tryz.prog w0 kp_impl_LayerWrite esc_impl_LayerWrite (Tryz.f9.body.getD .skip) (entry Tryz.f9.ntmps [a0]) σ (retK Tryz.prog Tryz.f9.results.toList R) := by kernel_rfl
theorem ac_impl_LayerWrite {w0 : World} {a0 : Value} {σ : Vw} {R : Value → Vw → Prop} (h : vc_impl_LayerWrite w0 a0 σ R) : AC Tryz.prog w0 n_impl_LayerWrite [a0] σ R := by
  refine ac_rule (fn := Tryz.f9) (c := Tryz.f9.body.getD .skip) kp_impl_LayerWrite esc_impl_LayerWrite Tryz.func9 (by kernel_rfl) (by kernel_rfl) ?_
  rw [← vc_impl_LayerWrite_eq]
  exact h

/-- spec.DrawLayerWrite -/
def kp_spec_DrawLayerWrite : Nat → Keep
  | _ => ⟨[], [], [], .done, []⟩
def esc_spec_DrawLayerWrite : Nat → Bool
  | _ => false
def vc_spec_DrawLayerWrite (w0 : World) (a0 : Value) (σ : Vw) (R : Value → Vw → Prop) : Prop :=
  AC P w0 n_spec_DrawLayerApply [a0] σ fun v0 s1 => E v0 0 fun v2 => E v0 1 fun v3 => V true 5 v2 (R v3 s1)
theorem vc_spec_DrawLayerWrite_eq (w0 : World) (a0 : Value) (σ : Vw) (R : Value → Vw → Prop) : vc_spec_DrawLayerWrite w0 a0 σ R = den Tryz.prog w0 kp_spec_DrawLayerWrite esc_spec_DrawLayerWrite (Tryz.f10.body.getD .skip) (entry Tryz.f10.ntmps [a0]) σ (retK Tryz.prog Tryz.f10.results.toList R) := by kernel_rfl
theorem ac_spec_DrawLayerWrite {w0 : World} {a0 : Value} {σ : Vw} {R : Value → Vw → Prop} (h : vc_spec_DrawLayerWrite w0 a0 σ R) : AC Tryz.prog w0 n_spec_DrawLayerWrite [a0] σ R := by
  refine ac_rule (fn := Tryz.f10) (c := Tryz.f10.body.getD .skip) kp_spec_DrawLayerWrite esc_spec_DrawLayerWrite Tryz.func10 (by kernel_rfl) (by kernel_rfl) ?_
  rw [← vc_spec_DrawLayerWrite_eq]
  exact h

/-- spec.LayerWrite -/
def kp_spec_LayerWrite : Nat → Keep
  | 3 => ⟨[0, 2, 3, 4], [], [], .done, []⟩
  | _ => ⟨[], [], [], .done, []⟩
def esc_spec_LayerWrite : Nat → Bool
  | _ => false
def vc_spec_LayerWrite (w0 : World) (a0 : Value) (σ : Vw) (R : Value → Vw → Prop) : Prop :=
  pLoop (fun l0 K1 s2 => N (G l0 0) fun v3 => B P 3 .lss (G l0 3) v3 fun v4 => Q v4 (X 5 (G l0 0) (G l0 3) fun v5 => L w0 5 v5 s2 fun g6 => AC P w0 n_spec_l3EntryOk ([.agg (⟨[g6 0, g6 1, g6 2, g6 3, g6 4]⟩)]) s2 fun v7 s8 => pUn .not v7 fun v9 => Q v9 (K1 .ret ([G l0 0, .string ({ data := #[] }), G l0 2, G l0 3]) s8) (X 5 (G l0 0) (G l0 3) fun v10 => L w0 5 v10 s8 fun g11 => AC P w0 n_spec_l3Text ([.agg (⟨[g11 0, g11 1, g11 2, g11 3, g11 4]⟩)]) s8 fun v12 s13 => B P 9 .add (G l0 2) v12 fun v14 => B P 3 .add (G l0 3) (.int .i64 1) fun v15 => K1 .normal [G l0 0, G l0 1, v14, v15] s13)) (K1 (.exit 0) [G l0 0, G l0 1, G l0 2, G l0 3] s2)) ([a0, .string ({ data := #[] }), .string ({ data := #[] }), .int .i64 0]) σ fun x16 l17 s18 => match x16 with | .normal => pLenS (G l17 2) (fun v19 => B P 3 .gtr v19 (.int .i64 6000) fun v20 => Q v20 (R (.string ({ data := #[] })) s18) (R (G l17 2) s18)) | .ret => R (G l17 1) s18 | .exit i21 => (match Nat.beq i21 0 with | true => pLenS (G l17 2) (fun v22 => B P 3 .gtr v22 (.int .i64 6000) fun v23 => Q v23 (R (.string ({ data := #[] })) s18) (R (G l17 2) s18)) | false => False)
theorem vc_spec_LayerWrite_eq (w0 : World) (a0 : Value) (σ : Vw) (R : Value → Vw → Prop) : vc_spec_LayerWrite w0 a0 σ R = den Tryz.prog w0 kp_spec_LayerWrite esc_spec_LayerWrite (Tryz.f11.body.getD .skip) (entry Tryz.f11.ntmps [a0]) σ (retK Tryz.prog Tryz.f11.results.toList R) := by kernel_rfl
theorem ac_spec_LayerWrite {w0 : World} {a0 : Value} {σ : Vw} {R : Value → Vw → Prop} (h : vc_spec_LayerWrite w0 a0 σ R) : AC Tryz.prog w0 n_spec_LayerWrite [a0] σ R := by
  refine ac_rule (fn := Tryz.f11) (c := Tryz.f11.body.getD .skip) kp_spec_LayerWrite esc_spec_LayerWrite Tryz.func11 (by kernel_rfl) (by kernel_rfl) ?_
  rw [← vc_spec_LayerWrite_eq]
  exact h

/-- spec.TrailRead -/
def kp_spec_TrailRead : Nat → Keep
  | 4 => ⟨[0, 2, 3, 4, 5, 6], [], [], .done, []⟩
  | _ => ⟨[], [], [], .done, []⟩
/-- spec.l1Open -/
def kp_spec_l1Open : Nat → Keep
  | _ => ⟨[], [], [], .done, []⟩
def esc_spec_l1Open : Nat → Bool
  | 10 => true
  | _ => false
def vc_spec_l1Open (w0 : World) (a0 : Value) (σ : Vw) (R : Value → Vw → Prop) : Prop :=
  N a0 fun v0 => B P 3 .gtr v0 (.int .i64 2000) fun v1 => Q v1 (pSlice 1 a0 none (some (.int .i64 2000)) fun v2 => V false 1 v2 (V true 2 (.agg (⟨[v2, .int .i64 0]⟩)) (W w0 92 [v2, .int .i64 0] σ fun n3 s4 => R (.pointer (some (Addr.mk n3 0 none))) s4))) (V false 1 a0 (V true 2 (.agg (⟨[a0, .int .i64 0]⟩)) (W w0 92 [a0, .int .i64 0] σ fun n5 s6 => R (.pointer (some (Addr.mk n5 0 none))) s6)))
theorem vc_spec_l1Open_eq (w0 : World) (a0 : Value) (σ : Vw) (R : Value → Vw → Prop) : vc_spec_l1Open w0 a0 σ R = den Tryz.prog w0 kp_spec_l1Open esc_spec_l1Open (Tryz.f23.body.getD .skip) (entry Tryz.f23.ntmps [a0]) σ (retK Tryz.prog Tryz.f23.results.toList R) := by kernel_rfl
theorem ac_spec_l1Open {w0 : World} {a0 : Value} {σ : Vw} {R : Value → Vw → Prop} (h : vc_spec_l1Open w0 a0 σ R) : AC Tryz.prog w0 n_spec_l1Open [a0] σ R := by
  refine ac_rule (fn := Tryz.f23) (c := Tryz.f23.body.getD .skip) kp_spec_l1Open esc_spec_l1Open Tryz.func23 (by kernel_rfl) (by kernel_rfl) ?_
  rw [← vc_spec_l1Open_eq]
  exact h

/-- spec.l4Entries -/
def kp_spec_l4Entries : Nat → Keep
  | 1 => ⟨[], [], [], .step 0 (.step 1 (.step 2 (.step 3 (.step 4 (.step 5 (.step 6 (.step 7 (.done)))))))), [(4, [3]), (5, [1, 2, 3, 4]), (6, [0, 1, 2, 3, 4, 5]), (7, [0, 1, 2, 3, 4, 5, 6])]⟩
  | _ => ⟨[], [], [], .done, []⟩
def esc_spec_l4Entries : Nat → Bool
  | _ => false
def vc_spec_l4Entries (w0 : World) (a0 a1 : Value) (σ : Vw) (R : Value → Vw → Prop) : Prop :=
  V true 5 a1 (AC P w0 n_p_spec_l1Rd_pick [a0, .int .i64 9] σ fun v0 s1 => AC P w0 n_spec_l4Calls ([a0, .agg (⟨[C a1 0, C a1 1, C a1 2, C a1 3, C a1 4]⟩), v0]) s1 fun v2 s3 => AC P w0 n_spec_DiffWalk ([.agg (⟨[C a1 0, C a1 1, C a1 2, C a1 3, C a1 4]⟩), v2]) s3 fun v4 s5 => R v4 s5)
theorem vc_spec_l4Entries_eq (w0 : World) (a0 a1 : Value) (σ : Vw) (R : Value → Vw → Prop) : vc_spec_l4Entries w0 a0 a1 σ R = den Tryz.prog w0 kp_spec_l4Entries esc_spec_l4Entries (Tryz.f24.body.getD .skip) (entry Tryz.f24.ntmps [a0, a1]) σ (retK Tryz.prog Tryz.f24.results.toList R) := by kernel_rfl
theorem ac_spec_l4Entries {w0 : World} {a0 a1 : Value} {σ : Vw} {R : Value → Vw → Prop} (h : vc_spec_l4Entries w0 a0 a1 σ R) : AC Tryz.prog w0 n_spec_l4Entries [a0, a1] σ R := by
  refine ac_rule (fn := Tryz.f24) (c := Tryz.f24.body.getD .skip) kp_spec_l4Entries esc_spec_l4Entries Tryz.func24 (by kernel_rfl) (by kernel_rfl) ?_
  rw [← vc_spec_l4Entries_eq]
  exact h

/-- spec.l4Tree -/
def kp_spec_l4Tree : Nat → Keep
  | 3 => ⟨[0, 4], [(2, 5), (3, 5)], [2, 3], .done, []⟩
  | 5 => ⟨[], [], [], .step 0 (.step 3 (.step 4 (.step 7 (.step 1 (.step 2 (.step 5 (.step 6 (.step 8 (.done))))))))), [(1, [0]), (2, [0, 1]), (5, [0, 1, 3, 4]), (6, [0, 1, 2, 3, 4, 5]), (8, [0, 1, 2, 3, 4, 5, 6, 7])]⟩
  | 11 => ⟨[], [], [], .step 0 (.step 1 (.step 2 (.step 3 (.step 4 (.step 5 (.done)))))), [(3, [2]), (4, [0, 1, 2, 3]), (5, [0, 1, 2, 3, 4])]⟩
  | _ => ⟨[], [], [], .done, []⟩
def esc_spec_l4Tree : Nat → Bool
  | _ => false
def cs_spec_l4Tree_1 (w0 : World) (v900 : Value) (l901 : List Value) (K902 : AX → List Value → Vw → Prop) (s903 : Vw) (R : Value → Vw → Prop) : Prop :=
  E v900 0 (fun v500 => E v900 1 fun v501 => V true 5 v500 (B P 3 .eql v501 (.int .i64 0) fun v502 => Q v502 (V true 5 (.agg (⟨[C v500 0, C v500 1, C v500 2, C v500 3, C v500 4]⟩)) (B P 3 .sub (G l901 1) (.int .i64 1) fun v503 => K902 .normal [G l901 0, v503, G l901 2, G l901 3, G l901 4, G l901 5, G l901 6, C v500 0, C v500 1, C v500 2, C v500 3, C v500 4] s903)) (B P 3 .sub (G l901 1) (.int .i64 1) fun v504 => K902 .normal [G l901 0, v504, G l901 2, G l901 3, G l901 4, G l901 5, G l901 6, G l901 7, G l901 8, G l901 9, G l901 10, G l901 11] s903)))
def vc_spec_l4Tree (w0 : World) (a0 : Value) (σ : Vw) (R : Value → Vw → Prop) : Prop :=
  AC P w0 n_p_spec_l1Rd_pick [a0, .int .i64 8] σ fun v0 s1 => AC P w0 n_p_spec_l1Rd_pick [a0, .int .i64 2] s1 fun v2 s3 => B P 3 .mul v0 v2 fun v4 => V false 1 (.bool true) (V false 1 v4 (V true 5 (.agg (⟨[.bool true, v4, .string ({ data := #[] }), .slice none 0 0, .slice none 0 0]⟩)) (AC P w0 n_p_spec_l1Rd_pick [a0, .int .i64 12] s3 fun v5 s6 => pLoop (fun l7 K8 s9 => B P 3 .gtr (G l7 1) (.int .i64 0) fun v10 => Q v10 (AC P w0 n_p_spec_l1Rd_pick [G l7 0, .int .i64 2] s9 fun v11 s12 => B P 3 .add (.int .i64 1) v11 fun v13 => AC P w0 n_spec_l4Path ([G l7 0, .agg (⟨[G l7 7, G l7 8, G l7 9, G l7 10, G l7 11]⟩)]) s12 fun v14 s15 => V false 1 v13 (V false 1 v14 (V true 5 (.agg (⟨[v13, v14, .slice none 0 0, .int .i64 0, .string ({ data := #[] })]⟩)) (B P 3 .eql v13 (.int .i64 2) fun v16 => Q v16 (AC P w0 n_spec_l4Data [G l7 0] s15 fun v17 s18 => V false 1 v17 (AC P w0 n_spec_TreeDo ([.agg (⟨[G l7 7, G l7 8, G l7 9, G l7 10, G l7 11]⟩), .agg (⟨[v13, v14, .slice none 0 0, .int .i64 0, v17]⟩)]) s18 fun v19 s20 => cs_spec_l4Tree_1 w0 v19 l7 K8 s20 R)) (AC P w0 n_spec_TreeDo ([.agg (⟨[G l7 7, G l7 8, G l7 9, G l7 10, G l7 11]⟩), .agg (⟨[v13, v14, .slice none 0 0, .int .i64 0, .string ({ data := #[] })]⟩)]) s15 fun v26 s27 => cs_spec_l4Tree_1 w0 v26 l7 K8 s27 R))))) (K8 (.exit 0) [G l7 0, G l7 1, G l7 2, G l7 3, G l7 4, G l7 5, G l7 6, G l7 7, G l7 8, G l7 9, G l7 10, G l7 11] s9)) ([a0, v5, .bool false, .int .i64 0, .string ({ data := #[] }), .slice none 0 0, .slice none 0 0, .bool true, v4, .string ({ data := #[] }), .slice none 0 0, .slice none 0 0]) s6 fun x33 l34 s35 => match x33 with | .normal => AC P w0 n_p_spec_l1Rd_pick [G l34 0, .int .i64 6] s35 (fun v36 s37 => AC P w0 n_spec_l4Calls ([G l34 0, .agg (⟨[G l34 7, G l34 8, G l34 9, G l34 10, G l34 11]⟩), v36]) s37 fun v38 s39 => V true 5 v38 (R (.agg (⟨[C v38 0, C v38 1, C v38 2, C v38 3, C v38 4]⟩)) s39)) | .ret => R (.agg (⟨[G l34 2, G l34 3, G l34 4, G l34 5, G l34 6]⟩)) s35 | .exit i40 => (match Nat.beq i40 0 with | true => AC P w0 n_p_spec_l1Rd_pick [G l34 0, .int .i64 6] s35 (fun v41 s42 => AC P w0 n_spec_l4Calls ([G l34 0, .agg (⟨[G l34 7, G l34 8, G l34 9, G l34 10, G l34 11]⟩), v41]) s42 fun v43 s44 => V true 5 v43 (R (.agg (⟨[C v43 0, C v43 1, C v43 2, C v43 3, C v43 4]⟩)) s44)) | false => False))))

theorem vc_spec_l4Tree_eq (w0 : World) (a0 : Value) (σ : Vw) (R : Value → Vw → Prop) : vc_spec_l4Tree w0 a0 σ R = den Tryz.prog w0 kp_spec_l4Tree esc_spec_l4Tree (Tryz.f25.body.getD .skip) (entry Tryz.f25.ntmps [a0]) σ (retK Tryz.prog Tryz.f25.results.toList R) := by kernel_rfl
theorem ac_spec_l4Tree {w0 : World} {a0 : Value} {σ : Vw} {R : Value → Vw → Prop} (h : vc_spec_l4Tree w0 a0 σ R) : AC Tryz.prog w0 n_spec_l4Tree [a0] σ R := by
  refine ac_rule (fn := Tryz.f25) (c := Tryz.f25.body.getD .skip) kp_spec_l4Tree esc_spec_l4Tree Tryz.func25 (by kernel_rfl) (by kernel_rfl) ?_
  rw [← vc_spec_l4Tree_eq]
  exact h

/-- (*spec.l1Rd).pick -/
def kp_p_spec_l1Rd_pick : Nat → Keep
  | 7 => ⟨[], [], [], .step 0 (.step 1 (.step 2 (.step 3 (.step 4 (.step 5 (.step 6 (.step 7 (.step 8 (.step 9 (.step 10 (.step 11 (.step 12 (.step 13 (.step 14 (.step 15 (.step 16 (.step 17 (.step 18 (.step 19 (.step 20 (.step 21 (.step 22 (.step 23 (.step 24 (.step 25 (.step 26 (.step 27 (.step 28 (.step 29 (.step 30 (.step 31 (.step 32 (.step 33 (.step 34 (.step 35 (.step 36 (.step 37 (.step 38 (.step 39 (.step 40 (.step 41 (.step 42 (.step 43 (.step 44 (.step 45 (.done)))))))))))))))))))))))))))))))))))))))))))))), [(1, [0]), (2, [0, 1]), (3, [0, 1, 2]), (6, [5]), (7, [5, 6]), (8, [5, 6, 7]), (9, [5, 6, 7, 8]), (10, [4, 5, 6, 7, 8, 9]), (11, [0, 1, 2, 3, 4, 5, 6, 7, 8, 9, 10]), (12, [0, 1, 2, 3, 4, 5, 6, 7, 8, 9, 10, 11]), (13, [0, 1, 2, 3, 4, 5, 6, 7, 8, 9, 10, 11, 12]), (14, [0, 1, 2, 3, 4, 5, 6, 7, 8, 9, 10, 11, 12, 13]), (16, [15]), (17, [15, 16]), (18, [15, 16, 17]), (20, [19]), (21, [19, 20]), (23, [22]), (24, [22, 23]), (25, [22, 23, 24]), (26, [22, 23, 24, 25]), (27, [19, 20, 21, 22, 23, 24, 25, 26]), (28, [15, 16, 17, 18, 19, 20, 21, 22, 23, 24, 25, 26, 27]), (29, [15, 16, 17, 18, 19, 20, 21, 22, 23, 24, 25, 26, 27, 28]), (30, [15, 16, 17, 18, 19, 20, 21, 22, 23, 24, 25, 26, 27, 28, 29]), (31, [15, 16, 17, 18, 19, 20, 21, 22, 23, 24, 25, 26, 27, 28, 29, 30]), (32, [0, 1, 2, 3, 4, 5, 6, 7, 8, 9, 10, 11, 12, 13, 14, 15, 16, 17, 18, 19, 20, 21, 22, 23, 24, 25, 26, 27, 28, 29, 30, 31]), (34, [33]), (35, [0, 1, 2, 3, 4, 5, 6, 7, 8, 9, 10, 11, 12, 13, 14, 15, 16, 17, 18, 19, 20, 21, 22, 23, 24, 25, 26, 27, 28, 29, 30, 31, 32, 33, 34]), (38, [37]), (39, [37, 38]), (40, [37, 38, 39]), (41, [37, 38, 39, 40]), (42, [36, 37, 38, 39, 40, 41]), (43, [36, 37, 38, 39, 40, 41, 42]), (44, [0, 1, 2, 3, 4, 5, 6, 7, 8, 9, 10, 11, 12, 13, 14, 15, 16, 17, 18, 19, 20, 21, 22, 23, 24, 25, 26, 27, 28, 29, 30, 31, 32, 33, 34, 35, 36, 37, 38, 39, 40, 41, 42, 43]), (45, [0, 1, 2, 3, 4, 5, 6, 7, 8, 9, 10, 11, 12, 13, 14, 15, 16, 17, 18, 19, 20, 21, 22, 23, 24, 25, 26, 27, 28, 29, 30, 31, 32, 33, 34, 35, 36, 37, 38, 39, 40, 41, 42, 43, 44])]⟩
  | _ => ⟨[], [], [], .done, []⟩
def esc_p_spec_l1Rd_pick : Nat → Bool
  | _ => false
def vc_p_spec_l1Rd_pick (w0 : World) (a0 a1 : Value) (σ : Vw) (R : Value → Vw → Prop) : Prop :=
  pNil a0 (F 1 a0 fun v0 => L w0 1 v0 σ fun g1 => B P 3 .add (g1 0) (.int .i64 1) fun v2 => pNil a0 (F 1 a0 fun v3 => V false 1 v2 (pStore v3 [v2] σ fun s4 => B P 3 .lss a1 (.int .i64 1) fun v5 => Q v5 (R (.int .i64 0) s4) (pNil a0 (F 0 a0 fun v6 => L w0 1 v6 s4 fun g7 => N (g7 0) fun v8 => B P 3 .eql v8 (.int .i64 0) fun v9 => Q v9 (R (.int .i64 0) s4) (pNil a0 (F 1 a0 fun v10 => L w0 1 v10 s4 fun g11 => B P 3 .sub (g11 0) (.int .i64 1) fun v12 => pNil a0 (F 0 a0 fun v13 => L w0 1 v13 s4 fun g14 => N (g14 0) fun v15 => B P 3 .lss v12 v15 fun v16 => Q v16 (pNil a0 (F 0 a0 fun v17 => L w0 1 v17 s4 fun g18 => X 1 (g18 0) v12 fun v19 => L w0 1 v19 s4 fun g20 => pConvInt .i64 (g20 0) fun v21 => B P 3 .rem v21 a1 fun v22 => R v22 s4)) (pNil a0 (F 0 a0 fun v23 => L w0 1 v23 s4 fun g24 => pNil a0 (F 0 a0 fun v25 => L w0 1 v25 s4 fun g26 => N (g26 0) fun v27 => B P 3 .rem v12 v27 fun v28 => X 1 (g24 0) v28 fun v29 => L w0 1 v29 s4 fun g30 => pConvInt .i64 (g30 0) fun v31 => B P 3 .mul v31 (.int .i64 131) fun v32 => pNil a0 (F 0 a0 fun v33 => L w0 1 v33 s4 fun g34 => B P 3 .mul v12 (.int .i64 7) fun v35 => B P 3 .add v35 (.int .i64 3) fun v36 => pNil a0 (F 0 a0 fun v37 => L w0 1 v37 s4 fun g38 => N (g38 0) fun v39 => B P 3 .rem v36 v39 fun v40 => X 1 (g34 0) v40 fun v41 => L w0 1 v41 s4 fun g42 => pConvInt .i64 (g42 0) fun v43 => B P 3 .mul v43 (.int .i64 1117) fun v44 => B P 3 .add v32 v44 fun v45 => B P 3 .mul v12 (.int .i64 29) fun v46 => B P 3 .add v45 v46 fun v47 => pNil a0 (F 0 a0 fun v48 => L w0 1 v48 s4 fun g49 => N (g49 0) fun v50 => B P 3 .quo v12 v50 fun v51 => B P 3 .mul v51 (.int .i64 53) fun v52 => B P 3 .add v47 v52 fun v53 => B P 3 .quo v53 (.int .i64 64) fun v54 => B P 3 .xor v53 v54 fun v55 => B P 3 .rem v55 a1 fun v56 => R v56 s4))))))))))))))
theorem vc_p_spec_l1Rd_pick_eq (w0 : World) (a0 a1 : Value) (σ : Vw) (R : Value → Vw → Prop) : vc_p_spec_l1Rd_pick w0 a0 a1 σ R = den Tryz.prog w0 kp_p_spec_l1Rd_pick esc_p_spec_l1Rd_pick (Tryz.f26.body.getD .skip) (entry Tryz.f26.ntmps [a0, a1]) σ (retK Tryz.prog Tryz.f26.results.toList R) := by kernel_rfl
theorem ac_p_spec_l1Rd_pick {w0 : World} {a0 a1 : Value} {σ : Vw} {R : Value → Vw → Prop} (h : vc_p_spec_l1Rd_pick w0 a0 a1 σ R) : AC Tryz.prog w0 n_p_spec_l1Rd_pick [a0, a1] σ R := by
  refine ac_rule (fn := Tryz.f26) (c := Tryz.f26.body.getD .skip) kp_p_spec_l1Rd_pick esc_p_spec_l1Rd_pick Tryz.func26 (by kernel_rfl) (by kernel_rfl) ?_
  rw [← vc_p_spec_l1Rd_pick_eq]
  exact h

/-- (*spec.l1Rd).of -/
def kp_p_spec_l1Rd_of : Nat → Keep
  | _ => ⟨[], [], [], .done, []⟩
def esc_p_spec_l1Rd_of : Nat → Bool
  | _ => false
def vc_p_spec_l1Rd_of (w0 : World) (a0 a1 : Value) (σ : Vw) (R : Value → Vw → Prop) : Prop :=
  N a1 fun v0 => AC P w0 n_p_spec_l1Rd_pick [a0, v0] σ fun v1 s2 => X 1 a1 v1 fun v3 => L w0 1 v3 s2 fun g4 => R (g4 0) s2
theorem vc_p_spec_l1Rd_of_eq (w0 : World) (a0 a1 : Value) (σ : Vw) (R : Value → Vw → Prop) : vc_p_spec_l1Rd_of w0 a0 a1 σ R = den Tryz.prog w0 kp_p_spec_l1Rd_of esc_p_spec_l1Rd_of (Tryz.f27.body.getD .skip) (entry Tryz.f27.ntmps [a0, a1]) σ (retK Tryz.prog Tryz.f27.results.toList R) := by kernel_rfl
theorem ac_p_spec_l1Rd_of {w0 : World} {a0 a1 : Value} {σ : Vw} {R : Value → Vw → Prop} (h : vc_p_spec_l1Rd_of w0 a0 a1 σ R) : AC Tryz.prog w0 n_p_spec_l1Rd_of [a0, a1] σ R := by
  refine ac_rule (fn := Tryz.f27) (c := Tryz.f27.body.getD .skip) kp_p_spec_l1Rd_of esc_p_spec_l1Rd_of Tryz.func27 (by kernel_rfl) (by kernel_rfl) ?_
  rw [← vc_p_spec_l1Rd_of_eq]
  exact h

/-- impl.linesOf -/
def kp_impl_linesOf : Nat → Keep
  | _ => ⟨[], [], [], .done, []⟩
def esc_impl_linesOf : Nat → Bool
  | _ => false
def vc_impl_linesOf (w0 : World) (a0 : Value) (σ : Vw) (R : Value → Vw → Prop) : Prop :=
  AC P w0 n_strings_Split ([a0, .string ({ data := #[10] })]) σ fun v0 s1 => N v0 fun v2 => B P 3 .sub v2 (.int .i64 1) fun v3 => pSlice 1 v0 none (some v3) fun v4 => R v4 s1
theorem vc_impl_linesOf_eq (w0 : World) (a0 : Value) (σ : Vw) (R : Value → Vw → Prop) : vc_impl_linesOf w0 a0 σ R = den Tryz.prog w0 kp_impl_linesOf esc_impl_linesOf (Tryz.f28.body.getD .skip) (entry Tryz.f28.ntmps [a0]) σ (retK Tryz.prog Tryz.f28.results.toList R) := by kernel_rfl
theorem ac_impl_linesOf {w0 : World} {a0 : Value} {σ : Vw} {R : Value → Vw → Prop} (h : vc_impl_linesOf w0 a0 σ R) : AC Tryz.prog w0 n_impl_linesOf [a0] σ R := by
  refine ac_rule (fn := Tryz.f28) (c := Tryz.f28.body.getD .skip) kp_impl_linesOf esc_impl_linesOf Tryz.func28 (by kernel_rfl) (by kernel_rfl) ?_
  rw [← vc_impl_linesOf_eq]
  exact h

/-- impl.pathRead -/
def kp_impl_pathRead : Nat → Keep
  | _ => ⟨[], [], [], .done, []⟩
def esc_impl_pathRead : Nat → Bool
  | 7 => true
  | _ => false
def vc_impl_pathRead (w0 : World) (a0 : Value) (σ : Vw) (R : Value → Vw → Prop) : Prop :=
  AC P w0 n_strings_TrimPrefix ([a0, .string ({ data := #[47] })]) σ fun v0 s1 => B P 9 .eql v0 (.string ({ data := #[] })) fun v2 => Q v2 (W w0 9 [] s1 fun n3 s4 => R (.slice (some (Addr.mk n3 0 none)) 0 0) s4) (AC P w0 n_strings_Split ([v0, .string ({ data := #[47] })]) s1 fun v5 s6 => R v5 s6)
theorem vc_impl_pathRead_eq (w0 : World) (a0 : Value) (σ : Vw) (R : Value → Vw → Prop) : vc_impl_pathRead w0 a0 σ R = den Tryz.prog w0 kp_impl_pathRead esc_impl_pathRead (Tryz.f30.body.getD .skip) (entry Tryz.f30.ntmps [a0]) σ (retK Tryz.prog Tryz.f30.results.toList R) := by kernel_rfl
theorem ac_impl_pathRead {w0 : World} {a0 : Value} {σ : Vw} {R : Value → Vw → Prop} (h : vc_impl_pathRead w0 a0 σ R) : AC Tryz.prog w0 n_impl_pathRead [a0] σ R := by
  refine ac_rule (fn := Tryz.f30) (c := Tryz.f30.body.getD .skip) kp_impl_pathRead esc_impl_pathRead Tryz.func30 (by kernel_rfl) (by kernel_rfl) ?_
  rw [← vc_impl_pathRead_eq]
  exact h

/-- impl.numRead -/
def kp_impl_numRead : Nat → Keep
  | _ => ⟨[], [], [], .done, []⟩
def esc_impl_numRead : Nat → Bool
  | _ => false
def vc_impl_numRead (w0 : World) (a0 : Value) (σ : Vw) (R : Value → Vw → Prop) : Prop :=
  AC P w0 n_strconv_Atoi [a0] σ fun v0 s1 => E v0 0 fun v2 => E v0 1 fun v3 => R v2 s1
theorem vc_impl_numRead_eq (w0 : World) (a0 : Value) (σ : Vw) (R : Value → Vw → Prop) : vc_impl_numRead w0 a0 σ R = den Tryz.prog w0 kp_impl_numRead esc_impl_numRead (Tryz.f31.body.getD .skip) (entry Tryz.f31.ntmps [a0]) σ (retK Tryz.prog Tryz.f31.results.toList R) := by kernel_rfl
theorem ac_impl_numRead {w0 : World} {a0 : Value} {σ : Vw} {R : Value → Vw → Prop} (h : vc_impl_numRead w0 a0 σ R) : AC Tryz.prog w0 n_impl_numRead [a0] σ R := by
  refine ac_rule (fn := Tryz.f31) (c := Tryz.f31.body.getD .skip) kp_impl_numRead esc_impl_numRead Tryz.func31 (by kernel_rfl) (by kernel_rfl) ?_
  rw [← vc_impl_numRead_eq]
  exact h

/-- impl.dataRead -/
def kp_impl_dataRead : Nat → Keep
  | _ => ⟨[], [], [], .done, []⟩
def esc_impl_dataRead : Nat → Bool
  | _ => false
def vc_impl_dataRead (w0 : World) (a0 : Value) (σ : Vw) (R : Value → Vw → Prop) : Prop :=
  AC P w0 n_impl_unhex [a0] σ fun v0 s1 => R v0 s1
theorem vc_impl_dataRead_eq (w0 : World) (a0 : Value) (σ : Vw) (R : Value → Vw → Prop) : vc_impl_dataRead w0 a0 σ R = den Tryz.prog w0 kp_impl_dataRead esc_impl_dataRead (Tryz.f32.body.getD .skip) (entry Tryz.f32.ntmps [a0]) σ (retK Tryz.prog Tryz.f32.results.toList R) := by kernel_rfl
theorem ac_impl_dataRead {w0 : World} {a0 : Value} {σ : Vw} {R : Value → Vw → Prop} (h : vc_impl_dataRead w0 a0 σ R) : AC Tryz.prog w0 n_impl_dataRead [a0] σ R := by
  refine ac_rule (fn := Tryz.f32) (c := Tryz.f32.body.getD .skip) kp_impl_dataRead esc_impl_dataRead Tryz.func32 (by kernel_rfl) (by kernel_rfl) ?_
  rw [← vc_impl_dataRead_eq]
  exact h

/-- spec.l1Cut -/
def kp_spec_l1Cut : Nat → Keep
  | 4 => ⟨[0, 1, 5, 6, 7], [], [], .done, []⟩
  | _ => ⟨[], [], [], .done, []⟩
def esc_spec_l1Cut : Nat → Bool
  | 8 => true
  | _ => false
def vc_spec_l1Cut (w0 : World) (a0 a1 : Value) (σ : Vw) (R : Value → Vw → Prop) : Prop :=
  W w0 9 [] σ fun n0 s1 => pLoop (fun l2 K3 s4 => pLenS (G l2 0) fun v5 => B P 3 .lss (G l2 4) v5 fun v6 => Q v6 (pIndexStr (G l2 0) (G l2 4) fun v7 => B P 5 .eql v7 (G l2 1) fun v8 => Q v8 (pSliceStr (G l2 0) (some (G l2 3)) (some (G l2 4)) fun v9 => V false 1 v9 ((allOne [v9]) ∧ (A w0 9 1 16 (G l2 2) 1 [v9] s4 fun v10 s11 => B P 3 .add (G l2 4) (.int .i64 1) fun v12 => B P 3 .add (G l2 4) (.int .i64 1) fun v13 => K3 .normal [G l2 0, G l2 1, v10, v12, v13] s11))) (B P 3 .add (G l2 4) (.int .i64 1) fun v14 => K3 .normal [G l2 0, G l2 1, G l2 2, G l2 3, v14] s4)) (K3 (.exit 0) [G l2 0, G l2 1, G l2 2, G l2 3, G l2 4] s4)) [a0, a1, .slice (some (Addr.mk n0 0 none)) 0 0, .int .i64 0, .int .i64 0] s1 fun x15 l16 s17 => match x15 with | .normal => pSliceStr (G l16 0) (some (G l16 3)) none (fun v18 => V false 1 v18 ((allOne [v18]) ∧ (A w0 9 1 16 (G l16 2) 1 [v18] s17 fun v19 s20 => R v19 s20))) | .ret => False | .exit i21 => (match Nat.beq i21 0 with | true => pSliceStr (G l16 0) (some (G l16 3)) none (fun v22 => V false 1 v22 ((allOne [v22]) ∧ (A w0 9 1 16 (G l16 2) 1 [v22] s17 fun v23 s24 => R v23 s24))) | false => False)
theorem vc_spec_l1Cut_eq (w0 : World) (a0 a1 : Value) (σ : Vw) (R : Value → Vw → Prop) : vc_spec_l1Cut w0 a0 a1 σ R = den Tryz.prog w0 kp_spec_l1Cut esc_spec_l1Cut (Tryz.f33.body.getD .skip) (entry Tryz.f33.ntmps [a0, a1]) σ (retK Tryz.prog Tryz.f33.results.toList R) := by kernel_rfl
theorem ac_spec_l1Cut {w0 : World} {a0 a1 : Value} {σ : Vw} {R : Value → Vw → Prop} (h : vc_spec_l1Cut w0 a0 a1 σ R) : AC Tryz.prog w0 n_spec_l1Cut [a0, a1] σ R := by
  refine ac_rule (fn := Tryz.f33) (c := Tryz.f33.body.getD .skip) kp_spec_l1Cut esc_spec_l1Cut Tryz.func33 (by kernel_rfl) (by kernel_rfl) ?_
  rw [← vc_spec_l1Cut_eq]
  exact h

end Go.Proofs.YtkbhjejalkbogaaGreatDoor

/- What each function owes, reckoned out, part 2. MADE BY PROGRAM (emit.py). -/
set_option linter.unusedVariables false
namespace Go.Proofs.YtkbhjejalkbogaaGreatDoor
open Go.Av renaming vget → G, cellOf → C, pVal → V, pBin → B, pIndexAddr → X, pLoad → L, pField → F, pIf → Q, pExtract → E, pAppend → A, pLen → N, pNew → W
open Go.Proofs.Tryz renaming prog → P
open Go Go.Av

/-- spec.l3Line -/
def kp_spec_l3Line : Nat → Keep
  | 26 => ⟨[], [], [], .step 0 (.step 1 (.step 2 (.step 3 (.step 4 (.step 5 (.step 6 (.step 7 (.step 9 (.step 10 (.step 8 (.step 11 (.step 12 (.step 13 (.step 14 (.done))))))))))))))), [(2, [1]), (3, [1, 2]), (4, [1, 2, 3]), (5, [1, 2, 3, 4]), (6, [1, 2, 3, 4, 5]), (7, [1, 2, 3, 4, 5, 6]), (8, [1, 2, 3, 4, 5, 6, 7]), (9, [1, 2, 3, 4, 5, 6]), (10, [1, 2, 3, 4, 5, 6, 9]), (11, [1, 2, 3, 4, 5, 6, 7, 8, 9, 10]), (12, [1, 2, 3, 4, 5, 6, 7, 8, 9, 10, 11]), (13, [0, 1, 2, 3, 4, 5, 6, 7, 8]), (14, [0, 1, 2, 3, 4, 5, 6, 7, 8, 9, 10, 11, 12, 13])]⟩
  | _ => ⟨[], [], [], .done, []⟩
def esc_spec_l3Line : Nat → Bool
  | _ => false
def cs_spec_l3Line_9 (w0 : World) (s900 : Vw) (R : Value → Vw → Prop) : Prop :=
  V true 5 (.agg (⟨[.slice none 0 0, .int .i64 0, .bool false, .int .i64 0, .string ({ data := #[] })]⟩)) (R (.tuple (⟨[.agg (⟨[.slice none 0 0, .int .i64 0, .bool false, .int .i64 0, .string ({ data := #[] })]⟩), .bool false]⟩)) s900)
def cs_spec_l3Line_5 (w0 : World) (v900 : Value) (s901 : Vw) (v902 : Value) (v903 : Value) (R : Value → Vw → Prop) : Prop :=
  X 1 v900 (.int .i64 0) (fun v500 => L w0 1 v500 s901 fun g501 => B P 9 .eql (g501 0) (.string ({ data := #[100, 97, 116, 97] })) fun v502 => Q v502 (B P 3 .eql v902 (.int .i64 3) fun v503 => Q v503 (V false 1 (.int .i64 4) (X 1 v900 (.int .i64 2) fun v504 => L w0 1 v504 s901 fun g505 => AC P w0 n_spec_l1Bytes [g505 0] s901 fun v506 s507 => E v506 0 fun v508 => E v506 1 fun v509 => V false 1 v508 (Q v509 (AC P w0 n_spec_l3EntryOk ([.agg (⟨[.slice none 0 0, .int .i64 4, .bool false, .int .i64 0, v508]⟩)]) s507 fun v510 s511 => Q v510 (B P 9 .add v903 (.string ({ data := #[10] })) fun v512 => AC P w0 n_spec_l3Text ([.agg (⟨[.slice none 0 0, .int .i64 4, .bool false, .int .i64 0, v508]⟩)]) s511 fun v513 s514 => B P 9 .eql v513 v512 fun v515 => V true 5 (.agg (⟨[.slice none 0 0, .int .i64 4, .bool false, .int .i64 0, v508]⟩)) (R (.tuple (⟨[.agg (⟨[.slice none 0 0, .int .i64 4, .bool false, .int .i64 0, v508]⟩), v515]⟩)) s514)) (V true 5 (.agg (⟨[.slice none 0 0, .int .i64 4, .bool false, .int .i64 0, v508]⟩)) (R (.tuple (⟨[.agg (⟨[.slice none 0 0, .int .i64 4, .bool false, .int .i64 0, v508]⟩), .bool false]⟩)) s511))) (V true 5 (.agg (⟨[.slice none 0 0, .int .i64 4, .bool false, .int .i64 0, v508]⟩)) (R (.tuple (⟨[.agg (⟨[.slice none 0 0, .int .i64 4, .bool false, .int .i64 0, v508]⟩), .bool false]⟩)) s507))))) (cs_spec_l3Line_9 w0 s901 R)) (cs_spec_l3Line_9 w0 s901 R))
def cs_spec_l3Line_1 (w0 : World) (v900 : Value) (s901 : Vw) (v902 : Value) (v903 : Value) (R : Value → Vw → Prop) : Prop :=
  X 1 v900 (.int .i64 0) (fun v500 => L w0 1 v500 s901 fun g501 => B P 9 .eql (g501 0) (.string ({ data := #[109, 111, 100, 101] })) fun v502 => Q v502 (B P 3 .eql v902 (.int .i64 3) fun v503 => Q v503 (V false 1 (.int .i64 3) (X 1 v900 (.int .i64 2) fun v504 => L w0 1 v504 s901 fun g505 => AC P w0 n_spec_l3Mode [g505 0] s901 fun v506 s507 => V false 1 v506 (AC P w0 n_spec_l3EntryOk ([.agg (⟨[.slice none 0 0, .int .i64 3, .bool false, v506, .string ({ data := #[] })]⟩)]) s507 fun v508 s509 => Q v508 (B P 9 .add v903 (.string ({ data := #[10] })) fun v510 => AC P w0 n_spec_l3Text ([.agg (⟨[.slice none 0 0, .int .i64 3, .bool false, v506, .string ({ data := #[] })]⟩)]) s509 fun v511 s512 => B P 9 .eql v511 v510 fun v513 => V true 5 (.agg (⟨[.slice none 0 0, .int .i64 3, .bool false, v506, .string ({ data := #[] })]⟩)) (R (.tuple (⟨[.agg (⟨[.slice none 0 0, .int .i64 3, .bool false, v506, .string ({ data := #[] })]⟩), v513]⟩)) s512)) (V true 5 (.agg (⟨[.slice none 0 0, .int .i64 3, .bool false, v506, .string ({ data := #[] })]⟩)) (R (.tuple (⟨[.agg (⟨[.slice none 0 0, .int .i64 3, .bool false, v506, .string ({ data := #[] })]⟩), .bool false]⟩)) s509))))) (cs_spec_l3Line_5 w0 v900 s901 v902 v903 R)) (cs_spec_l3Line_5 w0 v900 s901 v902 v903 R))
def cs_spec_l3Line_3 (w0 : World) (v900 : Value) (s901 : Vw) (v902 : Value) (v903 : Value) (R : Value → Vw → Prop) : Prop :=
  X 1 v900 (.int .i64 0) (fun v500 => L w0 1 v500 s901 fun g501 => B P 9 .eql (g501 0) (.string ({ data := #[110, 101, 119] })) fun v502 => Q v502 (B P 3 .eql v902 (.int .i64 4) fun v503 => Q v503 (V false 1 (.int .i64 2) (X 1 v900 (.int .i64 2) fun v504 => L w0 1 v504 s901 fun g505 => AC P w0 n_spec_l3Mode [g505 0] s901 fun v506 s507 => V false 1 v506 (X 1 v900 (.int .i64 3) fun v508 => L w0 1 v508 s507 fun g509 => AC P w0 n_spec_l1Bytes [g509 0] s507 fun v510 s511 => E v510 0 fun v512 => E v510 1 fun v513 => V false 1 v512 (Q v513 (AC P w0 n_spec_l3EntryOk ([.agg (⟨[.slice none 0 0, .int .i64 2, .bool false, v506, v512]⟩)]) s511 fun v514 s515 => Q v514 (B P 9 .add v903 (.string ({ data := #[10] })) fun v516 => AC P w0 n_spec_l3Text ([.agg (⟨[.slice none 0 0, .int .i64 2, .bool false, v506, v512]⟩)]) s515 fun v517 s518 => B P 9 .eql v517 v516 fun v519 => V true 5 (.agg (⟨[.slice none 0 0, .int .i64 2, .bool false, v506, v512]⟩)) (R (.tuple (⟨[.agg (⟨[.slice none 0 0, .int .i64 2, .bool false, v506, v512]⟩), v519]⟩)) s518)) (V true 5 (.agg (⟨[.slice none 0 0, .int .i64 2, .bool false, v506, v512]⟩)) (R (.tuple (⟨[.agg (⟨[.slice none 0 0, .int .i64 2, .bool false, v506, v512]⟩), .bool false]⟩)) s515))) (V true 5 (.agg (⟨[.slice none 0 0, .int .i64 2, .bool false, v506, v512]⟩)) (R (.tuple (⟨[.agg (⟨[.slice none 0 0, .int .i64 2, .bool false, v506, v512]⟩), .bool false]⟩)) s511)))))) (cs_spec_l3Line_1 w0 v900 s901 v902 v903 R)) (cs_spec_l3Line_1 w0 v900 s901 v902 v903 R))
def cs_spec_l3Line_7 (w0 : World) (v900 : Value) (s901 : Vw) (v902 : Value) (v903 : Value) (R : Value → Vw → Prop) : Prop :=
  X 1 v900 (.int .i64 0) (fun v500 => L w0 1 v500 s901 fun g501 => B P 9 .eql (g501 0) (.string ({ data := #[110, 101, 119, 100, 105, 114] })) fun v502 => Q v502 (B P 3 .eql v902 (.int .i64 3) fun v503 => Q v503 (V false 1 (.int .i64 2) (V false 1 (.bool true) (X 1 v900 (.int .i64 2) fun v504 => L w0 1 v504 s901 fun g505 => AC P w0 n_spec_l3Mode [g505 0] s901 fun v506 s507 => V false 1 v506 (AC P w0 n_spec_l3EntryOk ([.agg (⟨[.slice none 0 0, .int .i64 2, .bool true, v506, .string ({ data := #[] })]⟩)]) s507 fun v508 s509 => Q v508 (B P 9 .add v903 (.string ({ data := #[10] })) fun v510 => AC P w0 n_spec_l3Text ([.agg (⟨[.slice none 0 0, .int .i64 2, .bool true, v506, .string ({ data := #[] })]⟩)]) s509 fun v511 s512 => B P 9 .eql v511 v510 fun v513 => V true 5 (.agg (⟨[.slice none 0 0, .int .i64 2, .bool true, v506, .string ({ data := #[] })]⟩)) (R (.tuple (⟨[.agg (⟨[.slice none 0 0, .int .i64 2, .bool true, v506, .string ({ data := #[] })]⟩), v513]⟩)) s512)) (V true 5 (.agg (⟨[.slice none 0 0, .int .i64 2, .bool true, v506, .string ({ data := #[] })]⟩)) (R (.tuple (⟨[.agg (⟨[.slice none 0 0, .int .i64 2, .bool true, v506, .string ({ data := #[] })]⟩), .bool false]⟩)) s509)))))) (cs_spec_l3Line_3 w0 v900 s901 v902 v903 R)) (cs_spec_l3Line_3 w0 v900 s901 v902 v903 R))
def cs_spec_l3Line_6 (w0 : World) (v900 : Value) (s901 : Vw) (v902 : Value) (v903 : Value) (v904 : Value) (R : Value → Vw → Prop) : Prop :=
  X 1 v900 (.int .i64 0) (fun v500 => L w0 1 v500 s901 fun g501 => B P 9 .eql (g501 0) (.string ({ data := #[100, 97, 116, 97] })) fun v502 => Q v502 (B P 3 .eql v902 (.int .i64 3) fun v503 => Q v503 (V false 1 (.int .i64 4) (X 1 v900 (.int .i64 2) fun v504 => L w0 1 v504 s901 fun g505 => AC P w0 n_spec_l1Bytes [g505 0] s901 fun v506 s507 => E v506 0 fun v508 => E v506 1 fun v509 => V false 1 v508 (Q v509 (AC P w0 n_spec_l3EntryOk ([.agg (⟨[v903, .int .i64 4, .bool false, .int .i64 0, v508]⟩)]) s507 fun v510 s511 => Q v510 (B P 9 .add v904 (.string ({ data := #[10] })) fun v512 => AC P w0 n_spec_l3Text ([.agg (⟨[v903, .int .i64 4, .bool false, .int .i64 0, v508]⟩)]) s511 fun v513 s514 => B P 9 .eql v513 v512 fun v515 => V true 5 (.agg (⟨[v903, .int .i64 4, .bool false, .int .i64 0, v508]⟩)) (R (.tuple (⟨[.agg (⟨[v903, .int .i64 4, .bool false, .int .i64 0, v508]⟩), v515]⟩)) s514)) (V true 5 (.agg (⟨[v903, .int .i64 4, .bool false, .int .i64 0, v508]⟩)) (R (.tuple (⟨[.agg (⟨[v903, .int .i64 4, .bool false, .int .i64 0, v508]⟩), .bool false]⟩)) s511))) (V true 5 (.agg (⟨[v903, .int .i64 4, .bool false, .int .i64 0, v508]⟩)) (R (.tuple (⟨[.agg (⟨[v903, .int .i64 4, .bool false, .int .i64 0, v508]⟩), .bool false]⟩)) s507))))) (V true 5 (.agg (⟨[v903, .int .i64 0, .bool false, .int .i64 0, .string ({ data := #[] })]⟩)) (R (.tuple (⟨[.agg (⟨[v903, .int .i64 0, .bool false, .int .i64 0, .string ({ data := #[] })]⟩), .bool false]⟩)) s901))) (V true 5 (.agg (⟨[v903, .int .i64 0, .bool false, .int .i64 0, .string ({ data := #[] })]⟩)) (R (.tuple (⟨[.agg (⟨[v903, .int .i64 0, .bool false, .int .i64 0, .string ({ data := #[] })]⟩), .bool false]⟩)) s901)))
def cs_spec_l3Line_2 (w0 : World) (v900 : Value) (s901 : Vw) (v902 : Value) (v903 : Value) (v904 : Value) (R : Value → Vw → Prop) : Prop :=
  X 1 v900 (.int .i64 0) (fun v500 => L w0 1 v500 s901 fun g501 => B P 9 .eql (g501 0) (.string ({ data := #[109, 111, 100, 101] })) fun v502 => Q v502 (B P 3 .eql v902 (.int .i64 3) fun v503 => Q v503 (V false 1 (.int .i64 3) (X 1 v900 (.int .i64 2) fun v504 => L w0 1 v504 s901 fun g505 => AC P w0 n_spec_l3Mode [g505 0] s901 fun v506 s507 => V false 1 v506 (AC P w0 n_spec_l3EntryOk ([.agg (⟨[v903, .int .i64 3, .bool false, v506, .string ({ data := #[] })]⟩)]) s507 fun v508 s509 => Q v508 (B P 9 .add v904 (.string ({ data := #[10] })) fun v510 => AC P w0 n_spec_l3Text ([.agg (⟨[v903, .int .i64 3, .bool false, v506, .string ({ data := #[] })]⟩)]) s509 fun v511 s512 => B P 9 .eql v511 v510 fun v513 => V true 5 (.agg (⟨[v903, .int .i64 3, .bool false, v506, .string ({ data := #[] })]⟩)) (R (.tuple (⟨[.agg (⟨[v903, .int .i64 3, .bool false, v506, .string ({ data := #[] })]⟩), v513]⟩)) s512)) (V true 5 (.agg (⟨[v903, .int .i64 3, .bool false, v506, .string ({ data := #[] })]⟩)) (R (.tuple (⟨[.agg (⟨[v903, .int .i64 3, .bool false, v506, .string ({ data := #[] })]⟩), .bool false]⟩)) s509))))) (cs_spec_l3Line_6 w0 v900 s901 v902 v903 v904 R)) (cs_spec_l3Line_6 w0 v900 s901 v902 v903 v904 R))
def cs_spec_l3Line_4 (w0 : World) (v900 : Value) (s901 : Vw) (v902 : Value) (v903 : Value) (v904 : Value) (R : Value → Vw → Prop) : Prop :=
  X 1 v900 (.int .i64 0) (fun v500 => L w0 1 v500 s901 fun g501 => B P 9 .eql (g501 0) (.string ({ data := #[110, 101, 119] })) fun v502 => Q v502 (B P 3 .eql v902 (.int .i64 4) fun v503 => Q v503 (V false 1 (.int .i64 2) (X 1 v900 (.int .i64 2) fun v504 => L w0 1 v504 s901 fun g505 => AC P w0 n_spec_l3Mode [g505 0] s901 fun v506 s507 => V false 1 v506 (X 1 v900 (.int .i64 3) fun v508 => L w0 1 v508 s507 fun g509 => AC P w0 n_spec_l1Bytes [g509 0] s507 fun v510 s511 => E v510 0 fun v512 => E v510 1 fun v513 => V false 1 v512 (Q v513 (AC P w0 n_spec_l3EntryOk ([.agg (⟨[v903, .int .i64 2, .bool false, v506, v512]⟩)]) s511 fun v514 s515 => Q v514 (B P 9 .add v904 (.string ({ data := #[10] })) fun v516 => AC P w0 n_spec_l3Text ([.agg (⟨[v903, .int .i64 2, .bool false, v506, v512]⟩)]) s515 fun v517 s518 => B P 9 .eql v517 v516 fun v519 => V true 5 (.agg (⟨[v903, .int .i64 2, .bool false, v506, v512]⟩)) (R (.tuple (⟨[.agg (⟨[v903, .int .i64 2, .bool false, v506, v512]⟩), v519]⟩)) s518)) (V true 5 (.agg (⟨[v903, .int .i64 2, .bool false, v506, v512]⟩)) (R (.tuple (⟨[.agg (⟨[v903, .int .i64 2, .bool false, v506, v512]⟩), .bool false]⟩)) s515))) (V true 5 (.agg (⟨[v903, .int .i64 2, .bool false, v506, v512]⟩)) (R (.tuple (⟨[.agg (⟨[v903, .int .i64 2, .bool false, v506, v512]⟩), .bool false]⟩)) s511)))))) (cs_spec_l3Line_2 w0 v900 s901 v902 v903 v904 R)) (cs_spec_l3Line_2 w0 v900 s901 v902 v903 v904 R))
def cs_spec_l3Line_8 (w0 : World) (v900 : Value) (s901 : Vw) (v902 : Value) (v903 : Value) (v904 : Value) (R : Value → Vw → Prop) : Prop :=
  X 1 v900 (.int .i64 0) (fun v500 => L w0 1 v500 s901 fun g501 => B P 9 .eql (g501 0) (.string ({ data := #[110, 101, 119, 100, 105, 114] })) fun v502 => Q v502 (B P 3 .eql v902 (.int .i64 3) fun v503 => Q v503 (V false 1 (.int .i64 2) (V false 1 (.bool true) (X 1 v900 (.int .i64 2) fun v504 => L w0 1 v504 s901 fun g505 => AC P w0 n_spec_l3Mode [g505 0] s901 fun v506 s507 => V false 1 v506 (AC P w0 n_spec_l3EntryOk ([.agg (⟨[v903, .int .i64 2, .bool true, v506, .string ({ data := #[] })]⟩)]) s507 fun v508 s509 => Q v508 (B P 9 .add v904 (.string ({ data := #[10] })) fun v510 => AC P w0 n_spec_l3Text ([.agg (⟨[v903, .int .i64 2, .bool true, v506, .string ({ data := #[] })]⟩)]) s509 fun v511 s512 => B P 9 .eql v511 v510 fun v513 => V true 5 (.agg (⟨[v903, .int .i64 2, .bool true, v506, .string ({ data := #[] })]⟩)) (R (.tuple (⟨[.agg (⟨[v903, .int .i64 2, .bool true, v506, .string ({ data := #[] })]⟩), v513]⟩)) s512)) (V true 5 (.agg (⟨[v903, .int .i64 2, .bool true, v506, .string ({ data := #[] })]⟩)) (R (.tuple (⟨[.agg (⟨[v903, .int .i64 2, .bool true, v506, .string ({ data := #[] })]⟩), .bool false]⟩)) s509)))))) (cs_spec_l3Line_4 w0 v900 s901 v902 v903 v904 R)) (cs_spec_l3Line_4 w0 v900 s901 v902 v903 v904 R))
def vc_spec_l3Line (w0 : World) (a0 : Value) (σ : Vw) (R : Value → Vw → Prop) : Prop :=
  AC P w0 n_spec_l1Cut [a0, .int .u8 32] σ fun v0 s1 => V true 5 (.agg (⟨[.slice none 0 0, .int .i64 0, .bool false, .int .i64 0, .string ({ data := #[] })]⟩)) (N v0 fun v2 => B P 3 .lss v2 (.int .i64 2) fun v3 => Q v3 (cs_spec_l3Line_9 w0 s1 R) (X 1 v0 (.int .i64 1) fun v4 => L w0 1 v4 s1 fun g5 => B P 9 .eql (g5 0) (.string ({ data := #[] })) fun v6 => Q v6 (cs_spec_l3Line_9 w0 s1 R) (X 1 v0 (.int .i64 1) fun v7 => L w0 1 v7 s1 fun g8 => pIndexStr (g8 0) (.int .i64 0) fun v9 => B P 5 .neq v9 (.int .u8 47) fun v10 => Q v10 (cs_spec_l3Line_9 w0 s1 R) (X 1 v0 (.int .i64 1) fun v11 => L w0 1 v11 s1 fun g12 => B P 9 .neq (g12 0) (.string ({ data := #[47] })) fun v13 => Q v13 (X 1 v0 (.int .i64 1) fun v14 => L w0 1 v14 s1 fun g15 => AC P w0 n_spec_l1Cut [g15 0, .int .u8 47] s1 fun v16 s17 => pSlice 1 v16 (some (.int .i64 1)) none fun v18 => V false 1 v18 (X 1 v0 (.int .i64 0) fun v19 => L w0 1 v19 s17 fun g20 => B P 9 .eql (g20 0) (.string ({ data := #[103, 111, 110, 101] })) fun v21 => Q v21 (B P 3 .eql v2 (.int .i64 2) fun v22 => Q v22 (V false 1 (.int .i64 1) (AC P w0 n_spec_l3EntryOk ([.agg (⟨[v18, .int .i64 1, .bool false, .int .i64 0, .string ({ data := #[] })]⟩)]) s17 fun v23 s24 => Q v23 (B P 9 .add a0 (.string ({ data := #[10] })) fun v25 => AC P w0 n_spec_l3Text ([.agg (⟨[v18, .int .i64 1, .bool false, .int .i64 0, .string ({ data := #[] })]⟩)]) s24 fun v26 s27 => B P 9 .eql v26 v25 fun v28 => V true 5 (.agg (⟨[v18, .int .i64 1, .bool false, .int .i64 0, .string ({ data := #[] })]⟩)) (R (.tuple (⟨[.agg (⟨[v18, .int .i64 1, .bool false, .int .i64 0, .string ({ data := #[] })]⟩), v28]⟩)) s27)) (V true 5 (.agg (⟨[v18, .int .i64 1, .bool false, .int .i64 0, .string ({ data := #[] })]⟩)) (R (.tuple (⟨[.agg (⟨[v18, .int .i64 1, .bool false, .int .i64 0, .string ({ data := #[] })]⟩), .bool false]⟩)) s24)))) (cs_spec_l3Line_8 w0 v0 s17 v2 v18 a0 R)) (cs_spec_l3Line_8 w0 v0 s17 v2 v18 a0 R))) (X 1 v0 (.int .i64 0) fun v505 => L w0 1 v505 s1 fun g506 => B P 9 .eql (g506 0) (.string ({ data := #[103, 111, 110, 101] })) fun v507 => Q v507 (B P 3 .eql v2 (.int .i64 2) fun v508 => Q v508 (V false 1 (.int .i64 1) (AC P w0 n_spec_l3EntryOk ([.agg (⟨[.slice none 0 0, .int .i64 1, .bool false, .int .i64 0, .string ({ data := #[] })]⟩)]) s1 fun v509 s510 => Q v509 (B P 9 .add a0 (.string ({ data := #[10] })) fun v511 => AC P w0 n_spec_l3Text ([.agg (⟨[.slice none 0 0, .int .i64 1, .bool false, .int .i64 0, .string ({ data := #[] })]⟩)]) s510 fun v512 s513 => B P 9 .eql v512 v511 fun v514 => V true 5 (.agg (⟨[.slice none 0 0, .int .i64 1, .bool false, .int .i64 0, .string ({ data := #[] })]⟩)) (R (.tuple (⟨[.agg (⟨[.slice none 0 0, .int .i64 1, .bool false, .int .i64 0, .string ({ data := #[] })]⟩), v514]⟩)) s513)) (V true 5 (.agg (⟨[.slice none 0 0, .int .i64 1, .bool false, .int .i64 0, .string ({ data := #[] })]⟩)) (R (.tuple (⟨[.agg (⟨[.slice none 0 0, .int .i64 1, .bool false, .int .i64 0, .string ({ data := #[] })]⟩), .bool false]⟩)) s510)))) (cs_spec_l3Line_7 w0 v0 s1 v2 a0 R)) (cs_spec_l3Line_7 w0 v0 s1 v2 a0 R))))))

theorem vc_spec_l3Line_eq (w0 : World) (a0 : Value) (σ : Vw) (R : Value → Vw → Prop) : vc_spec_l3Line w0 a0 σ R = den Tryz.prog w0 kp_spec_l3Line esc_spec_l3Line (Tryz.f34.body.getD .skip) (entry Tryz.f34.ntmps [a0]) σ (retK Tryz.prog Tryz.f34.results.toList R) := by kernel_rfl
theorem ac_spec_l3Line {w0 : World} {a0 : Value} {σ : Vw} {R : Value → Vw → Prop} (h : vc_spec_l3Line w0 a0 σ R) : AC Tryz.prog w0 n_spec_l3Line [a0] σ R := by
  refine ac_rule (fn := Tryz.f34) (c := Tryz.f34.body.getD .skip) kp_spec_l3Line esc_spec_l3Line Tryz.func34 (by kernel_rfl) (by kernel_rfl) ?_
  rw [← vc_spec_l3Line_eq]
  exact h

/-- laws.wtTexts -/
def kp_laws_wtTexts : Nat → Keep
  | 4 => ⟨[0, 1, 4, 5], [], [], .done, []⟩
  | 6 => ⟨[], [], [], .step 0 (.step 1 (.step 2 (.step 3 (.step 4 (.step 5 (.step 6 (.step 7 (.step 8 (.done))))))))), [(2, [0, 1]), (3, [0, 1, 2]), (6, [4, 5]), (7, [4, 5, 6]), (8, [0, 1, 2, 3, 4, 5, 6, 7])]⟩
  | _ => ⟨[], [], [], .done, []⟩
def esc_laws_wtTexts : Nat → Bool
  | _ => false
def vc_laws_wtTexts (w0 : World) (a0 a1 : Value) (σ : Vw) (R : Value → Vw → Prop) : Prop :=
  N a0 fun v0 => N a1 fun v1 => B P 3 .neq v0 v1 fun v2 => Q v2 (R (.bool false) σ) (pLoop (fun l3 K4 s5 => N (G l3 0) fun v6 => B P 3 .lss (G l3 3) v6 fun v7 => Q v7 (X 1 (G l3 0) (G l3 3) fun v8 => L w0 1 v8 s5 fun g9 => X 1 (G l3 1) (G l3 3) fun v10 => L w0 1 v10 s5 fun g11 => B P 9 .neq (g9 0) (g11 0) fun v12 => Q v12 (K4 .ret [G l3 0, G l3 1, .bool false, G l3 3] s5) (B P 3 .add (G l3 3) (.int .i64 1) fun v13 => K4 .normal [G l3 0, G l3 1, G l3 2, v13] s5)) (K4 (.exit 0) [G l3 0, G l3 1, G l3 2, G l3 3] s5)) [a0, a1, .bool false, .int .i64 0] σ fun x14 l15 s16 => match x14 with | .normal => R (.bool true) s16 | .ret => R (G l15 2) s16 | .exit i17 => (match Nat.beq i17 0 with | true => R (.bool true) s16 | false => False))
theorem vc_laws_wtTexts_eq (w0 : World) (a0 a1 : Value) (σ : Vw) (R : Value → Vw → Prop) : vc_laws_wtTexts w0 a0 a1 σ R = den Tryz.prog w0 kp_laws_wtTexts esc_laws_wtTexts (Tryz.f35.body.getD .skip) (entry Tryz.f35.ntmps [a0, a1]) σ (retK Tryz.prog Tryz.f35.results.toList R) := by kernel_rfl
theorem ac_laws_wtTexts {w0 : World} {a0 a1 : Value} {σ : Vw} {R : Value → Vw → Prop} (h : vc_laws_wtTexts w0 a0 a1 σ R) : AC Tryz.prog w0 n_laws_wtTexts [a0, a1] σ R := by
  refine ac_rule (fn := Tryz.f35) (c := Tryz.f35.body.getD .skip) kp_laws_wtTexts esc_laws_wtTexts Tryz.func35 (by kernel_rfl) (by kernel_rfl) ?_
  rw [← vc_laws_wtTexts_eq]
  exact h

/-- impl.entryOk -/
def kp_impl_entryOk : Nat → Keep
  | _ => ⟨[], [], [], .done, []⟩
def esc_impl_entryOk : Nat → Bool
  | _ => false
def cs_impl_entryOk_1 (w0 : World) (v900 : Value) (s901 : Vw) (v902 : Value) (R : Value → Vw → Prop) : Prop :=
  pUn .not v900 (fun v500 => Q v500 (R (.bool false) s901) (AC P w0 n_impl_modeOk [C v902 3] s901 fun v501 s502 => pUn .not v501 fun v503 => Q v503 (R (.bool false) s502) (pLenS (C v902 4) fun v504 => B P 3 .gtr v504 (.int .i64 24) fun v505 => Q v505 (R (.bool false) s502) (B P 3 .eql (C v902 1) (.int .i64 1) fun v506 => Q v506 (pUn .not (C v902 2) fun v507 => Q v507 (B P 3 .eql (C v902 3) (.int .i64 0) fun v508 => Q v508 (B P 9 .eql (C v902 4) (.string ({ data := #[] })) fun v509 => R v509 s502) (R (.bool false) s502)) (R (.bool false) s502)) (B P 3 .eql (C v902 1) (.int .i64 2) fun v510 => Q v510 (pUn .not (C v902 2) fun v511 => Q v511 (R (.bool true) s502) (B P 9 .eql (C v902 4) (.string ({ data := #[] })) fun v512 => R v512 s502)) (B P 3 .eql (C v902 1) (.int .i64 3) fun v513 => Q v513 (pUn .not (C v902 2) fun v514 => Q v514 (B P 9 .eql (C v902 4) (.string ({ data := #[] })) fun v515 => R v515 s502) (R (.bool false) s502)) (B P 3 .eql (C v902 1) (.int .i64 4) fun v516 => Q v516 (pUn .not (C v902 2) fun v517 => Q v517 (B P 3 .eql (C v902 3) (.int .i64 0) fun v518 => R v518 s502) (R (.bool false) s502)) (R (.bool false) s502))))))))
def vc_impl_entryOk (w0 : World) (a0 : Value) (σ : Vw) (R : Value → Vw → Prop) : Prop :=
  V true 5 a0 (B P 3 .eql (C a0 1) (.int .i64 3) fun v0 => Q v0 (AC P w0 n_impl_namesOk [C a0 0, .int .i64 0] σ fun v1 s2 => cs_impl_entryOk_1 w0 v1 s2 a0 R) (AC P w0 n_impl_namesOk [C a0 0, .int .i64 1] σ fun v22 s23 => cs_impl_entryOk_1 w0 v22 s23 a0 R))

theorem vc_impl_entryOk_eq (w0 : World) (a0 : Value) (σ : Vw) (R : Value → Vw → Prop) : vc_impl_entryOk w0 a0 σ R = den Tryz.prog w0 kp_impl_entryOk esc_impl_entryOk (Tryz.f36.body.getD .skip) (entry Tryz.f36.ntmps [a0]) σ (retK Tryz.prog Tryz.f36.results.toList R) := by kernel_rfl
theorem ac_impl_entryOk {w0 : World} {a0 : Value} {σ : Vw} {R : Value → Vw → Prop} (h : vc_impl_entryOk w0 a0 σ R) : AC Tryz.prog w0 n_impl_entryOk [a0] σ R := by
  refine ac_rule (fn := Tryz.f36) (c := Tryz.f36.body.getD .skip) kp_impl_entryOk esc_impl_entryOk Tryz.func36 (by kernel_rfl) (by kernel_rfl) ?_
  rw [← vc_impl_entryOk_eq]
  exact h

/-- (impl.Entry).line -/
def kp_impl_Entry_line : Nat → Keep
  | 1 => ⟨[], [], [], .step 0 (.step 1 (.step 3 (.step 4 (.step 2 (.step 5 (.step 6 (.step 7 (.done)))))))), [(1, [0]), (2, [0, 1]), (4, [3]), (5, [0, 1, 2, 3, 4]), (6, [0, 1, 2, 3, 4, 5]), (7, [0, 1, 2, 3, 4, 5, 6])]⟩
  | _ => ⟨[], [], [], .done, []⟩
def esc_impl_Entry_line : Nat → Bool
  | _ => false
def vc_impl_Entry_line (w0 : World) (a0 : Value) (σ : Vw) (R : Value → Vw → Prop) : Prop :=
  V true 5 a0 (AC P w0 n_impl_pathText [C a0 0] σ fun v0 s1 => AC P w0 n_strconv_Itoa [C a0 3] s1 fun v2 s3 => B P 3 .eql (C a0 1) (.int .i64 1) fun v4 => Q v4 (B P 9 .add (.string ({ data := #[103, 111, 110, 101, 32] })) v0 fun v5 => B P 9 .add v5 (.string ({ data := #[10] })) fun v6 => R v6 s3) (B P 3 .eql (C a0 1) (.int .i64 3) fun v7 => Q v7 (B P 9 .add (.string ({ data := #[109, 111, 100, 101, 32] })) v0 fun v8 => B P 9 .add v8 (.string ({ data := #[32] })) fun v9 => B P 9 .add v9 v2 fun v10 => B P 9 .add v10 (.string ({ data := #[10] })) fun v11 => R v11 s3) (B P 3 .eql (C a0 1) (.int .i64 4) fun v12 => Q v12 (B P 9 .add (.string ({ data := #[100, 97, 116, 97, 32] })) v0 fun v13 => B P 9 .add v13 (.string ({ data := #[32] })) fun v14 => AC P w0 n_impl_dataText [C a0 4] s3 fun v15 s16 => B P 9 .add v14 v15 fun v17 => B P 9 .add v17 (.string ({ data := #[10] })) fun v18 => R v18 s16) (Q (C a0 2) (B P 9 .add (.string ({ data := #[110, 101, 119, 100, 105, 114, 32] })) v0 fun v19 => B P 9 .add v19 (.string ({ data := #[32] })) fun v20 => B P 9 .add v20 v2 fun v21 => B P 9 .add v21 (.string ({ data := #[10] })) fun v22 => R v22 s3) (B P 9 .add (.string ({ data := #[110, 101, 119, 32] })) v0 fun v23 => B P 9 .add v23 (.string ({ data := #[32] })) fun v24 => B P 9 .add v24 v2 fun v25 => B P 9 .add v25 (.string ({ data := #[32] })) fun v26 => AC P w0 n_impl_dataText [C a0 4] s3 fun v27 s28 => B P 9 .add v26 v27 fun v29 => B P 9 .add v29 (.string ({ data := #[10] })) fun v30 => R v30 s28)))))
theorem vc_impl_Entry_line_eq (w0 : World) (a0 : Value) (σ : Vw) (R : Value → Vw → Prop) : vc_impl_Entry_line w0 a0 σ R = den Tryz.prog w0 kp_impl_Entry_line esc_impl_Entry_line (Tryz.f38.body.getD .skip) (entry Tryz.f38.ntmps [a0]) σ (retK Tryz.prog Tryz.f38.results.toList R) := by kernel_rfl
theorem ac_impl_Entry_line {w0 : World} {a0 : Value} {σ : Vw} {R : Value → Vw → Prop} (h : vc_impl_Entry_line w0 a0 σ R) : AC Tryz.prog w0 n_impl_Entry_line [a0] σ R := by
  refine ac_rule (fn := Tryz.f38) (c := Tryz.f38.body.getD .skip) kp_impl_Entry_line esc_impl_Entry_line Tryz.func38 (by kernel_rfl) (by kernel_rfl) ?_
  rw [← vc_impl_Entry_line_eq]
  exact h

/-- (*strings.Builder).Len -/
def kp_p_strings_Builder_Len : Nat → Keep
  | _ => ⟨[], [], [], .done, []⟩
def esc_p_strings_Builder_Len : Nat → Bool
  | _ => false
def vc_p_strings_Builder_Len (w0 : World) (a0 : Value) (σ : Vw) (R : Value → Vw → Prop) : Prop :=
  pNil a0 (F 1 a0 fun v0 => L w0 1 v0 σ fun g1 => N (g1 0) fun v2 => R v2 σ)
theorem vc_p_strings_Builder_Len_eq (w0 : World) (a0 : Value) (σ : Vw) (R : Value → Vw → Prop) : vc_p_strings_Builder_Len w0 a0 σ R = den Tryz.prog w0 kp_p_strings_Builder_Len esc_p_strings_Builder_Len (Tryz.f39.body.getD .skip) (entry Tryz.f39.ntmps [a0]) σ (retK Tryz.prog Tryz.f39.results.toList R) := by kernel_rfl
theorem ac_p_strings_Builder_Len {w0 : World} {a0 : Value} {σ : Vw} {R : Value → Vw → Prop} (h : vc_p_strings_Builder_Len w0 a0 σ R) : AC Tryz.prog w0 n_p_strings_Builder_Len [a0] σ R := by
  refine ac_rule (fn := Tryz.f39) (c := Tryz.f39.body.getD .skip) kp_p_strings_Builder_Len esc_p_strings_Builder_Len Tryz.func39 (by kernel_rfl) (by kernel_rfl) ?_
  rw [← vc_p_strings_Builder_Len_eq]
  exact h

/-- spec.DrawLayerApply -/
def kp_spec_DrawLayerApply : Nat → Keep
  | 7 => ⟨[], [], [], .step 0 (.step 1 (.step 2 (.step 3 (.step 4 (.step 5 (.done)))))), [(3, [1, 2]), (4, [0, 1, 2, 3]), (5, [0, 1, 2, 3, 4])]⟩
  | _ => ⟨[], [], [], .done, []⟩
def esc_spec_DrawLayerApply : Nat → Bool
  | 15 => true
  | _ => false
def vc_spec_DrawLayerApply (w0 : World) (a0 : Value) (σ : Vw) (R : Value → Vw → Prop) : Prop :=
  AC P w0 n_spec_l1Open [a0] σ fun v0 s1 => AC P w0 n_spec_l4Any [v0] s1 fun v2 s3 => V true 5 v2 (AC P w0 n_spec_TreeOk ([.agg (⟨[C v2 0, C v2 1, C v2 2, C v2 3, C v2 4]⟩)]) s3 fun v4 s5 => pUn .not v4 fun v6 => Q v6 (W w0 55 [] s5 fun n7 s8 => V true 5 (.agg (⟨[C v2 0, C v2 1, C v2 2, C v2 3, C v2 4]⟩)) (R (.tuple (⟨[.agg (⟨[C v2 0, C v2 1, C v2 2, C v2 3, C v2 4]⟩), .slice (some (Addr.mk n7 0 none)) 0 0]⟩)) s8)) (AC P w0 n_spec_l4Entries ([v0, .agg (⟨[C v2 0, C v2 1, C v2 2, C v2 3, C v2 4]⟩)]) s5 fun v9 s10 => AC P w0 n_p_spec_l1Rd_pick [v0, .int .i64 3] s10 fun v11 s12 => B P 3 .eql v11 (.int .i64 0) fun v13 => Q v13 (AC P w0 n_spec_l4SpoilEntries [v0, v9] s12 fun v14 s15 => V true 5 (.agg (⟨[C v2 0, C v2 1, C v2 2, C v2 3, C v2 4]⟩)) (R (.tuple (⟨[.agg (⟨[C v2 0, C v2 1, C v2 2, C v2 3, C v2 4]⟩), v14]⟩)) s15)) (V true 5 (.agg (⟨[C v2 0, C v2 1, C v2 2, C v2 3, C v2 4]⟩)) (R (.tuple (⟨[.agg (⟨[C v2 0, C v2 1, C v2 2, C v2 3, C v2 4]⟩), v9]⟩)) s12))))
theorem vc_spec_DrawLayerApply_eq (w0 : World) (a0 : Value) (σ : Vw) (R : Value → Vw → Prop) : vc_spec_DrawLayerApply w0 a0 σ R = den Tryz.prog w0 kp_spec_DrawLayerApply esc_spec_DrawLayerApply (Tryz.f41.body.getD .skip) (entry Tryz.f41.ntmps [a0]) σ (retK Tryz.prog Tryz.f41.results.toList R) := by kernel_rfl
theorem ac_spec_DrawLayerApply {w0 : World} {a0 : Value} {σ : Vw} {R : Value → Vw → Prop} (h : vc_spec_DrawLayerApply w0 a0 σ R) : AC Tryz.prog w0 n_spec_DrawLayerApply [a0] σ R := by
  refine ac_rule (fn := Tryz.f41) (c := Tryz.f41.body.getD .skip) kp_spec_DrawLayerApply esc_spec_DrawLayerApply Tryz.func41 (by kernel_rfl) (by kernel_rfl) ?_
  rw [← vc_spec_DrawLayerApply_eq]
  exact h

/-- spec.l3EntryOk -/
def kp_spec_l3EntryOk : Nat → Keep
  | _ => ⟨[], [], [], .done, []⟩
def esc_spec_l3EntryOk : Nat → Bool
  | _ => false
def cs_spec_l3EntryOk_1 (w0 : World) (v900 : Value) (s901 : Vw) (R : Value → Vw → Prop) : Prop :=
  AC P w0 n_spec_l1In [C v900 3, .int .i64 0, .int .i64 7] s901 (fun v500 s501 => pUn .not v500 fun v502 => Q v502 (R (.bool false) s501) (pLenS (C v900 4) fun v503 => B P 3 .gtr v503 (.int .i64 24) fun v504 => Q v504 (R (.bool false) s501) (B P 3 .eql (C v900 1) (.int .i64 1) fun v505 => Q v505 (N (C v900 0) fun v506 => B P 3 .gtr v506 (.int .i64 0) fun v507 => Q v507 (pUn .not (C v900 2) fun v508 => Q v508 (B P 3 .eql (C v900 3) (.int .i64 0) fun v509 => Q v509 (B P 9 .eql (C v900 4) (.string ({ data := #[] })) fun v510 => R v510 s501) (R (.bool false) s501)) (R (.bool false) s501)) (R (.bool false) s501)) (B P 3 .eql (C v900 1) (.int .i64 2) fun v511 => Q v511 (N (C v900 0) fun v512 => B P 3 .gtr v512 (.int .i64 0) fun v513 => Q v513 (pUn .not (C v900 2) fun v514 => Q v514 (R (.bool true) s501) (B P 9 .eql (C v900 4) (.string ({ data := #[] })) fun v515 => R v515 s501)) (R (.bool false) s501)) (B P 3 .eql (C v900 1) (.int .i64 3) fun v516 => Q v516 (pUn .not (C v900 2) fun v517 => Q v517 (B P 9 .eql (C v900 4) (.string ({ data := #[] })) fun v518 => R v518 s501) (R (.bool false) s501)) (B P 3 .eql (C v900 1) (.int .i64 4) fun v519 => Q v519 (N (C v900 0) fun v520 => B P 3 .gtr v520 (.int .i64 0) fun v521 => Q v521 (pUn .not (C v900 2) fun v522 => Q v522 (B P 3 .eql (C v900 3) (.int .i64 0) fun v523 => R v523 s501) (R (.bool false) s501)) (R (.bool false) s501)) (R (.bool false) s501)))))))
def vc_spec_l3EntryOk (w0 : World) (a0 : Value) (σ : Vw) (R : Value → Vw → Prop) : Prop :=
  V true 5 a0 (N (C a0 0) fun v0 => B P 3 .gtr v0 (.int .i64 0) fun v1 => Q v1 (AC P w0 n_spec_l2PathOk [C a0 0] σ fun v2 s3 => pUn .not v2 fun v4 => Q v4 (R (.bool false) s3) (cs_spec_l3EntryOk_1 w0 a0 s3 R)) (cs_spec_l3EntryOk_1 w0 a0 σ R))

theorem vc_spec_l3EntryOk_eq (w0 : World) (a0 : Value) (σ : Vw) (R : Value → Vw → Prop) : vc_spec_l3EntryOk w0 a0 σ R = den Tryz.prog w0 kp_spec_l3EntryOk esc_spec_l3EntryOk (Tryz.f42.body.getD .skip) (entry Tryz.f42.ntmps [a0]) σ (retK Tryz.prog Tryz.f42.results.toList R) := by kernel_rfl
theorem ac_spec_l3EntryOk {w0 : World} {a0 : Value} {σ : Vw} {R : Value → Vw → Prop} (h : vc_spec_l3EntryOk w0 a0 σ R) : AC Tryz.prog w0 n_spec_l3EntryOk [a0] σ R := by
  refine ac_rule (fn := Tryz.f42) (c := Tryz.f42.body.getD .skip) kp_spec_l3EntryOk esc_spec_l3EntryOk Tryz.func42 (by kernel_rfl) (by kernel_rfl) ?_
  rw [← vc_spec_l3EntryOk_eq]
  exact h

/-- spec.l3Text -/
def kp_spec_l3Text : Nat → Keep
  | 7 => ⟨[], [], [], .step 0 (.step 1 (.step 2 (.step 3 (.step 4 (.step 8 (.step 9 (.step 5 (.step 6 (.step 7 (.step 10 (.step 11 (.step 12 (.step 13 (.done)))))))))))))), [(1, [0]), (2, [0, 1]), (4, [3]), (5, [3, 4]), (6, [0, 1, 2, 3, 4, 5]), (7, [0, 1, 2, 3, 4, 5, 6]), (9, [8]), (10, [3, 4, 5, 8, 9]), (11, [0, 1, 2, 3, 4, 5, 6, 7, 8, 9, 10]), (12, [0, 1, 2, 3, 4, 5, 6, 7, 8, 9, 10, 11]), (13, [0, 1, 2, 3, 4, 5, 6, 7, 8, 9, 10, 11, 12])]⟩
  | _ => ⟨[], [], [], .done, []⟩
def esc_spec_l3Text : Nat → Bool
  | _ => false
def cs_spec_l3Text_1 (w0 : World) (v900 : Value) (v901 : Value) (s902 : Vw) (R : Value → Vw → Prop) : Prop :=
  B P 3 .eql (C v900 1) (.int .i64 2) (fun v500 => Q v500 (B P 9 .add (.string ({ data := #[110, 101, 119, 32] })) v901 fun v501 => B P 9 .add v501 (.string ({ data := #[32] })) fun v502 => AC P w0 n_spec_l1Dec [C v900 3] s902 fun v503 s504 => B P 9 .add v502 v503 fun v505 => B P 9 .add v505 (.string ({ data := #[32] })) fun v506 => AC P w0 n_spec_l1Hex [C v900 4] s504 fun v507 s508 => B P 9 .add v506 v507 fun v509 => B P 9 .add v509 (.string ({ data := #[10] })) fun v510 => R v510 s508) (B P 3 .eql (C v900 1) (.int .i64 3) fun v511 => Q v511 (B P 9 .add (.string ({ data := #[109, 111, 100, 101, 32] })) v901 fun v512 => B P 9 .add v512 (.string ({ data := #[32] })) fun v513 => AC P w0 n_spec_l1Dec [C v900 3] s902 fun v514 s515 => B P 9 .add v513 v514 fun v516 => B P 9 .add v516 (.string ({ data := #[10] })) fun v517 => R v517 s515) (B P 9 .add (.string ({ data := #[100, 97, 116, 97, 32] })) v901 fun v518 => B P 9 .add v518 (.string ({ data := #[32] })) fun v519 => AC P w0 n_spec_l1Hex [C v900 4] s902 fun v520 s521 => B P 9 .add v519 v520 fun v522 => B P 9 .add v522 (.string ({ data := #[10] })) fun v523 => R v523 s521)))
def vc_spec_l3Text (w0 : World) (a0 : Value) (σ : Vw) (R : Value → Vw → Prop) : Prop :=
  V true 5 a0 (AC P w0 n_spec_l3Name [C a0 0] σ fun v0 s1 => B P 3 .eql (C a0 1) (.int .i64 1) fun v2 => Q v2 (B P 9 .add (.string ({ data := #[103, 111, 110, 101, 32] })) v0 fun v3 => B P 9 .add v3 (.string ({ data := #[10] })) fun v4 => R v4 s1) (B P 3 .eql (C a0 1) (.int .i64 2) fun v5 => Q v5 (Q (C a0 2) (B P 9 .add (.string ({ data := #[110, 101, 119, 100, 105, 114, 32] })) v0 fun v6 => B P 9 .add v6 (.string ({ data := #[32] })) fun v7 => AC P w0 n_spec_l1Dec [C a0 3] s1 fun v8 s9 => B P 9 .add v7 v8 fun v10 => B P 9 .add v10 (.string ({ data := #[10] })) fun v11 => R v11 s9) (cs_spec_l3Text_1 w0 a0 v0 s1 R)) (cs_spec_l3Text_1 w0 a0 v0 s1 R)))

theorem vc_spec_l3Text_eq (w0 : World) (a0 : Value) (σ : Vw) (R : Value → Vw → Prop) : vc_spec_l3Text w0 a0 σ R = den Tryz.prog w0 kp_spec_l3Text esc_spec_l3Text (Tryz.f43.body.getD .skip) (entry Tryz.f43.ntmps [a0]) σ (retK Tryz.prog Tryz.f43.results.toList R) := by kernel_rfl
theorem ac_spec_l3Text {w0 : World} {a0 : Value} {σ : Vw} {R : Value → Vw → Prop} (h : vc_spec_l3Text w0 a0 σ R) : AC Tryz.prog w0 n_spec_l3Text [a0] σ R := by
  refine ac_rule (fn := Tryz.f43) (c := Tryz.f43.body.getD .skip) kp_spec_l3Text esc_spec_l3Text Tryz.func43 (by kernel_rfl) (by kernel_rfl) ?_
  rw [← vc_spec_l3Text_eq]
  exact h

end Go.Proofs.YtkbhjejalkbogaaGreatDoor

/- What each function owes, reckoned out, part 3. MADE BY PROGRAM (emit.py). -/
set_option linter.unusedVariables false
namespace Go.Proofs.YtkbhjejalkbogaaGreatDoor
open Go.Av renaming vget → G, cellOf → C, pVal → V, pBin → B, pIndexAddr → X, pLoad → L, pField → F, pIf → Q, pExtract → E, pAppend → A, pLen → N, pNew → W
open Go.Proofs.Tryz renaming prog → P
open Go Go.Av

def cs_impl_look_1 (w0 : World) (l900 : List Value) (s901 : Vw) (K902 : AX → List Value → Vw → Prop) (R : Value → Vw → Prop) : Prop :=
  B P 3 .lss (G l900 8) (G l900 7) (fun v500 => Q v500 (X 1 (G l900 6) (G l900 8) fun v501 => L w0 1 v501 s901 fun g502 => AC P w0 n_impl_below [G l900 0, g502 0] s901 fun v503 s504 => AC P w0 n_impl_leads [G l900 3, v503] s504 fun v505 s506 => Q v505 (AC P w0 n_p_impl_Tree_kid [G l900 1, g502 0] s506 fun v507 s508 => AC P w0 n_p_impl_Tree_kid [G l900 2, g502 0] s508 fun v509 s510 => AC P w0 n_impl_look [v503, v507, v509, G l900 3] s510 fun v511 s512 => E v511 0 fun v513 => E v511 1 fun v514 => pAppendS w0 55 5 64 (G l900 4) v513 s512 fun v515 s516 => B P 3 .add (G l900 5) v514 fun v517 => B P 3 .add (G l900 8) (.int .i64 1) fun v518 => K902 .normal [G l900 0, G l900 1, G l900 2, G l900 3, v515, v517, G l900 6, G l900 7, v518] s516) (B P 3 .add (G l900 8) (.int .i64 1) fun v519 => K902 .normal [G l900 0, G l900 1, G l900 2, G l900 3, G l900 4, G l900 5, G l900 6, G l900 7, v519] s506)) (K902 (.exit 1) [G l900 0, G l900 1, G l900 2, G l900 3, G l900 4, G l900 5, G l900 6, G l900 7, G l900 8] s901))
def vc_impl_look (w0 : World) (a0 a1 a2 a3 : Value) (σ : Vw) (R : Value → Vw → Prop) : Prop :=
  B P 78 .eql a1 (.pointer none) fun v0 => Q v0 (pNil a2 (L w0 5 a2 σ fun g1 => pNil a2 (L w0 5 a2 σ fun g2 => AC P w0 n_impl_fresh ([a0, .agg (⟨[g1 0, g1 1, g1 2, g1 3, g1 4]⟩)]) σ fun v3 s4 => (Stay w0 σ s4 a2 5) ∧ (AC P w0 n_impl_Tree_paths ([.agg (⟨[g2 0, g2 1, g2 2, g2 3, g2 4]⟩)]) s4 fun v5 s6 => R (.tuple (⟨[v3, v5]⟩)) s6)))) (B P 78 .eql a2 (.pointer none) fun v7 => Q v7 (AC P w0 n_impl_gone [a0] σ fun v8 s9 => V true 5 v8 (W w0 55 [C v8 0, C v8 1, C v8 2, C v8 3, C v8 4] s9 fun n10 s11 => R (.tuple (⟨[.slice (some (Addr.mk n10 0 none)) 1 1, .int .i64 1]⟩)) s11)) (pNil a1 (F 0 a1 fun v12 => L w0 1 v12 σ fun g13 => pNil a2 (F 0 a2 fun v14 => L w0 1 v14 σ fun g15 => B P 4 .neq (g13 0) (g15 0) fun v16 => Q v16 (pNil a2 (L w0 5 a2 σ fun g17 => AC P w0 n_impl_walk [a0, a1, a2] σ fun v18 s19 => (Stay w0 σ s19 a2 5) ∧ (AC P w0 n_impl_Tree_paths ([.agg (⟨[g17 0, g17 1, g17 2, g17 3, g17 4]⟩)]) s19 fun v20 s21 => R (.tuple (⟨[v18, v20]⟩)) s21))) (AC P w0 n_impl_under [a3, a0] σ fun v22 s23 => Q v22 (AC P w0 n_impl_walk [a0, a1, a2] s23 fun v24 s25 => AC P w0 n_impl_both [a1, a2] s25 fun v26 s27 => R (.tuple (⟨[v24, v26]⟩)) s27) (W w0 55 [] s23 fun n28 s29 => AC P w0 n_impl_marked [a3, a0] s29 fun v30 s31 => Q v30 (pNil a1 (L w0 5 a1 s31 fun g32 => pNil a2 (L w0 5 a2 s31 fun g33 => AC P w0 n_impl_changes ([a0, .agg (⟨[g32 0, g32 1, g32 2, g32 3, g32 4]⟩), .agg (⟨[g33 0, g33 1, g33 2, g33 3, g33 4]⟩)]) s31 fun v34 s35 => AC P w0 n_impl_either [a1, a2] s35 fun v36 s37 => N v36 fun v38 => pLoop (fun l39 K40 s41 => cs_impl_look_1 w0 l39 s41 K40 R) [a0, a1, a2, a3, v34, .int .i64 1, v36, v38, .int .i64 0] s37 fun x62 l63 s64 => match x62 with | .normal => R (.tuple (⟨[G l63 4, G l63 5]⟩)) s64 | .ret => False | .exit i65 => (match Nat.beq i65 1 with | true => R (.tuple (⟨[G l63 4, G l63 5]⟩)) s64 | false => False)))) (AC P w0 n_impl_either [a1, a2] s31 fun v66 s67 => N v66 fun v68 => pLoop (fun l69 K70 s71 => cs_impl_look_1 w0 l69 s71 K70 R) [a0, a1, a2, a3, .slice (some (Addr.mk n28 0 none)) 0 0, .int .i64 1, v66, v68, .int .i64 0] s67 fun x92 l93 s94 => match x92 with | .normal => R (.tuple (⟨[G l93 4, G l93 5]⟩)) s94 | .ret => False | .exit i95 => (match Nat.beq i95 1 with | true => R (.tuple (⟨[G l93 4, G l93 5]⟩)) s94 | false => False))))))))

/-- spec.TreeOk -/
def kp_spec_TreeOk : Nat → Keep
  | _ => ⟨[], [], [], .done, []⟩
def esc_spec_TreeOk : Nat → Bool
  | _ => false
def vc_spec_TreeOk (w0 : World) (a0 : Value) (σ : Vw) (R : Value → Vw → Prop) : Prop :=
  V true 5 a0 (Q (C a0 0) (AC P w0 n_spec_l1Parts ([.agg (⟨[C a0 0, C a0 1, C a0 2, C a0 3, C a0 4]⟩), .int .i64 0]) σ fun v0 s1 => Q v0 (AC P w0 n_spec_l1Count ([.agg (⟨[C a0 0, C a0 1, C a0 2, C a0 3, C a0 4]⟩)]) s1 fun v2 s3 => B P 3 .leq v2 (.int .i64 30) fun v4 => R v4 s3) (R (.bool false) s1)) (R (.bool false) σ))
theorem vc_spec_TreeOk_eq (w0 : World) (a0 : Value) (σ : Vw) (R : Value → Vw → Prop) : vc_spec_TreeOk w0 a0 σ R = den Tryz.prog w0 kp_spec_TreeOk esc_spec_TreeOk (Tryz.f48.body.getD .skip) (entry Tryz.f48.ntmps [a0]) σ (retK Tryz.prog Tryz.f48.results.toList R) := by kernel_rfl
theorem ac_spec_TreeOk {w0 : World} {a0 : Value} {σ : Vw} {R : Value → Vw → Prop} (h : vc_spec_TreeOk w0 a0 σ R) : AC Tryz.prog w0 n_spec_TreeOk [a0] σ R := by
  refine ac_rule (fn := Tryz.f48) (c := Tryz.f48.body.getD .skip) kp_spec_TreeOk esc_spec_TreeOk Tryz.func48 (by kernel_rfl) (by kernel_rfl) ?_
  rw [← vc_spec_TreeOk_eq]
  exact h

/-- spec.l13Trail -/
def kp_spec_l13Trail : Nat → Keep
  | 3 => ⟨[0, 5, 6], [(3, 5)], [3], .done, []⟩
  | _ => ⟨[], [], [], .done, []⟩
def esc_spec_l13Trail : Nat → Bool
  | 7 => true
  | _ => false
/-- spec.l11Copy -/
def kp_spec_l11Copy : Nat → Keep
  | 3 => ⟨[0, 3, 4], [], [], .done, []⟩
  | 5 => ⟨[], [], [], .step 0 (.step 2 (.step 3 (.step 4 (.step 5 (.step 6 (.step 8 (.step 9 (.step 10 (.step 11 (.step 12 (.step 1 (.step 7 (.step 13 (.step 14 (.step 15 (.step 16 (.done))))))))))))))))), [(4, [2, 3]), (5, [2, 3, 4]), (6, [2, 3, 4, 5]), (7, [1, 2, 3, 4, 5, 6]), (10, [8, 9]), (11, [8, 9, 10]), (12, [8, 9, 10, 11]), (13, [1, 2, 3, 4, 5, 6, 7, 8, 9, 10, 11, 12]), (14, [1, 2, 3, 4, 5, 6, 7, 8, 9, 10, 11, 12, 13]), (15, [0, 1, 2, 3, 4, 5, 6, 7, 8, 9, 10, 11, 12, 13, 14]), (16, [0, 1, 2, 3, 4, 5, 6, 7, 8, 9, 10, 11, 12, 13, 14, 15])]⟩
  | _ => ⟨[], [], [], .done, []⟩
/-- impl.pathText -/
def kp_impl_pathText : Nat → Keep
  | _ => ⟨[], [], [], .done, []⟩
def esc_impl_pathText : Nat → Bool
  | _ => false
def vc_impl_pathText (w0 : World) (a0 : Value) (σ : Vw) (R : Value → Vw → Prop) : Prop :=
  N a0 fun v0 => B P 3 .eql v0 (.int .i64 0) fun v1 => Q v1 (R (.string ({ data := #[47] })) σ) (AC P w0 n_strings_Join ([a0, .string ({ data := #[47] })]) σ fun v2 s3 => B P 9 .add (.string ({ data := #[47] })) v2 fun v4 => R v4 s3)
theorem vc_impl_pathText_eq (w0 : World) (a0 : Value) (σ : Vw) (R : Value → Vw → Prop) : vc_impl_pathText w0 a0 σ R = den Tryz.prog w0 kp_impl_pathText esc_impl_pathText (Tryz.f53.body.getD .skip) (entry Tryz.f53.ntmps [a0]) σ (retK Tryz.prog Tryz.f53.results.toList R) := by kernel_rfl
theorem ac_impl_pathText {w0 : World} {a0 : Value} {σ : Vw} {R : Value → Vw → Prop} (h : vc_impl_pathText w0 a0 σ R) : AC Tryz.prog w0 n_impl_pathText [a0] σ R := by
  refine ac_rule (fn := Tryz.f53) (c := Tryz.f53.body.getD .skip) kp_impl_pathText esc_impl_pathText Tryz.func53 (by kernel_rfl) (by kernel_rfl) ?_
  rw [← vc_impl_pathText_eq]
  exact h

/-- spec.l2Within -/
def kp_spec_l2Within : Nat → Keep
  | 4 => ⟨[0, 1, 4, 5], [], [], .done, []⟩
  | 6 => ⟨[], [], [], .step 0 (.step 1 (.step 2 (.step 3 (.step 4 (.step 5 (.step 6 (.step 7 (.step 8 (.done))))))))), [(2, [0, 1]), (3, [0, 1, 2]), (6, [4, 5]), (7, [4, 5, 6]), (8, [0, 1, 2, 3, 4, 5, 6, 7])]⟩
  | _ => ⟨[], [], [], .done, []⟩
def esc_spec_l2Within : Nat → Bool
  | _ => false
def vc_spec_l2Within (w0 : World) (a0 a1 : Value) (σ : Vw) (R : Value → Vw → Prop) : Prop :=
  N a0 fun v0 => N a1 fun v1 => B P 3 .lss v0 v1 fun v2 => Q v2 (R (.bool false) σ) (pLoop (fun l3 K4 s5 => N (G l3 1) fun v6 => B P 3 .lss (G l3 3) v6 fun v7 => Q v7 (X 1 (G l3 0) (G l3 3) fun v8 => L w0 1 v8 s5 fun g9 => X 1 (G l3 1) (G l3 3) fun v10 => L w0 1 v10 s5 fun g11 => B P 9 .neq (g9 0) (g11 0) fun v12 => Q v12 (K4 .ret [G l3 0, G l3 1, .bool false, G l3 3] s5) (B P 3 .add (G l3 3) (.int .i64 1) fun v13 => K4 .normal [G l3 0, G l3 1, G l3 2, v13] s5)) (K4 (.exit 0) [G l3 0, G l3 1, G l3 2, G l3 3] s5)) [a0, a1, .bool false, .int .i64 0] σ fun x14 l15 s16 => match x14 with | .normal => R (.bool true) s16 | .ret => R (G l15 2) s16 | .exit i17 => (match Nat.beq i17 0 with | true => R (.bool true) s16 | false => False))
theorem vc_spec_l2Within_eq (w0 : World) (a0 a1 : Value) (σ : Vw) (R : Value → Vw → Prop) : vc_spec_l2Within w0 a0 a1 σ R = den Tryz.prog w0 kp_spec_l2Within esc_spec_l2Within (Tryz.f58.body.getD .skip) (entry Tryz.f58.ntmps [a0, a1]) σ (retK Tryz.prog Tryz.f58.results.toList R) := by kernel_rfl
theorem ac_spec_l2Within {w0 : World} {a0 a1 : Value} {σ : Vw} {R : Value → Vw → Prop} (h : vc_spec_l2Within w0 a0 a1 σ R) : AC Tryz.prog w0 n_spec_l2Within [a0, a1] σ R := by
  refine ac_rule (fn := Tryz.f58) (c := Tryz.f58.body.getD .skip) kp_spec_l2Within esc_spec_l2Within Tryz.func58 (by kernel_rfl) (by kernel_rfl) ?_
  rw [← vc_spec_l2Within_eq]
  exact h

/-- spec.DiffWalk -/
def kp_spec_DiffWalk : Nat → Keep
  | _ => ⟨[], [], [], .done, []⟩
def esc_spec_DiffWalk : Nat → Bool
  | 13 => true
  | 14 => true
  | _ => false
def vc_spec_DiffWalk (w0 : World) (a0 a1 : Value) (σ : Vw) (R : Value → Vw → Prop) : Prop :=
  V true 5 a0 (V true 5 a1 (AC P w0 n_spec_TreeOk ([.agg (⟨[C a0 0, C a0 1, C a0 2, C a0 3, C a0 4]⟩)]) σ fun v0 s1 => pUn .not v0 fun v2 => Q v2 (W w0 55 [] s1 fun n3 s4 => R (.slice (some (Addr.mk n3 0 none)) 0 0) s4) (AC P w0 n_spec_TreeOk ([.agg (⟨[C a1 0, C a1 1, C a1 2, C a1 3, C a1 4]⟩)]) s1 fun v5 s6 => pUn .not v5 fun v7 => Q v7 (W w0 55 [] s6 fun n8 s9 => R (.slice (some (Addr.mk n8 0 none)) 0 0) s9) (W w0 9 [] s6 fun n10 s11 => AC P w0 n_spec_l3Walk ([.slice (some (Addr.mk n10 0 none)) 0 0, .agg (⟨[C a0 0, C a0 1, C a0 2, C a0 3, C a0 4]⟩), .agg (⟨[C a1 0, C a1 1, C a1 2, C a1 3, C a1 4]⟩)]) s11 fun v12 s13 => R v12 s13))))
theorem vc_spec_DiffWalk_eq (w0 : World) (a0 a1 : Value) (σ : Vw) (R : Value → Vw → Prop) : vc_spec_DiffWalk w0 a0 a1 σ R = den Tryz.prog w0 kp_spec_DiffWalk esc_spec_DiffWalk (Tryz.f59.body.getD .skip) (entry Tryz.f59.ntmps [a0, a1]) σ (retK Tryz.prog Tryz.f59.results.toList R) := by kernel_rfl
theorem ac_spec_DiffWalk {w0 : World} {a0 a1 : Value} {σ : Vw} {R : Value → Vw → Prop} (h : vc_spec_DiffWalk w0 a0 a1 σ R) : AC Tryz.prog w0 n_spec_DiffWalk [a0, a1] σ R := by
  refine ac_rule (fn := Tryz.f59) (c := Tryz.f59.body.getD .skip) kp_spec_DiffWalk esc_spec_DiffWalk Tryz.func59 (by kernel_rfl) (by kernel_rfl) ?_
  rw [← vc_spec_DiffWalk_eq]
  exact h

/-- spec.l4Calls -/
def kp_spec_l4Calls : Nat → Keep
  | 1 => ⟨[0, 2], [(4, 5), (6, 5)], [4, 6], .done, []⟩
  | 3 => ⟨[], [], [], .step 0 (.step 1 (.step 2 (.step 8 (.step 3 (.step 4 (.step 5 (.step 6 (.step 7 (.step 9 (.step 10 (.done))))))))))), [(3, [1, 2]), (4, [0, 1, 2, 3]), (5, [0, 1, 2, 3, 4]), (6, [0, 1, 2, 3, 4, 5]), (7, [0, 1, 2, 3, 4, 5]), (9, [0, 1, 2, 3, 4, 5, 6, 8]), (10, [0, 1, 2, 3, 4, 5, 6, 7, 8, 9])]⟩
  | _ => ⟨[], [], [], .done, []⟩
def esc_spec_l4Calls : Nat → Bool
  | _ => false
def vc_spec_l4Calls (w0 : World) (a0 a1 a2 : Value) (σ : Vw) (R : Value → Vw → Prop) : Prop :=
  V true 5 a1 (pLoop (fun l0 K1 s2 => B P 3 .gtr (G l0 1) (.int .i64 0) fun v3 => Q v3 (AC P w0 n_spec_l4Call ([G l0 0, .agg (⟨[G l0 2, G l0 3, G l0 4, G l0 5, G l0 6]⟩)]) s2 fun v4 s5 => AC P w0 n_spec_TreeDo ([.agg (⟨[G l0 2, G l0 3, G l0 4, G l0 5, G l0 6]⟩), v4]) s5 fun v6 s7 => E v6 0 fun v8 => E v6 1 fun v9 => V true 5 v8 (B P 3 .eql v9 (.int .i64 0) fun v10 => Q v10 (V true 5 (.agg (⟨[C v8 0, C v8 1, C v8 2, C v8 3, C v8 4]⟩)) (B P 3 .sub (G l0 1) (.int .i64 1) fun v11 => K1 .normal [G l0 0, v11, C v8 0, C v8 1, C v8 2, C v8 3, C v8 4, G l0 7, G l0 8, G l0 9, G l0 10, G l0 11] s7)) (B P 3 .sub (G l0 1) (.int .i64 1) fun v12 => K1 .normal [G l0 0, v12, G l0 2, G l0 3, G l0 4, G l0 5, G l0 6, G l0 7, G l0 8, G l0 9, G l0 10, G l0 11] s7))) (K1 (.exit 0) [G l0 0, G l0 1, G l0 2, G l0 3, G l0 4, G l0 5, G l0 6, G l0 7, G l0 8, G l0 9, G l0 10, G l0 11] s2)) ([a0, a2, C a1 0, C a1 1, C a1 2, C a1 3, C a1 4, .bool false, .int .i64 0, .string ({ data := #[] }), .slice none 0 0, .slice none 0 0]) σ fun x13 l14 s15 => match x13 with | .normal => V true 5 (.agg (⟨[G l14 2, G l14 3, G l14 4, G l14 5, G l14 6]⟩)) (R (.agg (⟨[G l14 2, G l14 3, G l14 4, G l14 5, G l14 6]⟩)) s15) | .ret => R (.agg (⟨[G l14 7, G l14 8, G l14 9, G l14 10, G l14 11]⟩)) s15 | .exit i16 => (match Nat.beq i16 0 with | true => V true 5 (.agg (⟨[G l14 2, G l14 3, G l14 4, G l14 5, G l14 6]⟩)) (R (.agg (⟨[G l14 2, G l14 3, G l14 4, G l14 5, G l14 6]⟩)) s15) | false => False))
theorem vc_spec_l4Calls_eq (w0 : World) (a0 a1 a2 : Value) (σ : Vw) (R : Value → Vw → Prop) : vc_spec_l4Calls w0 a0 a1 a2 σ R = den Tryz.prog w0 kp_spec_l4Calls esc_spec_l4Calls (Tryz.f60.body.getD .skip) (entry Tryz.f60.ntmps [a0, a1, a2]) σ (retK Tryz.prog Tryz.f60.results.toList R) := by kernel_rfl
theorem ac_spec_l4Calls {w0 : World} {a0 a1 a2 : Value} {σ : Vw} {R : Value → Vw → Prop} (h : vc_spec_l4Calls w0 a0 a1 a2 σ R) : AC Tryz.prog w0 n_spec_l4Calls [a0, a1, a2] σ R := by
  refine ac_rule (fn := Tryz.f60) (c := Tryz.f60.body.getD .skip) kp_spec_l4Calls esc_spec_l4Calls Tryz.func60 (by kernel_rfl) (by kernel_rfl) ?_
  rw [← vc_spec_l4Calls_eq]
  exact h

/-- spec.l4Path -/
def kp_spec_l4Path : Nat → Keep
  | 3 => ⟨[0, 5], [(6, 5)], [6], .done, []⟩
  | 6 => ⟨[], [], [], .step 0 (.step 1 (.step 2 (.step 3 (.step 4 (.step 5 (.step 6 (.step 7 (.step 8 (.step 9 (.done)))))))))), [(1, [0]), (4, [3]), (5, [3, 4]), (6, [2, 3, 4, 5]), (7, [0, 1, 2, 3, 4, 5, 6]), (8, [0, 1, 2, 3, 4, 5, 6, 7]), (9, [0, 1, 2, 3, 4, 5, 6, 7, 8])]⟩
  | _ => ⟨[], [], [], .done, []⟩
def esc_spec_l4Path : Nat → Bool
  | 9 => true
  | _ => false
def cs_spec_l4Path_2 (w0 : World) (v900 : Value) (K901 : AX → List Value → Vw → Prop) (l902 : List Value) (v903 : Value) (s904 : Vw) (R : Value → Vw → Prop) : Prop :=
  B P 3 .lss v900 (.int .i64 0) (fun v500 => Q v500 (K901 (.exit 0) [G l902 0, v903, G l902 2, G l902 3, G l902 4, G l902 5, G l902 6] s904) (N (G l902 6) fun v501 => B P 3 .geq v900 v501 fun v502 => Q v502 (K901 (.exit 0) [G l902 0, v903, G l902 2, G l902 3, G l902 4, G l902 5, G l902 6] s904) (X 5 (G l902 6) v900 fun v503 => L w0 5 v503 s904 fun g504 => V true 5 (.agg (⟨[g504 0, g504 1, g504 2, g504 3, g504 4]⟩)) (K901 .normal [G l902 0, v903, g504 0, g504 1, g504 2, g504 3, g504 4] s904))))
def cs_spec_l4Path_1 (w0 : World) (l900 : List Value) (s901 : Vw) (K902 : AX → List Value → Vw → Prop) (R : Value → Vw → Prop) : Prop :=
  AC P w0 n_spec_l4Name [G l900 0] s901 (fun v500 s501 => N (G l900 5) fun v502 => B P 3 .gtr v502 (.int .i64 0) fun v503 => Q v503 (AC P w0 n_p_spec_l1Rd_pick [G l900 0, .int .i64 4] s501 fun v504 s505 => B P 3 .gtr v504 (.int .i64 0) fun v506 => Q v506 (N (G l900 5) fun v507 => AC P w0 n_p_spec_l1Rd_pick [G l900 0, v507] s505 fun v508 s509 => X 1 (G l900 5) v508 fun v510 => L w0 1 v510 s509 fun g511 => V false 1 (g511 0) ((allOne [g511 0]) ∧ (A w0 9 1 16 (G l900 1) 1 [g511 0] s509 fun v512 s513 => AC P w0 n_spec_l1Find ([.agg (⟨[G l900 2, G l900 3, G l900 4, G l900 5, G l900 6]⟩), g511 0]) s513 fun v514 s515 => cs_spec_l4Path_2 w0 v514 K902 l900 v512 s515 R))) (V false 1 v500 ((allOne [v500]) ∧ (A w0 9 1 16 (G l900 1) 1 [v500] s505 fun v521 s522 => AC P w0 n_spec_l1Find ([.agg (⟨[G l900 2, G l900 3, G l900 4, G l900 5, G l900 6]⟩), v500]) s522 fun v523 s524 => cs_spec_l4Path_2 w0 v523 K902 l900 v521 s524 R)))) (V false 1 v500 ((allOne [v500]) ∧ (A w0 9 1 16 (G l900 1) 1 [v500] s501 fun v530 s531 => AC P w0 n_spec_l1Find ([.agg (⟨[G l900 2, G l900 3, G l900 4, G l900 5, G l900 6]⟩), v500]) s531 fun v532 s533 => cs_spec_l4Path_2 w0 v532 K902 l900 v530 s533 R))))
def vc_spec_l4Path (w0 : World) (a0 a1 : Value) (σ : Vw) (R : Value → Vw → Prop) : Prop :=
  V true 5 a1 (W w0 9 [] σ fun n0 s1 => V true 5 (.agg (⟨[C a1 0, C a1 1, C a1 2, C a1 3, C a1 4]⟩)) (pLoop (fun l2 K3 s4 => N (G l2 1) fun v5 => B P 3 .lss v5 (.int .i64 4) fun v6 => Q v6 (N (G l2 1) fun v7 => B P 3 .eql v7 (.int .i64 0) fun v8 => Q v8 (cs_spec_l4Path_1 w0 l2 s4 K3 R) (AC P w0 n_p_spec_l1Rd_pick [G l2 0, .int .i64 3] s4 fun v48 s49 => B P 3 .gtr v48 (.int .i64 0) fun v50 => Q v50 (cs_spec_l4Path_1 w0 l2 s49 K3 R) (K3 (.exit 0) [G l2 0, G l2 1, G l2 2, G l2 3, G l2 4, G l2 5, G l2 6] s49))) (K3 (.exit 0) [G l2 0, G l2 1, G l2 2, G l2 3, G l2 4, G l2 5, G l2 6] s4)) [a0, .slice (some (Addr.mk n0 0 none)) 0 0, C a1 0, C a1 1, C a1 2, C a1 3, C a1 4] s1 fun x90 l91 s92 => match x90 with | .normal => R (G l91 1) s92 | .ret => False | .exit i93 => (match Nat.beq i93 0 with | true => R (G l91 1) s92 | false => False)))

theorem vc_spec_l4Path_eq (w0 : World) (a0 a1 : Value) (σ : Vw) (R : Value → Vw → Prop) : vc_spec_l4Path w0 a0 a1 σ R = den Tryz.prog w0 kp_spec_l4Path esc_spec_l4Path (Tryz.f61.body.getD .skip) (entry Tryz.f61.ntmps [a0, a1]) σ (retK Tryz.prog Tryz.f61.results.toList R) := by kernel_rfl
theorem ac_spec_l4Path {w0 : World} {a0 a1 : Value} {σ : Vw} {R : Value → Vw → Prop} (h : vc_spec_l4Path w0 a0 a1 σ R) : AC Tryz.prog w0 n_spec_l4Path [a0, a1] σ R := by
  refine ac_rule (fn := Tryz.f61) (c := Tryz.f61.body.getD .skip) kp_spec_l4Path esc_spec_l4Path Tryz.func61 (by kernel_rfl) (by kernel_rfl) ?_
  rw [← vc_spec_l4Path_eq]
  exact h

/-- spec.l4Data -/
def kp_spec_l4Data : Nat → Keep
  | _ => ⟨[], [], [], .done, []⟩
def esc_spec_l4Data : Nat → Bool
  | 7 => true
  | _ => false
def vc_spec_l4Data (w0 : World) (a0 : Value) (σ : Vw) (R : Value → Vw → Prop) : Prop :=
  AC P w0 n_p_spec_l1Rd_pick [a0, .int .i64 25] σ fun v0 s1 => AC P w0 n_spec_l1Many ([.string ({ data := #[122] }), v0]) s1 fun v2 s3 => V false 1 (.string ({ data := #[] })) (V false 1 (.string ({ data := #[120] })) (V false 1 (.string ({ data := #[104, 101, 108, 108, 111] })) (V false 1 (.string ({ data := #[0, 255] })) (V false 1 (.string ({ data := #[48, 49, 50, 51, 52, 53, 54, 55, 56, 57] })) (V false 1 v2 (W w0 9 ([.string ({ data := #[] }), .string ({ data := #[120] }), .string ({ data := #[104, 101, 108, 108, 111] }), .string ({ data := #[0, 255] }), .string ({ data := #[48, 49, 50, 51, 52, 53, 54, 55, 56, 57] }), v2]) s3 fun n4 s5 => AC P w0 n_p_spec_l1Rd_of [a0, .slice (some (Addr.mk n4 0 none)) 6 6] s5 fun v6 s7 => R v6 s7))))))
theorem vc_spec_l4Data_eq (w0 : World) (a0 : Value) (σ : Vw) (R : Value → Vw → Prop) : vc_spec_l4Data w0 a0 σ R = den Tryz.prog w0 kp_spec_l4Data esc_spec_l4Data (Tryz.f62.body.getD .skip) (entry Tryz.f62.ntmps [a0]) σ (retK Tryz.prog Tryz.f62.results.toList R) := by kernel_rfl
theorem ac_spec_l4Data {w0 : World} {a0 : Value} {σ : Vw} {R : Value → Vw → Prop} (h : vc_spec_l4Data w0 a0 σ R) : AC Tryz.prog w0 n_spec_l4Data [a0] σ R := by
  refine ac_rule (fn := Tryz.f62) (c := Tryz.f62.body.getD .skip) kp_spec_l4Data esc_spec_l4Data Tryz.func62 (by kernel_rfl) (by kernel_rfl) ?_
  rw [← vc_spec_l4Data_eq]
  exact h

/-- spec.TreeDo -/
def kp_spec_TreeDo : Nat → Keep
  | _ => ⟨[], [], [], .done, []⟩
def esc_spec_TreeDo : Nat → Bool
  | _ => false
def vc_spec_TreeDo (w0 : World) (a0 a1 : Value) (σ : Vw) (R : Value → Vw → Prop) : Prop :=
  V true 5 a0 (V true 5 a1 (AC P w0 n_spec_TreeOk ([.agg (⟨[C a0 0, C a0 1, C a0 2, C a0 3, C a0 4]⟩)]) σ fun v0 s1 => pUn .not v0 fun v2 => Q v2 (V true 5 (.agg (⟨[.bool false, .int .i64 0, .string ({ data := #[] }), .slice none 0 0, .slice none 0 0]⟩)) (R (.tuple (⟨[.agg (⟨[.bool false, .int .i64 0, .string ({ data := #[] }), .slice none 0 0, .slice none 0 0]⟩), .int .i64 1]⟩)) s1)) (AC P w0 n_spec_l2CallOk ([.agg (⟨[C a1 0, C a1 1, C a1 2, C a1 3, C a1 4]⟩)]) s1 fun v3 s4 => pUn .not v3 fun v5 => Q v5 (AC P w0 n_spec_l1Copy ([.agg (⟨[C a0 0, C a0 1, C a0 2, C a0 3, C a0 4]⟩)]) s4 fun v6 s7 => V true 5 v6 (R (.tuple (⟨[.agg (⟨[C v6 0, C v6 1, C v6 2, C v6 3, C v6 4]⟩), .int .i64 2]⟩)) s7)) (AC P w0 n_spec_l2Do ([.agg (⟨[C a0 0, C a0 1, C a0 2, C a0 3, C a0 4]⟩), .agg (⟨[C a1 0, C a1 1, C a1 2, C a1 3, C a1 4]⟩)]) s4 fun v8 s9 => E v8 0 fun v10 => E v8 1 fun v11 => V true 5 v10 (AC P w0 n_spec_l1Copy ([.agg (⟨[C v10 0, C v10 1, C v10 2, C v10 3, C v10 4]⟩)]) s9 fun v12 s13 => V true 5 v12 (R (.tuple (⟨[.agg (⟨[C v12 0, C v12 1, C v12 2, C v12 3, C v12 4]⟩), v11]⟩)) s13))))))
theorem vc_spec_TreeDo_eq (w0 : World) (a0 a1 : Value) (σ : Vw) (R : Value → Vw → Prop) : vc_spec_TreeDo w0 a0 a1 σ R = den Tryz.prog w0 kp_spec_TreeDo esc_spec_TreeDo (Tryz.f63.body.getD .skip) (entry Tryz.f63.ntmps [a0, a1]) σ (retK Tryz.prog Tryz.f63.results.toList R) := by kernel_rfl
theorem ac_spec_TreeDo {w0 : World} {a0 a1 : Value} {σ : Vw} {R : Value → Vw → Prop} (h : vc_spec_TreeDo w0 a0 a1 σ R) : AC Tryz.prog w0 n_spec_TreeDo [a0, a1] σ R := by
  refine ac_rule (fn := Tryz.f63) (c := Tryz.f63.body.getD .skip) kp_spec_TreeDo esc_spec_TreeDo Tryz.func63 (by kernel_rfl) (by kernel_rfl) ?_
  rw [← vc_spec_TreeDo_eq]
  exact h

/-- strings.TrimPrefix -/
def kp_strings_TrimPrefix : Nat → Keep
  | _ => ⟨[], [], [], .done, []⟩
def esc_strings_TrimPrefix : Nat → Bool
  | _ => false
def vc_strings_TrimPrefix (w0 : World) (a0 a1 : Value) (σ : Vw) (R : Value → Vw → Prop) : Prop :=
  AC P w0 n_internal_stringslite_TrimPrefix [a0, a1] σ fun v0 s1 => R v0 s1
theorem vc_strings_TrimPrefix_eq (w0 : World) (a0 a1 : Value) (σ : Vw) (R : Value → Vw → Prop) : vc_strings_TrimPrefix w0 a0 a1 σ R = den Tryz.prog w0 kp_strings_TrimPrefix esc_strings_TrimPrefix (Tryz.f65.body.getD .skip) (entry Tryz.f65.ntmps [a0, a1]) σ (retK Tryz.prog Tryz.f65.results.toList R) := by kernel_rfl
theorem ac_strings_TrimPrefix {w0 : World} {a0 a1 : Value} {σ : Vw} {R : Value → Vw → Prop} (h : vc_strings_TrimPrefix w0 a0 a1 σ R) : AC Tryz.prog w0 n_strings_TrimPrefix [a0, a1] σ R := by
  refine ac_rule (fn := Tryz.f65) (c := Tryz.f65.body.getD .skip) kp_strings_TrimPrefix esc_strings_TrimPrefix Tryz.func65 (by kernel_rfl) (by kernel_rfl) ?_
  rw [← vc_strings_TrimPrefix_eq]
  exact h

/-- impl.unhex -/
def kp_impl_unhex : Nat → Keep
  | 3 => ⟨[0, 3, 4], [], [], .done, []⟩
  | 5 => ⟨[], [], [], .step 0 (.step 1 (.step 2 (.step 3 (.step 6 (.step 7 (.step 8 (.step 9 (.step 4 (.step 5 (.step 10 (.step 11 (.step 12 (.step 13 (.step 14 (.step 15 (.done)))))))))))))))), [(3, [1, 2]), (4, [1, 2, 3]), (5, [1, 2, 3, 4]), (8, [7]), (9, [6, 7, 8]), (10, [1, 2, 3, 4, 6, 7, 8, 9]), (11, [1, 2, 3, 4, 5, 6, 7, 8, 9, 10]), (12, [1, 2, 3, 4, 5, 6, 7, 8, 9, 10, 11]), (13, [1, 2, 3, 4, 5, 6, 7, 8, 9, 10, 11, 12]), (14, [0, 1, 2, 3, 4, 5, 6, 7, 8, 9, 10, 11, 12, 13]), (15, [0, 1, 2, 3, 4, 5, 6, 7, 8, 9, 10, 11, 12, 13, 14])]⟩
  | _ => ⟨[], [], [], .done, []⟩
def esc_impl_unhex : Nat → Bool
  | 5 => true
  | _ => false
def vc_impl_unhex (w0 : World) (a0 : Value) (σ : Vw) (R : Value → Vw → Prop) : Prop :=
  W w0 5 [] σ fun n0 s1 => pLoop (fun l2 K3 s4 => B P 3 .add (G l2 2) (.int .i64 1) fun v5 => pLenS (G l2 0) fun v6 => B P 3 .lss v5 v6 fun v7 => Q v7 (pIndexStr (G l2 0) (G l2 2) fun v8 => AC P w0 n_impl_nibble [v8] s4 fun v9 s10 => B P 3 .geq v9 (.int .i64 0) fun v11 => Q v11 (B P 3 .add (G l2 2) (.int .i64 1) fun v12 => pIndexStr (G l2 0) v12 fun v13 => AC P w0 n_impl_nibble [v13] s10 fun v14 s15 => B P 3 .geq v14 (.int .i64 0) fun v16 => Q v16 (pIndexStr (G l2 0) (G l2 2) fun v17 => B P 3 .add (G l2 2) (.int .i64 1) fun v18 => pIndexStr (G l2 0) v18 fun v19 => AC P w0 n_impl_nibble [v17] s15 fun v20 s21 => B P 3 .mul (.int .i64 16) v20 fun v22 => AC P w0 n_impl_nibble [v19] s21 fun v23 s24 => B P 3 .add v22 v23 fun v25 => pConvInt .u8 v25 fun v26 => V false 1 v26 ((allOne [v26]) ∧ (A w0 5 1 1 (G l2 1) 1 [v26] s24 fun v27 s28 => B P 3 .add (G l2 2) (.int .i64 2) fun v29 => K3 .normal [G l2 0, v27, v29] s28))) (K3 (.exit 0) [G l2 0, G l2 1, G l2 2] s15)) (K3 (.exit 0) [G l2 0, G l2 1, G l2 2] s10)) (K3 (.exit 0) [G l2 0, G l2 1, G l2 2] s4)) [a0, .slice (some (Addr.mk n0 0 none)) 0 0, .int .i64 0] s1 fun x30 l31 s32 => match x30 with | .normal => pStr w0 (G l31 1) s32 (fun v33 => R v33 s32) | .ret => False | .exit i34 => (match Nat.beq i34 0 with | true => pStr w0 (G l31 1) s32 (fun v35 => R v35 s32) | false => False)
theorem vc_impl_unhex_eq (w0 : World) (a0 : Value) (σ : Vw) (R : Value → Vw → Prop) : vc_impl_unhex w0 a0 σ R = den Tryz.prog w0 kp_impl_unhex esc_impl_unhex (Tryz.f67.body.getD .skip) (entry Tryz.f67.ntmps [a0]) σ (retK Tryz.prog Tryz.f67.results.toList R) := by kernel_rfl
theorem ac_impl_unhex {w0 : World} {a0 : Value} {σ : Vw} {R : Value → Vw → Prop} (h : vc_impl_unhex w0 a0 σ R) : AC Tryz.prog w0 n_impl_unhex [a0] σ R := by
  refine ac_rule (fn := Tryz.f67) (c := Tryz.f67.body.getD .skip) kp_impl_unhex esc_impl_unhex Tryz.func67 (by kernel_rfl) (by kernel_rfl) ?_
  rw [← vc_impl_unhex_eq]
  exact h

/-- spec.l3Mode -/
def kp_spec_l3Mode : Nat → Keep
  | _ => ⟨[], [], [], .done, []⟩
def esc_spec_l3Mode : Nat → Bool
  | _ => false
def vc_spec_l3Mode (w0 : World) (a0 : Value) (σ : Vw) (R : Value → Vw → Prop) : Prop :=
  pLenS a0 fun v0 => B P 3 .neq v0 (.int .i64 1) fun v1 => Q v1 (R (.int .i64 (-1)) σ) (pIndexStr a0 (.int .i64 0) fun v2 => B P 5 .lss v2 (.int .u8 48) fun v3 => Q v3 (R (.int .i64 (-1)) σ) (pIndexStr a0 (.int .i64 0) fun v4 => B P 5 .gtr v4 (.int .u8 55) fun v5 => Q v5 (R (.int .i64 (-1)) σ) (pIndexStr a0 (.int .i64 0) fun v6 => B P 5 .sub v6 (.int .u8 48) fun v7 => pConvInt .i64 v7 fun v8 => R v8 σ)))
theorem vc_spec_l3Mode_eq (w0 : World) (a0 : Value) (σ : Vw) (R : Value → Vw → Prop) : vc_spec_l3Mode w0 a0 σ R = den Tryz.prog w0 kp_spec_l3Mode esc_spec_l3Mode (Tryz.f68.body.getD .skip) (entry Tryz.f68.ntmps [a0]) σ (retK Tryz.prog Tryz.f68.results.toList R) := by kernel_rfl
theorem ac_spec_l3Mode {w0 : World} {a0 : Value} {σ : Vw} {R : Value → Vw → Prop} (h : vc_spec_l3Mode w0 a0 σ R) : AC Tryz.prog w0 n_spec_l3Mode [a0] σ R := by
  refine ac_rule (fn := Tryz.f68) (c := Tryz.f68.body.getD .skip) kp_spec_l3Mode esc_spec_l3Mode Tryz.func68 (by kernel_rfl) (by kernel_rfl) ?_
  rw [← vc_spec_l3Mode_eq]
  exact h

/-- spec.l1Bytes -/
def kp_spec_l1Bytes : Nat → Keep
  | 7 => ⟨[0, 2, 3, 4, 5], [], [], .done, []⟩
  | _ => ⟨[], [], [], .done, []⟩
def esc_spec_l1Bytes : Nat → Bool
  | 8 => true
  | _ => false
def vc_spec_l1Bytes (w0 : World) (a0 : Value) (σ : Vw) (R : Value → Vw → Prop) : Prop :=
  W w0 5 [] σ fun n0 s1 => B P 9 .eql a0 (.string ({ data := #[45] })) fun v2 => Q v2 (R (.tuple (⟨[.string ({ data := #[] }), .bool true]⟩)) s1) (pLenS a0 fun v3 => B P 3 .rem v3 (.int .i64 2) fun v4 => B P 3 .eql v4 (.int .i64 1) fun v5 => Q v5 (R (.tuple (⟨[.string ({ data := #[] }), .bool false]⟩)) s1) (B P 9 .eql a0 (.string ({ data := #[] })) fun v6 => Q v6 (R (.tuple (⟨[.string ({ data := #[] }), .bool false]⟩)) s1) (pLoop (fun l7 K8 s9 => pLenS (G l7 0) fun v10 => B P 3 .lss (G l7 4) v10 fun v11 => Q v11 (pIndexStr (G l7 0) (G l7 4) fun v12 => AC P w0 n_spec_l1Digit [v12] s9 fun v13 s14 => B P 3 .add (G l7 4) (.int .i64 1) fun v15 => pIndexStr (G l7 0) v15 fun v16 => AC P w0 n_spec_l1Digit [v16] s14 fun v17 s18 => B P 3 .gtr v13 (.int .i64 15) fun v19 => Q v19 (K8 .ret ([G l7 0, .string ({ data := #[] }), .bool false, G l7 3, G l7 4]) s18) (B P 3 .gtr v17 (.int .i64 15) fun v20 => Q v20 (K8 .ret ([G l7 0, .string ({ data := #[] }), .bool false, G l7 3, G l7 4]) s18) (B P 3 .mul (.int .i64 16) v13 fun v21 => B P 3 .add v21 v17 fun v22 => pConvInt .u8 v22 fun v23 => V false 1 v23 ((allOne [v23]) ∧ (A w0 5 1 1 (G l7 3) 1 [v23] s18 fun v24 s25 => B P 3 .add (G l7 4) (.int .i64 2) fun v26 => K8 .normal [G l7 0, G l7 1, G l7 2, v24, v26] s25))))) (K8 (.exit 0) [G l7 0, G l7 1, G l7 2, G l7 3, G l7 4] s9)) ([a0, .string ({ data := #[] }), .bool false, .slice (some (Addr.mk n0 0 none)) 0 0, .int .i64 0]) s1 fun x27 l28 s29 => match x27 with | .normal => pStr w0 (G l28 3) s29 (fun v30 => R (.tuple (⟨[v30, .bool true]⟩)) s29) | .ret => R (.tuple (⟨[G l28 1, G l28 2]⟩)) s29 | .exit i31 => (match Nat.beq i31 0 with | true => pStr w0 (G l28 3) s29 (fun v32 => R (.tuple (⟨[v32, .bool true]⟩)) s29) | false => False))))
theorem vc_spec_l1Bytes_eq (w0 : World) (a0 : Value) (σ : Vw) (R : Value → Vw → Prop) : vc_spec_l1Bytes w0 a0 σ R = den Tryz.prog w0 kp_spec_l1Bytes esc_spec_l1Bytes (Tryz.f69.body.getD .skip) (entry Tryz.f69.ntmps [a0]) σ (retK Tryz.prog Tryz.f69.results.toList R) := by kernel_rfl
theorem ac_spec_l1Bytes {w0 : World} {a0 : Value} {σ : Vw} {R : Value → Vw → Prop} (h : vc_spec_l1Bytes w0 a0 σ R) : AC Tryz.prog w0 n_spec_l1Bytes [a0] σ R := by
  refine ac_rule (fn := Tryz.f69) (c := Tryz.f69.body.getD .skip) kp_spec_l1Bytes esc_spec_l1Bytes Tryz.func69 (by kernel_rfl) (by kernel_rfl) ?_
  rw [← vc_spec_l1Bytes_eq]
  exact h

/-- impl.namesOk -/
def kp_impl_namesOk : Nat → Keep
  | 2 => ⟨[0, 1, 4, 7, 8, 9], [], [], .done, []⟩
  | _ => ⟨[], [], [], .done, []⟩
def esc_impl_namesOk : Nat → Bool
  | _ => false
def vc_impl_namesOk (w0 : World) (a0 a1 : Value) (σ : Vw) (R : Value → Vw → Prop) : Prop :=
  N a0 fun v0 => pLoop (fun l1 K2 s3 => B P 3 .lss (G l1 5) (G l1 4) fun v4 => Q v4 (X 1 (G l1 3) (G l1 5) fun v5 => L w0 1 v5 s3 fun g6 => AC P w0 n_impl_nameOk [g6 0] s3 fun v7 s8 => pUn .not v7 fun v9 => Q v9 (K2 .ret [G l1 0, G l1 1, .bool false, G l1 3, G l1 4, G l1 5] s8) (B P 3 .add (G l1 5) (.int .i64 1) fun v10 => K2 .normal [G l1 0, G l1 1, G l1 2, G l1 3, G l1 4, v10] s8)) (K2 (.exit 0) [G l1 0, G l1 1, G l1 2, G l1 3, G l1 4, G l1 5] s3)) [a0, a1, .bool false, a0, v0, .int .i64 0] σ fun x11 l12 s13 => match x11 with | .normal => N (G l12 0) (fun v14 => AC P w0 n_impl_within [v14, G l12 1, .int .i64 4] s13 fun v15 s16 => R v15 s16) | .ret => R (G l12 2) s13 | .exit i17 => (match Nat.beq i17 0 with | true => N (G l12 0) (fun v18 => AC P w0 n_impl_within [v18, G l12 1, .int .i64 4] s13 fun v19 s20 => R v19 s20) | false => False)
theorem vc_impl_namesOk_eq (w0 : World) (a0 a1 : Value) (σ : Vw) (R : Value → Vw → Prop) : vc_impl_namesOk w0 a0 a1 σ R = den Tryz.prog w0 kp_impl_namesOk esc_impl_namesOk (Tryz.f70.body.getD .skip) (entry Tryz.f70.ntmps [a0, a1]) σ (retK Tryz.prog Tryz.f70.results.toList R) := by kernel_rfl
theorem ac_impl_namesOk {w0 : World} {a0 a1 : Value} {σ : Vw} {R : Value → Vw → Prop} (h : vc_impl_namesOk w0 a0 a1 σ R) : AC Tryz.prog w0 n_impl_namesOk [a0, a1] σ R := by
  refine ac_rule (fn := Tryz.f70) (c := Tryz.f70.body.getD .skip) kp_impl_namesOk esc_impl_namesOk Tryz.func70 (by kernel_rfl) (by kernel_rfl) ?_
  rw [← vc_impl_namesOk_eq]
  exact h

/-- impl.modeOk -/
def kp_impl_modeOk : Nat → Keep
  | _ => ⟨[], [], [], .done, []⟩
def esc_impl_modeOk : Nat → Bool
  | _ => false
def vc_impl_modeOk (w0 : World) (a0 : Value) (σ : Vw) (R : Value → Vw → Prop) : Prop :=
  AC P w0 n_impl_within [a0, .int .i64 0, .int .i64 7] σ fun v0 s1 => R v0 s1
theorem vc_impl_modeOk_eq (w0 : World) (a0 : Value) (σ : Vw) (R : Value → Vw → Prop) : vc_impl_modeOk w0 a0 σ R = den Tryz.prog w0 kp_impl_modeOk esc_impl_modeOk (Tryz.f71.body.getD .skip) (entry Tryz.f71.ntmps [a0]) σ (retK Tryz.prog Tryz.f71.results.toList R) := by kernel_rfl
theorem ac_impl_modeOk {w0 : World} {a0 : Value} {σ : Vw} {R : Value → Vw → Prop} (h : vc_impl_modeOk w0 a0 σ R) : AC Tryz.prog w0 n_impl_modeOk [a0] σ R := by
  refine ac_rule (fn := Tryz.f71) (c := Tryz.f71.body.getD .skip) kp_impl_modeOk esc_impl_modeOk Tryz.func71 (by kernel_rfl) (by kernel_rfl) ?_
  rw [← vc_impl_modeOk_eq]
  exact h

/-- impl.dataText -/
def kp_impl_dataText : Nat → Keep
  | _ => ⟨[], [], [], .done, []⟩
def esc_impl_dataText : Nat → Bool
  | _ => false
def vc_impl_dataText (w0 : World) (a0 : Value) (σ : Vw) (R : Value → Vw → Prop) : Prop :=
  B P 9 .eql a0 (.string ({ data := #[] })) fun v0 => Q v0 (R (.string ({ data := #[45] })) σ) (AC P w0 n_impl_hexOf [a0] σ fun v1 s2 => R v1 s2)
theorem vc_impl_dataText_eq (w0 : World) (a0 : Value) (σ : Vw) (R : Value → Vw → Prop) : vc_impl_dataText w0 a0 σ R = den Tryz.prog w0 kp_impl_dataText esc_impl_dataText (Tryz.f74.body.getD .skip) (entry Tryz.f74.ntmps [a0]) σ (retK Tryz.prog Tryz.f74.results.toList R) := by kernel_rfl
theorem ac_impl_dataText {w0 : World} {a0 : Value} {σ : Vw} {R : Value → Vw → Prop} (h : vc_impl_dataText w0 a0 σ R) : AC Tryz.prog w0 n_impl_dataText [a0] σ R := by
  refine ac_rule (fn := Tryz.f74) (c := Tryz.f74.body.getD .skip) kp_impl_dataText esc_impl_dataText Tryz.func74 (by kernel_rfl) (by kernel_rfl) ?_
  rw [← vc_impl_dataText_eq]
  exact h

/-- spec.l4Any -/
def kp_spec_l4Any : Nat → Keep
  | _ => ⟨[], [], [], .done, []⟩
def esc_spec_l4Any : Nat → Bool
  | _ => false
def vc_spec_l4Any (w0 : World) (a0 : Value) (σ : Vw) (R : Value → Vw → Prop) : Prop :=
  AC P w0 n_p_spec_l1Rd_pick [a0, .int .i64 24] σ fun v0 s1 => B P 3 .eql v0 (.int .i64 0) fun v2 => Q v2 (AC P w0 n_spec_l4Tree [a0] s1 fun v3 s4 => AC P w0 n_spec_l4Spoil [a0, v3] s4 fun v5 s6 => V true 5 v5 (R (.agg (⟨[C v5 0, C v5 1, C v5 2, C v5 3, C v5 4]⟩)) s6)) (B P 3 .eql v0 (.int .i64 1) fun v7 => Q v7 (AC P w0 n_spec_l4Full [a0] s1 fun v8 s9 => V true 5 v8 (R (.agg (⟨[C v8 0, C v8 1, C v8 2, C v8 3, C v8 4]⟩)) s9)) (AC P w0 n_spec_l4Tree [a0] s1 fun v10 s11 => V true 5 v10 (R (.agg (⟨[C v10 0, C v10 1, C v10 2, C v10 3, C v10 4]⟩)) s11)))
theorem vc_spec_l4Any_eq (w0 : World) (a0 : Value) (σ : Vw) (R : Value → Vw → Prop) : vc_spec_l4Any w0 a0 σ R = den Tryz.prog w0 kp_spec_l4Any esc_spec_l4Any (Tryz.f75.body.getD .skip) (entry Tryz.f75.ntmps [a0]) σ (retK Tryz.prog Tryz.f75.results.toList R) := by kernel_rfl
theorem ac_spec_l4Any {w0 : World} {a0 : Value} {σ : Vw} {R : Value → Vw → Prop} (h : vc_spec_l4Any w0 a0 σ R) : AC Tryz.prog w0 n_spec_l4Any [a0] σ R := by
  refine ac_rule (fn := Tryz.f75) (c := Tryz.f75.body.getD .skip) kp_spec_l4Any esc_spec_l4Any Tryz.func75 (by kernel_rfl) (by kernel_rfl) ?_
  rw [← vc_spec_l4Any_eq]
  exact h

/-- spec.l4SpoilEntries -/
def kp_spec_l4SpoilEntries : Nat → Keep
  | 6 => ⟨[], [], [], .step 1 (.step 2 (.step 3 (.step 5 (.step 6 (.step 7 (.step 8 (.step 14 (.step 15 (.step 16 (.step 0 (.step 4 (.step 9 (.step 10 (.step 11 (.step 12 (.step 13 (.step 17 (.step 18 (.done))))))))))))))))))), [(3, [1, 2]), (4, [0, 1, 2, 3]), (8, [7]), (9, [0, 1, 2, 3, 4, 6, 7, 8]), (10, [0, 1, 2, 3, 4, 5, 6, 7, 8, 9]), (11, [0, 1, 2, 3, 4, 5, 6, 7, 8, 9, 10]), (12, [0, 1, 2, 3, 4, 5, 6, 7, 8, 9, 10, 11]), (13, [0, 1, 2, 3, 4, 5, 6, 7, 8, 9, 10, 11, 12]), (16, [14, 15]), (17, [0, 1, 2, 3, 4, 5, 6, 7, 8, 9, 10, 11, 12, 13, 14, 15, 16]), (18, [0, 1, 2, 3, 4, 5, 6, 7, 8, 9, 10, 11, 12, 13, 14, 15, 16, 17])]⟩
  | 14 => ⟨[], [], [], .step 0 (.step 1 (.step 2 (.step 3 (.step 4 (.step 5 (.step 6 (.step 7 (.step 8 (.step 9 (.step 10 (.step 11 (.step 12 (.step 13 (.step 14 (.step 15 (.done)))))))))))))))), [(4, [2, 3]), (5, [2, 3, 4]), (6, [2, 3, 4, 5]), (8, [7]), (9, [7, 8]), (10, [7, 8, 9]), (11, [7, 8, 9, 10]), (12, [2, 3, 4, 5, 6, 7, 8, 9, 10, 11]), (13, [0, 1, 2, 3, 4, 5, 6, 7, 8, 9, 10, 11, 12]), (14, [0, 1, 2, 3, 4, 5, 6, 7, 8, 9, 10, 11, 12, 13]), (15, [0, 1, 2, 3, 4, 5, 6, 7, 8, 9, 10, 11, 12, 13, 14])]⟩
  | 20 => ⟨[], [], [], .step 1 (.step 2 (.step 3 (.step 5 (.step 6 (.step 7 (.step 8 (.step 0 (.step 4 (.step 9 (.step 10 (.done))))))))))), [(3, [1, 2]), (4, [0, 1, 2, 3]), (7, [6]), (8, [5, 6, 7]), (9, [0, 1, 2, 3, 4, 5, 6, 7, 8]), (10, [0, 1, 2, 3, 4, 5, 6, 7, 8, 9])]⟩
  | _ => ⟨[], [], [], .done, []⟩
def esc_spec_l4SpoilEntries : Nat → Bool
  | 7 => true
  | 16 => true
  | 18 => true
  | 20 => true
  | 27 => true
  | 69 => true
  | 98 => true
  | 100 => true
  | 107 => true
  | 112 => true
  | _ => false
def vc_spec_l4SpoilEntries (w0 : World) (a0 a1 : Value) (σ : Vw) (R : Value → Vw → Prop) : Prop :=
  W w0 55 [] σ fun n0 s1 => pAppendS w0 55 5 64 (.slice (some (Addr.mk n0 0 none)) 0 0) a1 s1 fun v2 s3 => N v2 fun v4 => B P 3 .eql v4 (.int .i64 0) fun v5 => Q v5 (AC P w0 n_p_spec_l1Rd_pick [a0, .int .i64 6] s3 fun v6 s7 => V false 1 (.string ({ data := #[97] })) (V false 1 (.string ({ data := #[122, 122] })) (V false 1 (.string ({ data := #[] })) (W w0 9 ([.string ({ data := #[97] }), .string ({ data := #[122, 122] }), .string ({ data := #[] })]) s7 fun n8 s9 => AC P w0 n_p_spec_l1Rd_of [a0, .slice (some (Addr.mk n8 0 none)) 3 3] s9 fun v10 s11 => V false 1 v10 (W w0 9 [v10] s11 fun n12 s13 => V false 1 v6 (V false 1 (.slice (some (Addr.mk n12 0 none)) 1 1) (V true 5 (.agg (⟨[.slice (some (Addr.mk n12 0 none)) 1 1, v6, .bool false, .int .i64 0, .string ({ data := #[] })]⟩)) (W w0 55 ([.slice (some (Addr.mk n12 0 none)) 1 1, v6, .bool false, .int .i64 0, .string ({ data := #[] })]) s13 fun n14 s15 => R (.slice (some (Addr.mk n14 0 none)) 1 1) s15)))))))) (N v2 fun v16 => AC P w0 n_p_spec_l1Rd_pick [a0, v16] s3 fun v17 s18 => AC P w0 n_p_spec_l1Rd_pick [a0, .int .i64 8] s18 fun v19 s20 => B P 3 .eql v19 (.int .i64 0) fun v21 => Q v21 (AC P w0 n_p_spec_l1Rd_pick [a0, .int .i64 6] s20 fun v22 s23 => X 5 v2 v17 fun v24 => F 1 v24 fun v25 => V false 1 v22 (pStore v25 [v22] s23 fun s26 => R v2 s26)) (B P 3 .eql v19 (.int .i64 1) fun v27 => Q v27 (X 5 v2 v17 fun v28 => F 2 v28 fun v29 => L w0 1 v29 s20 fun g30 => pUn .not (g30 0) fun v31 => X 5 v2 v17 fun v32 => F 2 v32 fun v33 => V false 1 v31 (pStore v33 [v31] s20 fun s34 => R v2 s34)) (B P 3 .eql v19 (.int .i64 2) fun v35 => Q v35 (V false 1 (.int .i64 (-1)) (V false 1 (.int .i64 0) (V false 1 (.int .i64 8) (V false 1 (.int .i64 3) (W w0 3 [.int .i64 (-1), .int .i64 0, .int .i64 8, .int .i64 3] s20 fun n36 s37 => AC P w0 n_p_spec_l1Rd_pick [a0, .int .i64 4] s37 fun v38 s39 => X 1 (.slice (some (Addr.mk n36 0 none)) 4 4) v38 fun v40 => L w0 1 v40 s39 fun g41 => X 5 v2 v17 fun v42 => F 3 v42 fun v43 => V false 1 (g41 0) (pStore v43 [g41 0] s39 fun s44 => R v2 s44)))))) (B P 3 .eql v19 (.int .i64 3) fun v45 => Q v45 (X 5 v2 v17 fun v46 => F 4 v46 fun v47 => L w0 1 v47 s20 fun g48 => AC P w0 n_p_spec_l1Rd_pick [a0, .int .i64 2] s20 fun v49 s50 => (Stay w0 s20 s50 v47 1) ∧ (B P 3 .mul (.int .i64 24) v49 fun v51 => B P 3 .add v51 (.int .i64 1) fun v52 => AC P w0 n_spec_l1Many ([.string ({ data := #[120] }), v52]) s50 fun v53 s54 => (Stay w0 s50 s54 v47 1) ∧ (B P 9 .add (g48 0) v53 fun v55 => X 5 v2 v17 fun v56 => F 4 v56 fun v57 => V false 1 v55 (pStore v57 [v55] s54 fun s58 => R v2 s58)))) (B P 3 .eql v19 (.int .i64 4) fun v59 => Q v59 (V false 1 (.string ({ data := #[97] })) (V false 1 (.string ({ data := #[122, 122] })) (V false 1 (.string ({ data := #[65] })) (V false 1 (.string ({ data := #[] })) (W w0 9 ([.string ({ data := #[97] }), .string ({ data := #[122, 122] }), .string ({ data := #[65] }), .string ({ data := #[] })]) s20 fun n60 s61 => AC P w0 n_p_spec_l1Rd_of [a0, .slice (some (Addr.mk n60 0 none)) 4 4] s61 fun v62 s63 => V false 1 v62 (W w0 9 [v62] s63 fun n64 s65 => X 5 v2 v17 fun v66 => F 0 v66 fun v67 => V false 1 (.slice (some (Addr.mk n64 0 none)) 1 1) (pStore v67 [.slice (some (Addr.mk n64 0 none)) 1 1] s65 fun s68 => R v2 s68))))))) (B P 3 .eql v19 (.int .i64 5) fun v69 => Q v69 (W w0 9 [] s20 fun n70 s71 => X 5 v2 v17 fun v72 => F 0 v72 fun v73 => V false 1 (.slice (some (Addr.mk n70 0 none)) 0 0) (pStore v73 [.slice (some (Addr.mk n70 0 none)) 0 0] s71 fun s74 => R v2 s74)) (B P 3 .eql v19 (.int .i64 6) fun v75 => Q v75 (pSlice 5 v2 none (some v17) fun v76 => B P 3 .add v17 (.int .i64 1) fun v77 => pSlice 5 v2 (some v77) none fun v78 => W w0 55 [] s20 fun n79 s80 => pAppendS w0 55 5 64 (.slice (some (Addr.mk n79 0 none)) 0 0) v76 s80 fun v81 s82 => pAppendS w0 55 5 64 v81 v78 s82 fun v83 s84 => R v83 s84) (pSlice 5 v2 none (some v17) fun v85 => N v2 fun v86 => pSlice 5 v2 (some v17) none fun v87 => W w0 55 [] s20 fun n88 s89 => pAppendS w0 55 5 64 (.slice (some (Addr.mk n88 0 none)) 0 0) v85 s89 fun v90 s91 => AC P w0 n_p_spec_l1Rd_pick [a0, v86] s91 fun v92 s93 => X 5 v2 v92 fun v94 => L w0 5 v94 s93 fun g95 => V true 5 (.agg (⟨[g95 0, g95 1, g95 2, g95 3, g95 4]⟩)) ((allOne [g95 0, g95 1, g95 2, g95 3, g95 4]) ∧ (A w0 55 5 64 v90 1 [g95 0, g95 1, g95 2, g95 3, g95 4] s93 fun v96 s97 => pAppendS w0 55 5 64 v96 v87 s97 fun v98 s99 => R v98 s99))))))))))
theorem vc_spec_l4SpoilEntries_eq (w0 : World) (a0 a1 : Value) (σ : Vw) (R : Value → Vw → Prop) : vc_spec_l4SpoilEntries w0 a0 a1 σ R = den Tryz.prog w0 kp_spec_l4SpoilEntries esc_spec_l4SpoilEntries (Tryz.f76.body.getD .skip) (entry Tryz.f76.ntmps [a0, a1]) σ (retK Tryz.prog Tryz.f76.results.toList R) := by kernel_rfl
theorem ac_spec_l4SpoilEntries {w0 : World} {a0 a1 : Value} {σ : Vw} {R : Value → Vw → Prop} (h : vc_spec_l4SpoilEntries w0 a0 a1 σ R) : AC Tryz.prog w0 n_spec_l4SpoilEntries [a0, a1] σ R := by
  refine ac_rule (fn := Tryz.f76) (c := Tryz.f76.body.getD .skip) kp_spec_l4SpoilEntries esc_spec_l4SpoilEntries Tryz.func76 (by kernel_rfl) (by kernel_rfl) ?_
  rw [← vc_spec_l4SpoilEntries_eq]
  exact h

/-- spec.l2PathOk -/
def kp_spec_l2PathOk : Nat → Keep
  | 2 => ⟨[0, 2, 3], [], [], .done, []⟩
  | _ => ⟨[], [], [], .done, []⟩
def esc_spec_l2PathOk : Nat → Bool
  | _ => false
def vc_spec_l2PathOk (w0 : World) (a0 : Value) (σ : Vw) (R : Value → Vw → Prop) : Prop :=
  pLoop (fun l0 K1 s2 => N (G l0 0) fun v3 => B P 3 .lss (G l0 2) v3 fun v4 => Q v4 (X 1 (G l0 0) (G l0 2) fun v5 => L w0 1 v5 s2 fun g6 => AC P w0 n_spec_l1NameOk [g6 0] s2 fun v7 s8 => pUn .not v7 fun v9 => Q v9 (K1 .ret [G l0 0, .bool false, G l0 2] s8) (B P 3 .add (G l0 2) (.int .i64 1) fun v10 => K1 .normal [G l0 0, G l0 1, v10] s8)) (K1 (.exit 0) [G l0 0, G l0 1, G l0 2] s2)) [a0, .bool false, .int .i64 0] σ fun x11 l12 s13 => match x11 with | .normal => N (G l12 0) (fun v14 => AC P w0 n_spec_l1In [v14, .int .i64 1, .int .i64 4] s13 fun v15 s16 => R v15 s16) | .ret => R (G l12 1) s13 | .exit i17 => (match Nat.beq i17 0 with | true => N (G l12 0) (fun v18 => AC P w0 n_spec_l1In [v18, .int .i64 1, .int .i64 4] s13 fun v19 s20 => R v19 s20) | false => False)
theorem vc_spec_l2PathOk_eq (w0 : World) (a0 : Value) (σ : Vw) (R : Value → Vw → Prop) : vc_spec_l2PathOk w0 a0 σ R = den Tryz.prog w0 kp_spec_l2PathOk esc_spec_l2PathOk (Tryz.f77.body.getD .skip) (entry Tryz.f77.ntmps [a0]) σ (retK Tryz.prog Tryz.f77.results.toList R) := by kernel_rfl
theorem ac_spec_l2PathOk {w0 : World} {a0 : Value} {σ : Vw} {R : Value → Vw → Prop} (h : vc_spec_l2PathOk w0 a0 σ R) : AC Tryz.prog w0 n_spec_l2PathOk [a0] σ R := by
  refine ac_rule (fn := Tryz.f77) (c := Tryz.f77.body.getD .skip) kp_spec_l2PathOk esc_spec_l2PathOk Tryz.func77 (by kernel_rfl) (by kernel_rfl) ?_
  rw [← vc_spec_l2PathOk_eq]
  exact h

/-- spec.l1In -/
def kp_spec_l1In : Nat → Keep
  | _ => ⟨[], [], [], .done, []⟩
def esc_spec_l1In : Nat → Bool
  | _ => false
def vc_spec_l1In (w0 : World) (a0 a1 a2 : Value) (σ : Vw) (R : Value → Vw → Prop) : Prop :=
  B P 3 .geq a0 a1 fun v0 => Q v0 (B P 3 .leq a0 a2 fun v1 => R v1 σ) (R (.bool false) σ)
theorem vc_spec_l1In_eq (w0 : World) (a0 a1 a2 : Value) (σ : Vw) (R : Value → Vw → Prop) : vc_spec_l1In w0 a0 a1 a2 σ R = den Tryz.prog w0 kp_spec_l1In esc_spec_l1In (Tryz.f78.body.getD .skip) (entry Tryz.f78.ntmps [a0, a1, a2]) σ (retK Tryz.prog Tryz.f78.results.toList R) := by kernel_rfl
theorem ac_spec_l1In {w0 : World} {a0 a1 a2 : Value} {σ : Vw} {R : Value → Vw → Prop} (h : vc_spec_l1In w0 a0 a1 a2 σ R) : AC Tryz.prog w0 n_spec_l1In [a0, a1, a2] σ R := by
  refine ac_rule (fn := Tryz.f78) (c := Tryz.f78.body.getD .skip) kp_spec_l1In esc_spec_l1In Tryz.func78 (by kernel_rfl) (by kernel_rfl) ?_
  rw [← vc_spec_l1In_eq]
  exact h

/-- spec.l3Name -/
def kp_spec_l3Name : Nat → Keep
  | 3 => ⟨[0, 3, 4], [], [], .done, []⟩
  | _ => ⟨[], [], [], .done, []⟩
def esc_spec_l3Name : Nat → Bool
  | _ => false
def vc_spec_l3Name (w0 : World) (a0 : Value) (σ : Vw) (R : Value → Vw → Prop) : Prop :=
  pLoop (fun l0 K1 s2 => N (G l0 0) fun v3 => B P 3 .lss (G l0 2) v3 fun v4 => Q v4 (B P 9 .add (G l0 1) (.string ({ data := #[47] })) fun v5 => X 1 (G l0 0) (G l0 2) fun v6 => L w0 1 v6 s2 fun g7 => B P 9 .add v5 (g7 0) fun v8 => B P 3 .add (G l0 2) (.int .i64 1) fun v9 => K1 .normal [G l0 0, v8, v9] s2) (K1 (.exit 0) [G l0 0, G l0 1, G l0 2] s2)) ([a0, .string ({ data := #[] }), .int .i64 0]) σ fun x10 l11 s12 => match x10 with | .normal => B P 9 .eql (G l11 1) (.string ({ data := #[] })) (fun v13 => Q v13 (R (.string ({ data := #[47] })) s12) (R (G l11 1) s12)) | .ret => False | .exit i14 => (match Nat.beq i14 0 with | true => B P 9 .eql (G l11 1) (.string ({ data := #[] })) (fun v15 => Q v15 (R (.string ({ data := #[47] })) s12) (R (G l11 1) s12)) | false => False)
theorem vc_spec_l3Name_eq (w0 : World) (a0 : Value) (σ : Vw) (R : Value → Vw → Prop) : vc_spec_l3Name w0 a0 σ R = den Tryz.prog w0 kp_spec_l3Name esc_spec_l3Name (Tryz.f79.body.getD .skip) (entry Tryz.f79.ntmps [a0]) σ (retK Tryz.prog Tryz.f79.results.toList R) := by kernel_rfl
theorem ac_spec_l3Name {w0 : World} {a0 : Value} {σ : Vw} {R : Value → Vw → Prop} (h : vc_spec_l3Name w0 a0 σ R) : AC Tryz.prog w0 n_spec_l3Name [a0] σ R := by
  refine ac_rule (fn := Tryz.f79) (c := Tryz.f79.body.getD .skip) kp_spec_l3Name esc_spec_l3Name Tryz.func79 (by kernel_rfl) (by kernel_rfl) ?_
  rw [← vc_spec_l3Name_eq]
  exact h

/-- spec.l1Dec -/
def kp_spec_l1Dec : Nat → Keep
  | 7 => ⟨[], [], [], .step 0 (.step 1 (.step 3 (.step 4 (.step 5 (.step 6 (.both (.step 2 (.step 7 (.step 8 (.step 9 (.step 10 (.done)))))) (.step 7 (.step 8 (.step 2 (.step 9 (.step 10 (.done)))))))))))), [(1, [0]), (2, [0, 1]), (4, [3]), (5, [3, 4]), (6, [3, 4, 5]), (7, [3, 4, 5, 6]), (8, [3, 4, 5, 6, 7]), (9, [0, 1, 2, 3, 4, 5, 6, 7, 8]), (10, [0, 1, 2, 3, 4, 5, 6, 7, 8, 9])]⟩
  | _ => ⟨[], [], [], .done, []⟩
def esc_spec_l1Dec : Nat → Bool
  | 16 => true
  | 25 => true
  | _ => false
def vc_spec_l1Dec (w0 : World) (a0 : Value) (σ : Vw) (R : Value → Vw → Prop) : Prop :=
  B P 3 .lss a0 (.int .i64 (-9223372036854775807)) fun v0 => Q v0 (R (.string ({ data := #[45, 57, 50, 50, 51, 51, 55, 50, 48, 51, 54, 56, 53, 52, 55, 55, 53, 56, 48, 56] })) σ) (B P 3 .lss a0 (.int .i64 0) fun v1 => Q v1 (pUn .neg a0 fun v2 => AC P w0 n_spec_l1Dec [v2] σ fun v3 s4 => B P 9 .add (.string ({ data := #[45] })) v3 fun v5 => R v5 s4) (B P 3 .lss a0 (.int .i64 10) fun v6 => Q v6 (B P 3 .add (.int .i64 48) a0 fun v7 => pConvInt .u8 v7 fun v8 => V false 1 v8 (W w0 5 [v8] σ fun n9 s10 => pStr w0 (.slice (some (Addr.mk n9 0 none)) 1 1) s10 fun v11 => R v11 s10)) (B P 3 .quo a0 (.int .i64 10) fun v12 => B P 3 .rem a0 (.int .i64 10) fun v13 => B P 3 .add (.int .i64 48) v13 fun v14 => pConvInt .u8 v14 fun v15 => (AC P w0 n_spec_l1Dec [v12] σ fun v16 s17 => V false 1 v15 (W w0 5 [v15] s17 fun n18 s19 => pStr w0 (.slice (some (Addr.mk n18 0 none)) 1 1) s19 fun v20 => B P 9 .add v16 v20 fun v21 => R v21 s19)) ∧ (V false 1 v15 (W w0 5 [v15] σ fun n22 s23 => pStr w0 (.slice (some (Addr.mk n22 0 none)) 1 1) s23 fun v24 => AC P w0 n_spec_l1Dec [v12] s23 fun v25 s26 => (Ext s23 s26) ∧ (B P 9 .add v25 v24 fun v27 => R v27 s26))))))
theorem vc_spec_l1Dec_eq (w0 : World) (a0 : Value) (σ : Vw) (R : Value → Vw → Prop) : vc_spec_l1Dec w0 a0 σ R = den Tryz.prog w0 kp_spec_l1Dec esc_spec_l1Dec (Tryz.f80.body.getD .skip) (entry Tryz.f80.ntmps [a0]) σ (retK Tryz.prog Tryz.f80.results.toList R) := by kernel_rfl
theorem ac_spec_l1Dec {w0 : World} {a0 : Value} {σ : Vw} {R : Value → Vw → Prop} (h : vc_spec_l1Dec w0 a0 σ R) : AC Tryz.prog w0 n_spec_l1Dec [a0] σ R := by
  refine ac_rule (fn := Tryz.f80) (c := Tryz.f80.body.getD .skip) kp_spec_l1Dec esc_spec_l1Dec Tryz.func80 (by kernel_rfl) (by kernel_rfl) ?_
  rw [← vc_spec_l1Dec_eq]
  exact h

/-- spec.l1Hex -/
def kp_spec_l1Hex : Nat → Keep
  | 3 => ⟨[0, 3, 4], [], [], .done, []⟩
  | 5 => ⟨[], [], [], .step 0 (.step 1 (.step 2 (.step 3 (.step 4 (.step 5 (.step 6 (.step 7 (.step 8 (.step 9 (.step 10 (.step 11 (.step 12 (.step 13 (.step 14 (.step 15 (.step 16 (.step 17 (.step 18 (.step 19 (.step 20 (.step 21 (.step 22 (.step 23 (.done)))))))))))))))))))))))), [(3, [1, 2]), (4, [1, 2, 3]), (7, [5, 6]), (8, [5, 6, 7]), (9, [5, 6, 7, 8]), (10, [1, 2, 3, 4, 5, 6, 7, 8, 9]), (11, [0, 1, 2, 3, 4, 5, 6, 7, 8, 9, 10]), (14, [12, 13]), (15, [12, 13, 14]), (18, [16, 17]), (19, [16, 17, 18]), (20, [16, 17, 18, 19]), (21, [12, 13, 14, 15, 16, 17, 18, 19, 20]), (22, [0, 1, 2, 3, 4, 5, 6, 7, 8, 9, 10, 11, 12, 13, 14, 15, 16, 17, 18, 19, 20, 21]), (23, [0, 1, 2, 3, 4, 5, 6, 7, 8, 9, 10, 11, 12, 13, 14, 15, 16, 17, 18, 19, 20, 21, 22])]⟩
  | _ => ⟨[], [], [], .done, []⟩
def esc_spec_l1Hex : Nat → Bool
  | _ => false
def vc_spec_l1Hex (w0 : World) (a0 : Value) (σ : Vw) (R : Value → Vw → Prop) : Prop :=
  pLoop (fun l0 K1 s2 => pLenS (G l0 0) fun v3 => B P 3 .lss (G l0 2) v3 fun v4 => Q v4 (pIndexStr (G l0 0) (G l0 2) fun v5 => B P 5 .quo v5 (.int .u8 16) fun v6 => pIndexStr (G l0 0) (G l0 2) fun v7 => B P 5 .quo v7 (.int .u8 16) fun v8 => B P 5 .add v8 (.int .u8 1) fun v9 => pSliceStr (.string ({ data := #[48, 49, 50, 51, 52, 53, 54, 55, 56, 57, 97, 98, 99, 100, 101, 102] })) (some v6) (some v9) fun v10 => B P 9 .add (G l0 1) v10 fun v11 => pIndexStr (G l0 0) (G l0 2) fun v12 => B P 5 .rem v12 (.int .u8 16) fun v13 => pIndexStr (G l0 0) (G l0 2) fun v14 => B P 5 .rem v14 (.int .u8 16) fun v15 => B P 5 .add v15 (.int .u8 1) fun v16 => pSliceStr (.string ({ data := #[48, 49, 50, 51, 52, 53, 54, 55, 56, 57, 97, 98, 99, 100, 101, 102] })) (some v13) (some v16) fun v17 => B P 9 .add v11 v17 fun v18 => B P 3 .add (G l0 2) (.int .i64 1) fun v19 => K1 .normal [G l0 0, v18, v19] s2) (K1 (.exit 0) [G l0 0, G l0 1, G l0 2] s2)) ([a0, .string ({ data := #[] }), .int .i64 0]) σ fun x20 l21 s22 => match x20 with | .normal => B P 9 .eql (G l21 1) (.string ({ data := #[] })) (fun v23 => Q v23 (R (.string ({ data := #[45] })) s22) (R (G l21 1) s22)) | .ret => False | .exit i24 => (match Nat.beq i24 0 with | true => B P 9 .eql (G l21 1) (.string ({ data := #[] })) (fun v25 => Q v25 (R (.string ({ data := #[45] })) s22) (R (G l21 1) s22)) | false => False)
theorem vc_spec_l1Hex_eq (w0 : World) (a0 : Value) (σ : Vw) (R : Value → Vw → Prop) : vc_spec_l1Hex w0 a0 σ R = den Tryz.prog w0 kp_spec_l1Hex esc_spec_l1Hex (Tryz.f81.body.getD .skip) (entry Tryz.f81.ntmps [a0]) σ (retK Tryz.prog Tryz.f81.results.toList R) := by kernel_rfl
theorem ac_spec_l1Hex {w0 : World} {a0 : Value} {σ : Vw} {R : Value → Vw → Prop} (h : vc_spec_l1Hex w0 a0 σ R) : AC Tryz.prog w0 n_spec_l1Hex [a0] σ R := by
  refine ac_rule (fn := Tryz.f81) (c := Tryz.f81.body.getD .skip) kp_spec_l1Hex esc_spec_l1Hex Tryz.func81 (by kernel_rfl) (by kernel_rfl) ?_
  rw [← vc_spec_l1Hex_eq]
  exact h

/-- spec.l4Spoil -/
def kp_spec_l4Spoil : Nat → Keep
  | 4 => ⟨[], [], [], .step 0 (.step 1 (.step 2 (.step 3 (.step 4 (.step 5 (.step 6 (.step 7 (.step 8 (.step 9 (.step 10 (.step 11 (.done)))))))))))), [(1, [0]), (5, [4]), (7, [4, 5, 6]), (8, [4, 5, 6, 7]), (9, [3, 4, 5, 6, 7, 8]), (10, [0, 1, 2, 3, 4, 5, 6, 7, 8, 9]), (11, [0, 1, 2, 3, 4, 5, 6, 7, 8, 9, 10])]⟩
  | 8 => ⟨[8], [(4, 5), (5, 5)], [4, 5], .done, []⟩
  | 10 => ⟨[], [], [], .step 0 (.step 1 (.step 2 (.step 3 (.step 4 (.step 5 (.step 6 (.step 7 (.step 8 (.step 9 (.done)))))))))), [(1, [0]), (3, [2]), (4, [2, 3]), (5, [2, 3, 4]), (6, [2, 3, 4, 5]), (7, [0, 1, 2, 3, 4, 5, 6]), (8, [0, 1, 2, 3, 4, 5, 6, 7]), (9, [0, 1, 2, 3, 4, 5, 6, 7, 8])]⟩
  | 19 => ⟨[], [], [], .step 0 (.step 1 (.step 2 (.step 3 (.step 4 (.step 5 (.step 6 (.step 7 (.step 8 (.done))))))))), [(1, [0]), (4, [2, 3]), (5, [2, 3, 4]), (6, [0, 1, 2, 3, 4, 5]), (7, [0, 1, 2, 3, 4, 5, 6]), (8, [0, 1, 2, 3, 4, 5, 6, 7])]⟩
  | 27 => ⟨[0, 7], [(4, 5), (5, 5)], [4, 5], .done, []⟩
  | _ => ⟨[], [], [], .done, []⟩
def esc_spec_l4Spoil : Nat → Bool
  | 60 => true
  | 83 => true
  | 117 => true
  | 119 => true
  | _ => false
def cs_spec_l4Spoil_1 (w0 : World) (v900 : Value) (s901 : Vw) (v902 : Value) (R : Value → Vw → Prop) : Prop :=
  AC P w0 n_p_spec_l1Rd_pick [v900, .int .i64 8] s901 (fun v500 s501 => B P 3 .eql v500 (.int .i64 0) fun v502 => Q v502 (V false 1 (.int .i64 (-1)) (V false 1 (.int .i64 7) (V false 1 (.int .i64 8) (W w0 3 [.int .i64 (-1), .int .i64 7, .int .i64 8] s501 fun n503 s504 => AC P w0 n_p_spec_l1Rd_pick [v900, .int .i64 3] s504 fun v505 s506 => X 1 (.slice (some (Addr.mk n503 0 none)) 3 3) v505 fun v507 => L w0 1 v507 s506 fun g508 => V false 1 (g508 0) (V true 5 (.agg (⟨[C v902 0, g508 0, C v902 2, C v902 3, C v902 4]⟩)) (R (.agg (⟨[C v902 0, g508 0, C v902 2, C v902 3, C v902 4]⟩)) s506)))))) (B P 3 .eql v500 (.int .i64 1) fun v509 => Q v509 (pUn .not (C v902 0) fun v510 => V false 1 v510 (V true 5 (.agg (⟨[v510, C v902 1, C v902 2, C v902 3, C v902 4]⟩)) (R (.agg (⟨[v510, C v902 1, C v902 2, C v902 3, C v902 4]⟩)) s501))) (B P 3 .eql v500 (.int .i64 2) fun v511 => Q v511 (B P 9 .add (C v902 2) (.string ({ data := #[120] })) fun v512 => V false 1 v512 (V true 5 (.agg (⟨[C v902 0, C v902 1, v512, C v902 3, C v902 4]⟩)) (R (.agg (⟨[C v902 0, C v902 1, v512, C v902 3, C v902 4]⟩)) s501))) (B P 3 .eql v500 (.int .i64 3) fun v513 => Q v513 (V false 1 (.string ({ data := #[122, 122] })) (V false 1 (.string ({ data := #[] })) (V false 1 (.string ({ data := #[97] })) (V false 1 (.string ({ data := #[90] })) (V false 1 (.string ({ data := #[116, 111, 111, 108, 111, 110, 103] })) (W w0 9 ([.string ({ data := #[122, 122] }), .string ({ data := #[] }), .string ({ data := #[97] }), .string ({ data := #[90] }), .string ({ data := #[116, 111, 111, 108, 111, 110, 103] })]) s501 fun n514 s515 => AC P w0 n_p_spec_l1Rd_of [v900, .slice (some (Addr.mk n514 0 none)) 5 5] s515 fun v516 s517 => V false 1 v516 ((allOne [v516]) ∧ (A w0 9 1 16 (C v902 3) 1 [v516] s517 fun v518 s519 => V false 1 v518 (V true 5 (.agg (⟨[.bool false, .int .i64 0, .string ({ data := #[] }), .slice none 0 0, .slice none 0 0]⟩)) ((allOne ([.bool false, .int .i64 0, .string ({ data := #[] }), .slice none 0 0, .slice none 0 0])) ∧ (A w0 34 5 80 (C v902 4) 1 ([.bool false, .int .i64 0, .string ({ data := #[] }), .slice none 0 0, .slice none 0 0]) s519 fun v520 s521 => V false 1 v520 (V true 5 (.agg (⟨[C v902 0, C v902 1, C v902 2, v518, v520]⟩)) (R (.agg (⟨[C v902 0, C v902 1, C v902 2, v518, v520]⟩)) s521))))))))))))) (B P 3 .eql v500 (.int .i64 4) fun v522 => Q v522 (V false 1 (.string ({ data := #[122, 122, 122] })) ((allOne ([.string ({ data := #[122, 122, 122] })])) ∧ (A w0 9 1 16 (C v902 3) 1 ([.string ({ data := #[122, 122, 122] })]) s501 fun v523 s524 => V false 1 v523 (V true 5 (.agg (⟨[C v902 0, C v902 1, C v902 2, v523, C v902 4]⟩)) (R (.agg (⟨[C v902 0, C v902 1, C v902 2, v523, C v902 4]⟩)) s524))))) (B P 3 .eql v500 (.int .i64 5) fun v525 => Q v525 (AC P w0 n_p_spec_l1Rd_pick [v900, .int .i64 2] s501 fun v526 s527 => B P 3 .add (.int .i64 24) v526 fun v528 => AC P w0 n_spec_l1Many ([.string ({ data := #[100] }), v528]) s527 fun v529 s530 => V false 1 v529 (V true 5 (.agg (⟨[C v902 0, C v902 1, v529, C v902 3, C v902 4]⟩)) (R (.agg (⟨[C v902 0, C v902 1, v529, C v902 3, C v902 4]⟩)) s530))) (B P 3 .eql v500 (.int .i64 6) fun v531 => Q v531 (pLoop (fun l532 K533 s534 => AC P w0 n_p_spec_l1Rd_pick [G l532 0, .int .i64 2] s534 fun v535 s536 => B P 3 .add (.int .i64 4) v535 fun v537 => B P 3 .lss (G l532 1) v537 fun v538 => Q v538 (V false 1 (.string ({ data := #[110] })) (W w0 9 ([.string ({ data := #[110] })]) s536 fun n539 s540 => V true 5 (.agg (⟨[G l532 7, G l532 8, G l532 9, G l532 10, G l532 11]⟩)) (W w0 34 [G l532 7, G l532 8, G l532 9, G l532 10, G l532 11] s540 fun n541 s542 => V false 1 (.bool true) (V false 1 (.slice (some (Addr.mk n539 0 none)) 1 1) (V false 1 (.slice (some (Addr.mk n541 0 none)) 1 1) (V true 5 (.agg (⟨[.bool true, .int .i64 0, .string ({ data := #[] }), .slice (some (Addr.mk n539 0 none)) 1 1, .slice (some (Addr.mk n541 0 none)) 1 1]⟩)) (B P 3 .add (G l532 1) (.int .i64 1) fun v543 => K533 .normal ([G l532 0, v543, G l532 2, G l532 3, G l532 4, G l532 5, G l532 6, .bool true, .int .i64 0, .string ({ data := #[] }), .slice (some (Addr.mk n539 0 none)) 1 1, .slice (some (Addr.mk n541 0 none)) 1 1]) s542))))))) (K533 (.exit 3) [G l532 0, G l532 1, G l532 2, G l532 3, G l532 4, G l532 5, G l532 6, G l532 7, G l532 8, G l532 9, G l532 10, G l532 11] s536)) ([v900, .int .i64 0, .bool false, .int .i64 0, .string ({ data := #[] }), .slice none 0 0, .slice none 0 0, C v902 0, C v902 1, C v902 2, C v902 3, C v902 4]) s501 fun x544 l545 s546 => match x544 with | .normal => V true 5 (.agg (⟨[G l545 7, G l545 8, G l545 9, G l545 10, G l545 11]⟩)) (R (.agg (⟨[G l545 7, G l545 8, G l545 9, G l545 10, G l545 11]⟩)) s546) | .ret => R (.agg (⟨[G l545 2, G l545 3, G l545 4, G l545 5, G l545 6]⟩)) s546 | .exit i547 => (match Nat.beq i547 3 with | true => V true 5 (.agg (⟨[G l545 7, G l545 8, G l545 9, G l545 10, G l545 11]⟩)) (R (.agg (⟨[G l545 7, G l545 8, G l545 9, G l545 10, G l545 11]⟩)) s546) | false => (match Nat.beq i547 0 with | true => V true 5 (.agg (⟨[G l545 7, G l545 8, G l545 9, G l545 10, G l545 11]⟩)) (R (.agg (⟨[G l545 7, G l545 8, G l545 9, G l545 10, G l545 11]⟩)) s546) | false => False))) (pLoop (fun l548 K549 s550 => B P 3 .lss (G l548 0) (.int .i64 30) fun v551 => Q v551 (B P 3 .add (.int .i64 100) (G l548 0) fun v552 => AC P w0 n_spec_l1Dec [v552] s550 fun v553 s554 => B P 9 .add (.string ({ data := #[122, 122] })) v553 fun v555 => V false 1 v555 ((allOne [v555]) ∧ (A w0 9 1 16 (G l548 9) 1 [v555] s554 fun v556 s557 => V false 1 v556 (V true 5 (.agg (⟨[.bool false, .int .i64 0, .string ({ data := #[] }), .slice none 0 0, .slice none 0 0]⟩)) ((allOne ([.bool false, .int .i64 0, .string ({ data := #[] }), .slice none 0 0, .slice none 0 0])) ∧ (A w0 34 5 80 (G l548 10) 1 ([.bool false, .int .i64 0, .string ({ data := #[] }), .slice none 0 0, .slice none 0 0]) s557 fun v558 s559 => V false 1 v558 (B P 3 .add (G l548 0) (.int .i64 1) fun v560 => K549 .normal [v560, G l548 1, G l548 2, G l548 3, G l548 4, G l548 5, G l548 6, G l548 7, G l548 8, v556, v558] s559))))))) (K549 (.exit 1) [G l548 0, G l548 1, G l548 2, G l548 3, G l548 4, G l548 5, G l548 6, G l548 7, G l548 8, G l548 9, G l548 10] s550)) ([.int .i64 0, .bool false, .int .i64 0, .string ({ data := #[] }), .slice none 0 0, .slice none 0 0, C v902 0, C v902 1, C v902 2, C v902 3, C v902 4]) s501 fun x561 l562 s563 => match x561 with | .normal => V true 5 (.agg (⟨[G l562 6, G l562 7, G l562 8, G l562 9, G l562 10]⟩)) (R (.agg (⟨[G l562 6, G l562 7, G l562 8, G l562 9, G l562 10]⟩)) s563) | .ret => R (.agg (⟨[G l562 1, G l562 2, G l562 3, G l562 4, G l562 5]⟩)) s563 | .exit i564 => (match Nat.beq i564 1 with | true => V true 5 (.agg (⟨[G l562 6, G l562 7, G l562 8, G l562 9, G l562 10]⟩)) (R (.agg (⟨[G l562 6, G l562 7, G l562 8, G l562 9, G l562 10]⟩)) s563) | false => (match Nat.beq i564 0 with | true => V true 5 (.agg (⟨[G l562 6, G l562 7, G l562 8, G l562 9, G l562 10]⟩)) (R (.agg (⟨[G l562 6, G l562 7, G l562 8, G l562 9, G l562 10]⟩)) s563) | false => False))))))))))
def vc_spec_l4Spoil (w0 : World) (a0 a1 : Value) (σ : Vw) (R : Value → Vw → Prop) : Prop :=
  V true 5 a1 (AC P w0 n_spec_l1Copy ([.agg (⟨[C a1 0, C a1 1, C a1 2, C a1 3, C a1 4]⟩)]) σ fun v0 s1 => V true 5 v0 (N (C v0 4) fun v2 => B P 3 .gtr v2 (.int .i64 0) fun v3 => Q v3 (AC P w0 n_p_spec_l1Rd_pick [a0, .int .i64 2] s1 fun v4 s5 => B P 3 .eql v4 (.int .i64 0) fun v6 => Q v6 (N (C v0 4) fun v7 => AC P w0 n_p_spec_l1Rd_pick [a0, v7] s5 fun v8 s9 => X 5 (C v0 4) v8 fun v10 => L w0 5 v10 s9 fun g11 => AC P w0 n_spec_l4Spoil ([a0, .agg (⟨[g11 0, g11 1, g11 2, g11 3, g11 4]⟩)]) s9 fun v12 s13 => X 5 (C v0 4) v8 fun v14 => V true 5 v12 (pStore v14 [C v12 0, C v12 1, C v12 2, C v12 3, C v12 4] s13 fun s15 => V true 5 (.agg (⟨[C v0 0, C v0 1, C v0 2, C v0 3, C v0 4]⟩)) (R (.agg (⟨[C v0 0, C v0 1, C v0 2, C v0 3, C v0 4]⟩)) s15))) (cs_spec_l4Spoil_1 w0 a0 s5 v0 R)) (cs_spec_l4Spoil_1 w0 a0 s1 v0 R)))

theorem vc_spec_l4Spoil_eq (w0 : World) (a0 a1 : Value) (σ : Vw) (R : Value → Vw → Prop) : vc_spec_l4Spoil w0 a0 a1 σ R = den Tryz.prog w0 kp_spec_l4Spoil esc_spec_l4Spoil (Tryz.f82.body.getD .skip) (entry Tryz.f82.ntmps [a0, a1]) σ (retK Tryz.prog Tryz.f82.results.toList R) := by kernel_rfl
theorem ac_spec_l4Spoil {w0 : World} {a0 a1 : Value} {σ : Vw} {R : Value → Vw → Prop} (h : vc_spec_l4Spoil w0 a0 a1 σ R) : AC Tryz.prog w0 n_spec_l4Spoil [a0, a1] σ R := by
  refine ac_rule (fn := Tryz.f82) (c := Tryz.f82.body.getD .skip) kp_spec_l4Spoil esc_spec_l4Spoil Tryz.func82 (by kernel_rfl) (by kernel_rfl) ?_
  rw [← vc_spec_l4Spoil_eq]
  exact h

/-- spec.l1Parts -/
def kp_spec_l1Parts : Nat → Keep
  | 4 => ⟨[1, 4, 5], [(2, 5)], [2], .done, []⟩
  | _ => ⟨[], [], [], .done, []⟩
def esc_spec_l1Parts : Nat → Bool
  | _ => false
def vc_spec_l1Parts (w0 : World) (a0 a1 : Value) (σ : Vw) (R : Value → Vw → Prop) : Prop :=
  V true 5 a0 (AC P w0 n_spec_l1Plain ([.agg (⟨[C a0 0, C a0 1, C a0 2, C a0 3, C a0 4]⟩)]) σ fun v0 s1 => pUn .not v0 fun v2 => Q v2 (R (.bool false) s1) (B P 3 .gtr a1 (.int .i64 4) fun v3 => Q v3 (R (.bool false) s1) (pLoop (fun l4 K5 s6 => N (G l4 7) fun v7 => B P 3 .lss (G l4 2) v7 fun v8 => Q v8 (X 5 (G l4 7) (G l4 2) fun v9 => L w0 5 v9 s6 fun g10 => B P 3 .add (G l4 0) (.int .i64 1) fun v11 => AC P w0 n_spec_l1Parts ([.agg (⟨[g10 0, g10 1, g10 2, g10 3, g10 4]⟩), v11]) s6 fun v12 s13 => pUn .not v12 fun v14 => Q v14 (K5 .ret [G l4 0, .bool false, G l4 2, G l4 3, G l4 4, G l4 5, G l4 6, G l4 7] s13) (B P 3 .add (G l4 2) (.int .i64 1) fun v15 => K5 .normal [G l4 0, G l4 1, v15, G l4 3, G l4 4, G l4 5, G l4 6, G l4 7] s13)) (K5 (.exit 0) [G l4 0, G l4 1, G l4 2, G l4 3, G l4 4, G l4 5, G l4 6, G l4 7] s6)) [a1, .bool false, .int .i64 0, C a0 0, C a0 1, C a0 2, C a0 3, C a0 4] s1 fun x16 l17 s18 => match x16 with | .normal => R (.bool true) s18 | .ret => R (G l17 1) s18 | .exit i19 => (match Nat.beq i19 0 with | true => R (.bool true) s18 | false => False))))
theorem vc_spec_l1Parts_eq (w0 : World) (a0 a1 : Value) (σ : Vw) (R : Value → Vw → Prop) : vc_spec_l1Parts w0 a0 a1 σ R = den Tryz.prog w0 kp_spec_l1Parts esc_spec_l1Parts (Tryz.f99.body.getD .skip) (entry Tryz.f99.ntmps [a0, a1]) σ (retK Tryz.prog Tryz.f99.results.toList R) := by kernel_rfl
theorem ac_spec_l1Parts {w0 : World} {a0 a1 : Value} {σ : Vw} {R : Value → Vw → Prop} (h : vc_spec_l1Parts w0 a0 a1 σ R) : AC Tryz.prog w0 n_spec_l1Parts [a0, a1] σ R := by
  refine ac_rule (fn := Tryz.f99) (c := Tryz.f99.body.getD .skip) kp_spec_l1Parts esc_spec_l1Parts Tryz.func99 (by kernel_rfl) (by kernel_rfl) ?_
  rw [← vc_spec_l1Parts_eq]
  exact h

/-- spec.l1Count -/
def kp_spec_l1Count : Nat → Keep
  | 3 => ⟨[3, 4], [(1, 5)], [1], .done, []⟩
  | _ => ⟨[], [], [], .done, []⟩
def esc_spec_l1Count : Nat → Bool
  | _ => false
def vc_spec_l1Count (w0 : World) (a0 : Value) (σ : Vw) (R : Value → Vw → Prop) : Prop :=
  V true 5 a0 (N (C a0 4) fun v0 => pLoop (fun l1 K2 s3 => N (G l1 6) fun v4 => B P 3 .lss (G l1 1) v4 fun v5 => Q v5 (X 5 (G l1 6) (G l1 1) fun v6 => L w0 5 v6 s3 fun g7 => AC P w0 n_spec_l1Count ([.agg (⟨[g7 0, g7 1, g7 2, g7 3, g7 4]⟩)]) s3 fun v8 s9 => B P 3 .add (G l1 0) v8 fun v10 => B P 3 .add (G l1 1) (.int .i64 1) fun v11 => K2 .normal [v10, v11, G l1 2, G l1 3, G l1 4, G l1 5, G l1 6] s9) (K2 (.exit 0) [G l1 0, G l1 1, G l1 2, G l1 3, G l1 4, G l1 5, G l1 6] s3)) [v0, .int .i64 0, C a0 0, C a0 1, C a0 2, C a0 3, C a0 4] σ fun x12 l13 s14 => match x12 with | .normal => R (G l13 0) s14 | .ret => False | .exit i15 => (match Nat.beq i15 0 with | true => R (G l13 0) s14 | false => False))
theorem vc_spec_l1Count_eq (w0 : World) (a0 : Value) (σ : Vw) (R : Value → Vw → Prop) : vc_spec_l1Count w0 a0 σ R = den Tryz.prog w0 kp_spec_l1Count esc_spec_l1Count (Tryz.f100.body.getD .skip) (entry Tryz.f100.ntmps [a0]) σ (retK Tryz.prog Tryz.f100.results.toList R) := by kernel_rfl
theorem ac_spec_l1Count {w0 : World} {a0 : Value} {σ : Vw} {R : Value → Vw → Prop} (h : vc_spec_l1Count w0 a0 σ R) : AC Tryz.prog w0 n_spec_l1Count [a0] σ R := by
  refine ac_rule (fn := Tryz.f100) (c := Tryz.f100.body.getD .skip) kp_spec_l1Count esc_spec_l1Count Tryz.func100 (by kernel_rfl) (by kernel_rfl) ?_
  rw [← vc_spec_l1Count_eq]
  exact h

/-- spec.l3New -/
def kp_spec_l3New : Nat → Keep
  | 1 => ⟨[], [], [], .step 1 (.step 3 (.step 4 (.step 5 (.step 6 (.step 7 (.step 8 (.step 0 (.step 2 (.step 9 (.step 10 (.step 11 (.done)))))))))))), [(2, [0, 1]), (4, [3]), (6, [5]), (8, [7]), (9, [0, 1, 2, 3, 4, 5, 6, 7, 8]), (10, [0, 1, 2, 3, 4, 5, 6, 7, 8, 9]), (11, [0, 1, 2, 3, 4, 5, 6, 7, 8, 9, 10])]⟩
  | 3 => ⟨[0, 5, 6], [(3, 5)], [3], .done, []⟩
  | 5 => ⟨[], [], [], .step 0 (.step 1 (.step 2 (.step 3 (.step 4 (.step 5 (.step 6 (.step 8 (.step 9 (.step 10 (.step 11 (.step 12 (.step 7 (.step 13 (.step 14 (.step 15 (.done)))))))))))))))), [(3, [2]), (5, [2, 3, 4]), (6, [2, 3, 4, 5]), (7, [1, 2, 3, 4, 5, 6]), (9, [8]), (11, [8, 9, 10]), (12, [8, 9, 10, 11]), (13, [1, 2, 3, 4, 5, 6, 7, 8, 9, 10, 11, 12]), (14, [0, 1, 2, 3, 4, 5, 6, 7, 8, 9, 10, 11, 12, 13]), (15, [0, 1, 2, 3, 4, 5, 6, 7, 8, 9, 10, 11, 12, 13, 14])]⟩
  | _ => ⟨[], [], [], .done, []⟩
def esc_spec_l3New : Nat → Bool
  | 7 => true
  | 17 => true
  | _ => false
def vc_spec_l3New (w0 : World) (a0 a1 : Value) (σ : Vw) (R : Value → Vw → Prop) : Prop :=
  V true 5 a1 (W w0 9 [] σ fun n0 s1 => pAppendS w0 9 1 16 (.slice (some (Addr.mk n0 0 none)) 0 0) a0 s1 fun v2 s3 => V false 1 v2 (V false 1 (.int .i64 2) (V false 1 (C a1 0) (V false 1 (C a1 1) (V false 1 (C a1 2) (V true 5 (.agg (⟨[v2, .int .i64 2, C a1 0, C a1 1, C a1 2]⟩)) (W w0 55 [v2, .int .i64 2, C a1 0, C a1 1, C a1 2] s3 fun n4 s5 => pLoop (fun l6 K7 s8 => N (G l6 6) fun v9 => B P 3 .lss (G l6 2) v9 fun v10 => Q v10 (X 1 (G l6 6) (G l6 2) fun v11 => L w0 1 v11 s8 fun g12 => X 5 (G l6 7) (G l6 2) fun v13 => L w0 5 v13 s8 fun g14 => AC P w0 n_spec_l3Path [G l6 0, g12 0] s8 fun v15 s16 => (Stay w0 s8 s16 v13 5) ∧ (AC P w0 n_spec_l3New ([v15, .agg (⟨[g14 0, g14 1, g14 2, g14 3, g14 4]⟩)]) s16 fun v17 s18 => pAppendS w0 55 5 64 (G l6 1) v17 s18 fun v19 s20 => B P 3 .add (G l6 2) (.int .i64 1) fun v21 => K7 .normal [G l6 0, v19, v21, G l6 3, G l6 4, G l6 5, G l6 6, G l6 7] s20)) (K7 (.exit 0) [G l6 0, G l6 1, G l6 2, G l6 3, G l6 4, G l6 5, G l6 6, G l6 7] s8)) [a0, .slice (some (Addr.mk n4 0 none)) 1 1, .int .i64 0, C a1 0, C a1 1, C a1 2, C a1 3, C a1 4] s5 fun x22 l23 s24 => match x22 with | .normal => R (G l23 1) s24 | .ret => False | .exit i25 => (match Nat.beq i25 0 with | true => R (G l23 1) s24 | false => False))))))))
theorem vc_spec_l3New_eq (w0 : World) (a0 a1 : Value) (σ : Vw) (R : Value → Vw → Prop) : vc_spec_l3New w0 a0 a1 σ R = den Tryz.prog w0 kp_spec_l3New esc_spec_l3New (Tryz.f102.body.getD .skip) (entry Tryz.f102.ntmps [a0, a1]) σ (retK Tryz.prog Tryz.f102.results.toList R) := by kernel_rfl
theorem ac_spec_l3New {w0 : World} {a0 a1 : Value} {σ : Vw} {R : Value → Vw → Prop} (h : vc_spec_l3New w0 a0 a1 σ R) : AC Tryz.prog w0 n_spec_l3New [a0, a1] σ R := by
  refine ac_rule (fn := Tryz.f102) (c := Tryz.f102.body.getD .skip) kp_spec_l3New esc_spec_l3New Tryz.func102 (by kernel_rfl) (by kernel_rfl) ?_
  rw [← vc_spec_l3New_eq]
  exact h

/-- spec.l3Gone -/
def kp_spec_l3Gone : Nat → Keep
  | _ => ⟨[], [], [], .done, []⟩
def esc_spec_l3Gone : Nat → Bool
  | 3 => true
  | 7 => true
  | _ => false
def vc_spec_l3Gone (w0 : World) (a0 : Value) (σ : Vw) (R : Value → Vw → Prop) : Prop :=
  W w0 9 [] σ fun n0 s1 => pAppendS w0 9 1 16 (.slice (some (Addr.mk n0 0 none)) 0 0) a0 s1 fun v2 s3 => V false 1 v2 (V false 1 (.int .i64 1) (V true 5 (.agg (⟨[v2, .int .i64 1, .bool false, .int .i64 0, .string ({ data := #[] })]⟩)) (W w0 55 ([v2, .int .i64 1, .bool false, .int .i64 0, .string ({ data := #[] })]) s3 fun n4 s5 => R (.slice (some (Addr.mk n4 0 none)) 1 1) s5)))
theorem vc_spec_l3Gone_eq (w0 : World) (a0 : Value) (σ : Vw) (R : Value → Vw → Prop) : vc_spec_l3Gone w0 a0 σ R = den Tryz.prog w0 kp_spec_l3Gone esc_spec_l3Gone (Tryz.f103.body.getD .skip) (entry Tryz.f103.ntmps [a0]) σ (retK Tryz.prog Tryz.f103.results.toList R) := by kernel_rfl
theorem ac_spec_l3Gone {w0 : World} {a0 : Value} {σ : Vw} {R : Value → Vw → Prop} (h : vc_spec_l3Gone w0 a0 σ R) : AC Tryz.prog w0 n_spec_l3Gone [a0] σ R := by
  refine ac_rule (fn := Tryz.f103) (c := Tryz.f103.body.getD .skip) kp_spec_l3Gone esc_spec_l3Gone Tryz.func103 (by kernel_rfl) (by kernel_rfl) ?_
  rw [← vc_spec_l3Gone_eq]
  exact h

end Go.Proofs.YtkbhjejalkbogaaGreatDoor
