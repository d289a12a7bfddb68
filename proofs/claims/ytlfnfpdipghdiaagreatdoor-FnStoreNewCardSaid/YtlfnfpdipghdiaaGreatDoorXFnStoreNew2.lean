/- The law FnStoreNew holds: it returns true, and the input reads as it did. No condition. This is part 2 of 4 of its proof. -/
import Derived.Test.YtlfnfpdipghdiaaGreatDoorXFnStoreNew1
import Derived.IntWalk
import Derived.ChangeArms
import Derived.WideShapes
import Derived.ProofKit
import Derived.Below
import Derived.Test.YtlfnfpdipghdiaaGreatDoorProg
import Derived.Shelf.Utf8.RuneCount
import Derived.Shelf.Strconv.Atoi
import Derived.Shelf.Strconv.Itoa0
import Derived.Shelf.Strconv.Itoa1
import Derived.Shelf.LaysM
import Derived.Shelf.Strconv.Itoa2
import Derived.Shelf.Strconv.Itoa3
import Derived.Shelf.Strconv.AtoiErrFast
import Derived.Shelf.Strconv.ParseIntEmpty
import Derived.Shelf.Strconv.AtoiFail
import Derived.Shelf.Strconv.Clone
import Derived.Shelf.Strconv.SyntaxError
import Derived.Shelf.LaysC
import Derived.Shelf.Strconv.ToError
import Derived.Shelf.Strconv.Lower
import Derived.Shelf.Strconv.ParseUint10
import Derived.Shelf.Strconv.ParseUint10Empty
import Derived.Shelf.Strconv.ParseUint10Any
import Derived.Shelf.Strconv.ParseInt10
import Derived.Shelf.Strconv.AtoiLong
import Derived.Shelf.Strconv.AtoiInnerAll
import Derived.Shelf.Strconv.RangeError
import Derived.Shelf.Strconv.ToErrorRange
import Derived.Shelf.Strconv.AtoiAll
import Derived.Shelf.Strconv.ErrVarAll
import Derived.Shelf.Strings.Search1
import Derived.Shelf.Strings.Search2
import Derived.Shelf.Strings.Search3
import Derived.Shelf.Strings.Count
import Derived.Shelf.Strings.Shaped
import Derived.Shelf.Strings.Split
import Derived.Shelf.Strings.SplitShaped
import Derived.Shelf.Unicode.Decode
import Derived.Shelf.Strings.RuneCount
import Derived.Shelf.Strings.Explode
import Derived.Shelf.Unicode.DecodeSlow
import Derived.Shelf.Unicode.DecodeAny

/- The plain side, part 1: the operations at known values; loops; what is read in a slice. -/
set_option linter.unusedVariables false
set_option linter.unusedSimpArgs false
namespace Go.Av
open Go Go.RowKit IntWalk

section
variable {P : Program} {w0 : World} {σ σ' : Vw}

/-! ### The operations at known values -/
theorem pIf_b {b : Bool} {A B : Prop} : pIf (.bool b) A B ↔ (b = true → A) ∧ (b = false → B) :=
  ⟨fun ⟨c, h, h1, h2⟩ => by cases h; exact ⟨h1, h2⟩, fun ⟨h1, h2⟩ => ⟨b, rfl, h1, h2⟩⟩
theorem pIf_d {p : Prop} [Decidable p] {A B : Prop} : pIf (.bool (decide p)) A B ↔ (p → A) ∧ (¬ p → B) := by
  rw [pIf_b]; simp
theorem pLen_s {A : Option Addr} {n c : Nat} {K : Value → Prop} : pLen (.slice A n c) K ↔ K (.int .i64 n) :=
  ⟨fun ⟨_, _, _, h, hK⟩ => by cases h; exact hK, fun h => ⟨_, _, _, rfl, h⟩⟩
theorem pLenS_s {s : ByteArray} {K : Value → Prop} : pLenS (.string s) K ↔ K (.int .i64 s.size) :=
  ⟨fun ⟨_, h, hK⟩ => by cases h; exact hK, fun h => ⟨_, rfl, h⟩⟩
theorem pField_s {o : Nat} {a : Addr} {K : Value → Prop} : pField o (.pointer (some a)) K ↔ K (.pointer (some (a.add o))) :=
  ⟨fun ⟨_, h, hK⟩ => by cases h; exact hK, fun h => ⟨_, rfl, h⟩⟩
theorem pUn_not {b : Bool} {K : Value → Prop} : pUn .not (.bool b) K ↔ K (.bool !b) :=
  ⟨fun ⟨_, h, hK⟩ => by simp only [aun, Option.some.injEq] at h; subst h; exact hK, fun h => ⟨_, rfl, h⟩⟩
theorem pBin_i {T : Nat} {op : BinOp} {k : IntKind} {a b : Int} {v : Value} {K : Value → Prop} (h : aint op k a b = some v) : pBin P T op (.int k a) (.int k b) K ↔ K v := by
  have e : abinT P T op (.int k a) (.int k b) = some v := by unfold abinT; simp only [if_true]; exact h
  exact ⟨fun ⟨_, h, hK⟩ => by rw [e] at h; cases h; exact hK, fun h => ⟨_, e, h⟩⟩
theorem pBin_lt {T : Nat} {k : IntKind} {a b : Int} {K : Value → Prop} : pBin P T .lss (.int k a) (.int k b) K ↔ K (.bool (decide (a < b))) := pBin_i rfl
theorem pBin_le {T : Nat} {k : IntKind} {a b : Int} {K : Value → Prop} : pBin P T .leq (.int k a) (.int k b) K ↔ K (.bool (decide (a ≤ b))) := pBin_i rfl
theorem pBin_gt {T : Nat} {k : IntKind} {a b : Int} {K : Value → Prop} : pBin P T .gtr (.int k a) (.int k b) K ↔ K (.bool (decide (b < a))) := pBin_i rfl
theorem pBin_ge {T : Nat} {k : IntKind} {a b : Int} {K : Value → Prop} : pBin P T .geq (.int k a) (.int k b) K ↔ K (.bool (decide (b ≤ a))) := pBin_i rfl
theorem pBin_eq {T : Nat} {k : IntKind} {a b : Int} {K : Value → Prop} : pBin P T .eql (.int k a) (.int k b) K ↔ K (.bool (decide (a = b))) := pBin_i rfl
theorem pBin_ne {T : Nat} {k : IntKind} {a b : Int} {K : Value → Prop} : pBin P T .neq (.int k a) (.int k b) K ↔ K (.bool (decide (a ≠ b))) :=
  pBin_i (by simp only [aint, bne, Option.some.injEq, Value.bool.injEq]; by_cases h : a = b <;> simp [h])
theorem pBin_add {T : Nat} {a b : Int} {K : Value → Prop} (h : -9223372036854775808 ≤ a + b ∧ a + b ≤ 9223372036854775807) : pBin P T .add (.int .i64 a) (.int .i64 b) K ↔ K (.int .i64 (a + b)) :=
  pBin_i (by simp only [aint, i64_in _ h])
theorem pBin_sub {T : Nat} {a b : Int} {K : Value → Prop} (h : -9223372036854775808 ≤ a - b ∧ a - b ≤ 9223372036854775807) : pBin P T .sub (.int .i64 a) (.int .i64 b) K ↔ K (.int .i64 (a - b)) :=
  pBin_i (by simp only [aint, i64_in _ h])
theorem pBin_mul {T : Nat} {a b : Int} {K : Value → Prop} (h : -9223372036854775808 ≤ a * b ∧ a * b ≤ 9223372036854775807) : pBin P T .mul (.int .i64 a) (.int .i64 b) K ↔ K (.int .i64 (a * b)) :=
  pBin_i (by simp only [aint, i64_in _ h])

theorem bytes_inj {a b : ByteArray} (h : a.toList = b.toList) : a = b := by
  rw [ByteArray.toList_eq, ByteArray.toList_eq] at h
  cases a; cases b
  simp only [ByteArray.mk.injEq]
  exact Array.toList_inj.1 h
theorem toList_eq {a b : ByteArray} : (a.toList == b.toList) = decide (a = b) := by
  have : a.toList = b.toList ↔ a = b := ⟨fun h => Go.Av.bytes_inj h, fun h => by rw [h]⟩
  by_cases h : a = b
  · subst h; simp
  · have h' : ¬ a.toList = b.toList := fun e => h (this.1 e)
    simp [h, h']
theorem pBin_s {T : Nat} {op : BinOp} {a b : ByteArray} {v : Value} {K : Value → Prop} (h : astr op a b = some v) : pBin P T op (.string a) (.string b) K ↔ K v :=
  ⟨fun ⟨_, h', hK⟩ => by rw [show abinT P T op (.string a) (.string b) = some v from h] at h'; cases h'; exact hK, fun hK => ⟨_, h, hK⟩⟩
theorem pBin_seq {T : Nat} {a b : ByteArray} {K : Value → Prop} : pBin P T .eql (.string a) (.string b) K ↔ K (.bool (decide (a = b))) := pBin_s (by simp only [astr, toList_eq])
theorem pBin_sne {T : Nat} {a b : ByteArray} {K : Value → Prop} : pBin P T .neq (.string a) (.string b) K ↔ K (.bool (decide (a ≠ b))) := pBin_s (by simp only [astr, toList_eq]; simp)
theorem pBin_b {T : Nat} {op : BinOp} {a b : Bool} {v : Value} {K : Value → Prop} (hT : P.underlying T = some .bool) (h : (match op with | .eql => some (Value.bool (a == b)) | .neq => some (.bool (!(a == b))) | _ => none) = some v) : pBin P T op (.bool a) (.bool b) K ↔ K v := by
  have e : abinT P T op (.bool a) (.bool b) = some v := by simp only [abinT, hT]; exact h
  exact ⟨fun ⟨_, h', hK⟩ => by rw [e] at h'; cases h'; exact hK, fun hK => ⟨_, e, hK⟩⟩

theorem pVal1 {n : Nat} {v : Value} {A : Prop} (h : v.oneCell' = true) : pVal false n v A ↔ A := ⟨fun h => h.2, fun hA => ⟨h, hA⟩⟩
theorem pValN {n : Nat} {cs : List Value} {A : Prop} (hl : cs.length = n) (h : ∀ c, c ∈ cs → c.oneCell' = true) : pVal true n (.agg ⟨cs⟩) A ↔ A := ⟨fun h => h.2, fun hA => ⟨⟨cs, rfl, hl, h⟩, hA⟩⟩
theorem cellOf_agg {cs : List Value} {i : Nat} : cellOf (.agg ⟨cs⟩) i = cs.getD i undef := rfl
theorem pStr1 {b : Nat} {K : Value → Prop} {n : Int} {c : Nat} (h : Av.get w0 σ ⟨b, 0, none⟩ = some (.int .u8 n)) (hK : K (.string (strOfNums [n]))) : pStr w0 (.slice (some ⟨b, 0, none⟩) 1 c) σ K :=
  .inr ⟨b, 0, 1, c, [n], rfl, rfl, (fun j hj => by
    have e : j = 0 := by omega
    subst e
    exact h), hK⟩

/-! ### Loops -/
theorem loop_rule {B : List Value → (AX → List Value → Vw → Prop) → Vw → Prop} {K : AX → List Value → Vw → Prop} (I : Nat → List Value → Vw → Prop)
    (step : ∀ m vs σ (L : List Value → Vw → Prop), I m vs σ → (∀ vs' σ', ∀ m', m' + 1 = m → I m' vs' σ' → L vs' σ') → B vs (fun e vs' σ' => match e with | .normal => L vs' σ' | .exit i => K (.exit i) vs' σ' | .ret => K .ret vs' σ') σ)
    {m : Nat} {vs : List Value} (h : I m vs σ) : pLoop B vs σ K := by
  refine ⟨m + 1, ?_⟩
  induction m generalizing vs σ with
  | zero => exact step 0 vs σ _ h (fun vs' σ' m' e => by omega)
  | succ m ih =>
    refine step (m + 1) vs σ _ h (fun vs' σ' m' e hI => ?_)
    have e : m' = m := by omega
    subst e
    exact ih hI

/-! ### Reading -/
theorem add_add (a : Addr) (i j : Nat) : (a.add i).add j = a.add (i + j) := by
  unfold Addr.add
  by_cases hi : i = 0
  · simp [hi]
  · by_cases hj : j = 0
    · simp [hj]
    · have : i + j ≠ 0 := by omega
      simp [hi, hj, this, Nat.add_assoc]

/-- A reader that reads no less. -/
def Le (rd rd' : Addr → Option Value) : Prop := ∀ a v, rd a = some v → rd' a = some v
theorem Ext.le (hx : Ext σ σ') : Le (Av.get w0 σ) (Av.get w0 σ') := fun _ _ h => get_ext hx h

/-- What is read behind a slice: xs, each of n cells. -/
def RSl {α : Type} (n : Nat) (R : (Addr → Option Value) → List Value → α → Prop) (rd : Addr → Option Value) (v : Value) (xs : List α) : Prop :=
  ∃ A cap, v = .slice A xs.length cap ∧ (xs.length ≤ cap ∧ cap ≤ 9223372036854775807) ∧ ∀ (j : Nat) (x : α), xs[j]? = some x → ∃ a es, A = some a ∧ es.length = n ∧ (∀ i, i < n → rd (a.add (j * n + i)) = es[i]?) ∧ R rd es x

theorem RSl.mono {α : Type} {n : Nat} {R : (Addr → Option Value) → List Value → α → Prop} {rd rd' : Addr → Option Value} {v : Value} {xs : List α} (h : RSl n R rd v xs) (hx : Le rd rd') (hR : ∀ es x, R rd es x → R rd' es x) : RSl n R rd' v xs := by
  obtain ⟨A, cap, h1, h2, h3⟩ := h
  refine ⟨A, cap, h1, h2, fun j x hj => ?_⟩
  obtain ⟨a, es, h4, h5, h6, h7⟩ := h3 j x hj
  refine ⟨a, es, h4, h5, fun i hi => ?_, hR _ _ h7⟩
  have := h6 i hi
  have hlt : i < es.length := by omega
  rw [List.getElem?_eq_getElem hlt] at this ⊢
  exact hx _ _ this

theorem RSl.len {α : Type} {n : Nat} {R : (Addr → Option Value) → List Value → α → Prop} {rd : Addr → Option Value} {v : Value} {xs : List α} (h : RSl n R rd v xs) {K : Value → Prop} : pLen v K ↔ K (.int .i64 xs.length) := by
  obtain ⟨A, cap, rfl, _⟩ := h
  exact pLen_s

/-- An element is read. -/
theorem RSl.at {α : Type} {n : Nat} {R : (Addr → Option Value) → List Value → α → Prop} {v : Value} {xs : List α} (h : RSl n R (Av.get w0 σ) v xs) {j : Nat} {x : α} (hj : xs[j]? = some x) {K : (Nat → Value) → Prop} (hK : ∀ g : Nat → Value, R (Av.get w0 σ) (expl g 0 n) x → K g) :
    pIndexAddr n v (.int .i64 j) fun p => pLoad w0 n p σ K := by
  obtain ⟨A, cap, rfl, _, h3⟩ := h
  obtain ⟨a, es, rfl, h5, h6, h7⟩ := h3 j x hj
  have hlt : j < xs.length := (List.getElem?_eq_some_iff.1 hj).1
  refine ⟨a, xs.length, cap, .i64, j, rfl, rfl, by omega, by omega, a.add (j * n), fun i => es.getD i undef, rfl, fun i hi => ?_, hK _ ?_⟩
  · have := h6 i hi
    have hlt : i < es.length := by omega
    rw [add_add, this, List.getElem?_eq_getElem hlt]
    simp only [List.getD_eq_getElem?_getD, List.getElem?_eq_getElem hlt, Option.getD_some]
  · have : expl (fun i => es.getD i undef) 0 n = es := by
      apply List.ext_getElem?
      intro i
      by_cases hi : i < n
      · rw [expl_get _ _ _ _ hi, Nat.zero_add, List.getD_eq_getElem?_getD]
        have hlt : i < es.length := by omega
        rw [List.getElem?_eq_getElem hlt]; rfl
      · rw [List.getElem?_eq_none (by rw [length_expl]; omega), List.getElem?_eq_none (by omega)]
    rw [this]; exact h7

/-- A text. -/
def RS (rd : Addr → Option Value) (cs : List Value) (s : ByteArray) : Prop := cs = [.string s] ∧ s.size ≤ 9223372036854775807
end
end Go.Av

/- The plain side, part 2: rows of our own. -/
set_option linter.unusedVariables false
set_option linter.unusedSimpArgs false
namespace Go.Av
open Go Go.RowKit

/-- Every row stays as it is; there may be new ones. -/
def Keeps (σ σ' : Vw) : Prop := ∀ b r, σ b = some r → σ' b = some r
theorem Keeps.refl (σ : Vw) : Keeps σ σ := fun _ _ h => h
theorem Keeps.trans {σ σ' σ'' : Vw} (h : Keeps σ σ') (h' : Keeps σ' σ'') : Keeps σ σ'' := fun b r hb => h' b r (h b r hb)
theorem Keeps.ext {σ σ' : Vw} (h : Keeps σ σ') : Ext σ σ' := fun b r hb => ⟨r, h b r hb, List.prefix_refl _⟩
theorem Keeps.le {w0 : World} {σ σ' : Vw} (h : Keeps σ σ') : Le (Av.get w0 σ) (Av.get w0 σ') := h.ext.le
theorem Keeps.stay {w0 : World} {σ σ' : Vw} {v : Value} {n : Nat} (h : Keeps σ σ') : Stay w0 σ σ' v n := fun a g _ hc j hj => h.le _ _ (hc j hj)
theorem Keeps.put {σ : Vw} {b : Nat} {r : Row} (h : σ b = none) : Keeps σ (σ.put b r) := fun i x hi => by
  have : i ≠ b := fun e => by rw [e, h] at hi; cases hi
  simp [Vw.put, this, hi]
theorem put_at {σ : Vw} {b : Nat} {r : Row} : σ.put b r b = some r := by simp [Vw.put]
theorem get_row {w0 : World} {σ : Vw} {b off : Nat} {r : Row} (hb : w0.heap.size ≤ b) (h : σ b = some r) : Av.get w0 σ ⟨b, off, none⟩ = r.cells[off]? := by
  unfold Av.get
  simp only
  rw [if_neg (by omega), if_pos trivial, h]; rfl

theorem addr_add (b off i : Nat) : (Addr.mk b off none).add i = ⟨b, off + i, none⟩ := by
  unfold Addr.add
  split
  · rename_i h; subst h; rfl
  · rfl

section
variable {w0 : World} {σ : Vw}

theorem flat_len {n : Nat} : ∀ (xs : List (List Value)), (∀ c, c ∈ xs → c.length = n) → xs.flatten.length = xs.length * n
  | [], _ => by simp
  | c :: r, h => by
    have := flat_len r (fun d hd => h d (List.mem_cons_of_mem _ hd))
    simp only [List.flatten_cons, List.length_append, List.length_cons, this, h c List.mem_cons_self]
    rw [Nat.add_mul, Nat.one_mul, Nat.add_comm]

theorem flat_get {n : Nat} : ∀ (xs : List (List Value)), (∀ c, c ∈ xs → c.length = n) → ∀ (j : Nat) (c : List Value), xs[j]? = some c → ∀ i, i < n → xs.flatten[j * n + i]? = c[i]?
  | [], _, j, c, hj, i, hi => by simp at hj
  | d :: r, h, 0, c, hj, i, hi => by
    simp at hj; subst hj
    have := h d List.mem_cons_self
    rw [List.flatten_cons, Nat.zero_mul, Nat.zero_add, List.getElem?_append_left (by omega)]
  | d :: r, h, j + 1, c, hj, i, hi => by
    have hd := h d List.mem_cons_self
    rw [List.flatten_cons, Nat.add_mul, Nat.one_mul, List.getElem?_append_right (by omega)]
    have := flat_get r (fun d hd => h d (List.mem_cons_of_mem _ hd)) j c (by simpa using hj) i hi
    rw [← this]
    congr 1
    omega

theorem RSl.one {α : Type} {n : Nat} {R : (Addr → Option Value) → List Value → α → Prop} {rd : Addr → Option Value} {v : Value} {xs : List α} (h : RSl n R rd v xs) : v.oneCell' = true := by
  obtain ⟨A, cap, rfl, _⟩ := h
  rfl
theorem RSl.le {α : Type} {n : Nat} {R : (Addr → Option Value) → List Value → α → Prop} {rd : Addr → Option Value} {v : Value} {xs : List α} (h : RSl n R rd v xs) : xs.length ≤ 9223372036854775807 := by
  obtain ⟨_, _, _, h2, _⟩ := h; exact Nat.le_trans h2.1 h2.2
theorem pVal_1 {v : Value} {A : Prop} (h : v.oneCell' = true) : pVal true 1 (.agg ⟨[v]⟩) A ↔ A := pValN rfl (by simpa using h)
theorem pVal_2 {v v' : Value} {A : Prop} (h : v.oneCell' = true) (h' : v'.oneCell' = true) : pVal true 2 (.agg ⟨[v, v']⟩) A ↔ A := pValN rfl (by simp [h, h'])
theorem pVal_3 {v v' v'' : Value} {A : Prop} (h : v.oneCell' = true) (h' : v'.oneCell' = true) (h'' : v''.oneCell' = true) : pVal true 3 (.agg ⟨[v, v', v'']⟩) A ↔ A := pValN rfl (by simp [h, h', h''])

end
end Go.Av

/- The lists of structs, whatever their element: their size, their comparison. -/
set_option linter.unusedVariables false
set_option linter.unusedSimpArgs false
namespace Go.Av
open Go Go.RowKit

def sumBy {α : Type} (f : α → Nat) : List α → Nat
  | [] => 0
  | s :: r => f s + sumBy f r
theorem sumBy_take {α : Type} {f : α → Nat} {xs : List α} : ∀ {j : Nat} {x : α}, xs[j]? = some x → sumBy f (xs.take (j + 1)) = sumBy f (xs.take j) + f x := by
  induction xs with
  | nil => intro j x h; simp at h
  | cons a r ih =>
    intro j x h
    cases j with
    | zero => simp at h; subst h; simp [sumBy]
    | succ j =>
      simp at h
      have := ih h
      simp only [List.take_succ_cons, sumBy, this]
      omega
section
variable {P : Program} {w0 : World} {σ : Vw} {α : Type}

end
end Go.Av

/- Lists that lie in rows of our own, each part in rows of its own; the copy of a list of structs. -/
set_option linter.unusedVariables false
set_option linter.unusedSimpArgs false
namespace Go.Av
open Go Go.RowKit

section
variable {P : Program} {w0 : World} {σ σ' : Vw} {α : Type}

/-- What a rule for parts in rows of our own must keep. -/
structure OOk (w0 : World) (n : Nat) (Rel : (Addr → Option Value) → List Value → α → Prop) (O : Vw → List Nat → List Value → α → Prop) : Prop where
  rel : ∀ σ F es x, O σ F es x → Rel (Av.get w0 σ) es x
  frame : ∀ σ σ' F es x, O σ F es x → (∀ b, b ∈ F → σ' b = σ b) → O σ' F es x
  dom : ∀ σ F es x, O σ F es x → ∀ b, b ∈ F → w0.heap.size ≤ b ∧ σ b ≠ none
  nodup : ∀ σ F es x, O σ F es x → F.Nodup
  len : ∀ σ F es x, O σ F es x → es.length = n
  one : ∀ σ F es x, O σ F es x → ∀ c, c ∈ es → c.oneCell' = true

/-- A list in a row of our own, the elements' own parts in other rows. -/
def OSl (w0 : World) (n : Nat) (O : Vw → List Nat → List Value → α → Prop) (σ : Vw) (F : List Nat) (v : Value) (xs : List α) : Prop :=
  xs.length ≤ 9223372036854775807 ∧ F.Nodup ∧ ((v = .slice none 0 0 ∧ xs = [] ∧ F = []) ∨
  ∃ (b off cap : Nat) (r : Row) (pre post : List Value) (css : List (List Value)) (Fs : List (List Nat)), v = .slice (some ⟨b, off, none⟩) xs.length cap ∧ (xs.length ≤ cap ∧ cap ≤ 9223372036854775807) ∧ w0.heap.size ≤ b ∧ σ b = some r ∧ r.cells = pre ++ (css.flatten ++ post) ∧ pre.length = off ∧
    css.length = xs.length ∧ Fs.length = xs.length ∧ F = b :: Fs.flatten ∧ ∀ (j : Nat) (c : List Value) (x : α) (f : List Nat), css[j]? = some c → xs[j]? = some x → Fs[j]? = some f → O σ f c x)

theorem mem_flat {l : List (List Nat)} {b : Nat} (h : b ∈ l.flatten) : ∃ (j : Nat) (f : List Nat), l[j]? = some f ∧ b ∈ f := by
  obtain ⟨f, h1, h2⟩ := List.mem_flatten.1 h
  obtain ⟨j, hj⟩ := List.getElem?_of_mem h1
  exact ⟨j, f, hj, h2⟩

theorem OSl.frame {n : Nat} {Rel : (Addr → Option Value) → List Value → α → Prop} {O : Vw → List Nat → List Value → α → Prop} (ok : OOk w0 n Rel O) {F : List Nat} {v : Value} {xs : List α} (h : OSl w0 n O σ F v xs) (hF : ∀ b, b ∈ F → σ' b = σ b) : OSl w0 n O σ' F v xs := by
  obtain ⟨h1, h2, h3 | ⟨b, off, cap, r, pre, post, css, Fs, g1, gc, g2, g3, g4, g5, g6, g7, g8, g9⟩⟩ := h
  · exact ⟨h1, h2, .inl h3⟩
  · refine ⟨h1, h2, .inr ⟨b, off, cap, r, pre, post, css, Fs, g1, gc, g2, ?_, g4, g5, g6, g7, g8, fun j c x f e1 e2 e3 => ?_⟩⟩
    · rw [hF b (by rw [g8]; exact List.mem_cons_self)]; exact g3
    · refine ok.frame _ _ _ _ _ (g9 j c x f e1 e2 e3) fun i hi => hF i ?_
      rw [g8]
      exact List.mem_cons_of_mem _ (List.mem_flatten.2 ⟨f, List.mem_of_getElem? e3, hi⟩)

theorem OSl.dom {n : Nat} {Rel : (Addr → Option Value) → List Value → α → Prop} {O : Vw → List Nat → List Value → α → Prop} (ok : OOk w0 n Rel O) {F : List Nat} {v : Value} {xs : List α} (h : OSl w0 n O σ F v xs) : ∀ b, b ∈ F → w0.heap.size ≤ b ∧ σ b ≠ none := by
  obtain ⟨h1, h2, ⟨_, _, h3⟩ | ⟨b, off, cap, r, pre, post, css, Fs, g1, gc, g2, g3, g4, g5, g6, g7, g8, g9⟩⟩ := h
  · rw [h3]; intro b hb; cases hb
  · rw [g8]
    intro i hi
    rcases List.mem_cons.1 hi with e | e
    · rw [e]; exact ⟨g2, by rw [g3]; simp⟩
    · obtain ⟨j, f, e1, e2⟩ := mem_flat e
      have hj : j < Fs.length := (List.getElem?_eq_some_iff.1 e1).1
      exact ok.dom _ _ _ _ (g9 j _ _ f (List.getElem?_eq_getElem (by omega)) (List.getElem?_eq_getElem (by omega)) e1) i e2

theorem OSl.rel {n : Nat} {Rel : (Addr → Option Value) → List Value → α → Prop} {O : Vw → List Nat → List Value → α → Prop} (ok : OOk w0 n Rel O) {F : List Nat} {v : Value} {xs : List α} (h : OSl w0 n O σ F v xs) : RSl n Rel (Av.get w0 σ) v xs := by
  obtain ⟨h1, h2, ⟨rfl, rfl, _⟩ | ⟨b, off, cap, r, pre, post, css, Fs, rfl, gc, g2, g3, g4, g5, g6, g7, g8, g9⟩⟩ := h
  · exact ⟨none, 0, rfl, by simp, fun j x hj => by simp at hj⟩
  · have each : ∀ (j : Nat) (c : List Value), css[j]? = some c → c.length = n := fun j c hj => by
      have hlt : j < css.length := (List.getElem?_eq_some_iff.1 hj).1
      exact ok.len _ _ _ _ (g9 j c _ _ hj (List.getElem?_eq_getElem (by omega)) (List.getElem?_eq_getElem (by omega)))
    have hn : ∀ c, c ∈ css → c.length = n := fun c hc => by obtain ⟨j, hj⟩ := List.getElem?_of_mem hc; exact each j c hj
    refine ⟨_, cap, rfl, gc, fun j x hj => ?_⟩
    have hlt : j < css.length := by have := (List.getElem?_eq_some_iff.1 hj).1; omega
    have hcj := List.getElem?_eq_getElem hlt
    refine ⟨_, css[j], rfl, each j _ hcj, fun i hi => ?_, ok.rel _ _ _ _ (g9 j _ x _ hcj hj (List.getElem?_eq_getElem (by omega)))⟩
    rw [addr_add, get_row g2 g3, g4, List.getElem?_append_right (by omega)]
    rw [show off + (j * n + i) - pre.length = j * n + i by omega, List.getElem?_append_left, flat_get css hn j _ hcj i hi]
    rw [flat_len css hn]
    calc j * n + i < j * n + n := by omega
      _ = (j + 1) * n := by rw [Nat.add_mul, Nat.one_mul]
      _ ≤ css.length * n := Nat.mul_le_mul_right n hlt

end
end Go.Av

/- Lists in rows of our own, written element by element: the focus on one element, and the loops that mark and that look at marks. -/
set_option linter.unusedVariables false
set_option linter.unusedSimpArgs false
namespace Go.Av
open Go Go.RowKit

/-- Every row but those of F stays as it is. -/
def KeepsBut (F : List Nat) (σ σ' : Vw) : Prop := ∀ b r, σ b = some r → b ∉ F → σ' b = some r
theorem KeepsBut.refl (F : List Nat) (σ : Vw) : KeepsBut F σ σ := fun _ _ h _ => h
theorem Keeps.but {F : List Nat} {σ σ' : Vw} (h : Keeps σ σ') : KeepsBut F σ σ' := fun b r hb _ => h b r hb
theorem KeepsBut.trans {F : List Nat} {σ σ' σ'' : Vw} (h : KeepsBut F σ σ') (h' : KeepsBut F σ' σ'') : KeepsBut F σ σ'' := fun b r hb hF => h' b r (h b r hb hF) hF
/-- What is older than F stays. -/
theorem KeepsBut.old {F : List Nat} {σ0 σ σ' : Vw} (h : KeepsBut F σ σ') (h0 : Keeps σ0 σ) (hF : ∀ b, b ∈ F → σ0 b = none) : Keeps σ0 σ' := fun b r hb => h b r (h0 b r hb) fun hb' => by rw [hF b hb'] at hb; cases hb
theorem KeepsBut.at {F G : List Nat} {σ σ' : Vw} (h : KeepsBut F σ σ') (hG : ∀ b, b ∈ G → σ b ≠ none) (hd : ∀ b, b ∈ G → b ∉ F) : ∀ b, b ∈ G → σ' b = σ b := fun b hb => by
  cases hs : σ b with
  | none => exact absurd hs (hG b hb)
  | some r => exact h b r hs (hd b hb)
theorem KeepsBut.put {F : List Nat} {σ : Vw} {b : Nat} {r : Row} (hb : b ∈ F) : KeepsBut F σ (σ.put b r) := fun i x hi hF => by
  have : i ≠ b := fun e => hF (e ▸ hb)
  simp [Vw.put, this, hi]

section
variable {P : Program} {w0 : World} {σ σ' : Vw} {α : Type}

theorem nodup_at {l : List (List Nat)} {i j : Nat} {f g : List Nat} (h : l.flatten.Nodup) (hi : l[i]? = some f) (hj : l[j]? = some g) (hij : i ≠ j) : ∀ b, b ∈ f → b ∉ g := by
  induction l generalizing i j with
  | nil => simp at hi
  | cons a r ih =>
    rw [List.flatten_cons, List.nodup_append] at h
    intro b hb hb'
    cases i with
    | zero =>
      cases j with
      | zero => exact hij rfl
      | succ j =>
        simp at hi hj
        subst hi
        exact h.2.2 b hb b (List.mem_flatten.2 ⟨g, List.mem_of_getElem? hj, hb'⟩) rfl
    | succ i =>
      cases j with
      | zero =>
        simp at hi hj
        subst hj
        exact h.2.2 b hb' b (List.mem_flatten.2 ⟨f, List.mem_of_getElem? hi, hb⟩) rfl
      | succ j =>
        simp at hi hj
        exact ih h.2.1 hi hj (fun e => hij (by rw [e])) b hb hb'

theorem split_at {l : List (List Value)} {j : Nat} {c : List Value} (hj : l[j]? = some c) : l.flatten = (l.take j).flatten ++ (c ++ (l.drop (j + 1)).flatten) := by
  have hlt := (List.getElem?_eq_some_iff.1 hj).1
  have e : l = l.take j ++ (c :: l.drop (j + 1)) := by
    have := List.take_append_drop j l
    rw [List.drop_eq_getElem_cons hlt] at this
    have hc : l[j] = c := (List.getElem?_eq_some_iff.1 hj).2
    rw [hc] at this
    exact this.symm
  calc l.flatten = (l.take j ++ (c :: l.drop (j + 1))).flatten := by rw [← e]
    _ = _ := by rw [List.flatten_append, List.flatten_cons]

/-- One element of a list of our own, and how the list is put together again behind a change of it. -/
theorem OSl.focus {n : Nat} {Rel : (Addr → Option Value) → List Value → α → Prop} {O : Vw → List Nat → List Value → α → Prop} (ok : OOk w0 n Rel O) {F : List Nat} {v : Value} {xs : List α} (h : OSl w0 n O σ F v xs) {j : Nat} {x : α} (hj : xs[j]? = some x) :
    ∃ (b o : Nat) (f : List Nat) (c A C : List Value) (r : Row), (∀ K : Value → Prop, K (.pointer (some ⟨b, o, none⟩)) → pIndexAddr n v (.int .i64 j) K) ∧ w0.heap.size ≤ b ∧ σ b = some r ∧ r.cells = A ++ (c ++ C) ∧ A.length = o ∧ O σ f c x ∧ b ∈ F ∧ (∀ i, i ∈ f → i ∈ F ∧ i ≠ b) ∧
      ∀ (σ' : Vw) (c' : List Value) (x' : α) (r' : Row), σ' b = some r' → r'.cells = A ++ (c' ++ C) → O σ' f c' x' → (∀ i, i ∈ F → i ≠ b → i ∉ f → σ' i = σ i) → OSl w0 n O σ' F v (xs.set j x') := by
  obtain ⟨h1, h2, ⟨rfl, rfl, _⟩ | ⟨b, off, cap, r, pre, post, css, Fs, rfl, gc, g2, g3, g4, g5, g6, g7, g8, g9⟩⟩ := h
  · simp at hj
  have hlt : j < xs.length := (List.getElem?_eq_some_iff.1 hj).1
  have hcj := List.getElem?_eq_getElem (show j < css.length by omega)
  have hfj := List.getElem?_eq_getElem (show j < Fs.length by omega)
  generalize hce : css[j]'(by omega) = c at hcj
  generalize hfe : Fs[j]'(by omega) = f at hfj
  have hO := g9 j c x f hcj hj hfj
  have hn : ∀ c, c ∈ css → c.length = n := fun c hc => by
    obtain ⟨i, hi⟩ := List.getElem?_of_mem hc
    have hil : i < css.length := (List.getElem?_eq_some_iff.1 hi).1
    exact ok.len _ _ _ _ (g9 i c _ _ hi (List.getElem?_eq_getElem (by omega)) (List.getElem?_eq_getElem (by omega)))
  have hA : (pre ++ (css.take j).flatten).length = off + j * n := by
    rw [List.length_append, g5, flat_len _ fun c hc => hn c (List.mem_of_mem_take hc), List.length_take]
    congr 2; omega
  rw [g8] at h2
  have hbf : b ∉ f := fun hb => (List.nodup_cons.1 h2).1 (List.mem_flatten.2 ⟨f, List.mem_of_getElem? hfj, hb⟩)
  refine ⟨b, off + j * n, f, c, pre ++ (css.take j).flatten, (css.drop (j + 1)).flatten ++ post, r, fun K hK => ?_, g2, g3, ?_, hA, hO, by rw [g8]; exact List.mem_cons_self, fun i hi => ⟨?_, fun e => hbf (e ▸ hi)⟩, ?_⟩
  · refine ⟨⟨b, off, none⟩, xs.length, cap, .i64, j, rfl, rfl, by omega, by omega, ?_⟩
    rw [addr_add]; exact hK
  · rw [g4, split_at hcj]; simp only [List.append_assoc]
  · rw [g8]; exact List.mem_cons_of_mem _ (List.mem_flatten.2 ⟨f, List.mem_of_getElem? hfj, hi⟩)
  · intro σ' c' x' r' hr' hcells hO' hrest
    have hlen' := ok.len _ _ _ _ hO'
    refine ⟨by rw [List.length_set]; exact h1, by rw [g8]; exact h2, .inr ⟨b, off, cap, r', pre, post, css.set j c', Fs, by rw [List.length_set], by rw [List.length_set]; exact gc, g2, hr', ?_, g5, by rw [List.length_set, List.length_set]; exact g6, by rw [List.length_set]; exact g7, g8, ?_⟩⟩
    · have hcj' : (css.set j c')[j]? = some c' := List.getElem?_set_self (by omega)
      rw [hcells, split_at hcj', List.take_set_of_le (Nat.le_refl j), List.drop_set_of_lt (by omega)]
      simp only [List.append_assoc]
    · intro i ci y fi e1 e2 e3
      by_cases hij : j = i
      · subst hij
        rw [List.getElem?_set_self (by omega)] at e1 e2
        cases e1; cases e2
        rw [hfj] at e3; cases e3
        exact hO'
      · rw [List.getElem?_set_ne hij] at e1 e2
        refine ok.frame _ _ _ _ _ (g9 i ci y fi e1 e2 e3) fun k hk => ?_
        have hkF : k ∈ Fs.flatten := List.mem_flatten.2 ⟨fi, List.mem_of_getElem? e3, hk⟩
        exact hrest k (by rw [g8]; exact List.mem_cons_of_mem _ hkF) (fun e => (List.nodup_cons.1 h2).1 (e ▸ hkF)) (nodup_at (List.nodup_cons.1 h2).2 e3 hfj (fun e => hij e.symm) k hk)

/-- A field of an element is written. -/
theorem field_store {b o off : Nat} {r : Row} {A c C : List Value} {y : Value} {K : Vw → Prop} (hr : σ b = some r) (hc : r.cells = A ++ (c ++ C)) (hA : A.length = o) (hoff : off < c.length) (hy : y.oneCell' = true)
    (hK : K (σ.put b { r with cells := A ++ (c.set off y ++ C) })) : pField off (.pointer (some ⟨b, o, none⟩)) fun q => pVal false 1 y (pStore q [y] σ K) := by
  rw [pField_s, pVal1 hy, addr_add]
  refine ⟨b, o + off, r, rfl, hr, ?_, ?_⟩
  · rw [hc]; simp only [List.length_append, List.length_singleton]; omega
  · have e : setAt r.cells (o + off) [y] = A ++ (c.set off y ++ C) := by
      simp only [setAt]
      rw [hc, List.set_append_right _ _ (by omega), List.set_append_left _ _ (by omega), hA]
      congr 3; omega
    rw [e]; exact hK
theorem elem_store {b o : Nat} {r : Row} {A C : List Value} {x y : Value} {K : Vw → Prop} (hr : σ b = some r) (hc : r.cells = A ++ ([x] ++ C)) (hA : A.length = o) (hy : y.oneCell' = true)
    (hK : K (σ.put b { r with cells := A ++ ([y] ++ C) })) : pVal false 1 y (pStore (.pointer (some ⟨b, o, none⟩)) [y] σ K) := by
  rw [pVal1 hy]
  refine ⟨b, o, r, rfl, hr, ?_, ?_⟩
  · rw [hc]; simp only [List.length_append, List.length_singleton]; omega
  · have e : setAt r.cells o [y] = A ++ ([y] ++ C) := by
      simp only [setAt]
      rw [hc, List.set_append_right _ _ (by omega), hA, Nat.sub_self]; rfl
    rw [e]; exact hK
/-- A field of an element is read. -/
theorem field_load {b o off : Nat} {r : Row} {A c C : List Value} {y : Value} {K : (Nat → Value) → Prop} (hb : w0.heap.size ≤ b) (hr : σ b = some r) (hc : r.cells = A ++ (c ++ C)) (hA : A.length = o) (hoff : c[off]? = some y)
    (hK : ∀ g : Nat → Value, g 0 = y → K g) : pField off (.pointer (some ⟨b, o, none⟩)) fun q => pLoad w0 1 q σ K := by
  rw [pField_s, addr_add]
  refine ⟨_, fun _ => y, rfl, fun j hj => ?_, hK _ rfl⟩
  have : j = 0 := by omega
  subst this
  have hlt : off < c.length := (List.getElem?_eq_some_iff.1 hoff).1
  rw [addr_add, get_row hb hr, hc, List.getElem?_append_right (by omega), List.getElem?_append_left (by omega)]
  rw [show o + off + 0 - A.length = off by omega]; exact hoff

/-! ### Marks -/
end
end Go.Av

/- The plain side, part 3: what the statement's reading of an argument says of the cells. -/
set_option linter.unusedVariables false
set_option linter.unusedSimpArgs false
namespace Go.Av
open Go Go.RowKit

def σ0 : Vw := fun _ => none

section
variable {H : Type} {enc : TypeId × Value → H} {P : Program} {W : World} {fuel : Nat} {cs : List Value} {x : DataW H × List MemPlace}

theorem sat0 (W : World) : Sat W σ0 W := ⟨Below.refl _ _, fun b r h => by cases h⟩

theorem get0 {a : Addr} {v : Value} (h : W.cell? a = some v) {σ : Vw} : Av.get W σ a = some v := by
  have hlt : a.block < W.heap.size := by
    rcases Nat.lt_or_ge a.block W.heap.size with h1 | h1
    · exact h1
    · have : W.heap[a.block]? = none := Array.getElem?_eq_none h1
      unfold World.cell? at h
      simp [this] at h
  unfold Av.get
  rw [if_pos hlt]; exact h

theorem listOf {α : Type} (p : Nat → α → Prop) : ∀ (n : Nat), (∀ i, i < n → ∃ x, p i x) → ∃ xs : List α, xs.length = n ∧ ∀ (j : Nat) (x : α), xs[j]? = some x → p j x
  | 0, _ => ⟨[], rfl, fun j x h => by simp at h⟩
  | n + 1, h => by
    obtain ⟨xs, hl, hx⟩ := listOf p n (fun i hi => h i (by omega))
    obtain ⟨y, hy⟩ := h n (by omega)
    refine ⟨xs ++ [y], by simp [hl], fun j x hj => ?_⟩
    by_cases e : j < xs.length
    · rw [List.getElem?_append_left e] at hj; exact hx j x hj
    · rw [List.getElem?_append_right (by omega)] at hj
      have : j - xs.length = 0 := by
        rcases Nat.eq_zero_or_pos (j - xs.length) with h0 | h0
        · exact h0
        · rw [List.getElem?_eq_none (by simp; omega)] at hj; cases hj
      rw [this] at hj
      simp at hj
      subst hj
      have : j = n := by omega
      subst this; exact hy

/-- A slice is opened, its elements by a rule of their own. -/
theorem open_rsl {α : Type} {t e n : Nat} {R : (Addr → Option Value) → List Value → α → Prop} {spare : Nat → Bool} (ht : P.underlying t = some (.slice e)) (hc : P.cellsOf e = n)
    (hR : ∀ (fuel : Nat) (es : List Value) (y : DataW H × List MemPlace), DataW.trod enc P W 0 spare true fuel e es = some y → es.length = n → ∃ x, R (Av.get W σ0) es x) (h : DataW.trod enc P W 0 spare true fuel t cs = some x) : ∃ v xs, cs = [v] ∧ RSl n R (Av.get W σ0) v xs := by
  rcases DataW.trod_slice ht h with ⟨rfl, _⟩ | ⟨a, len, cap, elems, rest, m, _, rfl, _, hb, hl, hm, hlen, hel, _, _⟩
  · exact ⟨_, [], rfl, none, 0, rfl, by simp, fun j x hj => by simp at hj⟩
  · have each : ∀ i, i < len → ∃ x : α, ∃ es : List Value, es.length = n ∧ (∀ k, k < n → Av.get W σ0 (a.add (i * n + k)) = es[k]?) ∧ R (Av.get W σ0) es x := by
      intro i hi
      have h1 := hel i hi
      rw [hc, List.getElem?_eq_getElem (by omega), Option.bind_eq_some_iff] at h1
      obtain ⟨es, h2, h3⟩ := h1
      obtain ⟨_, hes, hcell⟩ := World.cells?_some h2
      obtain ⟨x, hx⟩ := hR m es _ h3 hes
      refine ⟨x, es, hes, fun k hk => ?_, hx⟩
      have := hcell k hk
      rw [add_add] at this
      have hlt : k < es.length := by omega
      rw [List.getElem?_eq_getElem hlt] at this ⊢
      exact get0 this
    obtain ⟨xs, hxl, hxs⟩ := listOf _ len each
    have hmax : cap ≤ 9223372036854775807 := by have : maxLen = 9223372036854775807 := by decide
                                                omega
    refine ⟨_, xs, rfl, some a, cap, by rw [hxl], ⟨by omega, hmax⟩, fun j x hj => ?_⟩
    obtain ⟨es, g1, g2, g3⟩ := hxs j x hj
    exact ⟨a, es, rfl, g1, g2, g3⟩

def fsOf (P : Program) (t : Nat) : Array Field := match P.underlying t with | some (.struct fs) => fs | _ => #[]

/-- From the functions to the statement. -/
theorem AC.calls {f : FuncId} {args : List Value} {R : Value → Vw → Prop} (h : AC P W f args σ0 R) : Calls P f args.toArray W fun e W' => ∃ v σ', e = .returned v ∧ R v σ' ∧ Below W.heap.size W W' :=
  (h.2 W (sat0 W)).mono fun e W' ⟨v, σ', h1, h2, h3⟩ => ⟨v, σ', h1, h2, h3.sat.bel⟩
end
end Go.Av

/- The plain side, part 4: what the statement's reading of an argument says, with the fuel told; numbers, bools, texts. -/
set_option linter.unusedVariables false
set_option linter.unusedSimpArgs false
namespace Go.Av
open Go Go.RowKit

section
variable {H : Type} {enc : TypeId × Value → H} {P : Program} {W : World} {fuel : Nat} {cs : List Value} {x : DataW H × List MemPlace}

end
end Go.Av

/- The plain side, part 5: more operations at known values. -/
set_option linter.unusedVariables false
set_option linter.unusedSimpArgs false
namespace Go.Av
open Go Go.RowKit IntWalk

section
variable {P : Program} {w0 : World} {σ σ' : Vw}
theorem pConv_s {k k' : IntKind} {n : Int} {K : Value → Prop} : pConvInt k (.int k' n) K ↔ K (.int k (k.wrap n)) :=
  ⟨fun ⟨_, _, h, hK⟩ => by cases h; exact hK, fun h => ⟨_, _, rfl, h⟩⟩
theorem pConv_u8 {k' : IntKind} {n : Int} {K : Value → Prop} (h : 0 ≤ n ∧ n ≤ 255) : pConvInt .u8 (.int k' n) K ↔ K (.int .u8 n) := by rw [pConv_s, u8_in n h]
theorem pConv_i64 {k' : IntKind} {n : Int} {K : Value → Prop} (h : -9223372036854775808 ≤ n ∧ n ≤ 9223372036854775807) : pConvInt .i64 (.int k' n) K ↔ K (.int .i64 n) := by rw [pConv_s, i64_in n h]
theorem pBin_rem {T : Nat} {k : IntKind} {a b : Int} {K : Value → Prop} (h : 0 ≤ a ∧ 0 < b) : pBin P T .rem (.int k a) (.int k b) K ↔ K (.int k (a % b)) :=
  pBin_i (by simp only [aint]; rw [if_neg (by omega), Int.tmod_eq_emod_of_nonneg h.1])
theorem pBin_quo {T : Nat} {a b : Int} {K : Value → Prop} (h : 0 ≤ a ∧ a ≤ 9223372036854775807 ∧ 0 < b) : pBin P T .quo (.int .i64 a) (.int .i64 b) K ↔ K (.int .i64 (a / b)) :=
  pBin_i (by simp only [aint]; rw [if_neg (by omega), i64_quo a b (by omega)])
theorem pBin_cat {T : Nat} {a b : ByteArray} {K : Value → Prop} (h : a.size + b.size ≤ 9223372036854775807) : pBin P T .add (.string a) (.string b) K ↔ K (.string (a ++ b)) :=
  pBin_s (by
    have e : IntKind.i64.max = 9223372036854775807 := by decide
    simp only [astr, e]
    rw [if_neg (by omega)])
theorem pMin_s {k : IntKind} {a b : Int} {K : Value → Prop} : pMin (.int k a) (.int k b) K ↔ K (.int k (min a b)) := by
  have e : (if b < a then b else a) = min a b := by split <;> omega
  exact ⟨fun ⟨_, _, _, h1, h2, hK⟩ => by cases h1; cases h2; rw [e] at hK; exact hK, fun hK => ⟨_, _, _, rfl, rfl, by rw [e]; exact hK⟩⟩
theorem pMax_s {k : IntKind} {a b : Int} {K : Value → Prop} : pMax (.int k a) (.int k b) K ↔ K (.int k (max a b)) := by
  have e : (if b > a then b else a) = max a b := by split <;> omega
  exact ⟨fun ⟨_, _, _, h1, h2, hK⟩ => by cases h1; cases h2; rw [e] at hK; exact hK, fun hK => ⟨_, _, _, rfl, rfl, by rw [e]; exact hK⟩⟩
theorem pExtract_s {vs : List Value} {i : Nat} {v : Value} {K : Value → Prop} (h : vs[i]? = some v) : pExtract (.tuple ⟨vs⟩) i K ↔ K v := by
  obtain ⟨hl, he⟩ := List.getElem?_eq_some_iff.1 h
  exact ⟨fun ⟨_, e, hl', hK⟩ => by cases e; rw [he] at hK; exact hK, fun hK => ⟨_, rfl, hl, by rw [he]; exact hK⟩⟩
theorem pIndexStr_s {s : ByteArray} {j : Nat} {K : Value → Prop} (h : j < s.size) (hK : K (.int .u8 ((s[j]'h).toNat : Int))) : pIndexStr (.string s) (.int .i64 j) K :=
  ⟨s, .i64, j, rfl, rfl, by omega, h, hK⟩
theorem pSliceStr_s {s : ByteArray} {lo hi : Option Value} {l h : Int} {K : Value → Prop} (hl : boundOf 0 lo = some l) (hh : boundOf s.size hi = some h) (h0 : 0 ≤ l ∧ l ≤ h ∧ h ≤ s.size) (hK : K (.string (s.extract l.toNat h.toNat))) : pSliceStr (.string s) lo hi K :=
  ⟨s, l, h, rfl, hl, hh, h0.1, h0.2.1, h0.2.2, hK⟩
end
end Go.Av

/- Lists that grow by append, in a row of our own; elements that need no row; elements that are read in what is older. -/
set_option linter.unusedVariables false
set_option linter.unusedSimpArgs false
namespace Go.Av
open Go Go.RowKit

section
variable {P : Program} {w0 : World} {σ σ' : Vw} {α : Type}

/-! ### Elements that are read by a reader that is fixed -/
/-- What a rule of reading must keep. -/
structure ROk (n : Nat) (Rel : (Addr → Option Value) → List Value → α → Prop) : Prop where
  mono : ∀ rd rd' es x, Le rd rd' → Rel rd es x → Rel rd' es x
  len : ∀ rd es x, Rel rd es x → es.length = n
  one : ∀ rd es x, Rel rd es x → ∀ c, c ∈ es → c.oneCell' = true
/-! ### Elements that need no row -/
def RFl (enc : α → List Value) (good : α → Prop) (rd : Addr → Option Value) (es : List Value) (x : α) : Prop := es = enc x ∧ good x
def OFl (enc : α → List Value) (good : α → Prop) (σ : Vw) (F : List Nat) (es : List Value) (x : α) : Prop := F = [] ∧ es = enc x ∧ good x
theorem ok_fl {n : Nat} {enc : α → List Value} {good : α → Prop} (hl : ∀ x, (enc x).length = n) (ho : ∀ x c, c ∈ enc x → c.oneCell' = true) (w0 : World) : OOk w0 n (RFl enc good) (OFl enc good) := by
  refine ⟨?_, ?_, ?_, ?_, ?_, ?_⟩
  · rintro σ F es x ⟨_, h⟩; exact h
  · rintro σ σ' F es x h _; exact h
  · rintro σ F es x ⟨rfl, _⟩ b hb; cases hb
  · rintro σ F es x ⟨rfl, _⟩; exact List.nodup_nil
  · rintro σ F es x ⟨_, h, _⟩; rw [h]; exact hl x
  · rintro σ F es x ⟨_, h, _⟩; rw [h]; exact ho x

/-! ### Growing lists -/
def OAcc (w0 : World) (ety n : Nat) (O : Vw → List Nat → List Value → α → Prop) (σ : Vw) (F : List Nat) (v : Value) (xs : List α) : Prop :=
  xs.length ≤ 9223372036854775807 ∧ F.Nodup ∧ ((v = .slice none 0 0 ∧ xs = [] ∧ F = []) ∨
  ∃ (b cap : Nat) (css : List (List Value)) (Fs : List (List Nat)), v = .slice (some ⟨b, 0, none⟩) xs.length cap ∧ (xs.length ≤ cap ∧ cap ≤ 9223372036854775807) ∧ w0.heap.size ≤ b ∧ σ b = some ⟨ety, css.flatten, cap * n, (0, 0)⟩ ∧
    css.length = xs.length ∧ Fs.length = xs.length ∧ F = b :: Fs.flatten ∧ ∀ (j : Nat) (c : List Value) (x : α) (f : List Nat), css[j]? = some c → xs[j]? = some x → Fs[j]? = some f → O σ f c x)

theorem OAcc.osl {ety n : Nat} {O : Vw → List Nat → List Value → α → Prop} {F : List Nat} {v : Value} {xs : List α} (h : OAcc w0 ety n O σ F v xs) : OSl w0 n O σ F v xs := by
  obtain ⟨h1, h2, h3 | ⟨b, cap, css, Fs, g1, g2, g3, g4, g5, g6, g7, g8⟩⟩ := h
  · exact ⟨h1, h2, .inl h3⟩
  · exact ⟨h1, h2, .inr ⟨b, 0, cap, _, [], [], css, Fs, g1, g2, g3, g4, by simp, rfl, g5, g6, g7, g8⟩⟩
theorem OAcc.frame {ety n : Nat} {Rel : (Addr → Option Value) → List Value → α → Prop} {O : Vw → List Nat → List Value → α → Prop} (ok : OOk w0 n Rel O) {F : List Nat} {v : Value} {xs : List α} (h : OAcc w0 ety n O σ F v xs) (hF : ∀ b, b ∈ F → σ' b = σ b) : OAcc w0 ety n O σ' F v xs := by
  obtain ⟨h1, h2, h3 | ⟨b, cap, css, Fs, g1, g2, g3, g4, g5, g6, g7, g8⟩⟩ := h
  · exact ⟨h1, h2, .inl h3⟩
  · refine ⟨h1, h2, .inr ⟨b, cap, css, Fs, g1, g2, g3, by rw [hF b (by rw [g7]; exact List.mem_cons_self)]; exact g4, g5, g6, g7, fun j c x f e1 e2 e3 => ?_⟩⟩
    refine ok.frame _ _ _ _ _ (g8 j c x f e1 e2 e3) fun i hi => hF i ?_
    rw [g7]
    exact List.mem_cons_of_mem _ (List.mem_flatten.2 ⟨f, List.mem_of_getElem? e3, hi⟩)
theorem OAcc.dom {ety n : Nat} {Rel : (Addr → Option Value) → List Value → α → Prop} {O : Vw → List Nat → List Value → α → Prop} (ok : OOk w0 n Rel O) {F : List Nat} {v : Value} {xs : List α} (h : OAcc w0 ety n O σ F v xs) : ∀ b, b ∈ F → w0.heap.size ≤ b ∧ σ b ≠ none := h.osl.dom ok
theorem OAcc.nil {ety n : Nat} {O : Vw → List Nat → List Value → α → Prop} : OAcc w0 ety n O σ [] (.slice none 0 0) [] := ⟨by simp, by simp, .inl ⟨rfl, rfl, rfl⟩⟩
theorem OAcc.new {ety n b : Nat} {O : Vw → List Nat → List Value → α → Prop} (hb : w0.heap.size ≤ b) : OAcc w0 ety n O (σ.put b ⟨ety, [], 0, (0, 0)⟩) [b] (.slice (some ⟨b, 0, none⟩) 0 0) [] :=
  ⟨by simp, by simp, .inr ⟨b, 0, [], [], rfl, by simp, hb, by rw [put_at]; simp, rfl, rfl, rfl, fun j c x f h => by simp at h⟩⟩

theorem Keeps.but_at {F : List Nat} (h : Keeps σ σ') (hF : ∀ b, b ∈ F → σ b ≠ none) : ∀ b, b ∈ F → σ' b = σ b := fun b hb => by
  cases hs : σ b with
  | none => exact absurd hs (hF b hb)
  | some r => exact h b r hs

/-- Elements are appended, each with rows of its own. -/
theorem OAcc.pushX {ety n bytes m : Nat} {Rel : (Addr → Option Value) → List Value → α → Prop} {O : Vw → List Nat → List Value → α → Prop} (ok : OOk w0 n Rel O) {F : List Nat} {v : Value} {xs ys : List α} {nss : List (List Value)} {Gs : List (List Nat)} {new : List Value}
    (h : OAcc w0 ety n O σ F v xs) (hm : ys.length = m) (hnl : nss.length = m) (hGl : Gs.length = m) (hnew : new = nss.flatten) (hO : ∀ (j : Nat) (c : List Value) (y : α) (g : List Nat), nss[j]? = some c → ys[j]? = some y → Gs[j]? = some g → O σ g c y)
    (hG : Gs.flatten.Nodup) (hGF : ∀ i, i ∈ Gs.flatten → i ∉ F) (hlen : xs.length + m ≤ 1000000000000) (hbytes : bytes ≤ 140) {K : Value → Vw → Prop}
    (hK : ∀ v' F' σ', Ext σ σ' → KeepsBut F σ σ' → OAcc w0 ety n O σ' F' v' (xs ++ ys) → (∀ i, i ∈ F' → i ∈ F ∨ i ∈ Gs.flatten ∨ σ i = none) → K v' σ') : pAppend w0 ety n bytes v m new σ K := by
  have hb47 : (xs.length + m) * bytes ≤ 2 ^ 47 := by
    have h1 : (xs.length + m) * bytes ≤ 1000000000000 * 140 := Nat.mul_le_mul hlen hbytes
    have h2 : (2 : Nat) ^ 47 = 140737488355328 := by decide
    omega
  have hn2 : ∀ c, c ∈ nss → c.length = n := fun c hc => by
    obtain ⟨i, hi⟩ := List.getElem?_of_mem hc
    have hil : i < nss.length := (List.getElem?_eq_some_iff.1 hi).1
    exact ok.len _ _ _ _ (hO i c _ _ hi (List.getElem?_eq_getElem (by omega)) (List.getElem?_eq_getElem (by omega)))
  have hnewl : new.length = m * n := by rw [hnew, flat_len _ hn2, hnl]
  have hGdom : ∀ i, i ∈ Gs.flatten → σ i ≠ none := fun i hi => by
    obtain ⟨j, f, e1, e2⟩ := mem_flat hi
    have hj : j < Gs.length := (List.getElem?_eq_some_iff.1 e1).1
    exact (ok.dom _ _ _ _ (hO j _ _ f (List.getElem?_eq_getElem (by omega)) (List.getElem?_eq_getElem (by omega)) e1) i e2).2
  obtain ⟨h1, h2, ⟨rfl, rfl, rfl⟩ | ⟨b, cap, css, Fs, rfl, g2, g3, g4, g5, g6, g7, g8⟩⟩ := h
  · refine .inr (.inl ⟨0, [], ⟨by simp, .inl ⟨rfl, rfl⟩⟩, hnewl, by simpa using (by omega : m ≤ 9223372036854775807), by simpa using hb47, fun v' σ' hg => ?_⟩)
    rcases hg with ⟨rfl, rfl, _, h0, _⟩ | ⟨b', c', rfl, g1, g2, rfl, g3, g4⟩
    · have : m = 0 := by omega
      subst this
      have hy : ys = [] := List.length_eq_zero_iff.1 hm
      subst hy
      exact hK _ [] _ (Ext.refl _) (KeepsBut.refl _ _) (by simpa using OAcc.nil) (fun i hi => by cases hi)
    · have hb' : σ b' = none := by
        rcases g4 with h | ⟨n0, c0, h⟩
        · exact h
        · cases h
      have hbG : b' ∉ Gs.flatten := fun hi => hGdom b' hi hb'
      refine hK _ (b' :: Gs.flatten) _ (Keeps.put hb').ext (Keeps.put hb').but ?_ fun i hi => ?_
      · refine ⟨by simp; omega, List.nodup_cons.2 ⟨hbG, hG⟩, .inr ⟨b', c', nss, Gs, by simp [hm], by simp [hm]; omega, g3, by rw [put_at]; simp [hnew], by simp [hm, hnl], by simp [hm, hGl], rfl, fun j c x f e1 e2 e3 => ?_⟩⟩
        simp only [List.nil_append] at e2
        refine ok.frame _ _ _ _ _ (hO j c x f e1 e2 e3) fun i hi => ?_
        have : i ≠ b' := fun e => hbG (e ▸ List.mem_flatten.2 ⟨f, List.mem_of_getElem? e3, hi⟩)
        simp [Vw.put, this]
      · rcases List.mem_cons.1 hi with e | e
        · rw [e]; exact .inr (.inr hb')
        · exact .inr (.inl e)
  · have hn1 : ∀ c, c ∈ css → c.length = n := fun c hc => by
      obtain ⟨i, hi⟩ := List.getElem?_of_mem hc
      have hil : i < css.length := (List.getElem?_eq_some_iff.1 hi).1
      exact ok.len _ _ _ _ (g8 i c _ _ hi (List.getElem?_eq_getElem (by omega)) (List.getElem?_eq_getElem (by omega)))
    have g4' := g4
    rw [g7] at h2
    have hbFs : b ∉ Fs.flatten := (List.nodup_cons.1 h2).1
    have hbG : b ∉ Gs.flatten := fun hi => hGF b hi (by rw [g7]; exact List.mem_cons_self)
    have hFsdom : ∀ i, i ∈ Fs.flatten → σ i ≠ none := fun i hi => by
      obtain ⟨j, f, e1, e2⟩ := mem_flat hi
      have hj : j < Fs.length := (List.getElem?_eq_some_iff.1 e1).1
      exact (ok.dom _ _ _ _ (g8 j _ _ f (List.getElem?_eq_getElem (by omega)) (List.getElem?_eq_getElem (by omega)) e1) i e2).2
    refine .inr (.inl ⟨xs.length, css.flatten, ⟨by rw [flat_len _ hn1, g5], .inr ⟨b, cap, rfl, g4, g2.1, g2.2⟩⟩, hnewl, by omega, hb47, fun v' σ' hg => ?_⟩)
    rcases hg with ⟨rfl, rfl, h, _⟩ | ⟨b', c', rfl, k1, k2, rfl, k3, k4⟩
    · cases h
    · have hb' : b' ∉ Fs.flatten ∧ b' ∉ Gs.flatten ∧ (b' = b ∨ σ b' = none) := by
        rcases k4 with h | ⟨n0, c0, h⟩
        · exact ⟨fun hi => hFsdom b' hi h, fun hi => hGdom b' hi h, .inr h⟩
        · cases h; exact ⟨hbFs, hbG, .inl rfl⟩
      refine hK _ (b' :: (Fs ++ Gs).flatten) _ ?_ ?_ ?_ fun i hi => ?_
      · rcases hb'.2.2 with rfl | h
        · intro i r hi
          by_cases e : i = b'
          · subst e
            rw [g4'] at hi; cases hi
            exact ⟨_, put_at, List.prefix_append _ _⟩
          · exact ⟨r, by simp [Vw.put, e, hi], List.prefix_refl _⟩
        · exact (Keeps.put h).ext
      · rcases hb'.2.2 with rfl | h
        · exact KeepsBut.put (by rw [g7]; exact List.mem_cons_self)
        · exact (Keeps.put h).but
      · refine ⟨by simp; omega, ?_, .inr ⟨b', c', css ++ nss, Fs ++ Gs, by simp [hm], by simp [hm]; omega, k3, by rw [put_at, hnew]; simp, by simp [hm, hnl, g5], by simp [hm, hGl, g6], rfl, fun j c x f e1 e2 e3 => ?_⟩⟩
        · rw [List.flatten_append, List.nodup_cons]
          refine ⟨fun hi => ?_, List.nodup_append.2 ⟨(List.nodup_cons.1 h2).2, hG, fun a ha d hd e => hGF d hd (by rw [g7, ← e]; exact List.mem_cons_of_mem _ ha)⟩⟩
          rcases List.mem_append.1 hi with h | h
          · exact hb'.1 h
          · exact hb'.2.1 h
        · have hput : ∀ i, i ≠ b' → (σ.put b' ⟨ety, css.flatten ++ new, c' * n, (0, 0)⟩) i = σ i := fun i hi => by simp [Vw.put, hi]
          by_cases hj : j < xs.length
          · rw [List.getElem?_append_left (by omega)] at e1 e2 e3
            exact ok.frame _ _ _ _ _ (g8 j c x f e1 e2 e3) fun i hi => hput i fun e => hb'.1 (e ▸ List.mem_flatten.2 ⟨f, List.mem_of_getElem? e3, hi⟩)
          · rw [List.getElem?_append_right (by omega)] at e1 e2 e3
            rw [g5] at e1; rw [g6] at e3
            exact ok.frame _ _ _ _ _ (hO _ c x f e1 e2 e3) fun i hi => hput i fun e => hb'.2.1 (e ▸ List.mem_flatten.2 ⟨f, List.mem_of_getElem? e3, hi⟩)
      · rw [g7]
        rcases List.mem_cons.1 hi with e | e
        · rw [e]
          rcases hb'.2.2 with rfl | h
          · exact .inl List.mem_cons_self
          · exact .inr (.inr h)
        · rw [List.flatten_append] at e
          rcases List.mem_append.1 e with h | h
          · exact .inl (List.mem_cons_of_mem _ h)
          · exact .inr (.inl h)

/-- One element is appended. -/
theorem OAcc.oneX {ety n bytes : Nat} {Rel : (Addr → Option Value) → List Value → α → Prop} {O : Vw → List Nat → List Value → α → Prop} (ok : OOk w0 n Rel O) {F f : List Nat} {v : Value} {xs : List α} {y : α} {es : List Value}
    (h : OAcc w0 ety n O σ F v xs) (hy : O σ f es y) (hf : ∀ i, i ∈ f → i ∉ F) (hlen : xs.length + 1 ≤ 1000000000000) (hbytes : bytes ≤ 140) {K : Value → Vw → Prop}
    (hK : ∀ v' F' σ', Ext σ σ' → KeepsBut F σ σ' → OAcc w0 ety n O σ' F' v' (xs ++ [y]) → (∀ i, i ∈ F' → i ∈ F ∨ i ∈ f ∨ σ i = none) → K v' σ') : allOne es ∧ pAppend w0 ety n bytes v 1 es σ K := by
  refine ⟨ok.one _ _ _ _ hy, ?_⟩
  refine h.pushX ok (ys := [y]) (nss := [es]) (Gs := [f]) rfl rfl rfl (by simp) (fun j c z g e1 e2 e3 => ?_) (by simpa using ok.nodup _ _ _ _ hy) (by simpa using hf) hlen hbytes (by simpa using hK)
  cases j with
  | zero => simp at e1 e2 e3; subst e1 e2 e3; exact hy
  | succ j => simp at e1

/-- All elements of a list that is read are appended; they need no rows of their own. -/
theorem OAcc.allX {ety n bytes : Nat} {Rel Rel0 : (Addr → Option Value) → List Value → α → Prop} {O : Vw → List Nat → List Value → α → Prop} (ok : OOk w0 n Rel O) {rd0 : Addr → Option Value} {F : List Nat} {v s : Value} {xs ys : List α}
    (h : OAcc w0 ety n O σ F v xs) (hs : RSl n Rel0 rd0 s ys) (hle : Le rd0 (Av.get w0 σ)) (hO : ∀ es y, Rel0 rd0 es y → O σ [] es y) (hlen : xs.length + ys.length ≤ 1000000000000) (hbytes : bytes ≤ 140) {K : Value → Vw → Prop}
    (hK : ∀ v' F' σ', Ext σ σ' → KeepsBut F σ σ' → OAcc w0 ety n O σ' F' v' (xs ++ ys) → (∀ i, i ∈ F' → i ∈ F ∨ σ i = none) → K v' σ') : pAppendS w0 ety n bytes v s σ K := by
  obtain ⟨A, cap, rfl, hc, hel⟩ := hs
  obtain ⟨css, hcl, hcs⟩ := listOf (fun i (c : List Value) => ∃ a y, A = some a ∧ ys[i]? = some y ∧ c.length = n ∧ (∀ k, k < n → rd0 (a.add (i * n + k)) = c[k]?) ∧ Rel0 rd0 c y) ys.length (fun i hi => by
    obtain ⟨a, es, h1, h2, h3, h4⟩ := hel i _ (List.getElem?_eq_getElem hi)
    exact ⟨es, a, _, h1, List.getElem?_eq_getElem hi, h2, h3, h4⟩)
  have hn : ∀ c, c ∈ css → c.length = n := fun c hc => by
    obtain ⟨i, hi⟩ := List.getElem?_of_mem hc
    obtain ⟨_, _, _, _, h, _⟩ := hcs i c hi
    exact h
  refine ⟨A, ys.length, cap, css.flatten, rfl, by rw [flat_len _ hn, hcl], ?_, ?_, ?_⟩
  · intro c hc
    obtain ⟨es, he, hce⟩ := List.mem_flatten.1 hc
    obtain ⟨i, hi⟩ := List.getElem?_of_mem he
    obtain ⟨a, y, _, _, _, _, hR⟩ := hcs i es hi
    exact ok.one _ _ _ _ (hO _ _ hR) c hce
  · intro j hj
    rw [flat_len _ hn, hcl] at hj
    have hn0 : 0 < n := by
      rcases Nat.eq_zero_or_pos n with e | e
      · subst e; omega
      · exact e
    have hq : j / n < css.length := by rw [hcl]; exact (Nat.div_lt_iff_lt_mul hn0).2 hj
    obtain ⟨a, y, hA, hy, hl, hk, hR⟩ := hcs (j / n) _ (List.getElem?_eq_getElem hq)
    have hr : j % n < n := Nat.mod_lt _ hn0
    have hdm : j / n * n + j % n = j := by rw [Nat.mul_comm]; exact Nat.div_add_mod j n
    refine ⟨a, hA, ?_⟩
    have e1 := flat_get css hn (j / n) _ (List.getElem?_eq_getElem hq) (j % n) hr
    rw [hdm] at e1
    have e2 := hk (j % n) hr
    rw [hdm, ← e1] at e2
    have hj' : j < css.flatten.length := by rw [flat_len _ hn, hcl]; exact hj
    rw [List.getElem?_eq_getElem hj'] at e2
    exact hle _ _ e2
  · refine h.pushX ok (ys := ys) (nss := css) (Gs := List.replicate ys.length []) rfl hcl (by simp) rfl (fun j c y g e1 e2 e3 => ?_) (by simp) (by simp) hlen hbytes (by simpa using hK)
    obtain ⟨a, y', _, hy, _, _, hR⟩ := hcs j c e1
    rw [e2] at hy; cases hy
    rw [List.getElem?_replicate] at e3
    split at e3
    · cases e3; exact hO _ _ hR
    · cases e3

theorem OAcc.one {ety n bytes : Nat} {Rel : (Addr → Option Value) → List Value → α → Prop} {O : Vw → List Nat → List Value → α → Prop} (ok : OOk w0 n Rel O) {F f : List Nat} {v : Value} {xs : List α} {y : α} {es : List Value}
    (h : OAcc w0 ety n O σ F v xs) (hy : O σ f es y) (hf : ∀ i, i ∈ f → i ∉ F) (hlen : xs.length + 1 ≤ 1000000000000) (hbytes : bytes ≤ 140) {K : Value → Vw → Prop}
    (hK : ∀ v' F' σ', KeepsBut F σ σ' → OAcc w0 ety n O σ' F' v' (xs ++ [y]) → (∀ i, i ∈ F' → i ∈ F ∨ i ∈ f ∨ σ i = none) → K v' σ') : allOne es ∧ pAppend w0 ety n bytes v 1 es σ K :=
  OAcc.oneX ok h hy hf hlen hbytes fun v' F' σ' _ => hK v' F' σ'
theorem OAcc.all {ety n bytes : Nat} {Rel Rel0 : (Addr → Option Value) → List Value → α → Prop} {O : Vw → List Nat → List Value → α → Prop} (ok : OOk w0 n Rel O) {rd0 : Addr → Option Value} {F : List Nat} {v s : Value} {xs ys : List α}
    (h : OAcc w0 ety n O σ F v xs) (hs : RSl n Rel0 rd0 s ys) (hle : Le rd0 (Av.get w0 σ)) (hO : ∀ es y, Rel0 rd0 es y → O σ [] es y) (hlen : xs.length + ys.length ≤ 1000000000000) (hbytes : bytes ≤ 140) {K : Value → Vw → Prop}
    (hK : ∀ v' F' σ', KeepsBut F σ σ' → OAcc w0 ety n O σ' F' v' (xs ++ ys) → (∀ i, i ∈ F' → i ∈ F ∨ σ i = none) → K v' σ') : pAppendS w0 ety n bytes v s σ K :=
  OAcc.allX ok h hs hle hO hlen hbytes fun v' F' σ' _ => hK v' F' σ'
end
end Go.Av

/- A part of a list that is read; slices of texts. -/
set_option linter.unusedVariables false
set_option linter.unusedSimpArgs false
namespace Go.Av
open Go Go.RowKit

section
variable {P : Program} {w0 : World} {σ σ' : Vw} {α : Type}

theorem RSl.slice {n : Nat} {R : (Addr → Option Value) → List Value → α → Prop} {rd : Addr → Option Value} {v : Value} {xs : List α} (h : RSl n R rd v xs) {lo hi : Option Value} {l u : Nat} (hl : boundOf 0 lo = some (l : Int)) (hu : boundOf xs.length hi = some (u : Int)) (hlu : l ≤ u) (hux : u ≤ xs.length) {K : Value → Prop}
    (hK : ∀ v', RSl n R rd v' ((xs.take u).drop l) → K v') : pSlice n v lo hi K := by
  obtain ⟨A, cap, rfl, h2, h3⟩ := h
  refine ⟨A, xs.length, cap, l, u, rfl, hl, hu, by omega, by omega, by omega, hK _ ?_⟩
  have hlen : ((xs.take u).drop l).length = u - l := by rw [List.length_drop, List.length_take]; omega
  simp only [Int.toNat_natCast]
  refine ⟨if cap = l then A else Option.map (fun x => x.add (l * n)) A, cap - l, by rw [hlen], by rw [hlen]; omega, fun j x hj => ?_⟩
  rw [List.getElem?_drop] at hj
  have hlt : l + j < u := by
    rcases Nat.lt_or_ge (l + j) u with h | h
    · exact h
    · rw [List.getElem?_eq_none (by rw [List.length_take]; omega)] at hj; cases hj
  rw [List.getElem?_take_of_lt hlt] at hj
  obtain ⟨a, es, rfl, g1, g2, g3⟩ := h3 _ x hj
  refine ⟨a.add (l * n), es, ?_, g1, fun i hi => ?_, g3⟩
  · rw [if_neg (by omega)]; rfl
  · rw [add_add, ← g2 i hi]
    congr 2
    rw [Nat.add_mul]; omega

theorem RSl.atfp {n : Nat} {R : (Addr → Option Value) → List Value → α → Prop} {v : Value} {xs : List α} (h : RSl n R (Av.get w0 σ) v xs) {j : Nat} {x : α} (hj : xs[j]? = some x) (o : Nat) (ho : o < n) {K : Value → (Nat → Value) → Prop} (hK : ∀ (q : Value) (es : List Value) (g : Nat → Value), R (Av.get w0 σ) es x → es[o]? = some (g 0) → K q g) :
    pIndexAddr n v (.int .i64 j) fun p => pField o p fun q => pLoad w0 1 q σ (K q) := by
  obtain ⟨A, cap, rfl, _, h3⟩ := h
  obtain ⟨a, es, rfl, h5, h6, h7⟩ := h3 j x hj
  have hlt : j < xs.length := (List.getElem?_eq_some_iff.1 hj).1
  refine ⟨a, xs.length, cap, .i64, j, rfl, rfl, by omega, by omega, a.add (j * n), rfl, (a.add (j * n)).add o, fun _ => es.getD o undef, rfl, fun i hi => ?_, hK _ es _ h7 ?_⟩
  · have e : i = 0 := by omega
    subst e
    have := h6 o ho
    rw [add_add, add_add, Nat.add_zero, this, List.getElem?_eq_getElem (by omega)]
    simp only [List.getD_eq_getElem?_getD, List.getElem?_eq_getElem (show o < es.length by omega), Option.getD_some]
  · simp only [List.getD_eq_getElem?_getD, List.getElem?_eq_getElem (show o < es.length by omega), Option.getD_some]

theorem RSl.atf {n : Nat} {R : (Addr → Option Value) → List Value → α → Prop} {v : Value} {xs : List α} (h : RSl n R (Av.get w0 σ) v xs) {j : Nat} {x : α} (hj : xs[j]? = some x) (o : Nat) (ho : o < n) {K : (Nat → Value) → Prop} (hK : ∀ (es : List Value) (g : Nat → Value), R (Av.get w0 σ) es x → es[o]? = some (g 0) → K g) :
    pIndexAddr n v (.int .i64 j) fun p => pField o p fun q => pLoad w0 1 q σ K :=
  h.atfp hj o ho fun q => hK

/-- A run of rounds over a list. -/
theorem foldl_take {β : Type} {f : β → α → β} {b : β} {xs : List α} {j : Nat} {x : α} (hj : xs[j]? = some x) : (xs.take (j + 1)).foldl f b = f ((xs.take j).foldl f b) x := by
  rw [List.take_add_one, hj, Option.toList_some, List.foldl_append]; rfl
end
end Go.Av

/- Texts as lists of bytes; what is cut at a byte; decimals. Plain. -/
set_option linter.unusedVariables false
set_option linter.unusedSimpArgs false
namespace Go.Av
open Go Go.RowKit

abbrev bl (s : ByteArray) : List UInt8 := s.data.toList
def ofL (l : List UInt8) : ByteArray := ⟨l.toArray⟩
theorem bl_ofL (l : List UInt8) : bl (ofL l) = l := rfl
theorem bl_inj {a b : ByteArray} (h : bl a = bl b) : a = b := by
  cases a; cases b
  simp only [ByteArray.mk.injEq]
  exact Array.toList_inj.1 h
theorem ofL_bl (s : ByteArray) : ofL (bl s) = s := bl_inj (bl_ofL _)
theorem size_bl (s : ByteArray) : (bl s).length = s.size := by
  show s.data.toList.length = s.data.size
  simp
theorem size_ofL (l : List UInt8) : (ofL l).size = l.length := by rw [← size_bl, bl_ofL]
theorem bl_append (a b : ByteArray) : bl (a ++ b) = bl a ++ bl b := by
  show (a ++ b).data.toList = _
  rw [ByteArray.data_append, Array.toList_append]
theorem ofL_append (a b : List UInt8) : ofL a ++ ofL b = ofL (a ++ b) := bl_inj (by rw [bl_append, bl_ofL, bl_ofL, bl_ofL])
theorem bl_extract (s : ByteArray) (i j : Nat) : bl (s.extract i j) = ((bl s).drop i).take (j - i) := by
  simp [bl, ByteArray.data_extract, Array.toList_extract, List.extract_eq_take_drop]
theorem bl_get (s : ByteArray) (i : Nat) (h : i < s.size) : (bl s)[i]? = some (s[i]'h) := by
  rw [List.getElem?_eq_getElem (by rw [size_bl]; exact h)]
  rfl
theorem bl_byte (n : Nat) : bl (strOfNums [((n % 256 : Nat) : Int)]) = [UInt8.ofNat n] := by
  simp only [bl, strOfNums, List.map_cons, List.map_nil]
  congr 1
  apply UInt8.toNat_inj.1
  simp
  omega

/-- What lies between the places of a byte. -/
def cutL (c : UInt8) : List UInt8 → List (List UInt8)
  | [] => [[]]
  | b :: r => if b = c then [] :: cutL c r else match cutL c r with
    | h :: t => (b :: h) :: t
    | [] => [[b]]
theorem cutL_ne (c : UInt8) : ∀ l, cutL c l ≠ []
  | [] => by simp [cutL]
  | b :: r => by
    unfold cutL
    split
    · simp
    · split
      · simp
      · simp
theorem cutL_none {c : UInt8} : ∀ {l : List UInt8}, c ∉ l → cutL c l = [l]
  | [], _ => rfl
  | b :: r, h => by
    have h1 : b ≠ c := fun e => h (e ▸ List.mem_cons_self)
    have h2 : c ∉ r := fun e => h (List.mem_cons_of_mem _ e)
    unfold cutL
    rw [if_neg h1, cutL_none h2]
theorem cutL_at {c : UInt8} : ∀ {a r : List UInt8}, c ∉ a → cutL c (a ++ c :: r) = a :: cutL c r
  | [], r, _ => by simp [cutL]
  | b :: a, r, h => by
    have h1 : b ≠ c := fun e => h (e ▸ List.mem_cons_self)
    have h2 : c ∉ a := fun e => h (List.mem_cons_of_mem _ e)
    rw [List.cons_append]
    conv => lhs; unfold cutL
    rw [if_neg h1, cutL_at h2]
theorem cutL_len_le (c : UInt8) : ∀ l : List UInt8, (cutL c l).length ≤ l.length + 1
  | [] => by simp [cutL]
  | b :: r => by
    have := cutL_len_le c r
    unfold cutL
    split
    · simp only [List.length_cons]; omega
    · split
      · rename_i h t e
        rw [e] at this
        simp only [List.length_cons] at this ⊢; omega
      · simp
theorem cutL_mem {c : UInt8} : ∀ {l w : List UInt8}, w ∈ cutL c l → c ∉ w ∧ w.length ≤ l.length
  | [], w, h => by simp [cutL] at h; subst h; simp
  | b :: r, w, h => by
    unfold cutL at h
    split at h
    · rcases List.mem_cons.1 h with e | e
      · subst e; simp
      · have := cutL_mem e; exact ⟨this.1, by simp only [List.length_cons]; omega⟩
    · rename_i hb
      split at h
      · rename_i x t e
        rcases List.mem_cons.1 h with e' | e'
        · subst e'
          have := cutL_mem (c := c) (l := r) (w := x) (by rw [e]; exact List.mem_cons_self)
          refine ⟨fun hc => ?_, by simp only [List.length_cons]; omega⟩
          rcases List.mem_cons.1 hc with e'' | e''
          · exact hb e''.symm
          · exact this.1 e''
        · have := cutL_mem (c := c) (l := r) (w := w) (by rw [e]; exact List.mem_cons_of_mem _ e')
          exact ⟨this.1, by simp only [List.length_cons]; omega⟩
      · rename_i e
        exact absurd e (cutL_ne c r)
/-- The pieces of a text. -/
def cutS (c : UInt8) (s : ByteArray) : List ByteArray := (cutL c (bl s)).map ofL
theorem cutS_len (c : UInt8) (s : ByteArray) : (cutS c s).length ≤ s.size + 1 := by
  have := cutL_len_le c (bl s)
  rw [size_bl] at this
  simpa [cutS] using this
theorem cutS_pos (c : UInt8) (s : ByteArray) : 0 < (cutS c s).length := by
  have := cutL_ne c (bl s)
  simp only [cutS, List.length_map]
  exact List.length_pos_iff.2 this
theorem cutS_mem {c : UInt8} {s w : ByteArray} (h : w ∈ cutS c s) : w.size ≤ s.size := by
  obtain ⟨l, hl, rfl⟩ := List.mem_map.1 h
  have := (cutL_mem hl).2
  rw [size_bl] at this
  rw [size_ofL]; exact this

/-! ### Decimals -/
def dig (n : Nat) : UInt8 := UInt8.ofNat (48 + n % 10)
def decL (k : Nat) : List UInt8 := if h : k < 10 then [dig k] else decL (k / 10) ++ [dig k]
termination_by k
decreasing_by omega
theorem decL_small {k : Nat} (h : k < 10) : decL k = [dig k] := by rw [decL, dif_pos h]
theorem decL_big {k : Nat} (h : ¬ k < 10) : decL k = decL (k / 10) ++ [dig k] := by rw [decL, dif_neg h]
theorem decL_len (k : Nat) : 1 ≤ (decL k).length ∧ (decL k).length ≤ k / 10 + 1 := by
  induction k using Nat.strongRecOn with
  | _ k ih =>
    by_cases h : k < 10
    · rw [decL_small h]; simp
    · rw [decL_big h]
      have := ih (k / 10) (by omega)
      simp only [List.length_append, List.length_singleton]
      omega
/-- A number's figures. -/
def decN (k : Nat) : ByteArray := ofL (decL k)
def minText : ByteArray := ⟨#[45, 57, 50, 50, 51, 51, 55, 50, 48, 51, 54, 56, 53, 52, 55, 55, 53, 56, 48, 56]⟩
def decZ (n : Int) : ByteArray := if n < 0 then ⟨#[45]⟩ ++ decN (-n).toNat else decN n.toNat
theorem decN_size (k : Nat) : 1 ≤ (decN k).size ∧ (decN k).size ≤ k / 10 + 1 := by
  rw [decN, size_ofL]; exact decL_len k
theorem decZ_nat (k : Nat) : decZ (k : Int) = decN k := by
  unfold decZ
  rw [if_neg (by omega), Int.toNat_natCast]
theorem decZ_size {n : Int} (h : -9223372036854775808 ≤ n ∧ n ≤ 9223372036854775807) : (decZ n).size ≤ 922337203685477583 := by
  unfold decZ
  split
  · have := (decN_size (-n).toNat).2
    rw [ByteArray.size_append]
    have e : (⟨#[45]⟩ : ByteArray).size = 1 := rfl
    rw [e]; omega
  · have := (decN_size n.toNat).2
    omega
theorem dig_toNat (n : Nat) : (dig n).toNat = 48 + n % 10 := by
  unfold dig
  simp
  omega
theorem decL_digits : ∀ (k : Nat) (b : UInt8), b ∈ decL k → 48 ≤ b.toNat ∧ b.toNat ≤ 57 := by
  intro k
  induction k using Nat.strongRecOn with
  | _ k ih =>
    intro b hb
    by_cases h : k < 10
    · rw [decL_small h, List.mem_singleton] at hb
      subst hb
      rw [dig_toNat]; omega
    · rw [decL_big h] at hb
      rcases List.mem_append.1 hb with e | e
      · exact ih (k / 10) (by omega) b e
      · rw [List.mem_singleton.1 e, dig_toNat]; omega

/-- The number of figures, read on from one. -/
def valL : List UInt8 → Nat → Nat
  | [], n => n
  | b :: r, n => valL r (n * 10 + (b.toNat - 48))
theorem valL_append : ∀ (a b : List UInt8) (n : Nat), valL (a ++ b) n = valL b (valL a n)
  | [], _, _ => rfl
  | x :: a, b, n => valL_append a b _
theorem valL_dec (k : Nat) : valL (decL k) 0 = k := by
  induction k using Nat.strongRecOn with
  | _ k ih =>
    by_cases h : k < 10
    · rw [decL_small h]
      simp only [valL, dig_toNat]; omega
    · rw [decL_big h, valL_append, ih (k / 10) (by omega)]
      simp only [valL, dig_toNat]; omega
theorem decL_head : ∀ (k : Nat), 0 < k → ∃ b r, decL k = b :: r ∧ b ≠ 48 := by
  intro k
  induction k using Nat.strongRecOn with
  | _ k ih =>
    intro hk
    by_cases h : k < 10
    · refine ⟨dig k, [], decL_small h, fun e => ?_⟩
      have := dig_toNat k
      rw [e] at this
      have e2 : (48 : UInt8).toNat = 48 := rfl
      omega
    · obtain ⟨b, r, h1, h2⟩ := ih (k / 10) (by omega) (by omega)
      exact ⟨b, r ++ [dig k], by rw [decL_big h, h1]; rfl, h2⟩
/-- Figures without noughts ahead are their number's. -/
theorem decL_of : ∀ (l : List UInt8), l ≠ [] → (∀ b, b ∈ l → 48 ≤ b.toNat ∧ b.toNat ≤ 57) → (1 < l.length → l.head? ≠ some 48) → decL (valL l 0) = l := by
  intro l
  -- from the end
  suffices ∀ (n : Nat) (l : List UInt8), l.length = n → l ≠ [] → (∀ b, b ∈ l → 48 ≤ b.toNat ∧ b.toNat ≤ 57) → (1 < l.length → l.head? ≠ some 48) → decL (valL l 0) = l from this _ l rfl
  intro n
  induction n with
  | zero => intro l hl hne; exact absurd (List.length_eq_zero_iff.1 hl) hne
  | succ n ih =>
    intro l hl hne hd hh
    obtain ⟨a, x, rfl⟩ : ∃ a x, l = a ++ [x] := ⟨l.dropLast, l.getLast hne, (List.dropLast_concat_getLast hne).symm⟩
    have hx := hd x (by simp)
    have hdx : dig (x.toNat - 48) = x := by
      apply UInt8.toNat_inj.1
      rw [dig_toNat]; omega
    rw [valL_append]
    simp only [valL]
    by_cases ha : a = []
    · subst ha
      simp only [valL, List.nil_append]
      rw [decL_small (by omega)]
      rw [show 0 * 10 + (x.toNat - 48) = x.toNat - 48 by omega, hdx]
    · have hal : 0 < a.length := List.length_pos_iff.2 ha
      have h1 := ih a (by simp at hl; omega) ha (fun b hb => hd b (by simp [hb])) (fun h2 => by
        have := hh (by simp; omega)
        cases a with
        | nil => exact absurd rfl ha
        | cons y r => simpa using this)
      have hpos : 0 < valL a 0 := by
        rcases Nat.eq_zero_or_pos (valL a 0) with e | e
        · rw [e, decL_small (by omega)] at h1
          have := hh (by simp; omega)
          rw [← h1] at this
          exact absurd rfl this
        · exact e
      rw [decL_big (by omega), show (valL a 0 * 10 + (x.toNat - 48)) / 10 = valL a 0 by omega, h1]
      congr 2
      have : dig (valL a 0 * 10 + (x.toNat - 48)) = dig (x.toNat - 48) := by
        apply UInt8.toNat_inj.1
        rw [dig_toNat, dig_toNat]; omega
      rw [this, hdx]
theorem valL_lt : ∀ (l : List UInt8) (n : Nat), (∀ b, b ∈ l → 48 ≤ b.toNat ∧ b.toNat ≤ 57) → valL l n < (n + 1) * 10 ^ l.length
  | [], n, _ => by simp [valL]
  | b :: r, n, h => by
    have h1 := valL_lt r (n * 10 + (b.toNat - 48)) fun x hx => h x (List.mem_cons_of_mem _ hx)
    have hb := h b List.mem_cons_self
    simp only [valL, List.length_cons]
    refine Nat.lt_of_lt_of_le h1 ?_
    rw [Nat.pow_succ, Nat.mul_comm (10 ^ r.length) 10, ← Nat.mul_assoc]
    exact Nat.mul_le_mul_right _ (by omega)
end Go.Av

/- A contract of the kit's, as one of ours. -/
set_option linter.unusedVariables false
set_option linter.unusedSimpArgs false
namespace Go.Av
open Go Go.RowKit

theorem Aft.below {w0 w w' : World} {σ : Vw} (h : Sat w0 σ w) (k : Below w.heap.size w w') : Aft w0 σ w σ w' := by
  refine ⟨⟨h.bel.trans (k.mono h.bel.size), fun b r hb => ?_⟩, k.size, fun b hb _ => k.block b hb, fun b r hb => .inl (by rw [hb]; simp)⟩
  obtain ⟨h1, cur, hc, h2⟩ := h.row b r hb
  exact ⟨h1, cur, (k.block b (h.lt hb)).trans hc, h2⟩

/-- What a call gives that leaves all that is there as it was. -/
theorem AC.of_calls {P : Program} {w0 : World} {f : FuncId} {args : List Value} {σ : Vw} {R : Value → Vw → Prop} (hf : ∃ fn, P.funcs[f]? = some fn ∧ (fn.name == "runtime.NumGoroutine") = false ∧ fn.body.isNone = false)
    (h : ∀ w, Sat w0 σ w → Calls P f args.toArray w fun e w' => ∃ v, e = .returned v ∧ R v σ ∧ Below w.heap.size w w') : AC P w0 f args σ R :=
  ⟨hf, fun w hw => (h w hw).mono fun e w' ⟨v, he, hR, hk⟩ => ⟨v, σ, he, hR, Aft.below hw hk⟩⟩
end Go.Av

/- What each function owes, reckoned out. MADE BY PROGRAM (emit.py). -/
set_option linter.unusedVariables false
namespace Go.Proofs.YtlfnfpdipghdiaaGreatDoor
open Go Go.Av

abbrev t_bool : Nat := 4
abbrev t_uint8 : Nat := 5
abbrev t_string : Nat := 9
abbrev t_s_uint8 : Nat := 22
abbrev t_impl_Step : Nat := 44
abbrev t_impl_Raw : Nat := 59
abbrev n_laws_FnStoreNew : Nat := 3
abbrev n_spec_DrawStoreNew : Nat := 7
abbrev n_impl_StoreNew : Nat := 8
abbrev n_spec_StoreNew : Nat := 9
abbrev n_laws_wdRaws : Nat := 10
abbrev n_impl_StoreOpen : Nat := 11
abbrev n_impl_DiskWrite : Nat := 12
abbrev n_spec_DrawDiskOk : Nat := 13
abbrev n_impl_DiskOk : Nat := 14
abbrev n_spec_DiskOk : Nat := 15
abbrev n_spec_DrawStoreOpen : Nat := 16
abbrev n_spec_StoreOpen : Nat := 17
abbrev n_spec_StorePlay : Nat := 24
abbrev n_spec_l24Text : Nat := 26
abbrev n_spec_l1Open : Nat := 27
abbrev n_impl_checkpoint : Nat := 28
abbrev n_spec_l22TextOk : Nat := 29
abbrev n_spec_l22Saved : Nat := 30
abbrev n_impl_head : Nat := 31
abbrev n_impl_checkText : Nat := 32
abbrev n_impl_group : Nat := 33
abbrev n_impl_groupBlocks : Nat := 34
abbrev n_impl_headLike : Nat := 35
abbrev n_impl_cloneDisk : Nat := 36
abbrev n_impl_within : Nat := 37
abbrev n_spec_l24Disk : Nat := 38
abbrev n_p_spec_l1Rd_pick : Nat := 39
abbrev n_spec_l24Spoil : Nat := 40
abbrev n_spec_l24Any : Nat := 41
abbrev n_spec_l22Found : Nat := 42
abbrev n_spec_l22Text : Nat := 43
abbrev n_spec_l22Area : Nat := 44
abbrev n_spec_l22Group : Nat := 45
abbrev n_spec_l22Clean : Nat := 46
abbrev n_impl_pieces : Nat := 49
abbrev n_impl_groupHead : Nat := 50
abbrev n_spec_l24Group : Nat := 51
abbrev n_spec_l24Steps : Nat := 52
abbrev n_spec_l21Copy : Nat := 53
abbrev n_spec_l23Step : Nat := 54
abbrev n_spec_l22Copy : Nat := 55
abbrev n_spec_l1Many : Nat := 56
abbrev n_p_spec_l1Rd_of : Nat := 57
abbrev n_impl_areaFirst : Nat := 58
abbrev n_impl_checkHead : Nat := 59
abbrev n_spec_l22Many : Nat := 60
abbrev n_spec_l22Piece : Nat := 61
abbrev n_spec_l22Head : Nat := 62
abbrev n_strings_Split : Nat := 63
abbrev n_impl_numRead : Nat := 64
abbrev n_strconv_Itoa : Nat := 65
abbrev n_spec_l24New : Nat := 66
abbrev n_spec_l22Cut : Nat := 67
abbrev n_spec_l22Num : Nat := 68
abbrev n_spec_l21In : Nat := 69
abbrev n_spec_StoreAppend : Nat := 70
abbrev n_spec_StoreSave : Nat := 71
abbrev n_spec_DiskWrite : Nat := 72
abbrev n_spec_l22Dec : Nat := 73
abbrev n_strconv_Atoi : Nat := 75
abbrev n_spec_l24Blank : Nat := 77
abbrev n_spec_l22Ok : Nat := 78
abbrev n_spec_l22Blocks : Nat := 79
abbrev n_spec_l21RawOk : Nat := 80
theorem is_strings_Split : ∃ fn, Tryz.prog.funcs[n_strings_Split]? = some fn ∧ (fn.name == "runtime.NumGoroutine") = false ∧ fn.body.isNone = false := ⟨Tryz.f63, Tryz.func63, by kernel_rfl, by kernel_rfl⟩
theorem is_strconv_Itoa : ∃ fn, Tryz.prog.funcs[n_strconv_Itoa]? = some fn ∧ (fn.name == "runtime.NumGoroutine") = false ∧ fn.body.isNone = false := ⟨Tryz.f65, Tryz.func65, by kernel_rfl, by kernel_rfl⟩
theorem is_strconv_Atoi : ∃ fn, Tryz.prog.funcs[n_strconv_Atoi]? = some fn ∧ (fn.name == "runtime.NumGoroutine") = false ∧ fn.body.isNone = false := ⟨Tryz.f75, Tryz.func75, by kernel_rfl, by kernel_rfl⟩
end Go.Proofs.YtlfnfpdipghdiaaGreatDoor

/- What each function owes, reckoned out, part 1. MADE BY PROGRAM (emit.py). -/
set_option linter.unusedVariables false
namespace Go.Proofs.YtlfnfpdipghdiaaGreatDoor
open Go.Av renaming vget → G, cellOf → C, pVal → V, pBin → B, pIndexAddr → X, pLoad → L, pField → F, pIf → Q, pExtract → E, pAppend → A, pLen → N, pNew → W
open Go.Proofs.Tryz renaming prog → P
open Go Go.Av

/-- laws.FnStoreNew -/
def kp_laws_FnStoreNew : Nat → Keep
  | 10 => ⟨[1, 4, 5, 6, 7, 11], [(10, 1)], [10], .done, []⟩
  | 14 => ⟨[1, 4, 5, 6, 7, 12], [(10, 1)], [10], .done, []⟩
  | 21 => ⟨[], [], [], .step 0 (.step 1 (.step 2 (.step 3 (.step 4 (.step 5 (.step 6 (.step 7 (.step 8 (.step 9 (.step 10 (.step 11 (.step 12 (.step 13 (.step 14 (.step 15 (.step 16 (.step 17 (.step 18 (.step 19 (.step 20 (.step 21 (.step 22 (.step 23 (.step 24 (.step 25 (.step 27 (.step 26 (.step 28 (.step 29 (.step 30 (.step 31 (.done)))))))))))))))))))))))))))))))), [(2, [0, 1]), (3, [0, 1, 2]), (4, [0, 1, 2, 3]), (5, [0, 1, 2, 3, 4]), (6, [0, 1, 2, 3, 4, 5]), (7, [0, 1, 2, 3, 4, 5, 6]), (8, [0, 1, 2, 3, 4, 5, 6, 7]), (9, [0, 1, 2, 3, 4, 5, 6]), (10, [0, 1, 2, 3, 4, 5, 6, 7, 8, 9]), (11, [0, 1, 2, 3, 4, 5, 6, 7, 8, 9, 10]), (12, [0, 1, 2, 3, 4, 5, 6, 7, 8, 9, 10, 11]), (13, [0, 1, 2, 3, 4, 5, 6, 7, 8, 9, 10, 11, 12]), (14, [0, 1, 2, 3, 4, 5, 6, 7, 8, 9, 10, 11, 12, 13]), (15, [0, 1, 2, 3, 4, 5, 6, 7, 8, 9, 10, 11, 12, 13, 14]), (16, [0, 1, 2, 3, 4, 5, 6, 7, 8, 9, 10, 11, 12, 13, 14, 15]), (17, [0, 1, 2, 3, 4, 5, 6, 7, 8, 9, 10, 11, 12, 13, 14, 15, 16]), (18, [0, 1, 2, 3, 4, 5, 6, 7, 8, 9, 10, 11, 12, 13, 14, 15, 16, 17]), (19, [0, 1, 2, 3, 4, 5, 6, 7, 8, 9, 10, 11, 12, 13, 14, 15, 16, 17, 18]), (20, [0, 1, 2, 3, 4, 5, 6, 7, 8, 9, 10, 11, 12, 13, 14, 15, 16, 17, 18, 19]), (21, [0, 1, 2, 3, 4, 5, 6, 7, 8, 9, 10, 11, 12, 13, 14, 15, 16, 17, 18, 19, 20]), (22, [0, 1, 2, 3, 4, 5, 6, 7, 8, 9, 10, 11, 12, 13, 14, 15, 16, 17, 18, 19, 20, 21]), (23, [0, 1, 2, 3, 4, 5, 6, 7, 8, 9, 10, 11, 12, 13, 14, 15, 16, 17, 18, 19, 20, 21, 22]), (24, [0, 1, 2, 3, 4, 5, 6, 7, 8, 9, 10, 11, 12, 13, 14, 15, 16, 17, 18, 19, 20, 21, 22, 23]), (25, [0, 1, 2, 3, 4, 5, 6, 7, 8, 9, 10, 11, 12, 13, 14, 15, 16, 17, 18, 19, 20, 21, 22, 23, 24]), (26, [0, 1, 2, 3, 4, 5, 6, 7, 8, 9, 10, 11, 12, 13, 14, 15, 16, 17, 18, 19, 20, 21, 22, 23, 24, 25]), (27, [0, 1, 2, 3, 4, 5, 6, 7, 8, 9, 10, 11, 12, 13, 14, 15, 16, 17, 18, 19, 20, 21, 22, 23, 24]), (28, [0, 1, 2, 3, 4, 5, 6, 7, 8, 9, 10, 11, 12, 13, 14, 15, 16, 17, 18, 19, 20, 21, 22, 23, 24, 25, 26, 27]), (29, [0, 1, 2, 3, 4, 5, 6, 7, 8, 9, 10, 11, 12, 13, 14, 15, 16, 17, 18, 19, 20, 21, 22, 23, 24, 25, 26, 27, 28]), (30, [0, 1, 2, 3, 4, 5, 6, 7, 8, 9, 10, 11, 12, 13, 14, 15, 16, 17, 18, 19, 20, 21, 22, 23, 24, 25, 26, 27, 28, 29]), (31, [0, 1, 2, 3, 4, 5, 6, 7, 8, 9, 10, 11, 12, 13, 14, 15, 16, 17, 18, 19, 20, 21, 22, 23, 24, 25, 26, 27, 28, 29, 30])]⟩
  | _ => ⟨[], [], [], .done, []⟩
def esc_laws_FnStoreNew : Nat → Bool
  | _ => false
def cs_laws_FnStoreNew_1 (w0 : World) (l900 : List Value) (v901 : Value) (s902 : Vw) (R : Value → Vw → Prop) : Prop :=
  AC P w0 n_impl_DiskWrite ([.agg (⟨[G l900 6]⟩), G l900 3, v901]) s902 (fun v500 s501 => AC P w0 n_impl_StoreOpen [v500] s501 fun v502 s503 => E v502 0 fun v504 => E v502 1 fun v505 => V true 4 v504 (AC P w0 n_spec_DrawDiskOk [G l900 0] s503 fun v506 s507 => V true 1 v506 (B P 4 .eql v505 (G l900 4) fun v508 => Q v508 (pUn .not (G l900 4) fun v509 => Q v509 (AC P w0 n_impl_DiskOk ([.agg (⟨[C v506 0]⟩)]) s507 fun v510 s511 => AC P w0 n_spec_DiskOk ([.agg (⟨[C v506 0]⟩)]) s511 fun v512 s513 => B P 4 .eql v510 v512 fun v514 => R v514 s513) (B P 9 .eql (C v504 1) (G l900 2) fun v515 => Q v515 (N (C v504 2) fun v516 => B P 3 .eql v516 (.int .i64 0) fun v517 => Q v517 (B P 3 .eql (C v504 0) (.int .i64 1) fun v518 => Q v518 (AC P w0 n_impl_DiskOk ([.agg (⟨[C v506 0]⟩)]) s507 fun v519 s520 => AC P w0 n_spec_DiskOk ([.agg (⟨[C v506 0]⟩)]) s520 fun v521 s522 => B P 4 .eql v519 v521 fun v523 => R v523 s522) (R (.bool false) s507)) (R (.bool false) s507)) (R (.bool false) s507))) (R (.bool false) s507))))
def cs_laws_FnStoreNew_2 (w0 : World) (l900 : List Value) (s901 : Vw) (K902 : AX → List Value → Vw → Prop) (R : Value → Vw → Prop) : Prop :=
  N (G l900 3) (fun v500 => B P 3 .lss (G l900 5) v500 fun v501 => Q v501 (AC P w0 n_impl_DiskWrite ([.agg (⟨[G l900 6]⟩), G l900 3, G l900 5]) s901 fun v502 s503 => AC P w0 n_impl_StoreOpen [v502] s503 fun v504 s505 => E v504 0 fun v506 => E v504 1 fun v507 => V true 4 v506 (Q v507 (K902 .ret [G l900 0, .bool false, G l900 2, G l900 3, G l900 4, G l900 5, G l900 6] s505) (B P 3 .add (G l900 5) (.int .i64 1) fun v508 => K902 .normal [G l900 0, G l900 1, G l900 2, G l900 3, G l900 4, v508, G l900 6] s505))) (K902 (.exit 2) [G l900 0, G l900 1, G l900 2, G l900 3, G l900 4, G l900 5, G l900 6] s901))
def vc_laws_FnStoreNew (w0 : World) (a0 a1 : Value) (σ : Vw) (R : Value → Vw → Prop) : Prop :=
  N a0 fun v0 => B P 3 .gtr v0 (.int .i64 1048576) fun v1 => Q v1 (R (.bool true) σ) (N a1 fun v2 => B P 3 .gtr v2 (.int .i64 1048576) fun v3 => Q v3 (R (.bool true) σ) (AC P w0 n_spec_DrawStoreNew [a0] σ fun v4 s5 => AC P w0 n_impl_StoreNew [v4] s5 fun v6 s7 => E v6 0 fun v8 => E v6 1 fun v9 => AC P w0 n_spec_StoreNew [v4] s7 fun v10 s11 => E v10 0 fun v12 => E v10 1 fun v13 => B P 4 .neq v9 v13 fun v14 => Q v14 (R (.bool false) s11) (AC P w0 n_laws_wdRaws [v8, v12] s11 fun v15 s16 => pUn .not v15 fun v17 => Q v17 (R (.bool false) s16) (V true 1 (.agg (⟨[.slice none 0 0]⟩)) (pLoop (fun l18 K19 s20 => B P 3 .lss (G l18 5) (.int .i64 194) fun v21 => Q v21 (V false 1 (.string ({ data := #[] })) ((allOne ([.string ({ data := #[] })])) ∧ (A w0 9 1 16 (G l18 6) 1 ([.string ({ data := #[] })]) s20 fun v22 s23 => V false 1 v22 (B P 3 .add (G l18 5) (.int .i64 1) fun v24 => K19 .normal [G l18 0, G l18 1, G l18 2, G l18 3, G l18 4, v24, v22] s23)))) (K19 (.exit 0) [G l18 0, G l18 1, G l18 2, G l18 3, G l18 4, G l18 5, G l18 6] s20)) [a1, .bool false, v4, v8, v9, .int .i64 0, .slice none 0 0] s16 fun x25 l26 s27 => match x25 with | .normal => pLoop (fun l28 K29 s30 => cs_laws_FnStoreNew_2 w0 l28 s30 K29 R) [G l26 0, G l26 1, G l26 2, G l26 3, G l26 4, .int .i64 0, G l26 6] s27 (fun x40 l41 s42 => match x40 with | .normal => N (G l41 3) (fun v43 => cs_laws_FnStoreNew_1 w0 l41 v43 s42 R) | .ret => R (G l41 1) s42 | .exit i68 => (match Nat.beq i68 2 with | true => N (G l41 3) (fun v69 => cs_laws_FnStoreNew_1 w0 l41 v69 s42 R) | false => False)) | .ret => R (G l26 1) s27 | .exit i94 => (match Nat.beq i94 0 with | true => pLoop (fun l95 K96 s97 => cs_laws_FnStoreNew_2 w0 l95 s97 K96 R) [G l26 0, G l26 1, G l26 2, G l26 3, G l26 4, .int .i64 0, G l26 6] s27 (fun x107 l108 s109 => match x107 with | .normal => N (G l108 3) (fun v110 => cs_laws_FnStoreNew_1 w0 l108 v110 s109 R) | .ret => R (G l108 1) s109 | .exit i135 => (match Nat.beq i135 2 with | true => N (G l108 3) (fun v136 => cs_laws_FnStoreNew_1 w0 l108 v136 s109 R) | false => False)) | false => False))))))

theorem vc_laws_FnStoreNew_eq (w0 : World) (a0 a1 : Value) (σ : Vw) (R : Value → Vw → Prop) : vc_laws_FnStoreNew w0 a0 a1 σ R = den Tryz.prog w0 kp_laws_FnStoreNew esc_laws_FnStoreNew (Tryz.f3.body.getD .skip) (entry Tryz.f3.ntmps [a0, a1]) σ (retK Tryz.prog Tryz.f3.results.toList R) := by kernel_rfl
theorem ac_laws_FnStoreNew {w0 : World} {a0 a1 : Value} {σ : Vw} {R : Value → Vw → Prop} (h : vc_laws_FnStoreNew w0 a0 a1 σ R) : AC Tryz.prog w0 n_laws_FnStoreNew [a0, a1] σ R := by
  refine ac_rule (fn := Tryz.f3) (c := Tryz.f3.body.getD .skip) kp_laws_FnStoreNew esc_laws_FnStoreNew Tryz.func3 (by kernel_rfl) (by kernel_rfl) ?_
  rw [← vc_laws_FnStoreNew_eq]
  exact h

/-- spec.DrawStoreNew -/
def kp_spec_DrawStoreNew : Nat → Keep
  | _ => ⟨[], [], [], .done, []⟩
def esc_spec_DrawStoreNew : Nat → Bool
  | _ => false
def vc_spec_DrawStoreNew (w0 : World) (a0 : Value) (σ : Vw) (R : Value → Vw → Prop) : Prop :=
  AC P w0 n_spec_l1Open [a0] σ fun v0 s1 => AC P w0 n_spec_l24Text [v0] s1 fun v2 s3 => R v2 s3
theorem vc_spec_DrawStoreNew_eq (w0 : World) (a0 : Value) (σ : Vw) (R : Value → Vw → Prop) : vc_spec_DrawStoreNew w0 a0 σ R = den Tryz.prog w0 kp_spec_DrawStoreNew esc_spec_DrawStoreNew (Tryz.f7.body.getD .skip) (entry Tryz.f7.ntmps [a0]) σ (retK Tryz.prog Tryz.f7.results.toList R) := by kernel_rfl
theorem ac_spec_DrawStoreNew {w0 : World} {a0 : Value} {σ : Vw} {R : Value → Vw → Prop} (h : vc_spec_DrawStoreNew w0 a0 σ R) : AC Tryz.prog w0 n_spec_DrawStoreNew [a0] σ R := by
  refine ac_rule (fn := Tryz.f7) (c := Tryz.f7.body.getD .skip) kp_spec_DrawStoreNew esc_spec_DrawStoreNew Tryz.func7 (by kernel_rfl) (by kernel_rfl) ?_
  rw [← vc_spec_DrawStoreNew_eq]
  exact h

/-- impl.StoreNew -/
def kp_impl_StoreNew : Nat → Keep
  | _ => ⟨[], [], [], .done, []⟩
def esc_impl_StoreNew : Nat → Bool
  | 7 => true
  | _ => false
def vc_impl_StoreNew (w0 : World) (a0 : Value) (σ : Vw) (R : Value → Vw → Prop) : Prop :=
  pLenS a0 fun v0 => B P 3 .gtr v0 (.int .i64 5760) fun v1 => Q v1 (W w0 59 [] σ fun n2 s3 => R (.tuple (⟨[.slice (some (Addr.mk n2 0 none)) 0 0, .bool false]⟩)) s3) (AC P w0 n_impl_checkpoint [.int .i64 1, a0] σ fun v4 s5 => R (.tuple (⟨[v4, .bool true]⟩)) s5)
theorem vc_impl_StoreNew_eq (w0 : World) (a0 : Value) (σ : Vw) (R : Value → Vw → Prop) : vc_impl_StoreNew w0 a0 σ R = den Tryz.prog w0 kp_impl_StoreNew esc_impl_StoreNew (Tryz.f8.body.getD .skip) (entry Tryz.f8.ntmps [a0]) σ (retK Tryz.prog Tryz.f8.results.toList R) := by kernel_rfl
theorem ac_impl_StoreNew {w0 : World} {a0 : Value} {σ : Vw} {R : Value → Vw → Prop} (h : vc_impl_StoreNew w0 a0 σ R) : AC Tryz.prog w0 n_impl_StoreNew [a0] σ R := by
  refine ac_rule (fn := Tryz.f8) (c := Tryz.f8.body.getD .skip) kp_impl_StoreNew esc_impl_StoreNew Tryz.func8 (by kernel_rfl) (by kernel_rfl) ?_
  rw [← vc_impl_StoreNew_eq]
  exact h

/-- spec.StoreNew -/
def kp_spec_StoreNew : Nat → Keep
  | _ => ⟨[], [], [], .done, []⟩
def esc_spec_StoreNew : Nat → Bool
  | 7 => true
  | _ => false
def vc_spec_StoreNew (w0 : World) (a0 : Value) (σ : Vw) (R : Value → Vw → Prop) : Prop :=
  AC P w0 n_spec_l22TextOk [a0] σ fun v0 s1 => pUn .not v0 fun v2 => Q v2 (W w0 59 [] s1 fun n3 s4 => R (.tuple (⟨[.slice (some (Addr.mk n3 0 none)) 0 0, .bool false]⟩)) s4) (AC P w0 n_spec_l22Saved [.int .i64 1, a0] s1 fun v5 s6 => R (.tuple (⟨[v5, .bool true]⟩)) s6)
theorem vc_spec_StoreNew_eq (w0 : World) (a0 : Value) (σ : Vw) (R : Value → Vw → Prop) : vc_spec_StoreNew w0 a0 σ R = den Tryz.prog w0 kp_spec_StoreNew esc_spec_StoreNew (Tryz.f9.body.getD .skip) (entry Tryz.f9.ntmps [a0]) σ (retK Tryz.prog Tryz.f9.results.toList R) := by kernel_rfl
theorem ac_spec_StoreNew {w0 : World} {a0 : Value} {σ : Vw} {R : Value → Vw → Prop} (h : vc_spec_StoreNew w0 a0 σ R) : AC Tryz.prog w0 n_spec_StoreNew [a0] σ R := by
  refine ac_rule (fn := Tryz.f9) (c := Tryz.f9.body.getD .skip) kp_spec_StoreNew esc_spec_StoreNew Tryz.func9 (by kernel_rfl) (by kernel_rfl) ?_
  rw [← vc_spec_StoreNew_eq]
  exact h

/-- laws.wdRaws -/
def kp_laws_wdRaws : Nat → Keep
  | 4 => ⟨[0, 1, 4, 5], [], [], .done, []⟩
  | 6 => ⟨[], [], [], .step 0 (.step 1 (.step 2 (.step 3 (.step 4 (.step 5 (.step 6 (.step 7 (.step 8 (.done))))))))), [(2, [0, 1]), (3, [0, 1, 2]), (6, [4, 5]), (7, [4, 5, 6]), (8, [0, 1, 2, 3, 4, 5, 6, 7])]⟩
  | _ => ⟨[], [], [], .done, []⟩
def esc_laws_wdRaws : Nat → Bool
  | _ => false
def vc_laws_wdRaws (w0 : World) (a0 a1 : Value) (σ : Vw) (R : Value → Vw → Prop) : Prop :=
  N a0 fun v0 => N a1 fun v1 => B P 3 .neq v0 v1 fun v2 => Q v2 (R (.bool false) σ) (pLoop (fun l3 K4 s5 => N (G l3 0) fun v6 => B P 3 .lss (G l3 3) v6 fun v7 => Q v7 (X 2 (G l3 0) (G l3 3) fun v8 => L w0 2 v8 s5 fun g9 => X 2 (G l3 1) (G l3 3) fun v10 => L w0 2 v10 s5 fun g11 => B P 59 .neq (.agg (⟨[g9 0, g9 1]⟩)) (.agg (⟨[g11 0, g11 1]⟩)) fun v12 => Q v12 (K4 .ret [G l3 0, G l3 1, .bool false, G l3 3] s5) (B P 3 .add (G l3 3) (.int .i64 1) fun v13 => K4 .normal [G l3 0, G l3 1, G l3 2, v13] s5)) (K4 (.exit 0) [G l3 0, G l3 1, G l3 2, G l3 3] s5)) [a0, a1, .bool false, .int .i64 0] σ fun x14 l15 s16 => match x14 with | .normal => R (.bool true) s16 | .ret => R (G l15 2) s16 | .exit i17 => (match Nat.beq i17 0 with | true => R (.bool true) s16 | false => False))
theorem vc_laws_wdRaws_eq (w0 : World) (a0 a1 : Value) (σ : Vw) (R : Value → Vw → Prop) : vc_laws_wdRaws w0 a0 a1 σ R = den Tryz.prog w0 kp_laws_wdRaws esc_laws_wdRaws (Tryz.f10.body.getD .skip) (entry Tryz.f10.ntmps [a0, a1]) σ (retK Tryz.prog Tryz.f10.results.toList R) := by kernel_rfl
theorem ac_laws_wdRaws {w0 : World} {a0 a1 : Value} {σ : Vw} {R : Value → Vw → Prop} (h : vc_laws_wdRaws w0 a0 a1 σ R) : AC Tryz.prog w0 n_laws_wdRaws [a0, a1] σ R := by
  refine ac_rule (fn := Tryz.f10) (c := Tryz.f10.body.getD .skip) kp_laws_wdRaws esc_laws_wdRaws Tryz.func10 (by kernel_rfl) (by kernel_rfl) ?_
  rw [← vc_laws_wdRaws_eq]
  exact h

/-- impl.StoreOpen -/
def kp_impl_StoreOpen : Nat → Keep
  | 13 => ⟨[3, 4], [(1, 1), (2, 4), (10, 4)], [1, 2, 10], .done, []⟩
  | 16 => ⟨[], [], [], .step 0 (.step 1 (.step 2 (.step 3 (.step 4 (.step 5 (.step 6 (.step 7 (.done)))))))), [(1, [0]), (3, [2]), (4, [2, 3]), (5, [0, 1, 2, 3, 4]), (6, [0, 1, 2, 3, 4, 5]), (7, [0, 1, 2, 3, 4, 5, 6])]⟩
  | 18 => ⟨[3, 4, 13], [(1, 1), (2, 4), (10, 4)], [1, 2, 10], .done, []⟩
  | _ => ⟨[], [], [], .done, []⟩
def esc_impl_StoreOpen : Nat → Bool
  | 48 => true
  | _ => false
def cs_impl_StoreOpen_2 (w0 : World) (l900 : List Value) (s901 : Vw) (K902 : AX → List Value → Vw → Prop) (R : Value → Vw → Prop) : Prop :=
  B P 3 .lss (G l900 2) (.int .i64 12) (fun v500 => Q v500 (B P 3 .add (.int .i64 2) (G l900 2) fun v501 => X 1 (G l900 3) v501 fun v502 => L w0 1 v502 s901 fun g503 => AC P w0 n_impl_headLike [g503 0, G l900 1] s901 fun v504 s505 => Q v504 (V true 4 (.agg (⟨[.int .i64 0, .string ({ data := #[] }), .slice none 0 0, .int .i64 0]⟩)) (K902 .ret ([.bool false, G l900 1, G l900 2, G l900 3, .int .i64 0, .string ({ data := #[] }), .slice none 0 0, .int .i64 0, G l900 8, G l900 9, G l900 10, G l900 11]) s505)) (B P 3 .add (G l900 2) (.int .i64 1) fun v506 => K902 .normal [G l900 0, G l900 1, v506, G l900 3, G l900 4, G l900 5, G l900 6, G l900 7, G l900 8, G l900 9, G l900 10, G l900 11] s505)) (K902 (.exit 2) [G l900 0, G l900 1, G l900 2, G l900 3, G l900 4, G l900 5, G l900 6, G l900 7, G l900 8, G l900 9, G l900 10, G l900 11] s901))
def cs_impl_StoreOpen_3 (w0 : World) (s900 : Vw) (R : Value → Vw → Prop) : Prop :=
  V true 4 (.agg (⟨[.int .i64 0, .string ({ data := #[] }), .slice none 0 0, .int .i64 0]⟩)) (R (.tuple (⟨[.agg (⟨[.int .i64 0, .string ({ data := #[] }), .slice none 0 0, .int .i64 0]⟩), .bool false]⟩)) s900)
def cs_impl_StoreOpen_1 (w0 : World) (v900 : Value) (s901 : Vw) (v902 : Value) (v903 : Value) (R : Value → Vw → Prop) : Prop :=
  B P 3 .eql v900 (.int .i64 0) (fun v500 => Q v500 (cs_impl_StoreOpen_3 w0 s901 R) (AC P w0 n_impl_checkText ([.agg (⟨[C v902 0]⟩), v900, v903]) s901 fun v501 s502 => E v501 0 fun v503 => E v501 1 fun v504 => pUn .not v504 fun v505 => Q v505 (cs_impl_StoreOpen_3 w0 s502 R) (W w0 9 [] s502 fun n506 s507 => V false 1 v900 (V false 1 v503 (V false 1 (.slice (some (Addr.mk n506 0 none)) 0 0) (V false 1 (.int .i64 0) (V true 4 (.agg (⟨[v900, v503, .slice (some (Addr.mk n506 0 none)) 0 0, .int .i64 0]⟩)) (pLoop (fun l508 K509 s510 => N (G l508 9) fun v511 => AC P w0 n_impl_group ([.agg (⟨[G l508 2]⟩), G l508 1, v511, G l508 10]) s510 fun v512 s513 => E v512 0 fun v514 => E v512 1 fun v515 => pUn .not v515 fun v516 => Q v516 (K509 (.exit 0) [G l508 0, G l508 1, G l508 2, G l508 3, G l508 4, G l508 5, G l508 6, G l508 7, G l508 8, G l508 9, G l508 10] s513) (V false 1 v514 ((allOne [v514]) ∧ (A w0 9 1 16 (G l508 9) 1 [v514] s513 fun v517 s518 => V false 1 v517 (pLenS v514 fun v519 => AC P w0 n_impl_groupBlocks [v519] s518 fun v520 s521 => B P 3 .add (G l508 10) v520 fun v522 => V false 1 v522 (K509 .normal [G l508 0, G l508 1, G l508 2, G l508 3, G l508 4, G l508 5, G l508 6, G l508 7, G l508 8, v517, v522] s521)))))) ([.bool false, v900, C v902 0, .int .i64 0, .string ({ data := #[] }), .slice none 0 0, .int .i64 0, v900, v503, .slice (some (Addr.mk n506 0 none)) 0 0, .int .i64 0]) s507 fun x523 l524 s525 => match x523 with | .normal => pLoop (fun l526 K527 s528 => cs_impl_StoreOpen_2 w0 l526 s528 K527 R) [G l524 0, G l524 1, G l524 10, G l524 2, G l524 3, G l524 4, G l524 5, G l524 6, G l524 7, G l524 8, G l524 9, G l524 10] s525 (fun x536 l537 s538 => match x536 with | .normal => V true 4 (.agg (⟨[G l537 8, G l537 9, G l537 10, G l537 11]⟩)) (R (.tuple (⟨[.agg (⟨[G l537 8, G l537 9, G l537 10, G l537 11]⟩), .bool true]⟩)) s538) | .ret => R (.tuple (⟨[.agg (⟨[G l537 4, G l537 5, G l537 6, G l537 7]⟩), G l537 0]⟩)) s538 | .exit i539 => (match Nat.beq i539 2 with | true => V true 4 (.agg (⟨[G l537 8, G l537 9, G l537 10, G l537 11]⟩)) (R (.tuple (⟨[.agg (⟨[G l537 8, G l537 9, G l537 10, G l537 11]⟩), .bool true]⟩)) s538) | false => False)) | .ret => R (.tuple (⟨[.agg (⟨[G l524 3, G l524 4, G l524 5, G l524 6]⟩), G l524 0]⟩)) s525 | .exit i540 => (match Nat.beq i540 0 with | true => pLoop (fun l541 K542 s543 => cs_impl_StoreOpen_2 w0 l541 s543 K542 R) [G l524 0, G l524 1, G l524 10, G l524 2, G l524 3, G l524 4, G l524 5, G l524 6, G l524 7, G l524 8, G l524 9, G l524 10] s525 (fun x551 l552 s553 => match x551 with | .normal => V true 4 (.agg (⟨[G l552 8, G l552 9, G l552 10, G l552 11]⟩)) (R (.tuple (⟨[.agg (⟨[G l552 8, G l552 9, G l552 10, G l552 11]⟩), .bool true]⟩)) s553) | .ret => R (.tuple (⟨[.agg (⟨[G l552 4, G l552 5, G l552 6, G l552 7]⟩), G l552 0]⟩)) s553 | .exit i554 => (match Nat.beq i554 2 with | true => V true 4 (.agg (⟨[G l552 8, G l552 9, G l552 10, G l552 11]⟩)) (R (.tuple (⟨[.agg (⟨[G l552 8, G l552 9, G l552 10, G l552 11]⟩), .bool true]⟩)) s553) | false => False)) | false => False)))))))))
def vc_impl_StoreOpen (w0 : World) (a0 : Value) (σ : Vw) (R : Value → Vw → Prop) : Prop :=
  V true 1 a0 (AC P w0 n_impl_DiskOk ([.agg (⟨[C a0 0]⟩)]) σ fun v0 s1 => pUn .not v0 fun v2 => Q v2 (cs_impl_StoreOpen_3 w0 s1 R) (AC P w0 n_impl_head ([.agg (⟨[C a0 0]⟩), .int .i64 0]) s1 fun v3 s4 => E v3 0 fun v5 => E v3 1 fun v6 => AC P w0 n_impl_head ([.agg (⟨[C a0 0]⟩), .int .i64 1]) s4 fun v7 s8 => E v7 0 fun v9 => E v7 1 fun v10 => B P 3 .gtr v9 v5 fun v11 => Q v11 (cs_impl_StoreOpen_1 w0 v9 s8 a0 v10 R) (cs_impl_StoreOpen_1 w0 v5 s8 a0 v6 R)))

theorem vc_impl_StoreOpen_eq (w0 : World) (a0 : Value) (σ : Vw) (R : Value → Vw → Prop) : vc_impl_StoreOpen w0 a0 σ R = den Tryz.prog w0 kp_impl_StoreOpen esc_impl_StoreOpen (Tryz.f11.body.getD .skip) (entry Tryz.f11.ntmps [a0]) σ (retK Tryz.prog Tryz.f11.results.toList R) := by kernel_rfl
theorem ac_impl_StoreOpen {w0 : World} {a0 : Value} {σ : Vw} {R : Value → Vw → Prop} (h : vc_impl_StoreOpen w0 a0 σ R) : AC Tryz.prog w0 n_impl_StoreOpen [a0] σ R := by
  refine ac_rule (fn := Tryz.f11) (c := Tryz.f11.body.getD .skip) kp_impl_StoreOpen esc_impl_StoreOpen Tryz.func11 (by kernel_rfl) (by kernel_rfl) ?_
  rw [← vc_impl_StoreOpen_eq]
  exact h

/-- impl.DiskWrite -/
def kp_impl_DiskWrite : Nat → Keep
  | 5 => ⟨[22, 23, 24], [(6, 1), (7, 1)], [6, 7], .done, []⟩
  | _ => ⟨[], [], [], .done, []⟩
def esc_impl_DiskWrite : Nat → Bool
  | _ => false
def vc_impl_DiskWrite (w0 : World) (a0 a1 a2 : Value) (σ : Vw) (R : Value → Vw → Prop) : Prop :=
  V true 1 a0 (AC P w0 n_impl_DiskOk ([.agg (⟨[C a0 0]⟩)]) σ fun v0 s1 => pUn .not v0 fun v2 => Q v2 (V true 1 (.agg (⟨[.slice none 0 0]⟩)) (R (.agg (⟨[.slice none 0 0]⟩)) s1)) (AC P w0 n_impl_cloneDisk ([.agg (⟨[C a0 0]⟩)]) s1 fun v3 s4 => V true 1 v3 (pMax a2 (.int .i64 0) fun v5 => N a1 fun v6 => pMin v5 v6 fun v7 => pSlice 2 a1 none (some v7) fun v8 => N v8 fun v9 => pLoop (fun l10 K11 s12 => B P 3 .lss (G l10 2) (G l10 1) fun v13 => Q v13 (X 2 (G l10 0) (G l10 2) fun v14 => L w0 2 v14 s12 fun g15 => V true 2 (.agg (⟨[g15 0, g15 1]⟩)) (AC P w0 n_impl_within [g15 0, .int .i64 0, .int .i64 193] s12 fun v16 s17 => Q v16 (pLenS (g15 1) fun v18 => B P 3 .leq v18 (.int .i64 64) fun v19 => Q v19 (X 1 (G l10 4) (g15 0) fun v20 => V false 1 (g15 1) (pStore v20 [g15 1] s17 fun s21 => B P 3 .add (G l10 2) (.int .i64 1) fun v22 => K11 .normal [G l10 0, G l10 1, v22, G l10 3, G l10 4] s21)) (B P 3 .add (G l10 2) (.int .i64 1) fun v23 => K11 .normal [G l10 0, G l10 1, v23, G l10 3, G l10 4] s17)) (B P 3 .add (G l10 2) (.int .i64 1) fun v24 => K11 .normal [G l10 0, G l10 1, v24, G l10 3, G l10 4] s17))) (K11 (.exit 0) [G l10 0, G l10 1, G l10 2, G l10 3, G l10 4] s12)) [v8, v9, .int .i64 0, .slice none 0 0, C v3 0] s4 fun x25 l26 s27 => match x25 with | .normal => V true 1 (.agg (⟨[G l26 4]⟩)) (R (.agg (⟨[G l26 4]⟩)) s27) | .ret => R (.agg (⟨[G l26 3]⟩)) s27 | .exit i28 => (match Nat.beq i28 0 with | true => V true 1 (.agg (⟨[G l26 4]⟩)) (R (.agg (⟨[G l26 4]⟩)) s27) | false => False))))
theorem vc_impl_DiskWrite_eq (w0 : World) (a0 a1 a2 : Value) (σ : Vw) (R : Value → Vw → Prop) : vc_impl_DiskWrite w0 a0 a1 a2 σ R = den Tryz.prog w0 kp_impl_DiskWrite esc_impl_DiskWrite (Tryz.f12.body.getD .skip) (entry Tryz.f12.ntmps [a0, a1, a2]) σ (retK Tryz.prog Tryz.f12.results.toList R) := by kernel_rfl
theorem ac_impl_DiskWrite {w0 : World} {a0 a1 a2 : Value} {σ : Vw} {R : Value → Vw → Prop} (h : vc_impl_DiskWrite w0 a0 a1 a2 σ R) : AC Tryz.prog w0 n_impl_DiskWrite [a0, a1, a2] σ R := by
  refine ac_rule (fn := Tryz.f12) (c := Tryz.f12.body.getD .skip) kp_impl_DiskWrite esc_impl_DiskWrite Tryz.func12 (by kernel_rfl) (by kernel_rfl) ?_
  rw [← vc_impl_DiskWrite_eq]
  exact h

/-- spec.DrawDiskOk -/
def kp_spec_DrawDiskOk : Nat → Keep
  | _ => ⟨[], [], [], .done, []⟩
def esc_spec_DrawDiskOk : Nat → Bool
  | _ => false
def vc_spec_DrawDiskOk (w0 : World) (a0 : Value) (σ : Vw) (R : Value → Vw → Prop) : Prop :=
  AC P w0 n_spec_l1Open [a0] σ fun v0 s1 => AC P w0 n_spec_l24Disk [v0] s1 fun v2 s3 => V true 1 v2 (AC P w0 n_p_spec_l1Rd_pick [v0, .int .i64 2] s3 fun v4 s5 => B P 3 .eql v4 (.int .i64 0) fun v6 => Q v6 (AC P w0 n_spec_l24Spoil ([v0, .agg (⟨[C v2 0]⟩)]) s5 fun v7 s8 => V true 1 v7 (R (.agg (⟨[C v7 0]⟩)) s8)) (V true 1 (.agg (⟨[C v2 0]⟩)) (R (.agg (⟨[C v2 0]⟩)) s5)))
theorem vc_spec_DrawDiskOk_eq (w0 : World) (a0 : Value) (σ : Vw) (R : Value → Vw → Prop) : vc_spec_DrawDiskOk w0 a0 σ R = den Tryz.prog w0 kp_spec_DrawDiskOk esc_spec_DrawDiskOk (Tryz.f13.body.getD .skip) (entry Tryz.f13.ntmps [a0]) σ (retK Tryz.prog Tryz.f13.results.toList R) := by kernel_rfl
theorem ac_spec_DrawDiskOk {w0 : World} {a0 : Value} {σ : Vw} {R : Value → Vw → Prop} (h : vc_spec_DrawDiskOk w0 a0 σ R) : AC Tryz.prog w0 n_spec_DrawDiskOk [a0] σ R := by
  refine ac_rule (fn := Tryz.f13) (c := Tryz.f13.body.getD .skip) kp_spec_DrawDiskOk esc_spec_DrawDiskOk Tryz.func13 (by kernel_rfl) (by kernel_rfl) ?_
  rw [← vc_spec_DrawDiskOk_eq]
  exact h

/-- impl.DiskOk -/
def kp_impl_DiskOk : Nat → Keep
  | 2 => ⟨[2, 6, 7, 8], [(1, 1)], [1], .done, []⟩
  | _ => ⟨[], [], [], .done, []⟩
def esc_impl_DiskOk : Nat → Bool
  | _ => false
def vc_impl_DiskOk (w0 : World) (a0 : Value) (σ : Vw) (R : Value → Vw → Prop) : Prop :=
  V true 1 a0 (N (C a0 0) fun v0 => pLoop (fun l1 K2 s3 => B P 3 .lss (G l1 3) (G l1 2) fun v4 => Q v4 (X 1 (G l1 1) (G l1 3) fun v5 => L w0 1 v5 s3 fun g6 => pLenS (g6 0) fun v7 => B P 3 .gtr v7 (.int .i64 64) fun v8 => Q v8 (K2 .ret [.bool false, G l1 1, G l1 2, G l1 3, G l1 4] s3) (B P 3 .add (G l1 3) (.int .i64 1) fun v9 => K2 .normal [G l1 0, G l1 1, G l1 2, v9, G l1 4] s3)) (K2 (.exit 0) [G l1 0, G l1 1, G l1 2, G l1 3, G l1 4] s3)) [.bool false, C a0 0, v0, .int .i64 0, C a0 0] σ fun x10 l11 s12 => match x10 with | .normal => N (G l11 4) (fun v13 => B P 3 .eql v13 (.int .i64 194) fun v14 => R v14 s12) | .ret => R (G l11 0) s12 | .exit i15 => (match Nat.beq i15 0 with | true => N (G l11 4) (fun v16 => B P 3 .eql v16 (.int .i64 194) fun v17 => R v17 s12) | false => False))
theorem vc_impl_DiskOk_eq (w0 : World) (a0 : Value) (σ : Vw) (R : Value → Vw → Prop) : vc_impl_DiskOk w0 a0 σ R = den Tryz.prog w0 kp_impl_DiskOk esc_impl_DiskOk (Tryz.f14.body.getD .skip) (entry Tryz.f14.ntmps [a0]) σ (retK Tryz.prog Tryz.f14.results.toList R) := by kernel_rfl
theorem ac_impl_DiskOk {w0 : World} {a0 : Value} {σ : Vw} {R : Value → Vw → Prop} (h : vc_impl_DiskOk w0 a0 σ R) : AC Tryz.prog w0 n_impl_DiskOk [a0] σ R := by
  refine ac_rule (fn := Tryz.f14) (c := Tryz.f14.body.getD .skip) kp_impl_DiskOk esc_impl_DiskOk Tryz.func14 (by kernel_rfl) (by kernel_rfl) ?_
  rw [← vc_impl_DiskOk_eq]
  exact h

/-- spec.DiskOk -/
def kp_spec_DiskOk : Nat → Keep
  | 2 => ⟨[2, 3], [(1, 1)], [1], .done, []⟩
  | _ => ⟨[], [], [], .done, []⟩
def esc_spec_DiskOk : Nat → Bool
  | _ => false
def vc_spec_DiskOk (w0 : World) (a0 : Value) (σ : Vw) (R : Value → Vw → Prop) : Prop :=
  V true 1 a0 (pLoop (fun l0 K1 s2 => N (G l0 2) fun v3 => B P 3 .lss (G l0 1) v3 fun v4 => Q v4 (X 1 (G l0 2) (G l0 1) fun v5 => L w0 1 v5 s2 fun g6 => pLenS (g6 0) fun v7 => B P 3 .gtr v7 (.int .i64 64) fun v8 => Q v8 (K1 .ret [.bool false, G l0 1, G l0 2] s2) (B P 3 .add (G l0 1) (.int .i64 1) fun v9 => K1 .normal [G l0 0, v9, G l0 2] s2)) (K1 (.exit 0) [G l0 0, G l0 1, G l0 2] s2)) [.bool false, .int .i64 0, C a0 0] σ fun x10 l11 s12 => match x10 with | .normal => N (G l11 2) (fun v13 => B P 3 .eql v13 (.int .i64 194) fun v14 => R v14 s12) | .ret => R (G l11 0) s12 | .exit i15 => (match Nat.beq i15 0 with | true => N (G l11 2) (fun v16 => B P 3 .eql v16 (.int .i64 194) fun v17 => R v17 s12) | false => False))
theorem vc_spec_DiskOk_eq (w0 : World) (a0 : Value) (σ : Vw) (R : Value → Vw → Prop) : vc_spec_DiskOk w0 a0 σ R = den Tryz.prog w0 kp_spec_DiskOk esc_spec_DiskOk (Tryz.f15.body.getD .skip) (entry Tryz.f15.ntmps [a0]) σ (retK Tryz.prog Tryz.f15.results.toList R) := by kernel_rfl
theorem ac_spec_DiskOk {w0 : World} {a0 : Value} {σ : Vw} {R : Value → Vw → Prop} (h : vc_spec_DiskOk w0 a0 σ R) : AC Tryz.prog w0 n_spec_DiskOk [a0] σ R := by
  refine ac_rule (fn := Tryz.f15) (c := Tryz.f15.body.getD .skip) kp_spec_DiskOk esc_spec_DiskOk Tryz.func15 (by kernel_rfl) (by kernel_rfl) ?_
  rw [← vc_spec_DiskOk_eq]
  exact h

/-- spec.DrawStoreOpen -/
def kp_spec_DrawStoreOpen : Nat → Keep
  | _ => ⟨[], [], [], .done, []⟩
def esc_spec_DrawStoreOpen : Nat → Bool
  | _ => false
def vc_spec_DrawStoreOpen (w0 : World) (a0 : Value) (σ : Vw) (R : Value → Vw → Prop) : Prop :=
  AC P w0 n_spec_l1Open [a0] σ fun v0 s1 => AC P w0 n_spec_l24Any [v0] s1 fun v2 s3 => V true 1 v2 (R (.agg (⟨[C v2 0]⟩)) s3)
theorem vc_spec_DrawStoreOpen_eq (w0 : World) (a0 : Value) (σ : Vw) (R : Value → Vw → Prop) : vc_spec_DrawStoreOpen w0 a0 σ R = den Tryz.prog w0 kp_spec_DrawStoreOpen esc_spec_DrawStoreOpen (Tryz.f16.body.getD .skip) (entry Tryz.f16.ntmps [a0]) σ (retK Tryz.prog Tryz.f16.results.toList R) := by kernel_rfl
theorem ac_spec_DrawStoreOpen {w0 : World} {a0 : Value} {σ : Vw} {R : Value → Vw → Prop} (h : vc_spec_DrawStoreOpen w0 a0 σ R) : AC Tryz.prog w0 n_spec_DrawStoreOpen [a0] σ R := by
  refine ac_rule (fn := Tryz.f16) (c := Tryz.f16.body.getD .skip) kp_spec_DrawStoreOpen esc_spec_DrawStoreOpen Tryz.func16 (by kernel_rfl) (by kernel_rfl) ?_
  rw [← vc_spec_DrawStoreOpen_eq]
  exact h

/-- spec.StoreOpen -/
def kp_spec_StoreOpen : Nat → Keep
  | 10 => ⟨[], [], [], .step 0 (.step 1 (.step 3 (.step 2 (.step 4 (.step 5 (.step 6 (.step 7 (.step 8 (.step 9 (.done)))))))))), [(2, [1]), (4, [0, 1, 2, 3]), (5, [0, 1, 2, 3, 4]), (6, [0, 1, 2, 3, 4, 5]), (7, [0, 1, 2, 3, 4, 5]), (8, [0, 1, 2, 3, 4, 5, 6]), (9, [0, 1, 2, 3, 4, 5, 6, 7, 8])]⟩
  | 14 => ⟨[3, 4], [(1, 1), (2, 4), (10, 4)], [1, 2, 10], .done, []⟩
  | _ => ⟨[], [], [], .done, []⟩
def esc_spec_StoreOpen : Nat → Bool
  | _ => false
def cs_spec_StoreOpen_2 (w0 : World) (s900 : Vw) (R : Value → Vw → Prop) : Prop :=
  V true 4 (.agg (⟨[.int .i64 0, .string ({ data := #[] }), .slice none 0 0, .int .i64 0]⟩)) (R (.tuple (⟨[.agg (⟨[.int .i64 0, .string ({ data := #[] }), .slice none 0 0, .int .i64 0]⟩), .bool false]⟩)) s900)
def cs_spec_StoreOpen_1 (w0 : World) (v900 : Value) (s901 : Vw) (v902 : Value) (v903 : Value) (R : Value → Vw → Prop) : Prop :=
  B P 3 .eql v900 (.int .i64 0) (fun v500 => Q v500 (cs_spec_StoreOpen_2 w0 s901 R) (AC P w0 n_spec_l22Area [v900] s901 fun v501 s502 => AC P w0 n_spec_l22Text ([.agg (⟨[C v902 0]⟩), v501, .int .i64 90, v903, .int .i64 0]) s502 fun v503 s504 => E v503 0 fun v505 => E v503 1 fun v506 => pUn .not v506 fun v507 => Q v507 (cs_spec_StoreOpen_2 w0 s504 R) (V false 1 v900 (V false 1 v505 (V true 4 (.agg (⟨[v900, v505, .slice none 0 0, .int .i64 0]⟩)) (pLoop (fun l508 K509 s510 => N (G l508 9) fun v511 => AC P w0 n_spec_l22Group ([.agg (⟨[G l508 2]⟩), G l508 1, v511, G l508 10]) s510 fun v512 s513 => E v512 0 fun v514 => E v512 1 fun v515 => B P 3 .eql v515 (.int .i64 0) fun v516 => Q v516 (AC P w0 n_spec_l22Clean ([.agg (⟨[G l508 2]⟩), .agg (⟨[G l508 7, G l508 8, G l508 9, G l508 10]⟩)]) s513 fun v517 s518 => E v517 0 fun v519 => E v517 1 fun v520 => V true 4 v519 (K509 .ret [v520, G l508 1, G l508 2, C v519 0, C v519 1, C v519 2, C v519 3, G l508 7, G l508 8, G l508 9, G l508 10] s518)) (V false 1 v514 ((allOne [v514]) ∧ (A w0 9 1 16 (G l508 9) 1 [v514] s513 fun v521 s522 => V false 1 v521 (B P 3 .add (G l508 10) v515 fun v523 => V false 1 v523 (K509 .normal [G l508 0, G l508 1, G l508 2, G l508 3, G l508 4, G l508 5, G l508 6, G l508 7, G l508 8, v521, v523] s522)))))) ([.bool false, v900, C v902 0, .int .i64 0, .string ({ data := #[] }), .slice none 0 0, .int .i64 0, v900, v505, .slice none 0 0, .int .i64 0]) s504 fun x524 l525 s526 => match x524 with | .normal => R (.tuple (⟨[.agg (⟨[G l525 3, G l525 4, G l525 5, G l525 6]⟩), G l525 0]⟩)) s526 | .ret => R (.tuple (⟨[.agg (⟨[G l525 3, G l525 4, G l525 5, G l525 6]⟩), G l525 0]⟩)) s526 | .exit i527 => (match Nat.beq i527 0 with | true => R (.tuple (⟨[.agg (⟨[G l525 3, G l525 4, G l525 5, G l525 6]⟩), G l525 0]⟩)) s526 | false => False)))))))
def vc_spec_StoreOpen (w0 : World) (a0 : Value) (σ : Vw) (R : Value → Vw → Prop) : Prop :=
  V true 1 a0 (AC P w0 n_spec_DiskOk ([.agg (⟨[C a0 0]⟩)]) σ fun v0 s1 => pUn .not v0 fun v2 => Q v2 (cs_spec_StoreOpen_2 w0 s1 R) (AC P w0 n_spec_l22Found ([.agg (⟨[C a0 0]⟩), .int .i64 0]) s1 fun v3 s4 => E v3 0 fun v5 => E v3 1 fun v6 => AC P w0 n_spec_l22Found ([.agg (⟨[C a0 0]⟩), .int .i64 1]) s4 fun v7 s8 => E v7 0 fun v9 => E v7 1 fun v10 => B P 3 .gtr v9 v5 fun v11 => Q v11 (cs_spec_StoreOpen_1 w0 v9 s8 a0 v10 R) (cs_spec_StoreOpen_1 w0 v5 s8 a0 v6 R)))

theorem vc_spec_StoreOpen_eq (w0 : World) (a0 : Value) (σ : Vw) (R : Value → Vw → Prop) : vc_spec_StoreOpen w0 a0 σ R = den Tryz.prog w0 kp_spec_StoreOpen esc_spec_StoreOpen (Tryz.f17.body.getD .skip) (entry Tryz.f17.ntmps [a0]) σ (retK Tryz.prog Tryz.f17.results.toList R) := by kernel_rfl
theorem ac_spec_StoreOpen {w0 : World} {a0 : Value} {σ : Vw} {R : Value → Vw → Prop} (h : vc_spec_StoreOpen w0 a0 σ R) : AC Tryz.prog w0 n_spec_StoreOpen [a0] σ R := by
  refine ac_rule (fn := Tryz.f17) (c := Tryz.f17.body.getD .skip) kp_spec_StoreOpen esc_spec_StoreOpen Tryz.func17 (by kernel_rfl) (by kernel_rfl) ?_
  rw [← vc_spec_StoreOpen_eq]
  exact h

/-- impl.StoreSave -/
def kp_impl_StoreSave : Nat → Keep
  | 8 => ⟨[], [], [], .step 0 (.step 1 (.step 2 (.step 3 (.step 5 (.step 6 (.step 7 (.step 8 (.both (.step 4 (.step 11 (.step 9 (.step 10 (.step 12 (.step 13 (.done))))))) (.step 9 (.step 10 (.step 4 (.step 11 (.step 12 (.step 13 (.done))))))))))))))), [(1, [0]), (2, [0, 1]), (4, [0, 1, 2, 3]), (6, [5]), (7, [5, 6]), (10, [5, 6, 7, 8, 9]), (11, [0, 1, 2, 3, 4]), (12, [0, 1, 2, 3, 4, 5, 6, 7, 8, 9, 10, 11]), (13, [0, 1, 2, 3, 4, 5, 6, 7, 8, 9, 10, 11, 12])]⟩
  | _ => ⟨[], [], [], .done, []⟩
/-- spec.StorePlay -/
def kp_spec_StorePlay : Nat → Keep
  | 6 => ⟨[1, 6, 10], [(4, 1), (5, 4), (7, 4), (9, 1)], [4, 5, 7, 9], .done, []⟩
  | 8 => ⟨[], [], [], .step 0 (.step 1 (.step 2 (.step 3 (.step 4 (.step 5 (.step 11 (.step 12 (.step 6 (.step 7 (.step 8 (.step 9 (.step 10 (.step 13 (.step 14 (.step 15 (.done)))))))))))))))), [(4, [2, 3]), (5, [2, 3, 4]), (6, [0, 1, 2, 3, 4, 5]), (7, [0, 1, 2, 3, 4, 5, 6]), (8, [0, 1, 2, 3, 4, 5, 6, 7]), (9, [0, 1, 2, 3, 4, 5, 6, 7]), (10, [0, 1, 2, 3, 4, 5, 6, 7]), (13, [0, 1, 2, 3, 4, 5, 6, 7, 8, 11, 12]), (14, [0, 1, 2, 3, 4, 5, 6, 7, 8, 9, 11, 12, 13]), (15, [0, 1, 2, 3, 4, 5, 6, 7, 8, 9, 10, 11, 12, 13, 14])]⟩
  | 13 => ⟨[], [], [], .step 0 (.step 2 (.step 1 (.step 3 (.step 4 (.step 5 (.step 6 (.done))))))), [(1, [0]), (3, [0, 1, 2]), (4, [0, 1, 2, 3]), (5, [0, 1, 2, 3, 4]), (6, [0, 1, 2, 3, 4, 5])]⟩
  | _ => ⟨[], [], [], .done, []⟩
def esc_spec_StorePlay : Nat → Bool
  | _ => false
def vc_spec_StorePlay (w0 : World) (a0 a1 : Value) (σ : Vw) (R : Value → Vw → Prop) : Prop :=
  V true 1 a0 (AC P w0 n_spec_StoreOpen ([.agg (⟨[C a0 0]⟩)]) σ fun v0 s1 => E v0 0 fun v2 => E v0 1 fun v3 => V true 4 v2 (pUn .not v3 fun v4 => Q v4 (V true 1 (.agg (⟨[.slice none 0 0]⟩)) (V true 4 (.agg (⟨[.int .i64 0, .string ({ data := #[] }), .slice none 0 0, .int .i64 0]⟩)) (R (.tuple (⟨[.agg (⟨[.slice none 0 0]⟩), .agg (⟨[.int .i64 0, .string ({ data := #[] }), .slice none 0 0, .int .i64 0]⟩), .bool false]⟩)) s1))) (AC P w0 n_spec_l21Copy ([.agg (⟨[C a0 0]⟩)]) s1 fun v5 s6 => V true 1 v5 (pLoop (fun l7 K8 s9 => N (G l7 0) fun v10 => B P 3 .lss (G l7 2) v10 fun v11 => Q v11 (X 3 (G l7 0) (G l7 2) fun v12 => L w0 3 v12 s9 fun g13 => AC P w0 n_spec_l23Step ([.agg (⟨[G l7 12]⟩), .agg (⟨[G l7 8, G l7 9, G l7 10, G l7 11]⟩), .agg (⟨[g13 0, g13 1, g13 2]⟩)]) s9 fun v14 s15 => E v14 0 fun v16 => E v14 1 fun v17 => E v14 2 fun v18 => V true 1 v16 (V true 4 v17 (pUn .not v18 fun v19 => Q v19 (V true 1 (.agg (⟨[.slice none 0 0]⟩)) (V true 4 (.agg (⟨[.int .i64 0, .string ({ data := #[] }), .slice none 0 0, .int .i64 0]⟩)) (K8 .ret ([G l7 0, .bool false, G l7 2, .slice none 0 0, .int .i64 0, .string ({ data := #[] }), .slice none 0 0, .int .i64 0, G l7 8, G l7 9, G l7 10, G l7 11, G l7 12]) s15))) (V true 1 (.agg (⟨[C v16 0]⟩)) (V true 4 (.agg (⟨[C v17 0, C v17 1, C v17 2, C v17 3]⟩)) (B P 3 .add (G l7 2) (.int .i64 1) fun v20 => K8 .normal [G l7 0, G l7 1, v20, G l7 3, G l7 4, G l7 5, G l7 6, G l7 7, C v17 0, C v17 1, C v17 2, C v17 3, C v16 0] s15)))))) (K8 (.exit 0) [G l7 0, G l7 1, G l7 2, G l7 3, G l7 4, G l7 5, G l7 6, G l7 7, G l7 8, G l7 9, G l7 10, G l7 11, G l7 12] s9)) ([a1, .bool false, .int .i64 0, .slice none 0 0, .int .i64 0, .string ({ data := #[] }), .slice none 0 0, .int .i64 0, C v2 0, C v2 1, C v2 2, C v2 3, C v5 0]) s6 fun x21 l22 s23 => match x21 with | .normal => AC P w0 n_spec_l21Copy ([.agg (⟨[G l22 12]⟩)]) s23 (fun v24 s25 => AC P w0 n_spec_l22Copy ([.agg (⟨[G l22 8, G l22 9, G l22 10, G l22 11]⟩)]) s25 fun v26 s27 => V true 1 v24 (V true 4 v26 (R (.tuple (⟨[.agg (⟨[C v24 0]⟩), .agg (⟨[C v26 0, C v26 1, C v26 2, C v26 3]⟩), .bool true]⟩)) s27))) | .ret => R (.tuple (⟨[.agg (⟨[G l22 3]⟩), .agg (⟨[G l22 4, G l22 5, G l22 6, G l22 7]⟩), G l22 1]⟩)) s23 | .exit i28 => (match Nat.beq i28 0 with | true => AC P w0 n_spec_l21Copy ([.agg (⟨[G l22 12]⟩)]) s23 (fun v29 s30 => AC P w0 n_spec_l22Copy ([.agg (⟨[G l22 8, G l22 9, G l22 10, G l22 11]⟩)]) s30 fun v31 s32 => V true 1 v29 (V true 4 v31 (R (.tuple (⟨[.agg (⟨[C v29 0]⟩), .agg (⟨[C v31 0, C v31 1, C v31 2, C v31 3]⟩), .bool true]⟩)) s32))) | false => False)))))
theorem vc_spec_StorePlay_eq (w0 : World) (a0 a1 : Value) (σ : Vw) (R : Value → Vw → Prop) : vc_spec_StorePlay w0 a0 a1 σ R = den Tryz.prog w0 kp_spec_StorePlay esc_spec_StorePlay (Tryz.f24.body.getD .skip) (entry Tryz.f24.ntmps [a0, a1]) σ (retK Tryz.prog Tryz.f24.results.toList R) := by kernel_rfl
theorem ac_spec_StorePlay {w0 : World} {a0 a1 : Value} {σ : Vw} {R : Value → Vw → Prop} (h : vc_spec_StorePlay w0 a0 a1 σ R) : AC Tryz.prog w0 n_spec_StorePlay [a0, a1] σ R := by
  refine ac_rule (fn := Tryz.f24) (c := Tryz.f24.body.getD .skip) kp_spec_StorePlay esc_spec_StorePlay Tryz.func24 (by kernel_rfl) (by kernel_rfl) ?_
  rw [← vc_spec_StorePlay_eq]
  exact h

/-- spec.l24Text -/
def kp_spec_l24Text : Nat → Keep
  | _ => ⟨[], [], [], .done, []⟩
def esc_spec_l24Text : Nat → Bool
  | 27 => true
  | _ => false
def vc_spec_l24Text (w0 : World) (a0 : Value) (σ : Vw) (R : Value → Vw → Prop) : Prop :=
  AC P w0 n_p_spec_l1Rd_pick [a0, .int .i64 12] σ fun v0 s1 => B P 3 .eql v0 (.int .i64 0) fun v2 => Q v2 (AC P w0 n_p_spec_l1Rd_pick [a0, .int .i64 2] s1 fun v3 s4 => B P 3 .sub (.int .i64 5760) v3 fun v5 => AC P w0 n_p_spec_l1Rd_pick [a0, .int .i64 2] s4 fun v6 s7 => B P 3 .add v5 v6 fun v8 => AC P w0 n_spec_l1Many ([.string ({ data := #[121] }), v8]) s7 fun v9 s10 => R v9 s10) (B P 3 .eql v0 (.int .i64 1) fun v11 => Q v11 (AC P w0 n_p_spec_l1Rd_pick [a0, .int .i64 20] s1 fun v12 s13 => AC P w0 n_spec_l1Many ([.string ({ data := #[72, 32, 49, 32, 48, 32, 51, 32] }), v12]) s13 fun v14 s15 => B P 9 .add v14 (.string ({ data := #[67, 32, 57, 32, 48] })) fun v16 => R v16 s15) (B P 3 .eql v0 (.int .i64 2) fun v17 => Q v17 (AC P w0 n_p_spec_l1Rd_pick [a0, .int .i64 4] s1 fun v18 s19 => B P 3 .mul (.int .i64 64) v18 fun v20 => AC P w0 n_spec_l1Many ([.string ({ data := #[122] }), v20]) s19 fun v21 s22 => R v21 s22) (V false 1 (.string ({ data := #[] })) (V false 1 (.string ({ data := #[97] })) (V false 1 (.string ({ data := #[104, 101, 108, 108, 111, 32] })) (V false 1 (.string ({ data := #[67, 32, 51, 32, 49] })) (V false 1 (.string ({ data := #[72, 32, 50, 32, 48, 32, 49] })) (V false 1 (.string ({ data := #[0] })) (W w0 9 ([.string ({ data := #[] }), .string ({ data := #[97] }), .string ({ data := #[104, 101, 108, 108, 111, 32] }), .string ({ data := #[67, 32, 51, 32, 49] }), .string ({ data := #[72, 32, 50, 32, 48, 32, 49] }), .string ({ data := #[0] })]) s1 fun n23 s24 => AC P w0 n_p_spec_l1Rd_of [a0, .slice (some (Addr.mk n23 0 none)) 6 6] s24 fun v25 s26 => AC P w0 n_p_spec_l1Rd_pick [a0, .int .i64 30] s26 fun v27 s28 => AC P w0 n_spec_l1Many [v25, v27] s28 fun v29 s30 => R v29 s30)))))))))
theorem vc_spec_l24Text_eq (w0 : World) (a0 : Value) (σ : Vw) (R : Value → Vw → Prop) : vc_spec_l24Text w0 a0 σ R = den Tryz.prog w0 kp_spec_l24Text esc_spec_l24Text (Tryz.f26.body.getD .skip) (entry Tryz.f26.ntmps [a0]) σ (retK Tryz.prog Tryz.f26.results.toList R) := by kernel_rfl
theorem ac_spec_l24Text {w0 : World} {a0 : Value} {σ : Vw} {R : Value → Vw → Prop} (h : vc_spec_l24Text w0 a0 σ R) : AC Tryz.prog w0 n_spec_l24Text [a0] σ R := by
  refine ac_rule (fn := Tryz.f26) (c := Tryz.f26.body.getD .skip) kp_spec_l24Text esc_spec_l24Text Tryz.func26 (by kernel_rfl) (by kernel_rfl) ?_
  rw [← vc_spec_l24Text_eq]
  exact h

/-- spec.l1Open -/
def kp_spec_l1Open : Nat → Keep
  | _ => ⟨[], [], [], .done, []⟩
def esc_spec_l1Open : Nat → Bool
  | 10 => true
  | _ => false
def vc_spec_l1Open (w0 : World) (a0 : Value) (σ : Vw) (R : Value → Vw → Prop) : Prop :=
  N a0 fun v0 => B P 3 .gtr v0 (.int .i64 2000) fun v1 => Q v1 (pSlice 1 a0 none (some (.int .i64 2000)) fun v2 => V false 1 v2 (V true 2 (.agg (⟨[v2, .int .i64 0]⟩)) (W w0 84 [v2, .int .i64 0] σ fun n3 s4 => R (.pointer (some (Addr.mk n3 0 none))) s4))) (V false 1 a0 (V true 2 (.agg (⟨[a0, .int .i64 0]⟩)) (W w0 84 [a0, .int .i64 0] σ fun n5 s6 => R (.pointer (some (Addr.mk n5 0 none))) s6)))
theorem vc_spec_l1Open_eq (w0 : World) (a0 : Value) (σ : Vw) (R : Value → Vw → Prop) : vc_spec_l1Open w0 a0 σ R = den Tryz.prog w0 kp_spec_l1Open esc_spec_l1Open (Tryz.f27.body.getD .skip) (entry Tryz.f27.ntmps [a0]) σ (retK Tryz.prog Tryz.f27.results.toList R) := by kernel_rfl
theorem ac_spec_l1Open {w0 : World} {a0 : Value} {σ : Vw} {R : Value → Vw → Prop} (h : vc_spec_l1Open w0 a0 σ R) : AC Tryz.prog w0 n_spec_l1Open [a0] σ R := by
  refine ac_rule (fn := Tryz.f27) (c := Tryz.f27.body.getD .skip) kp_spec_l1Open esc_spec_l1Open Tryz.func27 (by kernel_rfl) (by kernel_rfl) ?_
  rw [← vc_spec_l1Open_eq]
  exact h

/-- impl.checkpoint -/
def kp_impl_checkpoint : Nat → Keep
  | 3 => ⟨[0, 1, 5, 11, 12], [], [], .done, []⟩
  | 6 => ⟨[], [], [], .step 0 (.step 1 (.step 3 (.step 5 (.step 6 (.step 7 (.step 8 (.step 9 (.step 2 (.step 4 (.step 10 (.step 11 (.step 12 (.step 13 (.done)))))))))))))), [(2, [1]), (4, [1, 2, 3]), (7, [6]), (9, [5, 6, 7, 8]), (10, [1, 2, 3, 4, 5, 6, 7, 8, 9]), (11, [1, 2, 3, 4, 5, 6, 7, 8, 9, 10]), (12, [0, 1, 2, 3, 4, 5, 6, 7, 8, 9, 10, 11]), (13, [0, 1, 2, 3, 4, 5, 6, 7, 8, 9, 10, 11, 12])]⟩
  | _ => ⟨[], [], [], .done, []⟩
def esc_impl_checkpoint : Nat → Bool
  | 8 => true
  | _ => false
def vc_impl_checkpoint (w0 : World) (a0 a1 : Value) (σ : Vw) (R : Value → Vw → Prop) : Prop :=
  W w0 59 [] σ fun n0 s1 => pLenS a1 fun v2 => AC P w0 n_impl_pieces [v2, .int .i64 64] s1 fun v3 s4 => pLoop (fun l5 K6 s7 => B P 3 .lss (G l5 4) (G l5 3) fun v8 => Q v8 (B P 3 .add (G l5 4) (.int .i64 1) fun v9 => B P 3 .mul v9 (.int .i64 64) fun v10 => pLenS (G l5 1) fun v11 => pMin v10 v11 fun v12 => B P 3 .mul (G l5 4) (.int .i64 64) fun v13 => pSliceStr (G l5 1) (some v13) (some v12) fun v14 => AC P w0 n_impl_areaFirst [G l5 0] s7 fun v15 s16 => B P 3 .add v15 (G l5 4) fun v17 => V false 1 v17 (V false 1 v14 (V true 2 (.agg (⟨[v17, v14]⟩)) ((allOne [v17, v14]) ∧ (A w0 59 2 24 (G l5 2) 1 [v17, v14] s16 fun v18 s19 => B P 3 .add (G l5 4) (.int .i64 1) fun v20 => K6 .normal [G l5 0, G l5 1, v18, G l5 3, v20] s19))))) (K6 (.exit 0) [G l5 0, G l5 1, G l5 2, G l5 3, G l5 4] s7)) [a0, a1, .slice (some (Addr.mk n0 0 none)) 0 0, v3, .int .i64 0] s4 fun x21 l22 s23 => match x21 with | .normal => B P 3 .rem (G l22 0) (.int .i64 2) (fun v24 => pLenS (G l22 1) fun v25 => AC P w0 n_impl_checkHead [G l22 0, v25] s23 fun v26 s27 => V false 1 v24 (V false 1 v26 (V true 2 (.agg (⟨[v24, v26]⟩)) ((allOne [v24, v26]) ∧ (A w0 59 2 24 (G l22 2) 1 [v24, v26] s27 fun v28 s29 => R v28 s29))))) | .ret => False | .exit i30 => (match Nat.beq i30 0 with | true => B P 3 .rem (G l22 0) (.int .i64 2) (fun v31 => pLenS (G l22 1) fun v32 => AC P w0 n_impl_checkHead [G l22 0, v32] s23 fun v33 s34 => V false 1 v31 (V false 1 v33 (V true 2 (.agg (⟨[v31, v33]⟩)) ((allOne [v31, v33]) ∧ (A w0 59 2 24 (G l22 2) 1 [v31, v33] s34 fun v35 s36 => R v35 s36))))) | false => False)
theorem vc_impl_checkpoint_eq (w0 : World) (a0 a1 : Value) (σ : Vw) (R : Value → Vw → Prop) : vc_impl_checkpoint w0 a0 a1 σ R = den Tryz.prog w0 kp_impl_checkpoint esc_impl_checkpoint (Tryz.f28.body.getD .skip) (entry Tryz.f28.ntmps [a0, a1]) σ (retK Tryz.prog Tryz.f28.results.toList R) := by kernel_rfl
theorem ac_impl_checkpoint {w0 : World} {a0 a1 : Value} {σ : Vw} {R : Value → Vw → Prop} (h : vc_impl_checkpoint w0 a0 a1 σ R) : AC Tryz.prog w0 n_impl_checkpoint [a0, a1] σ R := by
  refine ac_rule (fn := Tryz.f28) (c := Tryz.f28.body.getD .skip) kp_impl_checkpoint esc_impl_checkpoint Tryz.func28 (by kernel_rfl) (by kernel_rfl) ?_
  rw [← vc_impl_checkpoint_eq]
  exact h

/-- spec.l22TextOk -/
def kp_spec_l22TextOk : Nat → Keep
  | _ => ⟨[], [], [], .done, []⟩
def esc_spec_l22TextOk : Nat → Bool
  | _ => false
def vc_spec_l22TextOk (w0 : World) (a0 : Value) (σ : Vw) (R : Value → Vw → Prop) : Prop :=
  pLenS a0 fun v0 => B P 3 .leq v0 (.int .i64 5760) fun v1 => R v1 σ
theorem vc_spec_l22TextOk_eq (w0 : World) (a0 : Value) (σ : Vw) (R : Value → Vw → Prop) : vc_spec_l22TextOk w0 a0 σ R = den Tryz.prog w0 kp_spec_l22TextOk esc_spec_l22TextOk (Tryz.f29.body.getD .skip) (entry Tryz.f29.ntmps [a0]) σ (retK Tryz.prog Tryz.f29.results.toList R) := by kernel_rfl
theorem ac_spec_l22TextOk {w0 : World} {a0 : Value} {σ : Vw} {R : Value → Vw → Prop} (h : vc_spec_l22TextOk w0 a0 σ R) : AC Tryz.prog w0 n_spec_l22TextOk [a0] σ R := by
  refine ac_rule (fn := Tryz.f29) (c := Tryz.f29.body.getD .skip) kp_spec_l22TextOk esc_spec_l22TextOk Tryz.func29 (by kernel_rfl) (by kernel_rfl) ?_
  rw [← vc_spec_l22TextOk_eq]
  exact h

/-- spec.l22Saved -/
def kp_spec_l22Saved : Nat → Keep
  | 3 => ⟨[0, 1, 5, 6], [], [], .done, []⟩
  | _ => ⟨[], [], [], .done, []⟩
def esc_spec_l22Saved : Nat → Bool
  | 7 => true
  | _ => false
def vc_spec_l22Saved (w0 : World) (a0 a1 : Value) (σ : Vw) (R : Value → Vw → Prop) : Prop :=
  W w0 59 [] σ fun n0 s1 => pLoop (fun l2 K3 s4 => AC P w0 n_spec_l22Many [G l2 1, .int .i64 64] s4 fun v5 s6 => B P 3 .lss (G l2 3) v5 fun v7 => Q v7 (AC P w0 n_spec_l22Area [G l2 0] s6 fun v8 s9 => B P 3 .add v8 (G l2 3) fun v10 => AC P w0 n_spec_l22Piece [G l2 1, G l2 3, .int .i64 64] s9 fun v11 s12 => V false 1 v10 (V false 1 v11 (V true 2 (.agg (⟨[v10, v11]⟩)) ((allOne [v10, v11]) ∧ (A w0 59 2 24 (G l2 2) 1 [v10, v11] s12 fun v13 s14 => B P 3 .add (G l2 3) (.int .i64 1) fun v15 => K3 .normal [G l2 0, G l2 1, v13, v15] s14))))) (K3 (.exit 0) [G l2 0, G l2 1, G l2 2, G l2 3] s6)) [a0, a1, .slice (some (Addr.mk n0 0 none)) 0 0, .int .i64 0] s1 fun x16 l17 s18 => match x16 with | .normal => B P 3 .rem (G l17 0) (.int .i64 2) (fun v19 => AC P w0 n_spec_l22Head [G l17 0, G l17 1] s18 fun v20 s21 => V false 1 v19 (V false 1 v20 (V true 2 (.agg (⟨[v19, v20]⟩)) ((allOne [v19, v20]) ∧ (A w0 59 2 24 (G l17 2) 1 [v19, v20] s21 fun v22 s23 => R v22 s23))))) | .ret => False | .exit i24 => (match Nat.beq i24 0 with | true => B P 3 .rem (G l17 0) (.int .i64 2) (fun v25 => AC P w0 n_spec_l22Head [G l17 0, G l17 1] s18 fun v26 s27 => V false 1 v25 (V false 1 v26 (V true 2 (.agg (⟨[v25, v26]⟩)) ((allOne [v25, v26]) ∧ (A w0 59 2 24 (G l17 2) 1 [v25, v26] s27 fun v28 s29 => R v28 s29))))) | false => False)
theorem vc_spec_l22Saved_eq (w0 : World) (a0 a1 : Value) (σ : Vw) (R : Value → Vw → Prop) : vc_spec_l22Saved w0 a0 a1 σ R = den Tryz.prog w0 kp_spec_l22Saved esc_spec_l22Saved (Tryz.f30.body.getD .skip) (entry Tryz.f30.ntmps [a0, a1]) σ (retK Tryz.prog Tryz.f30.results.toList R) := by kernel_rfl
theorem ac_spec_l22Saved {w0 : World} {a0 a1 : Value} {σ : Vw} {R : Value → Vw → Prop} (h : vc_spec_l22Saved w0 a0 a1 σ R) : AC Tryz.prog w0 n_spec_l22Saved [a0, a1] σ R := by
  refine ac_rule (fn := Tryz.f30) (c := Tryz.f30.body.getD .skip) kp_spec_l22Saved esc_spec_l22Saved Tryz.func30 (by kernel_rfl) (by kernel_rfl) ?_
  rw [← vc_spec_l22Saved_eq]
  exact h

/-- impl.head -/
def kp_impl_head : Nat → Keep
  | 4 => ⟨[], [], [], .step 0 (.step 1 (.step 2 (.step 4 (.step 5 (.step 6 (.step 3 (.step 7 (.step 8 (.step 9 (.done)))))))))), [(1, [0]), (2, [0, 1]), (3, [0, 1, 2]), (5, [4]), (6, [4, 5]), (7, [0, 1, 2, 3, 4, 5, 6]), (8, [0, 1, 2, 3, 4, 5, 6, 7]), (9, [0, 1, 2, 3, 4, 5, 6, 7, 8])]⟩
  | 5 => ⟨[], [], [], .step 0 (.step 1 (.step 3 (.step 4 (.step 5 (.step 6 (.step 7 (.step 2 (.step 8 (.step 9 (.step 10 (.step 11 (.step 12 (.step 13 (.step 14 (.step 15 (.step 16 (.step 17 (.step 18 (.step 19 (.step 20 (.step 21 (.step 22 (.step 23 (.step 24 (.done))))))))))))))))))))))))), [(2, [0, 1]), (4, [3]), (6, [3, 4, 5]), (7, [3, 4, 5, 6]), (8, [0, 1, 2, 3, 4, 5, 6, 7]), (9, [0, 1, 2, 3, 4, 5, 6, 7, 8]), (10, [0, 1, 2, 3, 4, 5, 6, 7, 8, 9]), (11, [0, 1, 2, 3, 4, 5, 6, 7, 8, 9, 10]), (12, [0, 1, 2, 3, 4, 5, 6, 7, 8, 9, 10, 11]), (13, [0, 1, 2, 3, 4, 5, 6, 7, 8, 9, 10, 11, 12]), (14, [0, 1, 2, 3, 4, 5, 6, 7, 8, 9, 10, 11, 12, 13]), (15, [0, 1, 2, 3, 4, 5, 6, 7, 8, 9, 10, 11, 12, 13, 14]), (16, [0, 1, 2, 3, 4, 5, 6, 7, 8, 9, 10, 11, 12, 13, 14, 15]), (17, [0, 1, 2, 3, 4, 5, 6, 7, 8, 9, 10, 11, 12, 13, 14]), (18, [0, 1, 2, 3, 4, 5, 6, 7, 8, 9, 10, 11, 12, 13, 14, 15, 16, 17]), (19, [0, 1, 2, 3, 4, 5, 6, 7, 8, 9, 10, 11, 12, 13, 14, 15, 16, 17, 18]), (20, [0, 1, 2, 3, 4, 5, 6, 7, 8, 9, 10, 11, 12, 13, 14, 15, 16, 17, 18, 19]), (21, [0, 1, 2, 3, 4, 5, 6, 7, 8, 9, 10, 11, 12, 13, 14, 15, 16, 17, 18, 19, 20]), (22, [0, 1, 2, 3, 4, 5, 6, 7, 8, 9, 10, 11, 12, 13, 14, 15, 16, 17, 18, 19, 20, 21]), (23, [0, 1, 2, 3, 4, 5, 6, 7, 8, 9, 10, 11, 12, 13, 14, 15, 16, 17, 18, 19, 20, 21, 22]), (24, [0, 1, 2, 3, 4, 5, 6, 7, 8, 9, 10, 11, 12, 13, 14, 15, 16, 17, 18, 19, 20, 21, 22, 23])]⟩
  | _ => ⟨[], [], [], .done, []⟩
def esc_impl_head : Nat → Bool
  | _ => false
def vc_impl_head (w0 : World) (a0 a1 : Value) (σ : Vw) (R : Value → Vw → Prop) : Prop :=
  V true 1 a0 (X 1 (C a0 0) a1 fun v0 => L w0 1 v0 σ fun g1 => AC P w0 n_strings_Split ([g1 0, .string ({ data := #[32] })]) σ fun v2 s3 => N v2 fun v4 => B P 3 .neq v4 (.int .i64 3) fun v5 => Q v5 (R (.tuple (⟨[.int .i64 0, .int .i64 0]⟩)) s3) (X 1 v2 (.int .i64 1) fun v6 => L w0 1 v6 s3 fun g7 => X 1 v2 (.int .i64 2) fun v8 => L w0 1 v8 s3 fun g9 => AC P w0 n_impl_numRead [g7 0] s3 fun v10 s11 => (Stay w0 s3 s11 v8 1) ∧ (AC P w0 n_impl_numRead [g9 0] s11 fun v12 s13 => X 1 (C a0 0) a1 fun v14 => L w0 1 v14 s13 fun g15 => AC P w0 n_impl_checkHead [v10, v12] s13 fun v16 s17 => (Stay w0 s13 s17 v14 1) ∧ (B P 9 .neq v16 (g15 0) fun v18 => Q v18 (R (.tuple (⟨[.int .i64 0, .int .i64 0]⟩)) s17) (AC P w0 n_impl_within [v10, .int .i64 1, .int .i64 99999] s17 fun v19 s20 => pUn .not v19 fun v21 => Q v21 (R (.tuple (⟨[.int .i64 0, .int .i64 0]⟩)) s20) (B P 3 .rem v10 (.int .i64 2) fun v22 => B P 3 .neq v22 a1 fun v23 => Q v23 (R (.tuple (⟨[.int .i64 0, .int .i64 0]⟩)) s20) (AC P w0 n_impl_within [v12, .int .i64 0, .int .i64 5760] s20 fun v24 s25 => pUn .not v24 fun v26 => Q v26 (R (.tuple (⟨[.int .i64 0, .int .i64 0]⟩)) s25) (R (.tuple (⟨[v10, v12]⟩)) s25))))))))
theorem vc_impl_head_eq (w0 : World) (a0 a1 : Value) (σ : Vw) (R : Value → Vw → Prop) : vc_impl_head w0 a0 a1 σ R = den Tryz.prog w0 kp_impl_head esc_impl_head (Tryz.f31.body.getD .skip) (entry Tryz.f31.ntmps [a0, a1]) σ (retK Tryz.prog Tryz.f31.results.toList R) := by kernel_rfl
theorem ac_impl_head {w0 : World} {a0 a1 : Value} {σ : Vw} {R : Value → Vw → Prop} (h : vc_impl_head w0 a0 a1 σ R) : AC Tryz.prog w0 n_impl_head [a0, a1] σ R := by
  refine ac_rule (fn := Tryz.f31) (c := Tryz.f31.body.getD .skip) kp_impl_head esc_impl_head Tryz.func31 (by kernel_rfl) (by kernel_rfl) ?_
  rw [← vc_impl_head_eq]
  exact h

/-- impl.checkText -/
def kp_impl_checkText : Nat → Keep
  | 3 => ⟨[1, 2, 6, 7, 8, 9], [(3, 1)], [3], .done, []⟩
  | 5 => ⟨[], [], [], .step 0 (.step 1 (.step 2 (.step 3 (.step 4 (.step 5 (.step 7 (.step 6 (.step 8 (.step 9 (.step 10 (.step 11 (.step 12 (.done))))))))))))), [(1, [0]), (2, [0, 1]), (3, [0, 1, 2]), (4, [0, 1, 2, 3]), (5, [0, 1, 2]), (6, [0, 1, 2, 5]), (7, [0, 1, 2]), (8, [0, 1, 2, 5, 6, 7]), (9, [0, 1, 2, 3, 4, 5, 6, 7, 8]), (10, [0, 1, 2, 3, 4, 5, 6, 7, 8, 9]), (11, [0, 1, 2, 3, 4, 5, 6, 7, 8, 9, 10]), (12, [0, 1, 2, 3, 4, 5, 6, 7, 8, 9, 10, 11])]⟩
  | 7 => ⟨[], [], [], .step 0 (.step 1 (.step 2 (.step 3 (.step 5 (.step 4 (.step 6 (.step 7 (.step 8 (.step 9 (.step 10 (.done))))))))))), [(2, [1]), (4, [3]), (6, [3, 4, 5]), (7, [1, 2, 3, 4, 5, 6]), (8, [1, 2, 3, 4, 5, 6, 7]), (9, [0, 1, 2, 3, 4, 5, 6, 7, 8]), (10, [0, 1, 2, 3, 4, 5, 6, 7, 8, 9])]⟩
  | _ => ⟨[], [], [], .done, []⟩
def esc_impl_checkText : Nat → Bool
  | _ => false
def vc_impl_checkText (w0 : World) (a0 a1 a2 : Value) (σ : Vw) (R : Value → Vw → Prop) : Prop :=
  V true 1 a0 (pLoop (fun l0 K1 s2 => pLenS (G l0 4) fun v3 => B P 3 .lss v3 (G l0 1) fun v4 => Q v4 (B P 3 .eql (G l0 5) (.int .i64 90) fun v5 => Q v5 (K1 .ret ([G l0 0, G l0 1, .string ({ data := #[] }), .bool false, G l0 4, G l0 5, G l0 6]) s2) (AC P w0 n_impl_areaFirst [G l0 0] s2 fun v6 s7 => B P 3 .add v6 (G l0 5) fun v8 => X 1 (G l0 6) v8 fun v9 => L w0 1 v9 s7 fun g10 => B P 9 .eql (g10 0) (.string ({ data := #[] })) fun v11 => Q v11 (K1 .ret ([G l0 0, G l0 1, .string ({ data := #[] }), .bool false, G l0 4, G l0 5, G l0 6]) s7) (AC P w0 n_impl_areaFirst [G l0 0] s7 fun v12 s13 => B P 3 .add v12 (G l0 5) fun v14 => X 1 (G l0 6) v14 fun v15 => L w0 1 v15 s13 fun g16 => B P 9 .add (G l0 4) (g16 0) fun v17 => B P 3 .add (G l0 5) (.int .i64 1) fun v18 => K1 .normal [G l0 0, G l0 1, G l0 2, G l0 3, v17, v18, G l0 6] s13))) (K1 (.exit 0) [G l0 0, G l0 1, G l0 2, G l0 3, G l0 4, G l0 5, G l0 6] s2)) ([a1, a2, .string ({ data := #[] }), .bool false, .string ({ data := #[] }), .int .i64 0, C a0 0]) σ fun x19 l20 s21 => match x19 with | .normal => pLenS (G l20 4) (fun v22 => B P 3 .eql v22 (G l20 1) fun v23 => R (.tuple (⟨[G l20 4, v23]⟩)) s21) | .ret => R (.tuple (⟨[G l20 2, G l20 3]⟩)) s21 | .exit i24 => (match Nat.beq i24 0 with | true => pLenS (G l20 4) (fun v25 => B P 3 .eql v25 (G l20 1) fun v26 => R (.tuple (⟨[G l20 4, v26]⟩)) s21) | false => False))
theorem vc_impl_checkText_eq (w0 : World) (a0 a1 a2 : Value) (σ : Vw) (R : Value → Vw → Prop) : vc_impl_checkText w0 a0 a1 a2 σ R = den Tryz.prog w0 kp_impl_checkText esc_impl_checkText (Tryz.f32.body.getD .skip) (entry Tryz.f32.ntmps [a0, a1, a2]) σ (retK Tryz.prog Tryz.f32.results.toList R) := by kernel_rfl
theorem ac_impl_checkText {w0 : World} {a0 a1 a2 : Value} {σ : Vw} {R : Value → Vw → Prop} (h : vc_impl_checkText w0 a0 a1 a2 σ R) : AC Tryz.prog w0 n_impl_checkText [a0, a1, a2] σ R := by
  refine ac_rule (fn := Tryz.f32) (c := Tryz.f32.body.getD .skip) kp_impl_checkText esc_impl_checkText Tryz.func32 (by kernel_rfl) (by kernel_rfl) ?_
  rw [← vc_impl_checkText_eq]
  exact h

/-- impl.group -/
def kp_impl_group : Nat → Keep
  | 5 => ⟨[], [], [], .step 0 (.step 1 (.step 2 (.step 4 (.step 5 (.step 6 (.step 7 (.step 8 (.step 9 (.step 3 (.step 10 (.step 11 (.step 12 (.step 13 (.step 14 (.step 15 (.step 16 (.step 17 (.step 18 (.step 19 (.step 20 (.step 21 (.step 22 (.done))))))))))))))))))))))), [(3, [0, 1, 2]), (5, [4]), (7, [6]), (8, [4, 5, 6, 7]), (9, [4, 5, 6, 7, 8]), (10, [0, 1, 2, 3, 4, 5, 6, 7, 8, 9]), (11, [0, 1, 2, 3, 4, 5, 6, 7, 8, 9, 10]), (12, [0, 1, 2, 3, 4, 5, 6, 7, 8, 9, 10, 11]), (13, [0, 1, 2, 3, 4, 5, 6, 7, 8, 9, 10, 11, 12]), (14, [0, 1, 2, 3, 4, 5, 6, 7, 8, 9, 10, 11, 12, 13]), (15, [0, 1, 2, 3, 4, 5, 6, 7, 8, 9, 10, 11, 12, 13, 14]), (16, [0, 1, 2, 3, 4, 5, 6, 7, 8, 9, 10, 11, 12, 13, 14, 15]), (17, [0, 1, 2, 3, 4, 5, 6, 7, 8, 9, 10, 11, 12, 13, 14, 15, 16]), (18, [0, 1, 2, 3, 4, 5, 6, 7, 8, 9, 10, 11, 12, 13, 14, 15, 16]), (19, [0, 1, 2, 3, 4, 5, 6, 7, 8, 9, 10, 11, 12, 13, 14, 15, 16, 18]), (20, [0, 1, 2, 3, 4, 5, 6, 7, 8, 9, 10, 11, 12, 13, 14, 15, 16, 17, 18, 19]), (21, [0, 1, 2, 3, 4, 5, 6, 7, 8, 9, 10, 11, 12, 13, 14, 15, 16, 17, 18, 19, 20]), (22, [0, 1, 2, 3, 4, 5, 6, 7, 8, 9, 10, 11, 12, 13, 14, 15, 16, 17, 18, 19, 20, 21])]⟩
  | 9 => ⟨[3, 8, 9, 11, 12, 13], [(4, 1)], [4], .done, []⟩
  | _ => ⟨[], [], [], .done, []⟩
def esc_impl_group : Nat → Bool
  | _ => false
def vc_impl_group (w0 : World) (a0 a1 a2 a3 : Value) (σ : Vw) (R : Value → Vw → Prop) : Prop :=
  V true 1 a0 (B P 3 .geq a3 (.int .i64 12) fun v0 => Q v0 (R (.tuple (⟨[.string ({ data := #[] }), .bool false]⟩)) σ) (B P 3 .add (.int .i64 2) a3 fun v1 => X 1 (C a0 0) v1 fun v2 => L w0 1 v2 σ fun g3 => AC P w0 n_strings_Split ([g3 0, .string ({ data := #[32] })]) σ fun v4 s5 => N v4 fun v6 => B P 3 .sub v6 (.int .i64 1) fun v7 => X 1 v4 v7 fun v8 => L w0 1 v8 s5 fun g9 => AC P w0 n_impl_numRead [g9 0] s5 fun v10 s11 => B P 3 .add (.int .i64 2) a3 fun v12 => X 1 (C a0 0) v12 fun v13 => L w0 1 v13 s11 fun g14 => AC P w0 n_impl_groupHead [a1, a2, v10] s11 fun v15 s16 => (Stay w0 s11 s16 v13 1) ∧ (B P 9 .neq v15 (g14 0) fun v17 => Q v17 (R (.tuple (⟨[.string ({ data := #[] }), .bool false]⟩)) s16) (AC P w0 n_impl_within [v10, .int .i64 0, .int .i64 600] s16 fun v18 s19 => pUn .not v18 fun v20 => Q v20 (R (.tuple (⟨[.string ({ data := #[] }), .bool false]⟩)) s19) (AC P w0 n_impl_groupBlocks [v10] s19 fun v21 s22 => B P 3 .add a3 v21 fun v23 => B P 3 .gtr v23 (.int .i64 12) fun v24 => Q v24 (R (.tuple (⟨[.string ({ data := #[] }), .bool false]⟩)) s22) (pLoop (fun l25 K26 s27 => AC P w0 n_impl_groupBlocks [G l25 3] s27 fun v28 s29 => B P 3 .lss (G l25 5) v28 fun v30 => Q v30 (B P 3 .add (.int .i64 2) (G l25 0) fun v31 => B P 3 .add v31 (G l25 5) fun v32 => X 1 (G l25 6) v32 fun v33 => L w0 1 v33 s29 fun g34 => pLenS (g34 0) fun v35 => B P 3 .lss v35 (.int .i64 2) fun v36 => Q v36 (K26 .ret ([G l25 0, .string ({ data := #[] }), .bool false, G l25 3, G l25 4, G l25 5, G l25 6]) s29) (pIndexStr (g34 0) (.int .i64 0) fun v37 => B P 5 .neq v37 (.int .u8 68) fun v38 => Q v38 (K26 .ret ([G l25 0, .string ({ data := #[] }), .bool false, G l25 3, G l25 4, G l25 5, G l25 6]) s29) (pSliceStr (g34 0) (some (.int .i64 1)) none fun v39 => B P 9 .add (G l25 4) v39 fun v40 => B P 3 .add (G l25 5) (.int .i64 1) fun v41 => K26 .normal [G l25 0, G l25 1, G l25 2, G l25 3, v40, v41, G l25 6] s29))) (K26 (.exit 0) [G l25 0, G l25 1, G l25 2, G l25 3, G l25 4, G l25 5, G l25 6] s29)) ([a3, .string ({ data := #[] }), .bool false, v10, .string ({ data := #[] }), .int .i64 1, C a0 0]) s22 fun x42 l43 s44 => match x42 with | .normal => pLenS (G l43 4) (fun v45 => B P 3 .eql v45 (G l43 3) fun v46 => R (.tuple (⟨[G l43 4, v46]⟩)) s44) | .ret => R (.tuple (⟨[G l43 1, G l43 2]⟩)) s44 | .exit i47 => (match Nat.beq i47 0 with | true => pLenS (G l43 4) (fun v48 => B P 3 .eql v48 (G l43 3) fun v49 => R (.tuple (⟨[G l43 4, v49]⟩)) s44) | false => False)))))))
theorem vc_impl_group_eq (w0 : World) (a0 a1 a2 a3 : Value) (σ : Vw) (R : Value → Vw → Prop) : vc_impl_group w0 a0 a1 a2 a3 σ R = den Tryz.prog w0 kp_impl_group esc_impl_group (Tryz.f33.body.getD .skip) (entry Tryz.f33.ntmps [a0, a1, a2, a3]) σ (retK Tryz.prog Tryz.f33.results.toList R) := by kernel_rfl
theorem ac_impl_group {w0 : World} {a0 a1 a2 a3 : Value} {σ : Vw} {R : Value → Vw → Prop} (h : vc_impl_group w0 a0 a1 a2 a3 σ R) : AC Tryz.prog w0 n_impl_group [a0, a1, a2, a3] σ R := by
  refine ac_rule (fn := Tryz.f33) (c := Tryz.f33.body.getD .skip) kp_impl_group esc_impl_group Tryz.func33 (by kernel_rfl) (by kernel_rfl) ?_
  rw [← vc_impl_group_eq]
  exact h

/-- impl.groupBlocks -/
def kp_impl_groupBlocks : Nat → Keep
  | _ => ⟨[], [], [], .done, []⟩
def esc_impl_groupBlocks : Nat → Bool
  | _ => false
def vc_impl_groupBlocks (w0 : World) (a0 : Value) (σ : Vw) (R : Value → Vw → Prop) : Prop :=
  AC P w0 n_impl_pieces [a0, .int .i64 63] σ fun v0 s1 => B P 3 .add (.int .i64 1) v0 fun v2 => R v2 s1
theorem vc_impl_groupBlocks_eq (w0 : World) (a0 : Value) (σ : Vw) (R : Value → Vw → Prop) : vc_impl_groupBlocks w0 a0 σ R = den Tryz.prog w0 kp_impl_groupBlocks esc_impl_groupBlocks (Tryz.f34.body.getD .skip) (entry Tryz.f34.ntmps [a0]) σ (retK Tryz.prog Tryz.f34.results.toList R) := by kernel_rfl
theorem ac_impl_groupBlocks {w0 : World} {a0 : Value} {σ : Vw} {R : Value → Vw → Prop} (h : vc_impl_groupBlocks w0 a0 σ R) : AC Tryz.prog w0 n_impl_groupBlocks [a0] σ R := by
  refine ac_rule (fn := Tryz.f34) (c := Tryz.f34.body.getD .skip) kp_impl_groupBlocks esc_impl_groupBlocks Tryz.func34 (by kernel_rfl) (by kernel_rfl) ?_
  rw [← vc_impl_groupBlocks_eq]
  exact h

/-- impl.headLike -/
def kp_impl_headLike : Nat → Keep
  | 5 => ⟨[], [], [], .step 0 (.step 2 (.step 3 (.step 4 (.step 1 (.step 5 (.step 6 (.step 7 (.step 8 (.step 9 (.step 10 (.step 11 (.step 12 (.step 13 (.step 14 (.step 15 (.step 16 (.step 17 (.step 18 (.done))))))))))))))))))), [(1, [0]), (3, [2]), (4, [2, 3]), (5, [0, 1, 2, 3, 4]), (6, [0, 1, 2, 3, 4, 5]), (7, [0, 1, 2, 3, 4, 5, 6]), (8, [0, 1, 2, 3, 4, 5, 6, 7]), (9, [0, 1, 2, 3, 4, 5, 6, 7, 8]), (10, [0, 1, 2, 3, 4, 5, 6, 7, 8, 9]), (11, [0, 1, 2, 3, 4, 5, 6, 7, 8, 9, 10]), (12, [0, 1, 2, 3, 4, 5, 6, 7, 8, 9, 10, 11]), (13, [0, 1, 2, 3, 4, 5, 6, 7, 8, 9, 10, 11, 12]), (14, [0, 1, 2, 3, 4, 5, 6, 7, 8, 9, 10, 11, 12, 13]), (15, [0, 1, 2, 3, 4, 5, 6, 7, 8, 9, 10, 11, 12, 13]), (16, [0, 1, 2, 3, 4, 5, 6, 7, 8, 9, 10, 11, 12, 13, 14, 15]), (17, [0, 1, 2, 3, 4, 5, 6, 7, 8, 9, 10, 11, 12, 13, 14, 15, 16]), (18, [0, 1, 2, 3, 4, 5, 6, 7, 8, 9, 10, 11, 12, 13, 14, 15, 16, 17])]⟩
  | _ => ⟨[], [], [], .done, []⟩
def esc_impl_headLike : Nat → Bool
  | _ => false
def vc_impl_headLike (w0 : World) (a0 a1 : Value) (σ : Vw) (R : Value → Vw → Prop) : Prop :=
  AC P w0 n_strings_Split ([a0, .string ({ data := #[32] })]) σ fun v0 s1 => N v0 fun v2 => B P 3 .neq v2 (.int .i64 4) fun v3 => Q v3 (R (.bool false) s1) (X 1 v0 (.int .i64 0) fun v4 => L w0 1 v4 s1 fun g5 => B P 9 .neq (g5 0) (.string ({ data := #[72] })) fun v6 => Q v6 (R (.bool false) s1) (X 1 v0 (.int .i64 1) fun v7 => L w0 1 v7 s1 fun g8 => AC P w0 n_impl_numRead [g8 0] s1 fun v9 s10 => X 1 v0 (.int .i64 1) fun v11 => L w0 1 v11 s10 fun g12 => AC P w0 n_strconv_Itoa [v9] s10 fun v13 s14 => (Stay w0 s10 s14 v11 1) ∧ (B P 9 .eql v13 (g12 0) fun v15 => Q v15 (X 1 v0 (.int .i64 1) fun v16 => L w0 1 v16 s14 fun g17 => pLenS (g17 0) fun v18 => B P 3 .leq v18 (.int .i64 5) fun v19 => Q v19 (B P 3 .geq v9 a1 fun v20 => R v20 s14) (R (.bool false) s14)) (R (.bool false) s14))))
theorem vc_impl_headLike_eq (w0 : World) (a0 a1 : Value) (σ : Vw) (R : Value → Vw → Prop) : vc_impl_headLike w0 a0 a1 σ R = den Tryz.prog w0 kp_impl_headLike esc_impl_headLike (Tryz.f35.body.getD .skip) (entry Tryz.f35.ntmps [a0, a1]) σ (retK Tryz.prog Tryz.f35.results.toList R) := by kernel_rfl
theorem ac_impl_headLike {w0 : World} {a0 a1 : Value} {σ : Vw} {R : Value → Vw → Prop} (h : vc_impl_headLike w0 a0 a1 σ R) : AC Tryz.prog w0 n_impl_headLike [a0, a1] σ R := by
  refine ac_rule (fn := Tryz.f35) (c := Tryz.f35.body.getD .skip) kp_impl_headLike esc_impl_headLike Tryz.func35 (by kernel_rfl) (by kernel_rfl) ?_
  rw [← vc_impl_headLike_eq]
  exact h

/-- impl.cloneDisk -/
def kp_impl_cloneDisk : Nat → Keep
  | _ => ⟨[], [], [], .done, []⟩
def esc_impl_cloneDisk : Nat → Bool
  | 3 => true
  | _ => false
def vc_impl_cloneDisk (w0 : World) (a0 : Value) (σ : Vw) (R : Value → Vw → Prop) : Prop :=
  V true 1 a0 (W w0 9 [] σ fun n0 s1 => pAppendS w0 9 1 16 (.slice (some (Addr.mk n0 0 none)) 0 0) (C a0 0) s1 fun v2 s3 => V false 1 v2 (V true 1 (.agg ⟨[v2]⟩) (R (.agg ⟨[v2]⟩) s3)))
theorem vc_impl_cloneDisk_eq (w0 : World) (a0 : Value) (σ : Vw) (R : Value → Vw → Prop) : vc_impl_cloneDisk w0 a0 σ R = den Tryz.prog w0 kp_impl_cloneDisk esc_impl_cloneDisk (Tryz.f36.body.getD .skip) (entry Tryz.f36.ntmps [a0]) σ (retK Tryz.prog Tryz.f36.results.toList R) := by kernel_rfl
theorem ac_impl_cloneDisk {w0 : World} {a0 : Value} {σ : Vw} {R : Value → Vw → Prop} (h : vc_impl_cloneDisk w0 a0 σ R) : AC Tryz.prog w0 n_impl_cloneDisk [a0] σ R := by
  refine ac_rule (fn := Tryz.f36) (c := Tryz.f36.body.getD .skip) kp_impl_cloneDisk esc_impl_cloneDisk Tryz.func36 (by kernel_rfl) (by kernel_rfl) ?_
  rw [← vc_impl_cloneDisk_eq]
  exact h

/-- impl.within -/
def kp_impl_within : Nat → Keep
  | _ => ⟨[], [], [], .done, []⟩
def esc_impl_within : Nat → Bool
  | _ => false
def vc_impl_within (w0 : World) (a0 a1 a2 : Value) (σ : Vw) (R : Value → Vw → Prop) : Prop :=
  B P 3 .geq a0 a1 fun v0 => Q v0 (B P 3 .leq a0 a2 fun v1 => R v1 σ) (R (.bool false) σ)
theorem vc_impl_within_eq (w0 : World) (a0 a1 a2 : Value) (σ : Vw) (R : Value → Vw → Prop) : vc_impl_within w0 a0 a1 a2 σ R = den Tryz.prog w0 kp_impl_within esc_impl_within (Tryz.f37.body.getD .skip) (entry Tryz.f37.ntmps [a0, a1, a2]) σ (retK Tryz.prog Tryz.f37.results.toList R) := by kernel_rfl
theorem ac_impl_within {w0 : World} {a0 a1 a2 : Value} {σ : Vw} {R : Value → Vw → Prop} (h : vc_impl_within w0 a0 a1 a2 σ R) : AC Tryz.prog w0 n_impl_within [a0, a1, a2] σ R := by
  refine ac_rule (fn := Tryz.f37) (c := Tryz.f37.body.getD .skip) kp_impl_within esc_impl_within Tryz.func37 (by kernel_rfl) (by kernel_rfl) ?_
  rw [← vc_impl_within_eq]
  exact h

/-- spec.l24Disk -/
def kp_spec_l24Disk : Nat → Keep
  | _ => ⟨[], [], [], .done, []⟩
def esc_spec_l24Disk : Nat → Bool
  | _ => false
def vc_spec_l24Disk (w0 : World) (a0 : Value) (σ : Vw) (R : Value → Vw → Prop) : Prop :=
  AC P w0 n_spec_l24New [a0] σ fun v0 s1 => AC P w0 n_spec_l24Steps [a0, .int .i64 14] s1 fun v2 s3 => AC P w0 n_spec_StorePlay [v0, v2] s3 fun v4 s5 => E v4 0 fun v6 => E v4 1 fun v7 => E v4 2 fun v8 => V true 1 v6 (V true 4 v7 (V true 1 (.agg (⟨[C v6 0]⟩)) (R (.agg (⟨[C v6 0]⟩)) s5)))
theorem vc_spec_l24Disk_eq (w0 : World) (a0 : Value) (σ : Vw) (R : Value → Vw → Prop) : vc_spec_l24Disk w0 a0 σ R = den Tryz.prog w0 kp_spec_l24Disk esc_spec_l24Disk (Tryz.f38.body.getD .skip) (entry Tryz.f38.ntmps [a0]) σ (retK Tryz.prog Tryz.f38.results.toList R) := by kernel_rfl
theorem ac_spec_l24Disk {w0 : World} {a0 : Value} {σ : Vw} {R : Value → Vw → Prop} (h : vc_spec_l24Disk w0 a0 σ R) : AC Tryz.prog w0 n_spec_l24Disk [a0] σ R := by
  refine ac_rule (fn := Tryz.f38) (c := Tryz.f38.body.getD .skip) kp_spec_l24Disk esc_spec_l24Disk Tryz.func38 (by kernel_rfl) (by kernel_rfl) ?_
  rw [← vc_spec_l24Disk_eq]
  exact h

/-- (*spec.l1Rd).pick -/
def kp_p_spec_l1Rd_pick : Nat → Keep
  | 7 => ⟨[], [], [], .step 0 (.step 1 (.step 2 (.step 3 (.step 4 (.step 5 (.step 6 (.step 7 (.step 8 (.step 9 (.step 10 (.step 11 (.step 12 (.step 13 (.step 14 (.step 15 (.step 16 (.step 17 (.step 18 (.step 19 (.step 20 (.step 21 (.step 22 (.step 23 (.step 24 (.step 25 (.step 26 (.step 27 (.step 28 (.step 29 (.step 30 (.step 31 (.step 32 (.step 33 (.step 34 (.step 35 (.step 36 (.step 37 (.step 38 (.step 39 (.step 40 (.step 41 (.step 42 (.step 43 (.step 44 (.step 45 (.done)))))))))))))))))))))))))))))))))))))))))))))), [(1, [0]), (2, [0, 1]), (3, [0, 1, 2]), (6, [5]), (7, [5, 6]), (8, [5, 6, 7]), (9, [5, 6, 7, 8]), (10, [4, 5, 6, 7, 8, 9]), (11, [0, 1, 2, 3, 4, 5, 6, 7, 8, 9, 10]), (12, [0, 1, 2, 3, 4, 5, 6, 7, 8, 9, 10, 11]), (13, [0, 1, 2, 3, 4, 5, 6, 7, 8, 9, 10, 11, 12]), (14, [0, 1, 2, 3, 4, 5, 6, 7, 8, 9, 10, 11, 12, 13]), (16, [15]), (17, [15, 16]), (18, [15, 16, 17]), (20, [19]), (21, [19, 20]), (23, [22]), (24, [22, 23]), (25, [22, 23, 24]), (26, [22, 23, 24, 25]), (27, [19, 20, 21, 22, 23, 24, 25, 26]), (28, [15, 16, 17, 18, 19, 20, 21, 22, 23, 24, 25, 26, 27]), (29, [15, 16, 17, 18, 19, 20, 21, 22, 23, 24, 25, 26, 27, 28]), (30, [15, 16, 17, 18, 19, 20, 21, 22, 23, 24, 25, 26, 27, 28, 29]), (31, [15, 16, 17, 18, 19, 20, 21, 22, 23, 24, 25, 26, 27, 28, 29, 30]), (32, [0, 1, 2, 3, 4, 5, 6, 7, 8, 9, 10, 11, 12, 13, 14, 15, 16, 17, 18, 19, 20, 21, 22, 23, 24, 25, 26, 27, 28, 29, 30, 31]), (34, [33]), (35, [0, 1, 2, 3, 4, 5, 6, 7, 8, 9, 10, 11, 12, 13, 14, 15, 16, 17, 18, 19, 20, 21, 22, 23, 24, 25, 26, 27, 28, 29, 30, 31, 32, 33, 34]), (38, [37]), (39, [37, 38]), (40, [37, 38, 39]), (41, [37, 38, 39, 40]), (42, [36, 37, 38, 39, 40, 41]), (43, [36, 37, 38, 39, 40, 41, 42]), (44, [0, 1, 2, 3, 4, 5, 6, 7, 8, 9, 10, 11, 12, 13, 14, 15, 16, 17, 18, 19, 20, 21, 22, 23, 24, 25, 26, 27, 28, 29, 30, 31, 32, 33, 34, 35, 36, 37, 38, 39, 40, 41, 42, 43]), (45, [0, 1, 2, 3, 4, 5, 6, 7, 8, 9, 10, 11, 12, 13, 14, 15, 16, 17, 18, 19, 20, 21, 22, 23, 24, 25, 26, 27, 28, 29, 30, 31, 32, 33, 34, 35, 36, 37, 38, 39, 40, 41, 42, 43, 44])]⟩
  | _ => ⟨[], [], [], .done, []⟩
def esc_p_spec_l1Rd_pick : Nat → Bool
  | _ => false
def vc_p_spec_l1Rd_pick (w0 : World) (a0 a1 : Value) (σ : Vw) (R : Value → Vw → Prop) : Prop :=
  pNil a0 (F 1 a0 fun v0 => L w0 1 v0 σ fun g1 => B P 3 .add (g1 0) (.int .i64 1) fun v2 => pNil a0 (F 1 a0 fun v3 => V false 1 v2 (pStore v3 [v2] σ fun s4 => B P 3 .lss a1 (.int .i64 1) fun v5 => Q v5 (R (.int .i64 0) s4) (pNil a0 (F 0 a0 fun v6 => L w0 1 v6 s4 fun g7 => N (g7 0) fun v8 => B P 3 .eql v8 (.int .i64 0) fun v9 => Q v9 (R (.int .i64 0) s4) (pNil a0 (F 1 a0 fun v10 => L w0 1 v10 s4 fun g11 => B P 3 .sub (g11 0) (.int .i64 1) fun v12 => pNil a0 (F 0 a0 fun v13 => L w0 1 v13 s4 fun g14 => N (g14 0) fun v15 => B P 3 .lss v12 v15 fun v16 => Q v16 (pNil a0 (F 0 a0 fun v17 => L w0 1 v17 s4 fun g18 => X 1 (g18 0) v12 fun v19 => L w0 1 v19 s4 fun g20 => pConvInt .i64 (g20 0) fun v21 => B P 3 .rem v21 a1 fun v22 => R v22 s4)) (pNil a0 (F 0 a0 fun v23 => L w0 1 v23 s4 fun g24 => pNil a0 (F 0 a0 fun v25 => L w0 1 v25 s4 fun g26 => N (g26 0) fun v27 => B P 3 .rem v12 v27 fun v28 => X 1 (g24 0) v28 fun v29 => L w0 1 v29 s4 fun g30 => pConvInt .i64 (g30 0) fun v31 => B P 3 .mul v31 (.int .i64 131) fun v32 => pNil a0 (F 0 a0 fun v33 => L w0 1 v33 s4 fun g34 => B P 3 .mul v12 (.int .i64 7) fun v35 => B P 3 .add v35 (.int .i64 3) fun v36 => pNil a0 (F 0 a0 fun v37 => L w0 1 v37 s4 fun g38 => N (g38 0) fun v39 => B P 3 .rem v36 v39 fun v40 => X 1 (g34 0) v40 fun v41 => L w0 1 v41 s4 fun g42 => pConvInt .i64 (g42 0) fun v43 => B P 3 .mul v43 (.int .i64 1117) fun v44 => B P 3 .add v32 v44 fun v45 => B P 3 .mul v12 (.int .i64 29) fun v46 => B P 3 .add v45 v46 fun v47 => pNil a0 (F 0 a0 fun v48 => L w0 1 v48 s4 fun g49 => N (g49 0) fun v50 => B P 3 .quo v12 v50 fun v51 => B P 3 .mul v51 (.int .i64 53) fun v52 => B P 3 .add v47 v52 fun v53 => B P 3 .quo v53 (.int .i64 64) fun v54 => B P 3 .xor v53 v54 fun v55 => B P 3 .rem v55 a1 fun v56 => R v56 s4))))))))))))))
theorem vc_p_spec_l1Rd_pick_eq (w0 : World) (a0 a1 : Value) (σ : Vw) (R : Value → Vw → Prop) : vc_p_spec_l1Rd_pick w0 a0 a1 σ R = den Tryz.prog w0 kp_p_spec_l1Rd_pick esc_p_spec_l1Rd_pick (Tryz.f39.body.getD .skip) (entry Tryz.f39.ntmps [a0, a1]) σ (retK Tryz.prog Tryz.f39.results.toList R) := by kernel_rfl
theorem ac_p_spec_l1Rd_pick {w0 : World} {a0 a1 : Value} {σ : Vw} {R : Value → Vw → Prop} (h : vc_p_spec_l1Rd_pick w0 a0 a1 σ R) : AC Tryz.prog w0 n_p_spec_l1Rd_pick [a0, a1] σ R := by
  refine ac_rule (fn := Tryz.f39) (c := Tryz.f39.body.getD .skip) kp_p_spec_l1Rd_pick esc_p_spec_l1Rd_pick Tryz.func39 (by kernel_rfl) (by kernel_rfl) ?_
  rw [← vc_p_spec_l1Rd_pick_eq]
  exact h

/-- spec.l24Spoil -/
def kp_spec_l24Spoil : Nat → Keep
  | 3 => ⟨[], [], [], .step 0 (.step 1 (.step 2 (.step 3 (.step 4 (.step 5 (.step 6 (.step 7 (.step 8 (.done))))))))), [(1, [0]), (4, [3]), (5, [3, 4]), (6, [2, 3, 4, 5]), (7, [0, 1, 2, 3, 4, 5, 6]), (8, [0, 1, 2, 3, 4, 5, 6, 7])]⟩
  | 7 => ⟨[], [], [], .step 0 (.step 1 (.step 2 (.step 3 (.step 4 (.step 5 (.step 7 (.step 6 (.step 8 (.step 9 (.step 10 (.step 11 (.step 12 (.done))))))))))))), [(1, [0]), (4, [3]), (5, [3, 4]), (6, [2, 3, 4, 5]), (8, [2, 3, 4, 5, 6, 7]), (9, [2, 3, 4, 5, 6, 7, 8]), (10, [2, 3, 4, 5, 6, 7, 8, 9]), (11, [0, 1, 2, 3, 4, 5, 6, 7, 8, 9, 10]), (12, [0, 1, 2, 3, 4, 5, 6, 7, 8, 9, 10, 11])]⟩
  | 9 => ⟨[], [], [], .step 0 (.step 1 (.step 2 (.step 4 (.both (.step 3 (.step 5 (.step 6 (.step 7 (.step 8 (.done)))))) (.step 5 (.step 3 (.step 6 (.step 7 (.step 8 (.done)))))))))), [(1, [0]), (3, [2]), (6, [2, 3, 4, 5]), (7, [0, 1, 2, 3, 4, 5, 6]), (8, [0, 1, 2, 3, 4, 5, 6, 7])]⟩
  | 11 => ⟨[], [], [], .step 0 (.step 1 (.step 2 (.step 5 (.both (.step 3 (.step 4 (.step 6 (.step 7 (.step 8 (.step 9 (.done))))))) (.step 6 (.step 3 (.step 4 (.step 7 (.step 8 (.step 9 (.done))))))))))), [(1, [0]), (3, [2]), (4, [2, 3]), (7, [2, 3, 5, 6]), (8, [0, 1, 2, 3, 4, 5, 6, 7]), (9, [0, 1, 2, 3, 4, 5, 6, 7, 8])]⟩
  | _ => ⟨[], [], [], .done, []⟩
def esc_spec_l24Spoil : Nat → Bool
  | 49 => true
  | 60 => true
  | _ => false
def vc_spec_l24Spoil (w0 : World) (a0 a1 : Value) (σ : Vw) (R : Value → Vw → Prop) : Prop :=
  V true 1 a1 (AC P w0 n_spec_l21Copy ([.agg (⟨[C a1 0]⟩)]) σ fun v0 s1 => V true 1 v0 (AC P w0 n_p_spec_l1Rd_pick [a0, .int .i64 5] s1 fun v2 s3 => B P 3 .eql v2 (.int .i64 0) fun v4 => Q v4 (N (C v0 0) fun v5 => B P 3 .sub v5 (.int .i64 1) fun v6 => pSlice 1 (C v0 0) none (some v6) fun v7 => V false 1 v7 (V true 1 (.agg ⟨[v7]⟩) (R (.agg ⟨[v7]⟩) s3))) (B P 3 .eql v2 (.int .i64 1) fun v8 => Q v8 (N (C v0 0) fun v9 => AC P w0 n_p_spec_l1Rd_pick [a0, v9] s3 fun v10 s11 => AC P w0 n_p_spec_l1Rd_pick [a0, .int .i64 2] s11 fun v12 s13 => B P 3 .add (.int .i64 64) v12 fun v14 => AC P w0 n_spec_l1Many ([.string ({ data := #[113] }), v14]) s13 fun v15 s16 => X 1 (C v0 0) v10 fun v17 => V false 1 v15 (pStore v17 [v15] s16 fun s18 => V true 1 (.agg (⟨[C v0 0]⟩)) (R (.agg (⟨[C v0 0]⟩)) s18))) (B P 3 .eql v2 (.int .i64 2) fun v19 => Q v19 ((AC P w0 n_p_spec_l1Rd_pick [a0, .int .i64 2] s3 fun v20 s21 => V false 1 (.string ({ data := #[] })) (V false 1 (.string ({ data := #[67, 32, 49, 32, 48] })) (V false 1 (.string ({ data := #[67, 32, 50, 32, 57] })) (V false 1 (.string ({ data := #[67, 32, 50, 32, 53, 48, 48, 48] })) (V false 1 (.string ({ data := #[67, 32, 51, 32, 51, 50, 48, 48] })) (V false 1 (.string ({ data := #[67, 32, 48, 32, 48] })) (V false 1 (.string ({ data := #[67, 32, 49] })) (V false 1 (.string ({ data := #[88, 32, 49, 32, 49] })) (V false 1 (.string ({ data := #[67, 32, 48, 49, 32, 48] })) (V false 1 (.string ({ data := #[67, 32, 57, 57, 57, 57, 57, 32, 48] })) (V false 1 (.string ({ data := #[67, 32, 57, 57, 57, 57, 56, 32, 49] })) (W w0 9 ([.string ({ data := #[] }), .string ({ data := #[67, 32, 49, 32, 48] }), .string ({ data := #[67, 32, 50, 32, 57] }), .string ({ data := #[67, 32, 50, 32, 53, 48, 48, 48] }), .string ({ data := #[67, 32, 51, 32, 51, 50, 48, 48] }), .string ({ data := #[67, 32, 48, 32, 48] }), .string ({ data := #[67, 32, 49] }), .string ({ data := #[88, 32, 49, 32, 49] }), .string ({ data := #[67, 32, 48, 49, 32, 48] }), .string ({ data := #[67, 32, 57, 57, 57, 57, 57, 32, 48] }), .string ({ data := #[67, 32, 57, 57, 57, 57, 56, 32, 49] })]) s21 fun n22 s23 => AC P w0 n_p_spec_l1Rd_of [a0, .slice (some (Addr.mk n22 0 none)) 11 11] s23 fun v24 s25 => X 1 (C v0 0) v20 fun v26 => V false 1 v24 (pStore v26 [v24] s25 fun s27 => V true 1 (.agg (⟨[C v0 0]⟩)) (R (.agg (⟨[C v0 0]⟩)) s27)))))))))))))) ∧ (V false 1 (.string ({ data := #[] })) (V false 1 (.string ({ data := #[67, 32, 49, 32, 48] })) (V false 1 (.string ({ data := #[67, 32, 50, 32, 57] })) (V false 1 (.string ({ data := #[67, 32, 50, 32, 53, 48, 48, 48] })) (V false 1 (.string ({ data := #[67, 32, 51, 32, 51, 50, 48, 48] })) (V false 1 (.string ({ data := #[67, 32, 48, 32, 48] })) (V false 1 (.string ({ data := #[67, 32, 49] })) (V false 1 (.string ({ data := #[88, 32, 49, 32, 49] })) (V false 1 (.string ({ data := #[67, 32, 48, 49, 32, 48] })) (V false 1 (.string ({ data := #[67, 32, 57, 57, 57, 57, 57, 32, 48] })) (V false 1 (.string ({ data := #[67, 32, 57, 57, 57, 57, 56, 32, 49] })) (W w0 9 ([.string ({ data := #[] }), .string ({ data := #[67, 32, 49, 32, 48] }), .string ({ data := #[67, 32, 50, 32, 57] }), .string ({ data := #[67, 32, 50, 32, 53, 48, 48, 48] }), .string ({ data := #[67, 32, 51, 32, 51, 50, 48, 48] }), .string ({ data := #[67, 32, 48, 32, 48] }), .string ({ data := #[67, 32, 49] }), .string ({ data := #[88, 32, 49, 32, 49] }), .string ({ data := #[67, 32, 48, 49, 32, 48] }), .string ({ data := #[67, 32, 57, 57, 57, 57, 57, 32, 48] }), .string ({ data := #[67, 32, 57, 57, 57, 57, 56, 32, 49] })]) s3 fun n28 s29 => AC P w0 n_p_spec_l1Rd_pick [a0, .int .i64 2] s29 fun v30 s31 => AC P w0 n_p_spec_l1Rd_of [a0, .slice (some (Addr.mk n28 0 none)) 11 11] s31 fun v32 s33 => X 1 (C v0 0) v30 fun v34 => V false 1 v32 (pStore v34 [v32] s33 fun s35 => V true 1 (.agg (⟨[C v0 0]⟩)) (R (.agg (⟨[C v0 0]⟩)) s35))))))))))))))) (B P 3 .eql v2 (.int .i64 3) fun v36 => Q v36 ((AC P w0 n_p_spec_l1Rd_pick [a0, .int .i64 12] s3 fun v37 s38 => B P 3 .add (.int .i64 2) v37 fun v39 => V false 1 (.string ({ data := #[] })) (V false 1 (.string ({ data := #[68] })) (V false 1 (.string ({ data := #[72, 32, 49, 32, 48, 32, 48] })) (V false 1 (.string ({ data := #[72, 32, 50, 32, 48, 32, 53] })) (V false 1 (.string ({ data := #[72, 32, 49, 32, 49, 32, 54, 48, 48] })) (V false 1 (.string ({ data := #[72, 32, 49, 32, 48, 32, 54, 48, 49] })) (V false 1 (.string ({ data := #[68, 97, 98, 99] })) (W w0 9 ([.string ({ data := #[] }), .string ({ data := #[68] }), .string ({ data := #[72, 32, 49, 32, 48, 32, 48] }), .string ({ data := #[72, 32, 50, 32, 48, 32, 53] }), .string ({ data := #[72, 32, 49, 32, 49, 32, 54, 48, 48] }), .string ({ data := #[72, 32, 49, 32, 48, 32, 54, 48, 49] }), .string ({ data := #[68, 97, 98, 99] })]) s38 fun n40 s41 => AC P w0 n_p_spec_l1Rd_of [a0, .slice (some (Addr.mk n40 0 none)) 7 7] s41 fun v42 s43 => X 1 (C v0 0) v39 fun v44 => V false 1 v42 (pStore v44 [v42] s43 fun s45 => V true 1 (.agg (⟨[C v0 0]⟩)) (R (.agg (⟨[C v0 0]⟩)) s45)))))))))) ∧ (V false 1 (.string ({ data := #[] })) (V false 1 (.string ({ data := #[68] })) (V false 1 (.string ({ data := #[72, 32, 49, 32, 48, 32, 48] })) (V false 1 (.string ({ data := #[72, 32, 50, 32, 48, 32, 53] })) (V false 1 (.string ({ data := #[72, 32, 49, 32, 49, 32, 54, 48, 48] })) (V false 1 (.string ({ data := #[72, 32, 49, 32, 48, 32, 54, 48, 49] })) (V false 1 (.string ({ data := #[68, 97, 98, 99] })) (W w0 9 ([.string ({ data := #[] }), .string ({ data := #[68] }), .string ({ data := #[72, 32, 49, 32, 48, 32, 48] }), .string ({ data := #[72, 32, 50, 32, 48, 32, 53] }), .string ({ data := #[72, 32, 49, 32, 49, 32, 54, 48, 48] }), .string ({ data := #[72, 32, 49, 32, 48, 32, 54, 48, 49] }), .string ({ data := #[68, 97, 98, 99] })]) s3 fun n46 s47 => AC P w0 n_p_spec_l1Rd_pick [a0, .int .i64 12] s47 fun v48 s49 => B P 3 .add (.int .i64 2) v48 fun v50 => AC P w0 n_p_spec_l1Rd_of [a0, .slice (some (Addr.mk n46 0 none)) 7 7] s49 fun v51 s52 => X 1 (C v0 0) v50 fun v53 => V false 1 v51 (pStore v53 [v51] s52 fun s54 => V true 1 (.agg (⟨[C v0 0]⟩)) (R (.agg (⟨[C v0 0]⟩)) s54))))))))))) (N (C v0 0) fun v55 => AC P w0 n_p_spec_l1Rd_pick [a0, v55] s3 fun v56 s57 => X 1 (C v0 0) v56 fun v58 => V false 1 (.string ({ data := #[] })) (pStore v58 ([.string ({ data := #[] })]) s57 fun s59 => V true 1 (.agg (⟨[C v0 0]⟩)) (R (.agg (⟨[C v0 0]⟩)) s59))))))))
theorem vc_spec_l24Spoil_eq (w0 : World) (a0 a1 : Value) (σ : Vw) (R : Value → Vw → Prop) : vc_spec_l24Spoil w0 a0 a1 σ R = den Tryz.prog w0 kp_spec_l24Spoil esc_spec_l24Spoil (Tryz.f40.body.getD .skip) (entry Tryz.f40.ntmps [a0, a1]) σ (retK Tryz.prog Tryz.f40.results.toList R) := by kernel_rfl
theorem ac_spec_l24Spoil {w0 : World} {a0 a1 : Value} {σ : Vw} {R : Value → Vw → Prop} (h : vc_spec_l24Spoil w0 a0 a1 σ R) : AC Tryz.prog w0 n_spec_l24Spoil [a0, a1] σ R := by
  refine ac_rule (fn := Tryz.f40) (c := Tryz.f40.body.getD .skip) kp_spec_l24Spoil esc_spec_l24Spoil Tryz.func40 (by kernel_rfl) (by kernel_rfl) ?_
  rw [← vc_spec_l24Spoil_eq]
  exact h

/-- spec.l24Any -/
def kp_spec_l24Any : Nat → Keep
  | _ => ⟨[], [], [], .done, []⟩
def esc_spec_l24Any : Nat → Bool
  | _ => false
def vc_spec_l24Any (w0 : World) (a0 : Value) (σ : Vw) (R : Value → Vw → Prop) : Prop :=
  AC P w0 n_spec_l24Disk [a0] σ fun v0 s1 => V true 1 v0 (AC P w0 n_p_spec_l1Rd_pick [a0, .int .i64 6] s1 fun v2 s3 => B P 3 .eql v2 (.int .i64 0) fun v4 => Q v4 (AC P w0 n_spec_l24Spoil ([a0, .agg (⟨[C v0 0]⟩)]) s3 fun v5 s6 => V true 1 v5 (R (.agg (⟨[C v5 0]⟩)) s6)) (V true 1 (.agg (⟨[C v0 0]⟩)) (R (.agg (⟨[C v0 0]⟩)) s3)))
theorem vc_spec_l24Any_eq (w0 : World) (a0 : Value) (σ : Vw) (R : Value → Vw → Prop) : vc_spec_l24Any w0 a0 σ R = den Tryz.prog w0 kp_spec_l24Any esc_spec_l24Any (Tryz.f41.body.getD .skip) (entry Tryz.f41.ntmps [a0]) σ (retK Tryz.prog Tryz.f41.results.toList R) := by kernel_rfl
theorem ac_spec_l24Any {w0 : World} {a0 : Value} {σ : Vw} {R : Value → Vw → Prop} (h : vc_spec_l24Any w0 a0 σ R) : AC Tryz.prog w0 n_spec_l24Any [a0] σ R := by
  refine ac_rule (fn := Tryz.f41) (c := Tryz.f41.body.getD .skip) kp_spec_l24Any esc_spec_l24Any Tryz.func41 (by kernel_rfl) (by kernel_rfl) ?_
  rw [← vc_spec_l24Any_eq]
  exact h

/-- spec.l22Found -/
def kp_spec_l22Found : Nat → Keep
  | _ => ⟨[], [], [], .done, []⟩
def esc_spec_l22Found : Nat → Bool
  | _ => false
def vc_spec_l22Found (w0 : World) (a0 a1 : Value) (σ : Vw) (R : Value → Vw → Prop) : Prop :=
  V true 1 a0 (X 1 (C a0 0) a1 fun v0 => L w0 1 v0 σ fun g1 => AC P w0 n_spec_l22Cut [g1 0, .int .u8 32] σ fun v2 s3 => N v2 fun v4 => B P 3 .neq v4 (.int .i64 3) fun v5 => Q v5 (R (.tuple (⟨[.int .i64 0, .int .i64 0]⟩)) s3) (X 1 v2 (.int .i64 0) fun v6 => L w0 1 v6 s3 fun g7 => B P 9 .neq (g7 0) (.string ({ data := #[67] })) fun v8 => Q v8 (R (.tuple (⟨[.int .i64 0, .int .i64 0]⟩)) s3) (X 1 v2 (.int .i64 1) fun v9 => L w0 1 v9 s3 fun g10 => AC P w0 n_spec_l22Num [g10 0] s3 fun v11 s12 => X 1 v2 (.int .i64 2) fun v13 => L w0 1 v13 s12 fun g14 => AC P w0 n_spec_l22Num [g14 0] s12 fun v15 s16 => AC P w0 n_spec_l21In [v11, .int .i64 1, .int .i64 99999] s16 fun v17 s18 => pUn .not v17 fun v19 => Q v19 (R (.tuple (⟨[.int .i64 0, .int .i64 0]⟩)) s18) (B P 3 .rem v11 (.int .i64 2) fun v20 => B P 3 .neq v20 a1 fun v21 => Q v21 (R (.tuple (⟨[.int .i64 0, .int .i64 0]⟩)) s18) (AC P w0 n_spec_l21In [v15, .int .i64 0, .int .i64 5760] s18 fun v22 s23 => pUn .not v22 fun v24 => Q v24 (R (.tuple (⟨[.int .i64 0, .int .i64 0]⟩)) s23) (R (.tuple (⟨[v11, v15]⟩)) s23))))))
theorem vc_spec_l22Found_eq (w0 : World) (a0 a1 : Value) (σ : Vw) (R : Value → Vw → Prop) : vc_spec_l22Found w0 a0 a1 σ R = den Tryz.prog w0 kp_spec_l22Found esc_spec_l22Found (Tryz.f42.body.getD .skip) (entry Tryz.f42.ntmps [a0, a1]) σ (retK Tryz.prog Tryz.f42.results.toList R) := by kernel_rfl
theorem ac_spec_l22Found {w0 : World} {a0 a1 : Value} {σ : Vw} {R : Value → Vw → Prop} (h : vc_spec_l22Found w0 a0 a1 σ R) : AC Tryz.prog w0 n_spec_l22Found [a0, a1] σ R := by
  refine ac_rule (fn := Tryz.f42) (c := Tryz.f42.body.getD .skip) kp_spec_l22Found esc_spec_l22Found Tryz.func42 (by kernel_rfl) (by kernel_rfl) ?_
  rw [← vc_spec_l22Found_eq]
  exact h

/-- spec.l22Text -/
def kp_spec_l22Text : Nat → Keep
  | 3 => ⟨[1, 2, 3, 4, 10, 11, 12, 13], [(5, 1)], [5], .done, []⟩
  | _ => ⟨[], [], [], .done, []⟩
def esc_spec_l22Text : Nat → Bool
  | _ => false
def vc_spec_l22Text (w0 : World) (a0 a1 a2 a3 a4 : Value) (σ : Vw) (R : Value → Vw → Prop) : Prop :=
  V true 1 a0 (pLoop (fun l0 K1 s2 => pLenS (G l0 6) fun v3 => B P 3 .lss v3 (G l0 2) fun v4 => Q v4 (B P 3 .geq (G l0 7) (G l0 1) fun v5 => Q v5 (K1 .ret ([G l0 0, G l0 1, G l0 2, G l0 3, .string ({ data := #[] }), .bool false, G l0 6, G l0 7, G l0 8]) s2) (B P 3 .add (G l0 0) (G l0 7) fun v6 => X 1 (G l0 8) v6 fun v7 => L w0 1 v7 s2 fun g8 => pLenS (g8 0) fun v9 => B P 3 .leq v9 (G l0 3) fun v10 => Q v10 (K1 .ret ([G l0 0, G l0 1, G l0 2, G l0 3, .string ({ data := #[] }), .bool false, G l0 6, G l0 7, G l0 8]) s2) (B P 3 .eql (G l0 3) (.int .i64 1) fun v11 => Q v11 (B P 3 .add (G l0 0) (G l0 7) fun v12 => X 1 (G l0 8) v12 fun v13 => L w0 1 v13 s2 fun g14 => pIndexStr (g14 0) (.int .i64 0) fun v15 => B P 5 .neq v15 (.int .u8 68) fun v16 => Q v16 (K1 .ret ([G l0 0, G l0 1, G l0 2, G l0 3, .string ({ data := #[] }), .bool false, G l0 6, G l0 7, G l0 8]) s2) (B P 3 .add (G l0 0) (G l0 7) fun v17 => X 1 (G l0 8) v17 fun v18 => L w0 1 v18 s2 fun g19 => pSliceStr (g19 0) (some (G l0 3)) none fun v20 => B P 9 .add (G l0 6) v20 fun v21 => B P 3 .add (G l0 7) (.int .i64 1) fun v22 => K1 .normal [G l0 0, G l0 1, G l0 2, G l0 3, G l0 4, G l0 5, v21, v22, G l0 8] s2)) (B P 3 .add (G l0 0) (G l0 7) fun v23 => X 1 (G l0 8) v23 fun v24 => L w0 1 v24 s2 fun g25 => pSliceStr (g25 0) (some (G l0 3)) none fun v26 => B P 9 .add (G l0 6) v26 fun v27 => B P 3 .add (G l0 7) (.int .i64 1) fun v28 => K1 .normal [G l0 0, G l0 1, G l0 2, G l0 3, G l0 4, G l0 5, v27, v28, G l0 8] s2)))) (K1 (.exit 0) [G l0 0, G l0 1, G l0 2, G l0 3, G l0 4, G l0 5, G l0 6, G l0 7, G l0 8] s2)) ([a1, a2, a3, a4, .string ({ data := #[] }), .bool false, .string ({ data := #[] }), .int .i64 0, C a0 0]) σ fun x29 l30 s31 => match x29 with | .normal => pLenS (G l30 6) (fun v32 => B P 3 .eql v32 (G l30 2) fun v33 => R (.tuple (⟨[G l30 6, v33]⟩)) s31) | .ret => R (.tuple (⟨[G l30 4, G l30 5]⟩)) s31 | .exit i34 => (match Nat.beq i34 0 with | true => pLenS (G l30 6) (fun v35 => B P 3 .eql v35 (G l30 2) fun v36 => R (.tuple (⟨[G l30 6, v36]⟩)) s31) | false => False))
theorem vc_spec_l22Text_eq (w0 : World) (a0 a1 a2 a3 a4 : Value) (σ : Vw) (R : Value → Vw → Prop) : vc_spec_l22Text w0 a0 a1 a2 a3 a4 σ R = den Tryz.prog w0 kp_spec_l22Text esc_spec_l22Text (Tryz.f43.body.getD .skip) (entry Tryz.f43.ntmps [a0, a1, a2, a3, a4]) σ (retK Tryz.prog Tryz.f43.results.toList R) := by kernel_rfl
theorem ac_spec_l22Text {w0 : World} {a0 a1 a2 a3 a4 : Value} {σ : Vw} {R : Value → Vw → Prop} (h : vc_spec_l22Text w0 a0 a1 a2 a3 a4 σ R) : AC Tryz.prog w0 n_spec_l22Text [a0, a1, a2, a3, a4] σ R := by
  refine ac_rule (fn := Tryz.f43) (c := Tryz.f43.body.getD .skip) kp_spec_l22Text esc_spec_l22Text Tryz.func43 (by kernel_rfl) (by kernel_rfl) ?_
  rw [← vc_spec_l22Text_eq]
  exact h

/-- spec.l22Area -/
def kp_spec_l22Area : Nat → Keep
  | _ => ⟨[], [], [], .done, []⟩
def esc_spec_l22Area : Nat → Bool
  | _ => false
def vc_spec_l22Area (w0 : World) (a0 : Value) (σ : Vw) (R : Value → Vw → Prop) : Prop :=
  B P 3 .rem a0 (.int .i64 2) fun v0 => B P 3 .mul v0 (.int .i64 90) fun v1 => B P 3 .add (.int .i64 14) v1 fun v2 => R v2 σ
theorem vc_spec_l22Area_eq (w0 : World) (a0 : Value) (σ : Vw) (R : Value → Vw → Prop) : vc_spec_l22Area w0 a0 σ R = den Tryz.prog w0 kp_spec_l22Area esc_spec_l22Area (Tryz.f44.body.getD .skip) (entry Tryz.f44.ntmps [a0]) σ (retK Tryz.prog Tryz.f44.results.toList R) := by kernel_rfl
theorem ac_spec_l22Area {w0 : World} {a0 : Value} {σ : Vw} {R : Value → Vw → Prop} (h : vc_spec_l22Area w0 a0 σ R) : AC Tryz.prog w0 n_spec_l22Area [a0] σ R := by
  refine ac_rule (fn := Tryz.f44) (c := Tryz.f44.body.getD .skip) kp_spec_l22Area esc_spec_l22Area Tryz.func44 (by kernel_rfl) (by kernel_rfl) ?_
  rw [← vc_spec_l22Area_eq]
  exact h

/-- spec.l22Group -/
def kp_spec_l22Group : Nat → Keep
  | _ => ⟨[], [], [], .done, []⟩
def esc_spec_l22Group : Nat → Bool
  | _ => false
def vc_spec_l22Group (w0 : World) (a0 a1 a2 a3 : Value) (σ : Vw) (R : Value → Vw → Prop) : Prop :=
  V true 1 a0 (B P 3 .geq a3 (.int .i64 12) fun v0 => Q v0 (R (.tuple (⟨[.string ({ data := #[] }), .int .i64 0]⟩)) σ) (B P 3 .add (.int .i64 2) a3 fun v1 => X 1 (C a0 0) v1 fun v2 => L w0 1 v2 σ fun g3 => AC P w0 n_spec_l22Cut [g3 0, .int .u8 32] σ fun v4 s5 => N v4 fun v6 => B P 3 .neq v6 (.int .i64 4) fun v7 => Q v7 (R (.tuple (⟨[.string ({ data := #[] }), .int .i64 0]⟩)) s5) (X 1 v4 (.int .i64 0) fun v8 => L w0 1 v8 s5 fun g9 => B P 9 .neq (g9 0) (.string ({ data := #[72] })) fun v10 => Q v10 (R (.tuple (⟨[.string ({ data := #[] }), .int .i64 0]⟩)) s5) (X 1 v4 (.int .i64 1) fun v11 => L w0 1 v11 s5 fun g12 => AC P w0 n_spec_l22Num [g12 0] s5 fun v13 s14 => B P 3 .neq v13 a1 fun v15 => Q v15 (R (.tuple (⟨[.string ({ data := #[] }), .int .i64 0]⟩)) s14) (X 1 v4 (.int .i64 2) fun v16 => L w0 1 v16 s14 fun g17 => AC P w0 n_spec_l22Num [g17 0] s14 fun v18 s19 => B P 3 .neq v18 a2 fun v20 => Q v20 (R (.tuple (⟨[.string ({ data := #[] }), .int .i64 0]⟩)) s19) (X 1 v4 (.int .i64 3) fun v21 => L w0 1 v21 s19 fun g22 => AC P w0 n_spec_l22Num [g22 0] s19 fun v23 s24 => B P 3 .add v23 (.int .i64 64) fun v25 => B P 3 .sub v25 (.int .i64 2) fun v26 => B P 3 .quo v26 (.int .i64 63) fun v27 => B P 3 .add (.int .i64 1) v27 fun v28 => AC P w0 n_spec_l21In [v23, .int .i64 0, .int .i64 600] s24 fun v29 s30 => pUn .not v29 fun v31 => Q v31 (R (.tuple (⟨[.string ({ data := #[] }), .int .i64 0]⟩)) s30) (B P 3 .add a3 v28 fun v32 => B P 3 .gtr v32 (.int .i64 12) fun v33 => Q v33 (R (.tuple (⟨[.string ({ data := #[] }), .int .i64 0]⟩)) s30) (B P 3 .add (.int .i64 2) a3 fun v34 => B P 3 .add v34 (.int .i64 1) fun v35 => B P 3 .sub v28 (.int .i64 1) fun v36 => AC P w0 n_spec_l22Text ([.agg (⟨[C a0 0]⟩), v35, v36, v23, .int .i64 1]) s30 fun v37 s38 => E v37 0 fun v39 => E v37 1 fun v40 => pUn .not v40 fun v41 => Q v41 (R (.tuple (⟨[.string ({ data := #[] }), .int .i64 0]⟩)) s38) (R (.tuple (⟨[v39, v28]⟩)) s38)))))))))
theorem vc_spec_l22Group_eq (w0 : World) (a0 a1 a2 a3 : Value) (σ : Vw) (R : Value → Vw → Prop) : vc_spec_l22Group w0 a0 a1 a2 a3 σ R = den Tryz.prog w0 kp_spec_l22Group esc_spec_l22Group (Tryz.f45.body.getD .skip) (entry Tryz.f45.ntmps [a0, a1, a2, a3]) σ (retK Tryz.prog Tryz.f45.results.toList R) := by kernel_rfl
theorem ac_spec_l22Group {w0 : World} {a0 a1 a2 a3 : Value} {σ : Vw} {R : Value → Vw → Prop} (h : vc_spec_l22Group w0 a0 a1 a2 a3 σ R) : AC Tryz.prog w0 n_spec_l22Group [a0, a1, a2, a3] σ R := by
  refine ac_rule (fn := Tryz.f45) (c := Tryz.f45.body.getD .skip) kp_spec_l22Group esc_spec_l22Group Tryz.func45 (by kernel_rfl) (by kernel_rfl) ?_
  rw [← vc_spec_l22Group_eq]
  exact h

/-- spec.l22Clean -/
def kp_spec_l22Clean : Nat → Keep
  | 2 => ⟨[5, 6], [(2, 1), (3, 4), (4, 4)], [2, 3, 4], .done, []⟩
  | 5 => ⟨[], [], [], .step 0 (.step 1 (.step 2 (.step 3 (.step 4 (.step 5 (.step 6 (.step 7 (.step 8 (.step 9 (.step 10 (.step 11 (.step 12 (.step 14 (.step 15 (.step 13 (.step 16 (.step 17 (.done)))))))))))))))))), [(1, [0]), (2, [0, 1]), (3, [0, 1, 2]), (4, [0, 1, 2, 3]), (5, [0, 1, 2, 3, 4]), (6, [0, 1, 2, 3, 4, 5]), (7, [0, 1, 2, 3, 4, 5, 6]), (8, [0, 1, 2, 3, 4, 5, 6, 7]), (9, [0, 1, 2, 3, 4, 5, 6, 7, 8]), (10, [0, 1, 2, 3, 4, 5, 6, 7, 8, 9]), (11, [0, 1, 2, 3, 4, 5, 6, 7, 8, 9, 10]), (12, [0, 1, 2, 3, 4, 5, 6, 7, 8, 9, 10, 11]), (13, [0, 1, 2, 3, 4, 5, 6, 7, 8, 9, 10, 11, 12]), (14, [0, 1, 2, 3, 4, 5, 6, 7, 8, 9]), (15, [0, 1, 2, 3, 4, 5, 6, 7, 8, 9, 14]), (16, [0, 1, 2, 3, 4, 5, 6, 7, 8, 9, 10, 11, 12, 13, 14, 15]), (17, [0, 1, 2, 3, 4, 5, 6, 7, 8, 9, 10, 11, 12, 13, 14, 15, 16])]⟩
  | _ => ⟨[], [], [], .done, []⟩
def esc_spec_l22Clean : Nat → Bool
  | _ => false
def vc_spec_l22Clean (w0 : World) (a0 a1 : Value) (σ : Vw) (R : Value → Vw → Prop) : Prop :=
  V true 1 a0 (V true 4 a1 (pLoop (fun l0 K1 s2 => B P 3 .lss (G l0 1) (.int .i64 12) fun v3 => Q v3 (B P 3 .add (.int .i64 2) (G l0 1) fun v4 => X 1 (G l0 2) v4 fun v5 => L w0 1 v5 s2 fun g6 => AC P w0 n_spec_l22Cut [g6 0, .int .u8 32] s2 fun v7 s8 => N v7 fun v9 => B P 3 .eql v9 (.int .i64 4) fun v10 => Q v10 (X 1 v7 (.int .i64 0) fun v11 => L w0 1 v11 s8 fun g12 => B P 9 .eql (g12 0) (.string ({ data := #[72] })) fun v13 => Q v13 (X 1 v7 (.int .i64 1) fun v14 => L w0 1 v14 s8 fun g15 => AC P w0 n_spec_l22Num [g15 0] s8 fun v16 s17 => B P 3 .geq v16 (G l0 3) fun v18 => Q v18 (V true 4 (.agg (⟨[.int .i64 0, .string ({ data := #[] }), .slice none 0 0, .int .i64 0]⟩)) (K1 .ret ([.bool false, G l0 1, G l0 2, G l0 3, G l0 4, G l0 5, G l0 6, .int .i64 0, .string ({ data := #[] }), .slice none 0 0, .int .i64 0]) s17)) (B P 3 .add (G l0 1) (.int .i64 1) fun v19 => K1 .normal [G l0 0, v19, G l0 2, G l0 3, G l0 4, G l0 5, G l0 6, G l0 7, G l0 8, G l0 9, G l0 10] s17)) (B P 3 .add (G l0 1) (.int .i64 1) fun v20 => K1 .normal [G l0 0, v20, G l0 2, G l0 3, G l0 4, G l0 5, G l0 6, G l0 7, G l0 8, G l0 9, G l0 10] s8)) (B P 3 .add (G l0 1) (.int .i64 1) fun v21 => K1 .normal [G l0 0, v21, G l0 2, G l0 3, G l0 4, G l0 5, G l0 6, G l0 7, G l0 8, G l0 9, G l0 10] s8)) (K1 (.exit 0) [G l0 0, G l0 1, G l0 2, G l0 3, G l0 4, G l0 5, G l0 6, G l0 7, G l0 8, G l0 9, G l0 10] s2)) ([.bool false, C a1 3, C a0 0, C a1 0, C a1 1, C a1 2, C a1 3, .int .i64 0, .string ({ data := #[] }), .slice none 0 0, .int .i64 0]) σ fun x22 l23 s24 => match x22 with | .normal => V true 4 (.agg (⟨[G l23 3, G l23 4, G l23 5, G l23 6]⟩)) (R (.tuple (⟨[.agg (⟨[G l23 3, G l23 4, G l23 5, G l23 6]⟩), .bool true]⟩)) s24) | .ret => R (.tuple (⟨[.agg (⟨[G l23 7, G l23 8, G l23 9, G l23 10]⟩), G l23 0]⟩)) s24 | .exit i25 => (match Nat.beq i25 0 with | true => V true 4 (.agg (⟨[G l23 3, G l23 4, G l23 5, G l23 6]⟩)) (R (.tuple (⟨[.agg (⟨[G l23 3, G l23 4, G l23 5, G l23 6]⟩), .bool true]⟩)) s24) | false => False)))
theorem vc_spec_l22Clean_eq (w0 : World) (a0 a1 : Value) (σ : Vw) (R : Value → Vw → Prop) : vc_spec_l22Clean w0 a0 a1 σ R = den Tryz.prog w0 kp_spec_l22Clean esc_spec_l22Clean (Tryz.f46.body.getD .skip) (entry Tryz.f46.ntmps [a0, a1]) σ (retK Tryz.prog Tryz.f46.results.toList R) := by kernel_rfl
theorem ac_spec_l22Clean {w0 : World} {a0 a1 : Value} {σ : Vw} {R : Value → Vw → Prop} (h : vc_spec_l22Clean w0 a0 a1 σ R) : AC Tryz.prog w0 n_spec_l22Clean [a0, a1] σ R := by
  refine ac_rule (fn := Tryz.f46) (c := Tryz.f46.body.getD .skip) kp_spec_l22Clean esc_spec_l22Clean Tryz.func46 (by kernel_rfl) (by kernel_rfl) ?_
  rw [← vc_spec_l22Clean_eq]
  exact h

/-- impl.pieces -/
def kp_impl_pieces : Nat → Keep
  | _ => ⟨[], [], [], .done, []⟩
def esc_impl_pieces : Nat → Bool
  | _ => false
def vc_impl_pieces (w0 : World) (a0 a1 : Value) (σ : Vw) (R : Value → Vw → Prop) : Prop :=
  B P 3 .add a0 a1 fun v0 => B P 3 .sub v0 (.int .i64 1) fun v1 => B P 3 .quo v1 a1 fun v2 => R v2 σ
theorem vc_impl_pieces_eq (w0 : World) (a0 a1 : Value) (σ : Vw) (R : Value → Vw → Prop) : vc_impl_pieces w0 a0 a1 σ R = den Tryz.prog w0 kp_impl_pieces esc_impl_pieces (Tryz.f49.body.getD .skip) (entry Tryz.f49.ntmps [a0, a1]) σ (retK Tryz.prog Tryz.f49.results.toList R) := by kernel_rfl
theorem ac_impl_pieces {w0 : World} {a0 a1 : Value} {σ : Vw} {R : Value → Vw → Prop} (h : vc_impl_pieces w0 a0 a1 σ R) : AC Tryz.prog w0 n_impl_pieces [a0, a1] σ R := by
  refine ac_rule (fn := Tryz.f49) (c := Tryz.f49.body.getD .skip) kp_impl_pieces esc_impl_pieces Tryz.func49 (by kernel_rfl) (by kernel_rfl) ?_
  rw [← vc_impl_pieces_eq]
  exact h

/-- impl.groupHead -/
def kp_impl_groupHead : Nat → Keep
  | _ => ⟨[], [], [], .done, []⟩
def esc_impl_groupHead : Nat → Bool
  | _ => false
def vc_impl_groupHead (w0 : World) (a0 a1 a2 : Value) (σ : Vw) (R : Value → Vw → Prop) : Prop :=
  AC P w0 n_strconv_Itoa [a0] σ fun v0 s1 => B P 9 .add (.string ({ data := #[72, 32] })) v0 fun v2 => B P 9 .add v2 (.string ({ data := #[32] })) fun v3 => AC P w0 n_strconv_Itoa [a1] s1 fun v4 s5 => B P 9 .add v3 v4 fun v6 => B P 9 .add v6 (.string ({ data := #[32] })) fun v7 => AC P w0 n_strconv_Itoa [a2] s5 fun v8 s9 => B P 9 .add v7 v8 fun v10 => R v10 s9
theorem vc_impl_groupHead_eq (w0 : World) (a0 a1 a2 : Value) (σ : Vw) (R : Value → Vw → Prop) : vc_impl_groupHead w0 a0 a1 a2 σ R = den Tryz.prog w0 kp_impl_groupHead esc_impl_groupHead (Tryz.f50.body.getD .skip) (entry Tryz.f50.ntmps [a0, a1, a2]) σ (retK Tryz.prog Tryz.f50.results.toList R) := by kernel_rfl
theorem ac_impl_groupHead {w0 : World} {a0 a1 a2 : Value} {σ : Vw} {R : Value → Vw → Prop} (h : vc_impl_groupHead w0 a0 a1 a2 σ R) : AC Tryz.prog w0 n_impl_groupHead [a0, a1, a2] σ R := by
  refine ac_rule (fn := Tryz.f50) (c := Tryz.f50.body.getD .skip) kp_impl_groupHead esc_impl_groupHead Tryz.func50 (by kernel_rfl) (by kernel_rfl) ?_
  rw [← vc_impl_groupHead_eq]
  exact h

end Go.Proofs.YtlfnfpdipghdiaaGreatDoor

/- What each function owes, reckoned out, part 2. MADE BY PROGRAM (emit.py). -/
set_option linter.unusedVariables false
namespace Go.Proofs.YtlfnfpdipghdiaaGreatDoor
open Go.Av renaming vget → G, cellOf → C, pVal → V, pBin → B, pIndexAddr → X, pLoad → L, pField → F, pIf → Q, pExtract → E, pAppend → A, pLen → N, pNew → W
open Go.Proofs.Tryz renaming prog → P
open Go Go.Av

/-- spec.l24Group -/
def kp_spec_l24Group : Nat → Keep
  | _ => ⟨[], [], [], .done, []⟩
def esc_spec_l24Group : Nat → Bool
  | 29 => true
  | _ => false
def vc_spec_l24Group (w0 : World) (a0 : Value) (σ : Vw) (R : Value → Vw → Prop) : Prop :=
  AC P w0 n_p_spec_l1Rd_pick [a0, .int .i64 10] σ fun v0 s1 => B P 3 .eql v0 (.int .i64 0) fun v2 => Q v2 (AC P w0 n_p_spec_l1Rd_pick [a0, .int .i64 2] s1 fun v3 s4 => B P 3 .sub (.int .i64 600) v3 fun v5 => AC P w0 n_p_spec_l1Rd_pick [a0, .int .i64 3] s4 fun v6 s7 => B P 3 .add v5 v6 fun v8 => AC P w0 n_spec_l1Many ([.string ({ data := #[103] }), v8]) s7 fun v9 s10 => R v9 s10) (B P 3 .eql v0 (.int .i64 1) fun v11 => Q v11 (AC P w0 n_p_spec_l1Rd_pick [a0, .int .i64 30] s1 fun v12 s13 => AC P w0 n_spec_l1Many ([.string ({ data := #[72, 32, 49, 32, 49, 32, 48] }), v12]) s13 fun v14 s15 => R v14 s15) (B P 3 .eql v0 (.int .i64 2) fun v16 => Q v16 (AC P w0 n_p_spec_l1Rd_pick [a0, .int .i64 4] s1 fun v17 s18 => B P 3 .mul (.int .i64 63) v17 fun v19 => AC P w0 n_p_spec_l1Rd_pick [a0, .int .i64 2] s18 fun v20 s21 => B P 3 .add v19 v20 fun v22 => AC P w0 n_spec_l1Many ([.string ({ data := #[100] }), v22]) s21 fun v23 s24 => R v23 s24) (V false 1 (.string ({ data := #[] })) (V false 1 (.string ({ data := #[98] })) (V false 1 (.string ({ data := #[112, 117, 116, 32, 120, 32] })) (V false 1 (.string ({ data := #[72, 32, 50, 32, 49, 32, 48] })) (W w0 9 ([.string ({ data := #[] }), .string ({ data := #[98] }), .string ({ data := #[112, 117, 116, 32, 120, 32] }), .string ({ data := #[72, 32, 50, 32, 49, 32, 48] })]) s1 fun n25 s26 => AC P w0 n_p_spec_l1Rd_of [a0, .slice (some (Addr.mk n25 0 none)) 4 4] s26 fun v27 s28 => AC P w0 n_p_spec_l1Rd_pick [a0, .int .i64 16] s28 fun v29 s30 => AC P w0 n_spec_l1Many [v27, v29] s30 fun v31 s32 => R v31 s32)))))))
theorem vc_spec_l24Group_eq (w0 : World) (a0 : Value) (σ : Vw) (R : Value → Vw → Prop) : vc_spec_l24Group w0 a0 σ R = den Tryz.prog w0 kp_spec_l24Group esc_spec_l24Group (Tryz.f51.body.getD .skip) (entry Tryz.f51.ntmps [a0]) σ (retK Tryz.prog Tryz.f51.results.toList R) := by kernel_rfl
theorem ac_spec_l24Group {w0 : World} {a0 : Value} {σ : Vw} {R : Value → Vw → Prop} (h : vc_spec_l24Group w0 a0 σ R) : AC Tryz.prog w0 n_spec_l24Group [a0] σ R := by
  refine ac_rule (fn := Tryz.f51) (c := Tryz.f51.body.getD .skip) kp_spec_l24Group esc_spec_l24Group Tryz.func51 (by kernel_rfl) (by kernel_rfl) ?_
  rw [← vc_spec_l24Group_eq]
  exact h

/-- spec.l24Steps -/
def kp_spec_l24Steps : Nat → Keep
  | 3 => ⟨[0, 5, 6], [], [], .done, []⟩
  | _ => ⟨[], [], [], .done, []⟩
def esc_spec_l24Steps : Nat → Bool
  | 8 => true
  | _ => false
def vc_spec_l24Steps (w0 : World) (a0 a1 : Value) (σ : Vw) (R : Value → Vw → Prop) : Prop :=
  W w0 44 [] σ fun n0 s1 => AC P w0 n_p_spec_l1Rd_pick [a0, a1] s1 fun v2 s3 => pLoop (fun l4 K5 s6 => B P 3 .gtr (G l4 2) (.int .i64 0) fun v7 => Q v7 (AC P w0 n_spec_l24Group [G l4 0] s6 fun v8 s9 => V false 1 v8 (V false 1 (.int .i64 (-1)) (V true 3 (.agg (⟨[.bool false, v8, .int .i64 (-1)]⟩)) (AC P w0 n_p_spec_l1Rd_pick [G l4 0, .int .i64 4] s9 fun v10 s11 => B P 3 .eql v10 (.int .i64 0) fun v12 => Q v12 (V false 1 (.bool true) (AC P w0 n_spec_l24Text [G l4 0] s11 fun v13 s14 => V false 1 v13 (AC P w0 n_p_spec_l1Rd_pick [G l4 0, .int .i64 3] s14 fun v15 s16 => B P 3 .eql v15 (.int .i64 0) fun v17 => Q v17 (AC P w0 n_p_spec_l1Rd_pick [G l4 0, .int .i64 12] s16 fun v18 s19 => AC P w0 n_p_spec_l1Rd_pick [G l4 0, .int .i64 2] s19 fun v20 s21 => B P 3 .mul v18 v20 fun v22 => V false 1 v22 (AC P w0 n_p_spec_l1Rd_pick [G l4 0, .int .i64 4] s21 fun v23 s24 => B P 3 .eql v23 (.int .i64 0) fun v25 => Q v25 (AC P w0 n_p_spec_l1Rd_pick [G l4 0, .int .i64 70] s24 fun v26 s27 => V false 1 v26 (V true 3 (.agg (⟨[.bool true, v13, v26]⟩)) ((allOne [.bool true, v13, v26]) ∧ (A w0 44 3 32 (G l4 1) 1 [.bool true, v13, v26] s27 fun v28 s29 => B P 3 .sub (G l4 2) (.int .i64 1) fun v30 => K5 .normal [G l4 0, v28, v30] s29)))) (V true 3 (.agg (⟨[.bool true, v13, v22]⟩)) ((allOne [.bool true, v13, v22]) ∧ (A w0 44 3 32 (G l4 1) 1 [.bool true, v13, v22] s24 fun v31 s32 => B P 3 .sub (G l4 2) (.int .i64 1) fun v33 => K5 .normal [G l4 0, v31, v33] s32))))) (V true 3 (.agg (⟨[.bool true, v13, .int .i64 (-1)]⟩)) ((allOne [.bool true, v13, .int .i64 (-1)]) ∧ (A w0 44 3 32 (G l4 1) 1 [.bool true, v13, .int .i64 (-1)] s16 fun v34 s35 => B P 3 .sub (G l4 2) (.int .i64 1) fun v36 => K5 .normal [G l4 0, v34, v36] s35)))))) (AC P w0 n_p_spec_l1Rd_pick [G l4 0, .int .i64 3] s11 fun v37 s38 => B P 3 .eql v37 (.int .i64 0) fun v39 => Q v39 (AC P w0 n_p_spec_l1Rd_pick [G l4 0, .int .i64 12] s38 fun v40 s41 => AC P w0 n_p_spec_l1Rd_pick [G l4 0, .int .i64 2] s41 fun v42 s43 => B P 3 .mul v40 v42 fun v44 => V false 1 v44 (AC P w0 n_p_spec_l1Rd_pick [G l4 0, .int .i64 4] s43 fun v45 s46 => B P 3 .eql v45 (.int .i64 0) fun v47 => Q v47 (AC P w0 n_p_spec_l1Rd_pick [G l4 0, .int .i64 70] s46 fun v48 s49 => V false 1 v48 (V true 3 (.agg (⟨[.bool false, v8, v48]⟩)) ((allOne [.bool false, v8, v48]) ∧ (A w0 44 3 32 (G l4 1) 1 [.bool false, v8, v48] s49 fun v50 s51 => B P 3 .sub (G l4 2) (.int .i64 1) fun v52 => K5 .normal [G l4 0, v50, v52] s51)))) (V true 3 (.agg (⟨[.bool false, v8, v44]⟩)) ((allOne [.bool false, v8, v44]) ∧ (A w0 44 3 32 (G l4 1) 1 [.bool false, v8, v44] s46 fun v53 s54 => B P 3 .sub (G l4 2) (.int .i64 1) fun v55 => K5 .normal [G l4 0, v53, v55] s54))))) (V true 3 (.agg (⟨[.bool false, v8, .int .i64 (-1)]⟩)) ((allOne [.bool false, v8, .int .i64 (-1)]) ∧ (A w0 44 3 32 (G l4 1) 1 [.bool false, v8, .int .i64 (-1)] s38 fun v56 s57 => B P 3 .sub (G l4 2) (.int .i64 1) fun v58 => K5 .normal [G l4 0, v56, v58] s57)))))))) (K5 (.exit 0) [G l4 0, G l4 1, G l4 2] s6)) [a0, .slice (some (Addr.mk n0 0 none)) 0 0, v2] s3 fun x59 l60 s61 => match x59 with | .normal => R (G l60 1) s61 | .ret => False | .exit i62 => (match Nat.beq i62 0 with | true => R (G l60 1) s61 | false => False)
theorem vc_spec_l24Steps_eq (w0 : World) (a0 a1 : Value) (σ : Vw) (R : Value → Vw → Prop) : vc_spec_l24Steps w0 a0 a1 σ R = den Tryz.prog w0 kp_spec_l24Steps esc_spec_l24Steps (Tryz.f52.body.getD .skip) (entry Tryz.f52.ntmps [a0, a1]) σ (retK Tryz.prog Tryz.f52.results.toList R) := by kernel_rfl
theorem ac_spec_l24Steps {w0 : World} {a0 a1 : Value} {σ : Vw} {R : Value → Vw → Prop} (h : vc_spec_l24Steps w0 a0 a1 σ R) : AC Tryz.prog w0 n_spec_l24Steps [a0, a1] σ R := by
  refine ac_rule (fn := Tryz.f52) (c := Tryz.f52.body.getD .skip) kp_spec_l24Steps esc_spec_l24Steps Tryz.func52 (by kernel_rfl) (by kernel_rfl) ?_
  rw [← vc_spec_l24Steps_eq]
  exact h

/-- spec.l21Copy -/
def kp_spec_l21Copy : Nat → Keep
  | _ => ⟨[], [], [], .done, []⟩
def esc_spec_l21Copy : Nat → Bool
  | 3 => true
  | _ => false
def vc_spec_l21Copy (w0 : World) (a0 : Value) (σ : Vw) (R : Value → Vw → Prop) : Prop :=
  V true 1 a0 (W w0 9 [] σ fun n0 s1 => pAppendS w0 9 1 16 (.slice (some (Addr.mk n0 0 none)) 0 0) (C a0 0) s1 fun v2 s3 => V false 1 v2 (V true 1 (.agg ⟨[v2]⟩) (R (.agg ⟨[v2]⟩) s3)))
theorem vc_spec_l21Copy_eq (w0 : World) (a0 : Value) (σ : Vw) (R : Value → Vw → Prop) : vc_spec_l21Copy w0 a0 σ R = den Tryz.prog w0 kp_spec_l21Copy esc_spec_l21Copy (Tryz.f53.body.getD .skip) (entry Tryz.f53.ntmps [a0]) σ (retK Tryz.prog Tryz.f53.results.toList R) := by kernel_rfl
theorem ac_spec_l21Copy {w0 : World} {a0 : Value} {σ : Vw} {R : Value → Vw → Prop} (h : vc_spec_l21Copy w0 a0 σ R) : AC Tryz.prog w0 n_spec_l21Copy [a0] σ R := by
  refine ac_rule (fn := Tryz.f53) (c := Tryz.f53.body.getD .skip) kp_spec_l21Copy esc_spec_l21Copy Tryz.func53 (by kernel_rfl) (by kernel_rfl) ?_
  rw [← vc_spec_l21Copy_eq]
  exact h

/-- spec.l23Step -/
def kp_spec_l23Step : Nat → Keep
  | 5 => ⟨[], [], [], .step 0 (.step 1 (.step 2 (.step 3 (.step 4 (.done))))), [(2, [0]), (3, [0, 1, 2]), (4, [0, 1, 2, 3])]⟩
  | 7 => ⟨[], [], [], .step 0 (.step 1 (.step 2 (.step 3 (.step 5 (.step 4 (.step 6 (.step 7 (.step 8 (.done))))))))), [(3, [2]), (4, [0, 1, 2, 3]), (6, [0, 1, 2, 3, 4]), (7, [0, 1, 2, 3, 4, 5, 6]), (8, [0, 1, 2, 3, 4, 5, 6, 7])]⟩
  | 10 => ⟨[], [], [], .step 0 (.step 1 (.step 2 (.step 3 (.step 4 (.step 5 (.done)))))), [(3, [0]), (4, [0, 1, 3]), (5, [0, 1, 2, 3, 4])]⟩
  | _ => ⟨[], [], [], .done, []⟩
def esc_spec_l23Step : Nat → Bool
  | _ => false
def cs_spec_l23Step_1 (w0 : World) (v900 : Value) (v901 : Value) (v902 : Value) (s903 : Vw) (v904 : Value) (v905 : Value) (v906 : Value) (R : Value → Vw → Prop) : Prop :=
  B P 3 .neq v900 (.int .i64 0) (fun v500 => Q v500 (V true 1 (.agg (⟨[C v901 0]⟩)) (V true 4 (.agg (⟨[C v902 0, C v902 1, C v902 2, C v902 3]⟩)) (R (.tuple (⟨[.agg (⟨[C v901 0]⟩), .agg (⟨[C v902 0, C v902 1, C v902 2, C v902 3]⟩), .bool true]⟩)) s903))) (B P 3 .lss (C v904 2) (.int .i64 0) fun v501 => Q v501 (N v905 fun v502 => AC P w0 n_spec_DiskWrite ([.agg (⟨[C v901 0]⟩), v905, v502]) s903 fun v503 s504 => V true 1 v503 (V true 4 (.agg (⟨[C v906 0, C v906 1, C v906 2, C v906 3]⟩)) (R (.tuple (⟨[.agg (⟨[C v503 0]⟩), .agg (⟨[C v906 0, C v906 1, C v906 2, C v906 3]⟩), .bool true]⟩)) s504))) (AC P w0 n_spec_DiskWrite ([.agg (⟨[C v901 0]⟩), v905, C v904 2]) s903 fun v505 s506 => V true 1 v505 (AC P w0 n_spec_StoreOpen ([.agg (⟨[C v505 0]⟩)]) s506 fun v507 s508 => E v507 0 fun v509 => E v507 1 fun v510 => V true 4 v509 (V true 1 (.agg (⟨[C v505 0]⟩)) (V true 4 (.agg (⟨[C v509 0, C v509 1, C v509 2, C v509 3]⟩)) (R (.tuple (⟨[.agg (⟨[C v505 0]⟩), .agg (⟨[C v509 0, C v509 1, C v509 2, C v509 3]⟩), v510]⟩)) s508)))))))
def vc_spec_l23Step (w0 : World) (a0 a1 a2 : Value) (σ : Vw) (R : Value → Vw → Prop) : Prop :=
  V true 1 a0 (V true 4 a1 (V true 3 a2 (AC P w0 n_spec_StoreAppend ([.agg (⟨[C a1 0, C a1 1, C a1 2, C a1 3]⟩), C a2 1]) σ fun v0 s1 => E v0 0 fun v2 => E v0 1 fun v3 => E v0 2 fun v4 => V true 4 v3 (Q (C a2 0) (AC P w0 n_spec_StoreSave ([.agg (⟨[C a1 0, C a1 1, C a1 2, C a1 3]⟩), C a2 1]) s1 fun v5 s6 => E v5 0 fun v7 => E v5 1 fun v8 => E v5 2 fun v9 => V true 4 v8 (cs_spec_l23Step_1 w0 v9 a0 a1 s6 a2 v7 v8 R)) (cs_spec_l23Step_1 w0 v4 a0 a1 s1 a2 v2 v3 R)))))

theorem vc_spec_l23Step_eq (w0 : World) (a0 a1 a2 : Value) (σ : Vw) (R : Value → Vw → Prop) : vc_spec_l23Step w0 a0 a1 a2 σ R = den Tryz.prog w0 kp_spec_l23Step esc_spec_l23Step (Tryz.f54.body.getD .skip) (entry Tryz.f54.ntmps [a0, a1, a2]) σ (retK Tryz.prog Tryz.f54.results.toList R) := by kernel_rfl
theorem ac_spec_l23Step {w0 : World} {a0 a1 a2 : Value} {σ : Vw} {R : Value → Vw → Prop} (h : vc_spec_l23Step w0 a0 a1 a2 σ R) : AC Tryz.prog w0 n_spec_l23Step [a0, a1, a2] σ R := by
  refine ac_rule (fn := Tryz.f54) (c := Tryz.f54.body.getD .skip) kp_spec_l23Step esc_spec_l23Step Tryz.func54 (by kernel_rfl) (by kernel_rfl) ?_
  rw [← vc_spec_l23Step_eq]
  exact h

/-- spec.l22Copy -/
def kp_spec_l22Copy : Nat → Keep
  | _ => ⟨[], [], [], .done, []⟩
def esc_spec_l22Copy : Nat → Bool
  | 3 => true
  | _ => false
def vc_spec_l22Copy (w0 : World) (a0 : Value) (σ : Vw) (R : Value → Vw → Prop) : Prop :=
  V true 4 a0 (W w0 9 [] σ fun n0 s1 => pAppendS w0 9 1 16 (.slice (some (Addr.mk n0 0 none)) 0 0) (C a0 2) s1 fun v2 s3 => V false 1 v2 (V true 4 (.agg (⟨[C a0 0, C a0 1, v2, C a0 3]⟩)) (R (.agg (⟨[C a0 0, C a0 1, v2, C a0 3]⟩)) s3)))
theorem vc_spec_l22Copy_eq (w0 : World) (a0 : Value) (σ : Vw) (R : Value → Vw → Prop) : vc_spec_l22Copy w0 a0 σ R = den Tryz.prog w0 kp_spec_l22Copy esc_spec_l22Copy (Tryz.f55.body.getD .skip) (entry Tryz.f55.ntmps [a0]) σ (retK Tryz.prog Tryz.f55.results.toList R) := by kernel_rfl
theorem ac_spec_l22Copy {w0 : World} {a0 : Value} {σ : Vw} {R : Value → Vw → Prop} (h : vc_spec_l22Copy w0 a0 σ R) : AC Tryz.prog w0 n_spec_l22Copy [a0] σ R := by
  refine ac_rule (fn := Tryz.f55) (c := Tryz.f55.body.getD .skip) kp_spec_l22Copy esc_spec_l22Copy Tryz.func55 (by kernel_rfl) (by kernel_rfl) ?_
  rw [← vc_spec_l22Copy_eq]
  exact h

/-- spec.l1Many -/
def kp_spec_l1Many : Nat → Keep
  | 2 => ⟨[0, 1, 5], [], [], .done, []⟩
  | _ => ⟨[], [], [], .done, []⟩
def esc_spec_l1Many : Nat → Bool
  | _ => false
def vc_spec_l1Many (w0 : World) (a0 a1 : Value) (σ : Vw) (R : Value → Vw → Prop) : Prop :=
  pLoop (fun l0 K1 s2 => B P 3 .gtr (G l0 1) (.int .i64 0) fun v3 => Q v3 (B P 3 .rem (G l0 1) (.int .i64 2) fun v4 => B P 3 .eql v4 (.int .i64 1) fun v5 => Q v5 (B P 9 .add (G l0 2) (G l0 0) fun v6 => B P 9 .add (G l0 0) (G l0 0) fun v7 => B P 3 .quo (G l0 1) (.int .i64 2) fun v8 => K1 .normal [v7, v8, v6] s2) (B P 9 .add (G l0 0) (G l0 0) fun v9 => B P 3 .quo (G l0 1) (.int .i64 2) fun v10 => K1 .normal [v9, v10, G l0 2] s2)) (K1 (.exit 0) [G l0 0, G l0 1, G l0 2] s2)) ([a0, a1, .string ({ data := #[] })]) σ fun x11 l12 s13 => match x11 with | .normal => R (G l12 2) s13 | .ret => False | .exit i14 => (match Nat.beq i14 0 with | true => R (G l12 2) s13 | false => False)
theorem vc_spec_l1Many_eq (w0 : World) (a0 a1 : Value) (σ : Vw) (R : Value → Vw → Prop) : vc_spec_l1Many w0 a0 a1 σ R = den Tryz.prog w0 kp_spec_l1Many esc_spec_l1Many (Tryz.f56.body.getD .skip) (entry Tryz.f56.ntmps [a0, a1]) σ (retK Tryz.prog Tryz.f56.results.toList R) := by kernel_rfl
theorem ac_spec_l1Many {w0 : World} {a0 a1 : Value} {σ : Vw} {R : Value → Vw → Prop} (h : vc_spec_l1Many w0 a0 a1 σ R) : AC Tryz.prog w0 n_spec_l1Many [a0, a1] σ R := by
  refine ac_rule (fn := Tryz.f56) (c := Tryz.f56.body.getD .skip) kp_spec_l1Many esc_spec_l1Many Tryz.func56 (by kernel_rfl) (by kernel_rfl) ?_
  rw [← vc_spec_l1Many_eq]
  exact h

/-- (*spec.l1Rd).of -/
def kp_p_spec_l1Rd_of : Nat → Keep
  | _ => ⟨[], [], [], .done, []⟩
def esc_p_spec_l1Rd_of : Nat → Bool
  | _ => false
def vc_p_spec_l1Rd_of (w0 : World) (a0 a1 : Value) (σ : Vw) (R : Value → Vw → Prop) : Prop :=
  N a1 fun v0 => AC P w0 n_p_spec_l1Rd_pick [a0, v0] σ fun v1 s2 => X 1 a1 v1 fun v3 => L w0 1 v3 s2 fun g4 => R (g4 0) s2
theorem vc_p_spec_l1Rd_of_eq (w0 : World) (a0 a1 : Value) (σ : Vw) (R : Value → Vw → Prop) : vc_p_spec_l1Rd_of w0 a0 a1 σ R = den Tryz.prog w0 kp_p_spec_l1Rd_of esc_p_spec_l1Rd_of (Tryz.f57.body.getD .skip) (entry Tryz.f57.ntmps [a0, a1]) σ (retK Tryz.prog Tryz.f57.results.toList R) := by kernel_rfl
theorem ac_p_spec_l1Rd_of {w0 : World} {a0 a1 : Value} {σ : Vw} {R : Value → Vw → Prop} (h : vc_p_spec_l1Rd_of w0 a0 a1 σ R) : AC Tryz.prog w0 n_p_spec_l1Rd_of [a0, a1] σ R := by
  refine ac_rule (fn := Tryz.f57) (c := Tryz.f57.body.getD .skip) kp_p_spec_l1Rd_of esc_p_spec_l1Rd_of Tryz.func57 (by kernel_rfl) (by kernel_rfl) ?_
  rw [← vc_p_spec_l1Rd_of_eq]
  exact h

/-- impl.areaFirst -/
def kp_impl_areaFirst : Nat → Keep
  | _ => ⟨[], [], [], .done, []⟩
def esc_impl_areaFirst : Nat → Bool
  | _ => false
def vc_impl_areaFirst (w0 : World) (a0 : Value) (σ : Vw) (R : Value → Vw → Prop) : Prop :=
  B P 3 .rem a0 (.int .i64 2) fun v0 => B P 3 .mul v0 (.int .i64 90) fun v1 => B P 3 .add (.int .i64 14) v1 fun v2 => R v2 σ
theorem vc_impl_areaFirst_eq (w0 : World) (a0 : Value) (σ : Vw) (R : Value → Vw → Prop) : vc_impl_areaFirst w0 a0 σ R = den Tryz.prog w0 kp_impl_areaFirst esc_impl_areaFirst (Tryz.f58.body.getD .skip) (entry Tryz.f58.ntmps [a0]) σ (retK Tryz.prog Tryz.f58.results.toList R) := by kernel_rfl
theorem ac_impl_areaFirst {w0 : World} {a0 : Value} {σ : Vw} {R : Value → Vw → Prop} (h : vc_impl_areaFirst w0 a0 σ R) : AC Tryz.prog w0 n_impl_areaFirst [a0] σ R := by
  refine ac_rule (fn := Tryz.f58) (c := Tryz.f58.body.getD .skip) kp_impl_areaFirst esc_impl_areaFirst Tryz.func58 (by kernel_rfl) (by kernel_rfl) ?_
  rw [← vc_impl_areaFirst_eq]
  exact h

/-- impl.checkHead -/
def kp_impl_checkHead : Nat → Keep
  | _ => ⟨[], [], [], .done, []⟩
def esc_impl_checkHead : Nat → Bool
  | _ => false
def vc_impl_checkHead (w0 : World) (a0 a1 : Value) (σ : Vw) (R : Value → Vw → Prop) : Prop :=
  AC P w0 n_strconv_Itoa [a0] σ fun v0 s1 => B P 9 .add (.string ({ data := #[67, 32] })) v0 fun v2 => B P 9 .add v2 (.string ({ data := #[32] })) fun v3 => AC P w0 n_strconv_Itoa [a1] s1 fun v4 s5 => B P 9 .add v3 v4 fun v6 => R v6 s5
theorem vc_impl_checkHead_eq (w0 : World) (a0 a1 : Value) (σ : Vw) (R : Value → Vw → Prop) : vc_impl_checkHead w0 a0 a1 σ R = den Tryz.prog w0 kp_impl_checkHead esc_impl_checkHead (Tryz.f59.body.getD .skip) (entry Tryz.f59.ntmps [a0, a1]) σ (retK Tryz.prog Tryz.f59.results.toList R) := by kernel_rfl
theorem ac_impl_checkHead {w0 : World} {a0 a1 : Value} {σ : Vw} {R : Value → Vw → Prop} (h : vc_impl_checkHead w0 a0 a1 σ R) : AC Tryz.prog w0 n_impl_checkHead [a0, a1] σ R := by
  refine ac_rule (fn := Tryz.f59) (c := Tryz.f59.body.getD .skip) kp_impl_checkHead esc_impl_checkHead Tryz.func59 (by kernel_rfl) (by kernel_rfl) ?_
  rw [← vc_impl_checkHead_eq]
  exact h

/-- spec.l22Many -/
def kp_spec_l22Many : Nat → Keep
  | _ => ⟨[], [], [], .done, []⟩
def esc_spec_l22Many : Nat → Bool
  | _ => false
def vc_spec_l22Many (w0 : World) (a0 a1 : Value) (σ : Vw) (R : Value → Vw → Prop) : Prop :=
  pLenS a0 fun v0 => B P 3 .add v0 a1 fun v1 => B P 3 .sub v1 (.int .i64 1) fun v2 => B P 3 .quo v2 a1 fun v3 => R v3 σ
theorem vc_spec_l22Many_eq (w0 : World) (a0 a1 : Value) (σ : Vw) (R : Value → Vw → Prop) : vc_spec_l22Many w0 a0 a1 σ R = den Tryz.prog w0 kp_spec_l22Many esc_spec_l22Many (Tryz.f60.body.getD .skip) (entry Tryz.f60.ntmps [a0, a1]) σ (retK Tryz.prog Tryz.f60.results.toList R) := by kernel_rfl
theorem ac_spec_l22Many {w0 : World} {a0 a1 : Value} {σ : Vw} {R : Value → Vw → Prop} (h : vc_spec_l22Many w0 a0 a1 σ R) : AC Tryz.prog w0 n_spec_l22Many [a0, a1] σ R := by
  refine ac_rule (fn := Tryz.f60) (c := Tryz.f60.body.getD .skip) kp_spec_l22Many esc_spec_l22Many Tryz.func60 (by kernel_rfl) (by kernel_rfl) ?_
  rw [← vc_spec_l22Many_eq]
  exact h

/-- spec.l22Piece -/
def kp_spec_l22Piece : Nat → Keep
  | _ => ⟨[], [], [], .done, []⟩
def esc_spec_l22Piece : Nat → Bool
  | _ => false
def vc_spec_l22Piece (w0 : World) (a0 a1 a2 : Value) (σ : Vw) (R : Value → Vw → Prop) : Prop :=
  B P 3 .mul a1 a2 fun v0 => pLenS a0 fun v1 => B P 3 .geq v0 v1 fun v2 => Q v2 (R (.string ({ data := #[] })) σ) (B P 3 .add v0 a2 fun v3 => pLenS a0 fun v4 => B P 3 .gtr v3 v4 fun v5 => Q v5 (pSliceStr a0 (some v0) none fun v6 => R v6 σ) (B P 3 .add v0 a2 fun v7 => pSliceStr a0 (some v0) (some v7) fun v8 => R v8 σ))
theorem vc_spec_l22Piece_eq (w0 : World) (a0 a1 a2 : Value) (σ : Vw) (R : Value → Vw → Prop) : vc_spec_l22Piece w0 a0 a1 a2 σ R = den Tryz.prog w0 kp_spec_l22Piece esc_spec_l22Piece (Tryz.f61.body.getD .skip) (entry Tryz.f61.ntmps [a0, a1, a2]) σ (retK Tryz.prog Tryz.f61.results.toList R) := by kernel_rfl
theorem ac_spec_l22Piece {w0 : World} {a0 a1 a2 : Value} {σ : Vw} {R : Value → Vw → Prop} (h : vc_spec_l22Piece w0 a0 a1 a2 σ R) : AC Tryz.prog w0 n_spec_l22Piece [a0, a1, a2] σ R := by
  refine ac_rule (fn := Tryz.f61) (c := Tryz.f61.body.getD .skip) kp_spec_l22Piece esc_spec_l22Piece Tryz.func61 (by kernel_rfl) (by kernel_rfl) ?_
  rw [← vc_spec_l22Piece_eq]
  exact h

/-- spec.l22Head -/
def kp_spec_l22Head : Nat → Keep
  | _ => ⟨[], [], [], .done, []⟩
def esc_spec_l22Head : Nat → Bool
  | _ => false
def vc_spec_l22Head (w0 : World) (a0 a1 : Value) (σ : Vw) (R : Value → Vw → Prop) : Prop :=
  AC P w0 n_spec_l22Dec [a0] σ fun v0 s1 => B P 9 .add (.string ({ data := #[67, 32] })) v0 fun v2 => B P 9 .add v2 (.string ({ data := #[32] })) fun v3 => pLenS a1 fun v4 => AC P w0 n_spec_l22Dec [v4] s1 fun v5 s6 => B P 9 .add v3 v5 fun v7 => R v7 s6
theorem vc_spec_l22Head_eq (w0 : World) (a0 a1 : Value) (σ : Vw) (R : Value → Vw → Prop) : vc_spec_l22Head w0 a0 a1 σ R = den Tryz.prog w0 kp_spec_l22Head esc_spec_l22Head (Tryz.f62.body.getD .skip) (entry Tryz.f62.ntmps [a0, a1]) σ (retK Tryz.prog Tryz.f62.results.toList R) := by kernel_rfl
theorem ac_spec_l22Head {w0 : World} {a0 a1 : Value} {σ : Vw} {R : Value → Vw → Prop} (h : vc_spec_l22Head w0 a0 a1 σ R) : AC Tryz.prog w0 n_spec_l22Head [a0, a1] σ R := by
  refine ac_rule (fn := Tryz.f62) (c := Tryz.f62.body.getD .skip) kp_spec_l22Head esc_spec_l22Head Tryz.func62 (by kernel_rfl) (by kernel_rfl) ?_
  rw [← vc_spec_l22Head_eq]
  exact h

/-- impl.numRead -/
def kp_impl_numRead : Nat → Keep
  | _ => ⟨[], [], [], .done, []⟩
def esc_impl_numRead : Nat → Bool
  | _ => false
def vc_impl_numRead (w0 : World) (a0 : Value) (σ : Vw) (R : Value → Vw → Prop) : Prop :=
  AC P w0 n_strconv_Atoi [a0] σ fun v0 s1 => E v0 0 fun v2 => E v0 1 fun v3 => R v2 s1
theorem vc_impl_numRead_eq (w0 : World) (a0 : Value) (σ : Vw) (R : Value → Vw → Prop) : vc_impl_numRead w0 a0 σ R = den Tryz.prog w0 kp_impl_numRead esc_impl_numRead (Tryz.f64.body.getD .skip) (entry Tryz.f64.ntmps [a0]) σ (retK Tryz.prog Tryz.f64.results.toList R) := by kernel_rfl
theorem ac_impl_numRead {w0 : World} {a0 : Value} {σ : Vw} {R : Value → Vw → Prop} (h : vc_impl_numRead w0 a0 σ R) : AC Tryz.prog w0 n_impl_numRead [a0] σ R := by
  refine ac_rule (fn := Tryz.f64) (c := Tryz.f64.body.getD .skip) kp_impl_numRead esc_impl_numRead Tryz.func64 (by kernel_rfl) (by kernel_rfl) ?_
  rw [← vc_impl_numRead_eq]
  exact h

/-- spec.l24New -/
def kp_spec_l24New : Nat → Keep
  | _ => ⟨[], [], [], .done, []⟩
def esc_spec_l24New : Nat → Bool
  | _ => false
def vc_spec_l24New (w0 : World) (a0 : Value) (σ : Vw) (R : Value → Vw → Prop) : Prop :=
  AC P w0 n_p_spec_l1Rd_pick [a0, .int .i64 200] σ fun v0 s1 => AC P w0 n_spec_l1Many ([.string ({ data := #[116] }), v0]) s1 fun v2 s3 => AC P w0 n_spec_StoreNew [v2] s3 fun v4 s5 => E v4 0 fun v6 => E v4 1 fun v7 => AC P w0 n_spec_l24Blank [] s5 fun v8 s9 => N v6 fun v10 => AC P w0 n_spec_DiskWrite [v8, v6, v10] s9 fun v11 s12 => V true 1 v11 (R (.agg (⟨[C v11 0]⟩)) s12)
theorem vc_spec_l24New_eq (w0 : World) (a0 : Value) (σ : Vw) (R : Value → Vw → Prop) : vc_spec_l24New w0 a0 σ R = den Tryz.prog w0 kp_spec_l24New esc_spec_l24New (Tryz.f66.body.getD .skip) (entry Tryz.f66.ntmps [a0]) σ (retK Tryz.prog Tryz.f66.results.toList R) := by kernel_rfl
theorem ac_spec_l24New {w0 : World} {a0 : Value} {σ : Vw} {R : Value → Vw → Prop} (h : vc_spec_l24New w0 a0 σ R) : AC Tryz.prog w0 n_spec_l24New [a0] σ R := by
  refine ac_rule (fn := Tryz.f66) (c := Tryz.f66.body.getD .skip) kp_spec_l24New esc_spec_l24New Tryz.func66 (by kernel_rfl) (by kernel_rfl) ?_
  rw [← vc_spec_l24New_eq]
  exact h

/-- spec.l22Cut -/
def kp_spec_l22Cut : Nat → Keep
  | 4 => ⟨[0, 1, 5, 6, 7], [], [], .done, []⟩
  | _ => ⟨[], [], [], .done, []⟩
def esc_spec_l22Cut : Nat → Bool
  | 8 => true
  | _ => false
def vc_spec_l22Cut (w0 : World) (a0 a1 : Value) (σ : Vw) (R : Value → Vw → Prop) : Prop :=
  W w0 9 [] σ fun n0 s1 => pLoop (fun l2 K3 s4 => pLenS (G l2 0) fun v5 => B P 3 .lss (G l2 4) v5 fun v6 => Q v6 (pIndexStr (G l2 0) (G l2 4) fun v7 => B P 5 .eql v7 (G l2 1) fun v8 => Q v8 (pSliceStr (G l2 0) (some (G l2 3)) (some (G l2 4)) fun v9 => V false 1 v9 ((allOne [v9]) ∧ (A w0 9 1 16 (G l2 2) 1 [v9] s4 fun v10 s11 => B P 3 .add (G l2 4) (.int .i64 1) fun v12 => B P 3 .add (G l2 4) (.int .i64 1) fun v13 => K3 .normal [G l2 0, G l2 1, v10, v12, v13] s11))) (B P 3 .add (G l2 4) (.int .i64 1) fun v14 => K3 .normal [G l2 0, G l2 1, G l2 2, G l2 3, v14] s4)) (K3 (.exit 0) [G l2 0, G l2 1, G l2 2, G l2 3, G l2 4] s4)) [a0, a1, .slice (some (Addr.mk n0 0 none)) 0 0, .int .i64 0, .int .i64 0] s1 fun x15 l16 s17 => match x15 with | .normal => pSliceStr (G l16 0) (some (G l16 3)) none (fun v18 => V false 1 v18 ((allOne [v18]) ∧ (A w0 9 1 16 (G l16 2) 1 [v18] s17 fun v19 s20 => R v19 s20))) | .ret => False | .exit i21 => (match Nat.beq i21 0 with | true => pSliceStr (G l16 0) (some (G l16 3)) none (fun v22 => V false 1 v22 ((allOne [v22]) ∧ (A w0 9 1 16 (G l16 2) 1 [v22] s17 fun v23 s24 => R v23 s24))) | false => False)
theorem vc_spec_l22Cut_eq (w0 : World) (a0 a1 : Value) (σ : Vw) (R : Value → Vw → Prop) : vc_spec_l22Cut w0 a0 a1 σ R = den Tryz.prog w0 kp_spec_l22Cut esc_spec_l22Cut (Tryz.f67.body.getD .skip) (entry Tryz.f67.ntmps [a0, a1]) σ (retK Tryz.prog Tryz.f67.results.toList R) := by kernel_rfl
theorem ac_spec_l22Cut {w0 : World} {a0 a1 : Value} {σ : Vw} {R : Value → Vw → Prop} (h : vc_spec_l22Cut w0 a0 a1 σ R) : AC Tryz.prog w0 n_spec_l22Cut [a0, a1] σ R := by
  refine ac_rule (fn := Tryz.f67) (c := Tryz.f67.body.getD .skip) kp_spec_l22Cut esc_spec_l22Cut Tryz.func67 (by kernel_rfl) (by kernel_rfl) ?_
  rw [← vc_spec_l22Cut_eq]
  exact h

/-- spec.l22Num -/
def kp_spec_l22Num : Nat → Keep
  | 5 => ⟨[0, 2, 3, 4], [], [], .done, []⟩
  | _ => ⟨[], [], [], .done, []⟩
def esc_spec_l22Num : Nat → Bool
  | _ => false
def cs_spec_l22Num_1 (w0 : World) (v900 : Value) (s901 : Vw) (R : Value → Vw → Prop) : Prop :=
  pLoop (fun l500 K501 s502 => pLenS (G l500 0) fun v503 => B P 3 .lss (G l500 3) v503 fun v504 => Q v504 (pIndexStr (G l500 0) (G l500 3) fun v505 => B P 5 .lss v505 (.int .u8 48) fun v506 => Q v506 (K501 .ret [G l500 0, .int .i64 (-1), G l500 2, G l500 3] s502) (pIndexStr (G l500 0) (G l500 3) fun v507 => B P 5 .gtr v507 (.int .u8 57) fun v508 => Q v508 (K501 .ret [G l500 0, .int .i64 (-1), G l500 2, G l500 3] s502) (B P 3 .mul (G l500 2) (.int .i64 10) fun v509 => pIndexStr (G l500 0) (G l500 3) fun v510 => B P 5 .sub v510 (.int .u8 48) fun v511 => pConvInt .i64 v511 fun v512 => B P 3 .add v509 v512 fun v513 => B P 3 .add (G l500 3) (.int .i64 1) fun v514 => K501 .normal [G l500 0, G l500 1, v513, v514] s502))) (K501 (.exit 0) [G l500 0, G l500 1, G l500 2, G l500 3] s502)) [v900, .int .i64 0, .int .i64 0, .int .i64 0] s901 (fun x515 l516 s517 => match x515 with | .normal => R (G l516 2) s517 | .ret => R (G l516 1) s517 | .exit i518 => (match Nat.beq i518 0 with | true => R (G l516 2) s517 | false => False))
def vc_spec_l22Num (w0 : World) (a0 : Value) (σ : Vw) (R : Value → Vw → Prop) : Prop :=
  pLenS a0 fun v0 => AC P w0 n_spec_l21In [v0, .int .i64 1, .int .i64 5] σ fun v1 s2 => pUn .not v1 fun v3 => Q v3 (R (.int .i64 (-1)) s2) (pLenS a0 fun v4 => B P 3 .gtr v4 (.int .i64 1) fun v5 => Q v5 (pIndexStr a0 (.int .i64 0) fun v6 => B P 5 .eql v6 (.int .u8 48) fun v7 => Q v7 (R (.int .i64 (-1)) s2) (cs_spec_l22Num_1 w0 a0 s2 R)) (cs_spec_l22Num_1 w0 a0 s2 R))

theorem vc_spec_l22Num_eq (w0 : World) (a0 : Value) (σ : Vw) (R : Value → Vw → Prop) : vc_spec_l22Num w0 a0 σ R = den Tryz.prog w0 kp_spec_l22Num esc_spec_l22Num (Tryz.f68.body.getD .skip) (entry Tryz.f68.ntmps [a0]) σ (retK Tryz.prog Tryz.f68.results.toList R) := by kernel_rfl
theorem ac_spec_l22Num {w0 : World} {a0 : Value} {σ : Vw} {R : Value → Vw → Prop} (h : vc_spec_l22Num w0 a0 σ R) : AC Tryz.prog w0 n_spec_l22Num [a0] σ R := by
  refine ac_rule (fn := Tryz.f68) (c := Tryz.f68.body.getD .skip) kp_spec_l22Num esc_spec_l22Num Tryz.func68 (by kernel_rfl) (by kernel_rfl) ?_
  rw [← vc_spec_l22Num_eq]
  exact h

/-- spec.l21In -/
def kp_spec_l21In : Nat → Keep
  | _ => ⟨[], [], [], .done, []⟩
def esc_spec_l21In : Nat → Bool
  | _ => false
def vc_spec_l21In (w0 : World) (a0 a1 a2 : Value) (σ : Vw) (R : Value → Vw → Prop) : Prop :=
  B P 3 .geq a0 a1 fun v0 => Q v0 (B P 3 .leq a0 a2 fun v1 => R v1 σ) (R (.bool false) σ)
theorem vc_spec_l21In_eq (w0 : World) (a0 a1 a2 : Value) (σ : Vw) (R : Value → Vw → Prop) : vc_spec_l21In w0 a0 a1 a2 σ R = den Tryz.prog w0 kp_spec_l21In esc_spec_l21In (Tryz.f69.body.getD .skip) (entry Tryz.f69.ntmps [a0, a1, a2]) σ (retK Tryz.prog Tryz.f69.results.toList R) := by kernel_rfl
theorem ac_spec_l21In {w0 : World} {a0 a1 a2 : Value} {σ : Vw} {R : Value → Vw → Prop} (h : vc_spec_l21In w0 a0 a1 a2 σ R) : AC Tryz.prog w0 n_spec_l21In [a0, a1, a2] σ R := by
  refine ac_rule (fn := Tryz.f69) (c := Tryz.f69.body.getD .skip) kp_spec_l21In esc_spec_l21In Tryz.func69 (by kernel_rfl) (by kernel_rfl) ?_
  rw [← vc_spec_l21In_eq]
  exact h

/-- spec.StoreAppend -/
def kp_spec_StoreAppend : Nat → Keep
  | 6 => ⟨[], [], [], .step 0 (.step 1 (.step 2 (.step 3 (.step 4 (.step 5 (.done)))))), [(1, [0]), (3, [2]), (4, [0, 1, 2, 3]), (5, [0, 1, 2, 3, 4])]⟩
  | 10 => ⟨[1, 8, 9], [(2, 4), (5, 4)], [2, 5], .done, []⟩
  | 12 => ⟨[], [], [], .step 0 (.step 1 (.step 2 (.step 3 (.step 4 (.step 5 (.step 6 (.step 7 (.step 8 (.step 9 (.step 10 (.step 11 (.step 12 (.step 13 (.step 14 (.done))))))))))))))), [(2, [1]), (3, [1, 2]), (4, [1, 2, 3]), (6, [1, 2, 3, 4, 5]), (9, [7, 8]), (10, [7, 8, 9]), (11, [1, 2, 3, 4, 5, 6, 7, 8, 9, 10]), (12, [1, 2, 3, 4, 5, 6, 7, 8, 9, 10, 11]), (13, [0, 1, 2, 3, 4, 5, 6, 7, 8, 9, 10, 11, 12]), (14, [0, 1, 2, 3, 4, 5, 6, 7, 8, 9, 10, 11, 12, 13])]⟩
  | 13 => ⟨[], [], [], .step 0 (.step 1 (.step 2 (.step 3 (.step 4 (.step 5 (.step 9 (.step 10 (.step 11 (.step 15 (.step 16 (.step 6 (.step 7 (.step 8 (.step 12 (.step 13 (.step 14 (.step 17 (.step 18 (.step 19 (.step 20 (.step 21 (.step 22 (.done))))))))))))))))))))))), [(2, [1]), (3, [1, 2]), (5, [4]), (6, [4, 5]), (7, [4, 5, 6]), (8, [4, 5, 6, 7]), (10, [9]), (11, [9, 10]), (12, [4, 5, 6, 9, 10, 11]), (13, [4, 5, 6, 7, 8, 9, 10, 11, 12]), (14, [4, 5, 6, 7, 8, 9, 10, 11, 12, 13]), (16, [15]), (17, [4, 5, 6, 9, 10, 11, 12, 15, 16]), (18, [4, 5, 6, 7, 8, 9, 10, 11, 12, 13, 14, 15, 16, 17]), (19, [1, 2, 3, 4, 5, 6, 7, 8, 9, 10, 11, 12, 13, 14, 15, 16, 17, 18]), (20, [1, 2, 3, 4, 5, 6, 7, 8, 9, 10, 11, 12, 13, 14, 15, 16, 17, 18, 19]), (21, [0, 1, 2, 3, 4, 5, 6, 7, 8, 9, 10, 11, 12, 13, 14, 15, 16, 17, 18, 19, 20]), (22, [0, 1, 2, 3, 4, 5, 6, 7, 8, 9, 10, 11, 12, 13, 14, 15, 16, 17, 18, 19, 20, 21])]⟩
  | 16 => ⟨[], [], [], .step 0 (.step 1 (.step 2 (.step 3 (.step 4 (.step 5 (.step 6 (.done))))))), [(1, [0]), (3, [2]), (4, [0, 1, 2, 3]), (5, [0, 1, 2, 3, 4]), (6, [0, 1, 2, 3, 4, 5])]⟩
  | 17 => ⟨[], [], [], .step 0 (.step 1 (.step 2 (.step 3 (.step 4 (.done))))), [(2, [0]), (3, [0, 1, 2]), (4, [0, 1, 2, 3])]⟩
  | _ => ⟨[], [], [], .done, []⟩
def esc_spec_StoreAppend : Nat → Bool
  | 11 => true
  | 32 => true
  | _ => false
def cs_spec_StoreAppend_1 (w0 : World) (l900 : List Value) (s901 : Vw) (v902 : Value) (R : Value → Vw → Prop) : Prop :=
  N (G l900 5) (fun v500 => pLenS (G l900 0) fun v501 => AC P w0 n_spec_l22Dec [G l900 3] s901 fun v502 s503 => B P 9 .add (.string ({ data := #[72, 32] })) v502 fun v504 => B P 9 .add v504 (.string ({ data := #[32] })) fun v505 => AC P w0 n_spec_l22Dec [v500] s503 fun v506 s507 => B P 9 .add v505 v506 fun v508 => B P 9 .add v508 (.string ({ data := #[32] })) fun v509 => AC P w0 n_spec_l22Dec [v501] s507 fun v510 s511 => B P 9 .add v509 v510 fun v512 => V false 1 v902 (V false 1 v512 (V true 2 (.agg (⟨[v902, v512]⟩)) ((allOne [v902, v512]) ∧ (A w0 59 2 24 (G l900 1) 1 [v902, v512] s511 fun v513 s514 => AC P w0 n_spec_l22Copy ([.agg (⟨[G l900 3, G l900 4, G l900 5, G l900 6]⟩)]) s514 fun v515 s516 => V true 4 v515 (V false 1 (G l900 0) ((allOne [G l900 0]) ∧ (A w0 9 1 16 (C v515 2) 1 [G l900 0] s516 fun v517 s518 => V false 1 v517 (AC P w0 n_spec_l22Blocks [G l900 0] s518 fun v519 s520 => B P 3 .add (G l900 6) v519 fun v521 => V false 1 v521 (V true 4 (.agg (⟨[C v515 0, C v515 1, v517, v521]⟩)) (R (.tuple (⟨[v513, .agg (⟨[C v515 0, C v515 1, v517, v521]⟩), .int .i64 0]⟩)) s520)))))))))))
def vc_spec_StoreAppend (w0 : World) (a0 a1 : Value) (σ : Vw) (R : Value → Vw → Prop) : Prop :=
  V true 4 a0 (W w0 59 [] σ fun n0 s1 => AC P w0 n_spec_l22Ok ([.agg (⟨[C a0 0, C a0 1, C a0 2, C a0 3]⟩)]) s1 fun v2 s3 => pUn .not v2 fun v4 => Q v4 (V true 4 (.agg (⟨[.int .i64 0, .string ({ data := #[] }), .slice none 0 0, .int .i64 0]⟩)) (R (.tuple (⟨[.slice (some (Addr.mk n0 0 none)) 0 0, .agg (⟨[.int .i64 0, .string ({ data := #[] }), .slice none 0 0, .int .i64 0]⟩), .int .i64 1]⟩)) s3)) (pLenS a1 fun v5 => B P 3 .gtr v5 (.int .i64 600) fun v6 => Q v6 (AC P w0 n_spec_l22Copy ([.agg (⟨[C a0 0, C a0 1, C a0 2, C a0 3]⟩)]) s3 fun v7 s8 => V true 4 v7 (R (.tuple (⟨[.slice (some (Addr.mk n0 0 none)) 0 0, .agg (⟨[C v7 0, C v7 1, C v7 2, C v7 3]⟩), .int .i64 6]⟩)) s8)) (AC P w0 n_spec_l22Blocks [a1] s3 fun v9 s10 => B P 3 .add (C a0 3) v9 fun v11 => B P 3 .gtr v11 (.int .i64 12) fun v12 => Q v12 (AC P w0 n_spec_l22Copy ([.agg (⟨[C a0 0, C a0 1, C a0 2, C a0 3]⟩)]) s10 fun v13 s14 => V true 4 v13 (R (.tuple (⟨[.slice (some (Addr.mk n0 0 none)) 0 0, .agg (⟨[C v13 0, C v13 1, C v13 2, C v13 3]⟩), .int .i64 4]⟩)) s14)) (W w0 59 [] s10 fun n15 s16 => pLoop (fun l17 K18 s19 => AC P w0 n_spec_l22Blocks [G l17 0] s19 fun v20 s21 => B P 3 .sub v20 (.int .i64 1) fun v22 => B P 3 .lss (G l17 2) v22 fun v23 => Q v23 (B P 3 .add (.int .i64 2) (G l17 6) fun v24 => B P 3 .add v24 (.int .i64 1) fun v25 => B P 3 .add v25 (G l17 2) fun v26 => AC P w0 n_spec_l22Piece [G l17 0, G l17 2, .int .i64 63] s21 fun v27 s28 => B P 9 .add (.string ({ data := #[68] })) v27 fun v29 => V false 1 v26 (V false 1 v29 (V true 2 (.agg (⟨[v26, v29]⟩)) ((allOne [v26, v29]) ∧ (A w0 59 2 24 (G l17 1) 1 [v26, v29] s28 fun v30 s31 => B P 3 .add (G l17 2) (.int .i64 1) fun v32 => K18 .normal [G l17 0, v30, v32, G l17 3, G l17 4, G l17 5, G l17 6, G l17 7, G l17 8, G l17 9, G l17 10] s31))))) (K18 (.exit 0) [G l17 0, G l17 1, G l17 2, G l17 3, G l17 4, G l17 5, G l17 6, G l17 7, G l17 8, G l17 9, G l17 10] s21)) ([a1, .slice (some (Addr.mk n15 0 none)) 0 0, .int .i64 0, C a0 0, C a0 1, C a0 2, C a0 3, .int .i64 0, .string ({ data := #[] }), .slice none 0 0, .int .i64 0]) s16 fun x33 l34 s35 => match x33 with | .normal => B P 3 .add (.int .i64 2) (G l34 6) (fun v36 => cs_spec_StoreAppend_1 w0 l34 s35 v36 R) | .ret => False | .exit i59 => (match Nat.beq i59 0 with | true => B P 3 .add (.int .i64 2) (G l34 6) (fun v60 => cs_spec_StoreAppend_1 w0 l34 s35 v60 R) | false => False)))))

theorem vc_spec_StoreAppend_eq (w0 : World) (a0 a1 : Value) (σ : Vw) (R : Value → Vw → Prop) : vc_spec_StoreAppend w0 a0 a1 σ R = den Tryz.prog w0 kp_spec_StoreAppend esc_spec_StoreAppend (Tryz.f70.body.getD .skip) (entry Tryz.f70.ntmps [a0, a1]) σ (retK Tryz.prog Tryz.f70.results.toList R) := by kernel_rfl
theorem ac_spec_StoreAppend {w0 : World} {a0 a1 : Value} {σ : Vw} {R : Value → Vw → Prop} (h : vc_spec_StoreAppend w0 a0 a1 σ R) : AC Tryz.prog w0 n_spec_StoreAppend [a0, a1] σ R := by
  refine ac_rule (fn := Tryz.f70) (c := Tryz.f70.body.getD .skip) kp_spec_StoreAppend esc_spec_StoreAppend Tryz.func70 (by kernel_rfl) (by kernel_rfl) ?_
  rw [← vc_spec_StoreAppend_eq]
  exact h

/-- spec.StoreSave -/
def kp_spec_StoreSave : Nat → Keep
  | 8 => ⟨[], [], [], .step 0 (.step 1 (.step 2 (.step 3 (.step 5 (.step 6 (.step 7 (.step 8 (.step 9 (.step 4 (.step 10 (.step 11 (.step 12 (.done))))))))))))), [(1, [0]), (2, [0, 1]), (4, [0, 1, 2, 3]), (6, [5]), (7, [5, 6]), (9, [5, 6, 7, 8]), (10, [0, 1, 2, 3, 4]), (11, [0, 1, 2, 3, 4, 5, 6, 7, 8, 9, 10]), (12, [0, 1, 2, 3, 4, 5, 6, 7, 8, 9, 10, 11])]⟩
  | _ => ⟨[], [], [], .done, []⟩
def esc_spec_StoreSave : Nat → Bool
  | 8 => true
  | _ => false
def vc_spec_StoreSave (w0 : World) (a0 a1 : Value) (σ : Vw) (R : Value → Vw → Prop) : Prop :=
  V true 4 a0 (W w0 59 [] σ fun n0 s1 => AC P w0 n_spec_l22Ok ([.agg (⟨[C a0 0, C a0 1, C a0 2, C a0 3]⟩)]) s1 fun v2 s3 => pUn .not v2 fun v4 => Q v4 (V true 4 (.agg (⟨[.int .i64 0, .string ({ data := #[] }), .slice none 0 0, .int .i64 0]⟩)) (R (.tuple (⟨[.slice (some (Addr.mk n0 0 none)) 0 0, .agg (⟨[.int .i64 0, .string ({ data := #[] }), .slice none 0 0, .int .i64 0]⟩), .int .i64 1]⟩)) s3)) (AC P w0 n_spec_l22TextOk [a1] s3 fun v5 s6 => pUn .not v5 fun v7 => Q v7 (AC P w0 n_spec_l22Copy ([.agg (⟨[C a0 0, C a0 1, C a0 2, C a0 3]⟩)]) s6 fun v8 s9 => V true 4 v8 (R (.tuple (⟨[.slice (some (Addr.mk n0 0 none)) 0 0, .agg (⟨[C v8 0, C v8 1, C v8 2, C v8 3]⟩), .int .i64 4]⟩)) s9)) (B P 3 .geq (C a0 0) (.int .i64 99999) fun v10 => Q v10 (AC P w0 n_spec_l22Copy ([.agg (⟨[C a0 0, C a0 1, C a0 2, C a0 3]⟩)]) s6 fun v11 s12 => V true 4 v11 (R (.tuple (⟨[.slice (some (Addr.mk n0 0 none)) 0 0, .agg (⟨[C v11 0, C v11 1, C v11 2, C v11 3]⟩), .int .i64 5]⟩)) s12)) (B P 3 .add (C a0 0) (.int .i64 1) fun v13 => B P 3 .add (C a0 0) (.int .i64 1) fun v14 => V false 1 v14 (V false 1 a1 (AC P w0 n_spec_l22Saved [v13, a1] s6 fun v15 s16 => V true 4 (.agg (⟨[v14, a1, .slice none 0 0, .int .i64 0]⟩)) (R (.tuple (⟨[v15, .agg (⟨[v14, a1, .slice none 0 0, .int .i64 0]⟩), .int .i64 0]⟩)) s16)))))))
theorem vc_spec_StoreSave_eq (w0 : World) (a0 a1 : Value) (σ : Vw) (R : Value → Vw → Prop) : vc_spec_StoreSave w0 a0 a1 σ R = den Tryz.prog w0 kp_spec_StoreSave esc_spec_StoreSave (Tryz.f71.body.getD .skip) (entry Tryz.f71.ntmps [a0, a1]) σ (retK Tryz.prog Tryz.f71.results.toList R) := by kernel_rfl
theorem ac_spec_StoreSave {w0 : World} {a0 a1 : Value} {σ : Vw} {R : Value → Vw → Prop} (h : vc_spec_StoreSave w0 a0 a1 σ R) : AC Tryz.prog w0 n_spec_StoreSave [a0, a1] σ R := by
  refine ac_rule (fn := Tryz.f71) (c := Tryz.f71.body.getD .skip) kp_spec_StoreSave esc_spec_StoreSave Tryz.func71 (by kernel_rfl) (by kernel_rfl) ?_
  rw [← vc_spec_StoreSave_eq]
  exact h

/-- spec.DiskWrite -/
def kp_spec_DiskWrite : Nat → Keep
  | 5 => ⟨[1, 2, 8], [(6, 1), (7, 1)], [6, 7], .done, []⟩
  | 8 => ⟨[], [], [], .step 0 (.step 1 (.step 2 (.step 3 (.step 4 (.step 5 (.step 6 (.step 7 (.step 8 (.step 9 (.step 10 (.step 11 (.step 12 (.step 13 (.done)))))))))))))), [(1, [0]), (4, [2, 3]), (5, [2, 3, 4]), (6, [2, 3, 4, 5]), (9, [7, 8]), (10, [7, 8, 9]), (11, [7, 8, 9, 10]), (12, [0, 1, 2, 3, 4, 5, 6, 7, 8, 9, 10, 11]), (13, [0, 1, 2, 3, 4, 5, 6, 7, 8, 9, 10, 11, 12])]⟩
  | _ => ⟨[], [], [], .done, []⟩
def esc_spec_DiskWrite : Nat → Bool
  | _ => false
def vc_spec_DiskWrite (w0 : World) (a0 a1 a2 : Value) (σ : Vw) (R : Value → Vw → Prop) : Prop :=
  V true 1 a0 (AC P w0 n_spec_DiskOk ([.agg (⟨[C a0 0]⟩)]) σ fun v0 s1 => pUn .not v0 fun v2 => Q v2 (V true 1 (.agg (⟨[.slice none 0 0]⟩)) (R (.agg (⟨[.slice none 0 0]⟩)) s1)) (AC P w0 n_spec_l21Copy ([.agg (⟨[C a0 0]⟩)]) s1 fun v3 s4 => V true 1 v3 (pLoop (fun l5 K6 s7 => N (G l5 0) fun v8 => B P 3 .lss (G l5 2) v8 fun v9 => Q v9 (B P 3 .lss (G l5 2) (G l5 1) fun v10 => Q v10 (X 2 (G l5 0) (G l5 2) fun v11 => L w0 2 v11 s7 fun g12 => AC P w0 n_spec_l21RawOk ([.agg (⟨[g12 0, g12 1]⟩)]) s7 fun v13 s14 => Q v13 (X 2 (G l5 0) (G l5 2) fun v15 => F 0 v15 fun v16 => L w0 1 v16 s14 fun g17 => X 2 (G l5 0) (G l5 2) fun v18 => F 1 v18 fun v19 => L w0 1 v19 s14 fun g20 => X 1 (G l5 4) (g17 0) fun v21 => V false 1 (g20 0) (pStore v21 [g20 0] s14 fun s22 => B P 3 .add (G l5 2) (.int .i64 1) fun v23 => K6 .normal [G l5 0, G l5 1, v23, G l5 3, G l5 4] s22)) (B P 3 .add (G l5 2) (.int .i64 1) fun v24 => K6 .normal [G l5 0, G l5 1, v24, G l5 3, G l5 4] s14)) (K6 (.exit 0) [G l5 0, G l5 1, G l5 2, G l5 3, G l5 4] s7)) (K6 (.exit 0) [G l5 0, G l5 1, G l5 2, G l5 3, G l5 4] s7)) [a1, a2, .int .i64 0, .slice none 0 0, C v3 0] s4 fun x25 l26 s27 => match x25 with | .normal => V true 1 (.agg (⟨[G l26 4]⟩)) (R (.agg (⟨[G l26 4]⟩)) s27) | .ret => R (.agg (⟨[G l26 3]⟩)) s27 | .exit i28 => (match Nat.beq i28 0 with | true => V true 1 (.agg (⟨[G l26 4]⟩)) (R (.agg (⟨[G l26 4]⟩)) s27) | false => False))))
theorem vc_spec_DiskWrite_eq (w0 : World) (a0 a1 a2 : Value) (σ : Vw) (R : Value → Vw → Prop) : vc_spec_DiskWrite w0 a0 a1 a2 σ R = den Tryz.prog w0 kp_spec_DiskWrite esc_spec_DiskWrite (Tryz.f72.body.getD .skip) (entry Tryz.f72.ntmps [a0, a1, a2]) σ (retK Tryz.prog Tryz.f72.results.toList R) := by kernel_rfl
theorem ac_spec_DiskWrite {w0 : World} {a0 a1 a2 : Value} {σ : Vw} {R : Value → Vw → Prop} (h : vc_spec_DiskWrite w0 a0 a1 a2 σ R) : AC Tryz.prog w0 n_spec_DiskWrite [a0, a1, a2] σ R := by
  refine ac_rule (fn := Tryz.f72) (c := Tryz.f72.body.getD .skip) kp_spec_DiskWrite esc_spec_DiskWrite Tryz.func72 (by kernel_rfl) (by kernel_rfl) ?_
  rw [← vc_spec_DiskWrite_eq]
  exact h

/-- spec.l22Dec -/
def kp_spec_l22Dec : Nat → Keep
  | 7 => ⟨[], [], [], .step 0 (.step 1 (.step 3 (.step 4 (.step 5 (.step 6 (.both (.step 2 (.step 7 (.step 8 (.step 9 (.step 10 (.done)))))) (.step 7 (.step 8 (.step 2 (.step 9 (.step 10 (.done)))))))))))), [(1, [0]), (2, [0, 1]), (4, [3]), (5, [3, 4]), (6, [3, 4, 5]), (7, [3, 4, 5, 6]), (8, [3, 4, 5, 6, 7]), (9, [0, 1, 2, 3, 4, 5, 6, 7, 8]), (10, [0, 1, 2, 3, 4, 5, 6, 7, 8, 9])]⟩
  | _ => ⟨[], [], [], .done, []⟩
def esc_spec_l22Dec : Nat → Bool
  | 16 => true
  | 25 => true
  | _ => false
def vc_spec_l22Dec (w0 : World) (a0 : Value) (σ : Vw) (R : Value → Vw → Prop) : Prop :=
  B P 3 .lss a0 (.int .i64 (-9223372036854775807)) fun v0 => Q v0 (R (.string ({ data := #[45, 57, 50, 50, 51, 51, 55, 50, 48, 51, 54, 56, 53, 52, 55, 55, 53, 56, 48, 56] })) σ) (B P 3 .lss a0 (.int .i64 0) fun v1 => Q v1 (pUn .neg a0 fun v2 => AC P w0 n_spec_l22Dec [v2] σ fun v3 s4 => B P 9 .add (.string ({ data := #[45] })) v3 fun v5 => R v5 s4) (B P 3 .lss a0 (.int .i64 10) fun v6 => Q v6 (B P 3 .add (.int .i64 48) a0 fun v7 => pConvInt .u8 v7 fun v8 => V false 1 v8 (W w0 5 [v8] σ fun n9 s10 => pStr w0 (.slice (some (Addr.mk n9 0 none)) 1 1) s10 fun v11 => R v11 s10)) (B P 3 .quo a0 (.int .i64 10) fun v12 => B P 3 .rem a0 (.int .i64 10) fun v13 => B P 3 .add (.int .i64 48) v13 fun v14 => pConvInt .u8 v14 fun v15 => (AC P w0 n_spec_l22Dec [v12] σ fun v16 s17 => V false 1 v15 (W w0 5 [v15] s17 fun n18 s19 => pStr w0 (.slice (some (Addr.mk n18 0 none)) 1 1) s19 fun v20 => B P 9 .add v16 v20 fun v21 => R v21 s19)) ∧ (V false 1 v15 (W w0 5 [v15] σ fun n22 s23 => pStr w0 (.slice (some (Addr.mk n22 0 none)) 1 1) s23 fun v24 => AC P w0 n_spec_l22Dec [v12] s23 fun v25 s26 => (Ext s23 s26) ∧ (B P 9 .add v25 v24 fun v27 => R v27 s26))))))
theorem vc_spec_l22Dec_eq (w0 : World) (a0 : Value) (σ : Vw) (R : Value → Vw → Prop) : vc_spec_l22Dec w0 a0 σ R = den Tryz.prog w0 kp_spec_l22Dec esc_spec_l22Dec (Tryz.f73.body.getD .skip) (entry Tryz.f73.ntmps [a0]) σ (retK Tryz.prog Tryz.f73.results.toList R) := by kernel_rfl
theorem ac_spec_l22Dec {w0 : World} {a0 : Value} {σ : Vw} {R : Value → Vw → Prop} (h : vc_spec_l22Dec w0 a0 σ R) : AC Tryz.prog w0 n_spec_l22Dec [a0] σ R := by
  refine ac_rule (fn := Tryz.f73) (c := Tryz.f73.body.getD .skip) kp_spec_l22Dec esc_spec_l22Dec Tryz.func73 (by kernel_rfl) (by kernel_rfl) ?_
  rw [← vc_spec_l22Dec_eq]
  exact h

/-- spec.l24Blank -/
def kp_spec_l24Blank : Nat → Keep
  | 3 => ⟨[2], [(0, 1), (1, 1)], [0, 1], .done, []⟩
  | _ => ⟨[], [], [], .done, []⟩
def esc_spec_l24Blank : Nat → Bool
  | _ => false
def vc_spec_l24Blank (w0 : World) (σ : Vw) (R : Value → Vw → Prop) : Prop :=
  V true 1 (.agg (⟨[.slice none 0 0]⟩)) (pLoop (fun l0 K1 s2 => B P 3 .lss (G l0 0) (.int .i64 194) fun v3 => Q v3 (V false 1 (.string ({ data := #[] })) ((allOne ([.string ({ data := #[] })])) ∧ (A w0 9 1 16 (G l0 2) 1 ([.string ({ data := #[] })]) s2 fun v4 s5 => V false 1 v4 (B P 3 .add (G l0 0) (.int .i64 1) fun v6 => K1 .normal [v6, G l0 1, v4] s5)))) (K1 (.exit 0) [G l0 0, G l0 1, G l0 2] s2)) [.int .i64 0, .slice none 0 0, .slice none 0 0] σ fun x7 l8 s9 => match x7 with | .normal => V true 1 (.agg (⟨[G l8 2]⟩)) (R (.agg (⟨[G l8 2]⟩)) s9) | .ret => R (.agg (⟨[G l8 1]⟩)) s9 | .exit i10 => (match Nat.beq i10 0 with | true => V true 1 (.agg (⟨[G l8 2]⟩)) (R (.agg (⟨[G l8 2]⟩)) s9) | false => False))
theorem vc_spec_l24Blank_eq (w0 : World) (σ : Vw) (R : Value → Vw → Prop) : vc_spec_l24Blank w0 σ R = den Tryz.prog w0 kp_spec_l24Blank esc_spec_l24Blank (Tryz.f77.body.getD .skip) (entry Tryz.f77.ntmps []) σ (retK Tryz.prog Tryz.f77.results.toList R) := by kernel_rfl
theorem ac_spec_l24Blank {w0 : World} {σ : Vw} {R : Value → Vw → Prop} (h : vc_spec_l24Blank w0 σ R) : AC Tryz.prog w0 n_spec_l24Blank [] σ R := by
  refine ac_rule (fn := Tryz.f77) (c := Tryz.f77.body.getD .skip) kp_spec_l24Blank esc_spec_l24Blank Tryz.func77 (by kernel_rfl) (by kernel_rfl) ?_
  rw [← vc_spec_l24Blank_eq]
  exact h

/-- spec.l22Ok -/
def kp_spec_l22Ok : Nat → Keep
  | 3 => ⟨[2, 3, 4], [(1, 4)], [1], .done, []⟩
  | _ => ⟨[], [], [], .done, []⟩
def esc_spec_l22Ok : Nat → Bool
  | _ => false
def vc_spec_l22Ok (w0 : World) (a0 : Value) (σ : Vw) (R : Value → Vw → Prop) : Prop :=
  V true 4 a0 (pLoop (fun l0 K1 s2 => N (G l0 5) fun v3 => B P 3 .lss (G l0 2) v3 fun v4 => Q v4 (X 1 (G l0 5) (G l0 2) fun v5 => L w0 1 v5 s2 fun g6 => pLenS (g6 0) fun v7 => B P 3 .gtr v7 (.int .i64 600) fun v8 => Q v8 (K1 .ret [.bool false, G l0 1, G l0 2, G l0 3, G l0 4, G l0 5, G l0 6] s2) (X 1 (G l0 5) (G l0 2) fun v9 => L w0 1 v9 s2 fun g10 => AC P w0 n_spec_l22Blocks [g10 0] s2 fun v11 s12 => B P 3 .add (G l0 1) v11 fun v13 => B P 3 .add (G l0 2) (.int .i64 1) fun v14 => K1 .normal [G l0 0, v13, v14, G l0 3, G l0 4, G l0 5, G l0 6] s12)) (K1 (.exit 0) [G l0 0, G l0 1, G l0 2, G l0 3, G l0 4, G l0 5, G l0 6] s2)) [.bool false, .int .i64 0, .int .i64 0, C a0 0, C a0 1, C a0 2, C a0 3] σ fun x15 l16 s17 => match x15 with | .normal => AC P w0 n_spec_l21In [G l16 3, .int .i64 1, .int .i64 99999] s17 (fun v18 s19 => Q v18 (AC P w0 n_spec_l22TextOk [G l16 4] s19 fun v20 s21 => Q v20 (B P 3 .eql (G l16 1) (G l16 6) fun v22 => Q v22 (B P 3 .leq (G l16 1) (.int .i64 12) fun v23 => R v23 s21) (R (.bool false) s21)) (R (.bool false) s21)) (R (.bool false) s19)) | .ret => R (G l16 0) s17 | .exit i24 => (match Nat.beq i24 0 with | true => AC P w0 n_spec_l21In [G l16 3, .int .i64 1, .int .i64 99999] s17 (fun v25 s26 => Q v25 (AC P w0 n_spec_l22TextOk [G l16 4] s26 fun v27 s28 => Q v27 (B P 3 .eql (G l16 1) (G l16 6) fun v29 => Q v29 (B P 3 .leq (G l16 1) (.int .i64 12) fun v30 => R v30 s28) (R (.bool false) s28)) (R (.bool false) s28)) (R (.bool false) s26)) | false => False))
theorem vc_spec_l22Ok_eq (w0 : World) (a0 : Value) (σ : Vw) (R : Value → Vw → Prop) : vc_spec_l22Ok w0 a0 σ R = den Tryz.prog w0 kp_spec_l22Ok esc_spec_l22Ok (Tryz.f78.body.getD .skip) (entry Tryz.f78.ntmps [a0]) σ (retK Tryz.prog Tryz.f78.results.toList R) := by kernel_rfl
theorem ac_spec_l22Ok {w0 : World} {a0 : Value} {σ : Vw} {R : Value → Vw → Prop} (h : vc_spec_l22Ok w0 a0 σ R) : AC Tryz.prog w0 n_spec_l22Ok [a0] σ R := by
  refine ac_rule (fn := Tryz.f78) (c := Tryz.f78.body.getD .skip) kp_spec_l22Ok esc_spec_l22Ok Tryz.func78 (by kernel_rfl) (by kernel_rfl) ?_
  rw [← vc_spec_l22Ok_eq]
  exact h

/-- spec.l22Blocks -/
def kp_spec_l22Blocks : Nat → Keep
  | _ => ⟨[], [], [], .done, []⟩
def esc_spec_l22Blocks : Nat → Bool
  | _ => false
def vc_spec_l22Blocks (w0 : World) (a0 : Value) (σ : Vw) (R : Value → Vw → Prop) : Prop :=
  AC P w0 n_spec_l22Many [a0, .int .i64 63] σ fun v0 s1 => B P 3 .add (.int .i64 1) v0 fun v2 => R v2 s1
theorem vc_spec_l22Blocks_eq (w0 : World) (a0 : Value) (σ : Vw) (R : Value → Vw → Prop) : vc_spec_l22Blocks w0 a0 σ R = den Tryz.prog w0 kp_spec_l22Blocks esc_spec_l22Blocks (Tryz.f79.body.getD .skip) (entry Tryz.f79.ntmps [a0]) σ (retK Tryz.prog Tryz.f79.results.toList R) := by kernel_rfl
theorem ac_spec_l22Blocks {w0 : World} {a0 : Value} {σ : Vw} {R : Value → Vw → Prop} (h : vc_spec_l22Blocks w0 a0 σ R) : AC Tryz.prog w0 n_spec_l22Blocks [a0] σ R := by
  refine ac_rule (fn := Tryz.f79) (c := Tryz.f79.body.getD .skip) kp_spec_l22Blocks esc_spec_l22Blocks Tryz.func79 (by kernel_rfl) (by kernel_rfl) ?_
  rw [← vc_spec_l22Blocks_eq]
  exact h

/-- spec.l21RawOk -/
def kp_spec_l21RawOk : Nat → Keep
  | _ => ⟨[], [], [], .done, []⟩
def esc_spec_l21RawOk : Nat → Bool
  | _ => false
def vc_spec_l21RawOk (w0 : World) (a0 : Value) (σ : Vw) (R : Value → Vw → Prop) : Prop :=
  V true 2 a0 (AC P w0 n_spec_l21In [C a0 0, .int .i64 0, .int .i64 193] σ fun v0 s1 => Q v0 (pLenS (C a0 1) fun v2 => B P 3 .leq v2 (.int .i64 64) fun v3 => R v3 s1) (R (.bool false) s1))
theorem vc_spec_l21RawOk_eq (w0 : World) (a0 : Value) (σ : Vw) (R : Value → Vw → Prop) : vc_spec_l21RawOk w0 a0 σ R = den Tryz.prog w0 kp_spec_l21RawOk esc_spec_l21RawOk (Tryz.f80.body.getD .skip) (entry Tryz.f80.ntmps [a0]) σ (retK Tryz.prog Tryz.f80.results.toList R) := by kernel_rfl
theorem ac_spec_l21RawOk {w0 : World} {a0 : Value} {σ : Vw} {R : Value → Vw → Prop} (h : vc_spec_l21RawOk w0 a0 σ R) : AC Tryz.prog w0 n_spec_l21RawOk [a0] σ R := by
  refine ac_rule (fn := Tryz.f80) (c := Tryz.f80.body.getD .skip) kp_spec_l21RawOk esc_spec_l21RawOk Tryz.func80 (by kernel_rfl) (by kernel_rfl) ?_
  rw [← vc_spec_l21RawOk_eq]
  exact h

end Go.Proofs.YtlfnfpdipghdiaaGreatDoor

/- What each function owes, reckoned out, part 3. MADE BY PROGRAM (emit.py). -/
set_option linter.unusedVariables false
namespace Go.Proofs.YtlfnfpdipghdiaaGreatDoor
open Go Go.Av

end Go.Proofs.YtlfnfpdipghdiaaGreatDoor

/- What each function owes: all parts. MADE BY PROGRAM (emit.py). -/


/- The lists of texts: their size, their copy, their comparison. -/
set_option linter.unusedVariables false
set_option linter.unusedSimpArgs false
namespace Go.Proofs.YtlfnfpdipghdiaaGreatDoor
open Go Go.Av

section
variable {w0 : World} {σ : Vw}

end
end Go.Proofs.YtlfnfpdipghdiaaGreatDoor

/- The lists of texts: their copy, their comparison. -/
set_option linter.unusedVariables false
set_option linter.unusedSimpArgs false
namespace Go.Proofs.YtlfnfpdipghdiaaGreatDoor
open Go Go.Av

section
variable {w0 : World} {σ : Vw}


end
end Go.Proofs.YtlfnfpdipghdiaaGreatDoor

/- A disk's rows: the law 'DiskOk', of the functions alone. -/
set_option linter.unusedVariables false
set_option linter.unusedSimpArgs false
namespace Go.Proofs.YtlfnfpdipghdiaaGreatDoor
open Go Go.Av

section
variable {w0 : World} {σ : Vw}

def okD : List ByteArray → Bool
  | [] => true
  | s :: r => decide (s.size ≤ 64) && okD r
theorem okD_iff {xs : List ByteArray} : okD xs = true ↔ ∀ (j : Nat) (x : ByteArray), xs[j]? = some x → x.size ≤ 64 := by
  induction xs with
  | nil => simp [okD]
  | cons a r ih =>
    simp only [okD, Bool.and_eq_true, decide_eq_true_eq, ih]
    constructor
    · rintro ⟨h1, h2⟩ j x hj
      cases j with
      | zero => simp at hj; subst hj; exact h1
      | succ j => exact h2 j x (by simpa using hj)
    · intro h
      exact ⟨h 0 a rfl, fun j x hj => h (j + 1) x (by simpa using hj)⟩
def diskOk (xs : List ByteArray) : Bool := okD xs && decide (xs.length = 194)

theorem spec_DiskOk {v : Value} {xs : List ByteArray} (h : RSl 1 RS (Av.get w0 σ) v xs) {R : Value → Vw → Prop} (hR : R (.bool (diskOk xs)) σ) : AC Tryz.prog w0 n_spec_DiskOk [.agg ⟨[v]⟩] σ R := by
  refine ac_spec_DiskOk ?_
  unfold vc_spec_DiskOk
  rw [pVal_1 h.one]
  have hl := h.le
  refine loop_rule (m := xs.length) (fun m l s => ∃ j, s = σ ∧ m + j = xs.length ∧ (∀ (i : Nat) (x : ByteArray), i < j → xs[i]? = some x → x.size ≤ 64) ∧ l = [.bool false, .int .i64 (j : Nat), v]) ?_ ⟨0, rfl, by omega, fun i x h => by omega, rfl⟩
  rintro m l s L ⟨j, rfl, hm, ht, rfl⟩ hL
  simp only [vget, List.getD_cons_zero, List.getD_cons_succ]
  rw [h.len, pBin_lt, pIf_d]
  refine ⟨fun hj => ?_, fun hj => ?_⟩
  · have hj' : j < xs.length := by omega
    have hx := List.getElem?_eq_getElem hj'
    refine h.at hx fun g hg => ?_
    obtain ⟨hg, hs⟩ := hg
    simp only [expl, List.cons.injEq, and_true] at hg
    rw [hg, pLenS_s, pBin_gt, pIf_d]
    refine ⟨fun hgt => ?_, fun hle => ?_⟩
    · have : diskOk xs = false := by
        cases hc : okD xs with
        | false => simp [diskOk, hc]
        | true => have := okD_iff.1 hc j _ hx; omega
      rw [this] at hR; exact hR
    · rw [pBin_add (by omega)]
      refine hL _ _ (m - 1) (by omega) ⟨j + 1, rfl, by omega, fun i x hi he => ?_, rfl⟩
      by_cases e : i = j
      · subst e; rw [hx] at he; cases he; omega
      · exact ht i x (by omega) he
  · have hj' : j = xs.length := by omega
    subst hj'
    show pLen v _
    rw [h.len, pBin_eq]
    have : diskOk xs = decide ((xs.length : Int) = 194) := by
      have h1 : okD xs = true := okD_iff.2 fun i x he => ht i x (List.getElem?_eq_some_iff.1 he).1 he
      simp only [diskOk, h1, Bool.true_and]
      congr 1
      apply propext
      omega
    rw [this] at hR
    exact hR

theorem impl_DiskOk {v : Value} {xs : List ByteArray} (h : RSl 1 RS (Av.get w0 σ) v xs) {R : Value → Vw → Prop} (hR : R (.bool (diskOk xs)) σ) : AC Tryz.prog w0 n_impl_DiskOk [.agg ⟨[v]⟩] σ R := by
  refine ac_impl_DiskOk ?_
  unfold vc_impl_DiskOk
  have hl := h.le
  rw [pVal_1 h.one]
  simp only [cellOf_agg, List.getD_cons_zero]
  rw [h.len]
  refine loop_rule (m := xs.length) (fun m l s => ∃ j, s = σ ∧ m + j = xs.length ∧ (∀ (i : Nat) (x : ByteArray), i < j → xs[i]? = some x → x.size ≤ 64) ∧ l = [.bool false, v, .int .i64 xs.length, .int .i64 (j : Nat), v]) ?_ ⟨0, rfl, by omega, fun i x h => by omega, rfl⟩
  rintro m l s L ⟨j, rfl, hm, ht, rfl⟩ hL
  simp only [vget, List.getD_cons_zero, List.getD_cons_succ]
  rw [pBin_lt, pIf_d]
  refine ⟨fun hj => ?_, fun hj => ?_⟩
  · have hj' : j < xs.length := by omega
    have hx := List.getElem?_eq_getElem hj'
    refine h.at hx fun g hg => ?_
    obtain ⟨hg, hs⟩ := hg
    simp only [expl, List.cons.injEq, and_true] at hg
    rw [hg, pLenS_s, pBin_gt, pIf_d]
    refine ⟨fun hgt => ?_, fun hle => ?_⟩
    · have : diskOk xs = false := by
        cases hc : okD xs with
        | false => simp [diskOk, hc]
        | true => have := okD_iff.1 hc j _ hx; omega
      rw [this] at hR; exact hR
    · rw [pBin_add (by omega)]
      refine hL _ _ (m - 1) (by omega) ⟨j + 1, rfl, by omega, fun i x hi he => ?_, rfl⟩
      by_cases e : i = j
      · subst e; rw [hx] at he; cases he; omega
      · exact ht i x (by omega) he
  · have hj' : j = xs.length := by omega
    subst hj'
    show pLen v _
    rw [h.len, pBin_eq]
    have : diskOk xs = decide ((xs.length : Int) = 194) := by
      have h1 : okD xs = true := okD_iff.2 fun i x he => ht i x (List.getElem?_eq_some_iff.1 he).1 he
      simp only [diskOk, h1, Bool.true_and]
      congr 1
      apply propext
      omega
    rw [this] at hR
    exact hR

end
end Go.Proofs.YtlfnfpdipghdiaaGreatDoor

/- The lists of texts in rows of their own; marks (a path and a bool) and their lists: size, copy, comparison. -/
set_option linter.unusedVariables false
set_option linter.unusedSimpArgs false
namespace Go.Proofs.YtlfnfpdipghdiaaGreatDoor
open Go Go.Av

/-- A text needs no row. -/
def OStr (σ : Vw) (F : List Nat) (es : List Value) (s : ByteArray) : Prop := F = [] ∧ es = [.string s] ∧ s.size ≤ 9223372036854775807

section
variable {w0 : World} {σ : Vw}

theorem ok_str (w0 : World) : OOk w0 1 RS OStr := by
  refine ⟨?_, ?_, ?_, ?_, ?_, ?_⟩
  · rintro σ F es x ⟨_, h1, h2⟩; exact ⟨h1, h2⟩
  · rintro σ σ' F es x h _; exact h
  · rintro σ F es x ⟨rfl, _, _⟩ b hb; cases hb
  · rintro σ F es x ⟨rfl, _, _⟩; exact List.nodup_nil
  · rintro σ F es x ⟨_, rfl, _⟩; rfl
  · rintro σ F es x ⟨_, rfl, _⟩ c hc; rw [List.mem_singleton.1 hc]; rfl

abbrev OStrs (w0 : World) := OSl w0 1 OStr
theorem flat_strs (xs : List ByteArray) : xs.map Value.string = (xs.map fun s => [Value.string s]).flatten := by
  induction xs with
  | nil => rfl
  | cons a r ih => simp [ih]

theorem OSl.one' {α : Type} {n : Nat} {O : Vw → List Nat → List Value → α → Prop} {F : List Nat} {v : Value} {xs : List α} (h : OSl w0 n O σ F v xs) : v.oneCell' = true := by
  obtain ⟨_, _, ⟨rfl, _⟩ | ⟨_, _, _, _, _, _, _, _, rfl, _⟩⟩ := h <;> rfl

end
end Go.Proofs.YtlfnfpdipghdiaaGreatDoor

/- Names: their letters and their length. -/
set_option linter.unusedVariables false
set_option linter.unusedSimpArgs false
namespace Go.Proofs.YtlfnfpdipghdiaaGreatDoor
open Go Go.Av

theorem pIndexStr_s {s : ByteArray} {j : Nat} {K : Value → Prop} (h : j < s.size) (hK : K (.int .u8 ((s[j]'h).toNat : Int))) : pIndexStr (.string s) (.int .i64 j) K :=
  ⟨s, .i64, j, rfl, rfl, by omega, h, hK⟩

/-- Within two bounds. -/
def inB (n lo hi : Int) : Bool := decide (lo ≤ n ∧ n ≤ hi)
section
variable {w0 : World} {σ : Vw}

theorem impl_within {n lo hi : Int} {R : Value → Vw → Prop} (hR : R (.bool (inB n lo hi)) σ) : AC Tryz.prog w0 n_impl_within [.int .i64 n, .int .i64 lo, .int .i64 hi] σ R := by
  refine ac_impl_within ?_
  unfold vc_impl_within
  rw [pBin_ge, pIf_d]
  refine ⟨fun h => ?_, fun h => ?_⟩
  · rw [pBin_le]
    have : inB n lo hi = decide (n ≤ hi) := by simp [inB, h]
    rw [this] at hR; exact hR
  · have : inB n lo hi = false := by simp [inB, h]
    rw [this] at hR; exact hR

end
end Go.Proofs.YtlfnfpdipghdiaaGreatDoor

/- Marks of texts. -/
set_option linter.unusedVariables false
set_option linter.unusedSimpArgs false
namespace Go.Proofs.YtlfnfpdipghdiaaGreatDoor
open Go Go.Av

section
variable {w0 : World} {σ : Vw}

end
end Go.Proofs.YtlfnfpdipghdiaaGreatDoor

/- Writes of a disk: the law 'DiskWrite', of the functions alone. -/
set_option linter.unusedVariables false
set_option linter.unusedSimpArgs false
namespace Go.Proofs.YtlfnfpdipghdiaaGreatDoor
open Go Go.Av

abbrev Rw := Int × ByteArray
def encRaw (x : Rw) : List Value := [.int .i64 x.1, .string x.2]
def goodRaw (x : Rw) : Prop := (-9223372036854775808 ≤ x.1 ∧ x.1 ≤ 9223372036854775807) ∧ x.2.size ≤ 9223372036854775807
abbrev RRaw := RFl encRaw goodRaw
abbrev ORaw := OFl encRaw goodRaw
theorem ok_raw (w0 : World) : OOk w0 2 RRaw ORaw := ok_fl (n := 2) (enc := encRaw) (good := goodRaw) (fun _ => rfl) (fun x c h => by simp [encRaw] at h; rcases h with rfl | rfl <;> rfl) w0
section
variable {w0 : World} {σ : Vw}

end
end Go.Proofs.YtlfnfpdipghdiaaGreatDoor

/- The law 'DiskWrite', of the functions alone. -/
set_option linter.unusedVariables false
set_option linter.unusedSimpArgs false
namespace Go.Proofs.YtlfnfpdipghdiaaGreatDoor
open Go Go.Av

/-- One write. -/
def setD (bs : List ByteArray) (x : Rw) : List ByteArray := if inB x.1 0 193 = true ∧ x.2.size ≤ 64 then bs.set x.1.toNat x.2 else bs
def runD (bs : List ByteArray) (xs : List Rw) : List ByteArray := xs.foldl setD bs
theorem runD_len (bs : List ByteArray) (xs : List Rw) : (runD bs xs).length = bs.length := by
  induction xs generalizing bs with
  | nil => rfl
  | cons x r ih =>
    have : runD bs (x :: r) = runD (setD bs x) r := rfl
    rw [this, ih]
    unfold setD; split
    · rw [List.length_set]
    · rfl
def cutN (cut : Int) (n : Nat) : Nat := (min (max cut 0) n).toNat
def writeD (bs : List ByteArray) (xs : List Rw) (cut : Int) : List ByteArray := if diskOk bs = true then runD bs (xs.take (cutN cut xs.length)) else []

section
variable {w0 : World} {σ : Vw}

theorem take_all {xs : List Rw} {bs : List ByteArray} {j : Nat} {x : Rw} (hj : xs[j]? = some x) : runD bs (xs.take (j + 1)) = setD (runD bs (xs.take j)) x := foldl_take hj

theorem spec_Copy {v : Value} {xs : List ByteArray} (h : RSl 1 RS (Av.get w0 σ) v xs) (hl : xs.length ≤ 1000000000) {R : Value → Vw → Prop}
    (hR : ∀ v' F σ', Keeps σ σ' → OAcc w0 t_string 1 OStr σ' F v' xs → (∀ b, b ∈ F → σ b = none) → R (.agg ⟨[v']⟩) σ') : AC Tryz.prog w0 n_spec_l21Copy [.agg ⟨[v]⟩] σ R := by
  refine ac_spec_l21Copy ?_
  unfold vc_spec_l21Copy
  rw [pVal_1 h.one]
  intro b h1 h2
  have ha := OAcc.new (w0 := w0) (σ := σ) (ety := t_string) (n := 1) (O := OStr) h1
  refine ha.all (ok_str w0) h (Keeps.put h2).le (fun es y hy => ⟨rfl, hy⟩) (by simp; omega) (by omega) fun v' F' σ' k1 o1 f1 => ?_
  rw [pVal1 (OSl.one' o1.osl), pVal_1 (OSl.one' o1.osl)]
  have hf : ∀ i, i ∈ F' → σ i = none := fun i hi => by
    rcases f1 i hi with e | e
    · rw [List.mem_singleton.1 e]; exact h2
    · cases hs : σ i with
      | none => rfl
      | some r => rw [Keeps.put h2 i r hs] at e; cases e
  exact hR v' F' σ' (k1.old (Keeps.put h2) (fun i hi => by rw [List.mem_singleton.1 hi]; exact h2)) o1 hf

theorem impl_clone {v : Value} {xs : List ByteArray} (h : RSl 1 RS (Av.get w0 σ) v xs) (hl : xs.length ≤ 1000000000) {R : Value → Vw → Prop}
    (hR : ∀ v' F σ', Keeps σ σ' → OAcc w0 t_string 1 OStr σ' F v' xs → (∀ b, b ∈ F → σ b = none) → R (.agg ⟨[v']⟩) σ') : AC Tryz.prog w0 n_impl_cloneDisk [.agg ⟨[v]⟩] σ R := by
  refine ac_impl_cloneDisk ?_
  unfold vc_impl_cloneDisk
  rw [pVal_1 h.one]
  intro b h1 h2
  have ha := OAcc.new (w0 := w0) (σ := σ) (ety := t_string) (n := 1) (O := OStr) h1
  refine ha.all (ok_str w0) h (Keeps.put h2).le (fun es y hy => ⟨rfl, hy⟩) (by simp; omega) (by omega) fun v' F' σ' k1 o1 f1 => ?_
  rw [pVal1 (OSl.one' o1.osl), pVal_1 (OSl.one' o1.osl)]
  have hf : ∀ i, i ∈ F' → σ i = none := fun i hi => by
    rcases f1 i hi with e | e
    · rw [List.mem_singleton.1 e]; exact h2
    · cases hs : σ i with
      | none => rfl
      | some r => rw [Keeps.put h2 i r hs] at e; cases e
  exact hR v' F' σ' (k1.old (Keeps.put h2) (fun i hi => by rw [List.mem_singleton.1 hi]; exact h2)) o1 hf

/-- A text of a list of our own is written. -/
theorem str_store {F : List Nat} {v : Value} {xs : List ByteArray} (h : OStrs w0 σ F v xs) {j : Nat} {x y : ByteArray} (hj : xs[j]? = some x) (hy : y.size ≤ 9223372036854775807) {K : Vw → Prop}
    (hK : ∀ σ', KeepsBut F σ σ' → OStrs w0 σ' F v (xs.set j y) → K σ') : pIndexAddr 1 v (.int .i64 j) fun p => pVal false 1 (.string y) (pStore p [.string y] σ K) := by
  obtain ⟨b, o, f, c, A, C, r, hix, hb, hr, hc, hA, hOx, hbF, hf, hput⟩ := h.focus (ok_str w0) hj
  obtain ⟨rfl, rfl, hsz⟩ := hOx
  refine hix _ ?_
  refine elem_store hr hc hA rfl ?_
  exact hK _ (KeepsBut.put hbF) (hput _ [.string y] y _ put_at rfl ⟨rfl, rfl, hy⟩ fun i hi hne _ => by simp [Vw.put, hne])

theorem spec_RawOk {es : List Value} {x : Rw} {R : Value → Vw → Prop} (h : RRaw (Av.get w0 σ) es x) (hR : R (.bool (inB x.1 0 193 && decide (x.2.size ≤ 64))) σ) : AC Tryz.prog w0 n_spec_l21RawOk [.agg ⟨es⟩] σ R := by
  obtain ⟨rfl, hg⟩ := h
  refine ac_spec_l21RawOk ?_
  unfold vc_spec_l21RawOk
  rw [encRaw, pVal_2 rfl rfl]
  simp only [cellOf_agg, List.getD_cons_zero, List.getD_cons_succ]
  refine ac_spec_l21In ?_
  unfold vc_spec_l21In
  rw [pBin_ge, pIf_d]
  have fin : ∀ b : Bool, b = inB x.1 0 193 → pIf (.bool b) (pLenS (.string x.2) (fun v2 => pBin Tryz.prog 3 .leq v2 (.int .i64 64) (fun v3 => R v3 σ))) (R (.bool false) σ) := by
    rintro b rfl
    rw [pIf_b, pLenS_s, pBin_le]
    refine ⟨fun h => ?_, fun h => ?_⟩
    · rw [h] at hR
      have e : decide ((x.2.size : Int) ≤ 64) = decide (x.2.size ≤ 64) := by congr 1; apply propext; omega
      rw [e]; simpa using hR
    · rw [h] at hR; simpa using hR
  refine ⟨fun h => ?_, fun h => ?_⟩
  · rw [pBin_le]; exact fin _ (by simp [inB, h])
  · exact fin _ (by simp [inB, h])

theorem spec_DiskWrite {v u : Value} {bs : List ByteArray} {xs : List Rw} {cut : Int} (h : RSl 1 RS (Av.get w0 σ) v bs) (hu : RSl 2 RRaw (Av.get w0 σ) u xs) {R : Value → Vw → Prop}
    (hR : ∀ v' F σ', Keeps σ σ' → OStrs w0 σ' F v' (writeD bs xs cut) → (∀ b, b ∈ F → σ b = none) → R (.agg ⟨[v']⟩) σ') : AC Tryz.prog w0 n_spec_DiskWrite [.agg ⟨[v]⟩, u, .int .i64 cut] σ R := by
  refine ac_spec_DiskWrite ?_
  unfold vc_spec_DiskWrite
  have hl := h.le
  have hul := hu.le
  rw [pVal_1 h.one]
  simp only [cellOf_agg, List.getD_cons_zero, List.getD_cons_succ]
  refine spec_DiskOk h ?_
  rw [pUn_not, pIf_b]
  refine ⟨fun hn => ?_, fun hok => ?_⟩
  · rw [pVal_1 rfl]
    have : diskOk bs = false := by simpa using hn
    have e : writeD bs xs cut = [] := by simp [writeD, this]
    rw [e] at hR
    exact hR _ [] σ (Keeps.refl σ) ⟨by simp, by simp, .inl ⟨rfl, rfl, rfl⟩⟩ (by simp)
  · have hok' : diskOk bs = true := by simpa using hok
    have hlen : bs.length = 194 := by simp [diskOk] at hok'; exact hok'.2
    have e : writeD bs xs cut = runD bs (xs.take (cutN cut xs.length)) := by simp [writeD, hok']
    rw [e] at hR
    refine spec_Copy h (by omega) fun v1 F1 s1 k1 o1 f1 => ?_
    rw [pVal_1 (OSl.one' o1.osl)]
    have fin : ∀ (s : Vw), Keeps σ s → OStrs w0 s F1 v1 (runD bs (xs.take (cutN cut xs.length))) → pVal true 1 (.agg ⟨[v1]⟩) (R (.agg ⟨[v1]⟩) s) := fun s ks os => by
      rw [pVal_1 (OSl.one' os)]; exact hR v1 F1 s ks os f1
    refine loop_rule (m := cutN cut xs.length) (fun c l s => ∃ j : Nat, c + j = cutN cut xs.length ∧ Keeps σ s ∧ OStrs w0 s F1 v1 (runD bs (xs.take j)) ∧ l = [u, .int .i64 cut, .int .i64 (j : Nat), .slice none 0 0, v1]) ?_ ⟨0, by omega, k1, by simpa [runD] using o1.osl, rfl⟩
    rintro c l s L ⟨j, hc, ks, os, rfl⟩ hL
    have hcut : cutN cut xs.length = (min (max cut 0) xs.length).toNat := rfl
    simp only [vget, List.getD_cons_zero, List.getD_cons_succ]
    have hu' := hu.mono ks.le fun _ _ h => h
    rw [hu'.len, pBin_lt, pIf_d]
    refine ⟨fun hj => ?_, fun hj => ?_⟩
    · rw [pBin_lt, pIf_d]
      refine ⟨fun hj2 => ?_, fun hj2 => ?_⟩
      · have hx := List.getElem?_eq_getElem (show j < xs.length by omega)
        generalize hxj : xs[j] = x at hx
        have ht := take_all (bs := bs) hx
        refine hu'.at hx fun g hg => ?_
        refine spec_RawOk hg ?_
        rw [pIf_b]
        have next : ∀ s', KeepsBut F1 s s' → OStrs w0 s' F1 v1 (setD (runD bs (xs.take j)) x) → pBin Tryz.prog 3 .add (.int .i64 (j : Nat)) (.int .i64 1) (fun v => L [u, .int .i64 cut, v, .slice none 0 0, v1] s') := fun s' k' o' => by
          rw [pBin_add (by omega)]
          rw [← ht] at o'
          exact hL _ _ (c - 1) (by omega) ⟨j + 1, by omega, k'.old ks f1, o', by simp⟩
        refine ⟨fun hg2 => ?_, fun hg2 => ?_⟩
        · simp only [Bool.and_eq_true, decide_eq_true_eq] at hg2
          refine hu'.atf hx 0 (by omega) fun es1 g1 hes1 hg1 => ?_
          refine hu'.atf hx 1 (by omega) fun es2 g2 hes2 hg2' => ?_
          obtain ⟨rfl, _⟩ := hes1
          obtain ⟨rfl, hgood⟩ := hes2
          simp only [encRaw, List.getElem?_cons_zero, List.getElem?_cons_succ, Option.some.injEq] at hg1 hg2'
          rw [← hg1, ← hg2']
          have hr : 0 ≤ x.1 ∧ x.1 ≤ 193 := by have := hg2.1; simpa [inB] using this
          obtain ⟨n, hn⟩ : ∃ n : Nat, x.1 = n := ⟨x.1.toNat, by omega⟩
          rw [hn]
          have hn' : n < (runD bs (xs.take j)).length := by rw [runD_len]; omega
          refine str_store os (List.getElem?_eq_getElem hn') hgood.2 fun s' k' o' => next s' k' ?_
          have : setD (runD bs (xs.take j)) x = (runD bs (xs.take j)).set n x.2 := by
            unfold setD; rw [if_pos hg2, hn]; rfl
          rw [this]; exact o'
        · refine next s (KeepsBut.refl _ _) ?_
          have : setD (runD bs (xs.take j)) x = runD bs (xs.take j) := by
            unfold setD; rw [if_neg]; simpa using hg2
          rw [this]; exact os
      · have : j = cutN cut xs.length := by omega
        subst this
        exact fin s ks os
    · have : j = cutN cut xs.length := by omega
      subst this
      exact fin s ks os

theorem impl_DiskWrite {v u : Value} {bs : List ByteArray} {xs : List Rw} {cut : Int} (h : RSl 1 RS (Av.get w0 σ) v bs) (hu : RSl 2 RRaw (Av.get w0 σ) u xs) {R : Value → Vw → Prop}
    (hR : ∀ v' F σ', Keeps σ σ' → OStrs w0 σ' F v' (writeD bs xs cut) → (∀ b, b ∈ F → σ b = none) → R (.agg ⟨[v']⟩) σ') : AC Tryz.prog w0 n_impl_DiskWrite [.agg ⟨[v]⟩, u, .int .i64 cut] σ R := by
  refine ac_impl_DiskWrite ?_
  unfold vc_impl_DiskWrite
  have hl := h.le
  have hul := hu.le
  rw [pVal_1 h.one]
  simp only [cellOf_agg, List.getD_cons_zero, List.getD_cons_succ]
  refine impl_DiskOk h ?_
  rw [pUn_not, pIf_b]
  refine ⟨fun hn => ?_, fun hok => ?_⟩
  · rw [pVal_1 rfl]
    have : diskOk bs = false := by simpa using hn
    have e : writeD bs xs cut = [] := by simp [writeD, this]
    rw [e] at hR
    exact hR _ [] σ (Keeps.refl σ) ⟨by simp, by simp, .inl ⟨rfl, rfl, rfl⟩⟩ (by simp)
  · have hok' : diskOk bs = true := by simpa using hok
    have hlen : bs.length = 194 := by simp [diskOk] at hok'; exact hok'.2
    have e : writeD bs xs cut = runD bs (xs.take (cutN cut xs.length)) := by simp [writeD, hok']
    rw [e] at hR
    refine impl_clone h (by omega) fun v1 F1 s1 k1 o1 f1 => ?_
    rw [pVal_1 (OSl.one' o1.osl), pMax_s]
    have hu1 := hu.mono k1.le fun _ _ h => h
    rw [hu1.len, pMin_s]
    have hcut : (min (max cut 0) (xs.length : Int)) = ((cutN cut xs.length : Nat) : Int) := by unfold cutN; omega
    rw [hcut]
    refine hu.slice (l := 0) (u := cutN cut xs.length) rfl rfl (by omega) (by unfold cutN; omega) fun u2 hu2 => ?_
    rw [List.drop_zero] at hu2
    have hlen2 : (xs.take (cutN cut xs.length)).length = cutN cut xs.length := by rw [List.length_take]; unfold cutN; omega
    rw [hu2.len, hlen2]
    have fin : ∀ (s : Vw), Keeps σ s → OStrs w0 s F1 v1 (runD bs (xs.take (cutN cut xs.length))) → pVal true 1 (.agg ⟨[v1]⟩) (R (.agg ⟨[v1]⟩) s) := fun s ks os => by
      rw [pVal_1 (OSl.one' os)]; exact hR v1 F1 s ks os f1
    refine loop_rule (m := cutN cut xs.length) (fun c l s => ∃ j : Nat, c + j = cutN cut xs.length ∧ Keeps σ s ∧ Keeps s1 s1 ∧ KeepsBut F1 s1 s ∧ OStrs w0 s F1 v1 (runD bs (xs.take j)) ∧ l = [u2, .int .i64 (cutN cut xs.length : Nat), .int .i64 (j : Nat), .slice none 0 0, v1]) ?_ ⟨0, by omega, k1, Keeps.refl _, KeepsBut.refl _ _, by simpa [runD] using o1.osl, rfl⟩
    rintro c l s L ⟨j, hc, ks, _, kb, os, rfl⟩ hL
    simp only [vget, List.getD_cons_zero, List.getD_cons_succ]
    rw [pBin_lt, pIf_d]
    refine ⟨fun hj => ?_, fun hj => ?_⟩
    · have hjx : j < xs.length := by unfold cutN at hj; omega
      have hx := List.getElem?_eq_getElem hjx
      generalize hxj : xs[j] = x at hx
      have ht := take_all (bs := bs) hx
      have hx2 : (xs.take (cutN cut xs.length))[j]? = some x := by rw [List.getElem?_take_of_lt (by omega)]; exact hx
      have next : ∀ s', KeepsBut F1 s s' → OStrs w0 s' F1 v1 (setD (runD bs (xs.take j)) x) → pBin Tryz.prog 3 .add (.int .i64 (j : Nat)) (.int .i64 1) (fun v => L [u2, .int .i64 (cutN cut xs.length : Nat), v, .slice none 0 0, v1] s') := fun s' k' o' => by
        rw [pBin_add (by omega)]
        rw [← ht] at o'
        exact hL _ _ (c - 1) (by omega) ⟨j + 1, by omega, k'.old ks f1, Keeps.refl _, kb.trans k', o', by simp⟩
      have no : ¬ (inB x.1 0 193 = true ∧ x.2.size ≤ 64) → pBin Tryz.prog 3 .add (.int .i64 (j : Nat)) (.int .i64 1) (fun v => L [u2, .int .i64 (cutN cut xs.length : Nat), v, .slice none 0 0, v1] s) := fun hn => by
        refine next s (KeepsBut.refl _ _) ?_
        have : setD (runD bs (xs.take j)) x = runD bs (xs.take j) := by unfold setD; rw [if_neg hn]
        rw [this]; exact os
      have hus := hu2.mono ks.le fun _ _ h => h
      refine hus.at hx2 fun g hg => ?_
      obtain ⟨hg, hgood⟩ := hg
      simp only [expl, encRaw, List.cons.injEq, and_true] at hg
      obtain ⟨g0, g1⟩ := hg
      rw [g0, g1, pVal_2 rfl rfl]
      refine impl_within ?_
      rw [pIf_b]
      refine ⟨fun hin => ?_, fun hin => no fun hh => by rw [hh.1] at hin; cases hin⟩
      rw [pLenS_s, pBin_le, pIf_d]
      refine ⟨fun hsz => ?_, fun hsz => no fun hh => by omega⟩
      have hr : 0 ≤ x.1 ∧ x.1 ≤ 193 := by simpa [inB] using hin
      obtain ⟨n, hn⟩ : ∃ n : Nat, x.1 = n := ⟨x.1.toNat, by omega⟩
      rw [hn]
      have hn' : n < (runD bs (xs.take j)).length := by rw [runD_len]; omega
      refine str_store os (List.getElem?_eq_getElem hn') hgood.2 fun s' k' o' => next s' k' ?_
      have : setD (runD bs (xs.take j)) x = (runD bs (xs.take j)).set n x.2 := by
        unfold setD; rw [if_pos ⟨hin, by omega⟩, hn]; rfl
      rw [this]; exact o'
    · have : j = cutN cut xs.length := by omega
      subst this
      exact fin s ks os
end
end Go.Proofs.YtlfnfpdipghdiaaGreatDoor

/-
  DERIVED: THE SHELF's CONTRACTS AT THIS DUMP, IN PLAIN WORDS (tools/lay-plain.mjs out of 'TryzShelf.lean', which tools/lay-shelf.mjs wrote): THE SAME DECLARATIONS UNDER THE SAME NAMES: 'import', 'namespace', 'open', 'def', 'theorem' AND NOTHING ELSE: no command of the shelf's: FOR A HAND-IN. Each laying: the table of numbers ('.._ren') and one theorem, a field a fact of the dump's own or the kernel's comparison; each contract: ONE APPLICATION.
-/
namespace Go.Proofs
open Go.Shelf
def Tryz.lays172_ren : Go.Shelf.Ren := ⟨fun | 172 => 75 | 244 => 84 | 245 => 85 | 247 => 91 | 279 => 92 | 280 => 93 | 281 => 94 | 282 => 95 | 287 => 105 | 316 => 106 | 171 => 65 | 205 => 107 | 321 => 115 | 322 => 116 | 243 => 76 | 246 => 86 | 283 => 96 | 284 => 97 | 285 => 98 | 286 => 99 | 129 => 109 | 317 => 108 | 318 => 110 | 319 => 111 | 320 => 112 | 337 => 117 | 338 => 118 | n => n, fun | 9 => 9 | 3 => 3 | 75 => 95 | 76 => 96 | 4 => 4 | 5 => 5 | 167 => 107 | 37 => 22 | 0 => 0 | 85 => 108 | 2 => 2 | 168 => 110 | 53 => 114 | 175 => 120 | 46 => 119 | 210 => 124 | 127 => 139 | 145 => 142 | 143 => 140 | 21 => 21 | 171 => 113 | 173 => 117 | 212 => 127 | 51 => 128 | 20 => 20 | 213 => 129 | 232 => 144 | 233 => 145 | 80 => 146 | n => n, fun | 15 => 1 | 16 => 2 | 17 => 3 | 18 => 6 | 19 => 7 | n => n⟩
def Tryz.laysM246_ren : Go.Shelf.Ren := ⟨fun | 246 => 86 | 283 => 96 | 284 => 97 | 285 => 98 | 286 => 99 | 129 => 109 | 317 => 108 | 318 => 110 | 319 => 111 | 320 => 112 | 337 => 117 | 338 => 118 | n => n, fun | 2 => 2 | 3 => 3 | 9 => 9 | 4 => 4 | 171 => 113 | 0 => 0 | 53 => 114 | 37 => 22 | 5 => 5 | 173 => 117 | 212 => 127 | 51 => 128 | 20 => 20 | 213 => 129 | 46 => 119 | 232 => 144 | 233 => 145 | n => n, fun | 17 => 3 | 18 => 6 | 19 => 7 | n => n⟩
def Tryz.laysM243_ren : Go.Shelf.Ren := ⟨fun | 243 => 76 | 246 => 86 | 283 => 96 | 284 => 97 | 285 => 98 | 286 => 99 | 129 => 109 | 317 => 108 | 318 => 110 | 319 => 111 | 320 => 112 | 337 => 117 | 338 => 118 | n => n, fun | 3 => 3 | 9 => 9 | 2 => 2 | 4 => 4 | 171 => 113 | 0 => 0 | 53 => 114 | 37 => 22 | 5 => 5 | 173 => 117 | 212 => 127 | 51 => 128 | 20 => 20 | 213 => 129 | 46 => 119 | 232 => 144 | 233 => 145 | n => n, fun | 17 => 3 | 18 => 6 | 19 => 7 | n => n⟩
def Tryz.laysM171_ren : Go.Shelf.Ren := ⟨fun | 171 => 65 | 243 => 76 | 246 => 86 | 283 => 96 | 284 => 97 | 285 => 98 | 286 => 99 | 129 => 109 | 317 => 108 | 318 => 110 | 319 => 111 | 320 => 112 | 337 => 117 | 338 => 118 | n => n, fun | 3 => 3 | 9 => 9 | 2 => 2 | 4 => 4 | 171 => 113 | 0 => 0 | 53 => 114 | 37 => 22 | 5 => 5 | 173 => 117 | 212 => 127 | 51 => 128 | 20 => 20 | 213 => 129 | 46 => 119 | 232 => 144 | 233 => 145 | n => n, fun | 17 => 3 | 18 => 6 | 19 => 7 | n => n⟩
theorem Tryz.laysM171 : Go.Proofs.LaysM.n171 Tryz.prog Tryz.laysM171_ren := {
  mixed := by kernel_rfl
  f129 := Tryz.func109.trans (congrArg some (by kernel_rfl))
  f171 := Tryz.func65.trans (congrArg some (by kernel_rfl))
  f243 := Tryz.func76.trans (congrArg some (by kernel_rfl))
  f246 := Tryz.func86.trans (congrArg some (by kernel_rfl))
  f283 := Tryz.func96.trans (congrArg some (by kernel_rfl))
  f284 := Tryz.func97.trans (congrArg some (by kernel_rfl))
  f285 := Tryz.func98.trans (congrArg some (by kernel_rfl))
  f286 := Tryz.func99.trans (congrArg some (by kernel_rfl))
  f317 := Tryz.func108.trans (congrArg some (by kernel_rfl))
  f318 := Tryz.func110.trans (congrArg some (by kernel_rfl))
  f319 := Tryz.func111.trans (congrArg some (by kernel_rfl))
  f320 := Tryz.func112.trans (congrArg some (by kernel_rfl))
  f337 := Tryz.func117.trans (congrArg some (by kernel_rfl))
  f338 := Tryz.func118.trans (congrArg some (by kernel_rfl))
  t0 := Tryz.underlying0
  a0 := Tryz.isAgg0
  z0 := Tryz.sizeOf0
  v0 := Tryz.zeroValue0
  t2 := Tryz.underlying2
  a2 := Tryz.isAgg2
  z2 := Tryz.sizeOf2
  v2 := Tryz.zeroValue2
  t3 := Tryz.underlying3
  a3 := Tryz.isAgg3
  z3 := Tryz.sizeOf3
  v3 := Tryz.zeroValue3
  t4 := Tryz.underlying4
  a4 := Tryz.isAgg4
  z4 := Tryz.sizeOf4
  v4 := Tryz.zeroValue4
  t5 := Tryz.underlying5
  a5 := Tryz.isAgg5
  z5 := Tryz.sizeOf5
  v5 := Tryz.zeroValue5
  t9 := Tryz.underlying9
  a9 := Tryz.isAgg9
  z9 := Tryz.sizeOf9
  v9 := Tryz.zeroValue9
  t20 := Tryz.underlying20
  a20 := Tryz.isAgg20
  z20 := Tryz.sizeOf20
  v20 := Tryz.zeroValue20
  t37 := Tryz.underlying22
  a37 := Tryz.isAgg22
  z37 := Tryz.sizeOf22
  v37 := Tryz.zeroValue22
  t46 := Tryz.underlying119
  a46 := Tryz.isAgg119
  z46 := Tryz.sizeOf119
  v46 := Tryz.zeroValue119
  t51 := Tryz.underlying128
  a51 := Tryz.isAgg128
  z51 := Tryz.sizeOf128
  v51 := Tryz.zeroValue128
  t53 := Tryz.underlying114
  a53 := Tryz.isAgg114
  z53 := Tryz.sizeOf114
  v53 := Tryz.zeroValue114
  t171 := Tryz.underlying113
  a171 := Tryz.isAgg113
  z171 := Tryz.sizeOf113
  v171 := Tryz.zeroValue113
  t173 := Tryz.underlying117
  a173 := Tryz.isAgg117
  z173 := Tryz.sizeOf117
  v173 := Tryz.zeroValue117
  t212 := Tryz.underlying127
  a212 := Tryz.isAgg127
  z212 := Tryz.sizeOf127
  v212 := Tryz.zeroValue127
  t213 := Tryz.underlying129
  a213 := Tryz.isAgg129
  z213 := Tryz.sizeOf129
  t232 := Tryz.underlying144
  a232 := Tryz.isAgg144
  z232 := Tryz.sizeOf144
  v232 := Tryz.zeroValue144
  t233 := Tryz.underlying145
  a233 := Tryz.isAgg145
  z233 := Tryz.sizeOf145
  v233 := Tryz.zeroValue145
  g17 := by kernel_rfl
  g18 := by kernel_rfl
  g19 := by kernel_rfl
  i0 := by kernel_rfl
  i2 := by kernel_rfl
  i3 := by kernel_rfl
  i4 := by kernel_rfl
  i5 := by kernel_rfl
  i9 := by kernel_rfl
  i20 := by kernel_rfl
  i37 := by kernel_rfl
  i46 := by kernel_rfl
  i51 := by kernel_rfl
  i53 := by kernel_rfl
  i171 := by kernel_rfl
  i173 := by kernel_rfl
  i212 := by kernel_rfl
  i232 := by kernel_rfl
  i233 := by kernel_rfl
  m17 := by kernel_rfl
  m18 := by kernel_rfl
  m19 := by kernel_rfl }
open Go.RowKit Go.Sort Go.Lib in
/-- strconv.Itoa: "Itoa is equivalent to FormatInt(int64(i), 10).": i's DECIMAL NUMERAL ('Lib.itoa': a '-' where i is negative, then the digits), FOR EVERY int. The world behind the call: the world before it, new blocks behind the heap (the library's 'var a [24]byte'), draws. (LAID: no walk: one application.) -/
theorem Tryz.strconv_Itoa (n : Int) (h0 : -9223372036854775808 ≤ n) (h1 : n ≤ 9223372036854775807) (w : World) (htab : Lib.TabIs Tryz.prog w "internal/strconv.uint64pow10" .u64 Lib.pow10Tab) :
    Calls Tryz.prog 65 #[.int .i64 n] w fun e w' => e = .returned (.string ⟨(Lib.itoa n).toArray⟩) ∧ ∃ k os, w' = grow (w.drewN k) os := Any.strconv_Itoa Tryz.laysM171 n h0 h1 w htab
def Tryz.laysC172_ren : Go.Shelf.Ren := ⟨fun | 172 => 75 | 244 => 84 | 245 => 85 | 247 => 91 | 279 => 92 | 280 => 93 | 281 => 94 | 282 => 95 | 287 => 105 | 316 => 106 | 171 => 65 | 205 => 107 | 321 => 115 | 322 => 116 | 243 => 76 | 246 => 86 | 283 => 96 | 284 => 97 | 285 => 98 | 286 => 99 | 129 => 109 | 317 => 108 | 318 => 110 | 319 => 111 | 320 => 112 | 337 => 117 | 338 => 118 | n => n, fun | 9 => 9 | 3 => 3 | 75 => 95 | 76 => 96 | 4 => 4 | 5 => 5 | 167 => 107 | 37 => 22 | 0 => 0 | 85 => 108 | 2 => 2 | 168 => 110 | 53 => 114 | 175 => 120 | 46 => 119 | 210 => 124 | 127 => 139 | 145 => 142 | 143 => 140 | 21 => 21 | 171 => 113 | 173 => 117 | 212 => 127 | 51 => 128 | 20 => 20 | 213 => 129 | 232 => 144 | 233 => 145 | 80 => 146 | n => n, fun | 15 => 1 | 16 => 2 | 17 => 3 | 18 => 6 | 19 => 7 | n => n⟩
theorem Tryz.laysC172 : Go.Proofs.LaysC.n172 Tryz.prog Tryz.laysC172_ren := {
  mixed := by kernel_rfl
  f129 := Tryz.func109.trans (congrArg some (by kernel_rfl))
  f171 := Tryz.func65.trans (congrArg some (by kernel_rfl))
  f172 := Tryz.func75.trans (congrArg some (by kernel_rfl))
  f205 := Tryz.func107.trans (congrArg some (by kernel_rfl))
  f243 := Tryz.func76.trans (congrArg some (by kernel_rfl))
  f244 := Tryz.func84.trans (congrArg some (by kernel_rfl))
  f245 := Tryz.func85.trans (congrArg some (by kernel_rfl))
  f246 := Tryz.func86.trans (congrArg some (by kernel_rfl))
  f247 := Tryz.func91.trans (congrArg some (by kernel_rfl))
  f279 := Tryz.func92.trans (congrArg some (by kernel_rfl))
  f280 := Tryz.func93.trans (congrArg some (by kernel_rfl))
  f281 := Tryz.func94.trans (congrArg some (by kernel_rfl))
  f282 := Tryz.func95.trans (congrArg some (by kernel_rfl))
  f283 := Tryz.func96.trans (congrArg some (by kernel_rfl))
  f284 := Tryz.func97.trans (congrArg some (by kernel_rfl))
  f285 := Tryz.func98.trans (congrArg some (by kernel_rfl))
  f286 := Tryz.func99.trans (congrArg some (by kernel_rfl))
  f287 := Tryz.func105.trans (congrArg some (by kernel_rfl))
  f316 := Tryz.func106.trans (congrArg some (by kernel_rfl))
  f317 := Tryz.func108.trans (congrArg some (by kernel_rfl))
  f318 := Tryz.func110.trans (congrArg some (by kernel_rfl))
  f319 := Tryz.func111.trans (congrArg some (by kernel_rfl))
  f320 := Tryz.func112.trans (congrArg some (by kernel_rfl))
  f321 := Tryz.func115.trans (congrArg some (by kernel_rfl))
  f322 := Tryz.func116.trans (congrArg some (by kernel_rfl))
  f337 := Tryz.func117.trans (congrArg some (by kernel_rfl))
  f338 := Tryz.func118.trans (congrArg some (by kernel_rfl))
  t0 := Tryz.underlying0
  a0 := Tryz.isAgg0
  z0 := Tryz.sizeOf0
  v0 := Tryz.zeroValue0
  t2 := Tryz.underlying2
  a2 := Tryz.isAgg2
  z2 := Tryz.sizeOf2
  v2 := Tryz.zeroValue2
  t3 := Tryz.underlying3
  a3 := Tryz.isAgg3
  z3 := Tryz.sizeOf3
  v3 := Tryz.zeroValue3
  t4 := Tryz.underlying4
  a4 := Tryz.isAgg4
  z4 := Tryz.sizeOf4
  v4 := Tryz.zeroValue4
  t5 := Tryz.underlying5
  a5 := Tryz.isAgg5
  z5 := Tryz.sizeOf5
  v5 := Tryz.zeroValue5
  t9 := Tryz.underlying9
  a9 := Tryz.isAgg9
  z9 := Tryz.sizeOf9
  v9 := Tryz.zeroValue9
  t20 := Tryz.underlying20
  a20 := Tryz.isAgg20
  z20 := Tryz.sizeOf20
  v20 := Tryz.zeroValue20
  t21 := Tryz.underlying21
  a21 := Tryz.isAgg21
  z21 := Tryz.sizeOf21
  v21 := Tryz.zeroValue21
  t37 := Tryz.underlying22
  a37 := Tryz.isAgg22
  z37 := Tryz.sizeOf22
  v37 := Tryz.zeroValue22
  t46 := Tryz.underlying119
  a46 := Tryz.isAgg119
  z46 := Tryz.sizeOf119
  v46 := Tryz.zeroValue119
  t51 := Tryz.underlying128
  a51 := Tryz.isAgg128
  z51 := Tryz.sizeOf128
  v51 := Tryz.zeroValue128
  t53 := Tryz.underlying114
  a53 := Tryz.isAgg114
  z53 := Tryz.sizeOf114
  v53 := Tryz.zeroValue114
  t75 := Tryz.underlying95
  a75 := Tryz.isAgg95
  z75 := Tryz.sizeOf95
  v75 := Tryz.zeroValue95
  t76 := Tryz.underlying96
  a76 := Tryz.isAgg96
  z76 := Tryz.sizeOf96
  v76 := Tryz.zeroValue96
  t85 := Tryz.underlying108
  a85 := Tryz.isAgg108
  z85 := Tryz.sizeOf108
  v85 := Tryz.zeroValue108
  t127 := Tryz.underlying139
  a127 := Tryz.isAgg139
  z127 := Tryz.sizeOf139
  v127 := Tryz.zeroValue139
  t143 := Tryz.underlying140
  a143 := Tryz.isAgg140
  z143 := Tryz.sizeOf140
  v143 := Tryz.zeroValue140
  t145 := Tryz.underlying142
  a145 := Tryz.isAgg142
  z145 := Tryz.sizeOf142
  v145 := Tryz.zeroValue142
  t167 := Tryz.underlying107
  a167 := Tryz.isAgg107
  z167 := Tryz.sizeOf107
  v167 := Tryz.zeroValue107
  t168 := Tryz.underlying110
  a168 := Tryz.isAgg110
  z168 := Tryz.sizeOf110
  v168 := Tryz.zeroValue110
  t171 := Tryz.underlying113
  a171 := Tryz.isAgg113
  z171 := Tryz.sizeOf113
  v171 := Tryz.zeroValue113
  t173 := Tryz.underlying117
  a173 := Tryz.isAgg117
  z173 := Tryz.sizeOf117
  v173 := Tryz.zeroValue117
  t175 := Tryz.underlying120
  a175 := Tryz.isAgg120
  z175 := Tryz.sizeOf120
  v175 := Tryz.zeroValue120
  t210 := Tryz.underlying124
  a210 := Tryz.isAgg124
  z210 := Tryz.sizeOf124
  v210 := Tryz.zeroValue124
  t212 := Tryz.underlying127
  a212 := Tryz.isAgg127
  z212 := Tryz.sizeOf127
  v212 := Tryz.zeroValue127
  t213 := Tryz.underlying129
  a213 := Tryz.isAgg129
  z213 := Tryz.sizeOf129
  t232 := Tryz.underlying144
  a232 := Tryz.isAgg144
  z232 := Tryz.sizeOf144
  v232 := Tryz.zeroValue144
  t233 := Tryz.underlying145
  a233 := Tryz.isAgg145
  z233 := Tryz.sizeOf145
  v233 := Tryz.zeroValue145
  g15 := by kernel_rfl
  g16 := by kernel_rfl
  g17 := by kernel_rfl
  g18 := by kernel_rfl
  g19 := by kernel_rfl
  t80 := Tryz.underlying146
  a80 := Tryz.isAgg146
  z80 := Tryz.sizeOf146
  v80 := Tryz.zeroValue146
  i0 := by kernel_rfl
  i2 := by kernel_rfl
  i3 := by kernel_rfl
  i4 := by kernel_rfl
  i5 := by kernel_rfl
  i9 := by kernel_rfl
  i20 := by kernel_rfl
  i21 := by kernel_rfl
  i37 := by kernel_rfl
  i46 := by kernel_rfl
  i51 := by kernel_rfl
  i53 := by kernel_rfl
  i75 := by kernel_rfl
  i76 := by kernel_rfl
  i80 := by kernel_rfl
  i85 := by kernel_rfl
  i127 := by kernel_rfl
  i143 := by kernel_rfl
  i145 := by kernel_rfl
  i167 := by kernel_rfl
  i168 := by kernel_rfl
  i171 := by kernel_rfl
  i173 := by kernel_rfl
  i175 := by kernel_rfl
  i210 := by kernel_rfl
  i212 := by kernel_rfl
  i232 := by kernel_rfl
  i233 := by kernel_rfl
  m15 := by kernel_rfl
  m16 := by kernel_rfl
  m17 := by kernel_rfl
  m18 := by kernel_rfl
  m19 := by kernel_rfl
  c0 := by kernel_rfl
  c2 := by kernel_rfl
  c3 := by kernel_rfl
  c4 := by kernel_rfl
  c5 := by kernel_rfl
  c9 := by kernel_rfl
  c20 := by kernel_rfl
  c21 := by kernel_rfl
  c37 := by kernel_rfl
  c46 := by kernel_rfl
  c51 := by kernel_rfl
  c53 := by kernel_rfl
  c75 := by kernel_rfl
  c76 := by kernel_rfl
  c80 := by kernel_rfl
  c85 := by kernel_rfl
  c127 := by kernel_rfl
  c143 := by kernel_rfl
  c145 := by kernel_rfl
  c167 := by kernel_rfl
  c168 := by kernel_rfl
  c171 := by kernel_rfl
  c173 := by kernel_rfl
  c175 := by kernel_rfl
  c210 := by kernel_rfl
  c212 := by kernel_rfl
  c213 := by kernel_rfl
  c232 := by kernel_rfl
  c233 := by kernel_rfl }
open Go.RowKit in
/-- strconv.Atoi, AT EVERY STRING THAT SPELLS AN int ('Lib.atoiAll .. = .ok v'; of whatever length: leading zeros count): v, AND NO ERROR. The world: as it was, or with the one new row that '[]byte(..)' lays. (LAID: no walk: one application.) -/
theorem Tryz.strconv_Atoi_ok (s : ByteArray) (hmax : s.size ≤ 9223372036854775806) (v : Int) (h : Lib.atoiAll s.data.toList = .ok v) (w : World) :
    Calls Tryz.prog 75 #[.string s] w fun e w' => e = .returned (.tuple #[.int .i64 v, .nilIface]) ∧ (w' = w ∨ ∃ t, w' = Lib.bytesWorld w 5 t) := Any.strconv_Atoi_ok Tryz.laysC172 s hmax v h w
open Go.RowKit in
theorem Tryz.strconv_Atoi_range_var (s : ByteArray) (hlim : s.size ≤ 281474976710656) (h : Lib.atoiAll s.data.toList = .range) (tp : TypeId) (p : Value) (w : World) (hvar : w.var? Tryz.prog "strconv.ErrRange" = some #[.iface tp p]) :
    Calls Tryz.prog 75 #[.string s] w fun e w' => ∃ N, e = .returned (.tuple #[.int .i64 (Lib.atoiSat s.data.toList), .iface 110 (.pointer (some ⟨N, 0, none⟩))]) ∧ w.heap.size ≤ N ∧ w'.heap[N]? = some (.cells #[.string ⟨#[65, 116, 111, 105]⟩, .string s, .iface tp p] 124 (0, 0)) ∧ Below w.heap.size w w' := Any.strconv_Atoi_range_var Tryz.laysC172 s hlim h tp p w hvar
def Tryz.lays221_ren : Go.Shelf.Ren := ⟨fun | 221 => 74 | 268 => 81 | 138 => 82 | 143 => 83 | 195 => 87 | 197 => 88 | 218 => 89 | 219 => 90 | 260 => 100 | 217 => 101 | 225 => 102 | 224 => 103 | 267 => 104 | 266 => 113 | 314 => 114 | n => n, fun | 9 => 9 | 3 => 3 | 31 => 28 | 4 => 4 | 0 => 0 | 105 => 104 | 21 => 21 | 5 => 5 | 46 => 119 | 119 => 132 | 139 => 135 | 138 => 134 | 146 => 136 | 51 => 128 | n => n, fun | 1 => 0 | 3 => 4 | 4 => 5 | n => n⟩
def Tryz.lays146_ren : Go.Shelf.Ren := ⟨fun | 146 => 63 | 221 => 74 | 268 => 81 | 138 => 82 | 143 => 83 | 195 => 87 | 197 => 88 | 218 => 89 | 219 => 90 | 260 => 100 | 217 => 101 | 225 => 102 | 224 => 103 | 267 => 104 | 266 => 113 | 314 => 114 | n => n, fun | 9 => 9 | 31 => 28 | 3 => 3 | 4 => 4 | 0 => 0 | 105 => 104 | 21 => 21 | 5 => 5 | 46 => 119 | 119 => 132 | 139 => 135 | 138 => 134 | 146 => 136 | 51 => 128 | n => n, fun | 1 => 0 | 3 => 4 | 4 => 5 | n => n⟩
theorem Tryz.lays146 : Go.Proofs.Lays.n146 Tryz.prog Tryz.lays146_ren := {
  mixed := by kernel_rfl
  f138 := Tryz.func82.trans (congrArg some (by kernel_rfl))
  f143 := Tryz.func83.trans (congrArg some (by kernel_rfl))
  f146 := Tryz.func63.trans (congrArg some (by kernel_rfl))
  f195 := Tryz.func87.trans (congrArg some (by kernel_rfl))
  f197 := Tryz.func88.trans (congrArg some (by kernel_rfl))
  f217 := Tryz.func101.trans (congrArg some (by kernel_rfl))
  f218 := Tryz.func89.trans (congrArg some (by kernel_rfl))
  f219 := Tryz.func90.trans (congrArg some (by kernel_rfl))
  f221 := Tryz.func74.trans (congrArg some (by kernel_rfl))
  f224 := Tryz.func103.trans (congrArg some (by kernel_rfl))
  f225 := Tryz.func102.trans (congrArg some (by kernel_rfl))
  f260 := Tryz.func100.trans (congrArg some (by kernel_rfl))
  f266 := Tryz.func113.trans (congrArg some (by kernel_rfl))
  f267 := Tryz.func104.trans (congrArg some (by kernel_rfl))
  f268 := Tryz.func81.trans (congrArg some (by kernel_rfl))
  f314 := Tryz.func114.trans (congrArg some (by kernel_rfl))
  t0 := Tryz.underlying0
  a0 := Tryz.isAgg0
  z0 := Tryz.sizeOf0
  v0 := Tryz.zeroValue0
  t3 := Tryz.underlying3
  a3 := Tryz.isAgg3
  z3 := Tryz.sizeOf3
  v3 := Tryz.zeroValue3
  t4 := Tryz.underlying4
  a4 := Tryz.isAgg4
  z4 := Tryz.sizeOf4
  v4 := Tryz.zeroValue4
  t5 := Tryz.underlying5
  a5 := Tryz.isAgg5
  z5 := Tryz.sizeOf5
  v5 := Tryz.zeroValue5
  t9 := Tryz.underlying9
  a9 := Tryz.isAgg9
  z9 := Tryz.sizeOf9
  v9 := Tryz.zeroValue9
  t21 := Tryz.underlying21
  a21 := Tryz.isAgg21
  z21 := Tryz.sizeOf21
  v21 := Tryz.zeroValue21
  t31 := Tryz.underlying28
  a31 := Tryz.isAgg28
  z31 := Tryz.sizeOf28
  v31 := Tryz.zeroValue28
  t46 := Tryz.underlying119
  a46 := Tryz.isAgg119
  z46 := Tryz.sizeOf119
  v46 := Tryz.zeroValue119
  t51 := Tryz.underlying128
  a51 := Tryz.isAgg128
  z51 := Tryz.sizeOf128
  v51 := Tryz.zeroValue128
  t105 := Tryz.underlying104
  a105 := Tryz.isAgg104
  z105 := Tryz.sizeOf104
  v105 := Tryz.zeroValue104
  t119 := Tryz.underlying132
  a119 := Tryz.isAgg132
  z119 := Tryz.sizeOf132
  t138 := Tryz.underlying134
  a138 := Tryz.isAgg134
  z138 := Tryz.sizeOf134
  v138 := Tryz.zeroValue134
  t139 := Tryz.underlying135
  a139 := Tryz.isAgg135
  z139 := Tryz.sizeOf135
  v139 := Tryz.zeroValue135
  t146 := Tryz.underlying136
  a146 := Tryz.isAgg136
  z146 := Tryz.sizeOf136
  v146 := Tryz.zeroValue136
  g1 := by kernel_rfl
  g3 := by kernel_rfl
  g4 := by kernel_rfl }
open Go.RowKit Go.Lib in
/-- strings.Split. (LAID: no walk: one application.) -/
theorem Tryz.strings_Split (s sep : ByteArray) (m : Int) (w : World) (hs : s.size < 4294967281) (hm : w.cell? ⟨0, 0, none⟩ = some (.int .i64 m)) (h1 : 1 ≤ sep.size) :
    Calls Tryz.prog 63 #[.string s, .string sep] w fun e w' =>
      e = .returned (.slice (some ⟨w.heap.size, 0, none⟩) (Lib.countB s sep + 1) (Lib.countB s sep + 1)) ∧ w' = w.alloc (.cells ((Lib.splitB sep 0 (Lib.countB s sep) s).map Value.string).toArray 9) := Any.strings_Split Tryz.lays146 (by kernel_rfl) s sep m w hs hm h1
end Go.Proofs
