/- The law FnPagesDrop holds: it returns true, and the input reads as it did. No condition. This is part 2 of 3 of its proof. -/
import Derived.Test.YtlfnfpdipghdiaaXFnPagesDrop1
import Derived.IntWalk
import Derived.ChangeArms
import Derived.Test.YtlfnfpdipghdiaaProg
import Derived.WideShapes
import Derived.ProofKit
import Derived.Below

/- The plain side, part 1: the operations at known values; loops; what is read in a slice. -/
set_option linter.unusedVariables false
set_option linter.unusedSimpArgs false
namespace Go.Av
open Go Go.RowKit IntWalk

section
variable {P : Program} {w0 : World} {σ σ' : Vw}

/-! ### The operations at known values -/
theorem pIf_b {b : Bool} {A B : Prop} : pIf (.bool b) A B ↔ (b = true → A) ∧ (b = false → B) :=
  ⟨fun ⟨c, h, h1, h2⟩ => by cases h; exact ⟨h1, h2⟩, fun ⟨h1, h2⟩ => ⟨b, rfl, h1, h2⟩⟩
theorem pIf_d {p : Prop} [Decidable p] {A B : Prop} : pIf (.bool (decide p)) A B ↔ (p → A) ∧ (¬ p → B) := by
  rw [pIf_b]; simp
theorem pLen_s {A : Option Addr} {n c : Nat} {K : Value → Prop} : pLen (.slice A n c) K ↔ K (.int .i64 n) :=
  ⟨fun ⟨_, _, _, h, hK⟩ => by cases h; exact hK, fun h => ⟨_, _, _, rfl, h⟩⟩
theorem pLenS_s {s : ByteArray} {K : Value → Prop} : pLenS (.string s) K ↔ K (.int .i64 s.size) :=
  ⟨fun ⟨_, h, hK⟩ => by cases h; exact hK, fun h => ⟨_, rfl, h⟩⟩
theorem pField_s {o : Nat} {a : Addr} {K : Value → Prop} : pField o (.pointer (some a)) K ↔ K (.pointer (some (a.add o))) :=
  ⟨fun ⟨_, h, hK⟩ => by cases h; exact hK, fun h => ⟨_, rfl, h⟩⟩
theorem pUn_not {b : Bool} {K : Value → Prop} : pUn .not (.bool b) K ↔ K (.bool !b) :=
  ⟨fun ⟨_, h, hK⟩ => by simp only [aun, Option.some.injEq] at h; subst h; exact hK, fun h => ⟨_, rfl, h⟩⟩
theorem pBin_i {T : Nat} {op : BinOp} {k : IntKind} {a b : Int} {v : Value} {K : Value → Prop} (h : aint op k a b = some v) : pBin P T op (.int k a) (.int k b) K ↔ K v := by
  have e : abinT P T op (.int k a) (.int k b) = some v := by unfold abinT; simp only [if_true]; exact h
  exact ⟨fun ⟨_, h, hK⟩ => by rw [e] at h; cases h; exact hK, fun h => ⟨_, e, h⟩⟩
theorem pBin_lt {T : Nat} {k : IntKind} {a b : Int} {K : Value → Prop} : pBin P T .lss (.int k a) (.int k b) K ↔ K (.bool (decide (a < b))) := pBin_i rfl
theorem pBin_le {T : Nat} {k : IntKind} {a b : Int} {K : Value → Prop} : pBin P T .leq (.int k a) (.int k b) K ↔ K (.bool (decide (a ≤ b))) := pBin_i rfl
theorem pBin_gt {T : Nat} {k : IntKind} {a b : Int} {K : Value → Prop} : pBin P T .gtr (.int k a) (.int k b) K ↔ K (.bool (decide (b < a))) := pBin_i rfl
theorem pBin_ge {T : Nat} {k : IntKind} {a b : Int} {K : Value → Prop} : pBin P T .geq (.int k a) (.int k b) K ↔ K (.bool (decide (b ≤ a))) := pBin_i rfl
theorem pBin_eq {T : Nat} {k : IntKind} {a b : Int} {K : Value → Prop} : pBin P T .eql (.int k a) (.int k b) K ↔ K (.bool (decide (a = b))) := pBin_i rfl
theorem pBin_ne {T : Nat} {k : IntKind} {a b : Int} {K : Value → Prop} : pBin P T .neq (.int k a) (.int k b) K ↔ K (.bool (decide (a ≠ b))) :=
  pBin_i (by simp only [aint, bne, Option.some.injEq, Value.bool.injEq]; by_cases h : a = b <;> simp [h])
theorem pBin_add {T : Nat} {a b : Int} {K : Value → Prop} (h : -9223372036854775808 ≤ a + b ∧ a + b ≤ 9223372036854775807) : pBin P T .add (.int .i64 a) (.int .i64 b) K ↔ K (.int .i64 (a + b)) :=
  pBin_i (by simp only [aint, i64_in _ h])
theorem pBin_sub {T : Nat} {a b : Int} {K : Value → Prop} (h : -9223372036854775808 ≤ a - b ∧ a - b ≤ 9223372036854775807) : pBin P T .sub (.int .i64 a) (.int .i64 b) K ↔ K (.int .i64 (a - b)) :=
  pBin_i (by simp only [aint, i64_in _ h])
theorem pBin_mul {T : Nat} {a b : Int} {K : Value → Prop} (h : -9223372036854775808 ≤ a * b ∧ a * b ≤ 9223372036854775807) : pBin P T .mul (.int .i64 a) (.int .i64 b) K ↔ K (.int .i64 (a * b)) :=
  pBin_i (by simp only [aint, i64_in _ h])

theorem bytes_inj {a b : ByteArray} (h : a.toList = b.toList) : a = b := by
  rw [ByteArray.toList_eq, ByteArray.toList_eq] at h
  cases a; cases b
  simp only [ByteArray.mk.injEq]
  exact Array.toList_inj.1 h
theorem toList_eq {a b : ByteArray} : (a.toList == b.toList) = decide (a = b) := by
  have : a.toList = b.toList ↔ a = b := ⟨fun h => Go.Av.bytes_inj h, fun h => by rw [h]⟩
  by_cases h : a = b
  · subst h; simp
  · have h' : ¬ a.toList = b.toList := fun e => h (this.1 e)
    simp [h, h']
theorem pBin_s {T : Nat} {op : BinOp} {a b : ByteArray} {v : Value} {K : Value → Prop} (h : astr op a b = some v) : pBin P T op (.string a) (.string b) K ↔ K v :=
  ⟨fun ⟨_, h', hK⟩ => by rw [show abinT P T op (.string a) (.string b) = some v from h] at h'; cases h'; exact hK, fun hK => ⟨_, h, hK⟩⟩
theorem pBin_seq {T : Nat} {a b : ByteArray} {K : Value → Prop} : pBin P T .eql (.string a) (.string b) K ↔ K (.bool (decide (a = b))) := pBin_s (by simp only [astr, toList_eq])
theorem pBin_sne {T : Nat} {a b : ByteArray} {K : Value → Prop} : pBin P T .neq (.string a) (.string b) K ↔ K (.bool (decide (a ≠ b))) := pBin_s (by simp only [astr, toList_eq]; simp)
theorem pBin_b {T : Nat} {op : BinOp} {a b : Bool} {v : Value} {K : Value → Prop} (hT : P.underlying T = some .bool) (h : (match op with | .eql => some (Value.bool (a == b)) | .neq => some (.bool (!(a == b))) | _ => none) = some v) : pBin P T op (.bool a) (.bool b) K ↔ K v := by
  have e : abinT P T op (.bool a) (.bool b) = some v := by simp only [abinT, hT]; exact h
  exact ⟨fun ⟨_, h', hK⟩ => by rw [e] at h'; cases h'; exact hK, fun hK => ⟨_, e, hK⟩⟩

theorem pVal1 {n : Nat} {v : Value} {A : Prop} (h : v.oneCell' = true) : pVal false n v A ↔ A := ⟨fun h => h.2, fun hA => ⟨h, hA⟩⟩
theorem pValN {n : Nat} {cs : List Value} {A : Prop} (hl : cs.length = n) (h : ∀ c, c ∈ cs → c.oneCell' = true) : pVal true n (.agg ⟨cs⟩) A ↔ A := ⟨fun h => h.2, fun hA => ⟨⟨cs, rfl, hl, h⟩, hA⟩⟩
theorem cellOf_agg {cs : List Value} {i : Nat} : cellOf (.agg ⟨cs⟩) i = cs.getD i undef := rfl
theorem pStr1 {b : Nat} {K : Value → Prop} {n : Int} {c : Nat} (h : Av.get w0 σ ⟨b, 0, none⟩ = some (.int .u8 n)) (hK : K (.string (strOfNums [n]))) : pStr w0 (.slice (some ⟨b, 0, none⟩) 1 c) σ K :=
  .inr ⟨b, 0, 1, c, [n], rfl, rfl, (fun j hj => by
    have e : j = 0 := by omega
    subst e
    exact h), hK⟩

/-! ### Loops -/
theorem loop_rule {B : List Value → (AX → List Value → Vw → Prop) → Vw → Prop} {K : AX → List Value → Vw → Prop} (I : Nat → List Value → Vw → Prop)
    (step : ∀ m vs σ (L : List Value → Vw → Prop), I m vs σ → (∀ vs' σ', ∀ m', m' + 1 = m → I m' vs' σ' → L vs' σ') → B vs (fun e vs' σ' => match e with | .normal => L vs' σ' | .exit i => K (.exit i) vs' σ' | .ret => K .ret vs' σ') σ)
    {m : Nat} {vs : List Value} (h : I m vs σ) : pLoop B vs σ K := by
  refine ⟨m + 1, ?_⟩
  induction m generalizing vs σ with
  | zero => exact step 0 vs σ _ h (fun vs' σ' m' e => by omega)
  | succ m ih =>
    refine step (m + 1) vs σ _ h (fun vs' σ' m' e hI => ?_)
    have e : m' = m := by omega
    subst e
    exact ih hI

/-! ### Reading -/
theorem add_add (a : Addr) (i j : Nat) : (a.add i).add j = a.add (i + j) := by
  unfold Addr.add
  by_cases hi : i = 0
  · simp [hi]
  · by_cases hj : j = 0
    · simp [hj]
    · have : i + j ≠ 0 := by omega
      simp [hi, hj, this, Nat.add_assoc]

/-- A reader that reads no less. -/
def Le (rd rd' : Addr → Option Value) : Prop := ∀ a v, rd a = some v → rd' a = some v
theorem Le.refl (rd : Addr → Option Value) : Le rd rd := fun _ _ h => h
theorem Ext.le (hx : Ext σ σ') : Le (Av.get w0 σ) (Av.get w0 σ') := fun _ _ h => get_ext hx h

/-- What is read behind a slice: xs, each of n cells. -/
def RSl {α : Type} (n : Nat) (R : (Addr → Option Value) → List Value → α → Prop) (rd : Addr → Option Value) (v : Value) (xs : List α) : Prop :=
  ∃ A cap, v = .slice A xs.length cap ∧ (xs.length ≤ cap ∧ cap ≤ 9223372036854775807) ∧ ∀ (j : Nat) (x : α), xs[j]? = some x → ∃ a es, A = some a ∧ es.length = n ∧ (∀ i, i < n → rd (a.add (j * n + i)) = es[i]?) ∧ R rd es x

theorem RSl.mono {α : Type} {n : Nat} {R : (Addr → Option Value) → List Value → α → Prop} {rd rd' : Addr → Option Value} {v : Value} {xs : List α} (h : RSl n R rd v xs) (hx : Le rd rd') (hR : ∀ es x, R rd es x → R rd' es x) : RSl n R rd' v xs := by
  obtain ⟨A, cap, h1, h2, h3⟩ := h
  refine ⟨A, cap, h1, h2, fun j x hj => ?_⟩
  obtain ⟨a, es, h4, h5, h6, h7⟩ := h3 j x hj
  refine ⟨a, es, h4, h5, fun i hi => ?_, hR _ _ h7⟩
  have := h6 i hi
  have hlt : i < es.length := by omega
  rw [List.getElem?_eq_getElem hlt] at this ⊢
  exact hx _ _ this

theorem RSl.len {α : Type} {n : Nat} {R : (Addr → Option Value) → List Value → α → Prop} {rd : Addr → Option Value} {v : Value} {xs : List α} (h : RSl n R rd v xs) {K : Value → Prop} : pLen v K ↔ K (.int .i64 xs.length) := by
  obtain ⟨A, cap, rfl, _⟩ := h
  exact pLen_s

/-- An element is read. -/
theorem RSl.at {α : Type} {n : Nat} {R : (Addr → Option Value) → List Value → α → Prop} {v : Value} {xs : List α} (h : RSl n R (Av.get w0 σ) v xs) {j : Nat} {x : α} (hj : xs[j]? = some x) {K : (Nat → Value) → Prop} (hK : ∀ g : Nat → Value, R (Av.get w0 σ) (expl g 0 n) x → K g) :
    pIndexAddr n v (.int .i64 j) fun p => pLoad w0 n p σ K := by
  obtain ⟨A, cap, rfl, _, h3⟩ := h
  obtain ⟨a, es, rfl, h5, h6, h7⟩ := h3 j x hj
  have hlt : j < xs.length := (List.getElem?_eq_some_iff.1 hj).1
  refine ⟨a, xs.length, cap, .i64, j, rfl, rfl, by omega, by omega, a.add (j * n), fun i => es.getD i undef, rfl, fun i hi => ?_, hK _ ?_⟩
  · have := h6 i hi
    have hlt : i < es.length := by omega
    rw [add_add, this, List.getElem?_eq_getElem hlt]
    simp only [List.getD_eq_getElem?_getD, List.getElem?_eq_getElem hlt, Option.getD_some]
  · have : expl (fun i => es.getD i undef) 0 n = es := by
      apply List.ext_getElem?
      intro i
      by_cases hi : i < n
      · rw [expl_get _ _ _ _ hi, Nat.zero_add, List.getD_eq_getElem?_getD]
        have hlt : i < es.length := by omega
        rw [List.getElem?_eq_getElem hlt]; rfl
      · rw [List.getElem?_eq_none (by rw [length_expl]; omega), List.getElem?_eq_none (by omega)]
    rw [this]; exact h7

/-- A text. -/
def RS (rd : Addr → Option Value) (cs : List Value) (s : ByteArray) : Prop := cs = [.string s] ∧ s.size ≤ 9223372036854775807
end
end Go.Av

/- The plain side, part 2: rows of our own. -/
set_option linter.unusedVariables false
set_option linter.unusedSimpArgs false
namespace Go.Av
open Go Go.RowKit

/-- Every row stays as it is; there may be new ones. -/
def Keeps (σ σ' : Vw) : Prop := ∀ b r, σ b = some r → σ' b = some r
theorem Keeps.refl (σ : Vw) : Keeps σ σ := fun _ _ h => h
theorem Keeps.trans {σ σ' σ'' : Vw} (h : Keeps σ σ') (h' : Keeps σ' σ'') : Keeps σ σ'' := fun b r hb => h' b r (h b r hb)
theorem Keeps.ext {σ σ' : Vw} (h : Keeps σ σ') : Ext σ σ' := fun b r hb => ⟨r, h b r hb, List.prefix_refl _⟩
theorem Keeps.le {w0 : World} {σ σ' : Vw} (h : Keeps σ σ') : Le (Av.get w0 σ) (Av.get w0 σ') := h.ext.le
theorem Keeps.put {σ : Vw} {b : Nat} {r : Row} (h : σ b = none) : Keeps σ (σ.put b r) := fun i x hi => by
  have : i ≠ b := fun e => by rw [e, h] at hi; cases hi
  simp [Vw.put, this, hi]
theorem put_at {σ : Vw} {b : Nat} {r : Row} : σ.put b r b = some r := by simp [Vw.put]
theorem put_put {σ : Vw} {b : Nat} {r r' : Row} : (σ.put b r).put b r' = σ.put b r' := by
  funext i; simp only [Vw.put]; split <;> rfl

theorem get_row {w0 : World} {σ : Vw} {b off : Nat} {r : Row} (hb : w0.heap.size ≤ b) (h : σ b = some r) : Av.get w0 σ ⟨b, off, none⟩ = r.cells[off]? := by
  unfold Av.get
  simp only
  rw [if_neg (by omega), if_pos trivial, h]; rfl

theorem addr_add (b off i : Nat) : (Addr.mk b off none).add i = ⟨b, off + i, none⟩ := by
  unfold Addr.add
  split
  · rename_i h; subst h; rfl
  · rfl

theorem setAt_mid : ∀ (A old new C : List Value), old.length = new.length → setAt (A ++ (old ++ C)) A.length new = A ++ (new ++ C)
  | A, [], [], C, _ => by simp [setAt]
  | A, [], _ :: _, C, h => by simp at h
  | A, _ :: _, [], C, h => by simp at h
  | A, o :: old, n :: new, C, h => by
    simp only [setAt]
    have e : (A ++ (o :: old ++ C)).set A.length n = (A ++ [n]) ++ (old ++ C) := by simp
    rw [e]
    have := setAt_mid (A ++ [n]) old new C (by simpa using h)
    simp only [List.length_append, List.length_singleton] at this
    rw [this]
    simp

section
variable {w0 : World} {σ : Vw}

theorem flat_len {n : Nat} : ∀ (xs : List (List Value)), (∀ c, c ∈ xs → c.length = n) → xs.flatten.length = xs.length * n
  | [], _ => by simp
  | c :: r, h => by
    have := flat_len r (fun d hd => h d (List.mem_cons_of_mem _ hd))
    simp only [List.flatten_cons, List.length_append, List.length_cons, this, h c List.mem_cons_self]
    rw [Nat.add_mul, Nat.one_mul, Nat.add_comm]

theorem flat_get {n : Nat} : ∀ (xs : List (List Value)), (∀ c, c ∈ xs → c.length = n) → ∀ (j : Nat) (c : List Value), xs[j]? = some c → ∀ i, i < n → xs.flatten[j * n + i]? = c[i]?
  | [], _, j, c, hj, i, hi => by simp at hj
  | d :: r, h, 0, c, hj, i, hi => by
    simp at hj; subst hj
    have := h d List.mem_cons_self
    rw [List.flatten_cons, Nat.zero_mul, Nat.zero_add, List.getElem?_append_left (by omega)]
  | d :: r, h, j + 1, c, hj, i, hi => by
    have hd := h d List.mem_cons_self
    rw [List.flatten_cons, Nat.add_mul, Nat.one_mul, List.getElem?_append_right (by omega)]
    have := flat_get r (fun d hd => h d (List.mem_cons_of_mem _ hd)) j c (by simpa using hj) i hi
    rw [← this]
    congr 1
    omega

theorem RSl.one {α : Type} {n : Nat} {R : (Addr → Option Value) → List Value → α → Prop} {rd : Addr → Option Value} {v : Value} {xs : List α} (h : RSl n R rd v xs) : v.oneCell' = true := by
  obtain ⟨A, cap, rfl, _⟩ := h
  rfl
theorem RSl.le {α : Type} {n : Nat} {R : (Addr → Option Value) → List Value → α → Prop} {rd : Addr → Option Value} {v : Value} {xs : List α} (h : RSl n R rd v xs) : xs.length ≤ 9223372036854775807 := by
  obtain ⟨_, _, _, h2, _⟩ := h; exact Nat.le_trans h2.1 h2.2
theorem pVal_2 {v v' : Value} {A : Prop} (h : v.oneCell' = true) (h' : v'.oneCell' = true) : pVal true 2 (.agg ⟨[v, v']⟩) A ↔ A := pValN rfl (by simp [h, h'])
theorem pVal_3 {v v' v'' : Value} {A : Prop} (h : v.oneCell' = true) (h' : v'.oneCell' = true) (h'' : v''.oneCell' = true) : pVal true 3 (.agg ⟨[v, v', v'']⟩) A ↔ A := pValN rfl (by simp [h, h', h''])

theorem pMake_s {ety n bytes m : Nat} {z : List Value} {K : Value → Vw → Prop} (hm : bytes * m ≤ 140737488355328) (hm2 : m ≤ 9223372036854775807) (hK : ∀ b e, w0.heap.size ≤ b → σ b = none → K (.slice (some ⟨b, 0, none⟩) m m) (σ.put b ⟨e, (List.replicate m z).flatten, m * n, (0, 0)⟩)) :
    pMake w0 ety n bytes z (.int .i64 m) (.int .i64 m) σ K := by
  refine ⟨.i64, m, rfl, rfl, by omega, by omega, ?_, fun b h1 h2 => ?_⟩
  · have : ((bytes * m : Nat) : Int) ≤ 2 ^ 47 := by
      rw [show (2 : Int) ^ 47 = 140737488355328 by decide]; omega
    simpa using this
  · have := hK b ety h1 h2
    simpa using this
end
end Go.Av

/- The lists of structs, whatever their element: their size, their comparison. -/
set_option linter.unusedVariables false
set_option linter.unusedSimpArgs false
namespace Go.Av
open Go Go.RowKit

def sumBy {α : Type} (f : α → Nat) : List α → Nat
  | [] => 0
  | s :: r => f s + sumBy f r
theorem sumBy_take {α : Type} {f : α → Nat} {xs : List α} : ∀ {j : Nat} {x : α}, xs[j]? = some x → sumBy f (xs.take (j + 1)) = sumBy f (xs.take j) + f x := by
  induction xs with
  | nil => intro j x h; simp at h
  | cons a r ih =>
    intro j x h
    cases j with
    | zero => simp at h; subst h; simp [sumBy]
    | succ j =>
      simp at h
      have := ih h
      simp only [List.take_succ_cons, sumBy, this]
      omega
section
variable {P : Program} {w0 : World} {σ : Vw} {α : Type}

end
end Go.Av

/- Lists that lie in rows of our own, each part in rows of its own; the copy of a list of structs. -/
set_option linter.unusedVariables false
set_option linter.unusedSimpArgs false
namespace Go.Av
open Go Go.RowKit

section
variable {P : Program} {w0 : World} {σ σ' : Vw} {α : Type}

/-- What a rule for parts in rows of our own must keep. -/
structure OOk (w0 : World) (n : Nat) (Rel : (Addr → Option Value) → List Value → α → Prop) (O : Vw → List Nat → List Value → α → Prop) : Prop where
  rel : ∀ σ F es x, O σ F es x → Rel (Av.get w0 σ) es x
  frame : ∀ σ σ' F es x, O σ F es x → (∀ b, b ∈ F → σ' b = σ b) → O σ' F es x
  dom : ∀ σ F es x, O σ F es x → ∀ b, b ∈ F → w0.heap.size ≤ b ∧ σ b ≠ none
  nodup : ∀ σ F es x, O σ F es x → F.Nodup
  len : ∀ σ F es x, O σ F es x → es.length = n
  one : ∀ σ F es x, O σ F es x → ∀ c, c ∈ es → c.oneCell' = true

/-- A list in a row of our own, the elements' own parts in other rows. -/
def OSl (w0 : World) (n : Nat) (O : Vw → List Nat → List Value → α → Prop) (σ : Vw) (F : List Nat) (v : Value) (xs : List α) : Prop :=
  xs.length ≤ 9223372036854775807 ∧ F.Nodup ∧ ((v = .slice none 0 0 ∧ xs = [] ∧ F = []) ∨
  ∃ (b off cap : Nat) (r : Row) (pre post : List Value) (css : List (List Value)) (Fs : List (List Nat)), v = .slice (some ⟨b, off, none⟩) xs.length cap ∧ (xs.length ≤ cap ∧ cap ≤ 9223372036854775807) ∧ w0.heap.size ≤ b ∧ σ b = some r ∧ r.cells = pre ++ (css.flatten ++ post) ∧ pre.length = off ∧
    css.length = xs.length ∧ Fs.length = xs.length ∧ F = b :: Fs.flatten ∧ ∀ (j : Nat) (c : List Value) (x : α) (f : List Nat), css[j]? = some c → xs[j]? = some x → Fs[j]? = some f → O σ f c x)

theorem mem_flat {l : List (List Nat)} {b : Nat} (h : b ∈ l.flatten) : ∃ (j : Nat) (f : List Nat), l[j]? = some f ∧ b ∈ f := by
  obtain ⟨f, h1, h2⟩ := List.mem_flatten.1 h
  obtain ⟨j, hj⟩ := List.getElem?_of_mem h1
  exact ⟨j, f, hj, h2⟩

theorem OSl.frame {n : Nat} {Rel : (Addr → Option Value) → List Value → α → Prop} {O : Vw → List Nat → List Value → α → Prop} (ok : OOk w0 n Rel O) {F : List Nat} {v : Value} {xs : List α} (h : OSl w0 n O σ F v xs) (hF : ∀ b, b ∈ F → σ' b = σ b) : OSl w0 n O σ' F v xs := by
  obtain ⟨h1, h2, h3 | ⟨b, off, cap, r, pre, post, css, Fs, g1, gc, g2, g3, g4, g5, g6, g7, g8, g9⟩⟩ := h
  · exact ⟨h1, h2, .inl h3⟩
  · refine ⟨h1, h2, .inr ⟨b, off, cap, r, pre, post, css, Fs, g1, gc, g2, ?_, g4, g5, g6, g7, g8, fun j c x f e1 e2 e3 => ?_⟩⟩
    · rw [hF b (by rw [g8]; exact List.mem_cons_self)]; exact g3
    · refine ok.frame _ _ _ _ _ (g9 j c x f e1 e2 e3) fun i hi => hF i ?_
      rw [g8]
      exact List.mem_cons_of_mem _ (List.mem_flatten.2 ⟨f, List.mem_of_getElem? e3, hi⟩)

theorem OSl.dom {n : Nat} {Rel : (Addr → Option Value) → List Value → α → Prop} {O : Vw → List Nat → List Value → α → Prop} (ok : OOk w0 n Rel O) {F : List Nat} {v : Value} {xs : List α} (h : OSl w0 n O σ F v xs) : ∀ b, b ∈ F → w0.heap.size ≤ b ∧ σ b ≠ none := by
  obtain ⟨h1, h2, ⟨_, _, h3⟩ | ⟨b, off, cap, r, pre, post, css, Fs, g1, gc, g2, g3, g4, g5, g6, g7, g8, g9⟩⟩ := h
  · rw [h3]; intro b hb; cases hb
  · rw [g8]
    intro i hi
    rcases List.mem_cons.1 hi with e | e
    · rw [e]; exact ⟨g2, by rw [g3]; simp⟩
    · obtain ⟨j, f, e1, e2⟩ := mem_flat e
      have hj : j < Fs.length := (List.getElem?_eq_some_iff.1 e1).1
      exact ok.dom _ _ _ _ (g9 j _ _ f (List.getElem?_eq_getElem (by omega)) (List.getElem?_eq_getElem (by omega)) e1) i e2

theorem OSl.rel {n : Nat} {Rel : (Addr → Option Value) → List Value → α → Prop} {O : Vw → List Nat → List Value → α → Prop} (ok : OOk w0 n Rel O) {F : List Nat} {v : Value} {xs : List α} (h : OSl w0 n O σ F v xs) : RSl n Rel (Av.get w0 σ) v xs := by
  obtain ⟨h1, h2, ⟨rfl, rfl, _⟩ | ⟨b, off, cap, r, pre, post, css, Fs, rfl, gc, g2, g3, g4, g5, g6, g7, g8, g9⟩⟩ := h
  · exact ⟨none, 0, rfl, by simp, fun j x hj => by simp at hj⟩
  · have each : ∀ (j : Nat) (c : List Value), css[j]? = some c → c.length = n := fun j c hj => by
      have hlt : j < css.length := (List.getElem?_eq_some_iff.1 hj).1
      exact ok.len _ _ _ _ (g9 j c _ _ hj (List.getElem?_eq_getElem (by omega)) (List.getElem?_eq_getElem (by omega)))
    have hn : ∀ c, c ∈ css → c.length = n := fun c hc => by obtain ⟨j, hj⟩ := List.getElem?_of_mem hc; exact each j c hj
    refine ⟨_, cap, rfl, gc, fun j x hj => ?_⟩
    have hlt : j < css.length := by have := (List.getElem?_eq_some_iff.1 hj).1; omega
    have hcj := List.getElem?_eq_getElem hlt
    refine ⟨_, css[j], rfl, each j _ hcj, fun i hi => ?_, ok.rel _ _ _ _ (g9 j _ x _ hcj hj (List.getElem?_eq_getElem (by omega)))⟩
    rw [addr_add, get_row g2 g3, g4, List.getElem?_append_right (by omega)]
    rw [show off + (j * n + i) - pre.length = j * n + i by omega, List.getElem?_append_left, flat_get css hn j _ hcj i hi]
    rw [flat_len css hn]
    calc j * n + i < j * n + n := by omega
      _ = (j + 1) * n := by rw [Nat.add_mul, Nat.one_mul]
      _ ≤ css.length * n := Nat.mul_le_mul_right n hlt

end
end Go.Av

/- What each function owes, reckoned out. MADE BY PROGRAM (emit.py). -/
set_option linter.unusedVariables false
namespace Go.Proofs.Ytlfnfpdipghdiaa
open Go Go.Av

abbrev t_int : Nat := 3
abbrev t_uint8 : Nat := 5
abbrev t_string : Nat := 9
abbrev t_s_uint8 : Nat := 22
abbrev t_impl_PageName : Nat := 33
abbrev t_impl_Page : Nat := 63
abbrev t_a96_bool : Nat := 75
abbrev n_laws_FnPagesDrop : Nat := 6
abbrev n_spec_DrawPagesFree : Nat := 7
abbrev n_impl_PagesFree : Nat := 8
abbrev n_spec_PagesFree : Nat := 9
abbrev n_spec_PagesOk : Nat := 10
abbrev n_impl_PagesGet : Nat := 11
abbrev n_impl_PagesNeed : Nat := 12
abbrev n_spec_DrawPagesDrop : Nat := 19
abbrev n_impl_PagesDrop : Nat := 20
abbrev n_spec_PagesDrop : Nat := 21
abbrev n_laws_wxPages : Nat := 22
abbrev n_impl_PagesOk : Nat := 23
abbrev n_spec_l61AnyPages : Nat := 24
abbrev n_spec_l1Open : Nat := 25
abbrev n_impl_Pages_free : Nat := 26
abbrev n_spec_l32Free : Nat := 27
abbrev n_spec_l1NameOk : Nat := 28
abbrev n_spec_l1In : Nat := 29
abbrev n_spec_l32Chain : Nat := 30
abbrev n_impl_Pages_get : Nat := 31
abbrev n_impl_pieces : Nat := 32
abbrev n_p_spec_l1Rd_pick : Nat := 34
abbrev n_spec_l1Many : Nat := 35
abbrev n_impl_within : Nat := 37
abbrev n_spec_DrawPagesGet : Nat := 40
abbrev n_impl_Pages_find : Nat := 41
abbrev n_impl_clonePages : Nat := 42
abbrev n_impl_Pages_dropped : Nat := 43
abbrev n_spec_l32Copy : Nat := 44
abbrev n_spec_l32At : Nat := 45
abbrev n_spec_l32Drop : Nat := 46
abbrev n_impl_nameOk : Nat := 47
abbrev n_impl_Pages_chain : Nat := 48
abbrev n_spec_l61Pages : Nat := 49
abbrev n_spec_l61Spoil : Nat := 50
abbrev n_spec_PagesPut : Nat := 51
abbrev n_spec_l1Dec : Nat := 52
abbrev n_p_spec_l1Rd_of : Nat := 56
abbrev n_slices_IndexFunc_impl_PageName_impl_PageName : Nat := 57
abbrev n_impl_Pages_find_c1 : Nat := 58
abbrev n_slices_Delete_impl_PageName_impl_PageName : Nat := 59
abbrev n_slices_Contains_int_int : Nat := 60
abbrev n_spec_PagesNew : Nat := 61
abbrev n_spec_l61Text : Nat := 62
abbrev n_spec_PagesNeed : Nat := 63
abbrev n_spec_l32Keep : Nat := 64
abbrev n_slices_Index_int_int : Nat := 68
end Go.Proofs.Ytlfnfpdipghdiaa

/- What each function owes, reckoned out, part 1. MADE BY PROGRAM (emit.py). -/
set_option linter.unusedVariables false
namespace Go.Proofs.Ytlfnfpdipghdiaa
open Go.Av renaming vget → G, cellOf → C, pVal → V, pBin → B, pIndexAddr → X, pLoad → L, pField → F, pIf → Q, pExtract → E, pAppend → A, pLen → N, pNew → W
open Go.Proofs.Try renaming prog → P
open Go Go.Av

def esc_laws_FnPagesLeak : Nat → Bool
  | _ => false
def vc_laws_FnPagesLeak (w0 : World) (a0 : Value) (σ : Vw) (R : Value → Vw → Prop) : Prop :=
  N a0 fun v0 => B P 3 .gtr v0 (.int .i64 1048576) fun v1 => Q v1 (R (.bool true) σ) (AC P w0 n_spec_DrawPagesFree [a0] σ fun v2 s3 => V true 2 v2 (AC P w0 n_impl_PagesFree ([.agg (⟨[C v2 0, C v2 1]⟩)]) s3 fun v4 s5 => AC P w0 n_spec_PagesFree ([.agg (⟨[C v2 0, C v2 1]⟩)]) s5 fun v6 s7 => B P 3 .neq v4 v6 fun v8 => Q v8 (R (.bool false) s7) (AC P w0 n_spec_PagesOk ([.agg (⟨[C v2 0, C v2 1]⟩)]) s7 fun v9 s10 => pUn .not v9 fun v11 => Q v11 (B P 3 .eql v4 (.int .i64 0) fun v12 => R v12 s10) (pLoop (fun l13 K14 s15 => N (G l13 4) fun v16 => B P 3 .lss (G l13 2) v16 fun v17 => Q v17 (X 3 (G l13 4) (G l13 2) fun v18 => F 0 v18 fun v19 => L w0 1 v19 s15 fun g20 => AC P w0 n_impl_PagesGet ([.agg (⟨[G l13 3, G l13 4]⟩), g20 0]) s15 fun v21 s22 => E v21 0 fun v23 => E v21 1 fun v24 => pUn .not v24 fun v25 => Q v25 (K14 .ret [.bool false, G l13 1, G l13 2, G l13 3, G l13 4] s22) (pLenS v23 fun v26 => X 3 (G l13 4) (G l13 2) fun v27 => F 2 v27 fun v28 => L w0 1 v28 s22 fun g29 => B P 3 .neq v26 (g29 0) fun v30 => Q v30 (K14 .ret [.bool false, G l13 1, G l13 2, G l13 3, G l13 4] s22) (AC P w0 n_impl_PagesNeed [v23] s22 fun v31 s32 => B P 3 .add (G l13 1) v31 fun v33 => B P 3 .add (G l13 2) (.int .i64 1) fun v34 => K14 .normal [G l13 0, v33, v34, G l13 3, G l13 4] s32))) (K14 (.exit 0) [G l13 0, G l13 1, G l13 2, G l13 3, G l13 4] s15)) [.bool false, v4, .int .i64 0, C v2 0, C v2 1] s10 fun x35 l36 s37 => match x35 with | .normal => B P 3 .eql (G l36 1) (.int .i64 96) (fun v38 => R v38 s37) | .ret => R (G l36 0) s37 | .exit i39 => (match Nat.beq i39 0 with | true => B P 3 .eql (G l36 1) (.int .i64 96) (fun v40 => R v40 s37) | false => False)))))
/-- laws.FnPagesDrop -/
def kp_laws_FnPagesDrop : Nat → Keep
  | 12 => ⟨[], [], [], .step 0 (.step 1 (.step 2 (.step 3 (.step 4 (.step 5 (.step 6 (.step 8 (.step 10 (.step 7 (.step 9 (.step 11 (.step 12 (.step 13 (.step 14 (.step 15 (.step 16 (.step 17 (.step 18 (.step 19 (.done)))))))))))))))))))), [(1, [0]), (2, [0, 1]), (3, [0, 1, 2]), (4, [0, 1, 2, 3]), (5, [0, 1, 2, 3, 4]), (6, [0, 1, 2, 3, 4, 5]), (7, [0, 1, 2, 3, 4, 5, 6]), (8, [0, 1, 2, 3, 4, 5]), (9, [0, 1, 2, 3, 4, 5, 6, 7, 8]), (10, [0, 1, 2, 3, 4, 5]), (11, [0, 1, 2, 3, 4, 5, 6, 7, 8, 9, 10]), (12, [0, 1, 2, 3, 4, 5, 6, 7, 8, 9, 10, 11]), (13, [0, 1, 2, 3, 4, 5, 6, 7, 8, 9, 10, 11, 12]), (14, [0, 1, 2, 3, 4, 5, 6, 7, 8, 9, 10, 11, 12, 13]), (15, [0, 1, 2, 3, 4, 5, 6, 7, 8, 9, 10, 11, 12, 13, 14]), (16, [0, 1, 2, 3, 4, 5, 6, 7, 8, 9, 10, 11, 12, 13, 14, 15]), (17, [0, 1, 2, 3, 4, 5, 6, 7, 8, 9, 10, 11, 12, 13, 14, 15, 16]), (18, [0, 1, 2, 3, 4, 5, 6, 7, 8, 9, 10, 11, 12, 13, 14, 15, 16, 17]), (19, [0, 1, 2, 3, 4, 5, 6, 7, 8, 9, 10, 11, 12, 13, 14, 15, 16, 17, 18])]⟩
  | _ => ⟨[], [], [], .done, []⟩
def esc_laws_FnPagesDrop : Nat → Bool
  | _ => false
def vc_laws_FnPagesDrop (w0 : World) (a0 : Value) (σ : Vw) (R : Value → Vw → Prop) : Prop :=
  N a0 fun v0 => B P 3 .gtr v0 (.int .i64 1048576) fun v1 => Q v1 (R (.bool true) σ) (AC P w0 n_spec_DrawPagesDrop [a0] σ fun v2 s3 => E v2 0 fun v4 => E v2 1 fun v5 => V true 2 v4 (AC P w0 n_impl_PagesDrop ([.agg (⟨[C v4 0, C v4 1]⟩), v5]) s3 fun v6 s7 => E v6 0 fun v8 => E v6 1 fun v9 => V true 2 v8 (AC P w0 n_spec_PagesDrop ([.agg (⟨[C v4 0, C v4 1]⟩), v5]) s7 fun v10 s11 => E v10 0 fun v12 => E v10 1 fun v13 => V true 2 v12 (AC P w0 n_impl_PagesGet ([.agg (⟨[C v4 0, C v4 1]⟩), v5]) s11 fun v14 s15 => E v14 0 fun v16 => E v14 1 fun v17 => B P 3 .neq v9 v13 fun v18 => Q v18 (R (.bool false) s15) (AC P w0 n_laws_wxPages ([.agg (⟨[C v8 0, C v8 1]⟩), .agg (⟨[C v12 0, C v12 1]⟩)]) s15 fun v19 s20 => pUn .not v19 fun v21 => Q v21 (R (.bool false) s20) (B P 3 .neq v9 (.int .i64 0) fun v22 => Q v22 (pUn .not v17 fun v23 => Q v23 (B P 3 .eql v9 (.int .i64 1) fun v24 => Q v24 (R (.bool true) s20) (AC P w0 n_laws_wxPages ([.agg (⟨[C v8 0, C v8 1]⟩), .agg (⟨[C v4 0, C v4 1]⟩)]) s20 fun v25 s26 => R v25 s26)) (R (.bool false) s20)) (AC P w0 n_impl_PagesGet ([.agg (⟨[C v8 0, C v8 1]⟩), v5]) s20 fun v27 s28 => E v27 0 fun v29 => E v27 1 fun v30 => Q v17 (pUn .not v30 fun v31 => Q v31 (AC P w0 n_impl_PagesFree ([.agg (⟨[C v8 0, C v8 1]⟩)]) s28 fun v32 s33 => AC P w0 n_impl_PagesFree ([.agg (⟨[C v4 0, C v4 1]⟩)]) s33 fun v34 s35 => AC P w0 n_impl_PagesNeed [v16] s35 fun v36 s37 => B P 3 .add v34 v36 fun v38 => B P 3 .eql v32 v38 fun v39 => Q v39 (AC P w0 n_impl_PagesOk ([.agg (⟨[C v8 0, C v8 1]⟩)]) s37 fun v40 s41 => R v40 s41) (R (.bool false) s37)) (R (.bool false) s28)) (R (.bool false) s28))))))))
theorem vc_laws_FnPagesDrop_eq (w0 : World) (a0 : Value) (σ : Vw) (R : Value → Vw → Prop) : vc_laws_FnPagesDrop w0 a0 σ R = den Try.prog w0 kp_laws_FnPagesDrop esc_laws_FnPagesDrop (Try.f6.body.getD .skip) (entry Try.f6.ntmps [a0]) σ (retK Try.prog Try.f6.results.toList R) := by kernel_rfl
theorem ac_laws_FnPagesDrop {w0 : World} {a0 : Value} {σ : Vw} {R : Value → Vw → Prop} (h : vc_laws_FnPagesDrop w0 a0 σ R) : AC Try.prog w0 n_laws_FnPagesDrop [a0] σ R := by
  refine ac_rule (fn := Try.f6) (c := Try.f6.body.getD .skip) kp_laws_FnPagesDrop esc_laws_FnPagesDrop Try.func6 (by kernel_rfl) (by kernel_rfl) ?_
  rw [← vc_laws_FnPagesDrop_eq]
  exact h

/-- spec.DrawPagesFree -/
def kp_spec_DrawPagesFree : Nat → Keep
  | _ => ⟨[], [], [], .done, []⟩
def esc_spec_DrawPagesFree : Nat → Bool
  | _ => false
def vc_spec_DrawPagesFree (w0 : World) (a0 : Value) (σ : Vw) (R : Value → Vw → Prop) : Prop :=
  AC P w0 n_spec_l1Open [a0] σ fun v0 s1 => AC P w0 n_spec_l61AnyPages [v0] s1 fun v2 s3 => V true 2 v2 (R (.agg (⟨[C v2 0, C v2 1]⟩)) s3)
theorem vc_spec_DrawPagesFree_eq (w0 : World) (a0 : Value) (σ : Vw) (R : Value → Vw → Prop) : vc_spec_DrawPagesFree w0 a0 σ R = den Try.prog w0 kp_spec_DrawPagesFree esc_spec_DrawPagesFree (Try.f7.body.getD .skip) (entry Try.f7.ntmps [a0]) σ (retK Try.prog Try.f7.results.toList R) := by kernel_rfl
theorem ac_spec_DrawPagesFree {w0 : World} {a0 : Value} {σ : Vw} {R : Value → Vw → Prop} (h : vc_spec_DrawPagesFree w0 a0 σ R) : AC Try.prog w0 n_spec_DrawPagesFree [a0] σ R := by
  refine ac_rule (fn := Try.f7) (c := Try.f7.body.getD .skip) kp_spec_DrawPagesFree esc_spec_DrawPagesFree Try.func7 (by kernel_rfl) (by kernel_rfl) ?_
  rw [← vc_spec_DrawPagesFree_eq]
  exact h

/-- impl.PagesFree -/
def kp_impl_PagesFree : Nat → Keep
  | _ => ⟨[], [], [], .done, []⟩
def esc_impl_PagesFree : Nat → Bool
  | _ => false
def vc_impl_PagesFree (w0 : World) (a0 : Value) (σ : Vw) (R : Value → Vw → Prop) : Prop :=
  V true 2 a0 (AC P w0 n_impl_PagesOk ([.agg (⟨[C a0 0, C a0 1]⟩)]) σ fun v0 s1 => pUn .not v0 fun v2 => Q v2 (R (.int .i64 0) s1) (AC P w0 n_impl_Pages_free ([.agg (⟨[C a0 0, C a0 1]⟩)]) s1 fun v3 s4 => R v3 s4))
theorem vc_impl_PagesFree_eq (w0 : World) (a0 : Value) (σ : Vw) (R : Value → Vw → Prop) : vc_impl_PagesFree w0 a0 σ R = den Try.prog w0 kp_impl_PagesFree esc_impl_PagesFree (Try.f8.body.getD .skip) (entry Try.f8.ntmps [a0]) σ (retK Try.prog Try.f8.results.toList R) := by kernel_rfl
theorem ac_impl_PagesFree {w0 : World} {a0 : Value} {σ : Vw} {R : Value → Vw → Prop} (h : vc_impl_PagesFree w0 a0 σ R) : AC Try.prog w0 n_impl_PagesFree [a0] σ R := by
  refine ac_rule (fn := Try.f8) (c := Try.f8.body.getD .skip) kp_impl_PagesFree esc_impl_PagesFree Try.func8 (by kernel_rfl) (by kernel_rfl) ?_
  rw [← vc_impl_PagesFree_eq]
  exact h

/-- spec.PagesOk -/
def kp_spec_PagesOk : Nat → Keep
  | 5 => ⟨[2, 3, 4], [(1, 2)], [1], .done, []⟩
  | 8 => ⟨[], [], [], .step 0 (.step 1 (.step 2 (.step 3 (.step 4 (.step 5 (.step 6 (.step 7 (.step 8 (.step 9 (.step 10 (.step 11 (.step 12 (.step 13 (.step 14 (.step 15 (.step 16 (.step 17 (.step 18 (.step 19 (.step 20 (.step 21 (.step 22 (.step 23 (.step 24 (.step 25 (.step 26 (.step 27 (.step 28 (.step 29 (.step 30 (.done))))))))))))))))))))))))))))))), [(1, [0]), (2, [0, 1]), (3, [0, 1, 2]), (4, [0, 1, 2, 3]), (5, [0, 1, 2, 3, 4]), (6, [0, 1, 2, 3, 4, 5]), (7, [0, 1, 2, 3, 4, 5, 6]), (8, [0, 1, 2, 3, 4, 5, 6, 7]), (9, [0, 1, 2, 3, 4, 5, 6, 7, 8]), (10, [0, 1, 2, 3, 4, 5, 6, 7]), (11, [0, 1, 2, 3, 4, 5, 6, 7, 10]), (12, [0, 1, 2, 3, 4, 5, 6, 7, 8, 9, 10, 11]), (13, [0, 1, 2, 3, 4, 5, 6, 7, 8, 9, 10, 11, 12]), (14, [0, 1, 2, 3, 4, 5, 6, 7, 8, 9, 10, 11, 12, 13]), (15, [0, 1, 2, 3, 4, 5, 6, 7]), (16, [0, 1, 2, 3, 4, 5, 6, 7, 15]), (17, [0, 1, 2, 3, 4, 5, 6, 7, 8, 9, 10, 11, 12, 13, 14, 15, 16]), (18, [0, 1, 2, 3, 4, 5, 6, 7, 8, 9, 10, 11, 12, 13, 14, 15, 16, 17]), (19, [0, 1, 2, 3, 4, 5, 6, 7, 8, 9, 10, 11, 12, 13, 14, 15, 16, 17, 18]), (20, [0, 1, 2, 3, 4, 5, 6, 7, 8, 9, 10, 11, 12, 13, 14, 15, 16, 17, 18, 19]), (21, [0, 1, 2, 3, 4, 5, 6, 7, 8, 9, 10, 11, 12, 13, 14, 15, 16, 17, 18, 19, 20]), (22, [0, 1, 2, 3, 4, 5, 6, 7, 8, 9, 10, 11, 12, 13, 14, 15, 16, 17, 18, 19, 20, 21]), (23, [0, 1, 2, 3, 4, 5, 6, 7, 8, 9, 10, 11, 12, 13, 14, 15, 16, 17, 18, 19, 20, 21, 22]), (24, [0, 1, 2, 3, 4, 5, 6, 7, 8, 9, 10, 11, 12, 13, 14, 15, 16, 17, 18, 19, 20, 21, 22, 23]), (25, [0, 1, 2, 3, 4, 5, 6, 7, 8, 9, 10, 11, 12, 13, 14, 15, 16, 17, 18, 19, 20, 21, 22, 23, 24]), (26, [0, 1, 2, 3, 4, 5, 6, 7, 8, 9, 10, 11, 12, 13, 14, 15, 16, 17, 18, 19, 20, 21, 22, 23, 24, 25]), (27, [0, 1, 2, 3, 4, 5, 6, 7, 8, 9, 10, 11, 12, 13, 14, 15, 16, 17, 18, 19, 20, 21, 22, 23, 24, 25, 26]), (28, [0, 1, 2, 3, 4, 5, 6, 7, 8, 9, 10, 11, 12, 13, 14, 15, 16, 17, 18, 19, 20, 21, 22, 23, 24, 25, 26, 27]), (29, [0, 1, 2, 3, 4, 5, 6, 7, 8, 9, 10, 11, 12, 13, 14, 15, 16, 17, 18, 19, 20, 21, 22, 23, 24, 25, 26, 27, 28]), (30, [0, 1, 2, 3, 4, 5, 6, 7, 8, 9, 10, 11, 12, 13, 14, 15, 16, 17, 18, 19, 20, 21, 22, 23, 24, 25, 26, 27, 28, 29])]⟩
  | 14 => ⟨[2, 3, 4, 6, 8], [(1, 2)], [1], .done, []⟩
  | 20 => ⟨[2, 3, 9], [(1, 2)], [1], .done, []⟩
  | 23 => ⟨[], [], [], .step 0 (.step 1 (.step 2 (.step 3 (.step 4 (.step 5 (.step 6 (.step 7 (.step 8 (.step 9 (.step 10 (.step 11 (.step 12 (.step 13 (.step 14 (.step 15 (.step 16 (.step 17 (.step 18 (.step 19 (.step 20 (.step 21 (.step 22 (.step 23 (.step 24 (.step 25 (.step 26 (.done))))))))))))))))))))))))))), [(1, [0]), (4, [2, 3]), (5, [2, 3, 4]), (6, [0, 1, 2, 3, 4, 5]), (7, [0, 1, 2, 3, 4, 5, 6]), (8, [0, 1, 2, 3, 4, 5, 6, 7]), (9, [0, 1, 2, 3, 4, 5, 6, 7, 8]), (10, [0, 1, 2, 3, 4, 5, 6, 7, 8, 9]), (11, [0, 1, 2, 3, 4, 5, 6, 7, 8, 9, 10]), (12, [0, 1, 2, 3, 4, 5, 6, 7, 8, 9, 10, 11]), (13, [0, 1, 2, 3, 4, 5, 6, 7, 8, 9, 10, 11, 12]), (14, [0, 1, 2, 3, 4, 5, 6, 7, 8, 9, 10, 11, 12, 13]), (15, [0, 1, 2, 3, 4, 5, 6, 7, 8, 9, 10, 11, 12, 13, 14]), (16, [0, 1, 2, 3, 4, 5, 6, 7, 8, 9, 10, 11, 12, 13, 14, 15]), (17, [0, 1, 2, 3, 4, 5, 6, 7, 8, 9, 10, 11, 12, 13, 14, 15, 16]), (18, [0, 1, 2, 3, 4, 5, 6, 7, 8, 9, 10, 11, 12, 13, 14, 15, 16, 17]), (19, [0, 1, 2, 3, 4, 5, 6, 7, 8, 9, 10, 11, 12, 13, 14, 15, 16, 17, 18]), (20, [0, 1, 2, 3, 4, 5, 6, 7, 8, 9, 10, 11, 12, 13, 14, 15, 16, 17, 18, 19]), (21, [0, 1, 2, 3, 4, 5, 6, 7, 8, 9, 10, 11, 12, 13, 14, 15, 16, 17, 18, 19, 20]), (22, [0, 1, 2, 3, 4, 5, 6, 7, 8, 9, 10, 11, 12, 13, 14, 15, 16, 17, 18, 19, 20, 21]), (23, [0, 1, 2, 3, 4, 5, 6, 7, 8, 9, 10, 11, 12, 13, 14, 15, 16, 17, 18, 19, 20, 21, 22]), (24, [0, 1, 2, 3, 4, 5, 6, 7, 8, 9, 10, 11, 12, 13, 14, 15, 16, 17, 18, 19, 20, 21, 22, 23]), (25, [0, 1, 2, 3, 4, 5, 6, 7, 8, 9, 10, 11, 12, 13, 14, 15, 16, 17, 18, 19, 20, 21, 22, 23, 24]), (26, [0, 1, 2, 3, 4, 5, 6, 7, 8, 9, 10, 11, 12, 13, 14, 15, 16, 17, 18, 19, 20, 21, 22, 23, 24, 25])]⟩
  | _ => ⟨[], [], [], .done, []⟩
def esc_spec_PagesOk : Nat → Bool
  | _ => false
def cs_spec_PagesOk_1 (w0 : World) (g900 : Nat → Value) (s901 : Vw) (K902 : AX → List Value → Vw → Prop) (l903 : List Value) (R : Value → Vw → Prop) : Prop :=
  AC P w0 n_spec_l1In [g900 2, .int .i64 0, .int .i64 3000] s901 (fun v500 s501 => pUn .not v500 fun v502 => Q v502 (K902 .ret [.bool false, G l903 1, G l903 2, G l903 3, G l903 4] s501) (B P 3 .lss (g900 1) (.int .i64 (-1)) fun v503 => Q v503 (K902 .ret [.bool false, G l903 1, G l903 2, G l903 3, G l903 4] s501) (AC P w0 n_spec_l32Chain ([.agg (⟨[G l903 3, G l903 4]⟩), .agg (⟨[g900 0, g900 1, g900 2]⟩)]) s501 fun v504 s505 => E v504 0 fun v506 => E v504 1 fun v507 => pUn .not v507 fun v508 => Q v508 (K902 .ret [.bool false, G l903 1, G l903 2, G l903 3, G l903 4] s505) (pLoop (fun l509 K510 s511 => N (G l509 3) fun v512 => B P 3 .lss (G l509 4) v512 fun v513 => Q v513 (X 1 (G l509 3) (G l509 4) fun v514 => L w0 1 v514 s511 fun g515 => X 1 (G l509 1) (g515 0) fun v516 => L w0 1 v516 s511 fun g517 => Q (g517 0) (K510 .ret [.bool false, G l509 1, G l509 2, G l509 3, G l509 4, G l509 5, G l509 6] s511) (X 1 (G l509 3) (G l509 4) fun v518 => L w0 1 v518 s511 fun g519 => X 1 (G l509 1) (g519 0) fun v520 => V false 1 (.bool true) (pStore v520 [.bool true] s511 fun s521 => B P 3 .add (G l509 4) (.int .i64 1) fun v522 => K510 .normal [G l509 0, G l509 1, G l509 2, G l509 3, v522, G l509 5, G l509 6] s521))) (K510 (.exit 2) [G l509 0, G l509 1, G l509 2, G l509 3, G l509 4, G l509 5, G l509 6] s511)) [G l903 0, G l903 1, G l903 2, v506, .int .i64 0, G l903 3, G l903 4] s505 fun x523 l524 s525 => match x523 with | .normal => B P 3 .add (G l524 2) (.int .i64 1) (fun v526 => K902 .normal [G l524 0, G l524 1, v526, G l524 5, G l524 6] s525) | .ret => K902 .ret [G l524 0, G l524 1, G l524 2, G l524 5, G l524 6] s525 | .exit i527 => (match Nat.beq i527 2 with | true => B P 3 .add (G l524 2) (.int .i64 1) (fun v528 => K902 .normal [G l524 0, G l524 1, v528, G l524 5, G l524 6] s525) | false => (match Nat.beq i527 1 with | true => B P 3 .add (G l524 2) (.int .i64 1) (fun v529 => K902 .normal [G l524 0, G l524 1, v529, G l524 5, G l524 6] s525) | false => K902 (.exit i527) [G l524 0, G l524 1, G l524 2, G l524 5, G l524 6] s525))))))
def cs_spec_PagesOk_2 (w0 : World) (l900 : List Value) (s901 : Vw) (K902 : AX → List Value → Vw → Prop) (R : Value → Vw → Prop) : Prop :=
  N (G l900 3) (fun v500 => B P 3 .lss (G l900 2) v500 fun v501 => Q v501 (X 3 (G l900 3) (G l900 2) fun v502 => L w0 3 v502 s901 fun g503 => V true 3 (.agg (⟨[g503 0, g503 1, g503 2]⟩)) (X 1 (G l900 1) (G l900 2) fun v504 => L w0 1 v504 s901 fun g505 => B P 4 .neq (g503 0) (g505 0) fun v506 => Q v506 (K902 .ret [.bool false, G l900 1, G l900 2, G l900 3, G l900 4] s901) (pUn .not (g503 0) fun v507 => Q v507 (B P 9 .neq (g503 1) (.string ({ data := #[] })) fun v508 => Q v508 (K902 .ret [.bool false, G l900 1, G l900 2, G l900 3, G l900 4] s901) (B P 3 .neq (g503 2) (.int .i64 (-1)) fun v509 => Q v509 (K902 .ret [.bool false, G l900 1, G l900 2, G l900 3, G l900 4] s901) (B P 3 .lss (g503 2) (.int .i64 (-1)) fun v510 => Q v510 (K902 .ret [.bool false, G l900 1, G l900 2, G l900 3, G l900 4] s901) (B P 3 .add (G l900 2) (.int .i64 1) fun v511 => K902 .normal [G l900 0, G l900 1, v511, G l900 3, G l900 4] s901)))) (B P 3 .lss (g503 2) (.int .i64 (-1)) fun v512 => Q v512 (K902 .ret [.bool false, G l900 1, G l900 2, G l900 3, G l900 4] s901) (B P 3 .add (G l900 2) (.int .i64 1) fun v513 => K902 .normal [G l900 0, G l900 1, v513, G l900 3, G l900 4] s901))))) (K902 (.exit 4) [G l900 0, G l900 1, G l900 2, G l900 3, G l900 4] s901))
def vc_spec_PagesOk (w0 : World) (a0 : Value) (σ : Vw) (R : Value → Vw → Prop) : Prop :=
  V true 2 a0 (N (C a0 0) fun v0 => B P 3 .neq v0 (.int .i64 96) fun v1 => Q v1 (R (.bool false) σ) (N (C a0 1) fun v2 => B P 3 .gtr v2 (.int .i64 16) fun v3 => Q v3 (R (.bool false) σ) (pMake w0 4 1 1 [.bool false] (.int .i64 96) (.int .i64 96) σ fun v4 s5 => pLoop (fun l6 K7 s8 => N (G l6 4) fun v9 => B P 3 .lss (G l6 2) v9 fun v10 => Q v10 (X 3 (G l6 4) (G l6 2) fun v11 => L w0 3 v11 s8 fun g12 => V true 3 (.agg (⟨[g12 0, g12 1, g12 2]⟩)) (AC P w0 n_spec_l1NameOk [g12 0] s8 fun v13 s14 => pUn .not v13 fun v15 => Q v15 (K7 .ret [.bool false, G l6 1, G l6 2, G l6 3, G l6 4] s14) (B P 3 .gtr (G l6 2) (.int .i64 0) fun v16 => Q v16 (B P 3 .sub (G l6 2) (.int .i64 1) fun v17 => X 3 (G l6 4) v17 fun v18 => F 0 v18 fun v19 => L w0 1 v19 s14 fun g20 => B P 9 .geq (g20 0) (g12 0) fun v21 => Q v21 (K7 .ret [.bool false, G l6 1, G l6 2, G l6 3, G l6 4] s14) (cs_spec_PagesOk_1 w0 g12 s14 K7 l6 R)) (cs_spec_PagesOk_1 w0 g12 s14 K7 l6 R)))) (K7 (.exit 0) [G l6 0, G l6 1, G l6 2, G l6 3, G l6 4] s8)) [.bool false, v4, .int .i64 0, C a0 0, C a0 1] s5 fun x82 l83 s84 => match x82 with | .normal => pLoop (fun l85 K86 s87 => cs_spec_PagesOk_2 w0 l85 s87 K86 R) [G l83 0, G l83 1, .int .i64 0, G l83 3, G l83 4] s84 (fun x102 l103 s104 => match x102 with | .normal => R (.bool true) s104 | .ret => R (G l103 0) s104 | .exit i105 => (match Nat.beq i105 4 with | true => R (.bool true) s104 | false => False)) | .ret => R (G l83 0) s84 | .exit i106 => (match Nat.beq i106 0 with | true => pLoop (fun l107 K108 s109 => cs_spec_PagesOk_2 w0 l107 s109 K108 R) [G l83 0, G l83 1, .int .i64 0, G l83 3, G l83 4] s84 (fun x124 l125 s126 => match x124 with | .normal => R (.bool true) s126 | .ret => R (G l125 0) s126 | .exit i127 => (match Nat.beq i127 4 with | true => R (.bool true) s126 | false => False)) | false => False))))

theorem vc_spec_PagesOk_eq (w0 : World) (a0 : Value) (σ : Vw) (R : Value → Vw → Prop) : vc_spec_PagesOk w0 a0 σ R = den Try.prog w0 kp_spec_PagesOk esc_spec_PagesOk (Try.f10.body.getD .skip) (entry Try.f10.ntmps [a0]) σ (retK Try.prog Try.f10.results.toList R) := by kernel_rfl
theorem ac_spec_PagesOk {w0 : World} {a0 : Value} {σ : Vw} {R : Value → Vw → Prop} (h : vc_spec_PagesOk w0 a0 σ R) : AC Try.prog w0 n_spec_PagesOk [a0] σ R := by
  refine ac_rule (fn := Try.f10) (c := Try.f10.body.getD .skip) kp_spec_PagesOk esc_spec_PagesOk Try.func10 (by kernel_rfl) (by kernel_rfl) ?_
  rw [← vc_spec_PagesOk_eq]
  exact h

/-- impl.PagesGet -/
def kp_impl_PagesGet : Nat → Keep
  | _ => ⟨[], [], [], .done, []⟩
def esc_impl_PagesGet : Nat → Bool
  | _ => false
def vc_impl_PagesGet (w0 : World) (a0 a1 : Value) (σ : Vw) (R : Value → Vw → Prop) : Prop :=
  V true 2 a0 (AC P w0 n_impl_PagesOk ([.agg (⟨[C a0 0, C a0 1]⟩)]) σ fun v0 s1 => pUn .not v0 fun v2 => Q v2 (R (.tuple (⟨[.string ({ data := #[] }), .bool false]⟩)) s1) (AC P w0 n_impl_Pages_get ([.agg (⟨[C a0 0, C a0 1]⟩), a1]) s1 fun v3 s4 => E v3 0 fun v5 => E v3 1 fun v6 => R (.tuple (⟨[v5, v6]⟩)) s4))
theorem vc_impl_PagesGet_eq (w0 : World) (a0 a1 : Value) (σ : Vw) (R : Value → Vw → Prop) : vc_impl_PagesGet w0 a0 a1 σ R = den Try.prog w0 kp_impl_PagesGet esc_impl_PagesGet (Try.f11.body.getD .skip) (entry Try.f11.ntmps [a0, a1]) σ (retK Try.prog Try.f11.results.toList R) := by kernel_rfl
theorem ac_impl_PagesGet {w0 : World} {a0 a1 : Value} {σ : Vw} {R : Value → Vw → Prop} (h : vc_impl_PagesGet w0 a0 a1 σ R) : AC Try.prog w0 n_impl_PagesGet [a0, a1] σ R := by
  refine ac_rule (fn := Try.f11) (c := Try.f11.body.getD .skip) kp_impl_PagesGet esc_impl_PagesGet Try.func11 (by kernel_rfl) (by kernel_rfl) ?_
  rw [← vc_impl_PagesGet_eq]
  exact h

/-- impl.PagesNeed -/
def kp_impl_PagesNeed : Nat → Keep
  | _ => ⟨[], [], [], .done, []⟩
def esc_impl_PagesNeed : Nat → Bool
  | _ => false
def vc_impl_PagesNeed (w0 : World) (a0 : Value) (σ : Vw) (R : Value → Vw → Prop) : Prop :=
  pLenS a0 fun v0 => AC P w0 n_impl_pieces [v0, .int .i64 40] σ fun v1 s2 => R v1 s2
theorem vc_impl_PagesNeed_eq (w0 : World) (a0 : Value) (σ : Vw) (R : Value → Vw → Prop) : vc_impl_PagesNeed w0 a0 σ R = den Try.prog w0 kp_impl_PagesNeed esc_impl_PagesNeed (Try.f12.body.getD .skip) (entry Try.f12.ntmps [a0]) σ (retK Try.prog Try.f12.results.toList R) := by kernel_rfl
theorem ac_impl_PagesNeed {w0 : World} {a0 : Value} {σ : Vw} {R : Value → Vw → Prop} (h : vc_impl_PagesNeed w0 a0 σ R) : AC Try.prog w0 n_impl_PagesNeed [a0] σ R := by
  refine ac_rule (fn := Try.f12) (c := Try.f12.body.getD .skip) kp_impl_PagesNeed esc_impl_PagesNeed Try.func12 (by kernel_rfl) (by kernel_rfl) ?_
  rw [← vc_impl_PagesNeed_eq]
  exact h

/-- spec.DiskOk -/
def kp_spec_DiskOk : Nat → Keep
  | 2 => ⟨[2, 3], [(1, 1)], [1], .done, []⟩
  | _ => ⟨[], [], [], .done, []⟩
/-- spec.DrawPagesDrop -/
def kp_spec_DrawPagesDrop : Nat → Keep
  | _ => ⟨[], [], [], .done, []⟩
def esc_spec_DrawPagesDrop : Nat → Bool
  | _ => false
def vc_spec_DrawPagesDrop (w0 : World) (a0 : Value) (σ : Vw) (R : Value → Vw → Prop) : Prop :=
  AC P w0 n_spec_DrawPagesGet [a0] σ fun v0 s1 => E v0 0 fun v2 => E v0 1 fun v3 => V true 2 v2 (R (.tuple (⟨[.agg (⟨[C v2 0, C v2 1]⟩), v3]⟩)) s1)
theorem vc_spec_DrawPagesDrop_eq (w0 : World) (a0 : Value) (σ : Vw) (R : Value → Vw → Prop) : vc_spec_DrawPagesDrop w0 a0 σ R = den Try.prog w0 kp_spec_DrawPagesDrop esc_spec_DrawPagesDrop (Try.f19.body.getD .skip) (entry Try.f19.ntmps [a0]) σ (retK Try.prog Try.f19.results.toList R) := by kernel_rfl
theorem ac_spec_DrawPagesDrop {w0 : World} {a0 : Value} {σ : Vw} {R : Value → Vw → Prop} (h : vc_spec_DrawPagesDrop w0 a0 σ R) : AC Try.prog w0 n_spec_DrawPagesDrop [a0] σ R := by
  refine ac_rule (fn := Try.f19) (c := Try.f19.body.getD .skip) kp_spec_DrawPagesDrop esc_spec_DrawPagesDrop Try.func19 (by kernel_rfl) (by kernel_rfl) ?_
  rw [← vc_spec_DrawPagesDrop_eq]
  exact h

/-- impl.PagesDrop -/
def kp_impl_PagesDrop : Nat → Keep
  | _ => ⟨[], [], [], .done, []⟩
def esc_impl_PagesDrop : Nat → Bool
  | _ => false
def vc_impl_PagesDrop (w0 : World) (a0 a1 : Value) (σ : Vw) (R : Value → Vw → Prop) : Prop :=
  V true 2 a0 (AC P w0 n_impl_PagesOk ([.agg (⟨[C a0 0, C a0 1]⟩)]) σ fun v0 s1 => pUn .not v0 fun v2 => Q v2 (V true 2 (.agg (⟨[.slice none 0 0, .slice none 0 0]⟩)) (R (.tuple (⟨[.agg (⟨[.slice none 0 0, .slice none 0 0]⟩), .int .i64 1]⟩)) s1)) (AC P w0 n_impl_Pages_find ([.agg (⟨[C a0 0, C a0 1]⟩), a1]) s1 fun v3 s4 => B P 3 .lss v3 (.int .i64 0) fun v5 => Q v5 (AC P w0 n_impl_clonePages ([.agg (⟨[C a0 0, C a0 1]⟩)]) s4 fun v6 s7 => V true 2 v6 (R (.tuple (⟨[.agg (⟨[C v6 0, C v6 1]⟩), .int .i64 3]⟩)) s7)) (AC P w0 n_impl_Pages_dropped ([.agg (⟨[C a0 0, C a0 1]⟩), a1]) s4 fun v8 s9 => V true 2 v8 (R (.tuple (⟨[.agg (⟨[C v8 0, C v8 1]⟩), .int .i64 0]⟩)) s9))))
theorem vc_impl_PagesDrop_eq (w0 : World) (a0 a1 : Value) (σ : Vw) (R : Value → Vw → Prop) : vc_impl_PagesDrop w0 a0 a1 σ R = den Try.prog w0 kp_impl_PagesDrop esc_impl_PagesDrop (Try.f20.body.getD .skip) (entry Try.f20.ntmps [a0, a1]) σ (retK Try.prog Try.f20.results.toList R) := by kernel_rfl
theorem ac_impl_PagesDrop {w0 : World} {a0 a1 : Value} {σ : Vw} {R : Value → Vw → Prop} (h : vc_impl_PagesDrop w0 a0 a1 σ R) : AC Try.prog w0 n_impl_PagesDrop [a0, a1] σ R := by
  refine ac_rule (fn := Try.f20) (c := Try.f20.body.getD .skip) kp_impl_PagesDrop esc_impl_PagesDrop Try.func20 (by kernel_rfl) (by kernel_rfl) ?_
  rw [← vc_impl_PagesDrop_eq]
  exact h

/-- spec.PagesDrop -/
def kp_spec_PagesDrop : Nat → Keep
  | _ => ⟨[], [], [], .done, []⟩
def esc_spec_PagesDrop : Nat → Bool
  | _ => false
def vc_spec_PagesDrop (w0 : World) (a0 a1 : Value) (σ : Vw) (R : Value → Vw → Prop) : Prop :=
  V true 2 a0 (AC P w0 n_spec_PagesOk ([.agg (⟨[C a0 0, C a0 1]⟩)]) σ fun v0 s1 => pUn .not v0 fun v2 => Q v2 (V true 2 (.agg (⟨[.slice none 0 0, .slice none 0 0]⟩)) (R (.tuple (⟨[.agg (⟨[.slice none 0 0, .slice none 0 0]⟩), .int .i64 1]⟩)) s1)) (AC P w0 n_spec_l32Copy ([.agg (⟨[C a0 0, C a0 1]⟩)]) s1 fun v3 s4 => V true 2 v3 (AC P w0 n_spec_l32At ([.agg (⟨[C v3 0, C v3 1]⟩), a1]) s4 fun v5 s6 => B P 3 .lss v5 (.int .i64 0) fun v7 => Q v7 (V true 2 (.agg (⟨[C v3 0, C v3 1]⟩)) (R (.tuple (⟨[.agg (⟨[C v3 0, C v3 1]⟩), .int .i64 3]⟩)) s6)) (AC P w0 n_spec_l32Drop ([.agg (⟨[C v3 0, C v3 1]⟩), v5]) s6 fun v8 s9 => AC P w0 n_spec_l32Copy [v8] s9 fun v10 s11 => V true 2 v10 (R (.tuple (⟨[.agg (⟨[C v10 0, C v10 1]⟩), .int .i64 0]⟩)) s11)))))
theorem vc_spec_PagesDrop_eq (w0 : World) (a0 a1 : Value) (σ : Vw) (R : Value → Vw → Prop) : vc_spec_PagesDrop w0 a0 a1 σ R = den Try.prog w0 kp_spec_PagesDrop esc_spec_PagesDrop (Try.f21.body.getD .skip) (entry Try.f21.ntmps [a0, a1]) σ (retK Try.prog Try.f21.results.toList R) := by kernel_rfl
theorem ac_spec_PagesDrop {w0 : World} {a0 a1 : Value} {σ : Vw} {R : Value → Vw → Prop} (h : vc_spec_PagesDrop w0 a0 a1 σ R) : AC Try.prog w0 n_spec_PagesDrop [a0, a1] σ R := by
  refine ac_rule (fn := Try.f21) (c := Try.f21.body.getD .skip) kp_spec_PagesDrop esc_spec_PagesDrop Try.func21 (by kernel_rfl) (by kernel_rfl) ?_
  rw [← vc_spec_PagesDrop_eq]
  exact h

/-- laws.wxPages -/
def kp_laws_wxPages : Nat → Keep
  | 4 => ⟨[4, 5], [(2, 2), (3, 2)], [2, 3], .done, []⟩
  | 6 => ⟨[], [], [], .step 0 (.step 1 (.step 2 (.step 3 (.step 4 (.step 5 (.step 6 (.step 7 (.step 8 (.step 9 (.step 10 (.done))))))))))), [(1, [0]), (3, [0, 1, 2]), (4, [0, 1, 2, 3]), (6, [5]), (8, [5, 6, 7]), (9, [5, 6, 7, 8]), (10, [0, 1, 2, 3, 4, 5, 6, 7, 8, 9])]⟩
  | 9 => ⟨[4, 6], [(2, 2), (3, 2)], [2, 3], .done, []⟩
  | 11 => ⟨[], [], [], .step 0 (.step 1 (.step 2 (.step 3 (.step 4 (.step 5 (.step 6 (.step 7 (.step 8 (.step 9 (.step 10 (.done))))))))))), [(1, [0]), (3, [0, 1, 2]), (4, [0, 1, 2, 3]), (6, [5]), (8, [5, 6, 7]), (9, [5, 6, 7, 8]), (10, [0, 1, 2, 3, 4, 5, 6, 7, 8, 9])]⟩
  | _ => ⟨[], [], [], .done, []⟩
def esc_laws_wxPages : Nat → Bool
  | _ => false
def cs_laws_wxPages_1 (w0 : World) (l900 : List Value) (s901 : Vw) (K902 : AX → List Value → Vw → Prop) (R : Value → Vw → Prop) : Prop :=
  N (G l900 3) (fun v500 => B P 3 .lss (G l900 1) v500 fun v501 => Q v501 (X 3 (G l900 3) (G l900 1) fun v502 => L w0 3 v502 s901 fun g503 => X 3 (G l900 5) (G l900 1) fun v504 => L w0 3 v504 s901 fun g505 => B P 33 .neq (.agg (⟨[g503 0, g503 1, g503 2]⟩)) (.agg (⟨[g505 0, g505 1, g505 2]⟩)) fun v506 => Q v506 (K902 .ret [.bool false, G l900 1, G l900 2, G l900 3, G l900 4, G l900 5] s901) (B P 3 .add (G l900 1) (.int .i64 1) fun v507 => K902 .normal [G l900 0, v507, G l900 2, G l900 3, G l900 4, G l900 5] s901)) (K902 (.exit 2) [G l900 0, G l900 1, G l900 2, G l900 3, G l900 4, G l900 5] s901))
def vc_laws_wxPages (w0 : World) (a0 a1 : Value) (σ : Vw) (R : Value → Vw → Prop) : Prop :=
  V true 2 a0 (V true 2 a1 (N (C a0 0) fun v0 => N (C a1 0) fun v1 => B P 3 .neq v0 v1 fun v2 => Q v2 (R (.bool false) σ) (N (C a0 1) fun v3 => N (C a1 1) fun v4 => B P 3 .neq v3 v4 fun v5 => Q v5 (R (.bool false) σ) (pLoop (fun l6 K7 s8 => N (G l6 2) fun v9 => B P 3 .lss (G l6 1) v9 fun v10 => Q v10 (X 3 (G l6 2) (G l6 1) fun v11 => L w0 3 v11 s8 fun g12 => X 3 (G l6 4) (G l6 1) fun v13 => L w0 3 v13 s8 fun g14 => B P 63 .neq (.agg (⟨[g12 0, g12 1, g12 2]⟩)) (.agg (⟨[g14 0, g14 1, g14 2]⟩)) fun v15 => Q v15 (K7 .ret [.bool false, G l6 1, G l6 2, G l6 3, G l6 4, G l6 5] s8) (B P 3 .add (G l6 1) (.int .i64 1) fun v16 => K7 .normal [G l6 0, v16, G l6 2, G l6 3, G l6 4, G l6 5] s8)) (K7 (.exit 0) [G l6 0, G l6 1, G l6 2, G l6 3, G l6 4, G l6 5] s8)) [.bool false, .int .i64 0, C a0 0, C a0 1, C a1 0, C a1 1] σ fun x17 l18 s19 => match x17 with | .normal => pLoop (fun l20 K21 s22 => cs_laws_wxPages_1 w0 l20 s22 K21 R) [G l18 0, .int .i64 0, G l18 2, G l18 3, G l18 4, G l18 5] s19 (fun x31 l32 s33 => match x31 with | .normal => R (.bool true) s33 | .ret => R (G l32 0) s33 | .exit i34 => (match Nat.beq i34 2 with | true => R (.bool true) s33 | false => False)) | .ret => R (G l18 0) s19 | .exit i35 => (match Nat.beq i35 0 with | true => pLoop (fun l36 K37 s38 => cs_laws_wxPages_1 w0 l36 s38 K37 R) [G l18 0, .int .i64 0, G l18 2, G l18 3, G l18 4, G l18 5] s19 (fun x47 l48 s49 => match x47 with | .normal => R (.bool true) s49 | .ret => R (G l48 0) s49 | .exit i50 => (match Nat.beq i50 2 with | true => R (.bool true) s49 | false => False)) | false => False)))))

theorem vc_laws_wxPages_eq (w0 : World) (a0 a1 : Value) (σ : Vw) (R : Value → Vw → Prop) : vc_laws_wxPages w0 a0 a1 σ R = den Try.prog w0 kp_laws_wxPages esc_laws_wxPages (Try.f22.body.getD .skip) (entry Try.f22.ntmps [a0, a1]) σ (retK Try.prog Try.f22.results.toList R) := by kernel_rfl
theorem ac_laws_wxPages {w0 : World} {a0 a1 : Value} {σ : Vw} {R : Value → Vw → Prop} (h : vc_laws_wxPages w0 a0 a1 σ R) : AC Try.prog w0 n_laws_wxPages [a0, a1] σ R := by
  refine ac_rule (fn := Try.f22) (c := Try.f22.body.getD .skip) kp_laws_wxPages esc_laws_wxPages Try.func22 (by kernel_rfl) (by kernel_rfl) ?_
  rw [← vc_laws_wxPages_eq]
  exact h

/-- impl.PagesOk -/
def kp_impl_PagesOk : Nat → Keep
  | 5 => ⟨[2, 3, 24, 25, 26], [(1, 2)], [1], .done, []⟩
  | 7 => ⟨[], [], [], .step 0 (.step 1 (.step 2 (.step 3 (.step 4 (.step 5 (.step 6 (.step 7 (.step 8 (.step 9 (.step 10 (.step 11 (.step 12 (.step 13 (.step 14 (.step 15 (.step 16 (.step 17 (.step 18 (.step 19 (.step 20 (.step 21 (.step 22 (.step 23 (.step 24 (.step 25 (.done)))))))))))))))))))))))))), [(1, [0]), (2, [0, 1]), (3, [0, 1, 2]), (4, [0, 1, 2, 3]), (5, [0, 1, 2, 3, 4]), (6, [0, 1, 2, 3, 4, 5]), (7, [0, 1, 2, 3, 4, 5, 6]), (8, [0, 1, 2, 3, 4, 5, 6, 7]), (9, [0, 1, 2, 3, 4, 5, 6, 7, 8]), (10, [0, 1, 2, 3, 4, 5, 6, 7]), (11, [0, 1, 2, 3, 4, 5, 6, 7, 10]), (12, [0, 1, 2, 3, 4, 5, 6, 7, 8, 9, 10, 11]), (13, [0, 1, 2, 3, 4, 5, 6, 7, 8, 9, 10, 11, 12]), (14, [0, 1, 2, 3, 4, 5, 6, 7, 8, 9, 10, 11, 12, 13]), (15, [0, 1, 2, 3, 4, 5, 6, 7]), (16, [0, 1, 2, 3, 4, 5, 6, 7, 15]), (17, [0, 1, 2, 3, 4, 5, 6, 7, 8, 9, 10, 11, 12, 13, 14, 15, 16]), (18, [0, 1, 2, 3, 4, 5, 6, 7, 8, 9, 10, 11, 12, 13, 14, 15, 16, 17]), (19, [0, 1, 2, 3, 4, 5, 6, 7, 8, 9, 10, 11, 12, 13, 14, 15, 16, 17, 18]), (20, [0, 1, 2, 3, 4, 5, 6, 7, 8, 9, 10, 11, 12, 13, 14, 15, 16, 17, 18, 19]), (21, [0, 1, 2, 3, 4, 5, 6, 7, 8, 9, 10, 11, 12, 13, 14, 15, 16, 17, 18, 19, 20]), (22, [0, 1, 2, 3, 4, 5, 6, 7, 8, 9, 10, 11, 12, 13, 14, 15, 16, 17, 18, 19, 20, 21]), (23, [0, 1, 2, 3, 4, 5, 6, 7, 8, 9, 10, 11, 12, 13, 14, 15, 16, 17, 18, 19, 20, 21, 22]), (24, [0, 1, 2, 3, 4, 5, 6, 7, 8, 9, 10, 11, 12, 13, 14, 15, 16, 17, 18, 19, 20, 21, 22, 23]), (25, [0, 1, 2, 3, 4, 5, 6, 7, 8, 9, 10, 11, 12, 13, 14, 15, 16, 17, 18, 19, 20, 21, 22, 23, 24])]⟩
  | 13 => ⟨[2, 3, 24, 25, 26, 65, 66, 67], [(1, 2)], [1], .done, []⟩
  | 21 => ⟨[2, 3, 79, 80, 81], [], [], .done, []⟩
  | _ => ⟨[], [], [], .done, []⟩
def esc_impl_PagesOk : Nat → Bool
  | 3 => true
  | _ => false
def cs_impl_PagesOk_1 (w0 : World) (g900 : Nat → Value) (s901 : Vw) (K902 : AX → List Value → Vw → Prop) (l903 : List Value) (R : Value → Vw → Prop) : Prop :=
  AC P w0 n_impl_within [g900 2, .int .i64 0, .int .i64 3000] s901 (fun v500 s501 => pUn .not v500 fun v502 => Q v502 (K902 .ret [.bool false, G l903 1, G l903 2, G l903 3, G l903 4, G l903 5, G l903 6] s501) (AC P w0 n_impl_Pages_chain ([.agg (⟨[G l903 5, G l903 6]⟩), .agg (⟨[g900 0, g900 1, g900 2]⟩)]) s501 fun v503 s504 => E v503 0 fun v505 => E v503 1 fun v506 => pUn .not v506 fun v507 => Q v507 (K902 .ret [.bool false, G l903 1, G l903 2, G l903 3, G l903 4, G l903 5, G l903 6] s504) (N v505 fun v508 => pLoop (fun l509 K510 s511 => B P 3 .lss (G l509 7) (G l509 6) fun v512 => Q v512 (X 1 (G l509 5) (G l509 7) fun v513 => L w0 1 v513 s511 fun g514 => pIndexArr 96 1 (G l509 1) (g514 0) fun v515 => L w0 1 v515 s511 fun g516 => Q (g516 0) (K510 .ret [.bool false, G l509 1, G l509 2, G l509 3, G l509 4, G l509 5, G l509 6, G l509 7, G l509 8, G l509 9] s511) (pIndexArr 96 1 (G l509 1) (g514 0) fun v517 => V false 1 (.bool true) (pStore v517 [.bool true] s511 fun s518 => B P 3 .add (G l509 7) (.int .i64 1) fun v519 => K510 .normal [G l509 0, G l509 1, G l509 2, G l509 3, G l509 4, G l509 5, G l509 6, v519, G l509 8, G l509 9] s518))) (K510 (.exit 2) [G l509 0, G l509 1, G l509 2, G l509 3, G l509 4, G l509 5, G l509 6, G l509 7, G l509 8, G l509 9] s511)) [G l903 0, G l903 1, G l903 2, G l903 3, G l903 4, v505, v508, .int .i64 0, G l903 5, G l903 6] s504 fun x520 l521 s522 => match x520 with | .normal => B P 3 .add (G l521 4) (.int .i64 1) (fun v523 => K902 .normal [G l521 0, G l521 1, G l521 2, G l521 3, v523, G l521 8, G l521 9] s522) | .ret => K902 .ret [G l521 0, G l521 1, G l521 2, G l521 3, G l521 4, G l521 8, G l521 9] s522 | .exit i524 => (match Nat.beq i524 2 with | true => B P 3 .add (G l521 4) (.int .i64 1) (fun v525 => K902 .normal [G l521 0, G l521 1, G l521 2, G l521 3, v525, G l521 8, G l521 9] s522) | false => (match Nat.beq i524 1 with | true => B P 3 .add (G l521 4) (.int .i64 1) (fun v526 => K902 .normal [G l521 0, G l521 1, G l521 2, G l521 3, v526, G l521 8, G l521 9] s522) | false => K902 (.exit i524) [G l521 0, G l521 1, G l521 2, G l521 3, G l521 4, G l521 8, G l521 9] s522)))))
def cs_impl_PagesOk_2 (w0 : World) (l900 : List Value) (v901 : Value) (s902 : Vw) (R : Value → Vw → Prop) : Prop :=
  pLoop (fun l500 K501 s502 => B P 3 .lss (G l500 4) (G l500 3) fun v503 => Q v503 (X 3 (G l500 2) (G l500 4) fun v504 => L w0 3 v504 s502 fun g505 => V true 3 (.agg (⟨[g505 0, g505 1, g505 2]⟩)) (pIndexArr 96 1 (G l500 1) (G l500 4) fun v506 => L w0 1 v506 s502 fun g507 => pUn .not (g507 0) fun v508 => Q v508 (Q (g505 0) (K501 .ret [.bool false, G l500 1, G l500 2, G l500 3, G l500 4] s502) (B P 9 .neq (g505 1) (.string ({ data := #[] })) fun v509 => Q v509 (K501 .ret [.bool false, G l500 1, G l500 2, G l500 3, G l500 4] s502) (B P 3 .neq (g505 2) (.int .i64 (-1)) fun v510 => Q v510 (K501 .ret [.bool false, G l500 1, G l500 2, G l500 3, G l500 4] s502) (B P 3 .add (G l500 4) (.int .i64 1) fun v511 => K501 .normal [G l500 0, G l500 1, G l500 2, G l500 3, v511] s502)))) (B P 3 .add (G l500 4) (.int .i64 1) fun v512 => K501 .normal [G l500 0, G l500 1, G l500 2, G l500 3, v512] s502))) (K501 (.exit 4) [G l500 0, G l500 1, G l500 2, G l500 3, G l500 4] s502)) [G l900 0, G l900 1, G l900 5, v901, .int .i64 0] s902 (fun x513 l514 s515 => match x513 with | .normal => R (.bool true) s515 | .ret => R (G l514 0) s515 | .exit i516 => (match Nat.beq i516 4 with | true => R (.bool true) s515 | false => False))
def vc_impl_PagesOk (w0 : World) (a0 : Value) (σ : Vw) (R : Value → Vw → Prop) : Prop :=
  V true 2 a0 (N (C a0 0) fun v0 => B P 3 .neq v0 (.int .i64 96) fun v1 => Q v1 (R (.bool false) σ) (N (C a0 1) fun v2 => B P 3 .gtr v2 (.int .i64 16) fun v3 => Q v3 (R (.bool false) σ) (W w0 75 [.bool false, .bool false, .bool false, .bool false, .bool false, .bool false, .bool false, .bool false, .bool false, .bool false, .bool false, .bool false, .bool false, .bool false, .bool false, .bool false, .bool false, .bool false, .bool false, .bool false, .bool false, .bool false, .bool false, .bool false, .bool false, .bool false, .bool false, .bool false, .bool false, .bool false, .bool false, .bool false, .bool false, .bool false, .bool false, .bool false, .bool false, .bool false, .bool false, .bool false, .bool false, .bool false, .bool false, .bool false, .bool false, .bool false, .bool false, .bool false, .bool false, .bool false, .bool false, .bool false, .bool false, .bool false, .bool false, .bool false, .bool false, .bool false, .bool false, .bool false, .bool false, .bool false, .bool false, .bool false, .bool false, .bool false, .bool false, .bool false, .bool false, .bool false, .bool false, .bool false, .bool false, .bool false, .bool false, .bool false, .bool false, .bool false, .bool false, .bool false, .bool false, .bool false, .bool false, .bool false, .bool false, .bool false, .bool false, .bool false, .bool false, .bool false, .bool false, .bool false, .bool false, .bool false, .bool false, .bool false] σ fun n4 s5 => V true 96 (.agg (⟨[.bool false, .bool false, .bool false, .bool false, .bool false, .bool false, .bool false, .bool false, .bool false, .bool false, .bool false, .bool false, .bool false, .bool false, .bool false, .bool false, .bool false, .bool false, .bool false, .bool false, .bool false, .bool false, .bool false, .bool false, .bool false, .bool false, .bool false, .bool false, .bool false, .bool false, .bool false, .bool false, .bool false, .bool false, .bool false, .bool false, .bool false, .bool false, .bool false, .bool false, .bool false, .bool false, .bool false, .bool false, .bool false, .bool false, .bool false, .bool false, .bool false, .bool false, .bool false, .bool false, .bool false, .bool false, .bool false, .bool false, .bool false, .bool false, .bool false, .bool false, .bool false, .bool false, .bool false, .bool false, .bool false, .bool false, .bool false, .bool false, .bool false, .bool false, .bool false, .bool false, .bool false, .bool false, .bool false, .bool false, .bool false, .bool false, .bool false, .bool false, .bool false, .bool false, .bool false, .bool false, .bool false, .bool false, .bool false, .bool false, .bool false, .bool false, .bool false, .bool false, .bool false, .bool false, .bool false, .bool false]⟩)) (pStore (.pointer (some (Addr.mk n4 0 none))) [.bool false, .bool false, .bool false, .bool false, .bool false, .bool false, .bool false, .bool false, .bool false, .bool false, .bool false, .bool false, .bool false, .bool false, .bool false, .bool false, .bool false, .bool false, .bool false, .bool false, .bool false, .bool false, .bool false, .bool false, .bool false, .bool false, .bool false, .bool false, .bool false, .bool false, .bool false, .bool false, .bool false, .bool false, .bool false, .bool false, .bool false, .bool false, .bool false, .bool false, .bool false, .bool false, .bool false, .bool false, .bool false, .bool false, .bool false, .bool false, .bool false, .bool false, .bool false, .bool false, .bool false, .bool false, .bool false, .bool false, .bool false, .bool false, .bool false, .bool false, .bool false, .bool false, .bool false, .bool false, .bool false, .bool false, .bool false, .bool false, .bool false, .bool false, .bool false, .bool false, .bool false, .bool false, .bool false, .bool false, .bool false, .bool false, .bool false, .bool false, .bool false, .bool false, .bool false, .bool false, .bool false, .bool false, .bool false, .bool false, .bool false, .bool false, .bool false, .bool false, .bool false, .bool false, .bool false, .bool false] s5 fun s6 => N (C a0 1) fun v7 => pLoop (fun l8 K9 s10 => B P 3 .lss (G l8 4) (G l8 3) fun v11 => Q v11 (X 3 (G l8 2) (G l8 4) fun v12 => L w0 3 v12 s10 fun g13 => V true 3 (.agg (⟨[g13 0, g13 1, g13 2]⟩)) (AC P w0 n_impl_nameOk [g13 0] s10 fun v14 s15 => pUn .not v14 fun v16 => Q v16 (K9 .ret [.bool false, G l8 1, G l8 2, G l8 3, G l8 4, G l8 5, G l8 6] s15) (B P 3 .gtr (G l8 4) (.int .i64 0) fun v17 => Q v17 (B P 3 .sub (G l8 4) (.int .i64 1) fun v18 => X 3 (G l8 6) v18 fun v19 => F 0 v19 fun v20 => L w0 1 v20 s15 fun g21 => B P 9 .geq (g21 0) (g13 0) fun v22 => Q v22 (K9 .ret [.bool false, G l8 1, G l8 2, G l8 3, G l8 4, G l8 5, G l8 6] s15) (cs_impl_PagesOk_1 w0 g13 s15 K9 l8 R)) (cs_impl_PagesOk_1 w0 g13 s15 K9 l8 R)))) (K9 (.exit 0) [G l8 0, G l8 1, G l8 2, G l8 3, G l8 4, G l8 5, G l8 6] s10)) [.bool false, .pointer (some (Addr.mk n4 0 none)), C a0 1, v7, .int .i64 0, C a0 0, C a0 1] s6 fun x77 l78 s79 => match x77 with | .normal => N (G l78 5) (fun v80 => cs_impl_PagesOk_2 w0 l78 v80 s79 R) | .ret => R (G l78 0) s79 | .exit i98 => (match Nat.beq i98 0 with | true => N (G l78 5) (fun v99 => cs_impl_PagesOk_2 w0 l78 v99 s79 R) | false => False)))))

theorem vc_impl_PagesOk_eq (w0 : World) (a0 : Value) (σ : Vw) (R : Value → Vw → Prop) : vc_impl_PagesOk w0 a0 σ R = den Try.prog w0 kp_impl_PagesOk esc_impl_PagesOk (Try.f23.body.getD .skip) (entry Try.f23.ntmps [a0]) σ (retK Try.prog Try.f23.results.toList R) := by kernel_rfl
theorem ac_impl_PagesOk {w0 : World} {a0 : Value} {σ : Vw} {R : Value → Vw → Prop} (h : vc_impl_PagesOk w0 a0 σ R) : AC Try.prog w0 n_impl_PagesOk [a0] σ R := by
  refine ac_rule (fn := Try.f23) (c := Try.f23.body.getD .skip) kp_impl_PagesOk esc_impl_PagesOk Try.func23 (by kernel_rfl) (by kernel_rfl) ?_
  rw [← vc_impl_PagesOk_eq]
  exact h

/-- spec.l61AnyPages -/
def kp_spec_l61AnyPages : Nat → Keep
  | 7 => ⟨[4], [(2, 2), (3, 2)], [2, 3], .done, []⟩
  | 9 => ⟨[], [], [], .step 0 (.step 1 (.step 2 (.step 3 (.step 4 (.step 5 (.step 6 (.step 7 (.step 8 (.done))))))))), [(2, [1]), (3, [1, 2]), (4, [0, 1, 2, 3]), (5, [0, 1, 2, 3, 4]), (6, [0, 1, 2, 3, 4, 5]), (7, [0, 1, 2, 3, 4, 5]), (8, [0, 1, 2, 3, 4, 5, 6])]⟩
  | 11 => ⟨[], [], [], .step 0 (.step 1 (.step 2 (.step 3 (.step 4 (.step 5 (.step 6 (.done))))))), [(2, [0, 1]), (3, [0, 1, 2]), (4, [0, 1, 2, 3]), (5, [0, 1, 2, 3]), (6, [0, 1, 2, 3, 4])]⟩
  | _ => ⟨[], [], [], .done, []⟩
def esc_spec_l61AnyPages : Nat → Bool
  | _ => false
def vc_spec_l61AnyPages (w0 : World) (a0 : Value) (σ : Vw) (R : Value → Vw → Prop) : Prop :=
  AC P w0 n_spec_l61Pages [a0] σ fun v0 s1 => V true 2 v0 (AC P w0 n_p_spec_l1Rd_pick [a0, .int .i64 20] s1 fun v2 s3 => B P 3 .eql v2 (.int .i64 0) fun v4 => Q v4 (AC P w0 n_spec_l61Spoil ([a0, .agg (⟨[C v0 0, C v0 1]⟩)]) s3 fun v5 s6 => V true 2 v5 (R (.agg (⟨[C v5 0, C v5 1]⟩)) s6)) (B P 3 .eql v2 (.int .i64 1) fun v7 => Q v7 (pLoop (fun l8 K9 s10 => N (G l8 4) fun v11 => B P 3 .lss v11 (.int .i64 16) fun v12 => Q v12 (B P 3 .lss (G l8 0) (.int .i64 20) fun v13 => Q v13 (AC P w0 n_spec_l1Dec [G l8 0] s10 fun v14 s15 => B P 9 .add (.string ({ data := #[110] })) v14 fun v16 => AC P w0 n_spec_PagesPut ([.agg (⟨[G l8 3, G l8 4]⟩), v16, .string ({ data := #[] })]) s15 fun v17 s18 => E v17 0 fun v19 => E v17 1 fun v20 => V true 2 v19 (B P 3 .add (G l8 0) (.int .i64 1) fun v21 => K9 .normal [v21, G l8 1, G l8 2, C v19 0, C v19 1] s18)) (K9 (.exit 1) [G l8 0, G l8 1, G l8 2, G l8 3, G l8 4] s10)) (K9 (.exit 1) [G l8 0, G l8 1, G l8 2, G l8 3, G l8 4] s10)) [.int .i64 0, .slice none 0 0, .slice none 0 0, C v0 0, C v0 1] s3 fun x22 l23 s24 => match x22 with | .normal => V true 2 (.agg (⟨[G l23 3, G l23 4]⟩)) (R (.agg (⟨[G l23 3, G l23 4]⟩)) s24) | .ret => R (.agg (⟨[G l23 1, G l23 2]⟩)) s24 | .exit i25 => (match Nat.beq i25 1 with | true => V true 2 (.agg (⟨[G l23 3, G l23 4]⟩)) (R (.agg (⟨[G l23 3, G l23 4]⟩)) s24) | false => (match Nat.beq i25 0 with | true => V true 2 (.agg (⟨[G l23 3, G l23 4]⟩)) (R (.agg (⟨[G l23 3, G l23 4]⟩)) s24) | false => False))) (B P 3 .eql v2 (.int .i64 2) fun v26 => Q v26 (AC P w0 n_spec_l1Many ([.string ({ data := #[98] }), .int .i64 3000]) s3 fun v27 s28 => AC P w0 n_spec_PagesPut ([.agg (⟨[C v0 0, C v0 1]⟩), .string ({ data := #[98, 105, 103] }), v27]) s28 fun v29 s30 => E v29 0 fun v31 => E v29 1 fun v32 => V true 2 v31 (V true 2 (.agg (⟨[C v31 0, C v31 1]⟩)) (R (.agg (⟨[C v31 0, C v31 1]⟩)) s30))) (V true 2 (.agg (⟨[C v0 0, C v0 1]⟩)) (R (.agg (⟨[C v0 0, C v0 1]⟩)) s3)))))
theorem vc_spec_l61AnyPages_eq (w0 : World) (a0 : Value) (σ : Vw) (R : Value → Vw → Prop) : vc_spec_l61AnyPages w0 a0 σ R = den Try.prog w0 kp_spec_l61AnyPages esc_spec_l61AnyPages (Try.f24.body.getD .skip) (entry Try.f24.ntmps [a0]) σ (retK Try.prog Try.f24.results.toList R) := by kernel_rfl
theorem ac_spec_l61AnyPages {w0 : World} {a0 : Value} {σ : Vw} {R : Value → Vw → Prop} (h : vc_spec_l61AnyPages w0 a0 σ R) : AC Try.prog w0 n_spec_l61AnyPages [a0] σ R := by
  refine ac_rule (fn := Try.f24) (c := Try.f24.body.getD .skip) kp_spec_l61AnyPages esc_spec_l61AnyPages Try.func24 (by kernel_rfl) (by kernel_rfl) ?_
  rw [← vc_spec_l61AnyPages_eq]
  exact h

/-- spec.l1Open -/
def kp_spec_l1Open : Nat → Keep
  | _ => ⟨[], [], [], .done, []⟩
def esc_spec_l1Open : Nat → Bool
  | 10 => true
  | _ => false
def vc_spec_l1Open (w0 : World) (a0 : Value) (σ : Vw) (R : Value → Vw → Prop) : Prop :=
  N a0 fun v0 => B P 3 .gtr v0 (.int .i64 2000) fun v1 => Q v1 (pSlice 1 a0 none (some (.int .i64 2000)) fun v2 => V false 1 v2 (V true 2 (.agg (⟨[v2, .int .i64 0]⟩)) (W w0 81 [v2, .int .i64 0] σ fun n3 s4 => R (.pointer (some (Addr.mk n3 0 none))) s4))) (V false 1 a0 (V true 2 (.agg (⟨[a0, .int .i64 0]⟩)) (W w0 81 [a0, .int .i64 0] σ fun n5 s6 => R (.pointer (some (Addr.mk n5 0 none))) s6)))
theorem vc_spec_l1Open_eq (w0 : World) (a0 : Value) (σ : Vw) (R : Value → Vw → Prop) : vc_spec_l1Open w0 a0 σ R = den Try.prog w0 kp_spec_l1Open esc_spec_l1Open (Try.f25.body.getD .skip) (entry Try.f25.ntmps [a0]) σ (retK Try.prog Try.f25.results.toList R) := by kernel_rfl
theorem ac_spec_l1Open {w0 : World} {a0 : Value} {σ : Vw} {R : Value → Vw → Prop} (h : vc_spec_l1Open w0 a0 σ R) : AC Try.prog w0 n_spec_l1Open [a0] σ R := by
  refine ac_rule (fn := Try.f25) (c := Try.f25.body.getD .skip) kp_spec_l1Open esc_spec_l1Open Try.func25 (by kernel_rfl) (by kernel_rfl) ?_
  rw [← vc_spec_l1Open_eq]
  exact h

/-- (impl.Pages).free -/
def kp_impl_Pages_free : Nat → Keep
  | 3 => ⟨[3, 7, 8, 9], [], [], .done, []⟩
  | _ => ⟨[], [], [], .done, []⟩
def esc_impl_Pages_free : Nat → Bool
  | _ => false
def vc_impl_Pages_free (w0 : World) (a0 : Value) (σ : Vw) (R : Value → Vw → Prop) : Prop :=
  V true 2 a0 (N (C a0 0) fun v0 => pLoop (fun l1 K2 s3 => B P 3 .lss (G l1 3) (G l1 2) fun v4 => Q v4 (X 3 (G l1 1) (G l1 3) fun v5 => L w0 3 v5 s3 fun g6 => V true 3 (.agg (⟨[g6 0, g6 1, g6 2]⟩)) (pUn .not (g6 0) fun v7 => Q v7 (B P 3 .add (G l1 0) (.int .i64 1) fun v8 => B P 3 .add (G l1 3) (.int .i64 1) fun v9 => K2 .normal [v8, G l1 1, G l1 2, v9] s3) (B P 3 .add (G l1 3) (.int .i64 1) fun v10 => K2 .normal [G l1 0, G l1 1, G l1 2, v10] s3))) (K2 (.exit 0) [G l1 0, G l1 1, G l1 2, G l1 3] s3)) [.int .i64 0, C a0 0, v0, .int .i64 0] σ fun x11 l12 s13 => match x11 with | .normal => R (G l12 0) s13 | .ret => False | .exit i14 => (match Nat.beq i14 0 with | true => R (G l12 0) s13 | false => False))
theorem vc_impl_Pages_free_eq (w0 : World) (a0 : Value) (σ : Vw) (R : Value → Vw → Prop) : vc_impl_Pages_free w0 a0 σ R = den Try.prog w0 kp_impl_Pages_free esc_impl_Pages_free (Try.f26.body.getD .skip) (entry Try.f26.ntmps [a0]) σ (retK Try.prog Try.f26.results.toList R) := by kernel_rfl
theorem ac_impl_Pages_free {w0 : World} {a0 : Value} {σ : Vw} {R : Value → Vw → Prop} (h : vc_impl_Pages_free w0 a0 σ R) : AC Try.prog w0 n_impl_Pages_free [a0] σ R := by
  refine ac_rule (fn := Try.f26) (c := Try.f26.body.getD .skip) kp_impl_Pages_free esc_impl_Pages_free Try.func26 (by kernel_rfl) (by kernel_rfl) ?_
  rw [← vc_impl_Pages_free_eq]
  exact h

/-- spec.l32Free -/
def kp_spec_l32Free : Nat → Keep
  | 3 => ⟨[3, 4], [(1, 2)], [1], .done, []⟩
  | _ => ⟨[], [], [], .done, []⟩
def esc_spec_l32Free : Nat → Bool
  | _ => false
def vc_spec_l32Free (w0 : World) (a0 : Value) (σ : Vw) (R : Value → Vw → Prop) : Prop :=
  V true 2 a0 (pLoop (fun l0 K1 s2 => N (G l0 2) fun v3 => B P 3 .lss (G l0 1) v3 fun v4 => Q v4 (X 3 (G l0 2) (G l0 1) fun v5 => F 0 v5 fun v6 => L w0 1 v6 s2 fun g7 => pUn .not (g7 0) fun v8 => Q v8 (B P 3 .add (G l0 0) (.int .i64 1) fun v9 => B P 3 .add (G l0 1) (.int .i64 1) fun v10 => K1 .normal [v9, v10, G l0 2, G l0 3] s2) (B P 3 .add (G l0 1) (.int .i64 1) fun v11 => K1 .normal [G l0 0, v11, G l0 2, G l0 3] s2)) (K1 (.exit 0) [G l0 0, G l0 1, G l0 2, G l0 3] s2)) [.int .i64 0, .int .i64 0, C a0 0, C a0 1] σ fun x12 l13 s14 => match x12 with | .normal => R (G l13 0) s14 | .ret => False | .exit i15 => (match Nat.beq i15 0 with | true => R (G l13 0) s14 | false => False))
theorem vc_spec_l32Free_eq (w0 : World) (a0 : Value) (σ : Vw) (R : Value → Vw → Prop) : vc_spec_l32Free w0 a0 σ R = den Try.prog w0 kp_spec_l32Free esc_spec_l32Free (Try.f27.body.getD .skip) (entry Try.f27.ntmps [a0]) σ (retK Try.prog Try.f27.results.toList R) := by kernel_rfl
theorem ac_spec_l32Free {w0 : World} {a0 : Value} {σ : Vw} {R : Value → Vw → Prop} (h : vc_spec_l32Free w0 a0 σ R) : AC Try.prog w0 n_spec_l32Free [a0] σ R := by
  refine ac_rule (fn := Try.f27) (c := Try.f27.body.getD .skip) kp_spec_l32Free esc_spec_l32Free Try.func27 (by kernel_rfl) (by kernel_rfl) ?_
  rw [← vc_spec_l32Free_eq]
  exact h

/-- spec.l1NameOk -/
def kp_spec_l1NameOk : Nat → Keep
  | 2 => ⟨[0, 2, 3], [], [], .done, []⟩
  | _ => ⟨[], [], [], .done, []⟩
def esc_spec_l1NameOk : Nat → Bool
  | _ => false
def cs_spec_l1NameOk_1 (w0 : World) (l900 : List Value) (K901 : AX → List Value → Vw → Prop) (s902 : Vw) (R : Value → Vw → Prop) : Prop :=
  pIndexStr (G l900 0) (G l900 2) (fun v500 => B P 5 .geq v500 (.int .u8 48) fun v501 => Q v501 (pIndexStr (G l900 0) (G l900 2) fun v502 => B P 5 .leq v502 (.int .u8 57) fun v503 => pUn .not v503 fun v504 => Q v504 (K901 .ret [G l900 0, .bool false, G l900 2] s902) (B P 3 .add (G l900 2) (.int .i64 1) fun v505 => K901 .normal [G l900 0, G l900 1, v505] s902)) (pUn .not (.bool false) fun v506 => Q v506 (K901 .ret [G l900 0, .bool false, G l900 2] s902) (B P 3 .add (G l900 2) (.int .i64 1) fun v507 => K901 .normal [G l900 0, G l900 1, v507] s902)))
def vc_spec_l1NameOk (w0 : World) (a0 : Value) (σ : Vw) (R : Value → Vw → Prop) : Prop :=
  pLoop (fun l0 K1 s2 => pLenS (G l0 0) fun v3 => B P 3 .lss (G l0 2) v3 fun v4 => Q v4 (pIndexStr (G l0 0) (G l0 2) fun v5 => B P 5 .geq v5 (.int .u8 97) fun v6 => Q v6 (pIndexStr (G l0 0) (G l0 2) fun v7 => B P 5 .leq v7 (.int .u8 122) fun v8 => Q v8 (pUn .not (.bool true) fun v9 => Q v9 (K1 .ret [G l0 0, .bool false, G l0 2] s2) (B P 3 .add (G l0 2) (.int .i64 1) fun v10 => K1 .normal [G l0 0, G l0 1, v10] s2)) (cs_spec_l1NameOk_1 w0 l0 K1 s2 R)) (cs_spec_l1NameOk_1 w0 l0 K1 s2 R)) (K1 (.exit 0) [G l0 0, G l0 1, G l0 2] s2)) [a0, .bool false, .int .i64 0] σ fun x27 l28 s29 => match x27 with | .normal => pLenS (G l28 0) (fun v30 => AC P w0 n_spec_l1In [v30, .int .i64 1, .int .i64 5] s29 fun v31 s32 => R v31 s32) | .ret => R (G l28 1) s29 | .exit i33 => (match Nat.beq i33 0 with | true => pLenS (G l28 0) (fun v34 => AC P w0 n_spec_l1In [v34, .int .i64 1, .int .i64 5] s29 fun v35 s36 => R v35 s36) | false => False)

theorem vc_spec_l1NameOk_eq (w0 : World) (a0 : Value) (σ : Vw) (R : Value → Vw → Prop) : vc_spec_l1NameOk w0 a0 σ R = den Try.prog w0 kp_spec_l1NameOk esc_spec_l1NameOk (Try.f28.body.getD .skip) (entry Try.f28.ntmps [a0]) σ (retK Try.prog Try.f28.results.toList R) := by kernel_rfl
theorem ac_spec_l1NameOk {w0 : World} {a0 : Value} {σ : Vw} {R : Value → Vw → Prop} (h : vc_spec_l1NameOk w0 a0 σ R) : AC Try.prog w0 n_spec_l1NameOk [a0] σ R := by
  refine ac_rule (fn := Try.f28) (c := Try.f28.body.getD .skip) kp_spec_l1NameOk esc_spec_l1NameOk Try.func28 (by kernel_rfl) (by kernel_rfl) ?_
  rw [← vc_spec_l1NameOk_eq]
  exact h

/-- spec.l1In -/
def kp_spec_l1In : Nat → Keep
  | _ => ⟨[], [], [], .done, []⟩
def esc_spec_l1In : Nat → Bool
  | _ => false
def vc_spec_l1In (w0 : World) (a0 a1 a2 : Value) (σ : Vw) (R : Value → Vw → Prop) : Prop :=
  B P 3 .geq a0 a1 fun v0 => Q v0 (B P 3 .leq a0 a2 fun v1 => R v1 σ) (R (.bool false) σ)
theorem vc_spec_l1In_eq (w0 : World) (a0 a1 a2 : Value) (σ : Vw) (R : Value → Vw → Prop) : vc_spec_l1In w0 a0 a1 a2 σ R = den Try.prog w0 kp_spec_l1In esc_spec_l1In (Try.f29.body.getD .skip) (entry Try.f29.ntmps [a0, a1, a2]) σ (retK Try.prog Try.f29.results.toList R) := by kernel_rfl
theorem ac_spec_l1In {w0 : World} {a0 a1 a2 : Value} {σ : Vw} {R : Value → Vw → Prop} (h : vc_spec_l1In w0 a0 a1 a2 σ R) : AC Try.prog w0 n_spec_l1In [a0, a1, a2] σ R := by
  refine ac_rule (fn := Try.f29) (c := Try.f29.body.getD .skip) kp_spec_l1In esc_spec_l1In Try.func29 (by kernel_rfl) (by kernel_rfl) ?_
  rw [← vc_spec_l1In_eq]
  exact h

/-- spec.l32Chain -/
def kp_spec_l32Chain : Nat → Keep
  | 4 => ⟨[4, 5, 6, 7, 8], [(2, 2)], [2], .done, []⟩
  | _ => ⟨[], [], [], .done, []⟩
def esc_spec_l32Chain : Nat → Bool
  | 10 => true
  | _ => false
def vc_spec_l32Chain (w0 : World) (a0 a1 : Value) (σ : Vw) (R : Value → Vw → Prop) : Prop :=
  V true 2 a0 (V true 3 a1 (W w0 3 [] σ fun n0 s1 => pLoop (fun l2 K3 s4 => B P 3 .geq (G l2 3) (.int .i64 0) fun v5 => Q v5 (N (G l2 5) fun v6 => B P 3 .geq (G l2 3) v6 fun v7 => Q v7 (K3 .ret [G l2 2, .bool false, G l2 2, G l2 3, G l2 4, G l2 5, G l2 6] s4) (X 3 (G l2 5) (G l2 3) fun v8 => F 0 v8 fun v9 => L w0 1 v9 s4 fun g10 => pUn .not (g10 0) fun v11 => Q v11 (K3 .ret [G l2 2, .bool false, G l2 2, G l2 3, G l2 4, G l2 5, G l2 6] s4) (N (G l2 2) fun v12 => B P 3 .gtr v12 (.int .i64 96) fun v13 => Q v13 (K3 .ret [G l2 2, .bool false, G l2 2, G l2 3, G l2 4, G l2 5, G l2 6] s4) (B P 3 .gtr (G l2 4) (.int .i64 40) fun v14 => Q v14 (X 3 (G l2 5) (G l2 3) fun v15 => F 1 v15 fun v16 => L w0 1 v16 s4 fun g17 => pLenS (g17 0) fun v18 => B P 3 .neq v18 (.int .i64 40) fun v19 => Q v19 (K3 .ret [G l2 2, .bool false, G l2 2, G l2 3, G l2 4, G l2 5, G l2 6] s4) (B P 3 .eql (.int .i64 40) (.int .i64 0) fun v20 => Q v20 (K3 .ret [G l2 2, .bool false, G l2 2, G l2 3, G l2 4, G l2 5, G l2 6] s4) (V false 1 (G l2 3) ((allOne [G l2 3]) ∧ (A w0 3 1 8 (G l2 2) 1 [G l2 3] s4 fun v21 s22 => B P 3 .sub (G l2 4) (.int .i64 40) fun v23 => X 3 (G l2 5) (G l2 3) fun v24 => F 2 v24 fun v25 => L w0 1 v25 s22 fun g26 => K3 .normal [G l2 0, G l2 1, v21, g26 0, v23, G l2 5, G l2 6] s22))))) (X 3 (G l2 5) (G l2 3) fun v27 => F 1 v27 fun v28 => L w0 1 v28 s4 fun g29 => pLenS (g29 0) fun v30 => B P 3 .neq v30 (G l2 4) fun v31 => Q v31 (K3 .ret [G l2 2, .bool false, G l2 2, G l2 3, G l2 4, G l2 5, G l2 6] s4) (B P 3 .eql (G l2 4) (.int .i64 0) fun v32 => Q v32 (K3 .ret [G l2 2, .bool false, G l2 2, G l2 3, G l2 4, G l2 5, G l2 6] s4) (V false 1 (G l2 3) ((allOne [G l2 3]) ∧ (A w0 3 1 8 (G l2 2) 1 [G l2 3] s4 fun v33 s34 => B P 3 .sub (G l2 4) (G l2 4) fun v35 => X 3 (G l2 5) (G l2 3) fun v36 => F 2 v36 fun v37 => L w0 1 v37 s34 fun g38 => K3 .normal [G l2 0, G l2 1, v33, g38 0, v35, G l2 5, G l2 6] s34))))))))) (K3 (.exit 0) [G l2 0, G l2 1, G l2 2, G l2 3, G l2 4, G l2 5, G l2 6] s4)) [.slice none 0 0, .bool false, .slice (some (Addr.mk n0 0 none)) 0 0, C a1 1, C a1 2, C a0 0, C a0 1] s1 fun x39 l40 s41 => match x39 with | .normal => B P 3 .eql (G l40 4) (.int .i64 0) (fun v42 => R (.tuple (⟨[G l40 2, v42]⟩)) s41) | .ret => R (.tuple (⟨[G l40 0, G l40 1]⟩)) s41 | .exit i43 => (match Nat.beq i43 0 with | true => B P 3 .eql (G l40 4) (.int .i64 0) (fun v44 => R (.tuple (⟨[G l40 2, v44]⟩)) s41) | false => False)))
theorem vc_spec_l32Chain_eq (w0 : World) (a0 a1 : Value) (σ : Vw) (R : Value → Vw → Prop) : vc_spec_l32Chain w0 a0 a1 σ R = den Try.prog w0 kp_spec_l32Chain esc_spec_l32Chain (Try.f30.body.getD .skip) (entry Try.f30.ntmps [a0, a1]) σ (retK Try.prog Try.f30.results.toList R) := by kernel_rfl
theorem ac_spec_l32Chain {w0 : World} {a0 a1 : Value} {σ : Vw} {R : Value → Vw → Prop} (h : vc_spec_l32Chain w0 a0 a1 σ R) : AC Try.prog w0 n_spec_l32Chain [a0, a1] σ R := by
  refine ac_rule (fn := Try.f30) (c := Try.f30.body.getD .skip) kp_spec_l32Chain esc_spec_l32Chain Try.func30 (by kernel_rfl) (by kernel_rfl) ?_
  rw [← vc_spec_l32Chain_eq]
  exact h

/-- (impl.Pages).get -/
def kp_impl_Pages_get : Nat → Keep
  | 5 => ⟨[], [], [], .step 0 (.step 1 (.step 2 (.step 3 (.step 4 (.step 5 (.step 6 (.step 7 (.step 8 (.step 9 (.step 10 (.step 11 (.done)))))))))))), [(2, [1]), (4, [1, 2, 3]), (5, [1, 2, 3, 4]), (6, [0, 1, 2, 3, 4, 5]), (7, [0, 1, 2, 3, 4, 5, 6]), (8, [0, 1, 2, 3, 4, 5, 6, 7]), (9, [0, 1, 2, 3, 4, 5, 6, 7]), (10, [0, 1, 2, 3, 4, 5, 6, 7, 8]), (11, [0, 1, 2, 3, 4, 5, 6, 7, 8, 9, 10])]⟩
  | 7 => ⟨[7, 27, 28, 29], [(2, 2)], [2], .done, []⟩
  | _ => ⟨[], [], [], .done, []⟩
def esc_impl_Pages_get : Nat → Bool
  | _ => false
def vc_impl_Pages_get (w0 : World) (a0 a1 : Value) (σ : Vw) (R : Value → Vw → Prop) : Prop :=
  V true 2 a0 (AC P w0 n_impl_Pages_find ([.agg (⟨[C a0 0, C a0 1]⟩), a1]) σ fun v0 s1 => B P 3 .lss v0 (.int .i64 0) fun v2 => Q v2 (R (.tuple (⟨[.string ({ data := #[] }), .bool false]⟩)) s1) (X 3 (C a0 1) v0 fun v3 => L w0 3 v3 s1 fun g4 => AC P w0 n_impl_Pages_chain ([.agg (⟨[C a0 0, C a0 1]⟩), .agg (⟨[g4 0, g4 1, g4 2]⟩)]) s1 fun v5 s6 => E v5 0 fun v7 => E v5 1 fun v8 => N v7 fun v9 => pLoop (fun l10 K11 s12 => B P 3 .lss (G l10 3) (G l10 2) fun v13 => Q v13 (X 1 (G l10 1) (G l10 3) fun v14 => L w0 1 v14 s12 fun g15 => X 3 (G l10 4) (g15 0) fun v16 => F 1 v16 fun v17 => L w0 1 v17 s12 fun g18 => B P 9 .add (G l10 0) (g18 0) fun v19 => B P 3 .add (G l10 3) (.int .i64 1) fun v20 => K11 .normal [v19, G l10 1, G l10 2, v20, G l10 4, G l10 5] s12) (K11 (.exit 0) [G l10 0, G l10 1, G l10 2, G l10 3, G l10 4, G l10 5] s12)) ([.string ({ data := #[] }), v7, v9, .int .i64 0, C a0 0, C a0 1]) s6 fun x21 l22 s23 => match x21 with | .normal => R (.tuple (⟨[G l22 0, .bool true]⟩)) s23 | .ret => False | .exit i24 => (match Nat.beq i24 0 with | true => R (.tuple (⟨[G l22 0, .bool true]⟩)) s23 | false => False)))
theorem vc_impl_Pages_get_eq (w0 : World) (a0 a1 : Value) (σ : Vw) (R : Value → Vw → Prop) : vc_impl_Pages_get w0 a0 a1 σ R = den Try.prog w0 kp_impl_Pages_get esc_impl_Pages_get (Try.f31.body.getD .skip) (entry Try.f31.ntmps [a0, a1]) σ (retK Try.prog Try.f31.results.toList R) := by kernel_rfl
theorem ac_impl_Pages_get {w0 : World} {a0 a1 : Value} {σ : Vw} {R : Value → Vw → Prop} (h : vc_impl_Pages_get w0 a0 a1 σ R) : AC Try.prog w0 n_impl_Pages_get [a0, a1] σ R := by
  refine ac_rule (fn := Try.f31) (c := Try.f31.body.getD .skip) kp_impl_Pages_get esc_impl_Pages_get Try.func31 (by kernel_rfl) (by kernel_rfl) ?_
  rw [← vc_impl_Pages_get_eq]
  exact h

/-- impl.pieces -/
def kp_impl_pieces : Nat → Keep
  | _ => ⟨[], [], [], .done, []⟩
def esc_impl_pieces : Nat → Bool
  | _ => false
def vc_impl_pieces (w0 : World) (a0 a1 : Value) (σ : Vw) (R : Value → Vw → Prop) : Prop :=
  B P 3 .add a0 a1 fun v0 => B P 3 .sub v0 (.int .i64 1) fun v1 => B P 3 .quo v1 a1 fun v2 => R v2 σ
theorem vc_impl_pieces_eq (w0 : World) (a0 a1 : Value) (σ : Vw) (R : Value → Vw → Prop) : vc_impl_pieces w0 a0 a1 σ R = den Try.prog w0 kp_impl_pieces esc_impl_pieces (Try.f32.body.getD .skip) (entry Try.f32.ntmps [a0, a1]) σ (retK Try.prog Try.f32.results.toList R) := by kernel_rfl
theorem ac_impl_pieces {w0 : World} {a0 a1 : Value} {σ : Vw} {R : Value → Vw → Prop} (h : vc_impl_pieces w0 a0 a1 σ R) : AC Try.prog w0 n_impl_pieces [a0, a1] σ R := by
  refine ac_rule (fn := Try.f32) (c := Try.f32.body.getD .skip) kp_impl_pieces esc_impl_pieces Try.func32 (by kernel_rfl) (by kernel_rfl) ?_
  rw [← vc_impl_pieces_eq]
  exact h

/-- (*spec.l1Rd).pick -/
def kp_p_spec_l1Rd_pick : Nat → Keep
  | 7 => ⟨[], [], [], .step 0 (.step 1 (.step 2 (.step 3 (.step 4 (.step 5 (.step 6 (.step 7 (.step 8 (.step 9 (.step 10 (.step 11 (.step 12 (.step 13 (.step 14 (.step 15 (.step 16 (.step 17 (.step 18 (.step 19 (.step 20 (.step 21 (.step 22 (.step 23 (.step 24 (.step 25 (.step 26 (.step 27 (.step 28 (.step 29 (.step 30 (.step 31 (.step 32 (.step 33 (.step 34 (.step 35 (.step 36 (.step 37 (.step 38 (.step 39 (.step 40 (.step 41 (.step 42 (.step 43 (.step 44 (.step 45 (.done)))))))))))))))))))))))))))))))))))))))))))))), [(1, [0]), (2, [0, 1]), (3, [0, 1, 2]), (6, [5]), (7, [5, 6]), (8, [5, 6, 7]), (9, [5, 6, 7, 8]), (10, [4, 5, 6, 7, 8, 9]), (11, [0, 1, 2, 3, 4, 5, 6, 7, 8, 9, 10]), (12, [0, 1, 2, 3, 4, 5, 6, 7, 8, 9, 10, 11]), (13, [0, 1, 2, 3, 4, 5, 6, 7, 8, 9, 10, 11, 12]), (14, [0, 1, 2, 3, 4, 5, 6, 7, 8, 9, 10, 11, 12, 13]), (16, [15]), (17, [15, 16]), (18, [15, 16, 17]), (20, [19]), (21, [19, 20]), (23, [22]), (24, [22, 23]), (25, [22, 23, 24]), (26, [22, 23, 24, 25]), (27, [19, 20, 21, 22, 23, 24, 25, 26]), (28, [15, 16, 17, 18, 19, 20, 21, 22, 23, 24, 25, 26, 27]), (29, [15, 16, 17, 18, 19, 20, 21, 22, 23, 24, 25, 26, 27, 28]), (30, [15, 16, 17, 18, 19, 20, 21, 22, 23, 24, 25, 26, 27, 28, 29]), (31, [15, 16, 17, 18, 19, 20, 21, 22, 23, 24, 25, 26, 27, 28, 29, 30]), (32, [0, 1, 2, 3, 4, 5, 6, 7, 8, 9, 10, 11, 12, 13, 14, 15, 16, 17, 18, 19, 20, 21, 22, 23, 24, 25, 26, 27, 28, 29, 30, 31]), (34, [33]), (35, [0, 1, 2, 3, 4, 5, 6, 7, 8, 9, 10, 11, 12, 13, 14, 15, 16, 17, 18, 19, 20, 21, 22, 23, 24, 25, 26, 27, 28, 29, 30, 31, 32, 33, 34]), (38, [37]), (39, [37, 38]), (40, [37, 38, 39]), (41, [37, 38, 39, 40]), (42, [36, 37, 38, 39, 40, 41]), (43, [36, 37, 38, 39, 40, 41, 42]), (44, [0, 1, 2, 3, 4, 5, 6, 7, 8, 9, 10, 11, 12, 13, 14, 15, 16, 17, 18, 19, 20, 21, 22, 23, 24, 25, 26, 27, 28, 29, 30, 31, 32, 33, 34, 35, 36, 37, 38, 39, 40, 41, 42, 43]), (45, [0, 1, 2, 3, 4, 5, 6, 7, 8, 9, 10, 11, 12, 13, 14, 15, 16, 17, 18, 19, 20, 21, 22, 23, 24, 25, 26, 27, 28, 29, 30, 31, 32, 33, 34, 35, 36, 37, 38, 39, 40, 41, 42, 43, 44])]⟩
  | _ => ⟨[], [], [], .done, []⟩
def esc_p_spec_l1Rd_pick : Nat → Bool
  | _ => false
def vc_p_spec_l1Rd_pick (w0 : World) (a0 a1 : Value) (σ : Vw) (R : Value → Vw → Prop) : Prop :=
  pNil a0 (F 1 a0 fun v0 => L w0 1 v0 σ fun g1 => B P 3 .add (g1 0) (.int .i64 1) fun v2 => pNil a0 (F 1 a0 fun v3 => V false 1 v2 (pStore v3 [v2] σ fun s4 => B P 3 .lss a1 (.int .i64 1) fun v5 => Q v5 (R (.int .i64 0) s4) (pNil a0 (F 0 a0 fun v6 => L w0 1 v6 s4 fun g7 => N (g7 0) fun v8 => B P 3 .eql v8 (.int .i64 0) fun v9 => Q v9 (R (.int .i64 0) s4) (pNil a0 (F 1 a0 fun v10 => L w0 1 v10 s4 fun g11 => B P 3 .sub (g11 0) (.int .i64 1) fun v12 => pNil a0 (F 0 a0 fun v13 => L w0 1 v13 s4 fun g14 => N (g14 0) fun v15 => B P 3 .lss v12 v15 fun v16 => Q v16 (pNil a0 (F 0 a0 fun v17 => L w0 1 v17 s4 fun g18 => X 1 (g18 0) v12 fun v19 => L w0 1 v19 s4 fun g20 => pConvInt .i64 (g20 0) fun v21 => B P 3 .rem v21 a1 fun v22 => R v22 s4)) (pNil a0 (F 0 a0 fun v23 => L w0 1 v23 s4 fun g24 => pNil a0 (F 0 a0 fun v25 => L w0 1 v25 s4 fun g26 => N (g26 0) fun v27 => B P 3 .rem v12 v27 fun v28 => X 1 (g24 0) v28 fun v29 => L w0 1 v29 s4 fun g30 => pConvInt .i64 (g30 0) fun v31 => B P 3 .mul v31 (.int .i64 131) fun v32 => pNil a0 (F 0 a0 fun v33 => L w0 1 v33 s4 fun g34 => B P 3 .mul v12 (.int .i64 7) fun v35 => B P 3 .add v35 (.int .i64 3) fun v36 => pNil a0 (F 0 a0 fun v37 => L w0 1 v37 s4 fun g38 => N (g38 0) fun v39 => B P 3 .rem v36 v39 fun v40 => X 1 (g34 0) v40 fun v41 => L w0 1 v41 s4 fun g42 => pConvInt .i64 (g42 0) fun v43 => B P 3 .mul v43 (.int .i64 1117) fun v44 => B P 3 .add v32 v44 fun v45 => B P 3 .mul v12 (.int .i64 29) fun v46 => B P 3 .add v45 v46 fun v47 => pNil a0 (F 0 a0 fun v48 => L w0 1 v48 s4 fun g49 => N (g49 0) fun v50 => B P 3 .quo v12 v50 fun v51 => B P 3 .mul v51 (.int .i64 53) fun v52 => B P 3 .add v47 v52 fun v53 => B P 3 .quo v53 (.int .i64 64) fun v54 => B P 3 .xor v53 v54 fun v55 => B P 3 .rem v55 a1 fun v56 => R v56 s4))))))))))))))
theorem vc_p_spec_l1Rd_pick_eq (w0 : World) (a0 a1 : Value) (σ : Vw) (R : Value → Vw → Prop) : vc_p_spec_l1Rd_pick w0 a0 a1 σ R = den Try.prog w0 kp_p_spec_l1Rd_pick esc_p_spec_l1Rd_pick (Try.f34.body.getD .skip) (entry Try.f34.ntmps [a0, a1]) σ (retK Try.prog Try.f34.results.toList R) := by kernel_rfl
theorem ac_p_spec_l1Rd_pick {w0 : World} {a0 a1 : Value} {σ : Vw} {R : Value → Vw → Prop} (h : vc_p_spec_l1Rd_pick w0 a0 a1 σ R) : AC Try.prog w0 n_p_spec_l1Rd_pick [a0, a1] σ R := by
  refine ac_rule (fn := Try.f34) (c := Try.f34.body.getD .skip) kp_p_spec_l1Rd_pick esc_p_spec_l1Rd_pick Try.func34 (by kernel_rfl) (by kernel_rfl) ?_
  rw [← vc_p_spec_l1Rd_pick_eq]
  exact h

/-- spec.l1Many -/
def kp_spec_l1Many : Nat → Keep
  | 2 => ⟨[0, 1, 5], [], [], .done, []⟩
  | _ => ⟨[], [], [], .done, []⟩
def esc_spec_l1Many : Nat → Bool
  | _ => false
def vc_spec_l1Many (w0 : World) (a0 a1 : Value) (σ : Vw) (R : Value → Vw → Prop) : Prop :=
  pLoop (fun l0 K1 s2 => B P 3 .gtr (G l0 1) (.int .i64 0) fun v3 => Q v3 (B P 3 .rem (G l0 1) (.int .i64 2) fun v4 => B P 3 .eql v4 (.int .i64 1) fun v5 => Q v5 (B P 9 .add (G l0 2) (G l0 0) fun v6 => B P 9 .add (G l0 0) (G l0 0) fun v7 => B P 3 .quo (G l0 1) (.int .i64 2) fun v8 => K1 .normal [v7, v8, v6] s2) (B P 9 .add (G l0 0) (G l0 0) fun v9 => B P 3 .quo (G l0 1) (.int .i64 2) fun v10 => K1 .normal [v9, v10, G l0 2] s2)) (K1 (.exit 0) [G l0 0, G l0 1, G l0 2] s2)) ([a0, a1, .string ({ data := #[] })]) σ fun x11 l12 s13 => match x11 with | .normal => R (G l12 2) s13 | .ret => False | .exit i14 => (match Nat.beq i14 0 with | true => R (G l12 2) s13 | false => False)
theorem vc_spec_l1Many_eq (w0 : World) (a0 a1 : Value) (σ : Vw) (R : Value → Vw → Prop) : vc_spec_l1Many w0 a0 a1 σ R = den Try.prog w0 kp_spec_l1Many esc_spec_l1Many (Try.f35.body.getD .skip) (entry Try.f35.ntmps [a0, a1]) σ (retK Try.prog Try.f35.results.toList R) := by kernel_rfl
theorem ac_spec_l1Many {w0 : World} {a0 a1 : Value} {σ : Vw} {R : Value → Vw → Prop} (h : vc_spec_l1Many w0 a0 a1 σ R) : AC Try.prog w0 n_spec_l1Many [a0, a1] σ R := by
  refine ac_rule (fn := Try.f35) (c := Try.f35.body.getD .skip) kp_spec_l1Many esc_spec_l1Many Try.func35 (by kernel_rfl) (by kernel_rfl) ?_
  rw [← vc_spec_l1Many_eq]
  exact h

/-- impl.within -/
def kp_impl_within : Nat → Keep
  | _ => ⟨[], [], [], .done, []⟩
def esc_impl_within : Nat → Bool
  | _ => false
def vc_impl_within (w0 : World) (a0 a1 a2 : Value) (σ : Vw) (R : Value → Vw → Prop) : Prop :=
  B P 3 .geq a0 a1 fun v0 => Q v0 (B P 3 .leq a0 a2 fun v1 => R v1 σ) (R (.bool false) σ)
theorem vc_impl_within_eq (w0 : World) (a0 a1 a2 : Value) (σ : Vw) (R : Value → Vw → Prop) : vc_impl_within w0 a0 a1 a2 σ R = den Try.prog w0 kp_impl_within esc_impl_within (Try.f37.body.getD .skip) (entry Try.f37.ntmps [a0, a1, a2]) σ (retK Try.prog Try.f37.results.toList R) := by kernel_rfl
theorem ac_impl_within {w0 : World} {a0 a1 a2 : Value} {σ : Vw} {R : Value → Vw → Prop} (h : vc_impl_within w0 a0 a1 a2 σ R) : AC Try.prog w0 n_impl_within [a0, a1, a2] σ R := by
  refine ac_rule (fn := Try.f37) (c := Try.f37.body.getD .skip) kp_impl_within esc_impl_within Try.func37 (by kernel_rfl) (by kernel_rfl) ?_
  rw [← vc_impl_within_eq]
  exact h

/-- spec.DrawPagesGet -/
def kp_spec_DrawPagesGet : Nat → Keep
  | _ => ⟨[], [], [], .done, []⟩
def esc_spec_DrawPagesGet : Nat → Bool
  | 10 => true
  | _ => false
def vc_spec_DrawPagesGet (w0 : World) (a0 : Value) (σ : Vw) (R : Value → Vw → Prop) : Prop :=
  AC P w0 n_spec_l1Open [a0] σ fun v0 s1 => AC P w0 n_spec_l61AnyPages [v0] s1 fun v2 s3 => V false 1 (.string ({ data := #[97] })) (V false 1 (.string ({ data := #[98] })) (V false 1 (.string ({ data := #[99] })) (V false 1 (.string ({ data := #[101] })) (V false 1 (.string ({ data := #[122, 122] })) (W w0 9 ([.string ({ data := #[97] }), .string ({ data := #[98] }), .string ({ data := #[99] }), .string ({ data := #[101] }), .string ({ data := #[122, 122] })]) s3 fun n4 s5 => AC P w0 n_p_spec_l1Rd_of [v0, .slice (some (Addr.mk n4 0 none)) 5 5] s5 fun v6 s7 => V true 2 v2 (R (.tuple (⟨[.agg (⟨[C v2 0, C v2 1]⟩), v6]⟩)) s7))))))
theorem vc_spec_DrawPagesGet_eq (w0 : World) (a0 : Value) (σ : Vw) (R : Value → Vw → Prop) : vc_spec_DrawPagesGet w0 a0 σ R = den Try.prog w0 kp_spec_DrawPagesGet esc_spec_DrawPagesGet (Try.f40.body.getD .skip) (entry Try.f40.ntmps [a0]) σ (retK Try.prog Try.f40.results.toList R) := by kernel_rfl
theorem ac_spec_DrawPagesGet {w0 : World} {a0 : Value} {σ : Vw} {R : Value → Vw → Prop} (h : vc_spec_DrawPagesGet w0 a0 σ R) : AC Try.prog w0 n_spec_DrawPagesGet [a0] σ R := by
  refine ac_rule (fn := Try.f40) (c := Try.f40.body.getD .skip) kp_spec_DrawPagesGet esc_spec_DrawPagesGet Try.func40 (by kernel_rfl) (by kernel_rfl) ?_
  rw [← vc_spec_DrawPagesGet_eq]
  exact h

/-- (impl.Pages).find -/
def kp_impl_Pages_find : Nat → Keep
  | _ => ⟨[], [], [], .done, []⟩
def esc_impl_Pages_find : Nat → Bool
  | 3 => true
  | _ => false
def vc_impl_Pages_find (w0 : World) (a0 a1 : Value) (σ : Vw) (R : Value → Vw → Prop) : Prop :=
  V true 2 a0 (V false 1 a1 (W w0 9 [a1] σ fun n0 s1 => AC P w0 n_slices_IndexFunc_impl_PageName_impl_PageName ([C a0 1, .func (Fn.func 58) ⟨[]⟩ (⟨[.pointer (some (Addr.mk n0 0 none))]⟩)]) s1 fun v2 s3 => R v2 s3))
theorem vc_impl_Pages_find_eq (w0 : World) (a0 a1 : Value) (σ : Vw) (R : Value → Vw → Prop) : vc_impl_Pages_find w0 a0 a1 σ R = den Try.prog w0 kp_impl_Pages_find esc_impl_Pages_find (Try.f41.body.getD .skip) (entry Try.f41.ntmps [a0, a1]) σ (retK Try.prog Try.f41.results.toList R) := by kernel_rfl
theorem ac_impl_Pages_find {w0 : World} {a0 a1 : Value} {σ : Vw} {R : Value → Vw → Prop} (h : vc_impl_Pages_find w0 a0 a1 σ R) : AC Try.prog w0 n_impl_Pages_find [a0, a1] σ R := by
  refine ac_rule (fn := Try.f41) (c := Try.f41.body.getD .skip) kp_impl_Pages_find esc_impl_Pages_find Try.func41 (by kernel_rfl) (by kernel_rfl) ?_
  rw [← vc_impl_Pages_find_eq]
  exact h

/-- impl.clonePages -/
def kp_impl_clonePages : Nat → Keep
  | 1 => ⟨[], [], [], .step 1 (.step 2 (.step 5 (.step 6 (.both (.step 0 (.both (.step 3 (.step 4 (.step 7 (.step 8 (.step 9 (.done)))))) (.step 4 (.step 3 (.step 7 (.step 8 (.step 9 (.done)))))))) (.step 4 (.step 0 (.step 3 (.step 7 (.step 8 (.step 9 (.done))))))))))), [(2, [1]), (3, [0, 1, 2]), (6, [5]), (7, [0, 1, 2, 3, 4, 5, 6]), (8, [0, 1, 2, 3, 4, 5, 6, 7]), (9, [0, 1, 2, 3, 4, 5, 6, 7, 8])]⟩
  | _ => ⟨[], [], [], .done, []⟩
def esc_impl_clonePages : Nat → Bool
  | 3 => true
  | 7 => true
  | _ => false
def vc_impl_clonePages (w0 : World) (a0 : Value) (σ : Vw) (R : Value → Vw → Prop) : Prop :=
  V true 2 a0 ((W w0 63 [] σ fun n0 s1 => (pAppendS w0 63 3 32 (.slice (some (Addr.mk n0 0 none)) 0 0) (C a0 0) s1 fun v2 s3 => W w0 33 [] s3 fun n4 s5 => pAppendS w0 33 3 32 (.slice (some (Addr.mk n4 0 none)) 0 0) (C a0 1) s5 fun v6 s7 => V false 1 v2 (V false 1 v6 (V true 2 (.agg (⟨[v2, v6]⟩)) (R (.agg (⟨[v2, v6]⟩)) s7)))) ∧ (W w0 33 [] s1 fun n8 s9 => pAppendS w0 63 3 32 (.slice (some (Addr.mk n0 0 none)) 0 0) (C a0 0) s9 fun v10 s11 => pAppendS w0 33 3 32 (.slice (some (Addr.mk n8 0 none)) 0 0) (C a0 1) s11 fun v12 s13 => V false 1 v10 (V false 1 v12 (V true 2 (.agg (⟨[v10, v12]⟩)) (R (.agg (⟨[v10, v12]⟩)) s13))))) ∧ (W w0 33 [] σ fun n14 s15 => W w0 63 [] s15 fun n16 s17 => pAppendS w0 63 3 32 (.slice (some (Addr.mk n16 0 none)) 0 0) (C a0 0) s17 fun v18 s19 => pAppendS w0 33 3 32 (.slice (some (Addr.mk n14 0 none)) 0 0) (C a0 1) s19 fun v20 s21 => V false 1 v18 (V false 1 v20 (V true 2 (.agg (⟨[v18, v20]⟩)) (R (.agg (⟨[v18, v20]⟩)) s21)))))
theorem vc_impl_clonePages_eq (w0 : World) (a0 : Value) (σ : Vw) (R : Value → Vw → Prop) : vc_impl_clonePages w0 a0 σ R = den Try.prog w0 kp_impl_clonePages esc_impl_clonePages (Try.f42.body.getD .skip) (entry Try.f42.ntmps [a0]) σ (retK Try.prog Try.f42.results.toList R) := by kernel_rfl
theorem ac_impl_clonePages {w0 : World} {a0 : Value} {σ : Vw} {R : Value → Vw → Prop} (h : vc_impl_clonePages w0 a0 σ R) : AC Try.prog w0 n_impl_clonePages [a0] σ R := by
  refine ac_rule (fn := Try.f42) (c := Try.f42.body.getD .skip) kp_impl_clonePages esc_impl_clonePages Try.func42 (by kernel_rfl) (by kernel_rfl) ?_
  rw [← vc_impl_clonePages_eq]
  exact h

/-- (impl.Pages).dropped -/
def kp_impl_Pages_dropped : Nat → Keep
  | 5 => ⟨[], [], [], .step 0 (.step 1 (.step 2 (.step 3 (.step 4 (.step 5 (.step 6 (.step 7 (.step 8 (.step 9 (.step 10 (.step 11 (.done)))))))))))), [(2, [1]), (4, [1, 2, 3]), (5, [1, 2, 3, 4]), (6, [0, 1, 2, 3, 4, 5]), (7, [0, 1, 2, 3, 4, 5, 6]), (8, [0, 1, 2, 3, 4, 5, 6, 7]), (9, [0, 1, 2, 3, 4, 5, 6, 7]), (10, [0, 1, 2, 3, 4, 5, 6, 7, 8]), (11, [0, 1, 2, 3, 4, 5, 6, 7, 8, 9, 10])]⟩
  | 7 => ⟨[6, 29, 30, 31], [(4, 2), (5, 2)], [4, 5], .done, []⟩
  | _ => ⟨[], [], [], .done, []⟩
def esc_impl_Pages_dropped : Nat → Bool
  | 41 => true
  | _ => false
def vc_impl_Pages_dropped (w0 : World) (a0 a1 : Value) (σ : Vw) (R : Value → Vw → Prop) : Prop :=
  V true 2 a0 (AC P w0 n_impl_clonePages ([.agg (⟨[C a0 0, C a0 1]⟩)]) σ fun v0 s1 => V true 2 v0 (AC P w0 n_impl_Pages_find ([.agg (⟨[C a0 0, C a0 1]⟩), a1]) s1 fun v2 s3 => B P 3 .lss v2 (.int .i64 0) fun v4 => Q v4 (V true 2 (.agg (⟨[C v0 0, C v0 1]⟩)) (R (.agg (⟨[C v0 0, C v0 1]⟩)) s3)) (X 3 (C a0 1) v2 fun v5 => L w0 3 v5 s3 fun g6 => AC P w0 n_impl_Pages_chain ([.agg (⟨[C a0 0, C a0 1]⟩), .agg (⟨[g6 0, g6 1, g6 2]⟩)]) s3 fun v7 s8 => E v7 0 fun v9 => E v7 1 fun v10 => N v9 fun v11 => pLoop (fun l12 K13 s14 => B P 3 .lss (G l12 3) (G l12 2) fun v15 => Q v15 (X 1 (G l12 1) (G l12 3) fun v16 => L w0 1 v16 s14 fun g17 => V false 1 (.int .i64 (-1)) (X 3 (G l12 6) (g17 0) fun v18 => V true 3 (.agg (⟨[.bool false, .string ({ data := #[] }), .int .i64 (-1)]⟩)) (pStore v18 ([.bool false, .string ({ data := #[] }), .int .i64 (-1)]) s14 fun s19 => B P 3 .add (G l12 3) (.int .i64 1) fun v20 => K13 .normal [G l12 0, G l12 1, G l12 2, v20, G l12 4, G l12 5, G l12 6, G l12 7] s19))) (K13 (.exit 0) [G l12 0, G l12 1, G l12 2, G l12 3, G l12 4, G l12 5, G l12 6, G l12 7] s14)) [v2, v9, v11, .int .i64 0, .slice none 0 0, .slice none 0 0, C v0 0, C v0 1] s8 fun x21 l22 s23 => match x21 with | .normal => W w0 33 [] s23 (fun n24 s25 => B P 3 .add (G l22 0) (.int .i64 1) fun v26 => AC P w0 n_slices_Delete_impl_PageName_impl_PageName [G l22 7, G l22 0, v26] s25 fun v27 s28 => pAppendS w0 33 3 32 (.slice (some (Addr.mk n24 0 none)) 0 0) v27 s28 fun v29 s30 => V false 1 v29 (V true 2 (.agg (⟨[G l22 6, v29]⟩)) (R (.agg (⟨[G l22 6, v29]⟩)) s30))) | .ret => R (.agg (⟨[G l22 4, G l22 5]⟩)) s23 | .exit i31 => (match Nat.beq i31 0 with | true => W w0 33 [] s23 (fun n32 s33 => B P 3 .add (G l22 0) (.int .i64 1) fun v34 => AC P w0 n_slices_Delete_impl_PageName_impl_PageName [G l22 7, G l22 0, v34] s33 fun v35 s36 => pAppendS w0 33 3 32 (.slice (some (Addr.mk n32 0 none)) 0 0) v35 s36 fun v37 s38 => V false 1 v37 (V true 2 (.agg (⟨[G l22 6, v37]⟩)) (R (.agg (⟨[G l22 6, v37]⟩)) s38))) | false => False))))
theorem vc_impl_Pages_dropped_eq (w0 : World) (a0 a1 : Value) (σ : Vw) (R : Value → Vw → Prop) : vc_impl_Pages_dropped w0 a0 a1 σ R = den Try.prog w0 kp_impl_Pages_dropped esc_impl_Pages_dropped (Try.f43.body.getD .skip) (entry Try.f43.ntmps [a0, a1]) σ (retK Try.prog Try.f43.results.toList R) := by kernel_rfl
theorem ac_impl_Pages_dropped {w0 : World} {a0 a1 : Value} {σ : Vw} {R : Value → Vw → Prop} (h : vc_impl_Pages_dropped w0 a0 a1 σ R) : AC Try.prog w0 n_impl_Pages_dropped [a0, a1] σ R := by
  refine ac_rule (fn := Try.f43) (c := Try.f43.body.getD .skip) kp_impl_Pages_dropped esc_impl_Pages_dropped Try.func43 (by kernel_rfl) (by kernel_rfl) ?_
  rw [← vc_impl_Pages_dropped_eq]
  exact h

/-- spec.l32Copy -/
def kp_spec_l32Copy : Nat → Keep
  | 1 => ⟨[], [], [], .step 1 (.step 2 (.step 5 (.step 6 (.both (.step 0 (.both (.step 3 (.step 4 (.step 7 (.step 8 (.step 9 (.done)))))) (.step 4 (.step 3 (.step 7 (.step 8 (.step 9 (.done)))))))) (.step 4 (.step 0 (.step 3 (.step 7 (.step 8 (.step 9 (.done))))))))))), [(2, [1]), (3, [0, 1, 2]), (6, [5]), (7, [0, 1, 2, 3, 4, 5, 6]), (8, [0, 1, 2, 3, 4, 5, 6, 7]), (9, [0, 1, 2, 3, 4, 5, 6, 7, 8])]⟩
  | _ => ⟨[], [], [], .done, []⟩
def esc_spec_l32Copy : Nat → Bool
  | 3 => true
  | 7 => true
  | _ => false
def vc_spec_l32Copy (w0 : World) (a0 : Value) (σ : Vw) (R : Value → Vw → Prop) : Prop :=
  V true 2 a0 ((W w0 63 [] σ fun n0 s1 => (pAppendS w0 63 3 32 (.slice (some (Addr.mk n0 0 none)) 0 0) (C a0 0) s1 fun v2 s3 => W w0 33 [] s3 fun n4 s5 => pAppendS w0 33 3 32 (.slice (some (Addr.mk n4 0 none)) 0 0) (C a0 1) s5 fun v6 s7 => V false 1 v2 (V false 1 v6 (V true 2 (.agg (⟨[v2, v6]⟩)) (R (.agg (⟨[v2, v6]⟩)) s7)))) ∧ (W w0 33 [] s1 fun n8 s9 => pAppendS w0 63 3 32 (.slice (some (Addr.mk n0 0 none)) 0 0) (C a0 0) s9 fun v10 s11 => pAppendS w0 33 3 32 (.slice (some (Addr.mk n8 0 none)) 0 0) (C a0 1) s11 fun v12 s13 => V false 1 v10 (V false 1 v12 (V true 2 (.agg (⟨[v10, v12]⟩)) (R (.agg (⟨[v10, v12]⟩)) s13))))) ∧ (W w0 33 [] σ fun n14 s15 => W w0 63 [] s15 fun n16 s17 => pAppendS w0 63 3 32 (.slice (some (Addr.mk n16 0 none)) 0 0) (C a0 0) s17 fun v18 s19 => pAppendS w0 33 3 32 (.slice (some (Addr.mk n14 0 none)) 0 0) (C a0 1) s19 fun v20 s21 => V false 1 v18 (V false 1 v20 (V true 2 (.agg (⟨[v18, v20]⟩)) (R (.agg (⟨[v18, v20]⟩)) s21)))))
theorem vc_spec_l32Copy_eq (w0 : World) (a0 : Value) (σ : Vw) (R : Value → Vw → Prop) : vc_spec_l32Copy w0 a0 σ R = den Try.prog w0 kp_spec_l32Copy esc_spec_l32Copy (Try.f44.body.getD .skip) (entry Try.f44.ntmps [a0]) σ (retK Try.prog Try.f44.results.toList R) := by kernel_rfl
theorem ac_spec_l32Copy {w0 : World} {a0 : Value} {σ : Vw} {R : Value → Vw → Prop} (h : vc_spec_l32Copy w0 a0 σ R) : AC Try.prog w0 n_spec_l32Copy [a0] σ R := by
  refine ac_rule (fn := Try.f44) (c := Try.f44.body.getD .skip) kp_spec_l32Copy esc_spec_l32Copy Try.func44 (by kernel_rfl) (by kernel_rfl) ?_
  rw [← vc_spec_l32Copy_eq]
  exact h

/-- spec.l32At -/
def kp_spec_l32At : Nat → Keep
  | 2 => ⟨[1, 4, 5], [(2, 2)], [2], .done, []⟩
  | _ => ⟨[], [], [], .done, []⟩
def esc_spec_l32At : Nat → Bool
  | _ => false
def vc_spec_l32At (w0 : World) (a0 a1 : Value) (σ : Vw) (R : Value → Vw → Prop) : Prop :=
  V true 2 a0 (pLoop (fun l0 K1 s2 => N (G l0 4) fun v3 => B P 3 .lss (G l0 2) v3 fun v4 => Q v4 (X 3 (G l0 4) (G l0 2) fun v5 => F 0 v5 fun v6 => L w0 1 v6 s2 fun g7 => B P 9 .eql (g7 0) (G l0 0) fun v8 => Q v8 (K1 .ret [G l0 0, G l0 2, G l0 2, G l0 3, G l0 4] s2) (B P 3 .add (G l0 2) (.int .i64 1) fun v9 => K1 .normal [G l0 0, G l0 1, v9, G l0 3, G l0 4] s2)) (K1 (.exit 0) [G l0 0, G l0 1, G l0 2, G l0 3, G l0 4] s2)) [a1, .int .i64 0, .int .i64 0, C a0 0, C a0 1] σ fun x10 l11 s12 => match x10 with | .normal => R (.int .i64 (-1)) s12 | .ret => R (G l11 1) s12 | .exit i13 => (match Nat.beq i13 0 with | true => R (.int .i64 (-1)) s12 | false => False))
theorem vc_spec_l32At_eq (w0 : World) (a0 a1 : Value) (σ : Vw) (R : Value → Vw → Prop) : vc_spec_l32At w0 a0 a1 σ R = den Try.prog w0 kp_spec_l32At esc_spec_l32At (Try.f45.body.getD .skip) (entry Try.f45.ntmps [a0, a1]) σ (retK Try.prog Try.f45.results.toList R) := by kernel_rfl
theorem ac_spec_l32At {w0 : World} {a0 a1 : Value} {σ : Vw} {R : Value → Vw → Prop} (h : vc_spec_l32At w0 a0 a1 σ R) : AC Try.prog w0 n_spec_l32At [a0, a1] σ R := by
  refine ac_rule (fn := Try.f45) (c := Try.f45.body.getD .skip) kp_spec_l32At esc_spec_l32At Try.func45 (by kernel_rfl) (by kernel_rfl) ?_
  rw [← vc_spec_l32At_eq]
  exact h

/-- spec.l32Drop -/
def kp_spec_l32Drop : Nat → Keep
  | 1 => ⟨[], [], [], .step 0 (.step 1 (.step 2 (.step 3 (.step 4 (.step 5 (.step 6 (.step 7 (.step 8 (.step 9 (.step 10 (.step 11 (.done)))))))))))), [(2, [1]), (4, [1, 2, 3]), (5, [1, 2, 3, 4]), (6, [0, 1, 2, 3, 4, 5]), (7, [0, 1, 2, 3, 4, 5, 6]), (8, [0, 1, 2, 3, 4, 5, 6, 7]), (9, [0, 1, 2, 3, 4, 5, 6, 7]), (10, [0, 1, 2, 3, 4, 5, 6, 7, 8]), (11, [0, 1, 2, 3, 4, 5, 6, 7, 8, 9, 10])]⟩
  | 3 => ⟨[1, 5, 7], [(2, 2), (4, 2)], [2, 4], .done, []⟩
  | 5 => ⟨[], [], [], .step 0 (.step 1 (.step 2 (.step 3 (.step 4 (.step 5 (.step 6 (.step 7 (.step 8 (.done))))))))), [(1, [0]), (4, [2, 3]), (5, [2, 3, 4]), (7, [0, 1, 2, 3, 4, 5, 6]), (8, [0, 1, 2, 3, 4, 5, 6, 7])]⟩
  | 6 => ⟨[], [], [], .step 1 (.step 2 (.step 3 (.step 4 (.step 6 (.step 7 (.step 8 (.step 9 (.step 10 (.step 0 (.step 5 (.step 11 (.step 12 (.step 13 (.done)))))))))))))), [(2, [1]), (4, [1, 2, 3]), (5, [0, 1, 2, 3, 4]), (7, [6]), (9, [8]), (10, [6, 7, 8, 9]), (11, [0, 1, 2, 3, 4, 5, 6, 7, 8, 9, 10]), (12, [0, 1, 2, 3, 4, 5, 6, 7, 8, 9, 10, 11]), (13, [0, 1, 2, 3, 4, 5, 6, 7, 8, 9, 10, 11, 12])]⟩
  | _ => ⟨[], [], [], .done, []⟩
def esc_spec_l32Drop : Nat → Bool
  | 32 => true
  | _ => false
def vc_spec_l32Drop (w0 : World) (a0 a1 : Value) (σ : Vw) (R : Value → Vw → Prop) : Prop :=
  V true 2 a0 (X 3 (C a0 1) a1 fun v0 => L w0 3 v0 σ fun g1 => AC P w0 n_spec_l32Chain ([.agg (⟨[C a0 0, C a0 1]⟩), .agg (⟨[g1 0, g1 1, g1 2]⟩)]) σ fun v2 s3 => E v2 0 fun v4 => E v2 1 fun v5 => pLoop (fun l6 K7 s8 => N (G l6 1) fun v9 => B P 3 .lss (G l6 2) v9 fun v10 => Q v10 (X 1 (G l6 1) (G l6 2) fun v11 => L w0 1 v11 s8 fun g12 => V false 1 (.int .i64 (-1)) (X 3 (G l6 3) (g12 0) fun v13 => V true 3 (.agg (⟨[.bool false, .string ({ data := #[] }), .int .i64 (-1)]⟩)) (pStore v13 ([.bool false, .string ({ data := #[] }), .int .i64 (-1)]) s8 fun s14 => B P 3 .add (G l6 2) (.int .i64 1) fun v15 => K7 .normal [G l6 0, G l6 1, v15, G l6 3, G l6 4, G l6 5, G l6 6] s14))) (K7 (.exit 0) [G l6 0, G l6 1, G l6 2, G l6 3, G l6 4, G l6 5, G l6 6] s8)) [a1, v4, .int .i64 0, C a0 0, C a0 1, .slice none 0 0, .slice none 0 0] s3 fun x16 l17 s18 => match x16 with | .normal => pSlice 3 (G l17 4) none (some (G l17 0)) (fun v19 => B P 3 .add (G l17 0) (.int .i64 1) fun v20 => pSlice 3 (G l17 4) (some v20) none fun v21 => W w0 33 [] s18 fun n22 s23 => pAppendS w0 33 3 32 (.slice (some (Addr.mk n22 0 none)) 0 0) v19 s23 fun v24 s25 => pAppendS w0 33 3 32 v24 v21 s25 fun v26 s27 => V false 1 v26 (V true 2 (.agg (⟨[G l17 3, v26]⟩)) (R (.agg (⟨[G l17 3, v26]⟩)) s27))) | .ret => R (.agg (⟨[G l17 5, G l17 6]⟩)) s18 | .exit i28 => (match Nat.beq i28 0 with | true => pSlice 3 (G l17 4) none (some (G l17 0)) (fun v29 => B P 3 .add (G l17 0) (.int .i64 1) fun v30 => pSlice 3 (G l17 4) (some v30) none fun v31 => W w0 33 [] s18 fun n32 s33 => pAppendS w0 33 3 32 (.slice (some (Addr.mk n32 0 none)) 0 0) v29 s33 fun v34 s35 => pAppendS w0 33 3 32 v34 v31 s35 fun v36 s37 => V false 1 v36 (V true 2 (.agg (⟨[G l17 3, v36]⟩)) (R (.agg (⟨[G l17 3, v36]⟩)) s37))) | false => False))
theorem vc_spec_l32Drop_eq (w0 : World) (a0 a1 : Value) (σ : Vw) (R : Value → Vw → Prop) : vc_spec_l32Drop w0 a0 a1 σ R = den Try.prog w0 kp_spec_l32Drop esc_spec_l32Drop (Try.f46.body.getD .skip) (entry Try.f46.ntmps [a0, a1]) σ (retK Try.prog Try.f46.results.toList R) := by kernel_rfl
theorem ac_spec_l32Drop {w0 : World} {a0 a1 : Value} {σ : Vw} {R : Value → Vw → Prop} (h : vc_spec_l32Drop w0 a0 a1 σ R) : AC Try.prog w0 n_spec_l32Drop [a0, a1] σ R := by
  refine ac_rule (fn := Try.f46) (c := Try.f46.body.getD .skip) kp_spec_l32Drop esc_spec_l32Drop Try.func46 (by kernel_rfl) (by kernel_rfl) ?_
  rw [← vc_spec_l32Drop_eq]
  exact h

/-- impl.nameOk -/
def kp_impl_nameOk : Nat → Keep
  | 2 => ⟨[0, 2, 5, 6], [], [], .done, []⟩
  | _ => ⟨[], [], [], .done, []⟩
def esc_impl_nameOk : Nat → Bool
  | _ => false
def vc_impl_nameOk (w0 : World) (a0 : Value) (σ : Vw) (R : Value → Vw → Prop) : Prop :=
  pLenS a0 fun v0 => pLoop (fun l1 K2 s3 => B P 3 .lss (G l1 3) (G l1 2) fun v4 => Q v4 (pIndexStr (G l1 0) (G l1 3) fun v5 => B P 5 .lss v5 (.int .u8 97) fun v6 => Q v6 (pIndexStr (G l1 0) (G l1 3) fun v7 => B P 5 .lss v7 (.int .u8 48) fun v8 => Q v8 (K2 .ret [G l1 0, .bool false, G l1 2, G l1 3] s3) (pIndexStr (G l1 0) (G l1 3) fun v9 => B P 5 .gtr v9 (.int .u8 57) fun v10 => Q v10 (K2 .ret [G l1 0, .bool false, G l1 2, G l1 3] s3) (B P 3 .add (G l1 3) (.int .i64 1) fun v11 => K2 .normal [G l1 0, G l1 1, G l1 2, v11] s3))) (pIndexStr (G l1 0) (G l1 3) fun v12 => B P 5 .gtr v12 (.int .u8 122) fun v13 => Q v13 (pIndexStr (G l1 0) (G l1 3) fun v14 => B P 5 .lss v14 (.int .u8 48) fun v15 => Q v15 (K2 .ret [G l1 0, .bool false, G l1 2, G l1 3] s3) (pIndexStr (G l1 0) (G l1 3) fun v16 => B P 5 .gtr v16 (.int .u8 57) fun v17 => Q v17 (K2 .ret [G l1 0, .bool false, G l1 2, G l1 3] s3) (B P 3 .add (G l1 3) (.int .i64 1) fun v18 => K2 .normal [G l1 0, G l1 1, G l1 2, v18] s3))) (B P 3 .add (G l1 3) (.int .i64 1) fun v19 => K2 .normal [G l1 0, G l1 1, G l1 2, v19] s3))) (K2 (.exit 0) [G l1 0, G l1 1, G l1 2, G l1 3] s3)) [a0, .bool false, v0, .int .i64 0] σ fun x20 l21 s22 => match x20 with | .normal => pLenS (G l21 0) (fun v23 => AC P w0 n_impl_within [v23, .int .i64 1, .int .i64 5] s22 fun v24 s25 => R v24 s25) | .ret => R (G l21 1) s22 | .exit i26 => (match Nat.beq i26 0 with | true => pLenS (G l21 0) (fun v27 => AC P w0 n_impl_within [v27, .int .i64 1, .int .i64 5] s22 fun v28 s29 => R v28 s29) | false => False)
theorem vc_impl_nameOk_eq (w0 : World) (a0 : Value) (σ : Vw) (R : Value → Vw → Prop) : vc_impl_nameOk w0 a0 σ R = den Try.prog w0 kp_impl_nameOk esc_impl_nameOk (Try.f47.body.getD .skip) (entry Try.f47.ntmps [a0]) σ (retK Try.prog Try.f47.results.toList R) := by kernel_rfl
theorem ac_impl_nameOk {w0 : World} {a0 : Value} {σ : Vw} {R : Value → Vw → Prop} (h : vc_impl_nameOk w0 a0 σ R) : AC Try.prog w0 n_impl_nameOk [a0] σ R := by
  refine ac_rule (fn := Try.f47) (c := Try.f47.body.getD .skip) kp_impl_nameOk esc_impl_nameOk Try.func47 (by kernel_rfl) (by kernel_rfl) ?_
  rw [← vc_impl_nameOk_eq]
  exact h

/-- (impl.Pages).chain -/
def kp_impl_Pages_chain : Nat → Keep
  | 4 => ⟨[4, 5, 6, 7, 15, 16], [(2, 2), (3, 3)], [2, 3], .done, []⟩
  | _ => ⟨[], [], [], .done, []⟩
def esc_impl_Pages_chain : Nat → Bool
  | 10 => true
  | _ => false
def vc_impl_Pages_chain (w0 : World) (a0 a1 : Value) (σ : Vw) (R : Value → Vw → Prop) : Prop :=
  V true 2 a0 (V true 3 a1 (W w0 3 [] σ fun n0 s1 => AC P w0 n_impl_pieces [C a1 2, .int .i64 40] s1 fun v2 s3 => pLoop (fun l4 K5 s6 => B P 3 .lss (G l4 5) (G l4 4) fun v7 => Q v7 (B P 3 .mul (G l4 5) (.int .i64 40) fun v8 => B P 3 .sub (G l4 10) v8 fun v9 => pMin (.int .i64 40) v9 fun v10 => AC P w0 n_impl_within [G l4 3, .int .i64 0, .int .i64 95] s6 fun v11 s12 => pUn .not v11 fun v13 => Q v13 (K5 .ret [.slice none 0 0, .bool false, G l4 2, G l4 3, G l4 4, G l4 5, G l4 6, G l4 7, G l4 8, G l4 9, G l4 10] s12) (AC P w0 n_slices_Contains_int_int [G l4 2, G l4 3] s12 fun v14 s15 => Q v14 (K5 .ret [.slice none 0 0, .bool false, G l4 2, G l4 3, G l4 4, G l4 5, G l4 6, G l4 7, G l4 8, G l4 9, G l4 10] s15) (X 3 (G l4 6) (G l4 3) fun v16 => F 0 v16 fun v17 => L w0 1 v17 s15 fun g18 => pUn .not (g18 0) fun v19 => Q v19 (K5 .ret [.slice none 0 0, .bool false, G l4 2, G l4 3, G l4 4, G l4 5, G l4 6, G l4 7, G l4 8, G l4 9, G l4 10] s15) (X 3 (G l4 6) (G l4 3) fun v20 => F 1 v20 fun v21 => L w0 1 v21 s15 fun g22 => pLenS (g22 0) fun v23 => B P 3 .neq v23 v10 fun v24 => Q v24 (K5 .ret [.slice none 0 0, .bool false, G l4 2, G l4 3, G l4 4, G l4 5, G l4 6, G l4 7, G l4 8, G l4 9, G l4 10] s15) (V false 1 (G l4 3) ((allOne [G l4 3]) ∧ (A w0 3 1 8 (G l4 2) 1 [G l4 3] s15 fun v25 s26 => X 3 (G l4 6) (G l4 3) fun v27 => F 2 v27 fun v28 => L w0 1 v28 s26 fun g29 => B P 3 .add (G l4 5) (.int .i64 1) fun v30 => K5 .normal [G l4 0, G l4 1, v25, g29 0, G l4 4, v30, G l4 6, G l4 7, G l4 8, G l4 9, G l4 10] s26))))))) (K5 (.exit 0) [G l4 0, G l4 1, G l4 2, G l4 3, G l4 4, G l4 5, G l4 6, G l4 7, G l4 8, G l4 9, G l4 10] s6)) [.slice none 0 0, .bool false, .slice (some (Addr.mk n0 0 none)) 0 0, C a1 1, v2, .int .i64 0, C a0 0, C a0 1, C a1 0, C a1 1, C a1 2] s3 fun x31 l32 s33 => match x31 with | .normal => B P 3 .eql (G l32 3) (.int .i64 (-1)) (fun v34 => R (.tuple (⟨[G l32 2, v34]⟩)) s33) | .ret => R (.tuple (⟨[G l32 0, G l32 1]⟩)) s33 | .exit i35 => (match Nat.beq i35 0 with | true => B P 3 .eql (G l32 3) (.int .i64 (-1)) (fun v36 => R (.tuple (⟨[G l32 2, v36]⟩)) s33) | false => False)))
theorem vc_impl_Pages_chain_eq (w0 : World) (a0 a1 : Value) (σ : Vw) (R : Value → Vw → Prop) : vc_impl_Pages_chain w0 a0 a1 σ R = den Try.prog w0 kp_impl_Pages_chain esc_impl_Pages_chain (Try.f48.body.getD .skip) (entry Try.f48.ntmps [a0, a1]) σ (retK Try.prog Try.f48.results.toList R) := by kernel_rfl
theorem ac_impl_Pages_chain {w0 : World} {a0 a1 : Value} {σ : Vw} {R : Value → Vw → Prop} (h : vc_impl_Pages_chain w0 a0 a1 σ R) : AC Try.prog w0 n_impl_Pages_chain [a0, a1] σ R := by
  refine ac_rule (fn := Try.f48) (c := Try.f48.body.getD .skip) kp_impl_Pages_chain esc_impl_Pages_chain Try.func48 (by kernel_rfl) (by kernel_rfl) ?_
  rw [← vc_impl_Pages_chain_eq]
  exact h

/-- spec.l61Pages -/
def kp_spec_l61Pages : Nat → Keep
  | 3 => ⟨[0, 4], [(2, 2), (3, 2)], [2, 3], .done, []⟩
  | 8 => ⟨[], [], [], .step 0 (.step 1 (.step 2 (.step 3 (.step 4 (.step 5 (.step 6 (.step 7 (.step 8 (.done))))))))), [(3, [2]), (4, [0, 1, 2, 3]), (5, [0, 1, 2, 3, 4]), (6, [0, 1, 2, 3, 4, 5]), (7, [0, 1, 2, 3, 4, 5]), (8, [0, 1, 2, 3, 4, 5, 6])]⟩
  | _ => ⟨[], [], [], .done, []⟩
def esc_spec_l61Pages : Nat → Bool
  | 14 => true
  | _ => false
def vc_spec_l61Pages (w0 : World) (a0 : Value) (σ : Vw) (R : Value → Vw → Prop) : Prop :=
  AC P w0 n_spec_PagesNew [] σ fun v0 s1 => V true 2 v0 (AC P w0 n_p_spec_l1Rd_pick [a0, .int .i64 14] s1 fun v2 s3 => pLoop (fun l4 K5 s6 => B P 3 .gtr (G l4 1) (.int .i64 0) fun v7 => Q v7 (V false 1 (.string ({ data := #[97] })) (V false 1 (.string ({ data := #[98] })) (V false 1 (.string ({ data := #[99] })) (V false 1 (.string ({ data := #[100, 49] })) (V false 1 (.string ({ data := #[101] })) (V false 1 (.string ({ data := #[102] })) (V false 1 (.string ({ data := #[103] })) (V false 1 (.string ({ data := #[104] })) (W w0 9 ([.string ({ data := #[97] }), .string ({ data := #[98] }), .string ({ data := #[99] }), .string ({ data := #[100, 49] }), .string ({ data := #[101] }), .string ({ data := #[102] }), .string ({ data := #[103] }), .string ({ data := #[104] })]) s6 fun n8 s9 => AC P w0 n_p_spec_l1Rd_of [G l4 0, .slice (some (Addr.mk n8 0 none)) 8 8] s9 fun v10 s11 => AC P w0 n_p_spec_l1Rd_pick [G l4 0, .int .i64 3] s11 fun v12 s13 => B P 3 .eql v12 (.int .i64 0) fun v14 => Q v14 (AC P w0 n_spec_PagesDrop ([.agg (⟨[G l4 4, G l4 5]⟩), v10]) s13 fun v15 s16 => E v15 0 fun v17 => E v15 1 fun v18 => V true 2 v17 (B P 3 .sub (G l4 1) (.int .i64 1) fun v19 => K5 .normal [G l4 0, v19, G l4 2, G l4 3, C v17 0, C v17 1] s16)) (AC P w0 n_spec_l61Text [G l4 0] s13 fun v20 s21 => AC P w0 n_spec_PagesPut ([.agg (⟨[G l4 4, G l4 5]⟩), v10, v20]) s21 fun v22 s23 => E v22 0 fun v24 => E v22 1 fun v25 => V true 2 v24 (B P 3 .sub (G l4 1) (.int .i64 1) fun v26 => K5 .normal [G l4 0, v26, G l4 2, G l4 3, C v24 0, C v24 1] s23))))))))))) (K5 (.exit 0) [G l4 0, G l4 1, G l4 2, G l4 3, G l4 4, G l4 5] s6)) [a0, v2, .slice none 0 0, .slice none 0 0, C v0 0, C v0 1] s3 fun x27 l28 s29 => match x27 with | .normal => V true 2 (.agg (⟨[G l28 4, G l28 5]⟩)) (R (.agg (⟨[G l28 4, G l28 5]⟩)) s29) | .ret => R (.agg (⟨[G l28 2, G l28 3]⟩)) s29 | .exit i30 => (match Nat.beq i30 0 with | true => V true 2 (.agg (⟨[G l28 4, G l28 5]⟩)) (R (.agg (⟨[G l28 4, G l28 5]⟩)) s29) | false => False))
theorem vc_spec_l61Pages_eq (w0 : World) (a0 : Value) (σ : Vw) (R : Value → Vw → Prop) : vc_spec_l61Pages w0 a0 σ R = den Try.prog w0 kp_spec_l61Pages esc_spec_l61Pages (Try.f49.body.getD .skip) (entry Try.f49.ntmps [a0]) σ (retK Try.prog Try.f49.results.toList R) := by kernel_rfl
theorem ac_spec_l61Pages {w0 : World} {a0 : Value} {σ : Vw} {R : Value → Vw → Prop} (h : vc_spec_l61Pages w0 a0 σ R) : AC Try.prog w0 n_spec_l61Pages [a0] σ R := by
  refine ac_rule (fn := Try.f49) (c := Try.f49.body.getD .skip) kp_spec_l61Pages esc_spec_l61Pages Try.func49 (by kernel_rfl) (by kernel_rfl) ?_
  rw [← vc_spec_l61Pages_eq]
  exact h

/-- spec.l61Spoil -/
def kp_spec_l61Spoil : Nat → Keep
  | 7 => ⟨[], [], [], .step 0 (.step 1 (.step 2 (.step 3 (.step 4 (.step 5 (.step 6 (.step 7 (.step 8 (.done))))))))), [(1, [0]), (5, [3, 4]), (6, [0, 1, 2, 3, 4, 5]), (7, [0, 1, 2, 3, 4, 5, 6]), (8, [0, 1, 2, 3, 4, 5, 6, 7])]⟩
  | 9 => ⟨[], [], [], .step 0 (.step 1 (.step 2 (.step 3 (.step 4 (.step 5 (.step 6 (.step 7 (.step 8 (.done))))))))), [(1, [0]), (4, [3]), (5, [3, 4]), (6, [0, 1, 2, 3, 4, 5]), (7, [0, 1, 2, 3, 4, 5, 6]), (8, [0, 1, 2, 3, 4, 5, 6, 7])]⟩
  | 11 => ⟨[], [], [], .step 0 (.step 1 (.step 2 (.step 3 (.step 4 (.step 5 (.step 6 (.step 7 (.step 8 (.step 9 (.step 10 (.step 11 (.step 12 (.step 13 (.step 14 (.step 15 (.done)))))))))))))))), [(1, [0]), (4, [3]), (6, [3, 4, 5]), (7, [3, 4, 5, 6]), (8, [3, 4, 5, 6, 7]), (10, [9]), (11, [3, 4, 5, 6, 7, 8, 9, 10]), (12, [3, 4, 5, 6, 7, 8, 9, 10, 11]), (13, [0, 1, 2, 3, 4, 5, 6, 7, 8, 9, 10, 11, 12]), (14, [0, 1, 2, 3, 4, 5, 6, 7, 8, 9, 10, 11, 12, 13]), (15, [0, 1, 2, 3, 4, 5, 6, 7, 8, 9, 10, 11, 12, 13, 14])]⟩
  | 13 => ⟨[], [], [], .step 0 (.step 1 (.step 2 (.step 3 (.step 4 (.step 5 (.step 6 (.step 7 (.step 8 (.step 9 (.step 10 (.step 11 (.step 12 (.done))))))))))))), [(1, [0]), (4, [3]), (6, [3, 4, 5]), (7, [3, 4, 5, 6]), (8, [3, 4, 5, 6, 7]), (9, [3, 4, 5, 6, 7, 8]), (10, [0, 1, 2, 3, 4, 5, 6, 7, 8, 9]), (11, [0, 1, 2, 3, 4, 5, 6, 7, 8, 9, 10]), (12, [0, 1, 2, 3, 4, 5, 6, 7, 8, 9, 10, 11])]⟩
  | 15 => ⟨[], [], [], .step 0 (.step 1 (.step 2 (.step 3 (.step 4 (.step 5 (.step 6 (.step 7 (.step 8 (.step 9 (.step 10 (.step 11 (.step 12 (.done))))))))))))), [(1, [0]), (4, [3]), (6, [3, 4, 5]), (7, [3, 4, 5, 6]), (8, [3, 4, 5, 6, 7]), (9, [3, 4, 5, 6, 7, 8]), (10, [0, 1, 2, 3, 4, 5, 6, 7, 8, 9]), (11, [0, 1, 2, 3, 4, 5, 6, 7, 8, 9, 10]), (12, [0, 1, 2, 3, 4, 5, 6, 7, 8, 9, 10, 11])]⟩
  | 17 => ⟨[], [], [], .step 0 (.step 1 (.step 2 (.step 3 (.step 4 (.step 5 (.step 6 (.step 7 (.step 8 (.done))))))))), [(1, [0]), (4, [3]), (5, [3, 4]), (6, [0, 1, 2, 3, 4, 5]), (7, [0, 1, 2, 3, 4, 5, 6]), (8, [0, 1, 2, 3, 4, 5, 6, 7])]⟩
  | 21 => ⟨[], [], [], .step 0 (.step 1 (.step 2 (.step 5 (.step 8 (.step 3 (.step 4 (.step 6 (.step 7 (.step 9 (.step 10 (.step 11 (.step 12 (.step 13 (.step 14 (.done))))))))))))))), [(1, [0]), (4, [2, 3]), (6, [2, 3, 4, 5]), (7, [2, 3, 4, 5, 6]), (9, [2, 3, 4, 5, 6, 8]), (10, [2, 3, 4, 5, 6, 7, 8, 9]), (11, [2, 3, 4, 5, 6, 7, 8, 9, 10]), (12, [0, 1, 2, 3, 4, 5, 6, 7, 8, 9, 10, 11]), (13, [0, 1, 2, 3, 4, 5, 6, 7, 8, 9, 10, 11, 12]), (14, [0, 1, 2, 3, 4, 5, 6, 7, 8, 9, 10, 11, 12, 13])]⟩
  | _ => ⟨[], [], [], .done, []⟩
def esc_spec_l61Spoil : Nat → Bool
  | 32 => true
  | 116 => true
  | _ => false
def vc_spec_l61Spoil (w0 : World) (a0 a1 : Value) (σ : Vw) (R : Value → Vw → Prop) : Prop :=
  V true 2 a1 (AC P w0 n_spec_l32Copy ([.agg (⟨[C a1 0, C a1 1]⟩)]) σ fun v0 s1 => V true 2 v0 (N (C v0 0) fun v2 => AC P w0 n_p_spec_l1Rd_pick [a0, v2] s1 fun v3 s4 => AC P w0 n_p_spec_l1Rd_pick [a0, .int .i64 8] s4 fun v5 s6 => B P 3 .eql v5 (.int .i64 0) fun v7 => Q v7 (X 3 (C v0 0) v3 fun v8 => F 0 v8 fun v9 => L w0 1 v9 s6 fun g10 => pUn .not (g10 0) fun v11 => X 3 (C v0 0) v3 fun v12 => F 0 v12 fun v13 => V false 1 v11 (pStore v13 [v11] s6 fun s14 => V true 2 (.agg (⟨[C v0 0, C v0 1]⟩)) (R (.agg (⟨[C v0 0, C v0 1]⟩)) s14))) (B P 3 .eql v5 (.int .i64 1) fun v15 => Q v15 (X 3 (C v0 0) v3 fun v16 => F 1 v16 fun v17 => L w0 1 v17 s6 fun g18 => B P 9 .add (g18 0) (.string ({ data := #[120] })) fun v19 => X 3 (C v0 0) v3 fun v20 => F 1 v20 fun v21 => V false 1 v19 (pStore v21 [v19] s6 fun s22 => V true 2 (.agg (⟨[C v0 0, C v0 1]⟩)) (R (.agg (⟨[C v0 0, C v0 1]⟩)) s22))) (B P 3 .eql v5 (.int .i64 2) fun v23 => Q v23 (AC P w0 n_p_spec_l1Rd_pick [a0, .int .i64 8] s6 fun v24 s25 => B P 3 .sub v24 (.int .i64 2) fun v26 => X 3 (C v0 0) v3 fun v27 => F 2 v27 fun v28 => V false 1 v26 (pStore v28 [v26] s25 fun s29 => V true 2 (.agg (⟨[C v0 0, C v0 1]⟩)) (R (.agg (⟨[C v0 0, C v0 1]⟩)) s29))) (B P 3 .eql v5 (.int .i64 3) fun v30 => Q v30 (N (C v0 0) fun v31 => B P 3 .sub v31 (.int .i64 1) fun v32 => pSlice 3 (C v0 0) none (some v32) fun v33 => V false 1 v33 (V true 2 (.agg (⟨[v33, C v0 1]⟩)) (R (.agg (⟨[v33, C v0 1]⟩)) s6))) (B P 3 .eql v5 (.int .i64 4) fun v34 => Q v34 (V false 1 (.string ({ data := #[122, 122] })) (V false 1 (.string ({ data := #[] })) (V false 1 (.string ({ data := #[97] })) (W w0 9 ([.string ({ data := #[122, 122] }), .string ({ data := #[] }), .string ({ data := #[97] })]) s6 fun n35 s36 => AC P w0 n_p_spec_l1Rd_of [a0, .slice (some (Addr.mk n35 0 none)) 3 3] s36 fun v37 s38 => AC P w0 n_p_spec_l1Rd_pick [a0, .int .i64 4] s38 fun v39 s40 => B P 3 .sub v39 (.int .i64 2) fun v41 => AC P w0 n_p_spec_l1Rd_pick [a0, .int .i64 3] s40 fun v42 s43 => V false 1 v37 (V false 1 v41 (V false 1 v42 (V true 3 (.agg (⟨[v37, v41, v42]⟩)) ((allOne [v37, v41, v42]) ∧ (A w0 33 3 32 (C v0 1) 1 [v37, v41, v42] s43 fun v44 s45 => V false 1 v44 (V true 2 (.agg (⟨[C v0 0, v44]⟩)) (R (.agg (⟨[C v0 0, v44]⟩)) s45))))))))))) (N (C v0 1) fun v46 => B P 3 .gtr v46 (.int .i64 0) fun v47 => Q v47 (N (C v0 1) fun v48 => AC P w0 n_p_spec_l1Rd_pick [a0, v48] s6 fun v49 s50 => AC P w0 n_p_spec_l1Rd_pick [a0, .int .i64 3] s50 fun v51 s52 => B P 3 .eql v51 (.int .i64 0) fun v53 => Q v53 (AC P w0 n_p_spec_l1Rd_pick [a0, .int .i64 6] s52 fun v54 s55 => B P 3 .sub v54 (.int .i64 2) fun v56 => X 3 (C v0 1) v49 fun v57 => F 1 v57 fun v58 => V false 1 v56 (pStore v58 [v56] s55 fun s59 => V true 2 (.agg (⟨[C v0 0, C v0 1]⟩)) (R (.agg (⟨[C v0 0, C v0 1]⟩)) s59))) (B P 3 .eql v51 (.int .i64 1) fun v60 => Q v60 (X 3 (C v0 1) v49 fun v61 => F 2 v61 fun v62 => L w0 1 v62 s52 fun g63 => AC P w0 n_p_spec_l1Rd_pick [a0, .int .i64 3] s52 fun v64 s65 => (Stay w0 s52 s65 v62 1) ∧ (B P 3 .add (g63 0) v64 fun v66 => B P 3 .sub v66 (.int .i64 1) fun v67 => X 3 (C v0 1) v49 fun v68 => F 2 v68 fun v69 => V false 1 v67 (pStore v69 [v67] s65 fun s70 => V true 2 (.agg (⟨[C v0 0, C v0 1]⟩)) (R (.agg (⟨[C v0 0, C v0 1]⟩)) s70)))) (V false 1 (.string ({ data := #[] })) (V false 1 (.string ({ data := #[122, 122] })) (V false 1 (.string ({ data := #[65] })) (W w0 9 ([.string ({ data := #[] }), .string ({ data := #[122, 122] }), .string ({ data := #[65] })]) s52 fun n71 s72 => AC P w0 n_p_spec_l1Rd_of [a0, .slice (some (Addr.mk n71 0 none)) 3 3] s72 fun v73 s74 => X 3 (C v0 1) v49 fun v75 => F 0 v75 fun v76 => V false 1 v73 (pStore v76 [v73] s74 fun s77 => V true 2 (.agg (⟨[C v0 0, C v0 1]⟩)) (R (.agg (⟨[C v0 0, C v0 1]⟩)) s77)))))))) (V true 2 (.agg (⟨[C v0 0, C v0 1]⟩)) (R (.agg (⟨[C v0 0, C v0 1]⟩)) s6)))))))))
theorem vc_spec_l61Spoil_eq (w0 : World) (a0 a1 : Value) (σ : Vw) (R : Value → Vw → Prop) : vc_spec_l61Spoil w0 a0 a1 σ R = den Try.prog w0 kp_spec_l61Spoil esc_spec_l61Spoil (Try.f50.body.getD .skip) (entry Try.f50.ntmps [a0, a1]) σ (retK Try.prog Try.f50.results.toList R) := by kernel_rfl
theorem ac_spec_l61Spoil {w0 : World} {a0 a1 : Value} {σ : Vw} {R : Value → Vw → Prop} (h : vc_spec_l61Spoil w0 a0 a1 σ R) : AC Try.prog w0 n_spec_l61Spoil [a0, a1] σ R := by
  refine ac_rule (fn := Try.f50) (c := Try.f50.body.getD .skip) kp_spec_l61Spoil esc_spec_l61Spoil Try.func50 (by kernel_rfl) (by kernel_rfl) ?_
  rw [← vc_spec_l61Spoil_eq]
  exact h

/-- spec.PagesPut -/
def kp_spec_PagesPut : Nat → Keep
  | 13 => ⟨[], [], [], .step 0 (.step 2 (.step 1 (.step 3 (.step 4 (.step 5 (.done)))))), [(1, [0]), (3, [0, 1, 2]), (4, [0, 1, 2, 3]), (5, [0, 1, 2, 3, 4])]⟩
  | _ => ⟨[], [], [], .done, []⟩
def esc_spec_PagesPut : Nat → Bool
  | _ => false
def cs_spec_PagesPut_1 (w0 : World) (v900 : Value) (v901 : Value) (s902 : Vw) (v903 : Value) (v904 : Value) (R : Value → Vw → Prop) : Prop :=
  N (C v900 1) (fun v500 => B P 3 .geq v500 (.int .i64 16) fun v501 => Q v501 (AC P w0 n_spec_l32Copy ([.agg (⟨[C v901 0, C v901 1]⟩)]) s902 fun v502 s503 => V true 2 v502 (R (.tuple (⟨[.agg (⟨[C v502 0, C v502 1]⟩), .int .i64 4]⟩)) s503)) (pLenS v903 fun v504 => B P 3 .gtr v504 (.int .i64 3000) fun v505 => Q v505 (AC P w0 n_spec_l32Copy ([.agg (⟨[C v901 0, C v901 1]⟩)]) s902 fun v506 s507 => V true 2 v506 (R (.tuple (⟨[.agg (⟨[C v506 0, C v506 1]⟩), .int .i64 5]⟩)) s507)) (AC P w0 n_spec_PagesNeed [v903] s902 fun v508 s509 => AC P w0 n_spec_l32Free ([.agg (⟨[C v900 0, C v900 1]⟩)]) s509 fun v510 s511 => B P 3 .gtr v508 v510 fun v512 => Q v512 (AC P w0 n_spec_l32Copy ([.agg (⟨[C v901 0, C v901 1]⟩)]) s511 fun v513 s514 => V true 2 v513 (R (.tuple (⟨[.agg (⟨[C v513 0, C v513 1]⟩), .int .i64 6]⟩)) s514)) (AC P w0 n_spec_l32Keep ([.agg (⟨[C v900 0, C v900 1]⟩), v904, v903]) s511 fun v515 s516 => AC P w0 n_spec_l32Copy [v515] s516 fun v517 s518 => V true 2 v517 (R (.tuple (⟨[.agg (⟨[C v517 0, C v517 1]⟩), .int .i64 0]⟩)) s518)))))
def vc_spec_PagesPut (w0 : World) (a0 a1 a2 : Value) (σ : Vw) (R : Value → Vw → Prop) : Prop :=
  V true 2 a0 (AC P w0 n_spec_PagesOk ([.agg (⟨[C a0 0, C a0 1]⟩)]) σ fun v0 s1 => pUn .not v0 fun v2 => Q v2 (V true 2 (.agg (⟨[.slice none 0 0, .slice none 0 0]⟩)) (R (.tuple (⟨[.agg (⟨[.slice none 0 0, .slice none 0 0]⟩), .int .i64 1]⟩)) s1)) (AC P w0 n_spec_l1NameOk [a1] s1 fun v3 s4 => pUn .not v3 fun v5 => Q v5 (AC P w0 n_spec_l32Copy ([.agg (⟨[C a0 0, C a0 1]⟩)]) s4 fun v6 s7 => V true 2 v6 (R (.tuple (⟨[.agg (⟨[C v6 0, C v6 1]⟩), .int .i64 2]⟩)) s7)) (AC P w0 n_spec_l32Copy ([.agg (⟨[C a0 0, C a0 1]⟩)]) s4 fun v8 s9 => V true 2 v8 (AC P w0 n_spec_l32At ([.agg (⟨[C v8 0, C v8 1]⟩), a1]) s9 fun v10 s11 => B P 3 .geq v10 (.int .i64 0) fun v12 => Q v12 (AC P w0 n_spec_l32Drop ([.agg (⟨[C v8 0, C v8 1]⟩), v10]) s11 fun v13 s14 => V true 2 v13 (cs_spec_PagesPut_1 w0 v13 a0 s14 a2 a1 R)) (cs_spec_PagesPut_1 w0 v8 a0 s11 a2 a1 R)))))

theorem vc_spec_PagesPut_eq (w0 : World) (a0 a1 a2 : Value) (σ : Vw) (R : Value → Vw → Prop) : vc_spec_PagesPut w0 a0 a1 a2 σ R = den Try.prog w0 kp_spec_PagesPut esc_spec_PagesPut (Try.f51.body.getD .skip) (entry Try.f51.ntmps [a0, a1, a2]) σ (retK Try.prog Try.f51.results.toList R) := by kernel_rfl
theorem ac_spec_PagesPut {w0 : World} {a0 a1 a2 : Value} {σ : Vw} {R : Value → Vw → Prop} (h : vc_spec_PagesPut w0 a0 a1 a2 σ R) : AC Try.prog w0 n_spec_PagesPut [a0, a1, a2] σ R := by
  refine ac_rule (fn := Try.f51) (c := Try.f51.body.getD .skip) kp_spec_PagesPut esc_spec_PagesPut Try.func51 (by kernel_rfl) (by kernel_rfl) ?_
  rw [← vc_spec_PagesPut_eq]
  exact h

/-- spec.l1Dec -/
def kp_spec_l1Dec : Nat → Keep
  | 7 => ⟨[], [], [], .step 0 (.step 1 (.step 3 (.step 4 (.step 5 (.step 6 (.both (.step 2 (.step 7 (.step 8 (.step 9 (.step 10 (.done)))))) (.step 7 (.step 8 (.step 2 (.step 9 (.step 10 (.done)))))))))))), [(1, [0]), (2, [0, 1]), (4, [3]), (5, [3, 4]), (6, [3, 4, 5]), (7, [3, 4, 5, 6]), (8, [3, 4, 5, 6, 7]), (9, [0, 1, 2, 3, 4, 5, 6, 7, 8]), (10, [0, 1, 2, 3, 4, 5, 6, 7, 8, 9])]⟩
  | _ => ⟨[], [], [], .done, []⟩
def esc_spec_l1Dec : Nat → Bool
  | 16 => true
  | 25 => true
  | _ => false
def vc_spec_l1Dec (w0 : World) (a0 : Value) (σ : Vw) (R : Value → Vw → Prop) : Prop :=
  B P 3 .lss a0 (.int .i64 (-9223372036854775807)) fun v0 => Q v0 (R (.string ({ data := #[45, 57, 50, 50, 51, 51, 55, 50, 48, 51, 54, 56, 53, 52, 55, 55, 53, 56, 48, 56] })) σ) (B P 3 .lss a0 (.int .i64 0) fun v1 => Q v1 (pUn .neg a0 fun v2 => AC P w0 n_spec_l1Dec [v2] σ fun v3 s4 => B P 9 .add (.string ({ data := #[45] })) v3 fun v5 => R v5 s4) (B P 3 .lss a0 (.int .i64 10) fun v6 => Q v6 (B P 3 .add (.int .i64 48) a0 fun v7 => pConvInt .u8 v7 fun v8 => V false 1 v8 (W w0 5 [v8] σ fun n9 s10 => pStr w0 (.slice (some (Addr.mk n9 0 none)) 1 1) s10 fun v11 => R v11 s10)) (B P 3 .quo a0 (.int .i64 10) fun v12 => B P 3 .rem a0 (.int .i64 10) fun v13 => B P 3 .add (.int .i64 48) v13 fun v14 => pConvInt .u8 v14 fun v15 => (AC P w0 n_spec_l1Dec [v12] σ fun v16 s17 => V false 1 v15 (W w0 5 [v15] s17 fun n18 s19 => pStr w0 (.slice (some (Addr.mk n18 0 none)) 1 1) s19 fun v20 => B P 9 .add v16 v20 fun v21 => R v21 s19)) ∧ (V false 1 v15 (W w0 5 [v15] σ fun n22 s23 => pStr w0 (.slice (some (Addr.mk n22 0 none)) 1 1) s23 fun v24 => AC P w0 n_spec_l1Dec [v12] s23 fun v25 s26 => (Ext s23 s26) ∧ (B P 9 .add v25 v24 fun v27 => R v27 s26))))))
theorem vc_spec_l1Dec_eq (w0 : World) (a0 : Value) (σ : Vw) (R : Value → Vw → Prop) : vc_spec_l1Dec w0 a0 σ R = den Try.prog w0 kp_spec_l1Dec esc_spec_l1Dec (Try.f52.body.getD .skip) (entry Try.f52.ntmps [a0]) σ (retK Try.prog Try.f52.results.toList R) := by kernel_rfl
theorem ac_spec_l1Dec {w0 : World} {a0 : Value} {σ : Vw} {R : Value → Vw → Prop} (h : vc_spec_l1Dec w0 a0 σ R) : AC Try.prog w0 n_spec_l1Dec [a0] σ R := by
  refine ac_rule (fn := Try.f52) (c := Try.f52.body.getD .skip) kp_spec_l1Dec esc_spec_l1Dec Try.func52 (by kernel_rfl) (by kernel_rfl) ?_
  rw [← vc_spec_l1Dec_eq]
  exact h

end Go.Proofs.Ytlfnfpdipghdiaa

/- What each function owes, reckoned out, part 2. MADE BY PROGRAM (emit.py). -/
set_option linter.unusedVariables false
namespace Go.Proofs.Ytlfnfpdipghdiaa
open Go.Av renaming vget → G, cellOf → C, pVal → V, pBin → B, pIndexAddr → X, pLoad → L, pField → F, pIf → Q, pExtract → E, pAppend → A, pLen → N, pNew → W
open Go.Proofs.Try renaming prog → P
open Go Go.Av

/-- (*spec.l1Rd).of -/
def kp_p_spec_l1Rd_of : Nat → Keep
  | _ => ⟨[], [], [], .done, []⟩
def esc_p_spec_l1Rd_of : Nat → Bool
  | _ => false
def vc_p_spec_l1Rd_of (w0 : World) (a0 a1 : Value) (σ : Vw) (R : Value → Vw → Prop) : Prop :=
  N a1 fun v0 => AC P w0 n_p_spec_l1Rd_pick [a0, v0] σ fun v1 s2 => X 1 a1 v1 fun v3 => L w0 1 v3 s2 fun g4 => R (g4 0) s2
theorem vc_p_spec_l1Rd_of_eq (w0 : World) (a0 a1 : Value) (σ : Vw) (R : Value → Vw → Prop) : vc_p_spec_l1Rd_of w0 a0 a1 σ R = den Try.prog w0 kp_p_spec_l1Rd_of esc_p_spec_l1Rd_of (Try.f56.body.getD .skip) (entry Try.f56.ntmps [a0, a1]) σ (retK Try.prog Try.f56.results.toList R) := by kernel_rfl
theorem ac_p_spec_l1Rd_of {w0 : World} {a0 a1 : Value} {σ : Vw} {R : Value → Vw → Prop} (h : vc_p_spec_l1Rd_of w0 a0 a1 σ R) : AC Try.prog w0 n_p_spec_l1Rd_of [a0, a1] σ R := by
  refine ac_rule (fn := Try.f56) (c := Try.f56.body.getD .skip) kp_p_spec_l1Rd_of esc_p_spec_l1Rd_of Try.func56 (by kernel_rfl) (by kernel_rfl) ?_
  rw [← vc_p_spec_l1Rd_of_eq]
  exact h

/-- slices.IndexFunc[[]impl.PageName,impl.PageName] -/
def kp_slices_IndexFunc_impl_PageName_impl_PageName : Nat → Keep
  | 2 => ⟨[0, 1, 4, 7, 8], [], [], .done, []⟩
  | _ => ⟨[], [], [], .done, []⟩
def esc_slices_IndexFunc_impl_PageName_impl_PageName : Nat → Bool
  | _ => false
def vc_slices_IndexFunc_impl_PageName_impl_PageName (w0 : World) (a0 a1 : Value) (σ : Vw) (R : Value → Vw → Prop) : Prop :=
  N a0 fun v0 => pLoop (fun l1 K2 s3 => B P 3 .lss (G l1 4) (G l1 3) fun v4 => Q v4 (X 3 (G l1 0) (G l1 4) fun v5 => L w0 3 v5 s3 fun g6 => pCallV (fun n7 l8 s9 K10 => AC P w0 n7 l8 s9 K10) (G l1 1) ([.agg (⟨[g6 0, g6 1, g6 2]⟩)]) s3 fun v11 s12 => Q v11 (K2 .ret [G l1 0, G l1 1, G l1 4, G l1 3, G l1 4] s12) (B P 3 .add (G l1 4) (.int .i64 1) fun v13 => K2 .normal [G l1 0, G l1 1, G l1 2, G l1 3, v13] s12)) (K2 (.exit 0) [G l1 0, G l1 1, G l1 2, G l1 3, G l1 4] s3)) [a0, a1, .int .i64 0, v0, .int .i64 0] σ fun x14 l15 s16 => match x14 with | .normal => R (.int .i64 (-1)) s16 | .ret => R (G l15 2) s16 | .exit i17 => (match Nat.beq i17 0 with | true => R (.int .i64 (-1)) s16 | false => False)
theorem vc_slices_IndexFunc_impl_PageName_impl_PageName_eq (w0 : World) (a0 a1 : Value) (σ : Vw) (R : Value → Vw → Prop) : vc_slices_IndexFunc_impl_PageName_impl_PageName w0 a0 a1 σ R = den Try.prog w0 kp_slices_IndexFunc_impl_PageName_impl_PageName esc_slices_IndexFunc_impl_PageName_impl_PageName (Try.f57.body.getD .skip) (entry Try.f57.ntmps [a0, a1]) σ (retK Try.prog Try.f57.results.toList R) := by kernel_rfl
theorem ac_slices_IndexFunc_impl_PageName_impl_PageName {w0 : World} {a0 a1 : Value} {σ : Vw} {R : Value → Vw → Prop} (h : vc_slices_IndexFunc_impl_PageName_impl_PageName w0 a0 a1 σ R) : AC Try.prog w0 n_slices_IndexFunc_impl_PageName_impl_PageName [a0, a1] σ R := by
  refine ac_rule (fn := Try.f57) (c := Try.f57.body.getD .skip) kp_slices_IndexFunc_impl_PageName_impl_PageName esc_slices_IndexFunc_impl_PageName_impl_PageName Try.func57 (by kernel_rfl) (by kernel_rfl) ?_
  rw [← vc_slices_IndexFunc_impl_PageName_impl_PageName_eq]
  exact h

/-- (impl.Pages).find$1 -/
def kp_impl_Pages_find_c1 : Nat → Keep
  | _ => ⟨[], [], [], .done, []⟩
def esc_impl_Pages_find_c1 : Nat → Bool
  | _ => false
def vc_impl_Pages_find_c1 (w0 : World) (a0 a1 : Value) (σ : Vw) (R : Value → Vw → Prop) : Prop :=
  V true 3 a0 (L w0 1 a1 σ fun g0 => B P 9 .eql (C a0 0) (g0 0) fun v1 => R v1 σ)
theorem vc_impl_Pages_find_c1_eq (w0 : World) (a0 a1 : Value) (σ : Vw) (R : Value → Vw → Prop) : vc_impl_Pages_find_c1 w0 a0 a1 σ R = den Try.prog w0 kp_impl_Pages_find_c1 esc_impl_Pages_find_c1 (Try.f58.body.getD .skip) (entry Try.f58.ntmps [a0, a1]) σ (retK Try.prog Try.f58.results.toList R) := by kernel_rfl
theorem ac_impl_Pages_find_c1 {w0 : World} {a0 a1 : Value} {σ : Vw} {R : Value → Vw → Prop} (h : vc_impl_Pages_find_c1 w0 a0 a1 σ R) : AC Try.prog w0 n_impl_Pages_find_c1 [a0, a1] σ R := by
  refine ac_rule (fn := Try.f58) (c := Try.f58.body.getD .skip) kp_impl_Pages_find_c1 esc_impl_Pages_find_c1 Try.func58 (by kernel_rfl) (by kernel_rfl) ?_
  rw [← vc_impl_Pages_find_c1_eq]
  exact h

/-- slices.Delete[[]impl.PageName,impl.PageName] -/
def kp_slices_Delete_impl_PageName_impl_PageName : Nat → Keep
  | 5 => ⟨[], [], [], .step 0 (.step 1 (.step 2 (.step 3 (.step 4 (.step 5 (.step 6 (.step 7 (.done)))))))), [(2, [0, 1]), (5, [3, 4]), (6, [0, 1, 2, 3, 4, 5]), (7, [0, 1, 2, 3, 4, 5, 6])]⟩
  | _ => ⟨[], [], [], .done, []⟩
def esc_slices_Delete_impl_PageName_impl_PageName : Nat → Bool
  | _ => false
def vc_slices_Delete_impl_PageName_impl_PageName (w0 : World) (a0 a1 a2 : Value) (σ : Vw) (R : Value → Vw → Prop) : Prop :=
  N a0 fun v0 => pSlice3 3 a0 (some a1) (some a2) (some v0) fun v1 => B P 3 .eql a1 a2 fun v2 => Q v2 (R a0 σ) (N a0 fun v3 => pSlice 3 a0 none (some a1) fun v4 => pSlice 3 a0 (some a2) none fun v5 => pAppendS w0 33 3 32 v4 v5 σ fun v6 s7 => N v6 fun v8 => pSlice 3 v6 (some v8) (some v3) fun v9 => pClear 3 ([.string ({ data := #[] }), .int .i64 0, .int .i64 0]) v9 s7 fun s10 => R v6 s10)
theorem vc_slices_Delete_impl_PageName_impl_PageName_eq (w0 : World) (a0 a1 a2 : Value) (σ : Vw) (R : Value → Vw → Prop) : vc_slices_Delete_impl_PageName_impl_PageName w0 a0 a1 a2 σ R = den Try.prog w0 kp_slices_Delete_impl_PageName_impl_PageName esc_slices_Delete_impl_PageName_impl_PageName (Try.f59.body.getD .skip) (entry Try.f59.ntmps [a0, a1, a2]) σ (retK Try.prog Try.f59.results.toList R) := by kernel_rfl
theorem ac_slices_Delete_impl_PageName_impl_PageName {w0 : World} {a0 a1 a2 : Value} {σ : Vw} {R : Value → Vw → Prop} (h : vc_slices_Delete_impl_PageName_impl_PageName w0 a0 a1 a2 σ R) : AC Try.prog w0 n_slices_Delete_impl_PageName_impl_PageName [a0, a1, a2] σ R := by
  refine ac_rule (fn := Try.f59) (c := Try.f59.body.getD .skip) kp_slices_Delete_impl_PageName_impl_PageName esc_slices_Delete_impl_PageName_impl_PageName Try.func59 (by kernel_rfl) (by kernel_rfl) ?_
  rw [← vc_slices_Delete_impl_PageName_impl_PageName_eq]
  exact h

/-- slices.Contains[[]int,int] -/
def kp_slices_Contains_int_int : Nat → Keep
  | _ => ⟨[], [], [], .done, []⟩
def esc_slices_Contains_int_int : Nat → Bool
  | _ => false
def vc_slices_Contains_int_int (w0 : World) (a0 a1 : Value) (σ : Vw) (R : Value → Vw → Prop) : Prop :=
  AC P w0 n_slices_Index_int_int [a0, a1] σ fun v0 s1 => B P 3 .geq v0 (.int .i64 0) fun v2 => R v2 s1
theorem vc_slices_Contains_int_int_eq (w0 : World) (a0 a1 : Value) (σ : Vw) (R : Value → Vw → Prop) : vc_slices_Contains_int_int w0 a0 a1 σ R = den Try.prog w0 kp_slices_Contains_int_int esc_slices_Contains_int_int (Try.f60.body.getD .skip) (entry Try.f60.ntmps [a0, a1]) σ (retK Try.prog Try.f60.results.toList R) := by kernel_rfl
theorem ac_slices_Contains_int_int {w0 : World} {a0 a1 : Value} {σ : Vw} {R : Value → Vw → Prop} (h : vc_slices_Contains_int_int w0 a0 a1 σ R) : AC Try.prog w0 n_slices_Contains_int_int [a0, a1] σ R := by
  refine ac_rule (fn := Try.f60) (c := Try.f60.body.getD .skip) kp_slices_Contains_int_int esc_slices_Contains_int_int Try.func60 (by kernel_rfl) (by kernel_rfl) ?_
  rw [← vc_slices_Contains_int_int_eq]
  exact h

/-- spec.PagesNew -/
def kp_spec_PagesNew : Nat → Keep
  | 3 => ⟨[2], [(0, 2), (1, 2)], [0, 1], .done, []⟩
  | _ => ⟨[], [], [], .done, []⟩
def esc_spec_PagesNew : Nat → Bool
  | _ => false
def vc_spec_PagesNew (w0 : World) (σ : Vw) (R : Value → Vw → Prop) : Prop :=
  V true 2 (.agg (⟨[.slice none 0 0, .slice none 0 0]⟩)) (pLoop (fun l0 K1 s2 => B P 3 .lss (G l0 0) (.int .i64 96) fun v3 => Q v3 (V false 1 (.int .i64 (-1)) (V true 3 (.agg (⟨[.bool false, .string ({ data := #[] }), .int .i64 (-1)]⟩)) ((allOne ([.bool false, .string ({ data := #[] }), .int .i64 (-1)])) ∧ (A w0 63 3 32 (G l0 3) 1 ([.bool false, .string ({ data := #[] }), .int .i64 (-1)]) s2 fun v4 s5 => V false 1 v4 (B P 3 .add (G l0 0) (.int .i64 1) fun v6 => K1 .normal [v6, G l0 1, G l0 2, v4, G l0 4] s5))))) (K1 (.exit 0) [G l0 0, G l0 1, G l0 2, G l0 3, G l0 4] s2)) [.int .i64 0, .slice none 0 0, .slice none 0 0, .slice none 0 0, .slice none 0 0] σ fun x7 l8 s9 => match x7 with | .normal => V true 2 (.agg (⟨[G l8 3, G l8 4]⟩)) (R (.agg (⟨[G l8 3, G l8 4]⟩)) s9) | .ret => R (.agg (⟨[G l8 1, G l8 2]⟩)) s9 | .exit i10 => (match Nat.beq i10 0 with | true => V true 2 (.agg (⟨[G l8 3, G l8 4]⟩)) (R (.agg (⟨[G l8 3, G l8 4]⟩)) s9) | false => False))
theorem vc_spec_PagesNew_eq (w0 : World) (σ : Vw) (R : Value → Vw → Prop) : vc_spec_PagesNew w0 σ R = den Try.prog w0 kp_spec_PagesNew esc_spec_PagesNew (Try.f61.body.getD .skip) (entry Try.f61.ntmps []) σ (retK Try.prog Try.f61.results.toList R) := by kernel_rfl
theorem ac_spec_PagesNew {w0 : World} {σ : Vw} {R : Value → Vw → Prop} (h : vc_spec_PagesNew w0 σ R) : AC Try.prog w0 n_spec_PagesNew [] σ R := by
  refine ac_rule (fn := Try.f61) (c := Try.f61.body.getD .skip) kp_spec_PagesNew esc_spec_PagesNew Try.func61 (by kernel_rfl) (by kernel_rfl) ?_
  rw [← vc_spec_PagesNew_eq]
  exact h

/-- spec.l61Text -/
def kp_spec_l61Text : Nat → Keep
  | _ => ⟨[], [], [], .done, []⟩
def esc_spec_l61Text : Nat → Bool
  | 23 => true
  | _ => false
def vc_spec_l61Text (w0 : World) (a0 : Value) (σ : Vw) (R : Value → Vw → Prop) : Prop :=
  AC P w0 n_p_spec_l1Rd_pick [a0, .int .i64 8] σ fun v0 s1 => B P 3 .eql v0 (.int .i64 0) fun v2 => Q v2 (AC P w0 n_p_spec_l1Rd_pick [a0, .int .i64 5] s1 fun v3 s4 => B P 3 .mul (.int .i64 40) v3 fun v5 => AC P w0 n_spec_l1Many ([.string ({ data := #[112] }), v5]) s4 fun v6 s7 => R v6 s7) (B P 3 .eql v0 (.int .i64 1) fun v8 => Q v8 (AC P w0 n_p_spec_l1Rd_pick [a0, .int .i64 2] s1 fun v9 s10 => B P 3 .sub (.int .i64 3000) v9 fun v11 => AC P w0 n_p_spec_l1Rd_pick [a0, .int .i64 3] s10 fun v12 s13 => B P 3 .add v11 v12 fun v14 => AC P w0 n_spec_l1Many ([.string ({ data := #[113] }), v14]) s13 fun v15 s16 => R v15 s16) (B P 3 .eql v0 (.int .i64 2) fun v17 => Q v17 (R (.string ({ data := #[] })) s1) (V false 1 (.string ({ data := #[97] })) (V false 1 (.string ({ data := #[104, 101, 108, 108, 111, 10] })) (V false 1 (.string ({ data := #[101, 110, 100, 10] })) (V false 1 (.string ({ data := #[97, 32, 49, 10] })) (V false 1 (.string ({ data := #[0] })) (W w0 9 ([.string ({ data := #[97] }), .string ({ data := #[104, 101, 108, 108, 111, 10] }), .string ({ data := #[101, 110, 100, 10] }), .string ({ data := #[97, 32, 49, 10] }), .string ({ data := #[0] })]) s1 fun n18 s19 => AC P w0 n_p_spec_l1Rd_of [a0, .slice (some (Addr.mk n18 0 none)) 5 5] s19 fun v20 s21 => AC P w0 n_p_spec_l1Rd_pick [a0, .int .i64 60] s21 fun v22 s23 => AC P w0 n_spec_l1Many [v20, v22] s23 fun v24 s25 => R v24 s25))))))))
theorem vc_spec_l61Text_eq (w0 : World) (a0 : Value) (σ : Vw) (R : Value → Vw → Prop) : vc_spec_l61Text w0 a0 σ R = den Try.prog w0 kp_spec_l61Text esc_spec_l61Text (Try.f62.body.getD .skip) (entry Try.f62.ntmps [a0]) σ (retK Try.prog Try.f62.results.toList R) := by kernel_rfl
theorem ac_spec_l61Text {w0 : World} {a0 : Value} {σ : Vw} {R : Value → Vw → Prop} (h : vc_spec_l61Text w0 a0 σ R) : AC Try.prog w0 n_spec_l61Text [a0] σ R := by
  refine ac_rule (fn := Try.f62) (c := Try.f62.body.getD .skip) kp_spec_l61Text esc_spec_l61Text Try.func62 (by kernel_rfl) (by kernel_rfl) ?_
  rw [← vc_spec_l61Text_eq]
  exact h

/-- spec.PagesNeed -/
def kp_spec_PagesNeed : Nat → Keep
  | _ => ⟨[], [], [], .done, []⟩
def esc_spec_PagesNeed : Nat → Bool
  | _ => false
def vc_spec_PagesNeed (w0 : World) (a0 : Value) (σ : Vw) (R : Value → Vw → Prop) : Prop :=
  pLenS a0 fun v0 => B P 3 .add v0 (.int .i64 40) fun v1 => B P 3 .sub v1 (.int .i64 1) fun v2 => B P 3 .quo v2 (.int .i64 40) fun v3 => R v3 σ
theorem vc_spec_PagesNeed_eq (w0 : World) (a0 : Value) (σ : Vw) (R : Value → Vw → Prop) : vc_spec_PagesNeed w0 a0 σ R = den Try.prog w0 kp_spec_PagesNeed esc_spec_PagesNeed (Try.f63.body.getD .skip) (entry Try.f63.ntmps [a0]) σ (retK Try.prog Try.f63.results.toList R) := by kernel_rfl
theorem ac_spec_PagesNeed {w0 : World} {a0 : Value} {σ : Vw} {R : Value → Vw → Prop} (h : vc_spec_PagesNeed w0 a0 σ R) : AC Try.prog w0 n_spec_PagesNeed [a0] σ R := by
  refine ac_rule (fn := Try.f63) (c := Try.f63.body.getD .skip) kp_spec_PagesNeed esc_spec_PagesNeed Try.func63 (by kernel_rfl) (by kernel_rfl) ?_
  rw [← vc_spec_PagesNeed_eq]
  exact h

/-- spec.l32Keep -/
def kp_spec_l32Keep : Nat → Keep
  | 5 => ⟨[1, 2, 7, 8, 9, 10], [(3, 2), (6, 2)], [3, 6], .done, []⟩
  | 11 => ⟨[], [], [], .step 0 (.step 1 (.step 2 (.step 3 (.step 4 (.step 5 (.step 6 (.step 7 (.step 8 (.done))))))))), [(1, [0]), (5, [3, 4]), (6, [3, 4, 5]), (7, [0, 1, 2, 3, 4, 5, 6]), (8, [0, 1, 2, 3, 4, 5, 6, 7])]⟩
  | 18 => ⟨[1, 2, 7, 12], [(3, 2), (6, 2)], [3, 6], .done, []⟩
  | 21 => ⟨[], [], [], .step 1 (.step 2 (.step 3 (.step 4 (.step 6 (.step 7 (.step 9 (.step 10 (.step 11 (.step 12 (.step 0 (.step 5 (.step 8 (.step 13 (.step 14 (.step 15 (.done)))))))))))))))), [(2, [1]), (4, [1, 2, 3]), (5, [0, 1, 2, 3, 4]), (7, [6]), (8, [0, 1, 2, 3, 4, 5, 6, 7]), (10, [9]), (12, [9, 10, 11]), (13, [0, 1, 2, 3, 4, 5, 6, 7, 8, 9, 10, 11, 12]), (14, [0, 1, 2, 3, 4, 5, 6, 7, 8, 9, 10, 11, 12, 13]), (15, [0, 1, 2, 3, 4, 5, 6, 7, 8, 9, 10, 11, 12, 13, 14])]⟩
  | _ => ⟨[], [], [], .done, []⟩
def esc_spec_l32Keep : Nat → Bool
  | 79 => true
  | _ => false
def cs_spec_l32Keep_1 (w0 : World) (l900 : List Value) (v901 : Value) (s902 : Vw) (R : Value → Vw → Prop) : Prop :=
  V false 1 (G l900 0) (V false 1 (G l900 2) (V false 1 v901 (V true 3 (.agg (⟨[G l900 0, G l900 2, v901]⟩)) (pSlice 3 (G l900 5) none (some (G l900 3)) fun v500 => V true 3 (.agg (⟨[G l900 0, G l900 2, v901]⟩)) (pSlice 3 (G l900 5) (some (G l900 3)) none fun v501 => W w0 33 [] s902 fun n502 s503 => pAppendS w0 33 3 32 (.slice (some (Addr.mk n502 0 none)) 0 0) v500 s503 fun v504 s505 => (allOne [G l900 0, G l900 2, v901]) ∧ (A w0 33 3 32 v504 1 [G l900 0, G l900 2, v901] s505 fun v506 s507 => pAppendS w0 33 3 32 v506 v501 s507 fun v508 s509 => V false 1 v508 (V true 2 (.agg (⟨[G l900 4, v508]⟩)) (R (.agg (⟨[G l900 4, v508]⟩)) s509))))))))
def cs_spec_l32Keep_2 (w0 : World) (l900 : List Value) (s901 : Vw) (K902 : AX → List Value → Vw → Prop) (R : Value → Vw → Prop) : Prop :=
  N (G l900 5) (fun v500 => B P 3 .lss (G l900 3) v500 fun v501 => Q v501 (X 3 (G l900 5) (G l900 3) fun v502 => F 0 v502 fun v503 => L w0 1 v503 s901 fun g504 => B P 9 .lss (g504 0) (G l900 0) fun v505 => Q v505 (B P 3 .add (G l900 3) (.int .i64 1) fun v506 => K902 .normal [G l900 0, G l900 1, G l900 2, v506, G l900 4, G l900 5, G l900 6, G l900 7] s901) (K902 (.exit 2) [G l900 0, G l900 1, G l900 2, G l900 3, G l900 4, G l900 5, G l900 6, G l900 7] s901)) (K902 (.exit 2) [G l900 0, G l900 1, G l900 2, G l900 3, G l900 4, G l900 5, G l900 6, G l900 7] s901))
def cs_spec_l32Keep_3 (w0 : World) (l900 : List Value) (s901 : Vw) (K902 : AX → List Value → Vw → Prop) (v903 : Value) (R : Value → Vw → Prop) : Prop :=
  B P 3 .geq (G l900 3) (.int .i64 0) (fun v500 => Q v500 (X 3 (G l900 6) (G l900 3) fun v501 => F 2 v501 fun v502 => V false 1 (G l900 5) (pStore v502 [G l900 5] s901 fun s503 => B P 3 .add (G l900 5) (.int .i64 1) fun v504 => K902 .normal [G l900 0, G l900 1, G l900 2, G l900 5, v903, v504, G l900 6, G l900 7, G l900 8, G l900 9] s503)) (B P 3 .add (G l900 5) (.int .i64 1) fun v505 => K902 .normal [G l900 0, G l900 1, G l900 5, G l900 5, v903, v505, G l900 6, G l900 7, G l900 8, G l900 9] s901))
def vc_spec_l32Keep (w0 : World) (a0 a1 a2 : Value) (σ : Vw) (R : Value → Vw → Prop) : Prop :=
  V true 2 a0 (pLoop (fun l0 K1 s2 => N (G l0 6) fun v3 => B P 3 .lss (G l0 5) v3 fun v4 => Q v4 (B P 9 .neq (G l0 4) (.string ({ data := #[] })) fun v5 => Q v5 (X 3 (G l0 6) (G l0 5) fun v6 => F 0 v6 fun v7 => L w0 1 v7 s2 fun g8 => Q (g8 0) (B P 3 .add (G l0 5) (.int .i64 1) fun v9 => K1 .normal [G l0 0, G l0 1, G l0 2, G l0 3, G l0 4, v9, G l0 6, G l0 7, G l0 8, G l0 9] s2) (pLenS (G l0 4) fun v10 => B P 3 .gtr v10 (.int .i64 40) fun v11 => Q v11 (pSliceStr (G l0 4) none (some (.int .i64 40)) fun v12 => V false 1 (.bool true) (V false 1 v12 (V false 1 (.int .i64 (-1)) (X 3 (G l0 6) (G l0 5) fun v13 => V true 3 (.agg (⟨[.bool true, v12, .int .i64 (-1)]⟩)) (pStore v13 [.bool true, v12, .int .i64 (-1)] s2 fun s14 => pSliceStr (G l0 4) (some (.int .i64 40)) none fun v15 => cs_spec_l32Keep_3 w0 l0 s14 K1 v15 R))))) (pSliceStr (G l0 4) none (some v10) fun v22 => V false 1 (.bool true) (V false 1 v22 (V false 1 (.int .i64 (-1)) (X 3 (G l0 6) (G l0 5) fun v23 => V true 3 (.agg (⟨[.bool true, v22, .int .i64 (-1)]⟩)) (pStore v23 [.bool true, v22, .int .i64 (-1)] s2 fun s24 => pSliceStr (G l0 4) (some v10) none fun v25 => cs_spec_l32Keep_3 w0 l0 s24 K1 v25 R))))))) (K1 (.exit 0) [G l0 0, G l0 1, G l0 2, G l0 3, G l0 4, G l0 5, G l0 6, G l0 7, G l0 8, G l0 9] s2)) (K1 (.exit 0) [G l0 0, G l0 1, G l0 2, G l0 3, G l0 4, G l0 5, G l0 6, G l0 7, G l0 8, G l0 9] s2)) [a1, a2, .int .i64 (-1), .int .i64 (-1), a2, .int .i64 0, C a0 0, C a0 1, .slice none 0 0, .slice none 0 0] σ fun x32 l33 s34 => match x32 with | .normal => pLoop (fun l35 K36 s37 => cs_spec_l32Keep_2 w0 l35 s37 K36 R) [G l33 0, G l33 1, G l33 2, .int .i64 0, G l33 6, G l33 7, G l33 8, G l33 9] s34 (fun x45 l46 s47 => match x45 with | .normal => pLenS (G l46 1) (fun v48 => cs_spec_l32Keep_1 w0 l46 v48 s47 R) | .ret => R (.agg (⟨[G l46 6, G l46 7]⟩)) s47 | .exit i59 => (match Nat.beq i59 2 with | true => pLenS (G l46 1) (fun v60 => cs_spec_l32Keep_1 w0 l46 v60 s47 R) | false => False)) | .ret => R (.agg (⟨[G l33 8, G l33 9]⟩)) s34 | .exit i71 => (match Nat.beq i71 0 with | true => pLoop (fun l72 K73 s74 => cs_spec_l32Keep_2 w0 l72 s74 K73 R) [G l33 0, G l33 1, G l33 2, .int .i64 0, G l33 6, G l33 7, G l33 8, G l33 9] s34 (fun x82 l83 s84 => match x82 with | .normal => pLenS (G l83 1) (fun v85 => cs_spec_l32Keep_1 w0 l83 v85 s84 R) | .ret => R (.agg (⟨[G l83 6, G l83 7]⟩)) s84 | .exit i96 => (match Nat.beq i96 2 with | true => pLenS (G l83 1) (fun v97 => cs_spec_l32Keep_1 w0 l83 v97 s84 R) | false => False)) | false => False))

theorem vc_spec_l32Keep_eq (w0 : World) (a0 a1 a2 : Value) (σ : Vw) (R : Value → Vw → Prop) : vc_spec_l32Keep w0 a0 a1 a2 σ R = den Try.prog w0 kp_spec_l32Keep esc_spec_l32Keep (Try.f64.body.getD .skip) (entry Try.f64.ntmps [a0, a1, a2]) σ (retK Try.prog Try.f64.results.toList R) := by kernel_rfl
theorem ac_spec_l32Keep {w0 : World} {a0 a1 a2 : Value} {σ : Vw} {R : Value → Vw → Prop} (h : vc_spec_l32Keep w0 a0 a1 a2 σ R) : AC Try.prog w0 n_spec_l32Keep [a0, a1, a2] σ R := by
  refine ac_rule (fn := Try.f64) (c := Try.f64.body.getD .skip) kp_spec_l32Keep esc_spec_l32Keep Try.func64 (by kernel_rfl) (by kernel_rfl) ?_
  rw [← vc_spec_l32Keep_eq]
  exact h

/-- slices.Index[[]int,int] -/
def kp_slices_Index_int_int : Nat → Keep
  | 2 => ⟨[0, 1, 4, 7, 8], [], [], .done, []⟩
  | _ => ⟨[], [], [], .done, []⟩
def esc_slices_Index_int_int : Nat → Bool
  | _ => false
def vc_slices_Index_int_int (w0 : World) (a0 a1 : Value) (σ : Vw) (R : Value → Vw → Prop) : Prop :=
  N a0 fun v0 => pLoop (fun l1 K2 s3 => B P 3 .lss (G l1 4) (G l1 3) fun v4 => Q v4 (X 1 (G l1 0) (G l1 4) fun v5 => L w0 1 v5 s3 fun g6 => B P 3 .eql (G l1 1) (g6 0) fun v7 => Q v7 (K2 .ret [G l1 0, G l1 1, G l1 4, G l1 3, G l1 4] s3) (B P 3 .add (G l1 4) (.int .i64 1) fun v8 => K2 .normal [G l1 0, G l1 1, G l1 2, G l1 3, v8] s3)) (K2 (.exit 0) [G l1 0, G l1 1, G l1 2, G l1 3, G l1 4] s3)) [a0, a1, .int .i64 0, v0, .int .i64 0] σ fun x9 l10 s11 => match x9 with | .normal => R (.int .i64 (-1)) s11 | .ret => R (G l10 2) s11 | .exit i12 => (match Nat.beq i12 0 with | true => R (.int .i64 (-1)) s11 | false => False)
theorem vc_slices_Index_int_int_eq (w0 : World) (a0 a1 : Value) (σ : Vw) (R : Value → Vw → Prop) : vc_slices_Index_int_int w0 a0 a1 σ R = den Try.prog w0 kp_slices_Index_int_int esc_slices_Index_int_int (Try.f68.body.getD .skip) (entry Try.f68.ntmps [a0, a1]) σ (retK Try.prog Try.f68.results.toList R) := by kernel_rfl
theorem ac_slices_Index_int_int {w0 : World} {a0 a1 : Value} {σ : Vw} {R : Value → Vw → Prop} (h : vc_slices_Index_int_int w0 a0 a1 σ R) : AC Try.prog w0 n_slices_Index_int_int [a0, a1] σ R := by
  refine ac_rule (fn := Try.f68) (c := Try.f68.body.getD .skip) kp_slices_Index_int_int esc_slices_Index_int_int Try.func68 (by kernel_rfl) (by kernel_rfl) ?_
  rw [← vc_slices_Index_int_int_eq]
  exact h

end Go.Proofs.Ytlfnfpdipghdiaa

/- What each function owes: all parts. MADE BY PROGRAM (emit.py). -/


/- The lists of texts: their size, their copy, their comparison. -/
set_option linter.unusedVariables false
set_option linter.unusedSimpArgs false
namespace Go.Proofs.Ytlfnfpdipghdiaa
open Go Go.Av

section
variable {w0 : World} {σ : Vw}

end
end Go.Proofs.Ytlfnfpdipghdiaa

/- The lists of texts: their copy, their comparison. -/
set_option linter.unusedVariables false
set_option linter.unusedSimpArgs false
namespace Go.Proofs.Ytlfnfpdipghdiaa
open Go Go.Av

section
variable {w0 : World} {σ : Vw}


end
end Go.Proofs.Ytlfnfpdipghdiaa

/- The lists of texts in rows of their own; marks (a path and a bool) and their lists: size, copy, comparison. -/
set_option linter.unusedVariables false
set_option linter.unusedSimpArgs false
namespace Go.Proofs.Ytlfnfpdipghdiaa
open Go Go.Av

section
variable {w0 : World} {σ : Vw}

theorem OSl.one' {α : Type} {n : Nat} {O : Vw → List Nat → List Value → α → Prop} {F : List Nat} {v : Value} {xs : List α} (h : OSl w0 n O σ F v xs) : v.oneCell' = true := by
  obtain ⟨_, _, ⟨rfl, _⟩ | ⟨_, _, _, _, _, _, _, _, rfl, _⟩⟩ := h <;> rfl

end
end Go.Proofs.Ytlfnfpdipghdiaa

/- Names: their letters and their length. -/
set_option linter.unusedVariables false
set_option linter.unusedSimpArgs false
namespace Go.Proofs.Ytlfnfpdipghdiaa
open Go Go.Av

theorem pIndexStr_s {s : ByteArray} {j : Nat} {K : Value → Prop} (h : j < s.size) (hK : K (.int .u8 ((s[j]'h).toNat : Int))) : pIndexStr (.string s) (.int .i64 j) K :=
  ⟨s, .i64, j, rfl, rfl, by omega, h, hK⟩

def okB (n : Nat) : Prop := (97 ≤ n ∧ n ≤ 122) ∨ (48 ≤ n ∧ n ≤ 57)
/-- Within two bounds. -/
def inB (n lo hi : Int) : Bool := decide (lo ≤ n ∧ n ≤ hi)
def lettersOk (s : ByteArray) : Prop := ∀ (i : Nat) (h : i < s.size), okB (s[i]'h).toNat
open Classical in
noncomputable def nameOk (s : ByteArray) : Bool := decide (lettersOk s) && inB s.size 1 5

section
variable {w0 : World} {σ : Vw}

theorem spec_In {n lo hi : Int} {R : Value → Vw → Prop} (hR : R (.bool (inB n lo hi)) σ) : AC Try.prog w0 n_spec_l1In [.int .i64 n, .int .i64 lo, .int .i64 hi] σ R := by
  refine ac_spec_l1In ?_
  unfold vc_spec_l1In
  rw [pBin_ge, pIf_d]
  refine ⟨fun h => ?_, fun h => ?_⟩
  · rw [pBin_le]
    have : inB n lo hi = decide (n ≤ hi) := by simp [inB, h]
    rw [this] at hR; exact hR
  · have : inB n lo hi = false := by simp [inB, h]
    rw [this] at hR; exact hR
theorem impl_within {n lo hi : Int} {R : Value → Vw → Prop} (hR : R (.bool (inB n lo hi)) σ) : AC Try.prog w0 n_impl_within [.int .i64 n, .int .i64 lo, .int .i64 hi] σ R := by
  refine ac_impl_within ?_
  unfold vc_impl_within
  rw [pBin_ge, pIf_d]
  refine ⟨fun h => ?_, fun h => ?_⟩
  · rw [pBin_le]
    have : inB n lo hi = decide (n ≤ hi) := by simp [inB, h]
    rw [this] at hR; exact hR
  · have : inB n lo hi = false := by simp [inB, h]
    rw [this] at hR; exact hR

theorem nameOk_bad {s : ByteArray} {j : Nat} (h : j < s.size) (hb : ¬ okB (s[j]'h).toNat) : nameOk s = false := by
  have : ¬ lettersOk s := fun h' => hb (h' j h)
  simp [nameOk, this]
theorem nameOk_good {s : ByteArray} (h : lettersOk s) : nameOk s = inB s.size 1 5 := by simp [nameOk, h]

theorem spec_nameOk {s : ByteArray} (hs : s.size ≤ 9223372036854775807) {R : Value → Vw → Prop} (hR : R (.bool (nameOk s)) σ) : AC Try.prog w0 n_spec_l1NameOk [.string s] σ R := by
  refine ac_spec_l1NameOk ?_
  unfold vc_spec_l1NameOk cs_spec_l1NameOk_1
  refine loop_rule (m := s.size) (fun m l t => ∃ j, t = σ ∧ m + j = s.size ∧ (∀ (i : Nat) (h : i < s.size), i < j → okB (s[i]'h).toNat) ∧ l = [.string s, .bool false, .int .i64 (j : Nat)]) ?_ ⟨0, rfl, by omega, fun i h h' => by omega, rfl⟩
  rintro m l t L ⟨j, rfl, hm, ht, rfl⟩ hL
  simp only [vget, List.getD_cons_zero, List.getD_cons_succ]
  rw [pLenS_s, pBin_lt, pIf_d]
  refine ⟨fun hj => ?_, fun hj => ?_⟩
  · have hj' : j < s.size := by omega
    have bad : ¬ okB (s[j]'hj').toNat → R (.bool false) t := fun h => by rw [nameOk_bad hj' h] at hR; exact hR
    have good : okB (s[j]'hj').toNat → L [.string s, .bool false, .int .i64 ((j + 1 : Nat) : Int)] t := fun h => hL _ _ (m - 1) (by omega) ⟨j + 1, rfl, by omega, fun i hi hij => by
      by_cases e : i = j
      · subst e; exact h
      · exact ht i hi (by omega), rfl⟩
    have add : ∀ K : Value → Prop, pBin Try.prog 3 .add (.int .i64 j) (.int .i64 1) K ↔ K (.int .i64 ((j + 1 : Nat) : Int)) := fun K => pBin_add (by omega)
    have idx : ∀ K : Value → Prop, K (.int .u8 ((s[j]'hj').toNat : Int)) → pIndexStr (.string s) (.int .i64 j) K := fun K hK => pIndexStr_s hj' hK
    simp only [add, pUn_not, pIf_b, Bool.not_true, Bool.not_false, forall_const, Bool.false_eq_true, false_imp_iff, true_imp_iff, true_and, and_true, reduceCtorEq]
    refine idx _ ?_
    rw [pBin_ge, pIf_d]
    refine ⟨fun h1 => idx _ ?_, fun h1 => idx _ ?_⟩
    · rw [pBin_le, pIf_d]
      refine ⟨fun h2 => good (.inl ⟨by omega, by omega⟩), fun h2 => idx _ ?_⟩
      rw [pBin_ge, pIf_d]
      refine ⟨fun h3 => idx _ ?_, fun h3 => bad fun h => by unfold okB at h; omega⟩
      rw [pBin_le, pUn_not, pIf_b]
      refine ⟨fun h4 => bad fun h => ?_, fun h4 => good ?_⟩
      · unfold okB at h; simp at h4; omega
      · simp at h4; exact .inr ⟨by omega, by omega⟩
    · rw [pBin_ge, pIf_d]
      refine ⟨fun h3 => idx _ ?_, fun h3 => bad fun h => by unfold okB at h; omega⟩
      rw [pBin_le, pUn_not, pIf_b]
      refine ⟨fun h4 => bad fun h => ?_, fun h4 => good ?_⟩
      · unfold okB at h; simp at h4; omega
      · simp at h4; exact .inr ⟨by omega, by omega⟩
  · have hj' : j = s.size := by omega
    subst hj'
    show pLenS (.string s) _
    rw [pLenS_s]
    refine spec_In ?_
    rw [nameOk_good fun i h => ht i h h] at hR
    exact hR

theorem impl_nameOk {s : ByteArray} (hs : s.size ≤ 9223372036854775807) {R : Value → Vw → Prop} (hR : R (.bool (nameOk s)) σ) : AC Try.prog w0 n_impl_nameOk [.string s] σ R := by
  refine ac_impl_nameOk ?_
  unfold vc_impl_nameOk
  rw [pLenS_s]
  refine loop_rule (m := s.size) (fun m l t => ∃ j, t = σ ∧ m + j = s.size ∧ (∀ (i : Nat) (h : i < s.size), i < j → okB (s[i]'h).toNat) ∧ l = [.string s, .bool false, .int .i64 s.size, .int .i64 (j : Nat)]) ?_ ⟨0, rfl, by omega, fun i h h' => by omega, rfl⟩
  rintro m l t L ⟨j, rfl, hm, ht, rfl⟩ hL
  simp only [vget, List.getD_cons_zero, List.getD_cons_succ]
  rw [pBin_lt, pIf_d]
  refine ⟨fun hj => ?_, fun hj => ?_⟩
  · have hj' : j < s.size := by omega
    have bad : ¬ okB (s[j]'hj').toNat → R (.bool false) t := fun h => by rw [nameOk_bad hj' h] at hR; exact hR
    have good : okB (s[j]'hj').toNat → L [.string s, .bool false, .int .i64 s.size, .int .i64 ((j + 1 : Nat) : Int)] t := fun h => hL _ _ (m - 1) (by omega) ⟨j + 1, rfl, by omega, fun i hi hij => by
      by_cases e : i = j
      · subst e; exact h
      · exact ht i hi (by omega), rfl⟩
    have add : ∀ K : Value → Prop, pBin Try.prog 3 .add (.int .i64 j) (.int .i64 1) K ↔ K (.int .i64 ((j + 1 : Nat) : Int)) := fun K => pBin_add (by omega)
    have idx : ∀ K : Value → Prop, K (.int .u8 ((s[j]'hj').toNat : Int)) → pIndexStr (.string s) (.int .i64 j) K := fun K hK => pIndexStr_s hj' hK
    simp only [add]
    refine idx _ ?_
    rw [pBin_lt, pIf_d]
    refine ⟨fun h1 => idx _ ?_, fun h1 => idx _ ?_⟩
    · rw [pBin_lt, pIf_d]
      refine ⟨fun h2 => bad fun h => by unfold okB at h; omega, fun h2 => idx _ ?_⟩
      rw [pBin_gt, pIf_d]
      exact ⟨fun h3 => bad fun h => by unfold okB at h; omega, fun h3 => good (.inr ⟨by omega, by omega⟩)⟩
    · rw [pBin_gt, pIf_d]
      refine ⟨fun h2 => idx _ ?_, fun h2 => good (.inl ⟨by omega, by omega⟩)⟩
      rw [pBin_lt, pIf_d]
      refine ⟨fun h2 => bad fun h => by unfold okB at h; omega, fun h2 => idx _ ?_⟩
      rw [pBin_gt, pIf_d]
      exact ⟨fun h3 => bad fun h => by unfold okB at h; omega, fun h3 => good (.inr ⟨by omega, by omega⟩)⟩
  · have hj' : j = s.size := by omega
    subst hj'
    show pLenS (.string s) _
    rw [pLenS_s]
    refine impl_within ?_
    rw [nameOk_good fun i h => ht i h h] at hR
    exact hR
end
end Go.Proofs.Ytlfnfpdipghdiaa

/- Lists in rows of our own, written element by element: the focus on one element, and the loops that mark and that look at marks. -/
set_option linter.unusedVariables false
set_option linter.unusedSimpArgs false
namespace Go.Av
open Go Go.RowKit

/-- Every row but those of F stays as it is. -/
def KeepsBut (F : List Nat) (σ σ' : Vw) : Prop := ∀ b r, σ b = some r → b ∉ F → σ' b = some r
theorem KeepsBut.refl (F : List Nat) (σ : Vw) : KeepsBut F σ σ := fun _ _ h _ => h
theorem Keeps.but {F : List Nat} {σ σ' : Vw} (h : Keeps σ σ') : KeepsBut F σ σ' := fun b r hb _ => h b r hb
theorem KeepsBut.trans {F : List Nat} {σ σ' σ'' : Vw} (h : KeepsBut F σ σ') (h' : KeepsBut F σ' σ'') : KeepsBut F σ σ'' := fun b r hb hF => h' b r (h b r hb hF) hF
theorem KeepsBut.mono {F F' : List Nat} {σ σ' : Vw} (h : KeepsBut F σ σ') (hF : ∀ b, b ∈ F → b ∈ F') : KeepsBut F' σ σ' := fun b r hb h' => h b r hb fun hb' => h' (hF b hb')
/-- What is older than F stays. -/
theorem KeepsBut.old {F : List Nat} {σ0 σ σ' : Vw} (h : KeepsBut F σ σ') (h0 : Keeps σ0 σ) (hF : ∀ b, b ∈ F → σ0 b = none) : Keeps σ0 σ' := fun b r hb => h b r (h0 b r hb) fun hb' => by rw [hF b hb'] at hb; cases hb
theorem KeepsBut.at {F G : List Nat} {σ σ' : Vw} (h : KeepsBut F σ σ') (hG : ∀ b, b ∈ G → σ b ≠ none) (hd : ∀ b, b ∈ G → b ∉ F) : ∀ b, b ∈ G → σ' b = σ b := fun b hb => by
  cases hs : σ b with
  | none => exact absurd hs (hG b hb)
  | some r => exact h b r hs (hd b hb)
theorem KeepsBut.put {F : List Nat} {σ : Vw} {b : Nat} {r : Row} (hb : b ∈ F) : KeepsBut F σ (σ.put b r) := fun i x hi hF => by
  have : i ≠ b := fun e => hF (e ▸ hb)
  simp [Vw.put, this, hi]

section
variable {P : Program} {w0 : World} {σ σ' : Vw} {α : Type}

theorem nodup_at {l : List (List Nat)} {i j : Nat} {f g : List Nat} (h : l.flatten.Nodup) (hi : l[i]? = some f) (hj : l[j]? = some g) (hij : i ≠ j) : ∀ b, b ∈ f → b ∉ g := by
  induction l generalizing i j with
  | nil => simp at hi
  | cons a r ih =>
    rw [List.flatten_cons, List.nodup_append] at h
    intro b hb hb'
    cases i with
    | zero =>
      cases j with
      | zero => exact hij rfl
      | succ j =>
        simp at hi hj
        subst hi
        exact h.2.2 b hb b (List.mem_flatten.2 ⟨g, List.mem_of_getElem? hj, hb'⟩) rfl
    | succ i =>
      cases j with
      | zero =>
        simp at hi hj
        subst hj
        exact h.2.2 b hb' b (List.mem_flatten.2 ⟨f, List.mem_of_getElem? hi, hb⟩) rfl
      | succ j =>
        simp at hi hj
        exact ih h.2.1 hi hj (fun e => hij (by rw [e])) b hb hb'

theorem split_at {l : List (List Value)} {j : Nat} {c : List Value} (hj : l[j]? = some c) : l.flatten = (l.take j).flatten ++ (c ++ (l.drop (j + 1)).flatten) := by
  have hlt := (List.getElem?_eq_some_iff.1 hj).1
  have e : l = l.take j ++ (c :: l.drop (j + 1)) := by
    have := List.take_append_drop j l
    rw [List.drop_eq_getElem_cons hlt] at this
    have hc : l[j] = c := (List.getElem?_eq_some_iff.1 hj).2
    rw [hc] at this
    exact this.symm
  calc l.flatten = (l.take j ++ (c :: l.drop (j + 1))).flatten := by rw [← e]
    _ = _ := by rw [List.flatten_append, List.flatten_cons]

/-- One element of a list of our own, and how the list is put together again behind a change of it. -/
theorem OSl.focus {n : Nat} {Rel : (Addr → Option Value) → List Value → α → Prop} {O : Vw → List Nat → List Value → α → Prop} (ok : OOk w0 n Rel O) {F : List Nat} {v : Value} {xs : List α} (h : OSl w0 n O σ F v xs) {j : Nat} {x : α} (hj : xs[j]? = some x) :
    ∃ (b o : Nat) (f : List Nat) (c A C : List Value) (r : Row), (∀ K : Value → Prop, K (.pointer (some ⟨b, o, none⟩)) → pIndexAddr n v (.int .i64 j) K) ∧ w0.heap.size ≤ b ∧ σ b = some r ∧ r.cells = A ++ (c ++ C) ∧ A.length = o ∧ O σ f c x ∧ b ∈ F ∧ (∀ i, i ∈ f → i ∈ F ∧ i ≠ b) ∧
      ∀ (σ' : Vw) (c' : List Value) (x' : α) (r' : Row), σ' b = some r' → r'.cells = A ++ (c' ++ C) → O σ' f c' x' → (∀ i, i ∈ F → i ≠ b → i ∉ f → σ' i = σ i) → OSl w0 n O σ' F v (xs.set j x') := by
  obtain ⟨h1, h2, ⟨rfl, rfl, _⟩ | ⟨b, off, cap, r, pre, post, css, Fs, rfl, gc, g2, g3, g4, g5, g6, g7, g8, g9⟩⟩ := h
  · simp at hj
  have hlt : j < xs.length := (List.getElem?_eq_some_iff.1 hj).1
  have hcj := List.getElem?_eq_getElem (show j < css.length by omega)
  have hfj := List.getElem?_eq_getElem (show j < Fs.length by omega)
  generalize hce : css[j]'(by omega) = c at hcj
  generalize hfe : Fs[j]'(by omega) = f at hfj
  have hO := g9 j c x f hcj hj hfj
  have hn : ∀ c, c ∈ css → c.length = n := fun c hc => by
    obtain ⟨i, hi⟩ := List.getElem?_of_mem hc
    have hil : i < css.length := (List.getElem?_eq_some_iff.1 hi).1
    exact ok.len _ _ _ _ (g9 i c _ _ hi (List.getElem?_eq_getElem (by omega)) (List.getElem?_eq_getElem (by omega)))
  have hA : (pre ++ (css.take j).flatten).length = off + j * n := by
    rw [List.length_append, g5, flat_len _ fun c hc => hn c (List.mem_of_mem_take hc), List.length_take]
    congr 2; omega
  rw [g8] at h2
  have hbf : b ∉ f := fun hb => (List.nodup_cons.1 h2).1 (List.mem_flatten.2 ⟨f, List.mem_of_getElem? hfj, hb⟩)
  refine ⟨b, off + j * n, f, c, pre ++ (css.take j).flatten, (css.drop (j + 1)).flatten ++ post, r, fun K hK => ?_, g2, g3, ?_, hA, hO, by rw [g8]; exact List.mem_cons_self, fun i hi => ⟨?_, fun e => hbf (e ▸ hi)⟩, ?_⟩
  · refine ⟨⟨b, off, none⟩, xs.length, cap, .i64, j, rfl, rfl, by omega, by omega, ?_⟩
    rw [addr_add]; exact hK
  · rw [g4, split_at hcj]; simp only [List.append_assoc]
  · rw [g8]; exact List.mem_cons_of_mem _ (List.mem_flatten.2 ⟨f, List.mem_of_getElem? hfj, hi⟩)
  · intro σ' c' x' r' hr' hcells hO' hrest
    have hlen' := ok.len _ _ _ _ hO'
    refine ⟨by rw [List.length_set]; exact h1, by rw [g8]; exact h2, .inr ⟨b, off, cap, r', pre, post, css.set j c', Fs, by rw [List.length_set], by rw [List.length_set]; exact gc, g2, hr', ?_, g5, by rw [List.length_set, List.length_set]; exact g6, by rw [List.length_set]; exact g7, g8, ?_⟩⟩
    · have hcj' : (css.set j c')[j]? = some c' := List.getElem?_set_self (by omega)
      rw [hcells, split_at hcj', List.take_set_of_le (Nat.le_refl j), List.drop_set_of_lt (by omega)]
      simp only [List.append_assoc]
    · intro i ci y fi e1 e2 e3
      by_cases hij : j = i
      · subst hij
        rw [List.getElem?_set_self (by omega)] at e1 e2
        cases e1; cases e2
        rw [hfj] at e3; cases e3
        exact hO'
      · rw [List.getElem?_set_ne hij] at e1 e2
        refine ok.frame _ _ _ _ _ (g9 i ci y fi e1 e2 e3) fun k hk => ?_
        have hkF : k ∈ Fs.flatten := List.mem_flatten.2 ⟨fi, List.mem_of_getElem? e3, hk⟩
        exact hrest k (by rw [g8]; exact List.mem_cons_of_mem _ hkF) (fun e => (List.nodup_cons.1 h2).1 (e ▸ hkF)) (nodup_at (List.nodup_cons.1 h2).2 e3 hfj (fun e => hij e.symm) k hk)

/-- A field of an element is written. -/
theorem field_store {b o off : Nat} {r : Row} {A c C : List Value} {y : Value} {K : Vw → Prop} (hr : σ b = some r) (hc : r.cells = A ++ (c ++ C)) (hA : A.length = o) (hoff : off < c.length) (hy : y.oneCell' = true)
    (hK : K (σ.put b { r with cells := A ++ (c.set off y ++ C) })) : pField off (.pointer (some ⟨b, o, none⟩)) fun q => pVal false 1 y (pStore q [y] σ K) := by
  rw [pField_s, pVal1 hy, addr_add]
  refine ⟨b, o + off, r, rfl, hr, ?_, ?_⟩
  · rw [hc]; simp only [List.length_append, List.length_singleton]; omega
  · have e : setAt r.cells (o + off) [y] = A ++ (c.set off y ++ C) := by
      simp only [setAt]
      rw [hc, List.set_append_right _ _ (by omega), List.set_append_left _ _ (by omega), hA]
      congr 3; omega
    rw [e]; exact hK
theorem elem_store {b o : Nat} {r : Row} {A C : List Value} {x y : Value} {K : Vw → Prop} (hr : σ b = some r) (hc : r.cells = A ++ ([x] ++ C)) (hA : A.length = o) (hy : y.oneCell' = true)
    (hK : K (σ.put b { r with cells := A ++ ([y] ++ C) })) : pVal false 1 y (pStore (.pointer (some ⟨b, o, none⟩)) [y] σ K) := by
  rw [pVal1 hy]
  refine ⟨b, o, r, rfl, hr, ?_, ?_⟩
  · rw [hc]; simp only [List.length_append, List.length_singleton]; omega
  · have e : setAt r.cells o [y] = A ++ ([y] ++ C) := by
      simp only [setAt]
      rw [hc, List.set_append_right _ _ (by omega), hA, Nat.sub_self]; rfl
    rw [e]; exact hK
/-- A field of an element is read. -/
theorem field_load {b o off : Nat} {r : Row} {A c C : List Value} {y : Value} {K : (Nat → Value) → Prop} (hb : w0.heap.size ≤ b) (hr : σ b = some r) (hc : r.cells = A ++ (c ++ C)) (hA : A.length = o) (hoff : c[off]? = some y)
    (hK : ∀ g : Nat → Value, g 0 = y → K g) : pField off (.pointer (some ⟨b, o, none⟩)) fun q => pLoad w0 1 q σ K := by
  rw [pField_s, addr_add]
  refine ⟨_, fun _ => y, rfl, fun j hj => ?_, hK _ rfl⟩
  have : j = 0 := by omega
  subst this
  have hlt : off < c.length := (List.getElem?_eq_some_iff.1 hoff).1
  rw [addr_add, get_row hb hr, hc, List.getElem?_append_right (by omega), List.getElem?_append_left (by omega)]
  rw [show o + off + 0 - A.length = off by omega]; exact hoff

/-! ### Marks -/
end
end Go.Av

/- The plain side, part 3: what the statement's reading of an argument says of the cells. -/
set_option linter.unusedVariables false
set_option linter.unusedSimpArgs false
namespace Go.Av
open Go Go.RowKit

def σ0 : Vw := fun _ => none

section
variable {H : Type} {enc : TypeId × Value → H} {P : Program} {W : World} {fuel : Nat} {cs : List Value} {x : DataW H × List MemPlace}

theorem sat0 (W : World) : Sat W σ0 W := ⟨Below.refl _ _, fun b r h => by cases h⟩

theorem get0 {a : Addr} {v : Value} (h : W.cell? a = some v) {σ : Vw} : Av.get W σ a = some v := by
  have hlt : a.block < W.heap.size := by
    rcases Nat.lt_or_ge a.block W.heap.size with h1 | h1
    · exact h1
    · have : W.heap[a.block]? = none := Array.getElem?_eq_none h1
      unfold World.cell? at h
      simp [this] at h
  unfold Av.get
  rw [if_pos hlt]; exact h

theorem listOf {α : Type} (p : Nat → α → Prop) : ∀ (n : Nat), (∀ i, i < n → ∃ x, p i x) → ∃ xs : List α, xs.length = n ∧ ∀ (j : Nat) (x : α), xs[j]? = some x → p j x
  | 0, _ => ⟨[], rfl, fun j x h => by simp at h⟩
  | n + 1, h => by
    obtain ⟨xs, hl, hx⟩ := listOf p n (fun i hi => h i (by omega))
    obtain ⟨y, hy⟩ := h n (by omega)
    refine ⟨xs ++ [y], by simp [hl], fun j x hj => ?_⟩
    by_cases e : j < xs.length
    · rw [List.getElem?_append_left e] at hj; exact hx j x hj
    · rw [List.getElem?_append_right (by omega)] at hj
      have : j - xs.length = 0 := by
        rcases Nat.eq_zero_or_pos (j - xs.length) with h0 | h0
        · exact h0
        · rw [List.getElem?_eq_none (by simp; omega)] at hj; cases hj
      rw [this] at hj
      simp at hj
      subst hj
      have : j = n := by omega
      subst this; exact hy

/-- A slice is opened, its elements by a rule of their own. -/
theorem open_rsl {α : Type} {t e n : Nat} {R : (Addr → Option Value) → List Value → α → Prop} {spare : Nat → Bool} (ht : P.underlying t = some (.slice e)) (hc : P.cellsOf e = n)
    (hR : ∀ (fuel : Nat) (es : List Value) (y : DataW H × List MemPlace), DataW.trod enc P W 0 spare true fuel e es = some y → es.length = n → ∃ x, R (Av.get W σ0) es x) (h : DataW.trod enc P W 0 spare true fuel t cs = some x) : ∃ v xs, cs = [v] ∧ RSl n R (Av.get W σ0) v xs := by
  rcases DataW.trod_slice ht h with ⟨rfl, _⟩ | ⟨a, len, cap, elems, rest, m, _, rfl, _, hb, hl, hm, hlen, hel, _, _⟩
  · exact ⟨_, [], rfl, none, 0, rfl, by simp, fun j x hj => by simp at hj⟩
  · have each : ∀ i, i < len → ∃ x : α, ∃ es : List Value, es.length = n ∧ (∀ k, k < n → Av.get W σ0 (a.add (i * n + k)) = es[k]?) ∧ R (Av.get W σ0) es x := by
      intro i hi
      have h1 := hel i hi
      rw [hc, List.getElem?_eq_getElem (by omega), Option.bind_eq_some_iff] at h1
      obtain ⟨es, h2, h3⟩ := h1
      obtain ⟨_, hes, hcell⟩ := World.cells?_some h2
      obtain ⟨x, hx⟩ := hR m es _ h3 hes
      refine ⟨x, es, hes, fun k hk => ?_, hx⟩
      have := hcell k hk
      rw [add_add] at this
      have hlt : k < es.length := by omega
      rw [List.getElem?_eq_getElem hlt] at this ⊢
      exact get0 this
    obtain ⟨xs, hxl, hxs⟩ := listOf _ len each
    have hmax : cap ≤ 9223372036854775807 := by have : maxLen = 9223372036854775807 := by decide
                                                omega
    refine ⟨_, xs, rfl, some a, cap, by rw [hxl], ⟨by omega, hmax⟩, fun j x hj => ?_⟩
    obtain ⟨es, g1, g2, g3⟩ := hxs j x hj
    exact ⟨a, es, rfl, g1, g2, g3⟩

/-- From the functions to the statement. -/
theorem AC.calls {f : FuncId} {args : List Value} {R : Value → Vw → Prop} (h : AC P W f args σ0 R) : Calls P f args.toArray W fun e W' => ∃ v σ', e = .returned v ∧ R v σ' ∧ Below W.heap.size W W' :=
  (h.2 W (sat0 W)).mono fun e W' ⟨v, σ', h1, h2, h3⟩ => ⟨v, σ', h1, h2, h3.sat.bel⟩
end
end Go.Av

/- The plain side, part 4: what the statement's reading of an argument says, with the fuel told; numbers, bools, texts. -/
set_option linter.unusedVariables false
set_option linter.unusedSimpArgs false
namespace Go.Av
open Go Go.RowKit

section
variable {H : Type} {enc : TypeId × Value → H} {P : Program} {W : World} {fuel : Nat} {cs : List Value} {x : DataW H × List MemPlace}

end
end Go.Av

/- The plain side, part 5: more operations at known values. -/
set_option linter.unusedVariables false
set_option linter.unusedSimpArgs false
namespace Go.Av
open Go Go.RowKit IntWalk

section
variable {P : Program} {w0 : World} {σ σ' : Vw}
theorem pConv_s {k k' : IntKind} {n : Int} {K : Value → Prop} : pConvInt k (.int k' n) K ↔ K (.int k (k.wrap n)) :=
  ⟨fun ⟨_, _, h, hK⟩ => by cases h; exact hK, fun h => ⟨_, _, rfl, h⟩⟩
theorem pConv_u8 {k' : IntKind} {n : Int} {K : Value → Prop} (h : 0 ≤ n ∧ n ≤ 255) : pConvInt .u8 (.int k' n) K ↔ K (.int .u8 n) := by rw [pConv_s, u8_in n h]
theorem pConv_i64 {k' : IntKind} {n : Int} {K : Value → Prop} (h : -9223372036854775808 ≤ n ∧ n ≤ 9223372036854775807) : pConvInt .i64 (.int k' n) K ↔ K (.int .i64 n) := by rw [pConv_s, i64_in n h]
theorem pBin_rem {T : Nat} {k : IntKind} {a b : Int} {K : Value → Prop} (h : 0 ≤ a ∧ 0 < b) : pBin P T .rem (.int k a) (.int k b) K ↔ K (.int k (a % b)) :=
  pBin_i (by simp only [aint]; rw [if_neg (by omega), Int.tmod_eq_emod_of_nonneg h.1])
theorem pBin_quo {T : Nat} {a b : Int} {K : Value → Prop} (h : 0 ≤ a ∧ a ≤ 9223372036854775807 ∧ 0 < b) : pBin P T .quo (.int .i64 a) (.int .i64 b) K ↔ K (.int .i64 (a / b)) :=
  pBin_i (by simp only [aint]; rw [if_neg (by omega), i64_quo a b (by omega)])
theorem pBin_cat {T : Nat} {a b : ByteArray} {K : Value → Prop} (h : a.size + b.size ≤ 9223372036854775807) : pBin P T .add (.string a) (.string b) K ↔ K (.string (a ++ b)) :=
  pBin_s (by
    have e : IntKind.i64.max = 9223372036854775807 := by decide
    simp only [astr, e]
    rw [if_neg (by omega)])
theorem pMin_s {k : IntKind} {a b : Int} {K : Value → Prop} : pMin (.int k a) (.int k b) K ↔ K (.int k (min a b)) := by
  have e : (if b < a then b else a) = min a b := by split <;> omega
  exact ⟨fun ⟨_, _, _, h1, h2, hK⟩ => by cases h1; cases h2; rw [e] at hK; exact hK, fun hK => ⟨_, _, _, rfl, rfl, by rw [e]; exact hK⟩⟩
theorem pExtract_s {vs : List Value} {i : Nat} {v : Value} {K : Value → Prop} (h : vs[i]? = some v) : pExtract (.tuple ⟨vs⟩) i K ↔ K v := by
  obtain ⟨hl, he⟩ := List.getElem?_eq_some_iff.1 h
  exact ⟨fun ⟨_, e, hl', hK⟩ => by cases e; rw [he] at hK; exact hK, fun hK => ⟨_, rfl, hl, by rw [he]; exact hK⟩⟩
theorem pIndexStr_s {s : ByteArray} {j : Nat} {K : Value → Prop} (h : j < s.size) (hK : K (.int .u8 ((s[j]'h).toNat : Int))) : pIndexStr (.string s) (.int .i64 j) K :=
  ⟨s, .i64, j, rfl, rfl, by omega, h, hK⟩
theorem pSliceStr_s {s : ByteArray} {lo hi : Option Value} {l h : Int} {K : Value → Prop} (hl : boundOf 0 lo = some l) (hh : boundOf s.size hi = some h) (h0 : 0 ≤ l ∧ l ≤ h ∧ h ≤ s.size) (hK : K (.string (s.extract l.toNat h.toNat))) : pSliceStr (.string s) lo hi K :=
  ⟨s, l, h, rfl, hl, hh, h0.1, h0.2.1, h0.2.2, hK⟩
theorem pLoad_row {b o n : Nat} {r : Row} {A c C : List Value} {K : (Nat → Value) → Prop} (hb : w0.heap.size ≤ b) (hr : σ b = some r) (hc : r.cells = A ++ (c ++ C)) (hA : A.length = o) (hn : c.length = n)
    (hK : ∀ g : Nat → Value, expl g 0 n = c → K g) : pLoad w0 n (.pointer (some ⟨b, o, none⟩)) σ K := by
  refine ⟨_, fun i => c.getD i undef, rfl, fun j hj => ?_, hK _ ?_⟩
  · rw [addr_add, get_row hb hr, hc, List.getElem?_append_right (by omega), List.getElem?_append_left (by omega)]
    rw [show o + j - A.length = j by omega]
    simp only [List.getD_eq_getElem?_getD, List.getElem?_eq_getElem (show j < c.length by omega), Option.getD_some]
  · apply List.ext_getElem?
    intro i
    by_cases hi : i < n
    · rw [expl_get _ _ _ _ hi, Nat.zero_add, List.getD_eq_getElem?_getD, List.getElem?_eq_getElem (by omega)]; rfl
    · rw [List.getElem?_eq_none (by rw [length_expl]; omega), List.getElem?_eq_none (by omega)]
end
end Go.Av

/- Lists that grow by append, in a row of our own; elements that need no row; elements that are read in what is older. -/
set_option linter.unusedVariables false
set_option linter.unusedSimpArgs false
namespace Go.Av
open Go Go.RowKit

section
variable {P : Program} {w0 : World} {σ σ' : Vw} {α : Type}

/-! ### Elements that are read by a reader that is fixed -/
/-- What a rule of reading must keep. -/
structure ROk (n : Nat) (Rel : (Addr → Option Value) → List Value → α → Prop) : Prop where
  mono : ∀ rd rd' es x, Le rd rd' → Rel rd es x → Rel rd' es x
  len : ∀ rd es x, Rel rd es x → es.length = n
  one : ∀ rd es x, Rel rd es x → ∀ c, c ∈ es → c.oneCell' = true
/-! ### Elements that need no row -/
def RFl (enc : α → List Value) (good : α → Prop) (rd : Addr → Option Value) (es : List Value) (x : α) : Prop := es = enc x ∧ good x
def OFl (enc : α → List Value) (good : α → Prop) (σ : Vw) (F : List Nat) (es : List Value) (x : α) : Prop := F = [] ∧ es = enc x ∧ good x
theorem ok_fl {n : Nat} {enc : α → List Value} {good : α → Prop} (hl : ∀ x, (enc x).length = n) (ho : ∀ x c, c ∈ enc x → c.oneCell' = true) (w0 : World) : OOk w0 n (RFl enc good) (OFl enc good) := by
  refine ⟨?_, ?_, ?_, ?_, ?_, ?_⟩
  · rintro σ F es x ⟨_, h⟩; exact h
  · rintro σ σ' F es x h _; exact h
  · rintro σ F es x ⟨rfl, _⟩ b hb; cases hb
  · rintro σ F es x ⟨rfl, _⟩; exact List.nodup_nil
  · rintro σ F es x ⟨_, h, _⟩; rw [h]; exact hl x
  · rintro σ F es x ⟨_, h, _⟩; rw [h]; exact ho x

/-! ### Growing lists -/
def OAcc (w0 : World) (ety n : Nat) (O : Vw → List Nat → List Value → α → Prop) (σ : Vw) (F : List Nat) (v : Value) (xs : List α) : Prop :=
  xs.length ≤ 9223372036854775807 ∧ F.Nodup ∧ ((v = .slice none 0 0 ∧ xs = [] ∧ F = []) ∨
  ∃ (b cap : Nat) (css : List (List Value)) (Fs : List (List Nat)), v = .slice (some ⟨b, 0, none⟩) xs.length cap ∧ (xs.length ≤ cap ∧ cap ≤ 9223372036854775807) ∧ w0.heap.size ≤ b ∧ σ b = some ⟨ety, css.flatten, cap * n, (0, 0)⟩ ∧
    css.length = xs.length ∧ Fs.length = xs.length ∧ F = b :: Fs.flatten ∧ ∀ (j : Nat) (c : List Value) (x : α) (f : List Nat), css[j]? = some c → xs[j]? = some x → Fs[j]? = some f → O σ f c x)

theorem OAcc.osl {ety n : Nat} {O : Vw → List Nat → List Value → α → Prop} {F : List Nat} {v : Value} {xs : List α} (h : OAcc w0 ety n O σ F v xs) : OSl w0 n O σ F v xs := by
  obtain ⟨h1, h2, h3 | ⟨b, cap, css, Fs, g1, g2, g3, g4, g5, g6, g7, g8⟩⟩ := h
  · exact ⟨h1, h2, .inl h3⟩
  · exact ⟨h1, h2, .inr ⟨b, 0, cap, _, [], [], css, Fs, g1, g2, g3, g4, by simp, rfl, g5, g6, g7, g8⟩⟩
theorem OAcc.frame {ety n : Nat} {Rel : (Addr → Option Value) → List Value → α → Prop} {O : Vw → List Nat → List Value → α → Prop} (ok : OOk w0 n Rel O) {F : List Nat} {v : Value} {xs : List α} (h : OAcc w0 ety n O σ F v xs) (hF : ∀ b, b ∈ F → σ' b = σ b) : OAcc w0 ety n O σ' F v xs := by
  obtain ⟨h1, h2, h3 | ⟨b, cap, css, Fs, g1, g2, g3, g4, g5, g6, g7, g8⟩⟩ := h
  · exact ⟨h1, h2, .inl h3⟩
  · refine ⟨h1, h2, .inr ⟨b, cap, css, Fs, g1, g2, g3, by rw [hF b (by rw [g7]; exact List.mem_cons_self)]; exact g4, g5, g6, g7, fun j c x f e1 e2 e3 => ?_⟩⟩
    refine ok.frame _ _ _ _ _ (g8 j c x f e1 e2 e3) fun i hi => hF i ?_
    rw [g7]
    exact List.mem_cons_of_mem _ (List.mem_flatten.2 ⟨f, List.mem_of_getElem? e3, hi⟩)
theorem OAcc.dom {ety n : Nat} {Rel : (Addr → Option Value) → List Value → α → Prop} {O : Vw → List Nat → List Value → α → Prop} (ok : OOk w0 n Rel O) {F : List Nat} {v : Value} {xs : List α} (h : OAcc w0 ety n O σ F v xs) : ∀ b, b ∈ F → w0.heap.size ≤ b ∧ σ b ≠ none := h.osl.dom ok
theorem OAcc.nil {ety n : Nat} {O : Vw → List Nat → List Value → α → Prop} : OAcc w0 ety n O σ [] (.slice none 0 0) [] := ⟨by simp, by simp, .inl ⟨rfl, rfl, rfl⟩⟩
theorem OAcc.new {ety n b : Nat} {O : Vw → List Nat → List Value → α → Prop} (hb : w0.heap.size ≤ b) : OAcc w0 ety n O (σ.put b ⟨ety, [], 0, (0, 0)⟩) [b] (.slice (some ⟨b, 0, none⟩) 0 0) [] :=
  ⟨by simp, by simp, .inr ⟨b, 0, [], [], rfl, by simp, hb, by rw [put_at]; simp, rfl, rfl, rfl, fun j c x f h => by simp at h⟩⟩

theorem Keeps.but_at {F : List Nat} (h : Keeps σ σ') (hF : ∀ b, b ∈ F → σ b ≠ none) : ∀ b, b ∈ F → σ' b = σ b := fun b hb => by
  cases hs : σ b with
  | none => exact absurd hs (hF b hb)
  | some r => exact h b r hs

/-- Elements are appended, each with rows of its own. -/
theorem OAcc.pushX {ety n bytes m : Nat} {Rel : (Addr → Option Value) → List Value → α → Prop} {O : Vw → List Nat → List Value → α → Prop} (ok : OOk w0 n Rel O) {F : List Nat} {v : Value} {xs ys : List α} {nss : List (List Value)} {Gs : List (List Nat)} {new : List Value}
    (h : OAcc w0 ety n O σ F v xs) (hm : ys.length = m) (hnl : nss.length = m) (hGl : Gs.length = m) (hnew : new = nss.flatten) (hO : ∀ (j : Nat) (c : List Value) (y : α) (g : List Nat), nss[j]? = some c → ys[j]? = some y → Gs[j]? = some g → O σ g c y)
    (hG : Gs.flatten.Nodup) (hGF : ∀ i, i ∈ Gs.flatten → i ∉ F) (hlen : xs.length + m ≤ 1000000000000) (hbytes : bytes ≤ 140) {K : Value → Vw → Prop}
    (hK : ∀ v' F' σ', Ext σ σ' → KeepsBut F σ σ' → OAcc w0 ety n O σ' F' v' (xs ++ ys) → (∀ i, i ∈ F' → i ∈ F ∨ i ∈ Gs.flatten ∨ σ i = none) → K v' σ') : pAppend w0 ety n bytes v m new σ K := by
  have hb47 : (xs.length + m) * bytes ≤ 2 ^ 47 := by
    have h1 : (xs.length + m) * bytes ≤ 1000000000000 * 140 := Nat.mul_le_mul hlen hbytes
    have h2 : (2 : Nat) ^ 47 = 140737488355328 := by decide
    omega
  have hn2 : ∀ c, c ∈ nss → c.length = n := fun c hc => by
    obtain ⟨i, hi⟩ := List.getElem?_of_mem hc
    have hil : i < nss.length := (List.getElem?_eq_some_iff.1 hi).1
    exact ok.len _ _ _ _ (hO i c _ _ hi (List.getElem?_eq_getElem (by omega)) (List.getElem?_eq_getElem (by omega)))
  have hnewl : new.length = m * n := by rw [hnew, flat_len _ hn2, hnl]
  have hGdom : ∀ i, i ∈ Gs.flatten → σ i ≠ none := fun i hi => by
    obtain ⟨j, f, e1, e2⟩ := mem_flat hi
    have hj : j < Gs.length := (List.getElem?_eq_some_iff.1 e1).1
    exact (ok.dom _ _ _ _ (hO j _ _ f (List.getElem?_eq_getElem (by omega)) (List.getElem?_eq_getElem (by omega)) e1) i e2).2
  obtain ⟨h1, h2, ⟨rfl, rfl, rfl⟩ | ⟨b, cap, css, Fs, rfl, g2, g3, g4, g5, g6, g7, g8⟩⟩ := h
  · refine .inr (.inl ⟨0, [], ⟨by simp, .inl ⟨rfl, rfl⟩⟩, hnewl, by simpa using (by omega : m ≤ 9223372036854775807), by simpa using hb47, fun v' σ' hg => ?_⟩)
    rcases hg with ⟨rfl, rfl, _, h0, _⟩ | ⟨b', c', rfl, g1, g2, rfl, g3, g4⟩
    · have : m = 0 := by omega
      subst this
      have hy : ys = [] := List.length_eq_zero_iff.1 hm
      subst hy
      exact hK _ [] _ (Ext.refl _) (KeepsBut.refl _ _) (by simpa using OAcc.nil) (fun i hi => by cases hi)
    · have hb' : σ b' = none := by
        rcases g4 with h | ⟨n0, c0, h⟩
        · exact h
        · cases h
      have hbG : b' ∉ Gs.flatten := fun hi => hGdom b' hi hb'
      refine hK _ (b' :: Gs.flatten) _ (Keeps.put hb').ext (Keeps.put hb').but ?_ fun i hi => ?_
      · refine ⟨by simp; omega, List.nodup_cons.2 ⟨hbG, hG⟩, .inr ⟨b', c', nss, Gs, by simp [hm], by simp [hm]; omega, g3, by rw [put_at]; simp [hnew], by simp [hm, hnl], by simp [hm, hGl], rfl, fun j c x f e1 e2 e3 => ?_⟩⟩
        simp only [List.nil_append] at e2
        refine ok.frame _ _ _ _ _ (hO j c x f e1 e2 e3) fun i hi => ?_
        have : i ≠ b' := fun e => hbG (e ▸ List.mem_flatten.2 ⟨f, List.mem_of_getElem? e3, hi⟩)
        simp [Vw.put, this]
      · rcases List.mem_cons.1 hi with e | e
        · rw [e]; exact .inr (.inr hb')
        · exact .inr (.inl e)
  · have hn1 : ∀ c, c ∈ css → c.length = n := fun c hc => by
      obtain ⟨i, hi⟩ := List.getElem?_of_mem hc
      have hil : i < css.length := (List.getElem?_eq_some_iff.1 hi).1
      exact ok.len _ _ _ _ (g8 i c _ _ hi (List.getElem?_eq_getElem (by omega)) (List.getElem?_eq_getElem (by omega)))
    have g4' := g4
    rw [g7] at h2
    have hbFs : b ∉ Fs.flatten := (List.nodup_cons.1 h2).1
    have hbG : b ∉ Gs.flatten := fun hi => hGF b hi (by rw [g7]; exact List.mem_cons_self)
    have hFsdom : ∀ i, i ∈ Fs.flatten → σ i ≠ none := fun i hi => by
      obtain ⟨j, f, e1, e2⟩ := mem_flat hi
      have hj : j < Fs.length := (List.getElem?_eq_some_iff.1 e1).1
      exact (ok.dom _ _ _ _ (g8 j _ _ f (List.getElem?_eq_getElem (by omega)) (List.getElem?_eq_getElem (by omega)) e1) i e2).2
    refine .inr (.inl ⟨xs.length, css.flatten, ⟨by rw [flat_len _ hn1, g5], .inr ⟨b, cap, rfl, g4, g2.1, g2.2⟩⟩, hnewl, by omega, hb47, fun v' σ' hg => ?_⟩)
    rcases hg with ⟨rfl, rfl, h, _⟩ | ⟨b', c', rfl, k1, k2, rfl, k3, k4⟩
    · cases h
    · have hb' : b' ∉ Fs.flatten ∧ b' ∉ Gs.flatten ∧ (b' = b ∨ σ b' = none) := by
        rcases k4 with h | ⟨n0, c0, h⟩
        · exact ⟨fun hi => hFsdom b' hi h, fun hi => hGdom b' hi h, .inr h⟩
        · cases h; exact ⟨hbFs, hbG, .inl rfl⟩
      refine hK _ (b' :: (Fs ++ Gs).flatten) _ ?_ ?_ ?_ fun i hi => ?_
      · rcases hb'.2.2 with rfl | h
        · intro i r hi
          by_cases e : i = b'
          · subst e
            rw [g4'] at hi; cases hi
            exact ⟨_, put_at, List.prefix_append _ _⟩
          · exact ⟨r, by simp [Vw.put, e, hi], List.prefix_refl _⟩
        · exact (Keeps.put h).ext
      · rcases hb'.2.2 with rfl | h
        · exact KeepsBut.put (by rw [g7]; exact List.mem_cons_self)
        · exact (Keeps.put h).but
      · refine ⟨by simp; omega, ?_, .inr ⟨b', c', css ++ nss, Fs ++ Gs, by simp [hm], by simp [hm]; omega, k3, by rw [put_at, hnew]; simp, by simp [hm, hnl, g5], by simp [hm, hGl, g6], rfl, fun j c x f e1 e2 e3 => ?_⟩⟩
        · rw [List.flatten_append, List.nodup_cons]
          refine ⟨fun hi => ?_, List.nodup_append.2 ⟨(List.nodup_cons.1 h2).2, hG, fun a ha d hd e => hGF d hd (by rw [g7, ← e]; exact List.mem_cons_of_mem _ ha)⟩⟩
          rcases List.mem_append.1 hi with h | h
          · exact hb'.1 h
          · exact hb'.2.1 h
        · have hput : ∀ i, i ≠ b' → (σ.put b' ⟨ety, css.flatten ++ new, c' * n, (0, 0)⟩) i = σ i := fun i hi => by simp [Vw.put, hi]
          by_cases hj : j < xs.length
          · rw [List.getElem?_append_left (by omega)] at e1 e2 e3
            exact ok.frame _ _ _ _ _ (g8 j c x f e1 e2 e3) fun i hi => hput i fun e => hb'.1 (e ▸ List.mem_flatten.2 ⟨f, List.mem_of_getElem? e3, hi⟩)
          · rw [List.getElem?_append_right (by omega)] at e1 e2 e3
            rw [g5] at e1; rw [g6] at e3
            exact ok.frame _ _ _ _ _ (hO _ c x f e1 e2 e3) fun i hi => hput i fun e => hb'.2.1 (e ▸ List.mem_flatten.2 ⟨f, List.mem_of_getElem? e3, hi⟩)
      · rw [g7]
        rcases List.mem_cons.1 hi with e | e
        · rw [e]
          rcases hb'.2.2 with rfl | h
          · exact .inl List.mem_cons_self
          · exact .inr (.inr h)
        · rw [List.flatten_append] at e
          rcases List.mem_append.1 e with h | h
          · exact .inl (List.mem_cons_of_mem _ h)
          · exact .inr (.inl h)

/-- One element is appended. -/
theorem OAcc.oneX {ety n bytes : Nat} {Rel : (Addr → Option Value) → List Value → α → Prop} {O : Vw → List Nat → List Value → α → Prop} (ok : OOk w0 n Rel O) {F f : List Nat} {v : Value} {xs : List α} {y : α} {es : List Value}
    (h : OAcc w0 ety n O σ F v xs) (hy : O σ f es y) (hf : ∀ i, i ∈ f → i ∉ F) (hlen : xs.length + 1 ≤ 1000000000000) (hbytes : bytes ≤ 140) {K : Value → Vw → Prop}
    (hK : ∀ v' F' σ', Ext σ σ' → KeepsBut F σ σ' → OAcc w0 ety n O σ' F' v' (xs ++ [y]) → (∀ i, i ∈ F' → i ∈ F ∨ i ∈ f ∨ σ i = none) → K v' σ') : allOne es ∧ pAppend w0 ety n bytes v 1 es σ K := by
  refine ⟨ok.one _ _ _ _ hy, ?_⟩
  refine h.pushX ok (ys := [y]) (nss := [es]) (Gs := [f]) rfl rfl rfl (by simp) (fun j c z g e1 e2 e3 => ?_) (by simpa using ok.nodup _ _ _ _ hy) (by simpa using hf) hlen hbytes (by simpa using hK)
  cases j with
  | zero => simp at e1 e2 e3; subst e1 e2 e3; exact hy
  | succ j => simp at e1

/-- All elements of a list that is read are appended; they need no rows of their own. -/
theorem OAcc.allX {ety n bytes : Nat} {Rel Rel0 : (Addr → Option Value) → List Value → α → Prop} {O : Vw → List Nat → List Value → α → Prop} (ok : OOk w0 n Rel O) {rd0 : Addr → Option Value} {F : List Nat} {v s : Value} {xs ys : List α}
    (h : OAcc w0 ety n O σ F v xs) (hs : RSl n Rel0 rd0 s ys) (hle : Le rd0 (Av.get w0 σ)) (hO : ∀ es y, Rel0 rd0 es y → O σ [] es y) (hlen : xs.length + ys.length ≤ 1000000000000) (hbytes : bytes ≤ 140) {K : Value → Vw → Prop}
    (hK : ∀ v' F' σ', Ext σ σ' → KeepsBut F σ σ' → OAcc w0 ety n O σ' F' v' (xs ++ ys) → (∀ i, i ∈ F' → i ∈ F ∨ σ i = none) → K v' σ') : pAppendS w0 ety n bytes v s σ K := by
  obtain ⟨A, cap, rfl, hc, hel⟩ := hs
  obtain ⟨css, hcl, hcs⟩ := listOf (fun i (c : List Value) => ∃ a y, A = some a ∧ ys[i]? = some y ∧ c.length = n ∧ (∀ k, k < n → rd0 (a.add (i * n + k)) = c[k]?) ∧ Rel0 rd0 c y) ys.length (fun i hi => by
    obtain ⟨a, es, h1, h2, h3, h4⟩ := hel i _ (List.getElem?_eq_getElem hi)
    exact ⟨es, a, _, h1, List.getElem?_eq_getElem hi, h2, h3, h4⟩)
  have hn : ∀ c, c ∈ css → c.length = n := fun c hc => by
    obtain ⟨i, hi⟩ := List.getElem?_of_mem hc
    obtain ⟨_, _, _, _, h, _⟩ := hcs i c hi
    exact h
  refine ⟨A, ys.length, cap, css.flatten, rfl, by rw [flat_len _ hn, hcl], ?_, ?_, ?_⟩
  · intro c hc
    obtain ⟨es, he, hce⟩ := List.mem_flatten.1 hc
    obtain ⟨i, hi⟩ := List.getElem?_of_mem he
    obtain ⟨a, y, _, _, _, _, hR⟩ := hcs i es hi
    exact ok.one _ _ _ _ (hO _ _ hR) c hce
  · intro j hj
    rw [flat_len _ hn, hcl] at hj
    have hn0 : 0 < n := by
      rcases Nat.eq_zero_or_pos n with e | e
      · subst e; omega
      · exact e
    have hq : j / n < css.length := by rw [hcl]; exact (Nat.div_lt_iff_lt_mul hn0).2 hj
    obtain ⟨a, y, hA, hy, hl, hk, hR⟩ := hcs (j / n) _ (List.getElem?_eq_getElem hq)
    have hr : j % n < n := Nat.mod_lt _ hn0
    have hdm : j / n * n + j % n = j := by rw [Nat.mul_comm]; exact Nat.div_add_mod j n
    refine ⟨a, hA, ?_⟩
    have e1 := flat_get css hn (j / n) _ (List.getElem?_eq_getElem hq) (j % n) hr
    rw [hdm] at e1
    have e2 := hk (j % n) hr
    rw [hdm, ← e1] at e2
    have hj' : j < css.flatten.length := by rw [flat_len _ hn, hcl]; exact hj
    rw [List.getElem?_eq_getElem hj'] at e2
    exact hle _ _ e2
  · refine h.pushX ok (ys := ys) (nss := css) (Gs := List.replicate ys.length []) rfl hcl (by simp) rfl (fun j c y g e1 e2 e3 => ?_) (by simp) (by simp) hlen hbytes (by simpa using hK)
    obtain ⟨a, y', _, hy, _, _, hR⟩ := hcs j c e1
    rw [e2] at hy; cases hy
    rw [List.getElem?_replicate] at e3
    split at e3
    · cases e3; exact hO _ _ hR
    · cases e3

theorem OAcc.one {ety n bytes : Nat} {Rel : (Addr → Option Value) → List Value → α → Prop} {O : Vw → List Nat → List Value → α → Prop} (ok : OOk w0 n Rel O) {F f : List Nat} {v : Value} {xs : List α} {y : α} {es : List Value}
    (h : OAcc w0 ety n O σ F v xs) (hy : O σ f es y) (hf : ∀ i, i ∈ f → i ∉ F) (hlen : xs.length + 1 ≤ 1000000000000) (hbytes : bytes ≤ 140) {K : Value → Vw → Prop}
    (hK : ∀ v' F' σ', KeepsBut F σ σ' → OAcc w0 ety n O σ' F' v' (xs ++ [y]) → (∀ i, i ∈ F' → i ∈ F ∨ i ∈ f ∨ σ i = none) → K v' σ') : allOne es ∧ pAppend w0 ety n bytes v 1 es σ K :=
  OAcc.oneX ok h hy hf hlen hbytes fun v' F' σ' _ => hK v' F' σ'
theorem OAcc.all {ety n bytes : Nat} {Rel Rel0 : (Addr → Option Value) → List Value → α → Prop} {O : Vw → List Nat → List Value → α → Prop} (ok : OOk w0 n Rel O) {rd0 : Addr → Option Value} {F : List Nat} {v s : Value} {xs ys : List α}
    (h : OAcc w0 ety n O σ F v xs) (hs : RSl n Rel0 rd0 s ys) (hle : Le rd0 (Av.get w0 σ)) (hO : ∀ es y, Rel0 rd0 es y → O σ [] es y) (hlen : xs.length + ys.length ≤ 1000000000000) (hbytes : bytes ≤ 140) {K : Value → Vw → Prop}
    (hK : ∀ v' F' σ', KeepsBut F σ σ' → OAcc w0 ety n O σ' F' v' (xs ++ ys) → (∀ i, i ∈ F' → i ∈ F ∨ σ i = none) → K v' σ') : pAppendS w0 ety n bytes v s σ K :=
  OAcc.allX ok h hs hle hO hlen hbytes fun v' F' σ' _ => hK v' F' σ'
end
end Go.Av

/- A part of a list that is read; slices of texts. -/
set_option linter.unusedVariables false
set_option linter.unusedSimpArgs false
namespace Go.Av
open Go Go.RowKit

section
variable {P : Program} {w0 : World} {σ σ' : Vw} {α : Type}

theorem RSl.slice {n : Nat} {R : (Addr → Option Value) → List Value → α → Prop} {rd : Addr → Option Value} {v : Value} {xs : List α} (h : RSl n R rd v xs) {lo hi : Option Value} {l u : Nat} (hl : boundOf 0 lo = some (l : Int)) (hu : boundOf xs.length hi = some (u : Int)) (hlu : l ≤ u) (hux : u ≤ xs.length) {K : Value → Prop}
    (hK : ∀ v', RSl n R rd v' ((xs.take u).drop l) → K v') : pSlice n v lo hi K := by
  obtain ⟨A, cap, rfl, h2, h3⟩ := h
  refine ⟨A, xs.length, cap, l, u, rfl, hl, hu, by omega, by omega, by omega, hK _ ?_⟩
  have hlen : ((xs.take u).drop l).length = u - l := by rw [List.length_drop, List.length_take]; omega
  simp only [Int.toNat_natCast]
  refine ⟨if cap = l then A else Option.map (fun x => x.add (l * n)) A, cap - l, by rw [hlen], by rw [hlen]; omega, fun j x hj => ?_⟩
  rw [List.getElem?_drop] at hj
  have hlt : l + j < u := by
    rcases Nat.lt_or_ge (l + j) u with h | h
    · exact h
    · rw [List.getElem?_eq_none (by rw [List.length_take]; omega)] at hj; cases hj
  rw [List.getElem?_take_of_lt hlt] at hj
  obtain ⟨a, es, rfl, g1, g2, g3⟩ := h3 _ x hj
  refine ⟨a.add (l * n), es, ?_, g1, fun i hi => ?_, g3⟩
  · rw [if_neg (by omega)]; rfl
  · rw [add_add, ← g2 i hi]
    congr 2
    rw [Nat.add_mul]; omega

theorem RSl.atfp {n : Nat} {R : (Addr → Option Value) → List Value → α → Prop} {v : Value} {xs : List α} (h : RSl n R (Av.get w0 σ) v xs) {j : Nat} {x : α} (hj : xs[j]? = some x) (o : Nat) (ho : o < n) {K : Value → (Nat → Value) → Prop} (hK : ∀ (q : Value) (es : List Value) (g : Nat → Value), R (Av.get w0 σ) es x → es[o]? = some (g 0) → K q g) :
    pIndexAddr n v (.int .i64 j) fun p => pField o p fun q => pLoad w0 1 q σ (K q) := by
  obtain ⟨A, cap, rfl, _, h3⟩ := h
  obtain ⟨a, es, rfl, h5, h6, h7⟩ := h3 j x hj
  have hlt : j < xs.length := (List.getElem?_eq_some_iff.1 hj).1
  refine ⟨a, xs.length, cap, .i64, j, rfl, rfl, by omega, by omega, a.add (j * n), rfl, (a.add (j * n)).add o, fun _ => es.getD o undef, rfl, fun i hi => ?_, hK _ es _ h7 ?_⟩
  · have e : i = 0 := by omega
    subst e
    have := h6 o ho
    rw [add_add, add_add, Nat.add_zero, this, List.getElem?_eq_getElem (by omega)]
    simp only [List.getD_eq_getElem?_getD, List.getElem?_eq_getElem (show o < es.length by omega), Option.getD_some]
  · simp only [List.getD_eq_getElem?_getD, List.getElem?_eq_getElem (show o < es.length by omega), Option.getD_some]

theorem RSl.atf {n : Nat} {R : (Addr → Option Value) → List Value → α → Prop} {v : Value} {xs : List α} (h : RSl n R (Av.get w0 σ) v xs) {j : Nat} {x : α} (hj : xs[j]? = some x) (o : Nat) (ho : o < n) {K : (Nat → Value) → Prop} (hK : ∀ (es : List Value) (g : Nat → Value), R (Av.get w0 σ) es x → es[o]? = some (g 0) → K g) :
    pIndexAddr n v (.int .i64 j) fun p => pField o p fun q => pLoad w0 1 q σ K :=
  h.atfp hj o ho fun q => hK

/-- A run of rounds over a list. -/
theorem foldl_take {β : Type} {f : β → α → β} {b : β} {xs : List α} {j : Nat} {x : α} (hj : xs[j]? = some x) : (xs.take (j + 1)).foldl f b = f ((xs.take j).foldl f b) x := by
  rw [List.take_add_one, hj, Option.toList_some, List.foldl_append]; rfl
end
end Go.Av

/- Marks of texts. -/
set_option linter.unusedVariables false
set_option linter.unusedSimpArgs false
namespace Go.Proofs.Ytlfnfpdipghdiaa
open Go Go.Av

section
variable {w0 : World} {σ : Vw}

end
end Go.Proofs.Ytlfnfpdipghdiaa

/- Pages: what is read of them; the chain of a text, by either reading. -/
set_option linter.unusedVariables false
set_option linter.unusedSimpArgs false
namespace Go.Proofs.Ytlfnfpdipghdiaa
open Go Go.Av

structure Pg where
  used : Bool
  data : ByteArray
  next : Int
structure Pn where
  name : ByteArray
  first : Int
  size : Int
noncomputable instance : DecidableEq Pg := fun _ _ => Classical.propDecidable _
noncomputable instance : DecidableEq Pn := fun _ _ => Classical.propDecidable _
def rng (n : Int) : Prop := -9223372036854775808 ≤ n ∧ n ≤ 9223372036854775807
def encPg (x : Pg) : List Value := [.bool x.used, .string x.data, .int .i64 x.next]
def goodPg (x : Pg) : Prop := x.data.size ≤ 9223372036854775807 ∧ rng x.next
def encPn (x : Pn) : List Value := [.string x.name, .int .i64 x.first, .int .i64 x.size]
def goodPn (x : Pn) : Prop := x.name.size ≤ 9223372036854775807 ∧ rng x.first ∧ rng x.size
abbrev RPg := RFl encPg goodPg
abbrev OPg := OFl encPg goodPg
abbrev RPn := RFl encPn goodPn
abbrev OPn := OFl encPn goodPn
theorem ok_pg (w0 : World) : OOk w0 3 RPg OPg := ok_fl (n := 3) (enc := encPg) (good := goodPg) (fun _ => rfl) (fun x c h => by simp [encPg] at h; rcases h with rfl | rfl | rfl <;> rfl) w0
theorem ok_pn (w0 : World) : OOk w0 3 RPn OPn := ok_fl (n := 3) (enc := encPn) (good := goodPn) (fun _ => rfl) (fun x c h => by simp [encPn] at h; rcases h with rfl | rfl | rfl <;> rfl) w0
/-- Pages and names. -/
abbrev Pgs := List Pg × List Pn
def RPgs (rd : Addr → Option Value) (es : List Value) (x : Pgs) : Prop := ∃ u v, es = [u, v] ∧ RSl 3 RPg rd u x.1 ∧ RSl 3 RPn rd v x.2
def OPgs (w0 : World) (σ : Vw) (F : List Nat) (es : List Value) (x : Pgs) : Prop := ∃ u v F1 F2, es = [u, v] ∧ OSl w0 3 OPg σ F1 u x.1 ∧ OSl w0 3 OPn σ F2 v x.2 ∧ F = F1 ++ F2 ∧ F.Nodup
theorem mono_pgs {rd rd' : Addr → Option Value} {es : List Value} {x : Pgs} (hl : Le rd rd') (h : RPgs rd es x) : RPgs rd' es x := by
  obtain ⟨u, v, h1, h2, h3⟩ := h
  exact ⟨u, v, h1, h2.mono hl fun _ _ h => h, h3.mono hl fun _ _ h => h⟩
/-- Places. -/
def encN (n : Nat) : List Value := [.int .i64 n]
def goodN (n : Nat) : Prop := n ≤ 9223372036854775807
abbrev RN := RFl encN goodN
abbrev ON := OFl encN goodN
theorem ok_n (w0 : World) : OOk w0 1 RN ON := ok_fl (n := 1) (enc := encN) (good := goodN) (fun _ => rfl) (fun x c h => by simp [encN] at h; rw [h]; rfl) w0
/-- Bools. -/
def encB (b : Bool) : List Value := [.bool b]
abbrev RBo := RFl encB fun _ => True
abbrev OBo := OFl encB fun _ => True
theorem ok_bo (w0 : World) : OOk w0 1 RBo OBo := ok_fl (n := 1) (enc := encB) (good := fun _ => True) (fun _ => rfl) (fun x c h => by simp [encB] at h; rw [h]; rfl) w0

/-- A chain of pages from a place on, with so many bytes left; the last says what ends it. -/
def Ch (e : Int → Prop) (ps : List Pg) : List Nat → Int → Int → Prop
  | [], a, l => e a ∧ l = 0
  | i :: r, a, l => a = i ∧ 0 < l ∧ ∃ p, ps[i]? = some p ∧ p.used = true ∧ (p.data.size : Int) = min 40 l ∧ Ch e ps r p.next (l - min 40 l)
theorem Ch.uniq {e : Int → Prop} (he : ∀ a, e a → a < 0) {ps : List Pg} : ∀ {r s : List Nat} {a l : Int}, Ch e ps r a l → Ch e ps s a l → r = s
  | [], [], _, _, _, _ => rfl
  | [], i :: s, a, l, h, h' => by have := h.2; have := h'.2.1; omega
  | i :: r, [], a, l, h, h' => by have := h.2.1; have := h'.2; omega
  | i :: r, j :: s, a, l, h, h' => by
    obtain ⟨h1, h2, p, h3, h4, h5, h6⟩ := h
    obtain ⟨g1, g2, q, g3, g4, g5, g6⟩ := h'
    have : i = j := by omega
    subst this
    rw [h3] at g3; cases g3
    rw [Ch.uniq he h6 g6]

open Classical in
/-- The chain, if there is one that is good. -/
noncomputable def chOf (e : Int → Prop) (g : List Nat → Prop) (ps : List Pg) (a l : Int) : Option (List Nat) := if h : ∃ r, Ch e ps r a l ∧ g r then some (Classical.choose h) else none
theorem chOf_some {e : Int → Prop} (he : ∀ a, e a → a < 0) {g : List Nat → Prop} {ps : List Pg} {a l : Int} {r : List Nat} (h : Ch e ps r a l) (hg : g r) : chOf e g ps a l = some r := by
  have hx : ∃ r, Ch e ps r a l ∧ g r := ⟨r, h, hg⟩
  unfold chOf
  rw [dif_pos hx, Ch.uniq he (Classical.choose_spec hx).1 h]
theorem chOf_none {e : Int → Prop} {g : List Nat → Prop} {ps : List Pg} {a l : Int} (h : ∀ r, Ch e ps r a l → g r → False) : chOf e g ps a l = none := by
  unfold chOf
  rw [dif_neg]
  rintro ⟨r, h1, h2⟩; exact h r h1 h2
theorem chOf_spec {e : Int → Prop} {g : List Nat → Prop} {ps : List Pg} {a l : Int} {r : List Nat} (h : chOf e g ps a l = some r) : Ch e ps r a l ∧ g r := by
  unfold chOf at h
  split at h
  · rename_i hx; cases h; exact Classical.choose_spec hx
  · cases h
noncomputable abbrev chS (ps : List Pg) (n : Pn) : Option (List Nat) := chOf (fun a => a < 0) (fun _ => True) ps n.first n.size
noncomputable abbrev chI (ps : List Pg) (n : Pn) : Option (List Nat) := chOf (fun a => a = -1) (fun r => r.Nodup) ps n.first n.size
/-- Where one stands in a chain. -/
def At (e : Int → Prop) (ps : List Pg) (a0 l0 : Int) (out : List Nat) (a l : Int) : Prop := ∀ r, Ch e ps r a0 l0 ↔ ∃ s, r = out ++ s ∧ Ch e ps s a l
theorem At.start {e : Int → Prop} {ps : List Pg} {a l : Int} : At e ps a l [] a l := fun r => ⟨fun h => ⟨r, rfl, h⟩, fun ⟨s, h, h'⟩ => by rw [h]; exact h'⟩
theorem At.step {e : Int → Prop} (he : ∀ a, e a → a < 0) {ps : List Pg} {a0 l0 a l : Int} {out : List Nat} (h : At e ps a0 l0 out a l) {i : Nat} {p : Pg} (hi : a = i) (hl : 0 < l) (hp : ps[i]? = some p) (hu : p.used = true) (hs : (p.data.size : Int) = min 40 l) : At e ps a0 l0 (out ++ [i]) p.next (l - min 40 l) := fun r => by
  rw [h r]
  constructor
  · rintro ⟨s, rfl, hs'⟩
    cases s with
    | nil => have := he a hs'.1; omega
    | cons j s =>
      obtain ⟨h1, h2, q, h3, h4, h5, h6⟩ := hs'
      have : j = i := by omega
      subst this
      rw [hp] at h3; cases h3
      exact ⟨s, by simp, h6⟩
  · rintro ⟨s, rfl, hs'⟩
    exact ⟨i :: s, by simp, hi, hl, p, hp, hu, hs, hs'⟩
theorem At.fail {e : Int → Prop} {g : List Nat → Prop} {ps : List Pg} {a0 l0 a l : Int} {out : List Nat} (h : At e ps a0 l0 out a l) (hn : ∀ s, Ch e ps s a l → g (out ++ s) → False) : chOf e g ps a0 l0 = none :=
  chOf_none fun r hr hg => by obtain ⟨s, rfl, hs⟩ := (h r).1 hr; exact hn s hs hg
theorem At.done {e : Int → Prop} (he : ∀ a, e a → a < 0) {g : List Nat → Prop} {ps : List Pg} {a0 l0 a : Int} {out : List Nat} (h : At e ps a0 l0 out a 0) (ha : e a) (hg : g out) : chOf e g ps a0 l0 = some out :=
  chOf_some he ((h out).2 ⟨[], by simp, ha, rfl⟩) hg

section
variable {w0 : World} {σ : Vw}

theorem fl_at {α : Type} {n : Nat} {enc : α → List Value} {good : α → Prop} {v : Value} {xs : List α} (h : RSl n (RFl enc good) (Av.get w0 σ) v xs) {j : Nat} {x : α} (hj : xs[j]? = some x) (o : Nat) (ho : o < n) {y : Value} (hy : (enc x)[o]? = some y) {K : (Nat → Value) → Prop} (hK : ∀ g : Nat → Value, g 0 = y → good x → K g) :
    pIndexAddr n v (.int .i64 j) fun p => pField o p fun q => pLoad w0 1 q σ K :=
  h.atf hj o ho fun es g ⟨h1, h2⟩ hg => hK g (by rw [h1, hy] at hg; cases hg; rfl) h2

/-- A part of two slices. -/
theorem RPgs.two {rd : Addr → Option Value} {es : List Value} {x : Pgs} (h : RPgs rd es x) {A : Prop} : pVal true 2 (.agg ⟨es⟩) A ↔ A := by
  obtain ⟨u, v, rfl, h1, h2⟩ := h
  exact pVal_2 h1.one h2.one
theorem pn_three {x : Pn} {A : Prop} : pVal true 3 (.agg ⟨encPn x⟩) A ↔ A := pVal_3 rfl rfl rfl
theorem spec_Chain {es : List Value} {x : Pgs} {n : Pn} (h : RPgs (Av.get w0 σ) es x) (hn : goodPn n) (h96 : x.1.length = 96) (hsz : 0 ≤ n.size ∧ n.size ≤ 3000) {R : Value → Vw → Prop}
    (hR : ∀ v F σ', Keeps σ σ' → OSl w0 1 ON σ' F v ((chS x.1 n).getD []) ∨ chS x.1 n = none → (∀ i, i ∈ F → σ i = none) → R (.tuple ⟨[v, .bool (chS x.1 n).isSome]⟩) σ') : AC Try.prog w0 n_spec_l32Chain [.agg ⟨es⟩, .agg ⟨encPn n⟩] σ R := by
  refine ac_spec_l32Chain ?_
  unfold vc_spec_l32Chain
  have he : ∀ a : Int, (fun a : Int => a < 0) a → a < 0 := fun a h => h
  rw [h.two, pn_three]
  obtain ⟨u, w, rfl, hu, hw⟩ := h
  simp only [cellOf_agg, List.getD_cons_zero, List.getD_cons_succ, encPn]
  intro b h1 h2
  have ha := OAcc.new (w0 := w0) (σ := σ) (ety := t_int) (n := 1) (O := ON) h1
  have bad : ∀ (v : Value) (F : List Nat) (s : Vw), Keeps σ s → (∀ i, i ∈ F → σ i = none) → chS x.1 n = none → R (.tuple ⟨[v, .bool false]⟩) s := fun v F s hk hF hc => by
    have := hR v F s hk (.inr hc) hF
    rw [hc] at this; exact this
  refine loop_rule (m := n.size.toNat + 1) (fun c l s => ∃ (out : List Nat) (v : Value) (F : List Nat) (a lf : Int) (v0 : Value), 0 ≤ lf ∧ lf < c ∧ lf + 40 * out.length ≤ 3040 ∧ (lf = 0 ∨ lf + 40 * out.length ≤ 3000) ∧ rng a ∧ Keeps σ s ∧ (∀ i, i ∈ F → σ i = none) ∧ OAcc w0 t_int 1 ON s F v out ∧ At (fun a => a < 0) x.1 n.first n.size out a lf ∧ l = [v0, .bool false, v, .int .i64 a, .int .i64 lf, u, w]) ?_
    ⟨[], _, [b], n.first, n.size, _, hsz.1, by omega, by simp; omega, by simp; omega, hn.2.1, Keeps.put h2, fun i hi => by rw [List.mem_singleton.1 hi]; exact h2, ha, At.start, rfl⟩
  rintro c l s L ⟨out, v, F, a, lf, v0, hl0, hlc, hl1, hl2, hra, hk, hF, ho, hat, rfl⟩ hL
  simp only [vget, List.getD_cons_zero, List.getD_cons_succ]
  have hus := hu.mono hk.le fun _ _ h => h
  rw [pBin_ge, pIf_d]
  refine ⟨fun hge => ?_, fun hlt => ?_⟩
  · obtain ⟨i, hi⟩ : ∃ i : Nat, a = i := ⟨a.toNat, by omega⟩
    subst hi
    rw [hus.len, h96, pBin_ge, pIf_d]
    refine ⟨fun hbig => bad v F s hk hF (hat.fail fun r hr _ => ?_), fun hsm => ?_⟩
    · cases r with
      | nil => have := hr.1; omega
      | cons j r =>
        obtain ⟨g1, g2, p, g3, _⟩ := hr
        have := (List.getElem?_eq_some_iff.1 g3).1
        omega
    have hx := List.getElem?_eq_getElem (show i < x.1.length by omega)
    generalize hxi : x.1[i]'(by omega) = p at hx
    have nop : ∀ (P : Prop), (0 < lf → p.used = true → (p.data.size : Int) = min 40 lf → False) → chS x.1 n = none := fun P hP => hat.fail fun r hr _ => by
      cases r with
      | nil => have := hr.1; omega
      | cons j r =>
        obtain ⟨g1, g2, q, g3, g4, g5, _⟩ := hr
        have : i = j := by omega
        subst this
        rw [hx] at g3; cases g3
        exact hP g2 g4 g5
    refine fl_at hus hx 0 (by omega) rfl fun g hg hgood => ?_
    rw [hg, pUn_not, pIf_b]
    refine ⟨fun hb => bad v F s hk hF (nop True fun _ h _ => by rw [h] at hb; cases hb), fun hb => ?_⟩
    have hused : p.used = true := by simpa using hb
    have hov := ho.osl.rel (ok_n w0)
    rw [hov.len, pBin_gt, pIf_d]
    refine ⟨fun h => by omega, fun _ => ?_⟩
    rw [pBin_gt, pIf_d]
    have next : ∀ (sz : Int), sz = min 40 lf → 0 < lf → (p.data.size : Int) = sz → pVal false 1 (Value.int .i64 (i : Nat)) ((allOne [Value.int .i64 (i : Nat)]) ∧ (pAppend w0 3 1 8 v 1 [Value.int .i64 (i : Nat)] s (fun v21 s22 => pBin Try.prog 3 .sub (.int .i64 lf) (.int .i64 sz) (fun v23 => pIndexAddr 3 u (.int .i64 (i : Nat)) (fun v24 => pField 2 v24 (fun v25 => pLoad w0 1 v25 s22 (fun g26 => L [v0, .bool false, v21, g26 0, v23, u, w] s22))))))) := by
      rintro sz rfl hpos hds
      rw [pVal1 rfl]
      refine ho.one (ok_n w0) (f := []) (y := i) ⟨rfl, rfl, show i ≤ _ by omega⟩ (by simp) (by omega) (by omega) fun v' F' s' k' o' f' => ?_
      have hk' : Keeps σ s' := k'.old hk hF
      rw [pBin_sub (by omega)]
      refine fl_at (hu.mono hk'.le fun _ _ h => h) hx 2 (by omega) rfl fun g hg hgood => ?_
      rw [hg]
      refine hL _ _ (c - 1) (by omega) ⟨out ++ [i], v', F', p.next, lf - min 40 lf, v0, by omega, by omega, ?_, ?_, hgood.2, hk', fun j hj => ?_, o', hat.step he rfl hpos hx hused hds, rfl⟩
      · simp only [List.length_append, List.length_singleton]; omega
      · simp only [List.length_append, List.length_singleton]; omega
      · rcases f' j hj with h | h | h
        · exact hF j h
        · cases h
        · cases hs : σ j with
          | none => rfl
          | some r => rw [hk j r hs] at h; cases h
    refine ⟨fun h40 => ?_, fun h40 => ?_⟩
    · refine fl_at hus hx 1 (by omega) rfl fun g hg hgood => ?_
      rw [hg, pLenS_s, pBin_ne, pIf_d]
      refine ⟨fun hne => bad v F s hk hF (nop True fun _ _ h => by omega), fun heq => ?_⟩
      rw [pBin_eq, pIf_d]
      refine ⟨fun h => by omega, fun _ => ?_⟩
      exact next 40 (by omega) (by omega) (by omega)
    · refine fl_at hus hx 1 (by omega) rfl fun g hg hgood => ?_
      rw [hg, pLenS_s, pBin_ne, pIf_d]
      refine ⟨fun hne => bad v F s hk hF (nop True fun _ _ h => by omega), fun heq => ?_⟩
      rw [pBin_eq, pIf_d]
      refine ⟨fun h0 => bad v F s hk hF (nop True fun h _ _ => by omega), fun h0 => ?_⟩
      exact next lf (by omega) (by omega) (by omega)
  · show pBin Try.prog 3 .eql (.int .i64 lf) (.int .i64 0) _
    rw [pBin_eq]
    by_cases h0 : lf = 0
    · subst h0
      have hc : chS x.1 n = some out := hat.done he (show a < 0 by omega) trivial
      have := hR v F s hk (.inl (by rw [hc]; exact ho.osl)) hF
      rw [hc] at this
      simpa using this
    · have hc : chS x.1 n = none := hat.fail fun r hr _ => by
        cases r with
        | nil => exact h0 hr.2
        | cons j r => have := hr.1; omega
      have := bad v F s hk hF hc
      simpa [h0] using this
end
end Go.Proofs.Ytlfnfpdipghdiaa

/- Pages: the chain of a text by the program's own reading. -/
set_option linter.unusedVariables false
set_option linter.unusedSimpArgs false
namespace Go.Proofs.Ytlfnfpdipghdiaa
open Go Go.Av

section
variable {w0 : World} {σ : Vw}

theorem impl_pieces {n s : Int} (h : 0 ≤ n ∧ n ≤ 1000000000000 ∧ 0 < s ∧ s ≤ 1000000) {R : Value → Vw → Prop} (hR : R (.int .i64 ((n + s - 1) / s)) σ) : AC Try.prog w0 n_impl_pieces [.int .i64 n, .int .i64 s] σ R := by
  refine ac_impl_pieces ?_
  unfold vc_impl_pieces
  rw [pBin_add (by omega), pBin_sub (by omega), pBin_quo (by omega)]
  exact hR

theorem has_int {v : Value} {xs : List Nat} {a : Int} (h : RSl 1 RN (Av.get w0 σ) v xs) {R : Value → Vw → Prop} (hR : ∀ b : Bool, (b = true ↔ ∃ i : Nat, i ∈ xs ∧ a = i) → R (.bool b) σ) : AC Try.prog w0 n_slices_Contains_int_int [v, .int .i64 a] σ R := by
  refine ac_slices_Contains_int_int ?_
  unfold vc_slices_Contains_int_int
  refine ac_slices_Index_int_int ?_
  unfold vc_slices_Index_int_int
  have hl := h.le
  rw [h.len]
  refine loop_rule (m := xs.length) (fun c l s => ∃ j, s = σ ∧ c + j = xs.length ∧ (∀ (i y : Nat), i < j → xs[i]? = some y → a ≠ y) ∧ l = [v, .int .i64 a, .int .i64 0, .int .i64 xs.length, .int .i64 (j : Nat)]) ?_ ⟨0, rfl, by omega, fun i y h => by omega, rfl⟩
  rintro c l s L ⟨j, rfl, hc, ht, rfl⟩ hL
  simp only [vget, List.getD_cons_zero, List.getD_cons_succ]
  rw [pBin_lt, pIf_d]
  refine ⟨fun hj => ?_, fun hj => ?_⟩
  · have hx := List.getElem?_eq_getElem (show j < xs.length by omega)
    generalize hxj : xs[j] = y at hx
    refine h.at hx fun g hg => ?_
    obtain ⟨hg, hs⟩ := hg
    simp only [expl, encN, List.cons.injEq, and_true] at hg
    rw [hg, pBin_eq, pIf_d]
    refine ⟨fun he => ?_, fun hne => ?_⟩
    · rw [pBin_ge]
      have e : decide ((0 : Int) ≤ (j : Nat)) = true := by simp
      rw [e]
      exact hR true ⟨fun _ => ⟨y, List.mem_of_getElem? hx, he⟩, fun _ => rfl⟩
    · rw [pBin_add (by omega)]
      refine hL _ _ (c - 1) (by omega) ⟨j + 1, rfl, by omega, fun i z hi hz => ?_, rfl⟩
      by_cases e : i = j
      · subst e; rw [hx] at hz; cases hz; exact hne
      · exact ht i z (by omega) hz
  · show pBin Try.prog 3 .geq (.int .i64 (-1)) (.int .i64 0) _
    rw [pBin_ge]
    have e : decide ((0 : Int) ≤ -1) = false := by decide
    rw [e]
    refine hR false ⟨fun h => (by cases h), fun ⟨i, hi, he⟩ => ?_⟩
    obtain ⟨k, hk⟩ := List.getElem?_of_mem hi
    exact absurd he (ht k i (by have := (List.getElem?_eq_some_iff.1 hk).1; omega) hk)

theorem impl_Chain {es : List Value} {x : Pgs} {n : Pn} (h : RPgs (Av.get w0 σ) es x) (hn : goodPn n) (h96 : x.1.length = 96) (hsz : 0 ≤ n.size ∧ n.size ≤ 3000) {R : Value → Vw → Prop}
    (hR : ∀ v F σ', Keeps σ σ' → OSl w0 1 ON σ' F v ((chI x.1 n).getD []) ∨ chI x.1 n = none → (∀ i, i ∈ F → σ i = none) → R (.tuple ⟨[v, .bool (chI x.1 n).isSome]⟩) σ') : AC Try.prog w0 n_impl_Pages_chain [.agg ⟨es⟩, .agg ⟨encPn n⟩] σ R := by
  refine ac_impl_Pages_chain ?_
  unfold vc_impl_Pages_chain
  have he : ∀ a : Int, (fun a : Int => a = -1) a → a < 0 := fun a (h : a = -1) => by omega
  rw [h.two, pn_three]
  obtain ⟨u, w, rfl, hu, hw⟩ := h
  simp only [cellOf_agg, List.getD_cons_zero, List.getD_cons_succ, encPn]
  intro b h1 h2
  have ha := OAcc.new (w0 := w0) (σ := σ) (ety := t_int) (n := 1) (O := ON) h1
  have bad : ∀ (v : Value) (F : List Nat) (s : Vw), Keeps σ s → (∀ i, i ∈ F → σ i = none) → chI x.1 n = none → R (.tuple ⟨[v, .bool false]⟩) s := fun v F s hk hF hc => by
    have := hR v F s hk (.inr hc) hF
    rw [hc] at this; exact this
  refine impl_pieces (by omega) ?_
  obtain ⟨q, hq⟩ : ∃ q : Nat, (n.size + 40 - 1) / 40 = q := ⟨((n.size + 40 - 1) / 40).toNat, by omega⟩
  rw [hq]
  refine loop_rule (m := q) (fun c l s => ∃ (k : Nat) (out : List Nat) (v : Value) (F : List Nat) (a : Int), c + k = q ∧ out.length = k ∧ out.Nodup ∧ rng a ∧ Keeps σ s ∧ (∀ i, i ∈ F → σ i = none) ∧ OAcc w0 t_int 1 ON s F v out ∧ At (fun a => a = -1) x.1 n.first n.size out a (if n.size - k * 40 < 0 then 0 else n.size - k * 40) ∧
      l = [.slice none 0 0, .bool false, v, .int .i64 a, .int .i64 q, .int .i64 (k : Nat), u, w, .string n.name, .int .i64 n.first, .int .i64 n.size]) ?_
    ⟨0, [], _, [b], n.first, by omega, rfl, by simp, hn.2.1, Keeps.put h2, fun i hi => by rw [List.mem_singleton.1 hi]; exact h2, ha, by
      rw [show (if n.size - (0 : Nat) * 40 < 0 then 0 else n.size - (0 : Nat) * 40) = n.size by split <;> omega]; exact At.start, rfl⟩
  rintro c l s L ⟨k, out, v, F, a, hc, hol, hnd, hra, hk, hF, ho, hat, rfl⟩ hL
  simp only [vget, List.getD_cons_zero, List.getD_cons_succ]
  have hus := hu.mono hk.le fun _ _ h => h
  rw [pBin_lt, pIf_d]
  refine ⟨fun hlt => ?_, fun hge => ?_⟩
  · have hpos : 0 < n.size - (k : Int) * 40 := by omega
    rw [if_neg (by omega)] at hat
    rw [pBin_mul (by omega), pBin_sub (by omega), pMin_s]
    refine impl_within ?_
    rw [pUn_not, pIf_b]
    have nop : ∀ (P : Prop), (∀ (i : Nat) (p : Pg), a = i → x.1[i]? = some p → (out ++ [i]).Nodup → p.used = true → (p.data.size : Int) = min 40 (n.size - k * 40) → False) → chI x.1 n = none := fun P hP => hat.fail fun r hr hg => by
      cases r with
      | nil => have := hr.2; omega
      | cons j r =>
        obtain ⟨g1, g2, q, g3, g4, g5, _⟩ := hr
        refine hP j q g1 g3 ?_ g4 g5
        rw [show out ++ j :: r = (out ++ [j]) ++ r by simp] at hg
        exact (List.nodup_append.1 hg).1
    refine ⟨fun hin => bad _ F s hk hF (nop True fun i p h1 h2 _ _ _ => ?_), fun hin => ?_⟩
    · have := (List.getElem?_eq_some_iff.1 h2).1
      simp [inB] at hin; omega
    have hin' : 0 ≤ a ∧ a ≤ 95 := by simpa [inB] using hin
    obtain ⟨i, hi⟩ : ∃ i : Nat, a = i := ⟨a.toNat, by omega⟩
    subst hi
    have hx := List.getElem?_eq_getElem (show i < x.1.length by omega)
    generalize hxi : x.1[i]'(by omega) = p at hx
    refine has_int (ho.osl.rel (ok_n w0)) fun bb hbb => ?_
    rw [pIf_b]
    refine ⟨fun hb => bad _ F s hk hF (nop True fun j q h1 h2 h3 _ _ => ?_), fun hb => ?_⟩
    · obtain ⟨i', hi', he'⟩ := hbb.1 hb
      have : j = i' := by omega
      subst this
      exact (List.nodup_append.1 h3).2.2 j hi' j (by simp) rfl
    have hni : i ∉ out := fun hm => by rw [hbb.2 ⟨i, hm, rfl⟩] at hb; cases hb
    have same : ∀ (j : Nat) (q : Pg), ((i : Nat) : Int) = j → x.1[j]? = some q → q = p := fun j q h1 h2 => by
      have : i = j := by omega
      subst this
      rw [hx] at h2; cases h2; rfl
    refine fl_at hus hx 0 (by omega) rfl fun g hg hgood => ?_
    rw [hg, pUn_not, pIf_b]
    refine ⟨fun hb => bad _ F s hk hF (nop True fun j q h1 h2 _ h4 _ => by rw [same j q h1 h2] at h4; rw [h4] at hb; cases hb), fun hb => ?_⟩
    have hused : p.used = true := by simpa using hb
    refine fl_at hus hx 1 (by omega) rfl fun g hg hgood => ?_
    rw [hg, pLenS_s, pBin_ne, pIf_d]
    refine ⟨fun hne => bad _ F s hk hF (nop True fun j q h1 h2 _ _ h5 => by rw [same j q h1 h2] at h5; exact hne h5), fun heq => ?_⟩
    have hds : (p.data.size : Int) = min 40 (n.size - k * 40) := Decidable.not_not.1 heq
    rw [pVal1 rfl]
    refine ho.one (ok_n w0) (f := []) (y := i) ⟨rfl, rfl, show i ≤ _ by omega⟩ (by simp) (by omega) (by omega) fun v' F' s' k' o' f' => ?_
    have hk' : Keeps σ s' := k'.old hk hF
    refine fl_at (hu.mono hk'.le fun _ _ h => h) hx 2 (by omega) rfl fun g hg hgood => ?_
    rw [hg, pBin_add (by omega)]
    refine hL _ _ (c - 1) (by omega) ⟨k + 1, out ++ [i], v', F', p.next, by omega, by simp [hol], ?_, hgood.2, hk', fun j hj => ?_, o', ?_, rfl⟩
    · exact List.nodup_append.2 ⟨hnd, by simp, fun a ha b hb e => by rw [List.mem_singleton.1 hb] at e; exact hni (e ▸ ha)⟩
    · rcases f' j hj with h | h | h
      · exact hF j h
      · cases h
      · cases hs : σ j with
        | none => rfl
        | some r => rw [hk j r hs] at h; cases h
    · have := hat.step he rfl hpos hx hused hds
      rw [show (if n.size - ((k + 1 : Nat) : Int) * 40 < 0 then 0 else n.size - ((k + 1 : Nat) : Int) * 40) = n.size - k * 40 - min 40 (n.size - k * 40) by split <;> omega]
      exact this
  · have hk0 : n.size - (k : Int) * 40 ≤ 0 := by omega
    have e0 : (if n.size - (k : Int) * 40 < 0 then 0 else n.size - (k : Int) * 40) = 0 := by split <;> omega
    rw [e0] at hat
    show pBin Try.prog 3 .eql (.int .i64 a) (.int .i64 (-1)) _
    rw [pBin_eq]
    by_cases h1 : a = -1
    · have hc : chI x.1 n = some out := hat.done he h1 hnd
      have := hR v F s hk (.inl (by rw [hc]; exact ho.osl)) hF
      rw [hc] at this
      simpa [h1] using this
    · have hc : chI x.1 n = none := hat.fail fun r hr _ => by
        cases r with
        | nil => exact h1 hr.1
        | cons j r => have := hr.2.1; omega
      have := bad v F s hk hF hc
      simpa [h1] using this
end
end Go.Proofs.Ytlfnfpdipghdiaa

/- Paths: their names, their order, what lies within what. -/
set_option linter.unusedVariables false
set_option linter.unusedSimpArgs false
namespace Go.Proofs.Ytlfnfpdipghdiaa
open Go Go.Av

def strLt (a b : ByteArray) : Bool := Op.bytesLess a.toList b.toList
theorem bl_irrefl : ∀ (a : List UInt8), Op.bytesLess a a = false
  | [] => rfl
  | x :: r => by simp [Op.bytesLess, bl_irrefl r]
theorem bl_total : ∀ (a b : List UInt8), Op.bytesLess a b = false → Op.bytesLess b a = false → a = b
  | [], [], _, _ => rfl
  | [], _ :: _, h, _ => by simp [Op.bytesLess] at h
  | _ :: _, [], _, h => by simp [Op.bytesLess] at h
  | x :: r, y :: q, h, h' => by
    simp only [Op.bytesLess] at h h'
    by_cases e : x = y
    · subst e
      simp at h h'
      rw [bl_total r q h h']
    · exfalso
      rcases UInt8.lt_or_lt_of_ne e with h1 | h1
      · simp [h1] at h
      · simp [h1] at h'
theorem strLt_irrefl (a : ByteArray) : strLt a a = false := bl_irrefl _
theorem strLt_total {a b : ByteArray} (h : strLt a b = false) (h' : strLt b a = false) : a = b := bytes_inj (bl_total _ _ h h')

section
variable {w0 : World} {σ : Vw}

theorem pBin_slt {P : Program} {T : Nat} {a b : ByteArray} {K : Value → Prop} : pBin P T .lss (.string a) (.string b) K ↔ K (.bool (strLt a b)) := pBin_s rfl
theorem RSl.at1 {v : Value} {xs : List ByteArray} (h : RSl 1 RS (Av.get w0 σ) v xs) {j : Nat} {x : ByteArray} (hj : xs[j]? = some x) {K : (Nat → Value) → Prop} (hK : ∀ g : Nat → Value, g 0 = .string x → x.size ≤ 9223372036854775807 → K g) :
    pIndexAddr 1 v (.int .i64 j) fun p => pLoad w0 1 p σ K := by
  refine h.at hj fun g hg => ?_
  obtain ⟨hg, hs⟩ := hg
  simp only [expl, List.cons.injEq, and_true] at hg
  exact hK g hg hs

end
end Go.Proofs.Ytlfnfpdipghdiaa

/- Paths: their order, what lies within what; marks. -/
set_option linter.unusedVariables false
set_option linter.unusedSimpArgs false
namespace Go.Proofs.Ytlfnfpdipghdiaa
open Go Go.Av

section
variable {w0 : World} {σ : Vw}

end
end Go.Proofs.Ytlfnfpdipghdiaa

/- Trails: when one is sound; the law 'TrailOk', of the functions alone. -/
set_option linter.unusedVariables false
set_option linter.unusedSimpArgs false
namespace Go.Proofs.Ytlfnfpdipghdiaa
open Go Go.Av

section
variable {w0 : World} {σ : Vw}

theorem RSl.take {α : Type} {n : Nat} {Rl : (Addr → Option Value) → List Value → α → Prop} {v : Value} {xs : List α} (h : RSl n Rl (Av.get w0 σ) v xs) {j : Nat} (hj : j ≤ xs.length) {K : Value → Prop} (hK : ∀ v', RSl n Rl (Av.get w0 σ) v' (xs.take j) → K v') : pSlice n v none (some (.int .i64 j)) K := by
  obtain ⟨A, cap, rfl, hc, h3⟩ := h
  refine ⟨A, xs.length, cap, 0, j, rfl, rfl, rfl, by omega, by omega, by omega, hK _ ?_⟩
  have hl : (xs.take j).length = j := by simp; omega
  refine ⟨if cap = (0 : Int).toNat then A else A.map (·.add ((0 : Int).toNat * n)), cap - (0 : Int).toNat, by rw [hl]; simp, ⟨by rw [hl]; simp; omega, by simp; omega⟩, fun i x hi => ?_⟩
  have hij : i < j := by have := (List.getElem?_eq_some_iff.1 hi).1; rw [hl] at this; exact this
  rw [List.getElem?_take_of_lt hij] at hi
  obtain ⟨a, es, rfl, h5, h6, h7⟩ := h3 i x hi
  refine ⟨a, es, ?_, h5, h6, h7⟩
  split
  · rfl
  · simp [Addr.add]

end
end Go.Proofs.Ytlfnfpdipghdiaa

/- The law 'TrailOk', of the functions alone. -/
set_option linter.unusedVariables false
set_option linter.unusedSimpArgs false
namespace Go.Proofs.Ytlfnfpdipghdiaa
open Go Go.Av

section
variable {w0 : World} {σ : Vw}

end
end Go.Proofs.Ytlfnfpdipghdiaa

/- Trees: what is read of one; their size, their copy, their comparison. -/
set_option linter.unusedVariables false
set_option linter.unusedSimpArgs false
namespace Go.Proofs.Ytlfnfpdipghdiaa
open Go Go.Av

inductive Tr where
  | mk (dir : Bool) (mode : Int) (text : ByteArray) (names : List ByteArray) (kids : List Tr)
noncomputable instance : DecidableEq Tr := fun _ _ => Classical.propDecidable _

section
variable {w0 : World} {σ : Vw}

end
end Go.Proofs.Ytlfnfpdipghdiaa

/- Trees: their copy, their comparison. -/
set_option linter.unusedVariables false
set_option linter.unusedSimpArgs false
namespace Go.Proofs.Ytlfnfpdipghdiaa
open Go Go.Av

section
variable {w0 : World}

end
end Go.Proofs.Ytlfnfpdipghdiaa

/- Trees: when one is sound. -/
set_option linter.unusedVariables false
set_option linter.unusedSimpArgs false
namespace Go.Proofs.Ytlfnfpdipghdiaa
open Go Go.Av

section
variable {w0 : World} {σ : Vw}

theorem pBin_sge {P : Program} {T : Nat} {a b : ByteArray} {K : Value → Prop} : pBin P T .geq (.string a) (.string b) K ↔ K (.bool (!strLt a b)) := pBin_s rfl

end
end Go.Proofs.Ytlfnfpdipghdiaa

/- Pages: when they are ok, by either reading, and that both say the same. -/
set_option linter.unusedVariables false
set_option linter.unusedSimpArgs false
namespace Go.Proofs.Ytlfnfpdipghdiaa
open Go Go.Av

def prevN (ns : List Pn) (j : Nat) (n : Pn) : Bool :=
  match j with
  | 0 => true
  | i + 1 => match ns[i]? with
    | some y => strLt y.name n.name
    | none => true
/-- A name is in its place. -/
def pnAt (ns : List Pn) (j : Nat) (n : Pn) : Prop := nameOk n.name = true ∧ prevN ns j n = true ∧ inB n.size 0 3000 = true
/-- All pages of the first names. -/
noncomputable def lsOf (c : Pn → Option (List Nat)) (ns : List Pn) : List Nat := (ns.map fun n => (c n).getD []).flatten
def OkS (x : Pgs) : Prop := x.1.length = 96 ∧ x.2.length ≤ 16 ∧ (∀ (j : Nat) (n : Pn), x.2[j]? = some n → pnAt x.2 j n ∧ -1 ≤ n.first ∧ (chS x.1 n).isSome = true) ∧ (lsOf (chS x.1) x.2).Nodup ∧
  ∀ (i : Nat) (p : Pg), x.1[i]? = some p → (p.used = true ↔ i ∈ lsOf (chS x.1) x.2) ∧ (p.used = false → p.data = ⟨#[]⟩ ∧ p.next = -1) ∧ -1 ≤ p.next
def OkI (x : Pgs) : Prop := x.1.length = 96 ∧ x.2.length ≤ 16 ∧ (∀ (j : Nat) (n : Pn), x.2[j]? = some n → pnAt x.2 j n ∧ (chI x.1 n).isSome = true) ∧ (lsOf (chI x.1) x.2).Nodup ∧
  ∀ (i : Nat) (p : Pg), x.1[i]? = some p → i ∉ lsOf (chI x.1) x.2 → p.used = false ∧ p.data = ⟨#[]⟩ ∧ p.next = -1
open Classical in
noncomputable def pagesOk (x : Pgs) : Bool := decide (OkS x)

theorem ch_used {e : Int → Prop} {ps : List Pg} : ∀ {r : List Nat} {a l : Int}, Ch e ps r a l → ∀ i, i ∈ r → ∃ p, ps[i]? = some p ∧ p.used = true
  | [], _, _, _, i, hi => by cases hi
  | j :: r, a, l, h, i, hi => by
    obtain ⟨h1, h2, p, h3, h4, h5, h6⟩ := h
    rcases List.mem_cons.1 hi with e | e
    · rw [e]; exact ⟨p, h3, h4⟩
    · exact ch_used h6 i e
/-- What follows in a chain that ends with -1. -/
theorem ch_next {ps : List Pg} : ∀ {r : List Nat} {a l : Int}, Ch (fun a => a = -1) ps r a l → -1 ≤ a ∧ ∀ i, i ∈ r → ∀ p, ps[i]? = some p → -1 ≤ p.next
  | [], a, _, h => ⟨by have : a = -1 := h.1; omega, fun i hi => by cases hi⟩
  | j :: r, a, l, h => by
    obtain ⟨h1, h2, p, h3, h4, h5, h6⟩ := h
    have := ch_next h6
    refine ⟨by omega, fun i hi q hq => ?_⟩
    rcases List.mem_cons.1 hi with e | e
    · rw [e, h3] at hq; cases hq; exact this.1
    · exact this.2 i e q hq
theorem ch_weak {ps : List Pg} : ∀ {r : List Nat} {a l : Int}, Ch (fun a => a = -1) ps r a l → Ch (fun a => a < 0) ps r a l
  | [], a, _, h => ⟨by have : a = -1 := h.1; omega, h.2⟩
  | j :: r, a, l, h => by
    obtain ⟨h1, h2, p, h3, h4, h5, h6⟩ := h
    exact ⟨h1, h2, p, h3, h4, h5, ch_weak h6⟩
theorem ch_strong {ps : List Pg} (hp : ∀ (i : Nat) (p : Pg), ps[i]? = some p → -1 ≤ p.next) : ∀ {r : List Nat} {a l : Int}, -1 ≤ a → Ch (fun a => a < 0) ps r a l → Ch (fun a => a = -1) ps r a l
  | [], a, _, ha, h => ⟨by have : a < 0 := h.1; show a = -1; omega, h.2⟩
  | j :: r, a, l, ha, h => by
    obtain ⟨h1, h2, p, h3, h4, h5, h6⟩ := h
    exact ⟨h1, h2, p, h3, h4, h5, ch_strong hp (hp j p h3) h6⟩

theorem chS_of_chI {ps : List Pg} {n : Pn} {r : List Nat} (h : chI ps n = some r) : chS ps n = some r := by
  obtain ⟨h1, h2⟩ := chOf_spec h
  exact chOf_some (fun a h => h) (ch_weak h1) trivial

theorem lsOf_mem {c : Pn → Option (List Nat)} {ns : List Pn} {i : Nat} : i ∈ lsOf c ns ↔ ∃ n, n ∈ ns ∧ ∃ r, c n = some r ∧ i ∈ r := by
  unfold lsOf
  rw [List.mem_flatten]
  constructor
  · rintro ⟨l, hl, hi⟩
    obtain ⟨n, hn, rfl⟩ := List.mem_map.1 hl
    cases hc : c n with
    | none => rw [hc] at hi; simp at hi
    | some r => rw [hc] at hi; exact ⟨n, hn, r, hc, hi⟩
  · rintro ⟨n, hn, r, hc, hi⟩
    exact ⟨r, List.mem_map.2 ⟨n, hn, by rw [hc]; rfl⟩, hi⟩
theorem lsOf_congr {c d : Pn → Option (List Nat)} {ns : List Pn} (h : ∀ n, n ∈ ns → c n = d n) : lsOf c ns = lsOf d ns := by
  unfold lsOf
  congr 1
  exact List.map_congr_left fun n hn => by rw [h n hn]

theorem ok_same (x : Pgs) : OkS x ↔ OkI x := by
  constructor
  · rintro ⟨h1, h2, h3, h4, h5⟩
    have e : ∀ n, n ∈ x.2 → chI x.1 n = chS x.1 n := fun n hn => by
      obtain ⟨j, hj⟩ := List.getElem?_of_mem hn
      obtain ⟨_, h6, h7⟩ := h3 j n hj
      obtain ⟨r, hr⟩ := Option.isSome_iff_exists.1 h7
      rw [hr]
      refine chOf_some (fun a (h : a = -1) => by omega) (ch_strong (fun i p hp => (h5 i p hp).2.2) h6 (chOf_spec hr).1) ?_
      have hs : List.Sublist ((chS x.1 n).getD []) (lsOf (chS x.1) x.2) := by
        unfold lsOf
        exact List.sublist_flatten_of_mem (List.mem_map.2 ⟨n, hn, rfl⟩)
      rw [hr] at hs
      exact hs.nodup h4
    have el := lsOf_congr e
    refine ⟨h1, h2, fun j n hj => ⟨(h3 j n hj).1, by rw [e n (List.mem_of_getElem? hj)]; exact (h3 j n hj).2.2⟩, by rw [el]; exact h4, fun i p hp hi => ?_⟩
    rw [el] at hi
    obtain ⟨g1, g2, g3⟩ := h5 i p hp
    have hu : p.used = false := by
      cases hc : p.used with
      | false => rfl
      | true => exact absurd (g1.1 hc) hi
    exact ⟨hu, g2 hu⟩
  · rintro ⟨h1, h2, h3, h4, h5⟩
    have e : ∀ n, n ∈ x.2 → chS x.1 n = chI x.1 n := fun n hn => by
      obtain ⟨j, hj⟩ := List.getElem?_of_mem hn
      obtain ⟨r, hr⟩ := Option.isSome_iff_exists.1 (h3 j n hj).2
      rw [chS_of_chI hr, hr]
    have el := lsOf_congr e
    refine ⟨h1, h2, fun j n hj => ?_, by rw [el]; exact h4, fun i p hp => ?_⟩
    · obtain ⟨h6, h7⟩ := h3 j n hj
      obtain ⟨r, hr⟩ := Option.isSome_iff_exists.1 h7
      exact ⟨h6, (ch_next (chOf_spec hr).1).1, by rw [e n (List.mem_of_getElem? hj)]; exact h7⟩
    · rw [el]
      by_cases hi : i ∈ lsOf (chI x.1) x.2
      · obtain ⟨n, hn, r, hr, hir⟩ := lsOf_mem.1 hi
        have hc := (chOf_spec hr).1
        obtain ⟨q, hq, hu⟩ := ch_used hc i hir
        rw [hp] at hq; cases hq
        refine ⟨⟨fun _ => hi, fun _ => hu⟩, fun h => (by rw [hu] at h; cases h), (ch_next hc).2 i hir p hp⟩
      · obtain ⟨g1, g2, g3⟩ := h5 i p hp hi
        exact ⟨⟨fun h => (by rw [g1] at h; cases h), fun h => absurd h hi⟩, fun _ => ⟨g2, g3⟩, by omega⟩

theorem lsOf_take {c : Pn → Option (List Nat)} {ns : List Pn} {j : Nat} {n : Pn} (hj : ns[j]? = some n) : lsOf c (ns.take (j + 1)) = lsOf c (ns.take j) ++ (c n).getD [] := by
  unfold lsOf
  rw [List.take_add_one, hj, Option.toList_some, List.map_append, List.flatten_append]
  simp
theorem lsOf_pre {c : Pn → Option (List Nat)} {ns : List Pn} {j : Nat} (h : (lsOf c ns).Nodup) : (lsOf c (ns.take j)).Nodup := by
  have e : lsOf c ns = lsOf c (ns.take j) ++ lsOf c (ns.drop j) := by
    unfold lsOf
    rw [← List.flatten_append, ← List.map_append, List.take_append_drop]
  rw [e] at h
  exact (List.nodup_append.1 h).1

section
variable {w0 : World} {σ : Vw}

/-- Which places are in a list. -/
def inL (m : Nat) (l : List Nat) : List Bool := (List.range m).map fun i => decide (i ∈ l)
theorem inL_get {m i : Nat} {l : List Nat} (h : i < m) : (inL m l)[i]? = some (decide (i ∈ l)) := by
  unfold inL
  rw [List.getElem?_map, List.getElem?_range h]; rfl
theorem inL_set {m i : Nat} {l : List Nat} (h : i < m) : (inL m l).set i true = inL m (l ++ [i]) := by
  apply List.ext_getElem?
  intro k
  by_cases hk : k < m
  · by_cases e : i = k
    · subst e
      rw [List.getElem?_set_self (by simp [inL, h]), inL_get h]
      simp
    · rw [List.getElem?_set_ne e, inL_get hk, inL_get hk]
      congr 1
      simp only [List.mem_append, List.mem_singleton]
      have : ¬ k = i := fun h => e h.symm
      simp [this]
  · rw [List.getElem?_eq_none (by simp [inL]; omega), List.getElem?_eq_none (by simp [inL]; omega)]

theorem bool_store {F : List Nat} {v : Value} {xs : List Bool} (h : OSl w0 1 OBo σ F v xs) {j : Nat} {x y : Bool} (hj : xs[j]? = some x) {K : Vw → Prop}
    (hK : ∀ σ', KeepsBut F σ σ' → OSl w0 1 OBo σ' F v (xs.set j y) → K σ') : pIndexAddr 1 v (.int .i64 j) fun p => pVal false 1 (.bool y) (pStore p [.bool y] σ K) := by
  obtain ⟨b, o, f, c, A, C, r, hix, hb, hr, hc, hA, hOx, hbF, hf, hput⟩ := h.focus (ok_bo w0) hj
  obtain ⟨rfl, rfl, hsz⟩ := hOx
  refine hix _ ?_
  refine elem_store hr hc hA rfl ?_
  exact hK _ (KeepsBut.put hbF) (hput _ [.bool y] y _ put_at rfl ⟨rfl, rfl, trivial⟩ fun i hi hne _ => by simp [Vw.put, hne])
theorem bool_at {v : Value} {xs : List Bool} (h : RSl 1 RBo (Av.get w0 σ) v xs) {j : Nat} {x : Bool} (hj : xs[j]? = some x) {K : (Nat → Value) → Prop} (hK : ∀ g : Nat → Value, g 0 = .bool x → K g) : pIndexAddr 1 v (.int .i64 j) fun p => pLoad w0 1 p σ K := by
  refine h.at hj fun g hg => ?_
  obtain ⟨hg, _⟩ := hg
  simp only [expl, encB, List.cons.injEq, and_true] at hg
  exact hK g hg
theorem n_at {v : Value} {xs : List Nat} (h : RSl 1 RN (Av.get w0 σ) v xs) {j : Nat} {x : Nat} (hj : xs[j]? = some x) {K : (Nat → Value) → Prop} (hK : ∀ g : Nat → Value, g 0 = .int .i64 x → K g) : pIndexAddr 1 v (.int .i64 j) fun p => pLoad w0 1 p σ K := by
  refine h.at hj fun g hg => ?_
  obtain ⟨hg, _⟩ := hg
  simp only [expl, encN, List.cons.injEq, and_true] at hg
  exact hK g hg
theorem pn_at {v : Value} {xs : List Pn} (h : RSl 3 RPn (Av.get w0 σ) v xs) {j : Nat} {x : Pn} (hj : xs[j]? = some x) {K : (Nat → Value) → Prop} (hK : ∀ g : Nat → Value, g 0 = .string x.name → g 1 = .int .i64 x.first → g 2 = .int .i64 x.size → goodPn x → K g) : pIndexAddr 3 v (.int .i64 j) fun p => pLoad w0 3 p σ K := by
  refine h.at hj fun g hg => ?_
  obtain ⟨hg, hgood⟩ := hg
  simp only [expl, encPn, List.cons.injEq, and_true] at hg
  exact hK g hg.1 hg.2.1 hg.2.2 hgood
theorem pg_at {v : Value} {xs : List Pg} (h : RSl 3 RPg (Av.get w0 σ) v xs) {j : Nat} {x : Pg} (hj : xs[j]? = some x) {K : (Nat → Value) → Prop} (hK : ∀ g : Nat → Value, g 0 = .bool x.used → g 1 = .string x.data → g 2 = .int .i64 x.next → goodPg x → K g) : pIndexAddr 3 v (.int .i64 j) fun p => pLoad w0 3 p σ K := by
  refine h.at hj fun g hg => ?_
  obtain ⟨hg, hgood⟩ := hg
  simp only [expl, encPg, List.cons.injEq, and_true] at hg
  exact hK g hg.1 hg.2.1 hg.2.2 hgood
end
end Go.Proofs.Ytlfnfpdipghdiaa

/- Pages: 'PagesOk' by the reference. -/
set_option linter.unusedVariables false
set_option linter.unusedSimpArgs false
namespace Go.Proofs.Ytlfnfpdipghdiaa
open Go Go.Av

section
variable {w0 : World} {σ : Vw}

theorem pagesOk_no {x : Pgs} (h : ¬ OkS x) : pagesOk x = false := by simp [pagesOk, h]
theorem pagesOk_yes {x : Pgs} (h : OkS x) : pagesOk x = true := by simp [pagesOk, h]

theorem ch_lt {e : Int → Prop} {ps : List Pg} {r : List Nat} {a l : Int} (h : Ch e ps r a l) {i : Nat} (hi : i ∈ r) : i < ps.length := by
  obtain ⟨p, hp, _⟩ := ch_used h i hi
  exact (List.getElem?_eq_some_iff.1 hp).1

/-- Bools, all false, in a row that was made. -/
theorem made_bools {b ety : Nat} (hb : w0.heap.size ≤ b) (hn : σ b = none) : OSl w0 1 OBo (σ.put b ⟨ety, (List.replicate 96 [Value.bool false]).flatten, 96, (0, 0)⟩) [b] (.slice (some ⟨b, 0, none⟩) 96 96) (inL 96 []) := by
  have hl : (inL 96 []).length = 96 := by simp [inL]
  refine ⟨by omega, by simp, .inr ⟨b, 0, 96, _, [], [], List.replicate 96 [.bool false], List.replicate 96 [], by rw [hl], by omega, hb, put_at, by simp, rfl, by rw [hl]; simp, by rw [hl]; simp, by simp, ?_⟩⟩
  intro j c x f e1 e2 e3
  have hj : j < 96 := by rw [← hl]; exact (List.getElem?_eq_some_iff.1 e2).1
  rw [inL_get hj] at e2
  rw [List.getElem?_replicate, if_pos hj] at e1 e3
  cases e1; cases e2; cases e3
  exact ⟨rfl, by simp [encB], trivial⟩

theorem spec_PagesOk {es : List Value} {x : Pgs} (h : RPgs (Av.get w0 σ) es x) {R : Value → Vw → Prop} (hR : ∀ σ', Keeps σ σ' → R (.bool (pagesOk x)) σ') : AC Try.prog w0 n_spec_PagesOk [.agg ⟨es⟩] σ R := by
  have hh := h
  refine ac_spec_PagesOk ?_
  unfold vc_spec_PagesOk cs_spec_PagesOk_2 cs_spec_PagesOk_1
  rw [h.two]
  obtain ⟨u, w, rfl, hu, hw⟩ := h
  simp only [cellOf_agg, List.getD_cons_zero, List.getD_cons_succ]
  have no : ¬ OkS x → ∀ s, Keeps σ s → R (.bool false) s := fun hn s hk => by have := hR s hk; rw [pagesOk_no hn] at this; exact this
  rw [hu.len, pBin_ne, pIf_d]
  refine ⟨fun hne => no (fun hk => hne (by rw [hk.1]; rfl)) σ (Keeps.refl σ), fun heq => ?_⟩
  have h96 : x.1.length = 96 := by omega
  rw [hw.len, pBin_gt, pIf_d]
  refine ⟨fun hgt => no (fun hk => by have := hk.2.1; omega) σ (Keeps.refl σ), fun hle => ?_⟩
  have h16 : x.2.length ≤ 16 := by omega
  refine pMake_s (m := 96) (by omega) (by omega) fun b ety h1 h2 => ?_
  have o0 := made_bools (ety := ety) h1 h2
  have hF0 : ∀ i, i ∈ [b] → σ i = none := fun i hi => by rw [List.mem_singleton.1 hi]; exact h2
  refine loop_rule (m := x.2.length) (fun c l s => ∃ j : Nat, c + j = x.2.length ∧ Keeps σ s ∧ (∀ (i : Nat) (n : Pn), i < j → x.2[i]? = some n → pnAt x.2 i n ∧ -1 ≤ n.first ∧ (chS x.1 n).isSome = true) ∧ (lsOf (chS x.1) (x.2.take j)).Nodup ∧
    OSl w0 1 OBo s [b] (.slice (some ⟨b, 0, none⟩) 96 96) (inL 96 (lsOf (chS x.1) (x.2.take j))) ∧ l = [.bool false, .slice (some ⟨b, 0, none⟩) 96 96, .int .i64 (j : Nat), u, w]) ?_
    ⟨0, by omega, Keeps.put h2, fun i n h => by omega, by simp [lsOf], by simpa [lsOf] using o0, rfl⟩
  rintro c l s L ⟨j, hc, hk, hdone, hnd, os, rfl⟩ hL
  simp only [vget, List.getD_cons_zero, List.getD_cons_succ]
  have hws := hw.mono hk.le fun _ _ h => h
  rw [hws.len, pBin_lt, pIf_d]
  refine ⟨fun hj => ?_, fun hj => ?_⟩
  · have hx := List.getElem?_eq_getElem (show j < x.2.length by omega)
    generalize hxj : x.2[j]'(by omega) = n at hx
    refine pn_at hws hx fun g hg0 hg1 hg2 hgood => ?_
    rw [hg0, hg1, hg2, pVal_3 rfl rfl rfl]
    refine spec_nameOk hgood.1 ?_
    rw [pUn_not, pIf_b]
    refine ⟨fun hb => no (fun hk => by have := (hk.2.2.1 j n hx).1.1; rw [this] at hb; cases hb) s hk, fun hb => ?_⟩
    have hname : nameOk n.name = true := by simpa using hb
    rw [pBin_gt, pIf_d]
    refine ⟨fun hpos => ?ca, fun h0 => ?cb⟩
    case' ca =>
      obtain ⟨i, hi⟩ : ∃ i, j = i + 1 := ⟨j - 1, by omega⟩
      rw [pBin_sub (by omega), show ((j : Nat) : Int) - 1 = (i : Nat) by omega]
      have hy := List.getElem?_eq_getElem (show i < x.2.length by omega)
      generalize hyi : x.2[i]'(by omega) = y at hy
      refine fl_at hws hy 0 (by omega) rfl fun g2 hg2' hgood2 => ?_
      have hpv : prevN x.2 j n = strLt y.name n.name := by rw [hi]; simp [prevN, hy]
      rw [hg2', pBin_sge, pIf_b]
      refine ⟨fun hb => no (fun hk => by have := (hk.2.2.1 j n hx).1.2.1; rw [hpv] at this; rw [this] at hb; cases hb) s hk, fun hb => ?_⟩
      have hprev : prevN x.2 j n = true := by rw [hpv]; simpa using hb
    case' cb =>
      have hj0 : j = 0 := by omega
      have hprev : prevN x.2 j n = true := by rw [hj0]; rfl
    all_goals
      refine spec_In ?_
      rw [pUn_not, pIf_b]
      refine ⟨fun hb => no (fun hk => by have := (hk.2.2.1 j n hx).1.2.2; rw [this] at hb; cases hb) s hk, fun hb => ?_⟩
      have hin : inB n.size 0 3000 = true := by simpa using hb
      have hin' : 0 ≤ n.size ∧ n.size ≤ 3000 := by simpa [inB] using hin
      rw [pBin_lt, pIf_d]
      refine ⟨fun hb => no (fun hk => by have := (hk.2.2.1 j n hx).2.1; omega) s hk, fun hfirst => ?_⟩
      refine spec_Chain (mono_pgs hk.le hh) hgood h96 hin' fun v F s1 k1 ov fv => ?_
      rw [pExtract_s rfl, pExtract_s rfl, pUn_not, pIf_b]
      refine ⟨fun hb => no (fun hk => by have := (hk.2.2.1 j n hx).2.2; rw [this] at hb; cases hb) s1 (hk.trans k1), fun hb => ?_⟩
      have hsome : (chS x.1 n).isSome = true := by simpa using hb
      obtain ⟨r, hr⟩ := Option.isSome_iff_exists.1 hsome
      have ov' : OSl w0 1 ON s1 F v r := by
        rcases ov with h | h
        · rw [hr] at h; exact h
        · rw [hr] at h; cases h
      have hch := (chOf_spec hr).1
      have hlt := lsOf_take (c := chS x.1) hx
      rw [hr, Option.getD_some] at hlt
      have os1 := os.frame (ok_bo w0) (k1.but_at fun i hi => (os.dom (ok_bo w0) i hi).2)
      have hFb : ∀ i, i ∈ F → i ∉ [b] := fun i hi hi' => (os.dom (ok_bo w0) i hi').2 (fv i hi)
      refine loop_rule (m := r.length) (fun c' l' s' => ∃ k : Nat, c' + k = r.length ∧ KeepsBut [b] s1 s' ∧ (lsOf (chS x.1) (x.2.take j) ++ r.take k).Nodup ∧ OSl w0 1 OBo s' [b] (.slice (some ⟨b, 0, none⟩) 96 96) (inL 96 (lsOf (chS x.1) (x.2.take j) ++ r.take k)) ∧
        l' = [.bool false, .slice (some ⟨b, 0, none⟩) 96 96, .int .i64 (j : Nat), v, .int .i64 (k : Nat), u, w]) ?_ ⟨0, by omega, KeepsBut.refl _ _, by simpa using hnd, by simpa using os1, rfl⟩
      rintro c' l' s' L' ⟨k, hc', kb, hnd', os', rfl⟩ hL'
      simp only [vget, List.getD_cons_zero, List.getD_cons_succ]
      have hks' : Keeps σ s' := kb.old (hk.trans k1) hF0
      have ov2 := ov'.frame (ok_n w0) (kb.at (fun i hi => (ov'.dom (ok_n w0) i hi).2) hFb)
      have rv := ov2.rel (ok_n w0)
      have rl := ov'.1
      rw [rv.len, pBin_lt, pIf_d]
      refine ⟨fun hkl => ?_, fun hkl => ?_⟩
      · have hrk := List.getElem?_eq_getElem (show k < r.length by omega)
        generalize hrki : r[k]'(by omega) = p at hrk
        have hp96 : p < 96 := by rw [← h96]; exact ch_lt hch (List.mem_of_getElem? hrk)
        refine n_at rv hrk fun g hg => ?_
        rw [hg]
        refine bool_at (os'.rel (ok_bo w0)) (inL_get hp96) fun g' hg' => ?_
        rw [hg', pIf_d]
        have htk : r.take (k + 1) = r.take k ++ [p] := by rw [List.take_add_one, hrk]; rfl
        refine ⟨fun hm => no (fun hk => ?_) s' hks', fun hm => ?_⟩
        · have hn2 := lsOf_pre (j := j + 1) hk.2.2.2.1
          rw [hlt] at hn2
          have e : r = r.take (k + 1) ++ r.drop (k + 1) := (List.take_append_drop _ _).symm
          rw [e, htk] at hn2
          rw [show ∀ (A B C D : List Nat), A ++ (B ++ C ++ D) = (A ++ B) ++ (C ++ D) by intros; simp] at hn2
          exact (List.nodup_append.1 hn2).2.2 p hm p (by simp) rfl
        · refine n_at rv hrk fun g hg => ?_
          rw [hg]
          refine bool_store os' (inL_get hp96) fun s2 k2 o2 => ?_
          rw [pBin_add (by omega)]
          rw [inL_set hp96, List.append_assoc, ← htk] at o2
          refine hL' _ _ (c' - 1) (by omega) ⟨k + 1, by omega, kb.trans k2, ?_, o2, rfl⟩
          rw [htk, ← List.append_assoc]
          exact List.nodup_append.2 ⟨hnd', by simp, fun a ha d hd e => by rw [List.mem_singleton.1 hd] at e; exact hm (e ▸ ha)⟩
      · have hkr : k = r.length := by omega
        subst hkr
        rw [List.take_length, ← hlt] at hnd' os'
        show pBin Try.prog 3 .add _ _ _
        rw [pBin_add (by omega)]
        refine hL _ _ (c - 1) (by omega) ⟨j + 1, by omega, hks', fun i m hi he => ?_, hnd', os', rfl⟩
        by_cases e : i = j
        · subst e
          rw [hx] at he; cases he
          exact ⟨⟨hname, hprev, hin⟩, by omega, hsome⟩
        · exact hdone i m (by omega) he
  · have hjl : j = x.2.length := by omega
    subst hjl
    rw [List.take_length] at hnd os
    show pLoop _ _ _ _
    have ob := os.rel (ok_bo w0)
    refine loop_rule (m := 96) (fun c' l' s' => ∃ k : Nat, c' + k = 96 ∧ s' = s ∧ (∀ (i : Nat) (p : Pg), i < k → x.1[i]? = some p → (p.used = true ↔ i ∈ lsOf (chS x.1) x.2) ∧ (p.used = false → p.data = ⟨#[]⟩ ∧ p.next = -1) ∧ -1 ≤ p.next) ∧
      l' = [.bool false, .slice (some ⟨b, 0, none⟩) 96 96, .int .i64 (k : Nat), u, w]) ?_ ⟨0, by omega, rfl, fun i p h => by omega, rfl⟩
    rintro c' l' s' L' ⟨k, hc', rfl, hd, rfl⟩ hL'
    simp only [vget, List.getD_cons_zero, List.getD_cons_succ]
    have hus := hu.mono hk.le fun _ _ h => h
    rw [hus.len, h96, pBin_lt, pIf_d]
    refine ⟨fun hk96 => ?_, fun hk96 => ?_⟩
    · have hx := List.getElem?_eq_getElem (show k < x.1.length by omega)
      generalize hxk : x.1[k]'(by omega) = p at hx
      refine pg_at hus hx fun g hg0 hg1 hg2 hgood => ?_
      rw [hg0, hg1, hg2, pVal_3 rfl rfl rfl]
      refine bool_at ob (inL_get (show k < 96 by omega)) fun g' hg' => ?_
      rw [hg', pBin_b (v := .bool (!(p.used == decide (k ∈ lsOf (chS x.1) x.2)))) (by kernel_rfl) rfl, pIf_b]
      refine ⟨fun hb => no (fun hk => ?_) s' (by assumption), fun hb => ?_⟩
      · have := (hk.2.2.2.2 k p hx).1
        cases hu : p.used with
        | true => rw [hu] at this hb; simp [this.1 rfl] at hb
        | false =>
          rw [hu] at this hb
          have hn : k ∉ lsOf (chS x.1) x.2 := fun h => by have := this.2 h; cases this
          simp [hn] at hb
      have hiff : p.used = true ↔ k ∈ lsOf (chS x.1) x.2 := by
        have e : p.used = decide (k ∈ lsOf (chS x.1) x.2) := by simpa using hb
        rw [e]; simp
      have next : (p.used = false → p.data = ⟨#[]⟩ ∧ p.next = -1) → pBin Try.prog 3 .lss (.int .i64 p.next) (.int .i64 (-1)) (fun v98 => pIf v98 (R (.bool false) s') (pBin Try.prog 3 .add (.int .i64 (k : Nat)) (.int .i64 1) (fun v99 => L' [.bool false, .slice (some ⟨b, 0, none⟩) 96 96, v99, u, w] s'))) := fun hz => by
        rw [pBin_lt, pIf_d]
        refine ⟨fun hlt => no (fun hk => by have := (hk.2.2.2.2 k p hx).2.2; omega) s' (by assumption), fun hge => ?_⟩
        rw [pBin_add (by omega)]
        refine hL' _ _ (c' - 1) (by omega) ⟨k + 1, by omega, rfl, fun i q hi hq => ?_, rfl⟩
        by_cases e : i = k
        · subst e; rw [hx] at hq; cases hq
          exact ⟨hiff, hz, by omega⟩
        · exact hd i q (by omega) hq
      rw [pUn_not, pIf_b]
      refine ⟨fun hb2 => ?_, fun hb2 => next fun h => by rw [h] at hb2; cases hb2⟩
      have hu0 : p.used = false := by simpa using hb2
      rw [pBin_sne, pIf_d]
      refine ⟨fun hne => no (fun hk => hne ((hk.2.2.2.2 k p hx).2.1 hu0).1) s' (by assumption), fun heq => ?_⟩
      rw [pBin_ne, pIf_d]
      refine ⟨fun hne => no (fun hk => hne ((hk.2.2.2.2 k p hx).2.1 hu0).2) s' (by assumption), fun heq2 => ?_⟩
      exact next fun _ => ⟨Decidable.not_not.1 heq, Decidable.not_not.1 heq2⟩
    · have := hR s' (by assumption)
      rw [pagesOk_yes ⟨h96, h16, fun i n he => hdone i n (List.getElem?_eq_some_iff.1 he).1 he, hnd, fun i p hp => hd i p (by have := (List.getElem?_eq_some_iff.1 hp).1; omega) hp⟩] at this
      exact this
end
end Go.Proofs.Ytlfnfpdipghdiaa

/- Pages: 'PagesOk' by the program's own text; how many are free. -/
set_option linter.unusedVariables false
set_option linter.unusedSimpArgs false
namespace Go.Proofs.Ytlfnfpdipghdiaa
open Go Go.Av

section
variable {w0 : World} {σ : Vw}

theorem arr_idx {b : Nat} {i : Nat} {K : Value → Prop} (h : pIndexAddr 1 (.slice (some ⟨b, 0, none⟩) 96 96) (.int .i64 i) K) : pIndexArr 96 1 (.pointer (some ⟨b, 0, none⟩)) (.int .i64 i) K := by
  obtain ⟨a, len, cap, k, n, h1, h2, h3, h4, h5⟩ := h
  cases h1; cases h2
  exact ⟨_, _, _, rfl, rfl, h3, h4, h5⟩

theorem impl_PagesOk {es : List Value} {x : Pgs} (h : RPgs (Av.get w0 σ) es x) {R : Value → Vw → Prop} (hR : ∀ σ', Keeps σ σ' → R (.bool (pagesOk x)) σ') : AC Try.prog w0 n_impl_PagesOk [.agg ⟨es⟩] σ R := by
  have hh := h
  refine ac_impl_PagesOk ?_
  unfold vc_impl_PagesOk cs_impl_PagesOk_2 cs_impl_PagesOk_1
  rw [h.two]
  obtain ⟨u, w, rfl, hu, hw⟩ := h
  simp only [cellOf_agg, List.getD_cons_zero, List.getD_cons_succ]
  classical
  rw [show pagesOk x = decide (OkI x) by unfold pagesOk; exact decide_eq_decide.2 (ok_same x)] at hR
  have no : ¬ OkI x → ∀ s, Keeps σ s → R (.bool false) s := fun hn s hk => by have := hR s hk; simpa [hn] using this
  rw [hu.len, pBin_ne, pIf_d]
  refine ⟨fun hne => no (fun hk => hne (by rw [hk.1]; rfl)) σ (Keeps.refl σ), fun heq => ?_⟩
  have h96 : x.1.length = 96 := by omega
  rw [hw.len, pBin_gt, pIf_d]
  refine ⟨fun hgt => no (fun hk => by have := hk.2.1; omega) σ (Keeps.refl σ), fun hle => ?_⟩
  have h16 : x.2.length ≤ 16 := by omega
  intro b h1 h2
  show pVal true 96 (.agg ⟨List.replicate 96 (.bool false)⟩) (pStore _ (List.replicate 96 (.bool false)) _ _)
  rw [pValN (by simp) (fun c hc => by rw [List.eq_of_mem_replicate hc]; rfl)]
  refine ⟨b, 0, ⟨t_a96_bool, List.replicate 96 (.bool false), 96, (0, 0)⟩, rfl, put_at, by simp, ?_⟩
  have e1 := setAt_mid [] (List.replicate 96 (Value.bool false)) (List.replicate 96 (Value.bool false)) [] rfl
  simp only [List.nil_append, List.append_nil, List.length_nil] at e1
  have e2 : (σ.put b ⟨t_a96_bool, List.replicate 96 (.bool false), 96, (0, 0)⟩).put b ⟨t_a96_bool, setAt (List.replicate 96 (.bool false)) 0 (List.replicate 96 (.bool false)), 96, (0, 0)⟩ = σ.put b ⟨t_a96_bool, (List.replicate 96 [Value.bool false]).flatten, 96, (0, 0)⟩ := by
    rw [put_put, e1]; rfl
  have o0 := made_bools (ety := t_a96_bool) h1 h2
  rw [← e2] at o0
  have k0 : Keeps σ ((σ.put b ⟨t_a96_bool, List.replicate 96 (.bool false), 96, (0, 0)⟩).put b ⟨t_a96_bool, setAt (List.replicate 96 (.bool false)) 0 (List.replicate 96 (.bool false)), 96, (0, 0)⟩) := by rw [e2]; exact Keeps.put h2
  clear e1 e2
  show pLen w _
  rw [hw.len]
  have hF0 : ∀ i, i ∈ [b] → σ i = none := fun i hi => by rw [List.mem_singleton.1 hi]; exact h2
  refine loop_rule (m := x.2.length) (fun c l s => ∃ j : Nat, c + j = x.2.length ∧ Keeps σ s ∧ (∀ (i : Nat) (n : Pn), i < j → x.2[i]? = some n → pnAt x.2 i n ∧ (chI x.1 n).isSome = true) ∧ (lsOf (chI x.1) (x.2.take j)).Nodup ∧
    OSl w0 1 OBo s [b] (.slice (some ⟨b, 0, none⟩) 96 96) (inL 96 (lsOf (chI x.1) (x.2.take j))) ∧ l = [.bool false, .pointer (some ⟨b, 0, none⟩), w, .int .i64 x.2.length, .int .i64 (j : Nat), u, w]) ?_
    ⟨0, by omega, k0, fun i n h => by omega, by simp [lsOf], by simpa [lsOf] using o0, rfl⟩
  rintro c l s L ⟨j, hc, hk, hdone, hnd, os, rfl⟩ hL
  simp only [vget, List.getD_cons_zero, List.getD_cons_succ]
  have hws := hw.mono hk.le fun _ _ h => h
  rw [pBin_lt, pIf_d]
  refine ⟨fun hj => ?_, fun hj => ?_⟩
  · have hx := List.getElem?_eq_getElem (show j < x.2.length by omega)
    generalize hxj : x.2[j]'(by omega) = n at hx
    refine pn_at hws hx fun g hg0 hg1 hg2 hgood => ?_
    rw [hg0, hg1, hg2, pVal_3 rfl rfl rfl]
    refine impl_nameOk hgood.1 ?_
    rw [pUn_not, pIf_b]
    refine ⟨fun hb => no (fun hk => by have := (hk.2.2.1 j n hx).1.1; rw [this] at hb; cases hb) s hk, fun hb => ?_⟩
    have hname : nameOk n.name = true := by simpa using hb
    rw [pBin_gt, pIf_d]
    refine ⟨fun hpos => ?ca, fun h0 => ?cb⟩
    case' ca =>
      obtain ⟨i, hi⟩ : ∃ i, j = i + 1 := ⟨j - 1, by omega⟩
      rw [pBin_sub (by omega), show ((j : Nat) : Int) - 1 = (i : Nat) by omega]
      have hy := List.getElem?_eq_getElem (show i < x.2.length by omega)
      generalize hyi : x.2[i]'(by omega) = y at hy
      refine fl_at hws hy 0 (by omega) rfl fun g2 hg2' hgood2 => ?_
      have hpv : prevN x.2 j n = strLt y.name n.name := by rw [hi]; simp [prevN, hy]
      rw [hg2', pBin_sge, pIf_b]
      refine ⟨fun hb => no (fun hk => by have := (hk.2.2.1 j n hx).1.2.1; rw [hpv] at this; rw [this] at hb; cases hb) s hk, fun hb => ?_⟩
      have hprev : prevN x.2 j n = true := by rw [hpv]; simpa using hb
    case' cb =>
      have hj0 : j = 0 := by omega
      have hprev : prevN x.2 j n = true := by rw [hj0]; rfl
    all_goals
      refine impl_within ?_
      rw [pUn_not, pIf_b]
      refine ⟨fun hb => no (fun hk => by have := (hk.2.2.1 j n hx).1.2.2; rw [this] at hb; cases hb) s hk, fun hb => ?_⟩
      have hin : inB n.size 0 3000 = true := by simpa using hb
      have hin' : 0 ≤ n.size ∧ n.size ≤ 3000 := by simpa [inB] using hin
      refine impl_Chain (mono_pgs hk.le hh) hgood h96 hin' fun v F s1 k1 ov fv => ?_
      rw [pExtract_s rfl, pExtract_s rfl, pUn_not, pIf_b]
      refine ⟨fun hb => no (fun hk => by have := (hk.2.2.1 j n hx).2; rw [this] at hb; cases hb) s1 (hk.trans k1), fun hb => ?_⟩
      have hsome : (chI x.1 n).isSome = true := by simpa using hb
      obtain ⟨r, hr⟩ := Option.isSome_iff_exists.1 hsome
      have ov' : OSl w0 1 ON s1 F v r := by
        rcases ov with h | h
        · rw [hr] at h; exact h
        · rw [hr] at h; cases h
      have hch := (chOf_spec hr).1
      have hlt := lsOf_take (c := chI x.1) hx
      rw [hr, Option.getD_some] at hlt
      have os1 := os.frame (ok_bo w0) (k1.but_at fun i hi => (os.dom (ok_bo w0) i hi).2)
      have hFb : ∀ i, i ∈ F → i ∉ [b] := fun i hi hi' => (os.dom (ok_bo w0) i hi').2 (fv i hi)
      rw [(ov'.rel (ok_n w0)).len]
      refine loop_rule (m := r.length) (fun c' l' s' => ∃ k : Nat, c' + k = r.length ∧ KeepsBut [b] s1 s' ∧ (lsOf (chI x.1) (x.2.take j) ++ r.take k).Nodup ∧ OSl w0 1 OBo s' [b] (.slice (some ⟨b, 0, none⟩) 96 96) (inL 96 (lsOf (chI x.1) (x.2.take j) ++ r.take k)) ∧
        l' = [.bool false, .pointer (some ⟨b, 0, none⟩), w, .int .i64 x.2.length, .int .i64 (j : Nat), v, .int .i64 r.length, .int .i64 (k : Nat), u, w]) ?_ ⟨0, by omega, KeepsBut.refl _ _, by simpa using hnd, by simpa using os1, rfl⟩
      rintro c' l' s' L' ⟨k, hc', kb, hnd', os', rfl⟩ hL'
      simp only [vget, List.getD_cons_zero, List.getD_cons_succ]
      have hks' : Keeps σ s' := kb.old (hk.trans k1) hF0
      have ov2 := ov'.frame (ok_n w0) (kb.at (fun i hi => (ov'.dom (ok_n w0) i hi).2) hFb)
      have rv := ov2.rel (ok_n w0)
      have rl := ov'.1
      rw [pBin_lt, pIf_d]
      refine ⟨fun hkl => ?_, fun hkl => ?_⟩
      · have hrk := List.getElem?_eq_getElem (show k < r.length by omega)
        generalize hrki : r[k]'(by omega) = p at hrk
        have hp96 : p < 96 := by rw [← h96]; exact ch_lt hch (List.mem_of_getElem? hrk)
        refine n_at rv hrk fun g hg => ?_
        rw [hg]
        refine arr_idx ?_
        refine bool_at (os'.rel (ok_bo w0)) (inL_get hp96) fun g' hg' => ?_
        rw [hg', pIf_d]
        have htk : r.take (k + 1) = r.take k ++ [p] := by rw [List.take_add_one, hrk]; rfl
        refine ⟨fun hm => no (fun hk => ?_) s' hks', fun hm => ?_⟩
        · have hn2 := lsOf_pre (j := j + 1) hk.2.2.2.1
          rw [hlt] at hn2
          have e : r = r.take (k + 1) ++ r.drop (k + 1) := (List.take_append_drop _ _).symm
          rw [e, htk] at hn2
          rw [show ∀ (A B C D : List Nat), A ++ (B ++ C ++ D) = (A ++ B) ++ (C ++ D) by intros; simp] at hn2
          exact (List.nodup_append.1 hn2).2.2 p hm p (by simp) rfl
        · refine arr_idx ?_
          refine bool_store os' (inL_get hp96) fun s2 k2 o2 => ?_
          rw [pBin_add (by omega)]
          rw [inL_set hp96, List.append_assoc, ← htk] at o2
          refine hL' _ _ (c' - 1) (by omega) ⟨k + 1, by omega, kb.trans k2, ?_, o2, rfl⟩
          rw [htk, ← List.append_assoc]
          exact List.nodup_append.2 ⟨hnd', by simp, fun a ha d hd e => by rw [List.mem_singleton.1 hd] at e; exact hm (e ▸ ha)⟩
      · have hkr : k = r.length := by omega
        subst hkr
        rw [List.take_length, ← hlt] at hnd' os'
        show pBin Try.prog 3 .add _ _ _
        rw [pBin_add (by omega)]
        refine hL _ _ (c - 1) (by omega) ⟨j + 1, by omega, hks', fun i m hi he => ?_, hnd', os', rfl⟩
        by_cases e : i = j
        · subst e
          rw [hx] at he; cases he
          exact ⟨⟨hname, hprev, hin⟩, hsome⟩
        · exact hdone i m (by omega) he
  · have hjl : j = x.2.length := by omega
    subst hjl
    rw [List.take_length] at hnd os
    show pLen u _
    have hus0 := hu.mono hk.le fun _ _ h => h
    rw [hus0.len, h96]
    have ob := os.rel (ok_bo w0)
    refine loop_rule (m := 96) (fun c' l' s' => ∃ k : Nat, c' + k = 96 ∧ s' = s ∧ (∀ (i : Nat) (p : Pg), i < k → x.1[i]? = some p → i ∉ lsOf (chI x.1) x.2 → p.used = false ∧ p.data = ⟨#[]⟩ ∧ p.next = -1) ∧
      l' = [.bool false, .pointer (some ⟨b, 0, none⟩), u, .int .i64 96, .int .i64 (k : Nat)]) ?_ ⟨0, by omega, rfl, fun i p h => by omega, rfl⟩
    rintro c' l' s' L' ⟨k, hc', rfl, hd, rfl⟩ hL'
    simp only [vget, List.getD_cons_zero, List.getD_cons_succ]
    have hus := hu.mono hk.le fun _ _ h => h
    rw [pBin_lt, pIf_d]
    refine ⟨fun hk96 => ?_, fun hk96 => ?_⟩
    · have hx := List.getElem?_eq_getElem (show k < x.1.length by omega)
      generalize hxk : x.1[k]'(by omega) = p at hx
      refine pg_at hus hx fun g hg0 hg1 hg2 hgood => ?_
      rw [hg0, hg1, hg2, pVal_3 rfl rfl rfl]
      refine arr_idx ?_
      refine bool_at ob (inL_get (show k < 96 by omega)) fun g' hg' => ?_
      have next : (k ∉ lsOf (chI x.1) x.2 → p.used = false ∧ p.data = ⟨#[]⟩ ∧ p.next = -1) → pBin Try.prog 3 .add (.int .i64 (k : Nat)) (.int .i64 1) (fun v99 => L' [.bool false, .pointer (some ⟨b, 0, none⟩), u, .int .i64 96, v99] s') := fun hz => by
        rw [pBin_add (by omega)]
        refine hL' _ _ (c' - 1) (by omega) ⟨k + 1, by omega, rfl, fun i q hi hq => ?_, rfl⟩
        by_cases e : i = k
        · subst e; rw [hx] at hq; cases hq
          exact hz
        · exact hd i q (by omega) hq
      rw [hg', pUn_not, pIf_b]
      refine ⟨fun hb => ?_, fun hb => next fun hn => by simp [hn] at hb⟩
      have hni : k ∉ lsOf (chI x.1) x.2 := by simpa using hb
      rw [pIf_b]
      refine ⟨fun hu => no (fun hk => by rw [(hk.2.2.2.2 k p hx hni).1] at hu; cases hu) s' (by assumption), fun hu => ?_⟩
      rw [pBin_sne, pIf_d]
      refine ⟨fun hne => no (fun hk => hne (hk.2.2.2.2 k p hx hni).2.1) s' (by assumption), fun heq => ?_⟩
      rw [pBin_ne, pIf_d]
      refine ⟨fun hne => no (fun hk => hne (hk.2.2.2.2 k p hx hni).2.2) s' (by assumption), fun heq2 => ?_⟩
      exact next fun _ => ⟨hu, Decidable.not_not.1 heq, Decidable.not_not.1 heq2⟩
    · have := hR s' (by assumption)
      have hok : OkI x := ⟨h96, h16, fun i n he => hdone i n (List.getElem?_eq_some_iff.1 he).1 he, hnd, fun i p hp => hd i p (by have := (List.getElem?_eq_some_iff.1 hp).1; omega) hp⟩
      simpa [hok] using this

/-- How many pages are free. -/
def freeN (ps : List Pg) : Nat := sumBy (fun p => if p.used = true then 0 else 1) ps
theorem freeN_le (ps : List Pg) : freeN ps ≤ ps.length := by
  induction ps with
  | nil => simp [freeN, sumBy]
  | cons a r ih => unfold freeN at *; simp only [sumBy, List.length_cons]; split <;> omega

theorem spec_Free {es : List Value} {x : Pgs} (h : RPgs (Av.get w0 σ) es x) (hl : x.1.length ≤ 1000000000000) {R : Value → Vw → Prop} (hR : R (.int .i64 (freeN x.1 : Nat)) σ) : AC Try.prog w0 n_spec_l32Free [.agg ⟨es⟩] σ R := by
  refine ac_spec_l32Free ?_
  unfold vc_spec_l32Free
  rw [h.two]
  obtain ⟨u, w, rfl, hu, hw⟩ := h
  simp only [cellOf_agg, List.getD_cons_zero, List.getD_cons_succ]
  have hle := freeN_le x.1
  refine loop_rule (m := x.1.length) (fun c l s => ∃ j : Nat, s = σ ∧ c + j = x.1.length ∧ l = [.int .i64 (freeN (x.1.take j) : Nat), .int .i64 (j : Nat), u, w]) ?_ ⟨0, rfl, by omega, by simp [freeN, sumBy]⟩
  rintro c l s L ⟨j, rfl, hc, rfl⟩ hL
  simp only [vget, List.getD_cons_zero, List.getD_cons_succ]
  rw [hu.len, pBin_lt, pIf_d]
  refine ⟨fun hj => ?_, fun hj => ?_⟩
  · have hx := List.getElem?_eq_getElem (show j < x.1.length by omega)
    generalize hxj : x.1[j]'(by omega) = p at hx
    have ht : freeN (x.1.take (j + 1)) = freeN (x.1.take j) + (if p.used = true then 0 else 1) := sumBy_take (f := fun p : Pg => if p.used = true then 0 else 1) hx
    have h2 := freeN_le (x.1.take j)
    rw [List.length_take] at h2
    refine fl_at hu hx 0 (by omega) rfl fun g hg hgood => ?_
    rw [hg, pUn_not, pIf_b]
    refine ⟨fun hb => ?_, fun hb => ?_⟩
    · have hf : p.used = false := by simpa using hb
      rw [pBin_add (by omega), pBin_add (by omega)]
      refine hL _ _ (c - 1) (by omega) ⟨j + 1, rfl, by omega, ?_⟩
      rw [ht, hf]; rfl
    · have hf : p.used = true := by simpa using hb
      rw [pBin_add (by omega)]
      refine hL _ _ (c - 1) (by omega) ⟨j + 1, rfl, by omega, ?_⟩
      rw [ht, hf]; rfl
  · have hj' : j = x.1.length := by omega
    subst hj'
    rw [List.take_length]
    exact hR

theorem impl_Free {es : List Value} {x : Pgs} (h : RPgs (Av.get w0 σ) es x) (hl : x.1.length ≤ 1000000000000) {R : Value → Vw → Prop} (hR : R (.int .i64 (freeN x.1 : Nat)) σ) : AC Try.prog w0 n_impl_Pages_free [.agg ⟨es⟩] σ R := by
  refine ac_impl_Pages_free ?_
  unfold vc_impl_Pages_free
  rw [h.two]
  obtain ⟨u, w, rfl, hu, hw⟩ := h
  simp only [cellOf_agg, List.getD_cons_zero, List.getD_cons_succ]
  have hle := freeN_le x.1
  rw [hu.len]
  refine loop_rule (m := x.1.length) (fun c l s => ∃ j : Nat, s = σ ∧ c + j = x.1.length ∧ l = [.int .i64 (freeN (x.1.take j) : Nat), u, .int .i64 x.1.length, .int .i64 (j : Nat)]) ?_ ⟨0, rfl, by omega, by simp [freeN, sumBy]⟩
  rintro c l s L ⟨j, rfl, hc, rfl⟩ hL
  simp only [vget, List.getD_cons_zero, List.getD_cons_succ]
  rw [pBin_lt, pIf_d]
  refine ⟨fun hj => ?_, fun hj => ?_⟩
  · have hx := List.getElem?_eq_getElem (show j < x.1.length by omega)
    generalize hxj : x.1[j]'(by omega) = p at hx
    have ht : freeN (x.1.take (j + 1)) = freeN (x.1.take j) + (if p.used = true then 0 else 1) := sumBy_take (f := fun p : Pg => if p.used = true then 0 else 1) hx
    have h2 := freeN_le (x.1.take j)
    rw [List.length_take] at h2
    refine pg_at hu hx fun g hg0 hg1 hg2 hgood => ?_
    rw [hg0, hg1, hg2, pVal_3 rfl rfl rfl, pUn_not, pIf_b]
    refine ⟨fun hb => ?_, fun hb => ?_⟩
    · have hf : p.used = false := by simpa using hb
      rw [pBin_add (by omega), pBin_add (by omega)]
      refine hL _ _ (c - 1) (by omega) ⟨j + 1, rfl, by omega, ?_⟩
      rw [ht, hf]; rfl
    · have hf : p.used = true := by simpa using hb
      rw [pBin_add (by omega)]
      refine hL _ _ (c - 1) (by omega) ⟨j + 1, rfl, by omega, ?_⟩
      rw [ht, hf]; rfl
  · have hj' : j = x.1.length := by omega
    subst hj'
    rw [List.take_length]
    exact hR
end
end Go.Proofs.Ytlfnfpdipghdiaa

/- Pages: size, copy, comparison; the laws 'PagesOk' and 'PagesFree', of the functions alone; how pages are opened. -/
set_option linter.unusedVariables false
set_option linter.unusedSimpArgs false
namespace Go.Proofs.Ytlfnfpdipghdiaa
open Go Go.Av Go.RowKit

section
variable {w0 : World} {σ : Vw}

theorem ok_pgs (w0 : World) : OOk w0 2 RPgs (OPgs w0) := by
  refine ⟨?_, ?_, ?_, ?_, ?_, ?_⟩
  · rintro σ F es x ⟨u, v, F1, F2, h1, h2, h3, h4, h5⟩; exact ⟨u, v, h1, h2.rel (ok_pg w0), h3.rel (ok_pn w0)⟩
  · rintro σ σ' F es x ⟨u, v, F1, F2, h1, h2, h3, rfl, h5⟩ hF
    exact ⟨u, v, F1, F2, h1, h2.frame (ok_pg w0) fun b hb => hF b (List.mem_append_left _ hb), h3.frame (ok_pn w0) fun b hb => hF b (List.mem_append_right _ hb), rfl, h5⟩
  · rintro σ F es x ⟨u, v, F1, F2, h1, h2, h3, rfl, h5⟩ b hb
    rcases List.mem_append.1 hb with h | h
    · exact h2.dom (ok_pg w0) b h
    · exact h3.dom (ok_pn w0) b h
  · rintro σ F es x ⟨u, v, F1, F2, h1, h2, h3, h4, h5⟩; exact h5
  · rintro σ F es x ⟨u, v, F1, F2, rfl, h2, h3, h4, h5⟩; rfl
  · rintro σ F es x ⟨u, v, F1, F2, rfl, h2, h3, h4, h5⟩ c hc
    simp at hc
    rcases hc with rfl | rfl
    · exact OSl.one' h2
    · exact OSl.one' h3

end

end Go.Proofs.Ytlfnfpdipghdiaa

/- The laws 'PagesOk' and 'PagesFree', of the functions alone. -/
set_option linter.unusedVariables false
set_option linter.unusedSimpArgs false
namespace Go.Proofs.Ytlfnfpdipghdiaa
open Go Go.Av

section
variable {w0 : World} {σ : Vw}

noncomputable def pagesFree (x : Pgs) : Int := if pagesOk x = true then freeN x.1 else 0

theorem RPgs.pair {rd : Addr → Option Value} {es : List Value} {x : Pgs} (h : RPgs rd es x) : ∃ a b, es = [a, b] := by
  obtain ⟨u, v, rfl, _⟩ := h
  exact ⟨u, v, rfl⟩

theorem impl_PagesFree {es : List Value} {x : Pgs} (h : RPgs (Av.get w0 σ) es x) (hl : x.1.length ≤ 1000000000000) {R : Value → Vw → Prop} (hR : ∀ σ', Keeps σ σ' → R (.int .i64 (pagesFree x)) σ') : AC Try.prog w0 n_impl_PagesFree [.agg ⟨es⟩] σ R := by
  have h0 := h
  refine ac_impl_PagesFree ?_
  unfold vc_impl_PagesFree
  rw [h.two]
  obtain ⟨a, b, rfl⟩ := h.pair
  simp only [cellOf_agg, List.getD_cons_zero, List.getD_cons_succ]
  refine impl_PagesOk h0 fun s1 k1 => ?_
  have hR1 := hR s1 k1
  rw [pUn_not, pIf_b]
  refine ⟨fun hn => by simp at hn; simpa [pagesFree, hn] using hR1, fun hn => ?_⟩
  refine impl_Free (mono_pgs k1.le h0) hl ?_
  simp at hn
  simpa [pagesFree, hn] using hR1

end
end Go.Proofs.Ytlfnfpdipghdiaa
