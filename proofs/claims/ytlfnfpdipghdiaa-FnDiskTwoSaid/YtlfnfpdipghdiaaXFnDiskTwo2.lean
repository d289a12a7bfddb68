/- The law FnDiskTwo holds: it returns true, and the input reads as it did. No condition. This is part 2 of 3 of its proof. -/
import Derived.Test.YtlfnfpdipghdiaaXFnDiskTwo1
import Derived.IntWalk
import Derived.ChangeArms
import Derived.WideShapes
import Derived.ProofKit
import Derived.Below
import Derived.Test.YtlfnfpdipghdiaaProg
import Derived.Lib.AppendIntMem

/- The plain side, part 1: the operations at known values; loops; what is read in a slice. -/
set_option linter.unusedVariables false
set_option linter.unusedSimpArgs false
namespace Go.Av
open Go Go.RowKit IntWalk

section
variable {P : Program} {w0 : World} {σ σ' : Vw}

/-! ### The operations at known values -/
theorem pIf_b {b : Bool} {A B : Prop} : pIf (.bool b) A B ↔ (b = true → A) ∧ (b = false → B) :=
  ⟨fun ⟨c, h, h1, h2⟩ => by cases h; exact ⟨h1, h2⟩, fun ⟨h1, h2⟩ => ⟨b, rfl, h1, h2⟩⟩
theorem pIf_d {p : Prop} [Decidable p] {A B : Prop} : pIf (.bool (decide p)) A B ↔ (p → A) ∧ (¬ p → B) := by
  rw [pIf_b]; simp
theorem pLen_s {A : Option Addr} {n c : Nat} {K : Value → Prop} : pLen (.slice A n c) K ↔ K (.int .i64 n) :=
  ⟨fun ⟨_, _, _, h, hK⟩ => by cases h; exact hK, fun h => ⟨_, _, _, rfl, h⟩⟩
theorem pLenS_s {s : ByteArray} {K : Value → Prop} : pLenS (.string s) K ↔ K (.int .i64 s.size) :=
  ⟨fun ⟨_, h, hK⟩ => by cases h; exact hK, fun h => ⟨_, rfl, h⟩⟩
theorem pField_s {o : Nat} {a : Addr} {K : Value → Prop} : pField o (.pointer (some a)) K ↔ K (.pointer (some (a.add o))) :=
  ⟨fun ⟨_, h, hK⟩ => by cases h; exact hK, fun h => ⟨_, rfl, h⟩⟩
theorem pUn_not {b : Bool} {K : Value → Prop} : pUn .not (.bool b) K ↔ K (.bool !b) :=
  ⟨fun ⟨_, h, hK⟩ => by simp only [aun, Option.some.injEq] at h; subst h; exact hK, fun h => ⟨_, rfl, h⟩⟩
theorem pBin_i {T : Nat} {op : BinOp} {k : IntKind} {a b : Int} {v : Value} {K : Value → Prop} (h : aint op k a b = some v) : pBin P T op (.int k a) (.int k b) K ↔ K v := by
  have e : abinT P T op (.int k a) (.int k b) = some v := by unfold abinT; simp only [if_true]; exact h
  exact ⟨fun ⟨_, h, hK⟩ => by rw [e] at h; cases h; exact hK, fun h => ⟨_, e, h⟩⟩
theorem pBin_lt {T : Nat} {k : IntKind} {a b : Int} {K : Value → Prop} : pBin P T .lss (.int k a) (.int k b) K ↔ K (.bool (decide (a < b))) := pBin_i rfl
theorem pBin_le {T : Nat} {k : IntKind} {a b : Int} {K : Value → Prop} : pBin P T .leq (.int k a) (.int k b) K ↔ K (.bool (decide (a ≤ b))) := pBin_i rfl
theorem pBin_gt {T : Nat} {k : IntKind} {a b : Int} {K : Value → Prop} : pBin P T .gtr (.int k a) (.int k b) K ↔ K (.bool (decide (b < a))) := pBin_i rfl
theorem pBin_ge {T : Nat} {k : IntKind} {a b : Int} {K : Value → Prop} : pBin P T .geq (.int k a) (.int k b) K ↔ K (.bool (decide (b ≤ a))) := pBin_i rfl
theorem pBin_eq {T : Nat} {k : IntKind} {a b : Int} {K : Value → Prop} : pBin P T .eql (.int k a) (.int k b) K ↔ K (.bool (decide (a = b))) := pBin_i rfl
theorem pBin_ne {T : Nat} {k : IntKind} {a b : Int} {K : Value → Prop} : pBin P T .neq (.int k a) (.int k b) K ↔ K (.bool (decide (a ≠ b))) :=
  pBin_i (by simp only [aint, bne, Option.some.injEq, Value.bool.injEq]; by_cases h : a = b <;> simp [h])
theorem pBin_add {T : Nat} {a b : Int} {K : Value → Prop} (h : -9223372036854775808 ≤ a + b ∧ a + b ≤ 9223372036854775807) : pBin P T .add (.int .i64 a) (.int .i64 b) K ↔ K (.int .i64 (a + b)) :=
  pBin_i (by simp only [aint, i64_in _ h])
theorem pBin_sub {T : Nat} {a b : Int} {K : Value → Prop} (h : -9223372036854775808 ≤ a - b ∧ a - b ≤ 9223372036854775807) : pBin P T .sub (.int .i64 a) (.int .i64 b) K ↔ K (.int .i64 (a - b)) :=
  pBin_i (by simp only [aint, i64_in _ h])
theorem pBin_mul {T : Nat} {a b : Int} {K : Value → Prop} (h : -9223372036854775808 ≤ a * b ∧ a * b ≤ 9223372036854775807) : pBin P T .mul (.int .i64 a) (.int .i64 b) K ↔ K (.int .i64 (a * b)) :=
  pBin_i (by simp only [aint, i64_in _ h])

theorem bytes_inj {a b : ByteArray} (h : a.toList = b.toList) : a = b := by
  rw [ByteArray.toList_eq, ByteArray.toList_eq] at h
  cases a; cases b
  simp only [ByteArray.mk.injEq]
  exact Array.toList_inj.1 h
theorem toList_eq {a b : ByteArray} : (a.toList == b.toList) = decide (a = b) := by
  have : a.toList = b.toList ↔ a = b := ⟨fun h => Go.Av.bytes_inj h, fun h => by rw [h]⟩
  by_cases h : a = b
  · subst h; simp
  · have h' : ¬ a.toList = b.toList := fun e => h (this.1 e)
    simp [h, h']
theorem pBin_s {T : Nat} {op : BinOp} {a b : ByteArray} {v : Value} {K : Value → Prop} (h : astr op a b = some v) : pBin P T op (.string a) (.string b) K ↔ K v :=
  ⟨fun ⟨_, h', hK⟩ => by rw [show abinT P T op (.string a) (.string b) = some v from h] at h'; cases h'; exact hK, fun hK => ⟨_, h, hK⟩⟩
theorem pBin_seq {T : Nat} {a b : ByteArray} {K : Value → Prop} : pBin P T .eql (.string a) (.string b) K ↔ K (.bool (decide (a = b))) := pBin_s (by simp only [astr, toList_eq])
theorem pBin_sne {T : Nat} {a b : ByteArray} {K : Value → Prop} : pBin P T .neq (.string a) (.string b) K ↔ K (.bool (decide (a ≠ b))) := pBin_s (by simp only [astr, toList_eq]; simp)
theorem pVal1 {n : Nat} {v : Value} {A : Prop} (h : v.oneCell' = true) : pVal false n v A ↔ A := ⟨fun h => h.2, fun hA => ⟨h, hA⟩⟩
theorem pValN {n : Nat} {cs : List Value} {A : Prop} (hl : cs.length = n) (h : ∀ c, c ∈ cs → c.oneCell' = true) : pVal true n (.agg ⟨cs⟩) A ↔ A := ⟨fun h => h.2, fun hA => ⟨⟨cs, rfl, hl, h⟩, hA⟩⟩
theorem cellOf_agg {cs : List Value} {i : Nat} : cellOf (.agg ⟨cs⟩) i = cs.getD i undef := rfl
theorem pStr1 {b : Nat} {K : Value → Prop} {n : Int} {c : Nat} (h : Av.get w0 σ ⟨b, 0, none⟩ = some (.int .u8 n)) (hK : K (.string (strOfNums [n]))) : pStr w0 (.slice (some ⟨b, 0, none⟩) 1 c) σ K :=
  .inr ⟨b, 0, 1, c, [n], rfl, rfl, (fun j hj => by
    have e : j = 0 := by omega
    subst e
    exact h), hK⟩

/-! ### Loops -/
theorem loop_rule {B : List Value → (AX → List Value → Vw → Prop) → Vw → Prop} {K : AX → List Value → Vw → Prop} (I : Nat → List Value → Vw → Prop)
    (step : ∀ m vs σ (L : List Value → Vw → Prop), I m vs σ → (∀ vs' σ', ∀ m', m' + 1 = m → I m' vs' σ' → L vs' σ') → B vs (fun e vs' σ' => match e with | .normal => L vs' σ' | .exit i => K (.exit i) vs' σ' | .ret => K .ret vs' σ') σ)
    {m : Nat} {vs : List Value} (h : I m vs σ) : pLoop B vs σ K := by
  refine ⟨m + 1, ?_⟩
  induction m generalizing vs σ with
  | zero => exact step 0 vs σ _ h (fun vs' σ' m' e => by omega)
  | succ m ih =>
    refine step (m + 1) vs σ _ h (fun vs' σ' m' e hI => ?_)
    have e : m' = m := by omega
    subst e
    exact ih hI

/-! ### Reading -/
theorem add_add (a : Addr) (i j : Nat) : (a.add i).add j = a.add (i + j) := by
  unfold Addr.add
  by_cases hi : i = 0
  · simp [hi]
  · by_cases hj : j = 0
    · simp [hj]
    · have : i + j ≠ 0 := by omega
      simp [hi, hj, this, Nat.add_assoc]

/-- A reader that reads no less. -/
def Le (rd rd' : Addr → Option Value) : Prop := ∀ a v, rd a = some v → rd' a = some v
theorem Ext.le (hx : Ext σ σ') : Le (Av.get w0 σ) (Av.get w0 σ') := fun _ _ h => get_ext hx h

/-- What is read behind a slice: xs, each of n cells. -/
def RSl {α : Type} (n : Nat) (R : (Addr → Option Value) → List Value → α → Prop) (rd : Addr → Option Value) (v : Value) (xs : List α) : Prop :=
  ∃ A cap, v = .slice A xs.length cap ∧ (xs.length ≤ cap ∧ cap ≤ 9223372036854775807) ∧ ∀ (j : Nat) (x : α), xs[j]? = some x → ∃ a es, A = some a ∧ es.length = n ∧ (∀ i, i < n → rd (a.add (j * n + i)) = es[i]?) ∧ R rd es x

theorem RSl.mono {α : Type} {n : Nat} {R : (Addr → Option Value) → List Value → α → Prop} {rd rd' : Addr → Option Value} {v : Value} {xs : List α} (h : RSl n R rd v xs) (hx : Le rd rd') (hR : ∀ es x, R rd es x → R rd' es x) : RSl n R rd' v xs := by
  obtain ⟨A, cap, h1, h2, h3⟩ := h
  refine ⟨A, cap, h1, h2, fun j x hj => ?_⟩
  obtain ⟨a, es, h4, h5, h6, h7⟩ := h3 j x hj
  refine ⟨a, es, h4, h5, fun i hi => ?_, hR _ _ h7⟩
  have := h6 i hi
  have hlt : i < es.length := by omega
  rw [List.getElem?_eq_getElem hlt] at this ⊢
  exact hx _ _ this

theorem RSl.len {α : Type} {n : Nat} {R : (Addr → Option Value) → List Value → α → Prop} {rd : Addr → Option Value} {v : Value} {xs : List α} (h : RSl n R rd v xs) {K : Value → Prop} : pLen v K ↔ K (.int .i64 xs.length) := by
  obtain ⟨A, cap, rfl, _⟩ := h
  exact pLen_s

/-- An element is read. -/
theorem RSl.at {α : Type} {n : Nat} {R : (Addr → Option Value) → List Value → α → Prop} {v : Value} {xs : List α} (h : RSl n R (Av.get w0 σ) v xs) {j : Nat} {x : α} (hj : xs[j]? = some x) {K : (Nat → Value) → Prop} (hK : ∀ g : Nat → Value, R (Av.get w0 σ) (expl g 0 n) x → K g) :
    pIndexAddr n v (.int .i64 j) fun p => pLoad w0 n p σ K := by
  obtain ⟨A, cap, rfl, _, h3⟩ := h
  obtain ⟨a, es, rfl, h5, h6, h7⟩ := h3 j x hj
  have hlt : j < xs.length := (List.getElem?_eq_some_iff.1 hj).1
  refine ⟨a, xs.length, cap, .i64, j, rfl, rfl, by omega, by omega, a.add (j * n), fun i => es.getD i undef, rfl, fun i hi => ?_, hK _ ?_⟩
  · have := h6 i hi
    have hlt : i < es.length := by omega
    rw [add_add, this, List.getElem?_eq_getElem hlt]
    simp only [List.getD_eq_getElem?_getD, List.getElem?_eq_getElem hlt, Option.getD_some]
  · have : expl (fun i => es.getD i undef) 0 n = es := by
      apply List.ext_getElem?
      intro i
      by_cases hi : i < n
      · rw [expl_get _ _ _ _ hi, Nat.zero_add, List.getD_eq_getElem?_getD]
        have hlt : i < es.length := by omega
        rw [List.getElem?_eq_getElem hlt]; rfl
      · rw [List.getElem?_eq_none (by rw [length_expl]; omega), List.getElem?_eq_none (by omega)]
    rw [this]; exact h7

/-- A text. -/
def RS (rd : Addr → Option Value) (cs : List Value) (s : ByteArray) : Prop := cs = [.string s] ∧ s.size ≤ 9223372036854775807
end
end Go.Av

/- The plain side, part 2: rows of our own. -/
set_option linter.unusedVariables false
set_option linter.unusedSimpArgs false
namespace Go.Av
open Go Go.RowKit

/-- Every row stays as it is; there may be new ones. -/
def Keeps (σ σ' : Vw) : Prop := ∀ b r, σ b = some r → σ' b = some r
theorem Keeps.refl (σ : Vw) : Keeps σ σ := fun _ _ h => h
theorem Keeps.trans {σ σ' σ'' : Vw} (h : Keeps σ σ') (h' : Keeps σ' σ'') : Keeps σ σ'' := fun b r hb => h' b r (h b r hb)
theorem Keeps.ext {σ σ' : Vw} (h : Keeps σ σ') : Ext σ σ' := fun b r hb => ⟨r, h b r hb, List.prefix_refl _⟩
theorem Keeps.le {w0 : World} {σ σ' : Vw} (h : Keeps σ σ') : Le (Av.get w0 σ) (Av.get w0 σ') := h.ext.le
theorem Keeps.put {σ : Vw} {b : Nat} {r : Row} (h : σ b = none) : Keeps σ (σ.put b r) := fun i x hi => by
  have : i ≠ b := fun e => by rw [e, h] at hi; cases hi
  simp [Vw.put, this, hi]
theorem put_at {σ : Vw} {b : Nat} {r : Row} : σ.put b r b = some r := by simp [Vw.put]
theorem get_row {w0 : World} {σ : Vw} {b off : Nat} {r : Row} (hb : w0.heap.size ≤ b) (h : σ b = some r) : Av.get w0 σ ⟨b, off, none⟩ = r.cells[off]? := by
  unfold Av.get
  simp only
  rw [if_neg (by omega), if_pos trivial, h]; rfl

theorem addr_add (b off i : Nat) : (Addr.mk b off none).add i = ⟨b, off + i, none⟩ := by
  unfold Addr.add
  split
  · rename_i h; subst h; rfl
  · rfl

section
variable {w0 : World} {σ : Vw}

theorem flat_len {n : Nat} : ∀ (xs : List (List Value)), (∀ c, c ∈ xs → c.length = n) → xs.flatten.length = xs.length * n
  | [], _ => by simp
  | c :: r, h => by
    have := flat_len r (fun d hd => h d (List.mem_cons_of_mem _ hd))
    simp only [List.flatten_cons, List.length_append, List.length_cons, this, h c List.mem_cons_self]
    rw [Nat.add_mul, Nat.one_mul, Nat.add_comm]

theorem flat_get {n : Nat} : ∀ (xs : List (List Value)), (∀ c, c ∈ xs → c.length = n) → ∀ (j : Nat) (c : List Value), xs[j]? = some c → ∀ i, i < n → xs.flatten[j * n + i]? = c[i]?
  | [], _, j, c, hj, i, hi => by simp at hj
  | d :: r, h, 0, c, hj, i, hi => by
    simp at hj; subst hj
    have := h d List.mem_cons_self
    rw [List.flatten_cons, Nat.zero_mul, Nat.zero_add, List.getElem?_append_left (by omega)]
  | d :: r, h, j + 1, c, hj, i, hi => by
    have hd := h d List.mem_cons_self
    rw [List.flatten_cons, Nat.add_mul, Nat.one_mul, List.getElem?_append_right (by omega)]
    have := flat_get r (fun d hd => h d (List.mem_cons_of_mem _ hd)) j c (by simpa using hj) i hi
    rw [← this]
    congr 1
    omega

theorem RSl.one {α : Type} {n : Nat} {R : (Addr → Option Value) → List Value → α → Prop} {rd : Addr → Option Value} {v : Value} {xs : List α} (h : RSl n R rd v xs) : v.oneCell' = true := by
  obtain ⟨A, cap, rfl, _⟩ := h
  rfl
theorem RSl.le {α : Type} {n : Nat} {R : (Addr → Option Value) → List Value → α → Prop} {rd : Addr → Option Value} {v : Value} {xs : List α} (h : RSl n R rd v xs) : xs.length ≤ 9223372036854775807 := by
  obtain ⟨_, _, _, h2, _⟩ := h; exact Nat.le_trans h2.1 h2.2
theorem pVal_1 {v : Value} {A : Prop} (h : v.oneCell' = true) : pVal true 1 (.agg ⟨[v]⟩) A ↔ A := pValN rfl (by simpa using h)
theorem pVal_2 {v v' : Value} {A : Prop} (h : v.oneCell' = true) (h' : v'.oneCell' = true) : pVal true 2 (.agg ⟨[v, v']⟩) A ↔ A := pValN rfl (by simp [h, h'])
theorem pVal_3 {v v' v'' : Value} {A : Prop} (h : v.oneCell' = true) (h' : v'.oneCell' = true) (h'' : v''.oneCell' = true) : pVal true 3 (.agg ⟨[v, v', v'']⟩) A ↔ A := pValN rfl (by simp [h, h', h''])

end
end Go.Av

/- The lists of structs, whatever their element: their size, their comparison. -/
set_option linter.unusedVariables false
set_option linter.unusedSimpArgs false
namespace Go.Av
open Go Go.RowKit

def sumBy {α : Type} (f : α → Nat) : List α → Nat
  | [] => 0
  | s :: r => f s + sumBy f r
theorem sumBy_take {α : Type} {f : α → Nat} {xs : List α} : ∀ {j : Nat} {x : α}, xs[j]? = some x → sumBy f (xs.take (j + 1)) = sumBy f (xs.take j) + f x := by
  induction xs with
  | nil => intro j x h; simp at h
  | cons a r ih =>
    intro j x h
    cases j with
    | zero => simp at h; subst h; simp [sumBy]
    | succ j =>
      simp at h
      have := ih h
      simp only [List.take_succ_cons, sumBy, this]
      omega
section
variable {P : Program} {w0 : World} {σ : Vw} {α : Type}

end
end Go.Av

/- Lists that lie in rows of our own, each part in rows of its own; the copy of a list of structs. -/
set_option linter.unusedVariables false
set_option linter.unusedSimpArgs false
namespace Go.Av
open Go Go.RowKit

section
variable {P : Program} {w0 : World} {σ σ' : Vw} {α : Type}

/-- What a rule for parts in rows of our own must keep. -/
structure OOk (w0 : World) (n : Nat) (Rel : (Addr → Option Value) → List Value → α → Prop) (O : Vw → List Nat → List Value → α → Prop) : Prop where
  rel : ∀ σ F es x, O σ F es x → Rel (Av.get w0 σ) es x
  frame : ∀ σ σ' F es x, O σ F es x → (∀ b, b ∈ F → σ' b = σ b) → O σ' F es x
  dom : ∀ σ F es x, O σ F es x → ∀ b, b ∈ F → w0.heap.size ≤ b ∧ σ b ≠ none
  nodup : ∀ σ F es x, O σ F es x → F.Nodup
  len : ∀ σ F es x, O σ F es x → es.length = n
  one : ∀ σ F es x, O σ F es x → ∀ c, c ∈ es → c.oneCell' = true

/-- A list in a row of our own, the elements' own parts in other rows. -/
def OSl (w0 : World) (n : Nat) (O : Vw → List Nat → List Value → α → Prop) (σ : Vw) (F : List Nat) (v : Value) (xs : List α) : Prop :=
  xs.length ≤ 9223372036854775807 ∧ F.Nodup ∧ ((v = .slice none 0 0 ∧ xs = [] ∧ F = []) ∨
  ∃ (b off cap : Nat) (r : Row) (pre post : List Value) (css : List (List Value)) (Fs : List (List Nat)), v = .slice (some ⟨b, off, none⟩) xs.length cap ∧ (xs.length ≤ cap ∧ cap ≤ 9223372036854775807) ∧ w0.heap.size ≤ b ∧ σ b = some r ∧ r.cells = pre ++ (css.flatten ++ post) ∧ pre.length = off ∧
    css.length = xs.length ∧ Fs.length = xs.length ∧ F = b :: Fs.flatten ∧ ∀ (j : Nat) (c : List Value) (x : α) (f : List Nat), css[j]? = some c → xs[j]? = some x → Fs[j]? = some f → O σ f c x)

theorem mem_flat {l : List (List Nat)} {b : Nat} (h : b ∈ l.flatten) : ∃ (j : Nat) (f : List Nat), l[j]? = some f ∧ b ∈ f := by
  obtain ⟨f, h1, h2⟩ := List.mem_flatten.1 h
  obtain ⟨j, hj⟩ := List.getElem?_of_mem h1
  exact ⟨j, f, hj, h2⟩

theorem OSl.frame {n : Nat} {Rel : (Addr → Option Value) → List Value → α → Prop} {O : Vw → List Nat → List Value → α → Prop} (ok : OOk w0 n Rel O) {F : List Nat} {v : Value} {xs : List α} (h : OSl w0 n O σ F v xs) (hF : ∀ b, b ∈ F → σ' b = σ b) : OSl w0 n O σ' F v xs := by
  obtain ⟨h1, h2, h3 | ⟨b, off, cap, r, pre, post, css, Fs, g1, gc, g2, g3, g4, g5, g6, g7, g8, g9⟩⟩ := h
  · exact ⟨h1, h2, .inl h3⟩
  · refine ⟨h1, h2, .inr ⟨b, off, cap, r, pre, post, css, Fs, g1, gc, g2, ?_, g4, g5, g6, g7, g8, fun j c x f e1 e2 e3 => ?_⟩⟩
    · rw [hF b (by rw [g8]; exact List.mem_cons_self)]; exact g3
    · refine ok.frame _ _ _ _ _ (g9 j c x f e1 e2 e3) fun i hi => hF i ?_
      rw [g8]
      exact List.mem_cons_of_mem _ (List.mem_flatten.2 ⟨f, List.mem_of_getElem? e3, hi⟩)

theorem OSl.dom {n : Nat} {Rel : (Addr → Option Value) → List Value → α → Prop} {O : Vw → List Nat → List Value → α → Prop} (ok : OOk w0 n Rel O) {F : List Nat} {v : Value} {xs : List α} (h : OSl w0 n O σ F v xs) : ∀ b, b ∈ F → w0.heap.size ≤ b ∧ σ b ≠ none := by
  obtain ⟨h1, h2, ⟨_, _, h3⟩ | ⟨b, off, cap, r, pre, post, css, Fs, g1, gc, g2, g3, g4, g5, g6, g7, g8, g9⟩⟩ := h
  · rw [h3]; intro b hb; cases hb
  · rw [g8]
    intro i hi
    rcases List.mem_cons.1 hi with e | e
    · rw [e]; exact ⟨g2, by rw [g3]; simp⟩
    · obtain ⟨j, f, e1, e2⟩ := mem_flat e
      have hj : j < Fs.length := (List.getElem?_eq_some_iff.1 e1).1
      exact ok.dom _ _ _ _ (g9 j _ _ f (List.getElem?_eq_getElem (by omega)) (List.getElem?_eq_getElem (by omega)) e1) i e2

theorem OSl.rel {n : Nat} {Rel : (Addr → Option Value) → List Value → α → Prop} {O : Vw → List Nat → List Value → α → Prop} (ok : OOk w0 n Rel O) {F : List Nat} {v : Value} {xs : List α} (h : OSl w0 n O σ F v xs) : RSl n Rel (Av.get w0 σ) v xs := by
  obtain ⟨h1, h2, ⟨rfl, rfl, _⟩ | ⟨b, off, cap, r, pre, post, css, Fs, rfl, gc, g2, g3, g4, g5, g6, g7, g8, g9⟩⟩ := h
  · exact ⟨none, 0, rfl, by simp, fun j x hj => by simp at hj⟩
  · have each : ∀ (j : Nat) (c : List Value), css[j]? = some c → c.length = n := fun j c hj => by
      have hlt : j < css.length := (List.getElem?_eq_some_iff.1 hj).1
      exact ok.len _ _ _ _ (g9 j c _ _ hj (List.getElem?_eq_getElem (by omega)) (List.getElem?_eq_getElem (by omega)))
    have hn : ∀ c, c ∈ css → c.length = n := fun c hc => by obtain ⟨j, hj⟩ := List.getElem?_of_mem hc; exact each j c hj
    refine ⟨_, cap, rfl, gc, fun j x hj => ?_⟩
    have hlt : j < css.length := by have := (List.getElem?_eq_some_iff.1 hj).1; omega
    have hcj := List.getElem?_eq_getElem hlt
    refine ⟨_, css[j], rfl, each j _ hcj, fun i hi => ?_, ok.rel _ _ _ _ (g9 j _ x _ hcj hj (List.getElem?_eq_getElem (by omega)))⟩
    rw [addr_add, get_row g2 g3, g4, List.getElem?_append_right (by omega)]
    rw [show off + (j * n + i) - pre.length = j * n + i by omega, List.getElem?_append_left, flat_get css hn j _ hcj i hi]
    rw [flat_len css hn]
    calc j * n + i < j * n + n := by omega
      _ = (j + 1) * n := by rw [Nat.add_mul, Nat.one_mul]
      _ ≤ css.length * n := Nat.mul_le_mul_right n hlt

end
end Go.Av

/- Lists in rows of our own, written element by element: the focus on one element, and the loops that mark and that look at marks. -/
set_option linter.unusedVariables false
set_option linter.unusedSimpArgs false
namespace Go.Av
open Go Go.RowKit

/-- Every row but those of F stays as it is. -/
def KeepsBut (F : List Nat) (σ σ' : Vw) : Prop := ∀ b r, σ b = some r → b ∉ F → σ' b = some r
theorem KeepsBut.refl (F : List Nat) (σ : Vw) : KeepsBut F σ σ := fun _ _ h _ => h
theorem Keeps.but {F : List Nat} {σ σ' : Vw} (h : Keeps σ σ') : KeepsBut F σ σ' := fun b r hb _ => h b r hb
theorem KeepsBut.trans {F : List Nat} {σ σ' σ'' : Vw} (h : KeepsBut F σ σ') (h' : KeepsBut F σ' σ'') : KeepsBut F σ σ'' := fun b r hb hF => h' b r (h b r hb hF) hF
/-- What is older than F stays. -/
theorem KeepsBut.old {F : List Nat} {σ0 σ σ' : Vw} (h : KeepsBut F σ σ') (h0 : Keeps σ0 σ) (hF : ∀ b, b ∈ F → σ0 b = none) : Keeps σ0 σ' := fun b r hb => h b r (h0 b r hb) fun hb' => by rw [hF b hb'] at hb; cases hb
theorem KeepsBut.at {F G : List Nat} {σ σ' : Vw} (h : KeepsBut F σ σ') (hG : ∀ b, b ∈ G → σ b ≠ none) (hd : ∀ b, b ∈ G → b ∉ F) : ∀ b, b ∈ G → σ' b = σ b := fun b hb => by
  cases hs : σ b with
  | none => exact absurd hs (hG b hb)
  | some r => exact h b r hs (hd b hb)
theorem KeepsBut.put {F : List Nat} {σ : Vw} {b : Nat} {r : Row} (hb : b ∈ F) : KeepsBut F σ (σ.put b r) := fun i x hi hF => by
  have : i ≠ b := fun e => hF (e ▸ hb)
  simp [Vw.put, this, hi]

section
variable {P : Program} {w0 : World} {σ σ' : Vw} {α : Type}

theorem nodup_at {l : List (List Nat)} {i j : Nat} {f g : List Nat} (h : l.flatten.Nodup) (hi : l[i]? = some f) (hj : l[j]? = some g) (hij : i ≠ j) : ∀ b, b ∈ f → b ∉ g := by
  induction l generalizing i j with
  | nil => simp at hi
  | cons a r ih =>
    rw [List.flatten_cons, List.nodup_append] at h
    intro b hb hb'
    cases i with
    | zero =>
      cases j with
      | zero => exact hij rfl
      | succ j =>
        simp at hi hj
        subst hi
        exact h.2.2 b hb b (List.mem_flatten.2 ⟨g, List.mem_of_getElem? hj, hb'⟩) rfl
    | succ i =>
      cases j with
      | zero =>
        simp at hi hj
        subst hj
        exact h.2.2 b hb' b (List.mem_flatten.2 ⟨f, List.mem_of_getElem? hi, hb⟩) rfl
      | succ j =>
        simp at hi hj
        exact ih h.2.1 hi hj (fun e => hij (by rw [e])) b hb hb'

theorem split_at {l : List (List Value)} {j : Nat} {c : List Value} (hj : l[j]? = some c) : l.flatten = (l.take j).flatten ++ (c ++ (l.drop (j + 1)).flatten) := by
  have hlt := (List.getElem?_eq_some_iff.1 hj).1
  have e : l = l.take j ++ (c :: l.drop (j + 1)) := by
    have := List.take_append_drop j l
    rw [List.drop_eq_getElem_cons hlt] at this
    have hc : l[j] = c := (List.getElem?_eq_some_iff.1 hj).2
    rw [hc] at this
    exact this.symm
  calc l.flatten = (l.take j ++ (c :: l.drop (j + 1))).flatten := by rw [← e]
    _ = _ := by rw [List.flatten_append, List.flatten_cons]

/-- One element of a list of our own, and how the list is put together again behind a change of it. -/
theorem OSl.focus {n : Nat} {Rel : (Addr → Option Value) → List Value → α → Prop} {O : Vw → List Nat → List Value → α → Prop} (ok : OOk w0 n Rel O) {F : List Nat} {v : Value} {xs : List α} (h : OSl w0 n O σ F v xs) {j : Nat} {x : α} (hj : xs[j]? = some x) :
    ∃ (b o : Nat) (f : List Nat) (c A C : List Value) (r : Row), (∀ K : Value → Prop, K (.pointer (some ⟨b, o, none⟩)) → pIndexAddr n v (.int .i64 j) K) ∧ w0.heap.size ≤ b ∧ σ b = some r ∧ r.cells = A ++ (c ++ C) ∧ A.length = o ∧ O σ f c x ∧ b ∈ F ∧ (∀ i, i ∈ f → i ∈ F ∧ i ≠ b) ∧
      ∀ (σ' : Vw) (c' : List Value) (x' : α) (r' : Row), σ' b = some r' → r'.cells = A ++ (c' ++ C) → O σ' f c' x' → (∀ i, i ∈ F → i ≠ b → i ∉ f → σ' i = σ i) → OSl w0 n O σ' F v (xs.set j x') := by
  obtain ⟨h1, h2, ⟨rfl, rfl, _⟩ | ⟨b, off, cap, r, pre, post, css, Fs, rfl, gc, g2, g3, g4, g5, g6, g7, g8, g9⟩⟩ := h
  · simp at hj
  have hlt : j < xs.length := (List.getElem?_eq_some_iff.1 hj).1
  have hcj := List.getElem?_eq_getElem (show j < css.length by omega)
  have hfj := List.getElem?_eq_getElem (show j < Fs.length by omega)
  generalize hce : css[j]'(by omega) = c at hcj
  generalize hfe : Fs[j]'(by omega) = f at hfj
  have hO := g9 j c x f hcj hj hfj
  have hn : ∀ c, c ∈ css → c.length = n := fun c hc => by
    obtain ⟨i, hi⟩ := List.getElem?_of_mem hc
    have hil : i < css.length := (List.getElem?_eq_some_iff.1 hi).1
    exact ok.len _ _ _ _ (g9 i c _ _ hi (List.getElem?_eq_getElem (by omega)) (List.getElem?_eq_getElem (by omega)))
  have hA : (pre ++ (css.take j).flatten).length = off + j * n := by
    rw [List.length_append, g5, flat_len _ fun c hc => hn c (List.mem_of_mem_take hc), List.length_take]
    congr 2; omega
  rw [g8] at h2
  have hbf : b ∉ f := fun hb => (List.nodup_cons.1 h2).1 (List.mem_flatten.2 ⟨f, List.mem_of_getElem? hfj, hb⟩)
  refine ⟨b, off + j * n, f, c, pre ++ (css.take j).flatten, (css.drop (j + 1)).flatten ++ post, r, fun K hK => ?_, g2, g3, ?_, hA, hO, by rw [g8]; exact List.mem_cons_self, fun i hi => ⟨?_, fun e => hbf (e ▸ hi)⟩, ?_⟩
  · refine ⟨⟨b, off, none⟩, xs.length, cap, .i64, j, rfl, rfl, by omega, by omega, ?_⟩
    rw [addr_add]; exact hK
  · rw [g4, split_at hcj]; simp only [List.append_assoc]
  · rw [g8]; exact List.mem_cons_of_mem _ (List.mem_flatten.2 ⟨f, List.mem_of_getElem? hfj, hi⟩)
  · intro σ' c' x' r' hr' hcells hO' hrest
    have hlen' := ok.len _ _ _ _ hO'
    refine ⟨by rw [List.length_set]; exact h1, by rw [g8]; exact h2, .inr ⟨b, off, cap, r', pre, post, css.set j c', Fs, by rw [List.length_set], by rw [List.length_set]; exact gc, g2, hr', ?_, g5, by rw [List.length_set, List.length_set]; exact g6, by rw [List.length_set]; exact g7, g8, ?_⟩⟩
    · have hcj' : (css.set j c')[j]? = some c' := List.getElem?_set_self (by omega)
      rw [hcells, split_at hcj', List.take_set_of_le (Nat.le_refl j), List.drop_set_of_lt (by omega)]
      simp only [List.append_assoc]
    · intro i ci y fi e1 e2 e3
      by_cases hij : j = i
      · subst hij
        rw [List.getElem?_set_self (by omega)] at e1 e2
        cases e1; cases e2
        rw [hfj] at e3; cases e3
        exact hO'
      · rw [List.getElem?_set_ne hij] at e1 e2
        refine ok.frame _ _ _ _ _ (g9 i ci y fi e1 e2 e3) fun k hk => ?_
        have hkF : k ∈ Fs.flatten := List.mem_flatten.2 ⟨fi, List.mem_of_getElem? e3, hk⟩
        exact hrest k (by rw [g8]; exact List.mem_cons_of_mem _ hkF) (fun e => (List.nodup_cons.1 h2).1 (e ▸ hkF)) (nodup_at (List.nodup_cons.1 h2).2 e3 hfj (fun e => hij e.symm) k hk)

/-- A field of an element is written. -/
theorem field_store {b o off : Nat} {r : Row} {A c C : List Value} {y : Value} {K : Vw → Prop} (hr : σ b = some r) (hc : r.cells = A ++ (c ++ C)) (hA : A.length = o) (hoff : off < c.length) (hy : y.oneCell' = true)
    (hK : K (σ.put b { r with cells := A ++ (c.set off y ++ C) })) : pField off (.pointer (some ⟨b, o, none⟩)) fun q => pVal false 1 y (pStore q [y] σ K) := by
  rw [pField_s, pVal1 hy, addr_add]
  refine ⟨b, o + off, r, rfl, hr, ?_, ?_⟩
  · rw [hc]; simp only [List.length_append, List.length_singleton]; omega
  · have e : setAt r.cells (o + off) [y] = A ++ (c.set off y ++ C) := by
      simp only [setAt]
      rw [hc, List.set_append_right _ _ (by omega), List.set_append_left _ _ (by omega), hA]
      congr 3; omega
    rw [e]; exact hK
theorem elem_store {b o : Nat} {r : Row} {A C : List Value} {x y : Value} {K : Vw → Prop} (hr : σ b = some r) (hc : r.cells = A ++ ([x] ++ C)) (hA : A.length = o) (hy : y.oneCell' = true)
    (hK : K (σ.put b { r with cells := A ++ ([y] ++ C) })) : pVal false 1 y (pStore (.pointer (some ⟨b, o, none⟩)) [y] σ K) := by
  rw [pVal1 hy]
  refine ⟨b, o, r, rfl, hr, ?_, ?_⟩
  · rw [hc]; simp only [List.length_append, List.length_singleton]; omega
  · have e : setAt r.cells o [y] = A ++ ([y] ++ C) := by
      simp only [setAt]
      rw [hc, List.set_append_right _ _ (by omega), hA, Nat.sub_self]; rfl
    rw [e]; exact hK
/-- A field of an element is read. -/
theorem field_load {b o off : Nat} {r : Row} {A c C : List Value} {y : Value} {K : (Nat → Value) → Prop} (hb : w0.heap.size ≤ b) (hr : σ b = some r) (hc : r.cells = A ++ (c ++ C)) (hA : A.length = o) (hoff : c[off]? = some y)
    (hK : ∀ g : Nat → Value, g 0 = y → K g) : pField off (.pointer (some ⟨b, o, none⟩)) fun q => pLoad w0 1 q σ K := by
  rw [pField_s, addr_add]
  refine ⟨_, fun _ => y, rfl, fun j hj => ?_, hK _ rfl⟩
  have : j = 0 := by omega
  subst this
  have hlt : off < c.length := (List.getElem?_eq_some_iff.1 hoff).1
  rw [addr_add, get_row hb hr, hc, List.getElem?_append_right (by omega), List.getElem?_append_left (by omega)]
  rw [show o + off + 0 - A.length = off by omega]; exact hoff

/-! ### Marks -/
end
end Go.Av

/- The plain side, part 3: what the statement's reading of an argument says of the cells. -/
set_option linter.unusedVariables false
set_option linter.unusedSimpArgs false
namespace Go.Av
open Go Go.RowKit

def σ0 : Vw := fun _ => none

section
variable {H : Type} {enc : TypeId × Value → H} {P : Program} {W : World} {fuel : Nat} {cs : List Value} {x : DataW H × List MemPlace}

theorem sat0 (W : World) : Sat W σ0 W := ⟨Below.refl _ _, fun b r h => by cases h⟩

theorem get0 {a : Addr} {v : Value} (h : W.cell? a = some v) {σ : Vw} : Av.get W σ a = some v := by
  have hlt : a.block < W.heap.size := by
    rcases Nat.lt_or_ge a.block W.heap.size with h1 | h1
    · exact h1
    · have : W.heap[a.block]? = none := Array.getElem?_eq_none h1
      unfold World.cell? at h
      simp [this] at h
  unfold Av.get
  rw [if_pos hlt]; exact h

theorem listOf {α : Type} (p : Nat → α → Prop) : ∀ (n : Nat), (∀ i, i < n → ∃ x, p i x) → ∃ xs : List α, xs.length = n ∧ ∀ (j : Nat) (x : α), xs[j]? = some x → p j x
  | 0, _ => ⟨[], rfl, fun j x h => by simp at h⟩
  | n + 1, h => by
    obtain ⟨xs, hl, hx⟩ := listOf p n (fun i hi => h i (by omega))
    obtain ⟨y, hy⟩ := h n (by omega)
    refine ⟨xs ++ [y], by simp [hl], fun j x hj => ?_⟩
    by_cases e : j < xs.length
    · rw [List.getElem?_append_left e] at hj; exact hx j x hj
    · rw [List.getElem?_append_right (by omega)] at hj
      have : j - xs.length = 0 := by
        rcases Nat.eq_zero_or_pos (j - xs.length) with h0 | h0
        · exact h0
        · rw [List.getElem?_eq_none (by simp; omega)] at hj; cases hj
      rw [this] at hj
      simp at hj
      subst hj
      have : j = n := by omega
      subst this; exact hy

/-- A slice is opened, its elements by a rule of their own. -/
theorem open_rsl {α : Type} {t e n : Nat} {R : (Addr → Option Value) → List Value → α → Prop} {spare : Nat → Bool} (ht : P.underlying t = some (.slice e)) (hc : P.cellsOf e = n)
    (hR : ∀ (fuel : Nat) (es : List Value) (y : DataW H × List MemPlace), DataW.trod enc P W 0 spare true fuel e es = some y → es.length = n → ∃ x, R (Av.get W σ0) es x) (h : DataW.trod enc P W 0 spare true fuel t cs = some x) : ∃ v xs, cs = [v] ∧ RSl n R (Av.get W σ0) v xs := by
  rcases DataW.trod_slice ht h with ⟨rfl, _⟩ | ⟨a, len, cap, elems, rest, m, _, rfl, _, hb, hl, hm, hlen, hel, _, _⟩
  · exact ⟨_, [], rfl, none, 0, rfl, by simp, fun j x hj => by simp at hj⟩
  · have each : ∀ i, i < len → ∃ x : α, ∃ es : List Value, es.length = n ∧ (∀ k, k < n → Av.get W σ0 (a.add (i * n + k)) = es[k]?) ∧ R (Av.get W σ0) es x := by
      intro i hi
      have h1 := hel i hi
      rw [hc, List.getElem?_eq_getElem (by omega), Option.bind_eq_some_iff] at h1
      obtain ⟨es, h2, h3⟩ := h1
      obtain ⟨_, hes, hcell⟩ := World.cells?_some h2
      obtain ⟨x, hx⟩ := hR m es _ h3 hes
      refine ⟨x, es, hes, fun k hk => ?_, hx⟩
      have := hcell k hk
      rw [add_add] at this
      have hlt : k < es.length := by omega
      rw [List.getElem?_eq_getElem hlt] at this ⊢
      exact get0 this
    obtain ⟨xs, hxl, hxs⟩ := listOf _ len each
    have hmax : cap ≤ 9223372036854775807 := by have : maxLen = 9223372036854775807 := by decide
                                                omega
    refine ⟨_, xs, rfl, some a, cap, by rw [hxl], ⟨by omega, hmax⟩, fun j x hj => ?_⟩
    obtain ⟨es, g1, g2, g3⟩ := hxs j x hj
    exact ⟨a, es, rfl, g1, g2, g3⟩

/-- From the functions to the statement. -/
theorem AC.calls {f : FuncId} {args : List Value} {R : Value → Vw → Prop} (h : AC P W f args σ0 R) : Calls P f args.toArray W fun e W' => ∃ v σ', e = .returned v ∧ R v σ' ∧ Below W.heap.size W W' :=
  (h.2 W (sat0 W)).mono fun e W' ⟨v, σ', h1, h2, h3⟩ => ⟨v, σ', h1, h2, h3.sat.bel⟩
end
end Go.Av

/- The plain side, part 4: what the statement's reading of an argument says, with the fuel told; numbers, bools, texts. -/
set_option linter.unusedVariables false
set_option linter.unusedSimpArgs false
namespace Go.Av
open Go Go.RowKit

section
variable {H : Type} {enc : TypeId × Value → H} {P : Program} {W : World} {fuel : Nat} {cs : List Value} {x : DataW H × List MemPlace}

end
end Go.Av

/- The plain side, part 5: more operations at known values. -/
set_option linter.unusedVariables false
set_option linter.unusedSimpArgs false
namespace Go.Av
open Go Go.RowKit IntWalk

section
variable {P : Program} {w0 : World} {σ σ' : Vw}
theorem pConv_s {k k' : IntKind} {n : Int} {K : Value → Prop} : pConvInt k (.int k' n) K ↔ K (.int k (k.wrap n)) :=
  ⟨fun ⟨_, _, h, hK⟩ => by cases h; exact hK, fun h => ⟨_, _, rfl, h⟩⟩
theorem pConv_u8 {k' : IntKind} {n : Int} {K : Value → Prop} (h : 0 ≤ n ∧ n ≤ 255) : pConvInt .u8 (.int k' n) K ↔ K (.int .u8 n) := by rw [pConv_s, u8_in n h]
theorem pConv_i64 {k' : IntKind} {n : Int} {K : Value → Prop} (h : -9223372036854775808 ≤ n ∧ n ≤ 9223372036854775807) : pConvInt .i64 (.int k' n) K ↔ K (.int .i64 n) := by rw [pConv_s, i64_in n h]
theorem pBin_rem {T : Nat} {k : IntKind} {a b : Int} {K : Value → Prop} (h : 0 ≤ a ∧ 0 < b) : pBin P T .rem (.int k a) (.int k b) K ↔ K (.int k (a % b)) :=
  pBin_i (by simp only [aint]; rw [if_neg (by omega), Int.tmod_eq_emod_of_nonneg h.1])
theorem pBin_quo {T : Nat} {a b : Int} {K : Value → Prop} (h : 0 ≤ a ∧ a ≤ 9223372036854775807 ∧ 0 < b) : pBin P T .quo (.int .i64 a) (.int .i64 b) K ↔ K (.int .i64 (a / b)) :=
  pBin_i (by simp only [aint]; rw [if_neg (by omega), i64_quo a b (by omega)])
theorem pBin_cat {T : Nat} {a b : ByteArray} {K : Value → Prop} (h : a.size + b.size ≤ 9223372036854775807) : pBin P T .add (.string a) (.string b) K ↔ K (.string (a ++ b)) :=
  pBin_s (by
    have e : IntKind.i64.max = 9223372036854775807 := by decide
    simp only [astr, e]
    rw [if_neg (by omega)])
theorem pMin_s {k : IntKind} {a b : Int} {K : Value → Prop} : pMin (.int k a) (.int k b) K ↔ K (.int k (min a b)) := by
  have e : (if b < a then b else a) = min a b := by split <;> omega
  exact ⟨fun ⟨_, _, _, h1, h2, hK⟩ => by cases h1; cases h2; rw [e] at hK; exact hK, fun hK => ⟨_, _, _, rfl, rfl, by rw [e]; exact hK⟩⟩
theorem pMax_s {k : IntKind} {a b : Int} {K : Value → Prop} : pMax (.int k a) (.int k b) K ↔ K (.int k (max a b)) := by
  have e : (if b > a then b else a) = max a b := by split <;> omega
  exact ⟨fun ⟨_, _, _, h1, h2, hK⟩ => by cases h1; cases h2; rw [e] at hK; exact hK, fun hK => ⟨_, _, _, rfl, rfl, by rw [e]; exact hK⟩⟩
theorem pExtract_s {vs : List Value} {i : Nat} {v : Value} {K : Value → Prop} (h : vs[i]? = some v) : pExtract (.tuple ⟨vs⟩) i K ↔ K v := by
  obtain ⟨hl, he⟩ := List.getElem?_eq_some_iff.1 h
  exact ⟨fun ⟨_, e, hl', hK⟩ => by cases e; rw [he] at hK; exact hK, fun hK => ⟨_, rfl, hl, by rw [he]; exact hK⟩⟩
theorem pIndexStr_s {s : ByteArray} {j : Nat} {K : Value → Prop} (h : j < s.size) (hK : K (.int .u8 ((s[j]'h).toNat : Int))) : pIndexStr (.string s) (.int .i64 j) K :=
  ⟨s, .i64, j, rfl, rfl, by omega, h, hK⟩
theorem pSliceStr_s {s : ByteArray} {lo hi : Option Value} {l h : Int} {K : Value → Prop} (hl : boundOf 0 lo = some l) (hh : boundOf s.size hi = some h) (h0 : 0 ≤ l ∧ l ≤ h ∧ h ≤ s.size) (hK : K (.string (s.extract l.toNat h.toNat))) : pSliceStr (.string s) lo hi K :=
  ⟨s, l, h, rfl, hl, hh, h0.1, h0.2.1, h0.2.2, hK⟩
end
end Go.Av

/- Lists that grow by append, in a row of our own; elements that need no row; elements that are read in what is older. -/
set_option linter.unusedVariables false
set_option linter.unusedSimpArgs false
namespace Go.Av
open Go Go.RowKit

section
variable {P : Program} {w0 : World} {σ σ' : Vw} {α : Type}

/-! ### Elements that are read by a reader that is fixed -/
/-- What a rule of reading must keep. -/
structure ROk (n : Nat) (Rel : (Addr → Option Value) → List Value → α → Prop) : Prop where
  mono : ∀ rd rd' es x, Le rd rd' → Rel rd es x → Rel rd' es x
  len : ∀ rd es x, Rel rd es x → es.length = n
  one : ∀ rd es x, Rel rd es x → ∀ c, c ∈ es → c.oneCell' = true
/-! ### Elements that need no row -/
def RFl (enc : α → List Value) (good : α → Prop) (rd : Addr → Option Value) (es : List Value) (x : α) : Prop := es = enc x ∧ good x
def OFl (enc : α → List Value) (good : α → Prop) (σ : Vw) (F : List Nat) (es : List Value) (x : α) : Prop := F = [] ∧ es = enc x ∧ good x
theorem ok_fl {n : Nat} {enc : α → List Value} {good : α → Prop} (hl : ∀ x, (enc x).length = n) (ho : ∀ x c, c ∈ enc x → c.oneCell' = true) (w0 : World) : OOk w0 n (RFl enc good) (OFl enc good) := by
  refine ⟨?_, ?_, ?_, ?_, ?_, ?_⟩
  · rintro σ F es x ⟨_, h⟩; exact h
  · rintro σ σ' F es x h _; exact h
  · rintro σ F es x ⟨rfl, _⟩ b hb; cases hb
  · rintro σ F es x ⟨rfl, _⟩; exact List.nodup_nil
  · rintro σ F es x ⟨_, h, _⟩; rw [h]; exact hl x
  · rintro σ F es x ⟨_, h, _⟩; rw [h]; exact ho x

/-! ### Growing lists -/
def OAcc (w0 : World) (ety n : Nat) (O : Vw → List Nat → List Value → α → Prop) (σ : Vw) (F : List Nat) (v : Value) (xs : List α) : Prop :=
  xs.length ≤ 9223372036854775807 ∧ F.Nodup ∧ ((v = .slice none 0 0 ∧ xs = [] ∧ F = []) ∨
  ∃ (b cap : Nat) (css : List (List Value)) (Fs : List (List Nat)), v = .slice (some ⟨b, 0, none⟩) xs.length cap ∧ (xs.length ≤ cap ∧ cap ≤ 9223372036854775807) ∧ w0.heap.size ≤ b ∧ σ b = some ⟨ety, css.flatten, cap * n, (0, 0)⟩ ∧
    css.length = xs.length ∧ Fs.length = xs.length ∧ F = b :: Fs.flatten ∧ ∀ (j : Nat) (c : List Value) (x : α) (f : List Nat), css[j]? = some c → xs[j]? = some x → Fs[j]? = some f → O σ f c x)

theorem OAcc.osl {ety n : Nat} {O : Vw → List Nat → List Value → α → Prop} {F : List Nat} {v : Value} {xs : List α} (h : OAcc w0 ety n O σ F v xs) : OSl w0 n O σ F v xs := by
  obtain ⟨h1, h2, h3 | ⟨b, cap, css, Fs, g1, g2, g3, g4, g5, g6, g7, g8⟩⟩ := h
  · exact ⟨h1, h2, .inl h3⟩
  · exact ⟨h1, h2, .inr ⟨b, 0, cap, _, [], [], css, Fs, g1, g2, g3, g4, by simp, rfl, g5, g6, g7, g8⟩⟩
theorem OAcc.frame {ety n : Nat} {Rel : (Addr → Option Value) → List Value → α → Prop} {O : Vw → List Nat → List Value → α → Prop} (ok : OOk w0 n Rel O) {F : List Nat} {v : Value} {xs : List α} (h : OAcc w0 ety n O σ F v xs) (hF : ∀ b, b ∈ F → σ' b = σ b) : OAcc w0 ety n O σ' F v xs := by
  obtain ⟨h1, h2, h3 | ⟨b, cap, css, Fs, g1, g2, g3, g4, g5, g6, g7, g8⟩⟩ := h
  · exact ⟨h1, h2, .inl h3⟩
  · refine ⟨h1, h2, .inr ⟨b, cap, css, Fs, g1, g2, g3, by rw [hF b (by rw [g7]; exact List.mem_cons_self)]; exact g4, g5, g6, g7, fun j c x f e1 e2 e3 => ?_⟩⟩
    refine ok.frame _ _ _ _ _ (g8 j c x f e1 e2 e3) fun i hi => hF i ?_
    rw [g7]
    exact List.mem_cons_of_mem _ (List.mem_flatten.2 ⟨f, List.mem_of_getElem? e3, hi⟩)
theorem OAcc.dom {ety n : Nat} {Rel : (Addr → Option Value) → List Value → α → Prop} {O : Vw → List Nat → List Value → α → Prop} (ok : OOk w0 n Rel O) {F : List Nat} {v : Value} {xs : List α} (h : OAcc w0 ety n O σ F v xs) : ∀ b, b ∈ F → w0.heap.size ≤ b ∧ σ b ≠ none := h.osl.dom ok
theorem OAcc.nil {ety n : Nat} {O : Vw → List Nat → List Value → α → Prop} : OAcc w0 ety n O σ [] (.slice none 0 0) [] := ⟨by simp, by simp, .inl ⟨rfl, rfl, rfl⟩⟩
theorem OAcc.new {ety n b : Nat} {O : Vw → List Nat → List Value → α → Prop} (hb : w0.heap.size ≤ b) : OAcc w0 ety n O (σ.put b ⟨ety, [], 0, (0, 0)⟩) [b] (.slice (some ⟨b, 0, none⟩) 0 0) [] :=
  ⟨by simp, by simp, .inr ⟨b, 0, [], [], rfl, by simp, hb, by rw [put_at]; simp, rfl, rfl, rfl, fun j c x f h => by simp at h⟩⟩

theorem Keeps.but_at {F : List Nat} (h : Keeps σ σ') (hF : ∀ b, b ∈ F → σ b ≠ none) : ∀ b, b ∈ F → σ' b = σ b := fun b hb => by
  cases hs : σ b with
  | none => exact absurd hs (hF b hb)
  | some r => exact h b r hs

/-- Elements are appended, each with rows of its own. -/
theorem OAcc.pushX {ety n bytes m : Nat} {Rel : (Addr → Option Value) → List Value → α → Prop} {O : Vw → List Nat → List Value → α → Prop} (ok : OOk w0 n Rel O) {F : List Nat} {v : Value} {xs ys : List α} {nss : List (List Value)} {Gs : List (List Nat)} {new : List Value}
    (h : OAcc w0 ety n O σ F v xs) (hm : ys.length = m) (hnl : nss.length = m) (hGl : Gs.length = m) (hnew : new = nss.flatten) (hO : ∀ (j : Nat) (c : List Value) (y : α) (g : List Nat), nss[j]? = some c → ys[j]? = some y → Gs[j]? = some g → O σ g c y)
    (hG : Gs.flatten.Nodup) (hGF : ∀ i, i ∈ Gs.flatten → i ∉ F) (hlen : xs.length + m ≤ 1000000000000) (hbytes : bytes ≤ 140) {K : Value → Vw → Prop}
    (hK : ∀ v' F' σ', Ext σ σ' → KeepsBut F σ σ' → OAcc w0 ety n O σ' F' v' (xs ++ ys) → (∀ i, i ∈ F' → i ∈ F ∨ i ∈ Gs.flatten ∨ σ i = none) → K v' σ') : pAppend w0 ety n bytes v m new σ K := by
  have hb47 : (xs.length + m) * bytes ≤ 2 ^ 47 := by
    have h1 : (xs.length + m) * bytes ≤ 1000000000000 * 140 := Nat.mul_le_mul hlen hbytes
    have h2 : (2 : Nat) ^ 47 = 140737488355328 := by decide
    omega
  have hn2 : ∀ c, c ∈ nss → c.length = n := fun c hc => by
    obtain ⟨i, hi⟩ := List.getElem?_of_mem hc
    have hil : i < nss.length := (List.getElem?_eq_some_iff.1 hi).1
    exact ok.len _ _ _ _ (hO i c _ _ hi (List.getElem?_eq_getElem (by omega)) (List.getElem?_eq_getElem (by omega)))
  have hnewl : new.length = m * n := by rw [hnew, flat_len _ hn2, hnl]
  have hGdom : ∀ i, i ∈ Gs.flatten → σ i ≠ none := fun i hi => by
    obtain ⟨j, f, e1, e2⟩ := mem_flat hi
    have hj : j < Gs.length := (List.getElem?_eq_some_iff.1 e1).1
    exact (ok.dom _ _ _ _ (hO j _ _ f (List.getElem?_eq_getElem (by omega)) (List.getElem?_eq_getElem (by omega)) e1) i e2).2
  obtain ⟨h1, h2, ⟨rfl, rfl, rfl⟩ | ⟨b, cap, css, Fs, rfl, g2, g3, g4, g5, g6, g7, g8⟩⟩ := h
  · refine .inr (.inl ⟨0, [], ⟨by simp, .inl ⟨rfl, rfl⟩⟩, hnewl, by simpa using (by omega : m ≤ 9223372036854775807), by simpa using hb47, fun v' σ' hg => ?_⟩)
    rcases hg with ⟨rfl, rfl, _, h0, _⟩ | ⟨b', c', rfl, g1, g2, rfl, g3, g4⟩
    · have : m = 0 := by omega
      subst this
      have hy : ys = [] := List.length_eq_zero_iff.1 hm
      subst hy
      exact hK _ [] _ (Ext.refl _) (KeepsBut.refl _ _) (by simpa using OAcc.nil) (fun i hi => by cases hi)
    · have hb' : σ b' = none := by
        rcases g4 with h | ⟨n0, c0, h⟩
        · exact h
        · cases h
      have hbG : b' ∉ Gs.flatten := fun hi => hGdom b' hi hb'
      refine hK _ (b' :: Gs.flatten) _ (Keeps.put hb').ext (Keeps.put hb').but ?_ fun i hi => ?_
      · refine ⟨by simp; omega, List.nodup_cons.2 ⟨hbG, hG⟩, .inr ⟨b', c', nss, Gs, by simp [hm], by simp [hm]; omega, g3, by rw [put_at]; simp [hnew], by simp [hm, hnl], by simp [hm, hGl], rfl, fun j c x f e1 e2 e3 => ?_⟩⟩
        simp only [List.nil_append] at e2
        refine ok.frame _ _ _ _ _ (hO j c x f e1 e2 e3) fun i hi => ?_
        have : i ≠ b' := fun e => hbG (e ▸ List.mem_flatten.2 ⟨f, List.mem_of_getElem? e3, hi⟩)
        simp [Vw.put, this]
      · rcases List.mem_cons.1 hi with e | e
        · rw [e]; exact .inr (.inr hb')
        · exact .inr (.inl e)
  · have hn1 : ∀ c, c ∈ css → c.length = n := fun c hc => by
      obtain ⟨i, hi⟩ := List.getElem?_of_mem hc
      have hil : i < css.length := (List.getElem?_eq_some_iff.1 hi).1
      exact ok.len _ _ _ _ (g8 i c _ _ hi (List.getElem?_eq_getElem (by omega)) (List.getElem?_eq_getElem (by omega)))
    have g4' := g4
    rw [g7] at h2
    have hbFs : b ∉ Fs.flatten := (List.nodup_cons.1 h2).1
    have hbG : b ∉ Gs.flatten := fun hi => hGF b hi (by rw [g7]; exact List.mem_cons_self)
    have hFsdom : ∀ i, i ∈ Fs.flatten → σ i ≠ none := fun i hi => by
      obtain ⟨j, f, e1, e2⟩ := mem_flat hi
      have hj : j < Fs.length := (List.getElem?_eq_some_iff.1 e1).1
      exact (ok.dom _ _ _ _ (g8 j _ _ f (List.getElem?_eq_getElem (by omega)) (List.getElem?_eq_getElem (by omega)) e1) i e2).2
    refine .inr (.inl ⟨xs.length, css.flatten, ⟨by rw [flat_len _ hn1, g5], .inr ⟨b, cap, rfl, g4, g2.1, g2.2⟩⟩, hnewl, by omega, hb47, fun v' σ' hg => ?_⟩)
    rcases hg with ⟨rfl, rfl, h, _⟩ | ⟨b', c', rfl, k1, k2, rfl, k3, k4⟩
    · cases h
    · have hb' : b' ∉ Fs.flatten ∧ b' ∉ Gs.flatten ∧ (b' = b ∨ σ b' = none) := by
        rcases k4 with h | ⟨n0, c0, h⟩
        · exact ⟨fun hi => hFsdom b' hi h, fun hi => hGdom b' hi h, .inr h⟩
        · cases h; exact ⟨hbFs, hbG, .inl rfl⟩
      refine hK _ (b' :: (Fs ++ Gs).flatten) _ ?_ ?_ ?_ fun i hi => ?_
      · rcases hb'.2.2 with rfl | h
        · intro i r hi
          by_cases e : i = b'
          · subst e
            rw [g4'] at hi; cases hi
            exact ⟨_, put_at, List.prefix_append _ _⟩
          · exact ⟨r, by simp [Vw.put, e, hi], List.prefix_refl _⟩
        · exact (Keeps.put h).ext
      · rcases hb'.2.2 with rfl | h
        · exact KeepsBut.put (by rw [g7]; exact List.mem_cons_self)
        · exact (Keeps.put h).but
      · refine ⟨by simp; omega, ?_, .inr ⟨b', c', css ++ nss, Fs ++ Gs, by simp [hm], by simp [hm]; omega, k3, by rw [put_at, hnew]; simp, by simp [hm, hnl, g5], by simp [hm, hGl, g6], rfl, fun j c x f e1 e2 e3 => ?_⟩⟩
        · rw [List.flatten_append, List.nodup_cons]
          refine ⟨fun hi => ?_, List.nodup_append.2 ⟨(List.nodup_cons.1 h2).2, hG, fun a ha d hd e => hGF d hd (by rw [g7, ← e]; exact List.mem_cons_of_mem _ ha)⟩⟩
          rcases List.mem_append.1 hi with h | h
          · exact hb'.1 h
          · exact hb'.2.1 h
        · have hput : ∀ i, i ≠ b' → (σ.put b' ⟨ety, css.flatten ++ new, c' * n, (0, 0)⟩) i = σ i := fun i hi => by simp [Vw.put, hi]
          by_cases hj : j < xs.length
          · rw [List.getElem?_append_left (by omega)] at e1 e2 e3
            exact ok.frame _ _ _ _ _ (g8 j c x f e1 e2 e3) fun i hi => hput i fun e => hb'.1 (e ▸ List.mem_flatten.2 ⟨f, List.mem_of_getElem? e3, hi⟩)
          · rw [List.getElem?_append_right (by omega)] at e1 e2 e3
            rw [g5] at e1; rw [g6] at e3
            exact ok.frame _ _ _ _ _ (hO _ c x f e1 e2 e3) fun i hi => hput i fun e => hb'.2.1 (e ▸ List.mem_flatten.2 ⟨f, List.mem_of_getElem? e3, hi⟩)
      · rw [g7]
        rcases List.mem_cons.1 hi with e | e
        · rw [e]
          rcases hb'.2.2 with rfl | h
          · exact .inl List.mem_cons_self
          · exact .inr (.inr h)
        · rw [List.flatten_append] at e
          rcases List.mem_append.1 e with h | h
          · exact .inl (List.mem_cons_of_mem _ h)
          · exact .inr (.inl h)

/-- One element is appended. -/
theorem OAcc.oneX {ety n bytes : Nat} {Rel : (Addr → Option Value) → List Value → α → Prop} {O : Vw → List Nat → List Value → α → Prop} (ok : OOk w0 n Rel O) {F f : List Nat} {v : Value} {xs : List α} {y : α} {es : List Value}
    (h : OAcc w0 ety n O σ F v xs) (hy : O σ f es y) (hf : ∀ i, i ∈ f → i ∉ F) (hlen : xs.length + 1 ≤ 1000000000000) (hbytes : bytes ≤ 140) {K : Value → Vw → Prop}
    (hK : ∀ v' F' σ', Ext σ σ' → KeepsBut F σ σ' → OAcc w0 ety n O σ' F' v' (xs ++ [y]) → (∀ i, i ∈ F' → i ∈ F ∨ i ∈ f ∨ σ i = none) → K v' σ') : allOne es ∧ pAppend w0 ety n bytes v 1 es σ K := by
  refine ⟨ok.one _ _ _ _ hy, ?_⟩
  refine h.pushX ok (ys := [y]) (nss := [es]) (Gs := [f]) rfl rfl rfl (by simp) (fun j c z g e1 e2 e3 => ?_) (by simpa using ok.nodup _ _ _ _ hy) (by simpa using hf) hlen hbytes (by simpa using hK)
  cases j with
  | zero => simp at e1 e2 e3; subst e1 e2 e3; exact hy
  | succ j => simp at e1

/-- All elements of a list that is read are appended; they need no rows of their own. -/
theorem OAcc.allX {ety n bytes : Nat} {Rel Rel0 : (Addr → Option Value) → List Value → α → Prop} {O : Vw → List Nat → List Value → α → Prop} (ok : OOk w0 n Rel O) {rd0 : Addr → Option Value} {F : List Nat} {v s : Value} {xs ys : List α}
    (h : OAcc w0 ety n O σ F v xs) (hs : RSl n Rel0 rd0 s ys) (hle : Le rd0 (Av.get w0 σ)) (hO : ∀ es y, Rel0 rd0 es y → O σ [] es y) (hlen : xs.length + ys.length ≤ 1000000000000) (hbytes : bytes ≤ 140) {K : Value → Vw → Prop}
    (hK : ∀ v' F' σ', Ext σ σ' → KeepsBut F σ σ' → OAcc w0 ety n O σ' F' v' (xs ++ ys) → (∀ i, i ∈ F' → i ∈ F ∨ σ i = none) → K v' σ') : pAppendS w0 ety n bytes v s σ K := by
  obtain ⟨A, cap, rfl, hc, hel⟩ := hs
  obtain ⟨css, hcl, hcs⟩ := listOf (fun i (c : List Value) => ∃ a y, A = some a ∧ ys[i]? = some y ∧ c.length = n ∧ (∀ k, k < n → rd0 (a.add (i * n + k)) = c[k]?) ∧ Rel0 rd0 c y) ys.length (fun i hi => by
    obtain ⟨a, es, h1, h2, h3, h4⟩ := hel i _ (List.getElem?_eq_getElem hi)
    exact ⟨es, a, _, h1, List.getElem?_eq_getElem hi, h2, h3, h4⟩)
  have hn : ∀ c, c ∈ css → c.length = n := fun c hc => by
    obtain ⟨i, hi⟩ := List.getElem?_of_mem hc
    obtain ⟨_, _, _, _, h, _⟩ := hcs i c hi
    exact h
  refine ⟨A, ys.length, cap, css.flatten, rfl, by rw [flat_len _ hn, hcl], ?_, ?_, ?_⟩
  · intro c hc
    obtain ⟨es, he, hce⟩ := List.mem_flatten.1 hc
    obtain ⟨i, hi⟩ := List.getElem?_of_mem he
    obtain ⟨a, y, _, _, _, _, hR⟩ := hcs i es hi
    exact ok.one _ _ _ _ (hO _ _ hR) c hce
  · intro j hj
    rw [flat_len _ hn, hcl] at hj
    have hn0 : 0 < n := by
      rcases Nat.eq_zero_or_pos n with e | e
      · subst e; omega
      · exact e
    have hq : j / n < css.length := by rw [hcl]; exact (Nat.div_lt_iff_lt_mul hn0).2 hj
    obtain ⟨a, y, hA, hy, hl, hk, hR⟩ := hcs (j / n) _ (List.getElem?_eq_getElem hq)
    have hr : j % n < n := Nat.mod_lt _ hn0
    have hdm : j / n * n + j % n = j := by rw [Nat.mul_comm]; exact Nat.div_add_mod j n
    refine ⟨a, hA, ?_⟩
    have e1 := flat_get css hn (j / n) _ (List.getElem?_eq_getElem hq) (j % n) hr
    rw [hdm] at e1
    have e2 := hk (j % n) hr
    rw [hdm, ← e1] at e2
    have hj' : j < css.flatten.length := by rw [flat_len _ hn, hcl]; exact hj
    rw [List.getElem?_eq_getElem hj'] at e2
    exact hle _ _ e2
  · refine h.pushX ok (ys := ys) (nss := css) (Gs := List.replicate ys.length []) rfl hcl (by simp) rfl (fun j c y g e1 e2 e3 => ?_) (by simp) (by simp) hlen hbytes (by simpa using hK)
    obtain ⟨a, y', _, hy, _, _, hR⟩ := hcs j c e1
    rw [e2] at hy; cases hy
    rw [List.getElem?_replicate] at e3
    split at e3
    · cases e3; exact hO _ _ hR
    · cases e3

theorem OAcc.one {ety n bytes : Nat} {Rel : (Addr → Option Value) → List Value → α → Prop} {O : Vw → List Nat → List Value → α → Prop} (ok : OOk w0 n Rel O) {F f : List Nat} {v : Value} {xs : List α} {y : α} {es : List Value}
    (h : OAcc w0 ety n O σ F v xs) (hy : O σ f es y) (hf : ∀ i, i ∈ f → i ∉ F) (hlen : xs.length + 1 ≤ 1000000000000) (hbytes : bytes ≤ 140) {K : Value → Vw → Prop}
    (hK : ∀ v' F' σ', KeepsBut F σ σ' → OAcc w0 ety n O σ' F' v' (xs ++ [y]) → (∀ i, i ∈ F' → i ∈ F ∨ i ∈ f ∨ σ i = none) → K v' σ') : allOne es ∧ pAppend w0 ety n bytes v 1 es σ K :=
  OAcc.oneX ok h hy hf hlen hbytes fun v' F' σ' _ => hK v' F' σ'
theorem OAcc.all {ety n bytes : Nat} {Rel Rel0 : (Addr → Option Value) → List Value → α → Prop} {O : Vw → List Nat → List Value → α → Prop} (ok : OOk w0 n Rel O) {rd0 : Addr → Option Value} {F : List Nat} {v s : Value} {xs ys : List α}
    (h : OAcc w0 ety n O σ F v xs) (hs : RSl n Rel0 rd0 s ys) (hle : Le rd0 (Av.get w0 σ)) (hO : ∀ es y, Rel0 rd0 es y → O σ [] es y) (hlen : xs.length + ys.length ≤ 1000000000000) (hbytes : bytes ≤ 140) {K : Value → Vw → Prop}
    (hK : ∀ v' F' σ', KeepsBut F σ σ' → OAcc w0 ety n O σ' F' v' (xs ++ ys) → (∀ i, i ∈ F' → i ∈ F ∨ σ i = none) → K v' σ') : pAppendS w0 ety n bytes v s σ K :=
  OAcc.allX ok h hs hle hO hlen hbytes fun v' F' σ' _ => hK v' F' σ'
end
end Go.Av

/- A part of a list that is read; slices of texts. -/
set_option linter.unusedVariables false
set_option linter.unusedSimpArgs false
namespace Go.Av
open Go Go.RowKit

section
variable {P : Program} {w0 : World} {σ σ' : Vw} {α : Type}

theorem RSl.slice {n : Nat} {R : (Addr → Option Value) → List Value → α → Prop} {rd : Addr → Option Value} {v : Value} {xs : List α} (h : RSl n R rd v xs) {lo hi : Option Value} {l u : Nat} (hl : boundOf 0 lo = some (l : Int)) (hu : boundOf xs.length hi = some (u : Int)) (hlu : l ≤ u) (hux : u ≤ xs.length) {K : Value → Prop}
    (hK : ∀ v', RSl n R rd v' ((xs.take u).drop l) → K v') : pSlice n v lo hi K := by
  obtain ⟨A, cap, rfl, h2, h3⟩ := h
  refine ⟨A, xs.length, cap, l, u, rfl, hl, hu, by omega, by omega, by omega, hK _ ?_⟩
  have hlen : ((xs.take u).drop l).length = u - l := by rw [List.length_drop, List.length_take]; omega
  simp only [Int.toNat_natCast]
  refine ⟨if cap = l then A else Option.map (fun x => x.add (l * n)) A, cap - l, by rw [hlen], by rw [hlen]; omega, fun j x hj => ?_⟩
  rw [List.getElem?_drop] at hj
  have hlt : l + j < u := by
    rcases Nat.lt_or_ge (l + j) u with h | h
    · exact h
    · rw [List.getElem?_eq_none (by rw [List.length_take]; omega)] at hj; cases hj
  rw [List.getElem?_take_of_lt hlt] at hj
  obtain ⟨a, es, rfl, g1, g2, g3⟩ := h3 _ x hj
  refine ⟨a.add (l * n), es, ?_, g1, fun i hi => ?_, g3⟩
  · rw [if_neg (by omega)]; rfl
  · rw [add_add, ← g2 i hi]
    congr 2
    rw [Nat.add_mul]; omega

theorem RSl.atfp {n : Nat} {R : (Addr → Option Value) → List Value → α → Prop} {v : Value} {xs : List α} (h : RSl n R (Av.get w0 σ) v xs) {j : Nat} {x : α} (hj : xs[j]? = some x) (o : Nat) (ho : o < n) {K : Value → (Nat → Value) → Prop} (hK : ∀ (q : Value) (es : List Value) (g : Nat → Value), R (Av.get w0 σ) es x → es[o]? = some (g 0) → K q g) :
    pIndexAddr n v (.int .i64 j) fun p => pField o p fun q => pLoad w0 1 q σ (K q) := by
  obtain ⟨A, cap, rfl, _, h3⟩ := h
  obtain ⟨a, es, rfl, h5, h6, h7⟩ := h3 j x hj
  have hlt : j < xs.length := (List.getElem?_eq_some_iff.1 hj).1
  refine ⟨a, xs.length, cap, .i64, j, rfl, rfl, by omega, by omega, a.add (j * n), rfl, (a.add (j * n)).add o, fun _ => es.getD o undef, rfl, fun i hi => ?_, hK _ es _ h7 ?_⟩
  · have e : i = 0 := by omega
    subst e
    have := h6 o ho
    rw [add_add, add_add, Nat.add_zero, this, List.getElem?_eq_getElem (by omega)]
    simp only [List.getD_eq_getElem?_getD, List.getElem?_eq_getElem (show o < es.length by omega), Option.getD_some]
  · simp only [List.getD_eq_getElem?_getD, List.getElem?_eq_getElem (show o < es.length by omega), Option.getD_some]

theorem RSl.atf {n : Nat} {R : (Addr → Option Value) → List Value → α → Prop} {v : Value} {xs : List α} (h : RSl n R (Av.get w0 σ) v xs) {j : Nat} {x : α} (hj : xs[j]? = some x) (o : Nat) (ho : o < n) {K : (Nat → Value) → Prop} (hK : ∀ (es : List Value) (g : Nat → Value), R (Av.get w0 σ) es x → es[o]? = some (g 0) → K g) :
    pIndexAddr n v (.int .i64 j) fun p => pField o p fun q => pLoad w0 1 q σ K :=
  h.atfp hj o ho fun q => hK

/-- A run of rounds over a list. -/
theorem foldl_take {β : Type} {f : β → α → β} {b : β} {xs : List α} {j : Nat} {x : α} (hj : xs[j]? = some x) : (xs.take (j + 1)).foldl f b = f ((xs.take j).foldl f b) x := by
  rw [List.take_add_one, hj, Option.toList_some, List.foldl_append]; rfl
end
end Go.Av

/- Texts as lists of bytes; what is cut at a byte; decimals. Plain. -/
set_option linter.unusedVariables false
set_option linter.unusedSimpArgs false
namespace Go.Av
open Go Go.RowKit

abbrev bl (s : ByteArray) : List UInt8 := s.data.toList
def ofL (l : List UInt8) : ByteArray := ⟨l.toArray⟩
theorem bl_ofL (l : List UInt8) : bl (ofL l) = l := rfl
theorem bl_inj {a b : ByteArray} (h : bl a = bl b) : a = b := by
  cases a; cases b
  simp only [ByteArray.mk.injEq]
  exact Array.toList_inj.1 h
theorem ofL_bl (s : ByteArray) : ofL (bl s) = s := bl_inj (bl_ofL _)
theorem size_bl (s : ByteArray) : (bl s).length = s.size := by
  show s.data.toList.length = s.data.size
  simp
theorem size_ofL (l : List UInt8) : (ofL l).size = l.length := by rw [← size_bl, bl_ofL]
theorem bl_append (a b : ByteArray) : bl (a ++ b) = bl a ++ bl b := by
  show (a ++ b).data.toList = _
  rw [ByteArray.data_append, Array.toList_append]
theorem ofL_append (a b : List UInt8) : ofL a ++ ofL b = ofL (a ++ b) := bl_inj (by rw [bl_append, bl_ofL, bl_ofL, bl_ofL])
theorem bl_extract (s : ByteArray) (i j : Nat) : bl (s.extract i j) = ((bl s).drop i).take (j - i) := by
  simp [bl, ByteArray.data_extract, Array.toList_extract, List.extract_eq_take_drop]
theorem bl_get (s : ByteArray) (i : Nat) (h : i < s.size) : (bl s)[i]? = some (s[i]'h) := by
  rw [List.getElem?_eq_getElem (by rw [size_bl]; exact h)]
  rfl
theorem bl_byte (n : Nat) : bl (strOfNums [((n % 256 : Nat) : Int)]) = [UInt8.ofNat n] := by
  simp only [bl, strOfNums, List.map_cons, List.map_nil]
  congr 1
  apply UInt8.toNat_inj.1
  simp
  omega

/-- What lies between the places of a byte. -/
def cutL (c : UInt8) : List UInt8 → List (List UInt8)
  | [] => [[]]
  | b :: r => if b = c then [] :: cutL c r else match cutL c r with
    | h :: t => (b :: h) :: t
    | [] => [[b]]
theorem cutL_none {c : UInt8} : ∀ {l : List UInt8}, c ∉ l → cutL c l = [l]
  | [], _ => rfl
  | b :: r, h => by
    have h1 : b ≠ c := fun e => h (e ▸ List.mem_cons_self)
    have h2 : c ∉ r := fun e => h (List.mem_cons_of_mem _ e)
    unfold cutL
    rw [if_neg h1, cutL_none h2]
theorem cutL_at {c : UInt8} : ∀ {a r : List UInt8}, c ∉ a → cutL c (a ++ c :: r) = a :: cutL c r
  | [], r, _ => by simp [cutL]
  | b :: a, r, h => by
    have h1 : b ≠ c := fun e => h (e ▸ List.mem_cons_self)
    have h2 : c ∉ a := fun e => h (List.mem_cons_of_mem _ e)
    rw [List.cons_append]
    conv => lhs; unfold cutL
    rw [if_neg h1, cutL_at h2]
/-- The pieces of a text. -/
def cutS (c : UInt8) (s : ByteArray) : List ByteArray := (cutL c (bl s)).map ofL
/-! ### Decimals -/
def dig (n : Nat) : UInt8 := UInt8.ofNat (48 + n % 10)
def decL (k : Nat) : List UInt8 := if h : k < 10 then [dig k] else decL (k / 10) ++ [dig k]
termination_by k
decreasing_by omega
theorem decL_small {k : Nat} (h : k < 10) : decL k = [dig k] := by rw [decL, dif_pos h]
theorem decL_big {k : Nat} (h : ¬ k < 10) : decL k = decL (k / 10) ++ [dig k] := by rw [decL, dif_neg h]
theorem decL_len (k : Nat) : 1 ≤ (decL k).length ∧ (decL k).length ≤ k / 10 + 1 := by
  induction k using Nat.strongRecOn with
  | _ k ih =>
    by_cases h : k < 10
    · rw [decL_small h]; simp
    · rw [decL_big h]
      have := ih (k / 10) (by omega)
      simp only [List.length_append, List.length_singleton]
      omega
/-- A number's figures. -/
def decN (k : Nat) : ByteArray := ofL (decL k)
def minText : ByteArray := ⟨#[45, 57, 50, 50, 51, 51, 55, 50, 48, 51, 54, 56, 53, 52, 55, 55, 53, 56, 48, 56]⟩
def decZ (n : Int) : ByteArray := if n < 0 then ⟨#[45]⟩ ++ decN (-n).toNat else decN n.toNat
theorem decN_size (k : Nat) : 1 ≤ (decN k).size ∧ (decN k).size ≤ k / 10 + 1 := by
  rw [decN, size_ofL]; exact decL_len k
theorem decZ_nat (k : Nat) : decZ (k : Int) = decN k := by
  unfold decZ
  rw [if_neg (by omega), Int.toNat_natCast]
theorem decZ_size {n : Int} (h : -9223372036854775808 ≤ n ∧ n ≤ 9223372036854775807) : (decZ n).size ≤ 922337203685477583 := by
  unfold decZ
  split
  · have := (decN_size (-n).toNat).2
    rw [ByteArray.size_append]
    have e : (⟨#[45]⟩ : ByteArray).size = 1 := rfl
    rw [e]; omega
  · have := (decN_size n.toNat).2
    omega
theorem dig_toNat (n : Nat) : (dig n).toNat = 48 + n % 10 := by
  unfold dig
  simp
  omega
theorem decL_digits : ∀ (k : Nat) (b : UInt8), b ∈ decL k → 48 ≤ b.toNat ∧ b.toNat ≤ 57 := by
  intro k
  induction k using Nat.strongRecOn with
  | _ k ih =>
    intro b hb
    by_cases h : k < 10
    · rw [decL_small h, List.mem_singleton] at hb
      subst hb
      rw [dig_toNat]; omega
    · rw [decL_big h] at hb
      rcases List.mem_append.1 hb with e | e
      · exact ih (k / 10) (by omega) b e
      · rw [List.mem_singleton.1 e, dig_toNat]; omega

/-- The number of figures, read on from one. -/
def valL : List UInt8 → Nat → Nat
  | [], n => n
  | b :: r, n => valL r (n * 10 + (b.toNat - 48))
theorem valL_append : ∀ (a b : List UInt8) (n : Nat), valL (a ++ b) n = valL b (valL a n)
  | [], _, _ => rfl
  | x :: a, b, n => valL_append a b _
theorem valL_dec (k : Nat) : valL (decL k) 0 = k := by
  induction k using Nat.strongRecOn with
  | _ k ih =>
    by_cases h : k < 10
    · rw [decL_small h]
      simp only [valL, dig_toNat]; omega
    · rw [decL_big h, valL_append, ih (k / 10) (by omega)]
      simp only [valL, dig_toNat]; omega
theorem decL_head : ∀ (k : Nat), 0 < k → ∃ b r, decL k = b :: r ∧ b ≠ 48 := by
  intro k
  induction k using Nat.strongRecOn with
  | _ k ih =>
    intro hk
    by_cases h : k < 10
    · refine ⟨dig k, [], decL_small h, fun e => ?_⟩
      have := dig_toNat k
      rw [e] at this
      have e2 : (48 : UInt8).toNat = 48 := rfl
      omega
    · obtain ⟨b, r, h1, h2⟩ := ih (k / 10) (by omega) (by omega)
      exact ⟨b, r ++ [dig k], by rw [decL_big h, h1]; rfl, h2⟩
/-- Figures without noughts ahead are their number's. -/
theorem decL_of : ∀ (l : List UInt8), l ≠ [] → (∀ b, b ∈ l → 48 ≤ b.toNat ∧ b.toNat ≤ 57) → (1 < l.length → l.head? ≠ some 48) → decL (valL l 0) = l := by
  intro l
  -- from the end
  suffices ∀ (n : Nat) (l : List UInt8), l.length = n → l ≠ [] → (∀ b, b ∈ l → 48 ≤ b.toNat ∧ b.toNat ≤ 57) → (1 < l.length → l.head? ≠ some 48) → decL (valL l 0) = l from this _ l rfl
  intro n
  induction n with
  | zero => intro l hl hne; exact absurd (List.length_eq_zero_iff.1 hl) hne
  | succ n ih =>
    intro l hl hne hd hh
    obtain ⟨a, x, rfl⟩ : ∃ a x, l = a ++ [x] := ⟨l.dropLast, l.getLast hne, (List.dropLast_concat_getLast hne).symm⟩
    have hx := hd x (by simp)
    have hdx : dig (x.toNat - 48) = x := by
      apply UInt8.toNat_inj.1
      rw [dig_toNat]; omega
    rw [valL_append]
    simp only [valL]
    by_cases ha : a = []
    · subst ha
      simp only [valL, List.nil_append]
      rw [decL_small (by omega)]
      rw [show 0 * 10 + (x.toNat - 48) = x.toNat - 48 by omega, hdx]
    · have hal : 0 < a.length := List.length_pos_iff.2 ha
      have h1 := ih a (by simp at hl; omega) ha (fun b hb => hd b (by simp [hb])) (fun h2 => by
        have := hh (by simp; omega)
        cases a with
        | nil => exact absurd rfl ha
        | cons y r => simpa using this)
      have hpos : 0 < valL a 0 := by
        rcases Nat.eq_zero_or_pos (valL a 0) with e | e
        · rw [e, decL_small (by omega)] at h1
          have := hh (by simp; omega)
          rw [← h1] at this
          exact absurd rfl this
        · exact e
      rw [decL_big (by omega), show (valL a 0 * 10 + (x.toNat - 48)) / 10 = valL a 0 by omega, h1]
      congr 2
      have : dig (valL a 0 * 10 + (x.toNat - 48)) = dig (x.toNat - 48) := by
        apply UInt8.toNat_inj.1
        rw [dig_toNat, dig_toNat]; omega
      rw [this, hdx]
theorem valL_lt : ∀ (l : List UInt8) (n : Nat), (∀ b, b ∈ l → 48 ≤ b.toNat ∧ b.toNat ≤ 57) → valL l n < (n + 1) * 10 ^ l.length
  | [], n, _ => by simp [valL]
  | b :: r, n, h => by
    have h1 := valL_lt r (n * 10 + (b.toNat - 48)) fun x hx => h x (List.mem_cons_of_mem _ hx)
    have hb := h b List.mem_cons_self
    simp only [valL, List.length_cons]
    refine Nat.lt_of_lt_of_le h1 ?_
    rw [Nat.pow_succ, Nat.mul_comm (10 ^ r.length) 10, ← Nat.mul_assoc]
    exact Nat.mul_le_mul_right _ (by omega)
end Go.Av

/- A contract of the kit's, as one of ours. -/
set_option linter.unusedVariables false
set_option linter.unusedSimpArgs false
namespace Go.Av
open Go Go.RowKit

end Go.Av

/- What each function owes, reckoned out. MADE BY PROGRAM (emit.py). -/
set_option linter.unusedVariables false
namespace Go.Proofs.Ytlfnfpdipghdiaa
open Go Go.Av

abbrev t_int : Nat := 3
abbrev t_uint8 : Nat := 5
abbrev t_string : Nat := 9
abbrev t_s_uint8 : Nat := 22
abbrev t_impl_Raw : Nat := 45
abbrev t_impl_Step : Nat := 102
abbrev n_laws_FnDiskTwo : Nat := 4
abbrev n_spec_DrawPagesFree : Nat := 7
abbrev n_impl_PagesFree : Nat := 8
abbrev n_spec_PagesFree : Nat := 9
abbrev n_spec_PagesOk : Nat := 10
abbrev n_impl_PagesGet : Nat := 11
abbrev n_impl_PagesNeed : Nat := 12
abbrev n_spec_DrawDiskWrite : Nat := 13
abbrev n_impl_DiskWrite : Nat := 14
abbrev n_laws_wdTexts : Nat := 15
abbrev n_spec_DiskWrite : Nat := 16
abbrev n_spec_DiskOk : Nat := 17
abbrev n_impl_DiskOk : Nat := 18
abbrev n_spec_l1Open : Nat := 25
abbrev n_spec_l24Any : Nat := 33
abbrev n_p_spec_l1Rd_pick : Nat := 34
abbrev n_spec_l1Many : Nat := 35
abbrev n_impl_cloneDisk : Nat := 36
abbrev n_impl_within : Nat := 37
abbrev n_spec_l21Copy : Nat := 38
abbrev n_spec_l21RawOk : Nat := 39
abbrev n_spec_l24Disk : Nat := 53
abbrev n_spec_l24Spoil : Nat := 54
abbrev n_spec_l21In : Nat := 55
abbrev n_p_spec_l1Rd_of : Nat := 56
abbrev n_spec_StorePlay : Nat := 65
abbrev n_spec_l24New : Nat := 66
abbrev n_spec_l24Steps : Nat := 67
abbrev n_spec_StoreOpen : Nat := 69
abbrev n_spec_l23Step : Nat := 70
abbrev n_spec_l22Copy : Nat := 71
abbrev n_spec_StoreNew : Nat := 72
abbrev n_spec_l24Blank : Nat := 73
abbrev n_spec_l24Group : Nat := 74
abbrev n_spec_l24Text : Nat := 75
abbrev n_spec_l22Found : Nat := 76
abbrev n_spec_l22Text : Nat := 77
abbrev n_spec_l22Area : Nat := 78
abbrev n_spec_l22Group : Nat := 79
abbrev n_spec_l22Clean : Nat := 80
abbrev n_spec_StoreAppend : Nat := 81
abbrev n_spec_StoreSave : Nat := 82
abbrev n_spec_l22TextOk : Nat := 83
abbrev n_spec_l22Saved : Nat := 84
abbrev n_spec_l22Cut : Nat := 85
abbrev n_spec_l22Num : Nat := 86
abbrev n_spec_l22Ok : Nat := 87
abbrev n_spec_l22Blocks : Nat := 88
abbrev n_spec_l22Piece : Nat := 89
abbrev n_spec_l22Dec : Nat := 90
abbrev n_spec_l22Many : Nat := 91
abbrev n_spec_l22Head : Nat := 92
end Go.Proofs.Ytlfnfpdipghdiaa

/- What each function owes, reckoned out, part 1. MADE BY PROGRAM (emit.py). -/
set_option linter.unusedVariables false
namespace Go.Proofs.Ytlfnfpdipghdiaa
open Go.Av renaming vget → G, cellOf → C, pVal → V, pBin → B, pIndexAddr → X, pLoad → L, pField → F, pIf → Q, pExtract → E, pAppend → A, pLen → N, pNew → W
open Go.Proofs.Try renaming prog → P
open Go Go.Av

def esc_laws_FnPagesLeak : Nat → Bool
  | _ => false
def vc_laws_FnPagesLeak (w0 : World) (a0 : Value) (σ : Vw) (R : Value → Vw → Prop) : Prop :=
  N a0 fun v0 => B P 3 .gtr v0 (.int .i64 1048576) fun v1 => Q v1 (R (.bool true) σ) (AC P w0 n_spec_DrawPagesFree [a0] σ fun v2 s3 => V true 2 v2 (AC P w0 n_impl_PagesFree ([.agg (⟨[C v2 0, C v2 1]⟩)]) s3 fun v4 s5 => AC P w0 n_spec_PagesFree ([.agg (⟨[C v2 0, C v2 1]⟩)]) s5 fun v6 s7 => B P 3 .neq v4 v6 fun v8 => Q v8 (R (.bool false) s7) (AC P w0 n_spec_PagesOk ([.agg (⟨[C v2 0, C v2 1]⟩)]) s7 fun v9 s10 => pUn .not v9 fun v11 => Q v11 (B P 3 .eql v4 (.int .i64 0) fun v12 => R v12 s10) (pLoop (fun l13 K14 s15 => N (G l13 4) fun v16 => B P 3 .lss (G l13 2) v16 fun v17 => Q v17 (X 3 (G l13 4) (G l13 2) fun v18 => F 0 v18 fun v19 => L w0 1 v19 s15 fun g20 => AC P w0 n_impl_PagesGet ([.agg (⟨[G l13 3, G l13 4]⟩), g20 0]) s15 fun v21 s22 => E v21 0 fun v23 => E v21 1 fun v24 => pUn .not v24 fun v25 => Q v25 (K14 .ret [.bool false, G l13 1, G l13 2, G l13 3, G l13 4] s22) (pLenS v23 fun v26 => X 3 (G l13 4) (G l13 2) fun v27 => F 2 v27 fun v28 => L w0 1 v28 s22 fun g29 => B P 3 .neq v26 (g29 0) fun v30 => Q v30 (K14 .ret [.bool false, G l13 1, G l13 2, G l13 3, G l13 4] s22) (AC P w0 n_impl_PagesNeed [v23] s22 fun v31 s32 => B P 3 .add (G l13 1) v31 fun v33 => B P 3 .add (G l13 2) (.int .i64 1) fun v34 => K14 .normal [G l13 0, v33, v34, G l13 3, G l13 4] s32))) (K14 (.exit 0) [G l13 0, G l13 1, G l13 2, G l13 3, G l13 4] s15)) [.bool false, v4, .int .i64 0, C v2 0, C v2 1] s10 fun x35 l36 s37 => match x35 with | .normal => B P 3 .eql (G l36 1) (.int .i64 96) (fun v38 => R v38 s37) | .ret => R (G l36 0) s37 | .exit i39 => (match Nat.beq i39 0 with | true => B P 3 .eql (G l36 1) (.int .i64 96) (fun v40 => R v40 s37) | false => False)))))
/-- laws.FnDiskTwo -/
def kp_laws_FnDiskTwo : Nat → Keep
  | 5 => ⟨[], [], [], .step 0 (.step 1 (.step 2 (.step 3 (.step 4 (.step 5 (.step 6 (.step 7 (.step 8 (.step 9 (.done)))))))))), [(1, [0]), (5, [4]), (6, [2, 3, 4, 5]), (7, [2, 3, 4, 5, 6]), (8, [0, 1, 2, 3, 4, 5, 6, 7]), (9, [0, 1, 2, 3, 4, 5, 6, 7, 8])]⟩
  | 9 => ⟨[2, 4, 7, 8], [(3, 1), (6, 1)], [3, 6], .done, []⟩
  | 12 => ⟨[2, 4, 7, 8, 9], [(3, 1), (6, 1)], [3, 6], .done, []⟩
  | 14 => ⟨[], [], [], .step 0 (.step 1 (.step 2 (.step 3 (.step 4 (.step 5 (.step 6 (.step 7 (.step 8 (.step 9 (.step 10 (.done))))))))))), [(2, [0, 1]), (3, [0, 1, 2]), (4, [0, 1, 2, 3]), (7, [5, 6]), (8, [5, 6, 7]), (9, [5, 6, 7, 8]), (10, [0, 1, 2, 3, 4, 5, 6, 7, 8, 9])]⟩
  | 17 => ⟨[], [], [], .step 0 (.step 1 (.step 2 (.step 3 (.step 6 (.step 7 (.step 4 (.step 5 (.step 8 (.step 9 (.done)))))))))), [(3, [2]), (4, [0, 1, 2, 3]), (5, [0, 1, 2, 3, 4]), (7, [6]), (8, [0, 1, 2, 3, 4, 5, 6, 7]), (9, [0, 1, 2, 3, 4, 5, 6, 7, 8])]⟩
  | _ => ⟨[], [], [], .done, []⟩
def esc_laws_FnDiskTwo : Nat → Bool
  | 34 => true
  | _ => false
def vc_laws_FnDiskTwo (w0 : World) (a0 : Value) (σ : Vw) (R : Value → Vw → Prop) : Prop :=
  N a0 fun v0 => B P 3 .gtr v0 (.int .i64 1048576) fun v1 => Q v1 (R (.bool true) σ) (AC P w0 n_spec_DrawDiskWrite [a0] σ fun v2 s3 => E v2 0 fun v4 => E v2 1 fun v5 => E v2 2 fun v6 => V true 1 v4 (N v5 fun v7 => AC P w0 n_impl_DiskWrite ([.agg (⟨[C v4 0]⟩), v5, v7]) s3 fun v8 s9 => V true 1 v8 (N v5 fun v10 => AC P w0 n_spec_DiskWrite ([.agg (⟨[C v4 0]⟩), v5, v10]) s9 fun v11 s12 => V true 1 v11 (AC P w0 n_laws_wdTexts [C v8 0, C v11 0] s12 fun v13 s14 => pUn .not v13 fun v15 => Q v15 (R (.bool false) s14) (W w0 45 [] s14 fun n16 s17 => N v5 fun v18 => B P 3 .sub v18 (.int .i64 1) fun v19 => pLoop (fun l20 K21 s22 => B P 3 .geq (G l20 3) (.int .i64 0) fun v23 => Q v23 (pLoop (fun l24 K25 s26 => B P 3 .lss (G l24 4) (G l24 3) fun v27 => Q v27 (X 2 (G l24 1) (G l24 4) fun v28 => F 0 v28 fun v29 => L w0 1 v29 s26 fun g30 => X 2 (G l24 1) (G l24 3) fun v31 => F 0 v31 fun v32 => L w0 1 v32 s26 fun g33 => B P 3 .eql (g30 0) (g33 0) fun v34 => Q v34 (K25 .ret [.bool true, G l24 1, G l24 2, G l24 3, G l24 4, G l24 5, G l24 6] s26) (B P 3 .add (G l24 4) (.int .i64 1) fun v35 => K25 .normal [G l24 0, G l24 1, G l24 2, G l24 3, v35, G l24 5, G l24 6] s26)) (K25 (.exit 2) [G l24 0, G l24 1, G l24 2, G l24 3, G l24 4, G l24 5, G l24 6] s26)) [G l20 0, G l20 1, G l20 2, G l20 3, .int .i64 0, G l20 4, G l20 5] s22 fun x36 l37 s38 => match x36 with | .normal => X 2 (G l37 1) (G l37 3) (fun v39 => L w0 2 v39 s38 fun g40 => V true 2 (.agg (⟨[g40 0, g40 1]⟩)) ((allOne [g40 0, g40 1]) ∧ (A w0 45 2 24 (G l37 2) 1 [g40 0, g40 1] s38 fun v41 s42 => B P 3 .sub (G l37 3) (.int .i64 1) fun v43 => K21 .normal [G l37 0, G l37 1, v41, v43, G l37 5, G l37 6] s42))) | .ret => K21 .ret [G l37 0, G l37 1, G l37 2, G l37 3, G l37 5, G l37 6] s38 | .exit i44 => (match Nat.beq i44 2 with | true => X 2 (G l37 1) (G l37 3) (fun v45 => L w0 2 v45 s38 fun g46 => V true 2 (.agg (⟨[g46 0, g46 1]⟩)) ((allOne [g46 0, g46 1]) ∧ (A w0 45 2 24 (G l37 2) 1 [g46 0, g46 1] s38 fun v47 s48 => B P 3 .sub (G l37 3) (.int .i64 1) fun v49 => K21 .normal [G l37 0, G l37 1, v47, v49, G l37 5, G l37 6] s48))) | false => (match Nat.beq i44 1 with | true => B P 3 .sub (G l37 3) (.int .i64 1) (fun v50 => K21 .normal [G l37 0, G l37 1, G l37 2, v50, G l37 5, G l37 6] s38) | false => K21 (.exit i44) [G l37 0, G l37 1, G l37 2, G l37 3, G l37 5, G l37 6] s38))) (K21 (.exit 0) [G l20 0, G l20 1, G l20 2, G l20 3, G l20 4, G l20 5] s22)) [.bool false, v5, .slice (some (Addr.mk n16 0 none)) 0 0, v19, C v4 0, C v8 0] s17 fun x51 l52 s53 => match x51 with | .normal => N (G l52 2) (fun v54 => AC P w0 n_impl_DiskWrite ([.agg (⟨[G l52 4]⟩), G l52 2, v54]) s53 fun v55 s56 => V true 1 v55 (AC P w0 n_laws_wdTexts [C v55 0, G l52 5] s56 fun v57 s58 => R v57 s58)) | .ret => R (G l52 0) s53 | .exit i59 => (match Nat.beq i59 0 with | true => N (G l52 2) (fun v60 => AC P w0 n_impl_DiskWrite ([.agg (⟨[G l52 4]⟩), G l52 2, v60]) s53 fun v61 s62 => V true 1 v61 (AC P w0 n_laws_wdTexts [C v61 0, G l52 5] s62 fun v63 s64 => R v63 s64)) | false => False))))))
theorem vc_laws_FnDiskTwo_eq (w0 : World) (a0 : Value) (σ : Vw) (R : Value → Vw → Prop) : vc_laws_FnDiskTwo w0 a0 σ R = den Try.prog w0 kp_laws_FnDiskTwo esc_laws_FnDiskTwo (Try.f4.body.getD .skip) (entry Try.f4.ntmps [a0]) σ (retK Try.prog Try.f4.results.toList R) := by kernel_rfl
theorem ac_laws_FnDiskTwo {w0 : World} {a0 : Value} {σ : Vw} {R : Value → Vw → Prop} (h : vc_laws_FnDiskTwo w0 a0 σ R) : AC Try.prog w0 n_laws_FnDiskTwo [a0] σ R := by
  refine ac_rule (fn := Try.f4) (c := Try.f4.body.getD .skip) kp_laws_FnDiskTwo esc_laws_FnDiskTwo Try.func4 (by kernel_rfl) (by kernel_rfl) ?_
  rw [← vc_laws_FnDiskTwo_eq]
  exact h

/-- spec.DrawDiskWrite -/
def kp_spec_DrawDiskWrite : Nat → Keep
  | 5 => ⟨[5, 7, 8], [(2, 1), (6, 1)], [2, 6], .done, []⟩
  | 7 => ⟨[], [], [], .step 0 (.step 1 (.step 4 (.step 8 (.step 2 (.both (.step 3 (.step 5 (.step 6 (.step 7 (.step 9 (.step 10 (.step 11 (.step 12 (.step 13 (.step 14 (.done))))))))))) (.step 5 (.both (.step 3 (.step 6 (.step 7 (.step 9 (.step 10 (.step 11 (.step 12 (.step 13 (.step 14 (.done)))))))))) (.step 9 (.both (.step 3 (.step 6 (.step 7 (.step 10 (.step 11 (.step 12 (.step 13 (.step 14 (.done))))))))) (.step 10 (.step 3 (.step 6 (.step 7 (.step 11 (.step 12 (.step 13 (.step 14 (.done)))))))))))))))))), [(2, [1]), (3, [1, 2]), (5, [1, 2, 4]), (6, [1, 2, 3, 4, 5]), (7, [1, 2, 3, 4, 5, 6]), (9, [1, 2, 4, 5, 8]), (10, [1, 2, 4, 5, 8, 9]), (11, [1, 2, 3, 4, 5, 6, 7, 8, 9, 10]), (12, [1, 2, 3, 4, 5, 6, 7, 8, 9, 10, 11]), (13, [0, 1, 2, 3, 4, 5, 6, 7, 8, 9, 10, 11, 12]), (14, [0, 1, 2, 3, 4, 5, 6, 7, 8, 9, 10, 11, 12, 13])]⟩
  | 8 => ⟨[], [], [], .step 0 (.step 1 (.step 2 (.step 3 (.step 4 (.step 5 (.step 6 (.step 7 (.done)))))))), [(3, [2]), (4, [2, 3]), (5, [0, 2, 3]), (6, [0, 1, 2, 3, 5]), (7, [0, 1, 2, 3, 4, 5, 6])]⟩
  | _ => ⟨[], [], [], .done, []⟩
def esc_spec_DrawDiskWrite : Nat → Bool
  | 13 => true
  | 23 => true
  | _ => false
def cs_spec_DrawDiskWrite_1 (w0 : World) (g900 : Nat → Value) (v901 : Value) (l902 : List Value) (s903 : Vw) (K904 : AX → List Value → Vw → Prop) (R : Value → Vw → Prop) : Prop :=
  V false 1 (g900 0) (V false 1 v901 (V true 2 (.agg (⟨[g900 0, v901]⟩)) ((allOne [g900 0, v901]) ∧ (A w0 45 2 24 (G l902 1) 1 [g900 0, v901] s903 fun v500 s501 => B P 3 .sub (G l902 2) (.int .i64 1) fun v502 => K904 .normal [G l902 0, v500, v502, G l902 3, G l902 4] s501))))
def vc_spec_DrawDiskWrite (w0 : World) (a0 : Value) (σ : Vw) (R : Value → Vw → Prop) : Prop :=
  AC P w0 n_spec_l1Open [a0] σ fun v0 s1 => AC P w0 n_spec_l24Any [v0] s1 fun v2 s3 => V true 1 v2 (W w0 45 [] s3 fun n4 s5 => AC P w0 n_p_spec_l1Rd_pick [v0, .int .i64 9] s5 fun v6 s7 => pLoop (fun l8 K9 s10 => B P 3 .gtr (G l8 2) (.int .i64 0) fun v11 => Q v11 (AC P w0 n_p_spec_l1Rd_pick [G l8 0, .int .i64 194] s10 fun v12 s13 => (V false 1 v12 (V false 1 (.int .i64 (-1)) (V false 1 (.int .i64 194) (W w0 3 [v12, .int .i64 (-1), .int .i64 194] s13 fun n14 s15 => AC P w0 n_p_spec_l1Rd_pick [G l8 0, .int .i64 3] s15 fun v16 s17 => X 1 (.slice (some (Addr.mk n14 0 none)) 3 3) v16 fun v18 => L w0 1 v18 s17 fun g19 => AC P w0 n_p_spec_l1Rd_pick [G l8 0, .int .i64 66] s17 fun v20 s21 => (Stay w0 s17 s21 v18 1) ∧ (AC P w0 n_spec_l1Many ([.string ({ data := #[119] }), v20]) s21 fun v22 s23 => (Stay w0 s21 s23 v18 1) ∧ (cs_spec_DrawDiskWrite_1 w0 g19 v22 l8 s23 K9 R)))))) ∧ (AC P w0 n_p_spec_l1Rd_pick [G l8 0, .int .i64 3] s13 fun v27 s28 => (V false 1 v12 (V false 1 (.int .i64 (-1)) (V false 1 (.int .i64 194) (W w0 3 [v12, .int .i64 (-1), .int .i64 194] s28 fun n29 s30 => X 1 (.slice (some (Addr.mk n29 0 none)) 3 3) v27 fun v31 => L w0 1 v31 s30 fun g32 => AC P w0 n_p_spec_l1Rd_pick [G l8 0, .int .i64 66] s30 fun v33 s34 => (Stay w0 s30 s34 v31 1) ∧ (AC P w0 n_spec_l1Many ([.string ({ data := #[119] }), v33]) s34 fun v35 s36 => (Stay w0 s34 s36 v31 1) ∧ (cs_spec_DrawDiskWrite_1 w0 g32 v35 l8 s36 K9 R)))))) ∧ (AC P w0 n_p_spec_l1Rd_pick [G l8 0, .int .i64 66] s28 fun v40 s41 => (V false 1 v12 (V false 1 (.int .i64 (-1)) (V false 1 (.int .i64 194) (W w0 3 [v12, .int .i64 (-1), .int .i64 194] s41 fun n42 s43 => X 1 (.slice (some (Addr.mk n42 0 none)) 3 3) v27 fun v44 => L w0 1 v44 s43 fun g45 => AC P w0 n_spec_l1Many ([.string ({ data := #[119] }), v40]) s43 fun v46 s47 => (Stay w0 s43 s47 v44 1) ∧ (cs_spec_DrawDiskWrite_1 w0 g45 v46 l8 s47 K9 R))))) ∧ (AC P w0 n_spec_l1Many ([.string ({ data := #[119] }), v40]) s41 fun v51 s52 => V false 1 v12 (V false 1 (.int .i64 (-1)) (V false 1 (.int .i64 194) (W w0 3 [v12, .int .i64 (-1), .int .i64 194] s52 fun n53 s54 => X 1 (.slice (some (Addr.mk n53 0 none)) 3 3) v27 fun v55 => L w0 1 v55 s54 fun g56 => cs_spec_DrawDiskWrite_1 w0 g56 v51 l8 s54 K9 R))))))) (K9 (.exit 0) [G l8 0, G l8 1, G l8 2, G l8 3, G l8 4] s10)) [v0, .slice (some (Addr.mk n4 0 none)) 0 0, v6, .slice none 0 0, C v2 0] s7 fun x60 l61 s62 => match x60 with | .normal => AC P w0 n_p_spec_l1Rd_pick [G l61 0, .int .i64 11] s62 (fun v63 s64 => B P 3 .sub v63 (.int .i64 1) fun v65 => V true 1 (.agg (⟨[G l61 4]⟩)) (R (.tuple (⟨[.agg (⟨[G l61 4]⟩), G l61 1, v65]⟩)) s64)) | .ret => False | .exit i66 => (match Nat.beq i66 0 with | true => AC P w0 n_p_spec_l1Rd_pick [G l61 0, .int .i64 11] s62 (fun v67 s68 => B P 3 .sub v67 (.int .i64 1) fun v69 => V true 1 (.agg (⟨[G l61 4]⟩)) (R (.tuple (⟨[.agg (⟨[G l61 4]⟩), G l61 1, v69]⟩)) s68)) | false => False))

theorem vc_spec_DrawDiskWrite_eq (w0 : World) (a0 : Value) (σ : Vw) (R : Value → Vw → Prop) : vc_spec_DrawDiskWrite w0 a0 σ R = den Try.prog w0 kp_spec_DrawDiskWrite esc_spec_DrawDiskWrite (Try.f13.body.getD .skip) (entry Try.f13.ntmps [a0]) σ (retK Try.prog Try.f13.results.toList R) := by kernel_rfl
theorem ac_spec_DrawDiskWrite {w0 : World} {a0 : Value} {σ : Vw} {R : Value → Vw → Prop} (h : vc_spec_DrawDiskWrite w0 a0 σ R) : AC Try.prog w0 n_spec_DrawDiskWrite [a0] σ R := by
  refine ac_rule (fn := Try.f13) (c := Try.f13.body.getD .skip) kp_spec_DrawDiskWrite esc_spec_DrawDiskWrite Try.func13 (by kernel_rfl) (by kernel_rfl) ?_
  rw [← vc_spec_DrawDiskWrite_eq]
  exact h

/-- impl.DiskWrite -/
def kp_impl_DiskWrite : Nat → Keep
  | 5 => ⟨[22, 23, 24], [(6, 1), (7, 1)], [6, 7], .done, []⟩
  | _ => ⟨[], [], [], .done, []⟩
def esc_impl_DiskWrite : Nat → Bool
  | _ => false
def vc_impl_DiskWrite (w0 : World) (a0 a1 a2 : Value) (σ : Vw) (R : Value → Vw → Prop) : Prop :=
  V true 1 a0 (AC P w0 n_impl_DiskOk ([.agg (⟨[C a0 0]⟩)]) σ fun v0 s1 => pUn .not v0 fun v2 => Q v2 (V true 1 (.agg (⟨[.slice none 0 0]⟩)) (R (.agg (⟨[.slice none 0 0]⟩)) s1)) (AC P w0 n_impl_cloneDisk ([.agg (⟨[C a0 0]⟩)]) s1 fun v3 s4 => V true 1 v3 (pMax a2 (.int .i64 0) fun v5 => N a1 fun v6 => pMin v5 v6 fun v7 => pSlice 2 a1 none (some v7) fun v8 => N v8 fun v9 => pLoop (fun l10 K11 s12 => B P 3 .lss (G l10 2) (G l10 1) fun v13 => Q v13 (X 2 (G l10 0) (G l10 2) fun v14 => L w0 2 v14 s12 fun g15 => V true 2 (.agg (⟨[g15 0, g15 1]⟩)) (AC P w0 n_impl_within [g15 0, .int .i64 0, .int .i64 193] s12 fun v16 s17 => Q v16 (pLenS (g15 1) fun v18 => B P 3 .leq v18 (.int .i64 64) fun v19 => Q v19 (X 1 (G l10 4) (g15 0) fun v20 => V false 1 (g15 1) (pStore v20 [g15 1] s17 fun s21 => B P 3 .add (G l10 2) (.int .i64 1) fun v22 => K11 .normal [G l10 0, G l10 1, v22, G l10 3, G l10 4] s21)) (B P 3 .add (G l10 2) (.int .i64 1) fun v23 => K11 .normal [G l10 0, G l10 1, v23, G l10 3, G l10 4] s17)) (B P 3 .add (G l10 2) (.int .i64 1) fun v24 => K11 .normal [G l10 0, G l10 1, v24, G l10 3, G l10 4] s17))) (K11 (.exit 0) [G l10 0, G l10 1, G l10 2, G l10 3, G l10 4] s12)) [v8, v9, .int .i64 0, .slice none 0 0, C v3 0] s4 fun x25 l26 s27 => match x25 with | .normal => V true 1 (.agg (⟨[G l26 4]⟩)) (R (.agg (⟨[G l26 4]⟩)) s27) | .ret => R (.agg (⟨[G l26 3]⟩)) s27 | .exit i28 => (match Nat.beq i28 0 with | true => V true 1 (.agg (⟨[G l26 4]⟩)) (R (.agg (⟨[G l26 4]⟩)) s27) | false => False))))
theorem vc_impl_DiskWrite_eq (w0 : World) (a0 a1 a2 : Value) (σ : Vw) (R : Value → Vw → Prop) : vc_impl_DiskWrite w0 a0 a1 a2 σ R = den Try.prog w0 kp_impl_DiskWrite esc_impl_DiskWrite (Try.f14.body.getD .skip) (entry Try.f14.ntmps [a0, a1, a2]) σ (retK Try.prog Try.f14.results.toList R) := by kernel_rfl
theorem ac_impl_DiskWrite {w0 : World} {a0 a1 a2 : Value} {σ : Vw} {R : Value → Vw → Prop} (h : vc_impl_DiskWrite w0 a0 a1 a2 σ R) : AC Try.prog w0 n_impl_DiskWrite [a0, a1, a2] σ R := by
  refine ac_rule (fn := Try.f14) (c := Try.f14.body.getD .skip) kp_impl_DiskWrite esc_impl_DiskWrite Try.func14 (by kernel_rfl) (by kernel_rfl) ?_
  rw [← vc_impl_DiskWrite_eq]
  exact h

/-- laws.wdTexts -/
def kp_laws_wdTexts : Nat → Keep
  | 4 => ⟨[0, 1, 4, 5], [], [], .done, []⟩
  | 6 => ⟨[], [], [], .step 0 (.step 1 (.step 2 (.step 3 (.step 4 (.step 5 (.step 6 (.step 7 (.step 8 (.done))))))))), [(2, [0, 1]), (3, [0, 1, 2]), (6, [4, 5]), (7, [4, 5, 6]), (8, [0, 1, 2, 3, 4, 5, 6, 7])]⟩
  | _ => ⟨[], [], [], .done, []⟩
def esc_laws_wdTexts : Nat → Bool
  | _ => false
def vc_laws_wdTexts (w0 : World) (a0 a1 : Value) (σ : Vw) (R : Value → Vw → Prop) : Prop :=
  N a0 fun v0 => N a1 fun v1 => B P 3 .neq v0 v1 fun v2 => Q v2 (R (.bool false) σ) (pLoop (fun l3 K4 s5 => N (G l3 0) fun v6 => B P 3 .lss (G l3 3) v6 fun v7 => Q v7 (X 1 (G l3 0) (G l3 3) fun v8 => L w0 1 v8 s5 fun g9 => X 1 (G l3 1) (G l3 3) fun v10 => L w0 1 v10 s5 fun g11 => B P 9 .neq (g9 0) (g11 0) fun v12 => Q v12 (K4 .ret [G l3 0, G l3 1, .bool false, G l3 3] s5) (B P 3 .add (G l3 3) (.int .i64 1) fun v13 => K4 .normal [G l3 0, G l3 1, G l3 2, v13] s5)) (K4 (.exit 0) [G l3 0, G l3 1, G l3 2, G l3 3] s5)) [a0, a1, .bool false, .int .i64 0] σ fun x14 l15 s16 => match x14 with | .normal => R (.bool true) s16 | .ret => R (G l15 2) s16 | .exit i17 => (match Nat.beq i17 0 with | true => R (.bool true) s16 | false => False))
theorem vc_laws_wdTexts_eq (w0 : World) (a0 a1 : Value) (σ : Vw) (R : Value → Vw → Prop) : vc_laws_wdTexts w0 a0 a1 σ R = den Try.prog w0 kp_laws_wdTexts esc_laws_wdTexts (Try.f15.body.getD .skip) (entry Try.f15.ntmps [a0, a1]) σ (retK Try.prog Try.f15.results.toList R) := by kernel_rfl
theorem ac_laws_wdTexts {w0 : World} {a0 a1 : Value} {σ : Vw} {R : Value → Vw → Prop} (h : vc_laws_wdTexts w0 a0 a1 σ R) : AC Try.prog w0 n_laws_wdTexts [a0, a1] σ R := by
  refine ac_rule (fn := Try.f15) (c := Try.f15.body.getD .skip) kp_laws_wdTexts esc_laws_wdTexts Try.func15 (by kernel_rfl) (by kernel_rfl) ?_
  rw [← vc_laws_wdTexts_eq]
  exact h

/-- spec.DiskWrite -/
def kp_spec_DiskWrite : Nat → Keep
  | 5 => ⟨[1, 2, 8], [(6, 1), (7, 1)], [6, 7], .done, []⟩
  | 8 => ⟨[], [], [], .step 0 (.step 1 (.step 2 (.step 3 (.step 4 (.step 5 (.step 6 (.step 7 (.step 8 (.step 9 (.step 10 (.step 11 (.step 12 (.step 13 (.done)))))))))))))), [(1, [0]), (4, [2, 3]), (5, [2, 3, 4]), (6, [2, 3, 4, 5]), (9, [7, 8]), (10, [7, 8, 9]), (11, [7, 8, 9, 10]), (12, [0, 1, 2, 3, 4, 5, 6, 7, 8, 9, 10, 11]), (13, [0, 1, 2, 3, 4, 5, 6, 7, 8, 9, 10, 11, 12])]⟩
  | _ => ⟨[], [], [], .done, []⟩
def esc_spec_DiskWrite : Nat → Bool
  | _ => false
def vc_spec_DiskWrite (w0 : World) (a0 a1 a2 : Value) (σ : Vw) (R : Value → Vw → Prop) : Prop :=
  V true 1 a0 (AC P w0 n_spec_DiskOk ([.agg (⟨[C a0 0]⟩)]) σ fun v0 s1 => pUn .not v0 fun v2 => Q v2 (V true 1 (.agg (⟨[.slice none 0 0]⟩)) (R (.agg (⟨[.slice none 0 0]⟩)) s1)) (AC P w0 n_spec_l21Copy ([.agg (⟨[C a0 0]⟩)]) s1 fun v3 s4 => V true 1 v3 (pLoop (fun l5 K6 s7 => N (G l5 0) fun v8 => B P 3 .lss (G l5 2) v8 fun v9 => Q v9 (B P 3 .lss (G l5 2) (G l5 1) fun v10 => Q v10 (X 2 (G l5 0) (G l5 2) fun v11 => L w0 2 v11 s7 fun g12 => AC P w0 n_spec_l21RawOk ([.agg (⟨[g12 0, g12 1]⟩)]) s7 fun v13 s14 => Q v13 (X 2 (G l5 0) (G l5 2) fun v15 => F 0 v15 fun v16 => L w0 1 v16 s14 fun g17 => X 2 (G l5 0) (G l5 2) fun v18 => F 1 v18 fun v19 => L w0 1 v19 s14 fun g20 => X 1 (G l5 4) (g17 0) fun v21 => V false 1 (g20 0) (pStore v21 [g20 0] s14 fun s22 => B P 3 .add (G l5 2) (.int .i64 1) fun v23 => K6 .normal [G l5 0, G l5 1, v23, G l5 3, G l5 4] s22)) (B P 3 .add (G l5 2) (.int .i64 1) fun v24 => K6 .normal [G l5 0, G l5 1, v24, G l5 3, G l5 4] s14)) (K6 (.exit 0) [G l5 0, G l5 1, G l5 2, G l5 3, G l5 4] s7)) (K6 (.exit 0) [G l5 0, G l5 1, G l5 2, G l5 3, G l5 4] s7)) [a1, a2, .int .i64 0, .slice none 0 0, C v3 0] s4 fun x25 l26 s27 => match x25 with | .normal => V true 1 (.agg (⟨[G l26 4]⟩)) (R (.agg (⟨[G l26 4]⟩)) s27) | .ret => R (.agg (⟨[G l26 3]⟩)) s27 | .exit i28 => (match Nat.beq i28 0 with | true => V true 1 (.agg (⟨[G l26 4]⟩)) (R (.agg (⟨[G l26 4]⟩)) s27) | false => False))))
theorem vc_spec_DiskWrite_eq (w0 : World) (a0 a1 a2 : Value) (σ : Vw) (R : Value → Vw → Prop) : vc_spec_DiskWrite w0 a0 a1 a2 σ R = den Try.prog w0 kp_spec_DiskWrite esc_spec_DiskWrite (Try.f16.body.getD .skip) (entry Try.f16.ntmps [a0, a1, a2]) σ (retK Try.prog Try.f16.results.toList R) := by kernel_rfl
theorem ac_spec_DiskWrite {w0 : World} {a0 a1 a2 : Value} {σ : Vw} {R : Value → Vw → Prop} (h : vc_spec_DiskWrite w0 a0 a1 a2 σ R) : AC Try.prog w0 n_spec_DiskWrite [a0, a1, a2] σ R := by
  refine ac_rule (fn := Try.f16) (c := Try.f16.body.getD .skip) kp_spec_DiskWrite esc_spec_DiskWrite Try.func16 (by kernel_rfl) (by kernel_rfl) ?_
  rw [← vc_spec_DiskWrite_eq]
  exact h

/-- spec.DiskOk -/
def kp_spec_DiskOk : Nat → Keep
  | 2 => ⟨[2, 3], [(1, 1)], [1], .done, []⟩
  | _ => ⟨[], [], [], .done, []⟩
def esc_spec_DiskOk : Nat → Bool
  | _ => false
def vc_spec_DiskOk (w0 : World) (a0 : Value) (σ : Vw) (R : Value → Vw → Prop) : Prop :=
  V true 1 a0 (pLoop (fun l0 K1 s2 => N (G l0 2) fun v3 => B P 3 .lss (G l0 1) v3 fun v4 => Q v4 (X 1 (G l0 2) (G l0 1) fun v5 => L w0 1 v5 s2 fun g6 => pLenS (g6 0) fun v7 => B P 3 .gtr v7 (.int .i64 64) fun v8 => Q v8 (K1 .ret [.bool false, G l0 1, G l0 2] s2) (B P 3 .add (G l0 1) (.int .i64 1) fun v9 => K1 .normal [G l0 0, v9, G l0 2] s2)) (K1 (.exit 0) [G l0 0, G l0 1, G l0 2] s2)) [.bool false, .int .i64 0, C a0 0] σ fun x10 l11 s12 => match x10 with | .normal => N (G l11 2) (fun v13 => B P 3 .eql v13 (.int .i64 194) fun v14 => R v14 s12) | .ret => R (G l11 0) s12 | .exit i15 => (match Nat.beq i15 0 with | true => N (G l11 2) (fun v16 => B P 3 .eql v16 (.int .i64 194) fun v17 => R v17 s12) | false => False))
theorem vc_spec_DiskOk_eq (w0 : World) (a0 : Value) (σ : Vw) (R : Value → Vw → Prop) : vc_spec_DiskOk w0 a0 σ R = den Try.prog w0 kp_spec_DiskOk esc_spec_DiskOk (Try.f17.body.getD .skip) (entry Try.f17.ntmps [a0]) σ (retK Try.prog Try.f17.results.toList R) := by kernel_rfl
theorem ac_spec_DiskOk {w0 : World} {a0 : Value} {σ : Vw} {R : Value → Vw → Prop} (h : vc_spec_DiskOk w0 a0 σ R) : AC Try.prog w0 n_spec_DiskOk [a0] σ R := by
  refine ac_rule (fn := Try.f17) (c := Try.f17.body.getD .skip) kp_spec_DiskOk esc_spec_DiskOk Try.func17 (by kernel_rfl) (by kernel_rfl) ?_
  rw [← vc_spec_DiskOk_eq]
  exact h

/-- impl.DiskOk -/
def kp_impl_DiskOk : Nat → Keep
  | 2 => ⟨[2, 6, 7, 8], [(1, 1)], [1], .done, []⟩
  | _ => ⟨[], [], [], .done, []⟩
def esc_impl_DiskOk : Nat → Bool
  | _ => false
def vc_impl_DiskOk (w0 : World) (a0 : Value) (σ : Vw) (R : Value → Vw → Prop) : Prop :=
  V true 1 a0 (N (C a0 0) fun v0 => pLoop (fun l1 K2 s3 => B P 3 .lss (G l1 3) (G l1 2) fun v4 => Q v4 (X 1 (G l1 1) (G l1 3) fun v5 => L w0 1 v5 s3 fun g6 => pLenS (g6 0) fun v7 => B P 3 .gtr v7 (.int .i64 64) fun v8 => Q v8 (K2 .ret [.bool false, G l1 1, G l1 2, G l1 3, G l1 4] s3) (B P 3 .add (G l1 3) (.int .i64 1) fun v9 => K2 .normal [G l1 0, G l1 1, G l1 2, v9, G l1 4] s3)) (K2 (.exit 0) [G l1 0, G l1 1, G l1 2, G l1 3, G l1 4] s3)) [.bool false, C a0 0, v0, .int .i64 0, C a0 0] σ fun x10 l11 s12 => match x10 with | .normal => N (G l11 4) (fun v13 => B P 3 .eql v13 (.int .i64 194) fun v14 => R v14 s12) | .ret => R (G l11 0) s12 | .exit i15 => (match Nat.beq i15 0 with | true => N (G l11 4) (fun v16 => B P 3 .eql v16 (.int .i64 194) fun v17 => R v17 s12) | false => False))
theorem vc_impl_DiskOk_eq (w0 : World) (a0 : Value) (σ : Vw) (R : Value → Vw → Prop) : vc_impl_DiskOk w0 a0 σ R = den Try.prog w0 kp_impl_DiskOk esc_impl_DiskOk (Try.f18.body.getD .skip) (entry Try.f18.ntmps [a0]) σ (retK Try.prog Try.f18.results.toList R) := by kernel_rfl
theorem ac_impl_DiskOk {w0 : World} {a0 : Value} {σ : Vw} {R : Value → Vw → Prop} (h : vc_impl_DiskOk w0 a0 σ R) : AC Try.prog w0 n_impl_DiskOk [a0] σ R := by
  refine ac_rule (fn := Try.f18) (c := Try.f18.body.getD .skip) kp_impl_DiskOk esc_impl_DiskOk Try.func18 (by kernel_rfl) (by kernel_rfl) ?_
  rw [← vc_impl_DiskOk_eq]
  exact h

def esc_impl_PagesOk : Nat → Bool
  | 3 => true
  | _ => false
/-- spec.l1Open -/
def kp_spec_l1Open : Nat → Keep
  | _ => ⟨[], [], [], .done, []⟩
def esc_spec_l1Open : Nat → Bool
  | 10 => true
  | _ => false
def vc_spec_l1Open (w0 : World) (a0 : Value) (σ : Vw) (R : Value → Vw → Prop) : Prop :=
  N a0 fun v0 => B P 3 .gtr v0 (.int .i64 2000) fun v1 => Q v1 (pSlice 1 a0 none (some (.int .i64 2000)) fun v2 => V false 1 v2 (V true 2 (.agg (⟨[v2, .int .i64 0]⟩)) (W w0 81 [v2, .int .i64 0] σ fun n3 s4 => R (.pointer (some (Addr.mk n3 0 none))) s4))) (V false 1 a0 (V true 2 (.agg (⟨[a0, .int .i64 0]⟩)) (W w0 81 [a0, .int .i64 0] σ fun n5 s6 => R (.pointer (some (Addr.mk n5 0 none))) s6)))
theorem vc_spec_l1Open_eq (w0 : World) (a0 : Value) (σ : Vw) (R : Value → Vw → Prop) : vc_spec_l1Open w0 a0 σ R = den Try.prog w0 kp_spec_l1Open esc_spec_l1Open (Try.f25.body.getD .skip) (entry Try.f25.ntmps [a0]) σ (retK Try.prog Try.f25.results.toList R) := by kernel_rfl
theorem ac_spec_l1Open {w0 : World} {a0 : Value} {σ : Vw} {R : Value → Vw → Prop} (h : vc_spec_l1Open w0 a0 σ R) : AC Try.prog w0 n_spec_l1Open [a0] σ R := by
  refine ac_rule (fn := Try.f25) (c := Try.f25.body.getD .skip) kp_spec_l1Open esc_spec_l1Open Try.func25 (by kernel_rfl) (by kernel_rfl) ?_
  rw [← vc_spec_l1Open_eq]
  exact h

/-- spec.l24Any -/
def kp_spec_l24Any : Nat → Keep
  | _ => ⟨[], [], [], .done, []⟩
def esc_spec_l24Any : Nat → Bool
  | _ => false
def vc_spec_l24Any (w0 : World) (a0 : Value) (σ : Vw) (R : Value → Vw → Prop) : Prop :=
  AC P w0 n_spec_l24Disk [a0] σ fun v0 s1 => V true 1 v0 (AC P w0 n_p_spec_l1Rd_pick [a0, .int .i64 6] s1 fun v2 s3 => B P 3 .eql v2 (.int .i64 0) fun v4 => Q v4 (AC P w0 n_spec_l24Spoil ([a0, .agg (⟨[C v0 0]⟩)]) s3 fun v5 s6 => V true 1 v5 (R (.agg (⟨[C v5 0]⟩)) s6)) (V true 1 (.agg (⟨[C v0 0]⟩)) (R (.agg (⟨[C v0 0]⟩)) s3)))
theorem vc_spec_l24Any_eq (w0 : World) (a0 : Value) (σ : Vw) (R : Value → Vw → Prop) : vc_spec_l24Any w0 a0 σ R = den Try.prog w0 kp_spec_l24Any esc_spec_l24Any (Try.f33.body.getD .skip) (entry Try.f33.ntmps [a0]) σ (retK Try.prog Try.f33.results.toList R) := by kernel_rfl
theorem ac_spec_l24Any {w0 : World} {a0 : Value} {σ : Vw} {R : Value → Vw → Prop} (h : vc_spec_l24Any w0 a0 σ R) : AC Try.prog w0 n_spec_l24Any [a0] σ R := by
  refine ac_rule (fn := Try.f33) (c := Try.f33.body.getD .skip) kp_spec_l24Any esc_spec_l24Any Try.func33 (by kernel_rfl) (by kernel_rfl) ?_
  rw [← vc_spec_l24Any_eq]
  exact h

/-- (*spec.l1Rd).pick -/
def kp_p_spec_l1Rd_pick : Nat → Keep
  | 7 => ⟨[], [], [], .step 0 (.step 1 (.step 2 (.step 3 (.step 4 (.step 5 (.step 6 (.step 7 (.step 8 (.step 9 (.step 10 (.step 11 (.step 12 (.step 13 (.step 14 (.step 15 (.step 16 (.step 17 (.step 18 (.step 19 (.step 20 (.step 21 (.step 22 (.step 23 (.step 24 (.step 25 (.step 26 (.step 27 (.step 28 (.step 29 (.step 30 (.step 31 (.step 32 (.step 33 (.step 34 (.step 35 (.step 36 (.step 37 (.step 38 (.step 39 (.step 40 (.step 41 (.step 42 (.step 43 (.step 44 (.step 45 (.done)))))))))))))))))))))))))))))))))))))))))))))), [(1, [0]), (2, [0, 1]), (3, [0, 1, 2]), (6, [5]), (7, [5, 6]), (8, [5, 6, 7]), (9, [5, 6, 7, 8]), (10, [4, 5, 6, 7, 8, 9]), (11, [0, 1, 2, 3, 4, 5, 6, 7, 8, 9, 10]), (12, [0, 1, 2, 3, 4, 5, 6, 7, 8, 9, 10, 11]), (13, [0, 1, 2, 3, 4, 5, 6, 7, 8, 9, 10, 11, 12]), (14, [0, 1, 2, 3, 4, 5, 6, 7, 8, 9, 10, 11, 12, 13]), (16, [15]), (17, [15, 16]), (18, [15, 16, 17]), (20, [19]), (21, [19, 20]), (23, [22]), (24, [22, 23]), (25, [22, 23, 24]), (26, [22, 23, 24, 25]), (27, [19, 20, 21, 22, 23, 24, 25, 26]), (28, [15, 16, 17, 18, 19, 20, 21, 22, 23, 24, 25, 26, 27]), (29, [15, 16, 17, 18, 19, 20, 21, 22, 23, 24, 25, 26, 27, 28]), (30, [15, 16, 17, 18, 19, 20, 21, 22, 23, 24, 25, 26, 27, 28, 29]), (31, [15, 16, 17, 18, 19, 20, 21, 22, 23, 24, 25, 26, 27, 28, 29, 30]), (32, [0, 1, 2, 3, 4, 5, 6, 7, 8, 9, 10, 11, 12, 13, 14, 15, 16, 17, 18, 19, 20, 21, 22, 23, 24, 25, 26, 27, 28, 29, 30, 31]), (34, [33]), (35, [0, 1, 2, 3, 4, 5, 6, 7, 8, 9, 10, 11, 12, 13, 14, 15, 16, 17, 18, 19, 20, 21, 22, 23, 24, 25, 26, 27, 28, 29, 30, 31, 32, 33, 34]), (38, [37]), (39, [37, 38]), (40, [37, 38, 39]), (41, [37, 38, 39, 40]), (42, [36, 37, 38, 39, 40, 41]), (43, [36, 37, 38, 39, 40, 41, 42]), (44, [0, 1, 2, 3, 4, 5, 6, 7, 8, 9, 10, 11, 12, 13, 14, 15, 16, 17, 18, 19, 20, 21, 22, 23, 24, 25, 26, 27, 28, 29, 30, 31, 32, 33, 34, 35, 36, 37, 38, 39, 40, 41, 42, 43]), (45, [0, 1, 2, 3, 4, 5, 6, 7, 8, 9, 10, 11, 12, 13, 14, 15, 16, 17, 18, 19, 20, 21, 22, 23, 24, 25, 26, 27, 28, 29, 30, 31, 32, 33, 34, 35, 36, 37, 38, 39, 40, 41, 42, 43, 44])]⟩
  | _ => ⟨[], [], [], .done, []⟩
def esc_p_spec_l1Rd_pick : Nat → Bool
  | _ => false
def vc_p_spec_l1Rd_pick (w0 : World) (a0 a1 : Value) (σ : Vw) (R : Value → Vw → Prop) : Prop :=
  pNil a0 (F 1 a0 fun v0 => L w0 1 v0 σ fun g1 => B P 3 .add (g1 0) (.int .i64 1) fun v2 => pNil a0 (F 1 a0 fun v3 => V false 1 v2 (pStore v3 [v2] σ fun s4 => B P 3 .lss a1 (.int .i64 1) fun v5 => Q v5 (R (.int .i64 0) s4) (pNil a0 (F 0 a0 fun v6 => L w0 1 v6 s4 fun g7 => N (g7 0) fun v8 => B P 3 .eql v8 (.int .i64 0) fun v9 => Q v9 (R (.int .i64 0) s4) (pNil a0 (F 1 a0 fun v10 => L w0 1 v10 s4 fun g11 => B P 3 .sub (g11 0) (.int .i64 1) fun v12 => pNil a0 (F 0 a0 fun v13 => L w0 1 v13 s4 fun g14 => N (g14 0) fun v15 => B P 3 .lss v12 v15 fun v16 => Q v16 (pNil a0 (F 0 a0 fun v17 => L w0 1 v17 s4 fun g18 => X 1 (g18 0) v12 fun v19 => L w0 1 v19 s4 fun g20 => pConvInt .i64 (g20 0) fun v21 => B P 3 .rem v21 a1 fun v22 => R v22 s4)) (pNil a0 (F 0 a0 fun v23 => L w0 1 v23 s4 fun g24 => pNil a0 (F 0 a0 fun v25 => L w0 1 v25 s4 fun g26 => N (g26 0) fun v27 => B P 3 .rem v12 v27 fun v28 => X 1 (g24 0) v28 fun v29 => L w0 1 v29 s4 fun g30 => pConvInt .i64 (g30 0) fun v31 => B P 3 .mul v31 (.int .i64 131) fun v32 => pNil a0 (F 0 a0 fun v33 => L w0 1 v33 s4 fun g34 => B P 3 .mul v12 (.int .i64 7) fun v35 => B P 3 .add v35 (.int .i64 3) fun v36 => pNil a0 (F 0 a0 fun v37 => L w0 1 v37 s4 fun g38 => N (g38 0) fun v39 => B P 3 .rem v36 v39 fun v40 => X 1 (g34 0) v40 fun v41 => L w0 1 v41 s4 fun g42 => pConvInt .i64 (g42 0) fun v43 => B P 3 .mul v43 (.int .i64 1117) fun v44 => B P 3 .add v32 v44 fun v45 => B P 3 .mul v12 (.int .i64 29) fun v46 => B P 3 .add v45 v46 fun v47 => pNil a0 (F 0 a0 fun v48 => L w0 1 v48 s4 fun g49 => N (g49 0) fun v50 => B P 3 .quo v12 v50 fun v51 => B P 3 .mul v51 (.int .i64 53) fun v52 => B P 3 .add v47 v52 fun v53 => B P 3 .quo v53 (.int .i64 64) fun v54 => B P 3 .xor v53 v54 fun v55 => B P 3 .rem v55 a1 fun v56 => R v56 s4))))))))))))))
theorem vc_p_spec_l1Rd_pick_eq (w0 : World) (a0 a1 : Value) (σ : Vw) (R : Value → Vw → Prop) : vc_p_spec_l1Rd_pick w0 a0 a1 σ R = den Try.prog w0 kp_p_spec_l1Rd_pick esc_p_spec_l1Rd_pick (Try.f34.body.getD .skip) (entry Try.f34.ntmps [a0, a1]) σ (retK Try.prog Try.f34.results.toList R) := by kernel_rfl
theorem ac_p_spec_l1Rd_pick {w0 : World} {a0 a1 : Value} {σ : Vw} {R : Value → Vw → Prop} (h : vc_p_spec_l1Rd_pick w0 a0 a1 σ R) : AC Try.prog w0 n_p_spec_l1Rd_pick [a0, a1] σ R := by
  refine ac_rule (fn := Try.f34) (c := Try.f34.body.getD .skip) kp_p_spec_l1Rd_pick esc_p_spec_l1Rd_pick Try.func34 (by kernel_rfl) (by kernel_rfl) ?_
  rw [← vc_p_spec_l1Rd_pick_eq]
  exact h

/-- spec.l1Many -/
def kp_spec_l1Many : Nat → Keep
  | 2 => ⟨[0, 1, 5], [], [], .done, []⟩
  | _ => ⟨[], [], [], .done, []⟩
def esc_spec_l1Many : Nat → Bool
  | _ => false
def vc_spec_l1Many (w0 : World) (a0 a1 : Value) (σ : Vw) (R : Value → Vw → Prop) : Prop :=
  pLoop (fun l0 K1 s2 => B P 3 .gtr (G l0 1) (.int .i64 0) fun v3 => Q v3 (B P 3 .rem (G l0 1) (.int .i64 2) fun v4 => B P 3 .eql v4 (.int .i64 1) fun v5 => Q v5 (B P 9 .add (G l0 2) (G l0 0) fun v6 => B P 9 .add (G l0 0) (G l0 0) fun v7 => B P 3 .quo (G l0 1) (.int .i64 2) fun v8 => K1 .normal [v7, v8, v6] s2) (B P 9 .add (G l0 0) (G l0 0) fun v9 => B P 3 .quo (G l0 1) (.int .i64 2) fun v10 => K1 .normal [v9, v10, G l0 2] s2)) (K1 (.exit 0) [G l0 0, G l0 1, G l0 2] s2)) ([a0, a1, .string ({ data := #[] })]) σ fun x11 l12 s13 => match x11 with | .normal => R (G l12 2) s13 | .ret => False | .exit i14 => (match Nat.beq i14 0 with | true => R (G l12 2) s13 | false => False)
theorem vc_spec_l1Many_eq (w0 : World) (a0 a1 : Value) (σ : Vw) (R : Value → Vw → Prop) : vc_spec_l1Many w0 a0 a1 σ R = den Try.prog w0 kp_spec_l1Many esc_spec_l1Many (Try.f35.body.getD .skip) (entry Try.f35.ntmps [a0, a1]) σ (retK Try.prog Try.f35.results.toList R) := by kernel_rfl
theorem ac_spec_l1Many {w0 : World} {a0 a1 : Value} {σ : Vw} {R : Value → Vw → Prop} (h : vc_spec_l1Many w0 a0 a1 σ R) : AC Try.prog w0 n_spec_l1Many [a0, a1] σ R := by
  refine ac_rule (fn := Try.f35) (c := Try.f35.body.getD .skip) kp_spec_l1Many esc_spec_l1Many Try.func35 (by kernel_rfl) (by kernel_rfl) ?_
  rw [← vc_spec_l1Many_eq]
  exact h

/-- impl.cloneDisk -/
def kp_impl_cloneDisk : Nat → Keep
  | _ => ⟨[], [], [], .done, []⟩
def esc_impl_cloneDisk : Nat → Bool
  | 3 => true
  | _ => false
def vc_impl_cloneDisk (w0 : World) (a0 : Value) (σ : Vw) (R : Value → Vw → Prop) : Prop :=
  V true 1 a0 (W w0 9 [] σ fun n0 s1 => pAppendS w0 9 1 16 (.slice (some (Addr.mk n0 0 none)) 0 0) (C a0 0) s1 fun v2 s3 => V false 1 v2 (V true 1 (.agg ⟨[v2]⟩) (R (.agg ⟨[v2]⟩) s3)))
theorem vc_impl_cloneDisk_eq (w0 : World) (a0 : Value) (σ : Vw) (R : Value → Vw → Prop) : vc_impl_cloneDisk w0 a0 σ R = den Try.prog w0 kp_impl_cloneDisk esc_impl_cloneDisk (Try.f36.body.getD .skip) (entry Try.f36.ntmps [a0]) σ (retK Try.prog Try.f36.results.toList R) := by kernel_rfl
theorem ac_impl_cloneDisk {w0 : World} {a0 : Value} {σ : Vw} {R : Value → Vw → Prop} (h : vc_impl_cloneDisk w0 a0 σ R) : AC Try.prog w0 n_impl_cloneDisk [a0] σ R := by
  refine ac_rule (fn := Try.f36) (c := Try.f36.body.getD .skip) kp_impl_cloneDisk esc_impl_cloneDisk Try.func36 (by kernel_rfl) (by kernel_rfl) ?_
  rw [← vc_impl_cloneDisk_eq]
  exact h

/-- impl.within -/
def kp_impl_within : Nat → Keep
  | _ => ⟨[], [], [], .done, []⟩
def esc_impl_within : Nat → Bool
  | _ => false
def vc_impl_within (w0 : World) (a0 a1 a2 : Value) (σ : Vw) (R : Value → Vw → Prop) : Prop :=
  B P 3 .geq a0 a1 fun v0 => Q v0 (B P 3 .leq a0 a2 fun v1 => R v1 σ) (R (.bool false) σ)
theorem vc_impl_within_eq (w0 : World) (a0 a1 a2 : Value) (σ : Vw) (R : Value → Vw → Prop) : vc_impl_within w0 a0 a1 a2 σ R = den Try.prog w0 kp_impl_within esc_impl_within (Try.f37.body.getD .skip) (entry Try.f37.ntmps [a0, a1, a2]) σ (retK Try.prog Try.f37.results.toList R) := by kernel_rfl
theorem ac_impl_within {w0 : World} {a0 a1 a2 : Value} {σ : Vw} {R : Value → Vw → Prop} (h : vc_impl_within w0 a0 a1 a2 σ R) : AC Try.prog w0 n_impl_within [a0, a1, a2] σ R := by
  refine ac_rule (fn := Try.f37) (c := Try.f37.body.getD .skip) kp_impl_within esc_impl_within Try.func37 (by kernel_rfl) (by kernel_rfl) ?_
  rw [← vc_impl_within_eq]
  exact h

/-- spec.l21Copy -/
def kp_spec_l21Copy : Nat → Keep
  | _ => ⟨[], [], [], .done, []⟩
def esc_spec_l21Copy : Nat → Bool
  | 3 => true
  | _ => false
def vc_spec_l21Copy (w0 : World) (a0 : Value) (σ : Vw) (R : Value → Vw → Prop) : Prop :=
  V true 1 a0 (W w0 9 [] σ fun n0 s1 => pAppendS w0 9 1 16 (.slice (some (Addr.mk n0 0 none)) 0 0) (C a0 0) s1 fun v2 s3 => V false 1 v2 (V true 1 (.agg ⟨[v2]⟩) (R (.agg ⟨[v2]⟩) s3)))
theorem vc_spec_l21Copy_eq (w0 : World) (a0 : Value) (σ : Vw) (R : Value → Vw → Prop) : vc_spec_l21Copy w0 a0 σ R = den Try.prog w0 kp_spec_l21Copy esc_spec_l21Copy (Try.f38.body.getD .skip) (entry Try.f38.ntmps [a0]) σ (retK Try.prog Try.f38.results.toList R) := by kernel_rfl
theorem ac_spec_l21Copy {w0 : World} {a0 : Value} {σ : Vw} {R : Value → Vw → Prop} (h : vc_spec_l21Copy w0 a0 σ R) : AC Try.prog w0 n_spec_l21Copy [a0] σ R := by
  refine ac_rule (fn := Try.f38) (c := Try.f38.body.getD .skip) kp_spec_l21Copy esc_spec_l21Copy Try.func38 (by kernel_rfl) (by kernel_rfl) ?_
  rw [← vc_spec_l21Copy_eq]
  exact h

/-- spec.l21RawOk -/
def kp_spec_l21RawOk : Nat → Keep
  | _ => ⟨[], [], [], .done, []⟩
def esc_spec_l21RawOk : Nat → Bool
  | _ => false
def vc_spec_l21RawOk (w0 : World) (a0 : Value) (σ : Vw) (R : Value → Vw → Prop) : Prop :=
  V true 2 a0 (AC P w0 n_spec_l21In [C a0 0, .int .i64 0, .int .i64 193] σ fun v0 s1 => Q v0 (pLenS (C a0 1) fun v2 => B P 3 .leq v2 (.int .i64 64) fun v3 => R v3 s1) (R (.bool false) s1))
theorem vc_spec_l21RawOk_eq (w0 : World) (a0 : Value) (σ : Vw) (R : Value → Vw → Prop) : vc_spec_l21RawOk w0 a0 σ R = den Try.prog w0 kp_spec_l21RawOk esc_spec_l21RawOk (Try.f39.body.getD .skip) (entry Try.f39.ntmps [a0]) σ (retK Try.prog Try.f39.results.toList R) := by kernel_rfl
theorem ac_spec_l21RawOk {w0 : World} {a0 : Value} {σ : Vw} {R : Value → Vw → Prop} (h : vc_spec_l21RawOk w0 a0 σ R) : AC Try.prog w0 n_spec_l21RawOk [a0] σ R := by
  refine ac_rule (fn := Try.f39) (c := Try.f39.body.getD .skip) kp_spec_l21RawOk esc_spec_l21RawOk Try.func39 (by kernel_rfl) (by kernel_rfl) ?_
  rw [← vc_spec_l21RawOk_eq]
  exact h

/-- spec.l24Disk -/
def kp_spec_l24Disk : Nat → Keep
  | _ => ⟨[], [], [], .done, []⟩
def esc_spec_l24Disk : Nat → Bool
  | _ => false
def vc_spec_l24Disk (w0 : World) (a0 : Value) (σ : Vw) (R : Value → Vw → Prop) : Prop :=
  AC P w0 n_spec_l24New [a0] σ fun v0 s1 => AC P w0 n_spec_l24Steps [a0, .int .i64 14] s1 fun v2 s3 => AC P w0 n_spec_StorePlay [v0, v2] s3 fun v4 s5 => E v4 0 fun v6 => E v4 1 fun v7 => E v4 2 fun v8 => V true 1 v6 (V true 4 v7 (V true 1 (.agg (⟨[C v6 0]⟩)) (R (.agg (⟨[C v6 0]⟩)) s5)))
theorem vc_spec_l24Disk_eq (w0 : World) (a0 : Value) (σ : Vw) (R : Value → Vw → Prop) : vc_spec_l24Disk w0 a0 σ R = den Try.prog w0 kp_spec_l24Disk esc_spec_l24Disk (Try.f53.body.getD .skip) (entry Try.f53.ntmps [a0]) σ (retK Try.prog Try.f53.results.toList R) := by kernel_rfl
theorem ac_spec_l24Disk {w0 : World} {a0 : Value} {σ : Vw} {R : Value → Vw → Prop} (h : vc_spec_l24Disk w0 a0 σ R) : AC Try.prog w0 n_spec_l24Disk [a0] σ R := by
  refine ac_rule (fn := Try.f53) (c := Try.f53.body.getD .skip) kp_spec_l24Disk esc_spec_l24Disk Try.func53 (by kernel_rfl) (by kernel_rfl) ?_
  rw [← vc_spec_l24Disk_eq]
  exact h

/-- spec.l24Spoil -/
def kp_spec_l24Spoil : Nat → Keep
  | 3 => ⟨[], [], [], .step 0 (.step 1 (.step 2 (.step 3 (.step 4 (.step 5 (.step 6 (.step 7 (.step 8 (.done))))))))), [(1, [0]), (4, [3]), (5, [3, 4]), (6, [2, 3, 4, 5]), (7, [0, 1, 2, 3, 4, 5, 6]), (8, [0, 1, 2, 3, 4, 5, 6, 7])]⟩
  | 7 => ⟨[], [], [], .step 0 (.step 1 (.step 2 (.step 3 (.step 4 (.step 5 (.step 7 (.step 6 (.step 8 (.step 9 (.step 10 (.step 11 (.step 12 (.done))))))))))))), [(1, [0]), (4, [3]), (5, [3, 4]), (6, [2, 3, 4, 5]), (8, [2, 3, 4, 5, 6, 7]), (9, [2, 3, 4, 5, 6, 7, 8]), (10, [2, 3, 4, 5, 6, 7, 8, 9]), (11, [0, 1, 2, 3, 4, 5, 6, 7, 8, 9, 10]), (12, [0, 1, 2, 3, 4, 5, 6, 7, 8, 9, 10, 11])]⟩
  | 9 => ⟨[], [], [], .step 0 (.step 1 (.step 2 (.step 4 (.both (.step 3 (.step 5 (.step 6 (.step 7 (.step 8 (.done)))))) (.step 5 (.step 3 (.step 6 (.step 7 (.step 8 (.done)))))))))), [(1, [0]), (3, [2]), (6, [2, 3, 4, 5]), (7, [0, 1, 2, 3, 4, 5, 6]), (8, [0, 1, 2, 3, 4, 5, 6, 7])]⟩
  | 11 => ⟨[], [], [], .step 0 (.step 1 (.step 2 (.step 5 (.both (.step 3 (.step 4 (.step 6 (.step 7 (.step 8 (.step 9 (.done))))))) (.step 6 (.step 3 (.step 4 (.step 7 (.step 8 (.step 9 (.done))))))))))), [(1, [0]), (3, [2]), (4, [2, 3]), (7, [2, 3, 5, 6]), (8, [0, 1, 2, 3, 4, 5, 6, 7]), (9, [0, 1, 2, 3, 4, 5, 6, 7, 8])]⟩
  | _ => ⟨[], [], [], .done, []⟩
def esc_spec_l24Spoil : Nat → Bool
  | 49 => true
  | 60 => true
  | _ => false
def vc_spec_l24Spoil (w0 : World) (a0 a1 : Value) (σ : Vw) (R : Value → Vw → Prop) : Prop :=
  V true 1 a1 (AC P w0 n_spec_l21Copy ([.agg (⟨[C a1 0]⟩)]) σ fun v0 s1 => V true 1 v0 (AC P w0 n_p_spec_l1Rd_pick [a0, .int .i64 5] s1 fun v2 s3 => B P 3 .eql v2 (.int .i64 0) fun v4 => Q v4 (N (C v0 0) fun v5 => B P 3 .sub v5 (.int .i64 1) fun v6 => pSlice 1 (C v0 0) none (some v6) fun v7 => V false 1 v7 (V true 1 (.agg ⟨[v7]⟩) (R (.agg ⟨[v7]⟩) s3))) (B P 3 .eql v2 (.int .i64 1) fun v8 => Q v8 (N (C v0 0) fun v9 => AC P w0 n_p_spec_l1Rd_pick [a0, v9] s3 fun v10 s11 => AC P w0 n_p_spec_l1Rd_pick [a0, .int .i64 2] s11 fun v12 s13 => B P 3 .add (.int .i64 64) v12 fun v14 => AC P w0 n_spec_l1Many ([.string ({ data := #[113] }), v14]) s13 fun v15 s16 => X 1 (C v0 0) v10 fun v17 => V false 1 v15 (pStore v17 [v15] s16 fun s18 => V true 1 (.agg (⟨[C v0 0]⟩)) (R (.agg (⟨[C v0 0]⟩)) s18))) (B P 3 .eql v2 (.int .i64 2) fun v19 => Q v19 ((AC P w0 n_p_spec_l1Rd_pick [a0, .int .i64 2] s3 fun v20 s21 => V false 1 (.string ({ data := #[] })) (V false 1 (.string ({ data := #[67, 32, 49, 32, 48] })) (V false 1 (.string ({ data := #[67, 32, 50, 32, 57] })) (V false 1 (.string ({ data := #[67, 32, 50, 32, 53, 48, 48, 48] })) (V false 1 (.string ({ data := #[67, 32, 51, 32, 51, 50, 48, 48] })) (V false 1 (.string ({ data := #[67, 32, 48, 32, 48] })) (V false 1 (.string ({ data := #[67, 32, 49] })) (V false 1 (.string ({ data := #[88, 32, 49, 32, 49] })) (V false 1 (.string ({ data := #[67, 32, 48, 49, 32, 48] })) (V false 1 (.string ({ data := #[67, 32, 57, 57, 57, 57, 57, 32, 48] })) (V false 1 (.string ({ data := #[67, 32, 57, 57, 57, 57, 56, 32, 49] })) (W w0 9 ([.string ({ data := #[] }), .string ({ data := #[67, 32, 49, 32, 48] }), .string ({ data := #[67, 32, 50, 32, 57] }), .string ({ data := #[67, 32, 50, 32, 53, 48, 48, 48] }), .string ({ data := #[67, 32, 51, 32, 51, 50, 48, 48] }), .string ({ data := #[67, 32, 48, 32, 48] }), .string ({ data := #[67, 32, 49] }), .string ({ data := #[88, 32, 49, 32, 49] }), .string ({ data := #[67, 32, 48, 49, 32, 48] }), .string ({ data := #[67, 32, 57, 57, 57, 57, 57, 32, 48] }), .string ({ data := #[67, 32, 57, 57, 57, 57, 56, 32, 49] })]) s21 fun n22 s23 => AC P w0 n_p_spec_l1Rd_of [a0, .slice (some (Addr.mk n22 0 none)) 11 11] s23 fun v24 s25 => X 1 (C v0 0) v20 fun v26 => V false 1 v24 (pStore v26 [v24] s25 fun s27 => V true 1 (.agg (⟨[C v0 0]⟩)) (R (.agg (⟨[C v0 0]⟩)) s27)))))))))))))) ∧ (V false 1 (.string ({ data := #[] })) (V false 1 (.string ({ data := #[67, 32, 49, 32, 48] })) (V false 1 (.string ({ data := #[67, 32, 50, 32, 57] })) (V false 1 (.string ({ data := #[67, 32, 50, 32, 53, 48, 48, 48] })) (V false 1 (.string ({ data := #[67, 32, 51, 32, 51, 50, 48, 48] })) (V false 1 (.string ({ data := #[67, 32, 48, 32, 48] })) (V false 1 (.string ({ data := #[67, 32, 49] })) (V false 1 (.string ({ data := #[88, 32, 49, 32, 49] })) (V false 1 (.string ({ data := #[67, 32, 48, 49, 32, 48] })) (V false 1 (.string ({ data := #[67, 32, 57, 57, 57, 57, 57, 32, 48] })) (V false 1 (.string ({ data := #[67, 32, 57, 57, 57, 57, 56, 32, 49] })) (W w0 9 ([.string ({ data := #[] }), .string ({ data := #[67, 32, 49, 32, 48] }), .string ({ data := #[67, 32, 50, 32, 57] }), .string ({ data := #[67, 32, 50, 32, 53, 48, 48, 48] }), .string ({ data := #[67, 32, 51, 32, 51, 50, 48, 48] }), .string ({ data := #[67, 32, 48, 32, 48] }), .string ({ data := #[67, 32, 49] }), .string ({ data := #[88, 32, 49, 32, 49] }), .string ({ data := #[67, 32, 48, 49, 32, 48] }), .string ({ data := #[67, 32, 57, 57, 57, 57, 57, 32, 48] }), .string ({ data := #[67, 32, 57, 57, 57, 57, 56, 32, 49] })]) s3 fun n28 s29 => AC P w0 n_p_spec_l1Rd_pick [a0, .int .i64 2] s29 fun v30 s31 => AC P w0 n_p_spec_l1Rd_of [a0, .slice (some (Addr.mk n28 0 none)) 11 11] s31 fun v32 s33 => X 1 (C v0 0) v30 fun v34 => V false 1 v32 (pStore v34 [v32] s33 fun s35 => V true 1 (.agg (⟨[C v0 0]⟩)) (R (.agg (⟨[C v0 0]⟩)) s35))))))))))))))) (B P 3 .eql v2 (.int .i64 3) fun v36 => Q v36 ((AC P w0 n_p_spec_l1Rd_pick [a0, .int .i64 12] s3 fun v37 s38 => B P 3 .add (.int .i64 2) v37 fun v39 => V false 1 (.string ({ data := #[] })) (V false 1 (.string ({ data := #[68] })) (V false 1 (.string ({ data := #[72, 32, 49, 32, 48, 32, 48] })) (V false 1 (.string ({ data := #[72, 32, 50, 32, 48, 32, 53] })) (V false 1 (.string ({ data := #[72, 32, 49, 32, 49, 32, 54, 48, 48] })) (V false 1 (.string ({ data := #[72, 32, 49, 32, 48, 32, 54, 48, 49] })) (V false 1 (.string ({ data := #[68, 97, 98, 99] })) (W w0 9 ([.string ({ data := #[] }), .string ({ data := #[68] }), .string ({ data := #[72, 32, 49, 32, 48, 32, 48] }), .string ({ data := #[72, 32, 50, 32, 48, 32, 53] }), .string ({ data := #[72, 32, 49, 32, 49, 32, 54, 48, 48] }), .string ({ data := #[72, 32, 49, 32, 48, 32, 54, 48, 49] }), .string ({ data := #[68, 97, 98, 99] })]) s38 fun n40 s41 => AC P w0 n_p_spec_l1Rd_of [a0, .slice (some (Addr.mk n40 0 none)) 7 7] s41 fun v42 s43 => X 1 (C v0 0) v39 fun v44 => V false 1 v42 (pStore v44 [v42] s43 fun s45 => V true 1 (.agg (⟨[C v0 0]⟩)) (R (.agg (⟨[C v0 0]⟩)) s45)))))))))) ∧ (V false 1 (.string ({ data := #[] })) (V false 1 (.string ({ data := #[68] })) (V false 1 (.string ({ data := #[72, 32, 49, 32, 48, 32, 48] })) (V false 1 (.string ({ data := #[72, 32, 50, 32, 48, 32, 53] })) (V false 1 (.string ({ data := #[72, 32, 49, 32, 49, 32, 54, 48, 48] })) (V false 1 (.string ({ data := #[72, 32, 49, 32, 48, 32, 54, 48, 49] })) (V false 1 (.string ({ data := #[68, 97, 98, 99] })) (W w0 9 ([.string ({ data := #[] }), .string ({ data := #[68] }), .string ({ data := #[72, 32, 49, 32, 48, 32, 48] }), .string ({ data := #[72, 32, 50, 32, 48, 32, 53] }), .string ({ data := #[72, 32, 49, 32, 49, 32, 54, 48, 48] }), .string ({ data := #[72, 32, 49, 32, 48, 32, 54, 48, 49] }), .string ({ data := #[68, 97, 98, 99] })]) s3 fun n46 s47 => AC P w0 n_p_spec_l1Rd_pick [a0, .int .i64 12] s47 fun v48 s49 => B P 3 .add (.int .i64 2) v48 fun v50 => AC P w0 n_p_spec_l1Rd_of [a0, .slice (some (Addr.mk n46 0 none)) 7 7] s49 fun v51 s52 => X 1 (C v0 0) v50 fun v53 => V false 1 v51 (pStore v53 [v51] s52 fun s54 => V true 1 (.agg (⟨[C v0 0]⟩)) (R (.agg (⟨[C v0 0]⟩)) s54))))))))))) (N (C v0 0) fun v55 => AC P w0 n_p_spec_l1Rd_pick [a0, v55] s3 fun v56 s57 => X 1 (C v0 0) v56 fun v58 => V false 1 (.string ({ data := #[] })) (pStore v58 ([.string ({ data := #[] })]) s57 fun s59 => V true 1 (.agg (⟨[C v0 0]⟩)) (R (.agg (⟨[C v0 0]⟩)) s59))))))))
theorem vc_spec_l24Spoil_eq (w0 : World) (a0 a1 : Value) (σ : Vw) (R : Value → Vw → Prop) : vc_spec_l24Spoil w0 a0 a1 σ R = den Try.prog w0 kp_spec_l24Spoil esc_spec_l24Spoil (Try.f54.body.getD .skip) (entry Try.f54.ntmps [a0, a1]) σ (retK Try.prog Try.f54.results.toList R) := by kernel_rfl
theorem ac_spec_l24Spoil {w0 : World} {a0 a1 : Value} {σ : Vw} {R : Value → Vw → Prop} (h : vc_spec_l24Spoil w0 a0 a1 σ R) : AC Try.prog w0 n_spec_l24Spoil [a0, a1] σ R := by
  refine ac_rule (fn := Try.f54) (c := Try.f54.body.getD .skip) kp_spec_l24Spoil esc_spec_l24Spoil Try.func54 (by kernel_rfl) (by kernel_rfl) ?_
  rw [← vc_spec_l24Spoil_eq]
  exact h

/-- spec.l21In -/
def kp_spec_l21In : Nat → Keep
  | _ => ⟨[], [], [], .done, []⟩
def esc_spec_l21In : Nat → Bool
  | _ => false
def vc_spec_l21In (w0 : World) (a0 a1 a2 : Value) (σ : Vw) (R : Value → Vw → Prop) : Prop :=
  B P 3 .geq a0 a1 fun v0 => Q v0 (B P 3 .leq a0 a2 fun v1 => R v1 σ) (R (.bool false) σ)
theorem vc_spec_l21In_eq (w0 : World) (a0 a1 a2 : Value) (σ : Vw) (R : Value → Vw → Prop) : vc_spec_l21In w0 a0 a1 a2 σ R = den Try.prog w0 kp_spec_l21In esc_spec_l21In (Try.f55.body.getD .skip) (entry Try.f55.ntmps [a0, a1, a2]) σ (retK Try.prog Try.f55.results.toList R) := by kernel_rfl
theorem ac_spec_l21In {w0 : World} {a0 a1 a2 : Value} {σ : Vw} {R : Value → Vw → Prop} (h : vc_spec_l21In w0 a0 a1 a2 σ R) : AC Try.prog w0 n_spec_l21In [a0, a1, a2] σ R := by
  refine ac_rule (fn := Try.f55) (c := Try.f55.body.getD .skip) kp_spec_l21In esc_spec_l21In Try.func55 (by kernel_rfl) (by kernel_rfl) ?_
  rw [← vc_spec_l21In_eq]
  exact h

end Go.Proofs.Ytlfnfpdipghdiaa

/- What each function owes, reckoned out, part 2. MADE BY PROGRAM (emit.py). -/
set_option linter.unusedVariables false
namespace Go.Proofs.Ytlfnfpdipghdiaa
open Go.Av renaming vget → G, cellOf → C, pVal → V, pBin → B, pIndexAddr → X, pLoad → L, pField → F, pIf → Q, pExtract → E, pAppend → A, pLen → N, pNew → W
open Go.Proofs.Try renaming prog → P
open Go Go.Av

/-- (*spec.l1Rd).of -/
def kp_p_spec_l1Rd_of : Nat → Keep
  | _ => ⟨[], [], [], .done, []⟩
def esc_p_spec_l1Rd_of : Nat → Bool
  | _ => false
def vc_p_spec_l1Rd_of (w0 : World) (a0 a1 : Value) (σ : Vw) (R : Value → Vw → Prop) : Prop :=
  N a1 fun v0 => AC P w0 n_p_spec_l1Rd_pick [a0, v0] σ fun v1 s2 => X 1 a1 v1 fun v3 => L w0 1 v3 s2 fun g4 => R (g4 0) s2
theorem vc_p_spec_l1Rd_of_eq (w0 : World) (a0 a1 : Value) (σ : Vw) (R : Value → Vw → Prop) : vc_p_spec_l1Rd_of w0 a0 a1 σ R = den Try.prog w0 kp_p_spec_l1Rd_of esc_p_spec_l1Rd_of (Try.f56.body.getD .skip) (entry Try.f56.ntmps [a0, a1]) σ (retK Try.prog Try.f56.results.toList R) := by kernel_rfl
theorem ac_p_spec_l1Rd_of {w0 : World} {a0 a1 : Value} {σ : Vw} {R : Value → Vw → Prop} (h : vc_p_spec_l1Rd_of w0 a0 a1 σ R) : AC Try.prog w0 n_p_spec_l1Rd_of [a0, a1] σ R := by
  refine ac_rule (fn := Try.f56) (c := Try.f56.body.getD .skip) kp_p_spec_l1Rd_of esc_p_spec_l1Rd_of Try.func56 (by kernel_rfl) (by kernel_rfl) ?_
  rw [← vc_p_spec_l1Rd_of_eq]
  exact h

def vc_slices_IndexFunc_impl_PageName_impl_PageName (w0 : World) (a0 a1 : Value) (σ : Vw) (R : Value → Vw → Prop) : Prop :=
  N a0 fun v0 => pLoop (fun l1 K2 s3 => B P 3 .lss (G l1 4) (G l1 3) fun v4 => Q v4 (X 3 (G l1 0) (G l1 4) fun v5 => L w0 3 v5 s3 fun g6 => pCallV (fun n7 l8 s9 K10 => AC P w0 n7 l8 s9 K10) (G l1 1) ([.agg (⟨[g6 0, g6 1, g6 2]⟩)]) s3 fun v11 s12 => Q v11 (K2 .ret [G l1 0, G l1 1, G l1 4, G l1 3, G l1 4] s12) (B P 3 .add (G l1 4) (.int .i64 1) fun v13 => K2 .normal [G l1 0, G l1 1, G l1 2, G l1 3, v13] s12)) (K2 (.exit 0) [G l1 0, G l1 1, G l1 2, G l1 3, G l1 4] s3)) [a0, a1, .int .i64 0, v0, .int .i64 0] σ fun x14 l15 s16 => match x14 with | .normal => R (.int .i64 (-1)) s16 | .ret => R (G l15 2) s16 | .exit i17 => (match Nat.beq i17 0 with | true => R (.int .i64 (-1)) s16 | false => False)
/-- slices.Delete[[]impl.PageName,impl.PageName] -/
def kp_slices_Delete_impl_PageName_impl_PageName : Nat → Keep
  | 5 => ⟨[], [], [], .step 0 (.step 1 (.step 2 (.step 3 (.step 4 (.step 5 (.step 6 (.step 7 (.done)))))))), [(2, [0, 1]), (5, [3, 4]), (6, [0, 1, 2, 3, 4, 5]), (7, [0, 1, 2, 3, 4, 5, 6])]⟩
  | _ => ⟨[], [], [], .done, []⟩
/-- spec.PagesNew -/
def kp_spec_PagesNew : Nat → Keep
  | 3 => ⟨[2], [(0, 2), (1, 2)], [0, 1], .done, []⟩
  | _ => ⟨[], [], [], .done, []⟩
/-- spec.StorePlay -/
def kp_spec_StorePlay : Nat → Keep
  | 6 => ⟨[1, 6, 10], [(4, 1), (5, 4), (7, 4), (9, 1)], [4, 5, 7, 9], .done, []⟩
  | 8 => ⟨[], [], [], .step 0 (.step 1 (.step 2 (.step 3 (.step 4 (.step 5 (.step 11 (.step 12 (.step 6 (.step 7 (.step 8 (.step 9 (.step 10 (.step 13 (.step 14 (.step 15 (.done)))))))))))))))), [(4, [2, 3]), (5, [2, 3, 4]), (6, [0, 1, 2, 3, 4, 5]), (7, [0, 1, 2, 3, 4, 5, 6]), (8, [0, 1, 2, 3, 4, 5, 6, 7]), (9, [0, 1, 2, 3, 4, 5, 6, 7]), (10, [0, 1, 2, 3, 4, 5, 6, 7]), (13, [0, 1, 2, 3, 4, 5, 6, 7, 8, 11, 12]), (14, [0, 1, 2, 3, 4, 5, 6, 7, 8, 9, 11, 12, 13]), (15, [0, 1, 2, 3, 4, 5, 6, 7, 8, 9, 10, 11, 12, 13, 14])]⟩
  | 13 => ⟨[], [], [], .step 0 (.step 2 (.step 1 (.step 3 (.step 4 (.step 5 (.step 6 (.done))))))), [(1, [0]), (3, [0, 1, 2]), (4, [0, 1, 2, 3]), (5, [0, 1, 2, 3, 4]), (6, [0, 1, 2, 3, 4, 5])]⟩
  | _ => ⟨[], [], [], .done, []⟩
def esc_spec_StorePlay : Nat → Bool
  | _ => false
def vc_spec_StorePlay (w0 : World) (a0 a1 : Value) (σ : Vw) (R : Value → Vw → Prop) : Prop :=
  V true 1 a0 (AC P w0 n_spec_StoreOpen ([.agg (⟨[C a0 0]⟩)]) σ fun v0 s1 => E v0 0 fun v2 => E v0 1 fun v3 => V true 4 v2 (pUn .not v3 fun v4 => Q v4 (V true 1 (.agg (⟨[.slice none 0 0]⟩)) (V true 4 (.agg (⟨[.int .i64 0, .string ({ data := #[] }), .slice none 0 0, .int .i64 0]⟩)) (R (.tuple (⟨[.agg (⟨[.slice none 0 0]⟩), .agg (⟨[.int .i64 0, .string ({ data := #[] }), .slice none 0 0, .int .i64 0]⟩), .bool false]⟩)) s1))) (AC P w0 n_spec_l21Copy ([.agg (⟨[C a0 0]⟩)]) s1 fun v5 s6 => V true 1 v5 (pLoop (fun l7 K8 s9 => N (G l7 0) fun v10 => B P 3 .lss (G l7 2) v10 fun v11 => Q v11 (X 3 (G l7 0) (G l7 2) fun v12 => L w0 3 v12 s9 fun g13 => AC P w0 n_spec_l23Step ([.agg (⟨[G l7 12]⟩), .agg (⟨[G l7 8, G l7 9, G l7 10, G l7 11]⟩), .agg (⟨[g13 0, g13 1, g13 2]⟩)]) s9 fun v14 s15 => E v14 0 fun v16 => E v14 1 fun v17 => E v14 2 fun v18 => V true 1 v16 (V true 4 v17 (pUn .not v18 fun v19 => Q v19 (V true 1 (.agg (⟨[.slice none 0 0]⟩)) (V true 4 (.agg (⟨[.int .i64 0, .string ({ data := #[] }), .slice none 0 0, .int .i64 0]⟩)) (K8 .ret ([G l7 0, .bool false, G l7 2, .slice none 0 0, .int .i64 0, .string ({ data := #[] }), .slice none 0 0, .int .i64 0, G l7 8, G l7 9, G l7 10, G l7 11, G l7 12]) s15))) (V true 1 (.agg (⟨[C v16 0]⟩)) (V true 4 (.agg (⟨[C v17 0, C v17 1, C v17 2, C v17 3]⟩)) (B P 3 .add (G l7 2) (.int .i64 1) fun v20 => K8 .normal [G l7 0, G l7 1, v20, G l7 3, G l7 4, G l7 5, G l7 6, G l7 7, C v17 0, C v17 1, C v17 2, C v17 3, C v16 0] s15)))))) (K8 (.exit 0) [G l7 0, G l7 1, G l7 2, G l7 3, G l7 4, G l7 5, G l7 6, G l7 7, G l7 8, G l7 9, G l7 10, G l7 11, G l7 12] s9)) ([a1, .bool false, .int .i64 0, .slice none 0 0, .int .i64 0, .string ({ data := #[] }), .slice none 0 0, .int .i64 0, C v2 0, C v2 1, C v2 2, C v2 3, C v5 0]) s6 fun x21 l22 s23 => match x21 with | .normal => AC P w0 n_spec_l21Copy ([.agg (⟨[G l22 12]⟩)]) s23 (fun v24 s25 => AC P w0 n_spec_l22Copy ([.agg (⟨[G l22 8, G l22 9, G l22 10, G l22 11]⟩)]) s25 fun v26 s27 => V true 1 v24 (V true 4 v26 (R (.tuple (⟨[.agg (⟨[C v24 0]⟩), .agg (⟨[C v26 0, C v26 1, C v26 2, C v26 3]⟩), .bool true]⟩)) s27))) | .ret => R (.tuple (⟨[.agg (⟨[G l22 3]⟩), .agg (⟨[G l22 4, G l22 5, G l22 6, G l22 7]⟩), G l22 1]⟩)) s23 | .exit i28 => (match Nat.beq i28 0 with | true => AC P w0 n_spec_l21Copy ([.agg (⟨[G l22 12]⟩)]) s23 (fun v29 s30 => AC P w0 n_spec_l22Copy ([.agg (⟨[G l22 8, G l22 9, G l22 10, G l22 11]⟩)]) s30 fun v31 s32 => V true 1 v29 (V true 4 v31 (R (.tuple (⟨[.agg (⟨[C v29 0]⟩), .agg (⟨[C v31 0, C v31 1, C v31 2, C v31 3]⟩), .bool true]⟩)) s32))) | false => False)))))
theorem vc_spec_StorePlay_eq (w0 : World) (a0 a1 : Value) (σ : Vw) (R : Value → Vw → Prop) : vc_spec_StorePlay w0 a0 a1 σ R = den Try.prog w0 kp_spec_StorePlay esc_spec_StorePlay (Try.f65.body.getD .skip) (entry Try.f65.ntmps [a0, a1]) σ (retK Try.prog Try.f65.results.toList R) := by kernel_rfl
theorem ac_spec_StorePlay {w0 : World} {a0 a1 : Value} {σ : Vw} {R : Value → Vw → Prop} (h : vc_spec_StorePlay w0 a0 a1 σ R) : AC Try.prog w0 n_spec_StorePlay [a0, a1] σ R := by
  refine ac_rule (fn := Try.f65) (c := Try.f65.body.getD .skip) kp_spec_StorePlay esc_spec_StorePlay Try.func65 (by kernel_rfl) (by kernel_rfl) ?_
  rw [← vc_spec_StorePlay_eq]
  exact h

/-- spec.l24New -/
def kp_spec_l24New : Nat → Keep
  | _ => ⟨[], [], [], .done, []⟩
def esc_spec_l24New : Nat → Bool
  | _ => false
def vc_spec_l24New (w0 : World) (a0 : Value) (σ : Vw) (R : Value → Vw → Prop) : Prop :=
  AC P w0 n_p_spec_l1Rd_pick [a0, .int .i64 200] σ fun v0 s1 => AC P w0 n_spec_l1Many ([.string ({ data := #[116] }), v0]) s1 fun v2 s3 => AC P w0 n_spec_StoreNew [v2] s3 fun v4 s5 => E v4 0 fun v6 => E v4 1 fun v7 => AC P w0 n_spec_l24Blank [] s5 fun v8 s9 => N v6 fun v10 => AC P w0 n_spec_DiskWrite [v8, v6, v10] s9 fun v11 s12 => V true 1 v11 (R (.agg (⟨[C v11 0]⟩)) s12)
theorem vc_spec_l24New_eq (w0 : World) (a0 : Value) (σ : Vw) (R : Value → Vw → Prop) : vc_spec_l24New w0 a0 σ R = den Try.prog w0 kp_spec_l24New esc_spec_l24New (Try.f66.body.getD .skip) (entry Try.f66.ntmps [a0]) σ (retK Try.prog Try.f66.results.toList R) := by kernel_rfl
theorem ac_spec_l24New {w0 : World} {a0 : Value} {σ : Vw} {R : Value → Vw → Prop} (h : vc_spec_l24New w0 a0 σ R) : AC Try.prog w0 n_spec_l24New [a0] σ R := by
  refine ac_rule (fn := Try.f66) (c := Try.f66.body.getD .skip) kp_spec_l24New esc_spec_l24New Try.func66 (by kernel_rfl) (by kernel_rfl) ?_
  rw [← vc_spec_l24New_eq]
  exact h

/-- spec.l24Steps -/
def kp_spec_l24Steps : Nat → Keep
  | 3 => ⟨[0, 5, 6], [], [], .done, []⟩
  | _ => ⟨[], [], [], .done, []⟩
def esc_spec_l24Steps : Nat → Bool
  | 8 => true
  | _ => false
def vc_spec_l24Steps (w0 : World) (a0 a1 : Value) (σ : Vw) (R : Value → Vw → Prop) : Prop :=
  W w0 102 [] σ fun n0 s1 => AC P w0 n_p_spec_l1Rd_pick [a0, a1] s1 fun v2 s3 => pLoop (fun l4 K5 s6 => B P 3 .gtr (G l4 2) (.int .i64 0) fun v7 => Q v7 (AC P w0 n_spec_l24Group [G l4 0] s6 fun v8 s9 => V false 1 v8 (V false 1 (.int .i64 (-1)) (V true 3 (.agg (⟨[.bool false, v8, .int .i64 (-1)]⟩)) (AC P w0 n_p_spec_l1Rd_pick [G l4 0, .int .i64 4] s9 fun v10 s11 => B P 3 .eql v10 (.int .i64 0) fun v12 => Q v12 (V false 1 (.bool true) (AC P w0 n_spec_l24Text [G l4 0] s11 fun v13 s14 => V false 1 v13 (AC P w0 n_p_spec_l1Rd_pick [G l4 0, .int .i64 3] s14 fun v15 s16 => B P 3 .eql v15 (.int .i64 0) fun v17 => Q v17 (AC P w0 n_p_spec_l1Rd_pick [G l4 0, .int .i64 12] s16 fun v18 s19 => AC P w0 n_p_spec_l1Rd_pick [G l4 0, .int .i64 2] s19 fun v20 s21 => B P 3 .mul v18 v20 fun v22 => V false 1 v22 (AC P w0 n_p_spec_l1Rd_pick [G l4 0, .int .i64 4] s21 fun v23 s24 => B P 3 .eql v23 (.int .i64 0) fun v25 => Q v25 (AC P w0 n_p_spec_l1Rd_pick [G l4 0, .int .i64 70] s24 fun v26 s27 => V false 1 v26 (V true 3 (.agg (⟨[.bool true, v13, v26]⟩)) ((allOne [.bool true, v13, v26]) ∧ (A w0 102 3 32 (G l4 1) 1 [.bool true, v13, v26] s27 fun v28 s29 => B P 3 .sub (G l4 2) (.int .i64 1) fun v30 => K5 .normal [G l4 0, v28, v30] s29)))) (V true 3 (.agg (⟨[.bool true, v13, v22]⟩)) ((allOne [.bool true, v13, v22]) ∧ (A w0 102 3 32 (G l4 1) 1 [.bool true, v13, v22] s24 fun v31 s32 => B P 3 .sub (G l4 2) (.int .i64 1) fun v33 => K5 .normal [G l4 0, v31, v33] s32))))) (V true 3 (.agg (⟨[.bool true, v13, .int .i64 (-1)]⟩)) ((allOne [.bool true, v13, .int .i64 (-1)]) ∧ (A w0 102 3 32 (G l4 1) 1 [.bool true, v13, .int .i64 (-1)] s16 fun v34 s35 => B P 3 .sub (G l4 2) (.int .i64 1) fun v36 => K5 .normal [G l4 0, v34, v36] s35)))))) (AC P w0 n_p_spec_l1Rd_pick [G l4 0, .int .i64 3] s11 fun v37 s38 => B P 3 .eql v37 (.int .i64 0) fun v39 => Q v39 (AC P w0 n_p_spec_l1Rd_pick [G l4 0, .int .i64 12] s38 fun v40 s41 => AC P w0 n_p_spec_l1Rd_pick [G l4 0, .int .i64 2] s41 fun v42 s43 => B P 3 .mul v40 v42 fun v44 => V false 1 v44 (AC P w0 n_p_spec_l1Rd_pick [G l4 0, .int .i64 4] s43 fun v45 s46 => B P 3 .eql v45 (.int .i64 0) fun v47 => Q v47 (AC P w0 n_p_spec_l1Rd_pick [G l4 0, .int .i64 70] s46 fun v48 s49 => V false 1 v48 (V true 3 (.agg (⟨[.bool false, v8, v48]⟩)) ((allOne [.bool false, v8, v48]) ∧ (A w0 102 3 32 (G l4 1) 1 [.bool false, v8, v48] s49 fun v50 s51 => B P 3 .sub (G l4 2) (.int .i64 1) fun v52 => K5 .normal [G l4 0, v50, v52] s51)))) (V true 3 (.agg (⟨[.bool false, v8, v44]⟩)) ((allOne [.bool false, v8, v44]) ∧ (A w0 102 3 32 (G l4 1) 1 [.bool false, v8, v44] s46 fun v53 s54 => B P 3 .sub (G l4 2) (.int .i64 1) fun v55 => K5 .normal [G l4 0, v53, v55] s54))))) (V true 3 (.agg (⟨[.bool false, v8, .int .i64 (-1)]⟩)) ((allOne [.bool false, v8, .int .i64 (-1)]) ∧ (A w0 102 3 32 (G l4 1) 1 [.bool false, v8, .int .i64 (-1)] s38 fun v56 s57 => B P 3 .sub (G l4 2) (.int .i64 1) fun v58 => K5 .normal [G l4 0, v56, v58] s57)))))))) (K5 (.exit 0) [G l4 0, G l4 1, G l4 2] s6)) [a0, .slice (some (Addr.mk n0 0 none)) 0 0, v2] s3 fun x59 l60 s61 => match x59 with | .normal => R (G l60 1) s61 | .ret => False | .exit i62 => (match Nat.beq i62 0 with | true => R (G l60 1) s61 | false => False)
theorem vc_spec_l24Steps_eq (w0 : World) (a0 a1 : Value) (σ : Vw) (R : Value → Vw → Prop) : vc_spec_l24Steps w0 a0 a1 σ R = den Try.prog w0 kp_spec_l24Steps esc_spec_l24Steps (Try.f67.body.getD .skip) (entry Try.f67.ntmps [a0, a1]) σ (retK Try.prog Try.f67.results.toList R) := by kernel_rfl
theorem ac_spec_l24Steps {w0 : World} {a0 a1 : Value} {σ : Vw} {R : Value → Vw → Prop} (h : vc_spec_l24Steps w0 a0 a1 σ R) : AC Try.prog w0 n_spec_l24Steps [a0, a1] σ R := by
  refine ac_rule (fn := Try.f67) (c := Try.f67.body.getD .skip) kp_spec_l24Steps esc_spec_l24Steps Try.func67 (by kernel_rfl) (by kernel_rfl) ?_
  rw [← vc_spec_l24Steps_eq]
  exact h

/-- spec.StoreOpen -/
def kp_spec_StoreOpen : Nat → Keep
  | 10 => ⟨[], [], [], .step 0 (.step 1 (.step 3 (.step 2 (.step 4 (.step 5 (.step 6 (.step 7 (.step 8 (.step 9 (.done)))))))))), [(2, [1]), (4, [0, 1, 2, 3]), (5, [0, 1, 2, 3, 4]), (6, [0, 1, 2, 3, 4, 5]), (7, [0, 1, 2, 3, 4, 5]), (8, [0, 1, 2, 3, 4, 5, 6]), (9, [0, 1, 2, 3, 4, 5, 6, 7, 8])]⟩
  | 14 => ⟨[3, 4], [(1, 1), (2, 4), (10, 4)], [1, 2, 10], .done, []⟩
  | _ => ⟨[], [], [], .done, []⟩
def esc_spec_StoreOpen : Nat → Bool
  | _ => false
def cs_spec_StoreOpen_2 (w0 : World) (s900 : Vw) (R : Value → Vw → Prop) : Prop :=
  V true 4 (.agg (⟨[.int .i64 0, .string ({ data := #[] }), .slice none 0 0, .int .i64 0]⟩)) (R (.tuple (⟨[.agg (⟨[.int .i64 0, .string ({ data := #[] }), .slice none 0 0, .int .i64 0]⟩), .bool false]⟩)) s900)
def cs_spec_StoreOpen_1 (w0 : World) (v900 : Value) (s901 : Vw) (v902 : Value) (v903 : Value) (R : Value → Vw → Prop) : Prop :=
  B P 3 .eql v900 (.int .i64 0) (fun v500 => Q v500 (cs_spec_StoreOpen_2 w0 s901 R) (AC P w0 n_spec_l22Area [v900] s901 fun v501 s502 => AC P w0 n_spec_l22Text ([.agg (⟨[C v902 0]⟩), v501, .int .i64 90, v903, .int .i64 0]) s502 fun v503 s504 => E v503 0 fun v505 => E v503 1 fun v506 => pUn .not v506 fun v507 => Q v507 (cs_spec_StoreOpen_2 w0 s504 R) (V false 1 v900 (V false 1 v505 (V true 4 (.agg (⟨[v900, v505, .slice none 0 0, .int .i64 0]⟩)) (pLoop (fun l508 K509 s510 => N (G l508 9) fun v511 => AC P w0 n_spec_l22Group ([.agg (⟨[G l508 2]⟩), G l508 1, v511, G l508 10]) s510 fun v512 s513 => E v512 0 fun v514 => E v512 1 fun v515 => B P 3 .eql v515 (.int .i64 0) fun v516 => Q v516 (AC P w0 n_spec_l22Clean ([.agg (⟨[G l508 2]⟩), .agg (⟨[G l508 7, G l508 8, G l508 9, G l508 10]⟩)]) s513 fun v517 s518 => E v517 0 fun v519 => E v517 1 fun v520 => V true 4 v519 (K509 .ret [v520, G l508 1, G l508 2, C v519 0, C v519 1, C v519 2, C v519 3, G l508 7, G l508 8, G l508 9, G l508 10] s518)) (V false 1 v514 ((allOne [v514]) ∧ (A w0 9 1 16 (G l508 9) 1 [v514] s513 fun v521 s522 => V false 1 v521 (B P 3 .add (G l508 10) v515 fun v523 => V false 1 v523 (K509 .normal [G l508 0, G l508 1, G l508 2, G l508 3, G l508 4, G l508 5, G l508 6, G l508 7, G l508 8, v521, v523] s522)))))) ([.bool false, v900, C v902 0, .int .i64 0, .string ({ data := #[] }), .slice none 0 0, .int .i64 0, v900, v505, .slice none 0 0, .int .i64 0]) s504 fun x524 l525 s526 => match x524 with | .normal => R (.tuple (⟨[.agg (⟨[G l525 3, G l525 4, G l525 5, G l525 6]⟩), G l525 0]⟩)) s526 | .ret => R (.tuple (⟨[.agg (⟨[G l525 3, G l525 4, G l525 5, G l525 6]⟩), G l525 0]⟩)) s526 | .exit i527 => (match Nat.beq i527 0 with | true => R (.tuple (⟨[.agg (⟨[G l525 3, G l525 4, G l525 5, G l525 6]⟩), G l525 0]⟩)) s526 | false => False)))))))
def vc_spec_StoreOpen (w0 : World) (a0 : Value) (σ : Vw) (R : Value → Vw → Prop) : Prop :=
  V true 1 a0 (AC P w0 n_spec_DiskOk ([.agg (⟨[C a0 0]⟩)]) σ fun v0 s1 => pUn .not v0 fun v2 => Q v2 (cs_spec_StoreOpen_2 w0 s1 R) (AC P w0 n_spec_l22Found ([.agg (⟨[C a0 0]⟩), .int .i64 0]) s1 fun v3 s4 => E v3 0 fun v5 => E v3 1 fun v6 => AC P w0 n_spec_l22Found ([.agg (⟨[C a0 0]⟩), .int .i64 1]) s4 fun v7 s8 => E v7 0 fun v9 => E v7 1 fun v10 => B P 3 .gtr v9 v5 fun v11 => Q v11 (cs_spec_StoreOpen_1 w0 v9 s8 a0 v10 R) (cs_spec_StoreOpen_1 w0 v5 s8 a0 v6 R)))

theorem vc_spec_StoreOpen_eq (w0 : World) (a0 : Value) (σ : Vw) (R : Value → Vw → Prop) : vc_spec_StoreOpen w0 a0 σ R = den Try.prog w0 kp_spec_StoreOpen esc_spec_StoreOpen (Try.f69.body.getD .skip) (entry Try.f69.ntmps [a0]) σ (retK Try.prog Try.f69.results.toList R) := by kernel_rfl
theorem ac_spec_StoreOpen {w0 : World} {a0 : Value} {σ : Vw} {R : Value → Vw → Prop} (h : vc_spec_StoreOpen w0 a0 σ R) : AC Try.prog w0 n_spec_StoreOpen [a0] σ R := by
  refine ac_rule (fn := Try.f69) (c := Try.f69.body.getD .skip) kp_spec_StoreOpen esc_spec_StoreOpen Try.func69 (by kernel_rfl) (by kernel_rfl) ?_
  rw [← vc_spec_StoreOpen_eq]
  exact h

/-- spec.l23Step -/
def kp_spec_l23Step : Nat → Keep
  | 5 => ⟨[], [], [], .step 0 (.step 1 (.step 2 (.step 3 (.step 4 (.done))))), [(2, [0]), (3, [0, 1, 2]), (4, [0, 1, 2, 3])]⟩
  | 7 => ⟨[], [], [], .step 0 (.step 1 (.step 2 (.step 3 (.step 5 (.step 4 (.step 6 (.step 7 (.step 8 (.done))))))))), [(3, [2]), (4, [0, 1, 2, 3]), (6, [0, 1, 2, 3, 4]), (7, [0, 1, 2, 3, 4, 5, 6]), (8, [0, 1, 2, 3, 4, 5, 6, 7])]⟩
  | 10 => ⟨[], [], [], .step 0 (.step 1 (.step 2 (.step 3 (.step 4 (.step 5 (.done)))))), [(3, [0]), (4, [0, 1, 3]), (5, [0, 1, 2, 3, 4])]⟩
  | _ => ⟨[], [], [], .done, []⟩
def esc_spec_l23Step : Nat → Bool
  | _ => false
def cs_spec_l23Step_1 (w0 : World) (v900 : Value) (v901 : Value) (v902 : Value) (s903 : Vw) (v904 : Value) (v905 : Value) (v906 : Value) (R : Value → Vw → Prop) : Prop :=
  B P 3 .neq v900 (.int .i64 0) (fun v500 => Q v500 (V true 1 (.agg (⟨[C v901 0]⟩)) (V true 4 (.agg (⟨[C v902 0, C v902 1, C v902 2, C v902 3]⟩)) (R (.tuple (⟨[.agg (⟨[C v901 0]⟩), .agg (⟨[C v902 0, C v902 1, C v902 2, C v902 3]⟩), .bool true]⟩)) s903))) (B P 3 .lss (C v904 2) (.int .i64 0) fun v501 => Q v501 (N v905 fun v502 => AC P w0 n_spec_DiskWrite ([.agg (⟨[C v901 0]⟩), v905, v502]) s903 fun v503 s504 => V true 1 v503 (V true 4 (.agg (⟨[C v906 0, C v906 1, C v906 2, C v906 3]⟩)) (R (.tuple (⟨[.agg (⟨[C v503 0]⟩), .agg (⟨[C v906 0, C v906 1, C v906 2, C v906 3]⟩), .bool true]⟩)) s504))) (AC P w0 n_spec_DiskWrite ([.agg (⟨[C v901 0]⟩), v905, C v904 2]) s903 fun v505 s506 => V true 1 v505 (AC P w0 n_spec_StoreOpen ([.agg (⟨[C v505 0]⟩)]) s506 fun v507 s508 => E v507 0 fun v509 => E v507 1 fun v510 => V true 4 v509 (V true 1 (.agg (⟨[C v505 0]⟩)) (V true 4 (.agg (⟨[C v509 0, C v509 1, C v509 2, C v509 3]⟩)) (R (.tuple (⟨[.agg (⟨[C v505 0]⟩), .agg (⟨[C v509 0, C v509 1, C v509 2, C v509 3]⟩), v510]⟩)) s508)))))))
def vc_spec_l23Step (w0 : World) (a0 a1 a2 : Value) (σ : Vw) (R : Value → Vw → Prop) : Prop :=
  V true 1 a0 (V true 4 a1 (V true 3 a2 (AC P w0 n_spec_StoreAppend ([.agg (⟨[C a1 0, C a1 1, C a1 2, C a1 3]⟩), C a2 1]) σ fun v0 s1 => E v0 0 fun v2 => E v0 1 fun v3 => E v0 2 fun v4 => V true 4 v3 (Q (C a2 0) (AC P w0 n_spec_StoreSave ([.agg (⟨[C a1 0, C a1 1, C a1 2, C a1 3]⟩), C a2 1]) s1 fun v5 s6 => E v5 0 fun v7 => E v5 1 fun v8 => E v5 2 fun v9 => V true 4 v8 (cs_spec_l23Step_1 w0 v9 a0 a1 s6 a2 v7 v8 R)) (cs_spec_l23Step_1 w0 v4 a0 a1 s1 a2 v2 v3 R)))))

theorem vc_spec_l23Step_eq (w0 : World) (a0 a1 a2 : Value) (σ : Vw) (R : Value → Vw → Prop) : vc_spec_l23Step w0 a0 a1 a2 σ R = den Try.prog w0 kp_spec_l23Step esc_spec_l23Step (Try.f70.body.getD .skip) (entry Try.f70.ntmps [a0, a1, a2]) σ (retK Try.prog Try.f70.results.toList R) := by kernel_rfl
theorem ac_spec_l23Step {w0 : World} {a0 a1 a2 : Value} {σ : Vw} {R : Value → Vw → Prop} (h : vc_spec_l23Step w0 a0 a1 a2 σ R) : AC Try.prog w0 n_spec_l23Step [a0, a1, a2] σ R := by
  refine ac_rule (fn := Try.f70) (c := Try.f70.body.getD .skip) kp_spec_l23Step esc_spec_l23Step Try.func70 (by kernel_rfl) (by kernel_rfl) ?_
  rw [← vc_spec_l23Step_eq]
  exact h

/-- spec.l22Copy -/
def kp_spec_l22Copy : Nat → Keep
  | _ => ⟨[], [], [], .done, []⟩
def esc_spec_l22Copy : Nat → Bool
  | 3 => true
  | _ => false
def vc_spec_l22Copy (w0 : World) (a0 : Value) (σ : Vw) (R : Value → Vw → Prop) : Prop :=
  V true 4 a0 (W w0 9 [] σ fun n0 s1 => pAppendS w0 9 1 16 (.slice (some (Addr.mk n0 0 none)) 0 0) (C a0 2) s1 fun v2 s3 => V false 1 v2 (V true 4 (.agg (⟨[C a0 0, C a0 1, v2, C a0 3]⟩)) (R (.agg (⟨[C a0 0, C a0 1, v2, C a0 3]⟩)) s3)))
theorem vc_spec_l22Copy_eq (w0 : World) (a0 : Value) (σ : Vw) (R : Value → Vw → Prop) : vc_spec_l22Copy w0 a0 σ R = den Try.prog w0 kp_spec_l22Copy esc_spec_l22Copy (Try.f71.body.getD .skip) (entry Try.f71.ntmps [a0]) σ (retK Try.prog Try.f71.results.toList R) := by kernel_rfl
theorem ac_spec_l22Copy {w0 : World} {a0 : Value} {σ : Vw} {R : Value → Vw → Prop} (h : vc_spec_l22Copy w0 a0 σ R) : AC Try.prog w0 n_spec_l22Copy [a0] σ R := by
  refine ac_rule (fn := Try.f71) (c := Try.f71.body.getD .skip) kp_spec_l22Copy esc_spec_l22Copy Try.func71 (by kernel_rfl) (by kernel_rfl) ?_
  rw [← vc_spec_l22Copy_eq]
  exact h

/-- spec.StoreNew -/
def kp_spec_StoreNew : Nat → Keep
  | _ => ⟨[], [], [], .done, []⟩
def esc_spec_StoreNew : Nat → Bool
  | 7 => true
  | _ => false
def vc_spec_StoreNew (w0 : World) (a0 : Value) (σ : Vw) (R : Value → Vw → Prop) : Prop :=
  AC P w0 n_spec_l22TextOk [a0] σ fun v0 s1 => pUn .not v0 fun v2 => Q v2 (W w0 45 [] s1 fun n3 s4 => R (.tuple (⟨[.slice (some (Addr.mk n3 0 none)) 0 0, .bool false]⟩)) s4) (AC P w0 n_spec_l22Saved [.int .i64 1, a0] s1 fun v5 s6 => R (.tuple (⟨[v5, .bool true]⟩)) s6)
theorem vc_spec_StoreNew_eq (w0 : World) (a0 : Value) (σ : Vw) (R : Value → Vw → Prop) : vc_spec_StoreNew w0 a0 σ R = den Try.prog w0 kp_spec_StoreNew esc_spec_StoreNew (Try.f72.body.getD .skip) (entry Try.f72.ntmps [a0]) σ (retK Try.prog Try.f72.results.toList R) := by kernel_rfl
theorem ac_spec_StoreNew {w0 : World} {a0 : Value} {σ : Vw} {R : Value → Vw → Prop} (h : vc_spec_StoreNew w0 a0 σ R) : AC Try.prog w0 n_spec_StoreNew [a0] σ R := by
  refine ac_rule (fn := Try.f72) (c := Try.f72.body.getD .skip) kp_spec_StoreNew esc_spec_StoreNew Try.func72 (by kernel_rfl) (by kernel_rfl) ?_
  rw [← vc_spec_StoreNew_eq]
  exact h

/-- spec.l24Blank -/
def kp_spec_l24Blank : Nat → Keep
  | 3 => ⟨[2], [(0, 1), (1, 1)], [0, 1], .done, []⟩
  | _ => ⟨[], [], [], .done, []⟩
def esc_spec_l24Blank : Nat → Bool
  | _ => false
def vc_spec_l24Blank (w0 : World) (σ : Vw) (R : Value → Vw → Prop) : Prop :=
  V true 1 (.agg (⟨[.slice none 0 0]⟩)) (pLoop (fun l0 K1 s2 => B P 3 .lss (G l0 0) (.int .i64 194) fun v3 => Q v3 (V false 1 (.string ({ data := #[] })) ((allOne ([.string ({ data := #[] })])) ∧ (A w0 9 1 16 (G l0 2) 1 ([.string ({ data := #[] })]) s2 fun v4 s5 => V false 1 v4 (B P 3 .add (G l0 0) (.int .i64 1) fun v6 => K1 .normal [v6, G l0 1, v4] s5)))) (K1 (.exit 0) [G l0 0, G l0 1, G l0 2] s2)) [.int .i64 0, .slice none 0 0, .slice none 0 0] σ fun x7 l8 s9 => match x7 with | .normal => V true 1 (.agg (⟨[G l8 2]⟩)) (R (.agg (⟨[G l8 2]⟩)) s9) | .ret => R (.agg (⟨[G l8 1]⟩)) s9 | .exit i10 => (match Nat.beq i10 0 with | true => V true 1 (.agg (⟨[G l8 2]⟩)) (R (.agg (⟨[G l8 2]⟩)) s9) | false => False))
theorem vc_spec_l24Blank_eq (w0 : World) (σ : Vw) (R : Value → Vw → Prop) : vc_spec_l24Blank w0 σ R = den Try.prog w0 kp_spec_l24Blank esc_spec_l24Blank (Try.f73.body.getD .skip) (entry Try.f73.ntmps []) σ (retK Try.prog Try.f73.results.toList R) := by kernel_rfl
theorem ac_spec_l24Blank {w0 : World} {σ : Vw} {R : Value → Vw → Prop} (h : vc_spec_l24Blank w0 σ R) : AC Try.prog w0 n_spec_l24Blank [] σ R := by
  refine ac_rule (fn := Try.f73) (c := Try.f73.body.getD .skip) kp_spec_l24Blank esc_spec_l24Blank Try.func73 (by kernel_rfl) (by kernel_rfl) ?_
  rw [← vc_spec_l24Blank_eq]
  exact h

/-- spec.l24Group -/
def kp_spec_l24Group : Nat → Keep
  | _ => ⟨[], [], [], .done, []⟩
def esc_spec_l24Group : Nat → Bool
  | 29 => true
  | _ => false
def vc_spec_l24Group (w0 : World) (a0 : Value) (σ : Vw) (R : Value → Vw → Prop) : Prop :=
  AC P w0 n_p_spec_l1Rd_pick [a0, .int .i64 10] σ fun v0 s1 => B P 3 .eql v0 (.int .i64 0) fun v2 => Q v2 (AC P w0 n_p_spec_l1Rd_pick [a0, .int .i64 2] s1 fun v3 s4 => B P 3 .sub (.int .i64 600) v3 fun v5 => AC P w0 n_p_spec_l1Rd_pick [a0, .int .i64 3] s4 fun v6 s7 => B P 3 .add v5 v6 fun v8 => AC P w0 n_spec_l1Many ([.string ({ data := #[103] }), v8]) s7 fun v9 s10 => R v9 s10) (B P 3 .eql v0 (.int .i64 1) fun v11 => Q v11 (AC P w0 n_p_spec_l1Rd_pick [a0, .int .i64 30] s1 fun v12 s13 => AC P w0 n_spec_l1Many ([.string ({ data := #[72, 32, 49, 32, 49, 32, 48] }), v12]) s13 fun v14 s15 => R v14 s15) (B P 3 .eql v0 (.int .i64 2) fun v16 => Q v16 (AC P w0 n_p_spec_l1Rd_pick [a0, .int .i64 4] s1 fun v17 s18 => B P 3 .mul (.int .i64 63) v17 fun v19 => AC P w0 n_p_spec_l1Rd_pick [a0, .int .i64 2] s18 fun v20 s21 => B P 3 .add v19 v20 fun v22 => AC P w0 n_spec_l1Many ([.string ({ data := #[100] }), v22]) s21 fun v23 s24 => R v23 s24) (V false 1 (.string ({ data := #[] })) (V false 1 (.string ({ data := #[98] })) (V false 1 (.string ({ data := #[112, 117, 116, 32, 120, 32] })) (V false 1 (.string ({ data := #[72, 32, 50, 32, 49, 32, 48] })) (W w0 9 ([.string ({ data := #[] }), .string ({ data := #[98] }), .string ({ data := #[112, 117, 116, 32, 120, 32] }), .string ({ data := #[72, 32, 50, 32, 49, 32, 48] })]) s1 fun n25 s26 => AC P w0 n_p_spec_l1Rd_of [a0, .slice (some (Addr.mk n25 0 none)) 4 4] s26 fun v27 s28 => AC P w0 n_p_spec_l1Rd_pick [a0, .int .i64 16] s28 fun v29 s30 => AC P w0 n_spec_l1Many [v27, v29] s30 fun v31 s32 => R v31 s32)))))))
theorem vc_spec_l24Group_eq (w0 : World) (a0 : Value) (σ : Vw) (R : Value → Vw → Prop) : vc_spec_l24Group w0 a0 σ R = den Try.prog w0 kp_spec_l24Group esc_spec_l24Group (Try.f74.body.getD .skip) (entry Try.f74.ntmps [a0]) σ (retK Try.prog Try.f74.results.toList R) := by kernel_rfl
theorem ac_spec_l24Group {w0 : World} {a0 : Value} {σ : Vw} {R : Value → Vw → Prop} (h : vc_spec_l24Group w0 a0 σ R) : AC Try.prog w0 n_spec_l24Group [a0] σ R := by
  refine ac_rule (fn := Try.f74) (c := Try.f74.body.getD .skip) kp_spec_l24Group esc_spec_l24Group Try.func74 (by kernel_rfl) (by kernel_rfl) ?_
  rw [← vc_spec_l24Group_eq]
  exact h

/-- spec.l24Text -/
def kp_spec_l24Text : Nat → Keep
  | _ => ⟨[], [], [], .done, []⟩
def esc_spec_l24Text : Nat → Bool
  | 27 => true
  | _ => false
def vc_spec_l24Text (w0 : World) (a0 : Value) (σ : Vw) (R : Value → Vw → Prop) : Prop :=
  AC P w0 n_p_spec_l1Rd_pick [a0, .int .i64 12] σ fun v0 s1 => B P 3 .eql v0 (.int .i64 0) fun v2 => Q v2 (AC P w0 n_p_spec_l1Rd_pick [a0, .int .i64 2] s1 fun v3 s4 => B P 3 .sub (.int .i64 5760) v3 fun v5 => AC P w0 n_p_spec_l1Rd_pick [a0, .int .i64 2] s4 fun v6 s7 => B P 3 .add v5 v6 fun v8 => AC P w0 n_spec_l1Many ([.string ({ data := #[121] }), v8]) s7 fun v9 s10 => R v9 s10) (B P 3 .eql v0 (.int .i64 1) fun v11 => Q v11 (AC P w0 n_p_spec_l1Rd_pick [a0, .int .i64 20] s1 fun v12 s13 => AC P w0 n_spec_l1Many ([.string ({ data := #[72, 32, 49, 32, 48, 32, 51, 32] }), v12]) s13 fun v14 s15 => B P 9 .add v14 (.string ({ data := #[67, 32, 57, 32, 48] })) fun v16 => R v16 s15) (B P 3 .eql v0 (.int .i64 2) fun v17 => Q v17 (AC P w0 n_p_spec_l1Rd_pick [a0, .int .i64 4] s1 fun v18 s19 => B P 3 .mul (.int .i64 64) v18 fun v20 => AC P w0 n_spec_l1Many ([.string ({ data := #[122] }), v20]) s19 fun v21 s22 => R v21 s22) (V false 1 (.string ({ data := #[] })) (V false 1 (.string ({ data := #[97] })) (V false 1 (.string ({ data := #[104, 101, 108, 108, 111, 32] })) (V false 1 (.string ({ data := #[67, 32, 51, 32, 49] })) (V false 1 (.string ({ data := #[72, 32, 50, 32, 48, 32, 49] })) (V false 1 (.string ({ data := #[0] })) (W w0 9 ([.string ({ data := #[] }), .string ({ data := #[97] }), .string ({ data := #[104, 101, 108, 108, 111, 32] }), .string ({ data := #[67, 32, 51, 32, 49] }), .string ({ data := #[72, 32, 50, 32, 48, 32, 49] }), .string ({ data := #[0] })]) s1 fun n23 s24 => AC P w0 n_p_spec_l1Rd_of [a0, .slice (some (Addr.mk n23 0 none)) 6 6] s24 fun v25 s26 => AC P w0 n_p_spec_l1Rd_pick [a0, .int .i64 30] s26 fun v27 s28 => AC P w0 n_spec_l1Many [v25, v27] s28 fun v29 s30 => R v29 s30)))))))))
theorem vc_spec_l24Text_eq (w0 : World) (a0 : Value) (σ : Vw) (R : Value → Vw → Prop) : vc_spec_l24Text w0 a0 σ R = den Try.prog w0 kp_spec_l24Text esc_spec_l24Text (Try.f75.body.getD .skip) (entry Try.f75.ntmps [a0]) σ (retK Try.prog Try.f75.results.toList R) := by kernel_rfl
theorem ac_spec_l24Text {w0 : World} {a0 : Value} {σ : Vw} {R : Value → Vw → Prop} (h : vc_spec_l24Text w0 a0 σ R) : AC Try.prog w0 n_spec_l24Text [a0] σ R := by
  refine ac_rule (fn := Try.f75) (c := Try.f75.body.getD .skip) kp_spec_l24Text esc_spec_l24Text Try.func75 (by kernel_rfl) (by kernel_rfl) ?_
  rw [← vc_spec_l24Text_eq]
  exact h

/-- spec.l22Found -/
def kp_spec_l22Found : Nat → Keep
  | _ => ⟨[], [], [], .done, []⟩
def esc_spec_l22Found : Nat → Bool
  | _ => false
def vc_spec_l22Found (w0 : World) (a0 a1 : Value) (σ : Vw) (R : Value → Vw → Prop) : Prop :=
  V true 1 a0 (X 1 (C a0 0) a1 fun v0 => L w0 1 v0 σ fun g1 => AC P w0 n_spec_l22Cut [g1 0, .int .u8 32] σ fun v2 s3 => N v2 fun v4 => B P 3 .neq v4 (.int .i64 3) fun v5 => Q v5 (R (.tuple (⟨[.int .i64 0, .int .i64 0]⟩)) s3) (X 1 v2 (.int .i64 0) fun v6 => L w0 1 v6 s3 fun g7 => B P 9 .neq (g7 0) (.string ({ data := #[67] })) fun v8 => Q v8 (R (.tuple (⟨[.int .i64 0, .int .i64 0]⟩)) s3) (X 1 v2 (.int .i64 1) fun v9 => L w0 1 v9 s3 fun g10 => AC P w0 n_spec_l22Num [g10 0] s3 fun v11 s12 => X 1 v2 (.int .i64 2) fun v13 => L w0 1 v13 s12 fun g14 => AC P w0 n_spec_l22Num [g14 0] s12 fun v15 s16 => AC P w0 n_spec_l21In [v11, .int .i64 1, .int .i64 99999] s16 fun v17 s18 => pUn .not v17 fun v19 => Q v19 (R (.tuple (⟨[.int .i64 0, .int .i64 0]⟩)) s18) (B P 3 .rem v11 (.int .i64 2) fun v20 => B P 3 .neq v20 a1 fun v21 => Q v21 (R (.tuple (⟨[.int .i64 0, .int .i64 0]⟩)) s18) (AC P w0 n_spec_l21In [v15, .int .i64 0, .int .i64 5760] s18 fun v22 s23 => pUn .not v22 fun v24 => Q v24 (R (.tuple (⟨[.int .i64 0, .int .i64 0]⟩)) s23) (R (.tuple (⟨[v11, v15]⟩)) s23))))))
theorem vc_spec_l22Found_eq (w0 : World) (a0 a1 : Value) (σ : Vw) (R : Value → Vw → Prop) : vc_spec_l22Found w0 a0 a1 σ R = den Try.prog w0 kp_spec_l22Found esc_spec_l22Found (Try.f76.body.getD .skip) (entry Try.f76.ntmps [a0, a1]) σ (retK Try.prog Try.f76.results.toList R) := by kernel_rfl
theorem ac_spec_l22Found {w0 : World} {a0 a1 : Value} {σ : Vw} {R : Value → Vw → Prop} (h : vc_spec_l22Found w0 a0 a1 σ R) : AC Try.prog w0 n_spec_l22Found [a0, a1] σ R := by
  refine ac_rule (fn := Try.f76) (c := Try.f76.body.getD .skip) kp_spec_l22Found esc_spec_l22Found Try.func76 (by kernel_rfl) (by kernel_rfl) ?_
  rw [← vc_spec_l22Found_eq]
  exact h

/-- spec.l22Text -/
def kp_spec_l22Text : Nat → Keep
  | 3 => ⟨[1, 2, 3, 4, 10, 11, 12, 13], [(5, 1)], [5], .done, []⟩
  | _ => ⟨[], [], [], .done, []⟩
def esc_spec_l22Text : Nat → Bool
  | _ => false
def vc_spec_l22Text (w0 : World) (a0 a1 a2 a3 a4 : Value) (σ : Vw) (R : Value → Vw → Prop) : Prop :=
  V true 1 a0 (pLoop (fun l0 K1 s2 => pLenS (G l0 6) fun v3 => B P 3 .lss v3 (G l0 2) fun v4 => Q v4 (B P 3 .geq (G l0 7) (G l0 1) fun v5 => Q v5 (K1 .ret ([G l0 0, G l0 1, G l0 2, G l0 3, .string ({ data := #[] }), .bool false, G l0 6, G l0 7, G l0 8]) s2) (B P 3 .add (G l0 0) (G l0 7) fun v6 => X 1 (G l0 8) v6 fun v7 => L w0 1 v7 s2 fun g8 => pLenS (g8 0) fun v9 => B P 3 .leq v9 (G l0 3) fun v10 => Q v10 (K1 .ret ([G l0 0, G l0 1, G l0 2, G l0 3, .string ({ data := #[] }), .bool false, G l0 6, G l0 7, G l0 8]) s2) (B P 3 .eql (G l0 3) (.int .i64 1) fun v11 => Q v11 (B P 3 .add (G l0 0) (G l0 7) fun v12 => X 1 (G l0 8) v12 fun v13 => L w0 1 v13 s2 fun g14 => pIndexStr (g14 0) (.int .i64 0) fun v15 => B P 5 .neq v15 (.int .u8 68) fun v16 => Q v16 (K1 .ret ([G l0 0, G l0 1, G l0 2, G l0 3, .string ({ data := #[] }), .bool false, G l0 6, G l0 7, G l0 8]) s2) (B P 3 .add (G l0 0) (G l0 7) fun v17 => X 1 (G l0 8) v17 fun v18 => L w0 1 v18 s2 fun g19 => pSliceStr (g19 0) (some (G l0 3)) none fun v20 => B P 9 .add (G l0 6) v20 fun v21 => B P 3 .add (G l0 7) (.int .i64 1) fun v22 => K1 .normal [G l0 0, G l0 1, G l0 2, G l0 3, G l0 4, G l0 5, v21, v22, G l0 8] s2)) (B P 3 .add (G l0 0) (G l0 7) fun v23 => X 1 (G l0 8) v23 fun v24 => L w0 1 v24 s2 fun g25 => pSliceStr (g25 0) (some (G l0 3)) none fun v26 => B P 9 .add (G l0 6) v26 fun v27 => B P 3 .add (G l0 7) (.int .i64 1) fun v28 => K1 .normal [G l0 0, G l0 1, G l0 2, G l0 3, G l0 4, G l0 5, v27, v28, G l0 8] s2)))) (K1 (.exit 0) [G l0 0, G l0 1, G l0 2, G l0 3, G l0 4, G l0 5, G l0 6, G l0 7, G l0 8] s2)) ([a1, a2, a3, a4, .string ({ data := #[] }), .bool false, .string ({ data := #[] }), .int .i64 0, C a0 0]) σ fun x29 l30 s31 => match x29 with | .normal => pLenS (G l30 6) (fun v32 => B P 3 .eql v32 (G l30 2) fun v33 => R (.tuple (⟨[G l30 6, v33]⟩)) s31) | .ret => R (.tuple (⟨[G l30 4, G l30 5]⟩)) s31 | .exit i34 => (match Nat.beq i34 0 with | true => pLenS (G l30 6) (fun v35 => B P 3 .eql v35 (G l30 2) fun v36 => R (.tuple (⟨[G l30 6, v36]⟩)) s31) | false => False))
theorem vc_spec_l22Text_eq (w0 : World) (a0 a1 a2 a3 a4 : Value) (σ : Vw) (R : Value → Vw → Prop) : vc_spec_l22Text w0 a0 a1 a2 a3 a4 σ R = den Try.prog w0 kp_spec_l22Text esc_spec_l22Text (Try.f77.body.getD .skip) (entry Try.f77.ntmps [a0, a1, a2, a3, a4]) σ (retK Try.prog Try.f77.results.toList R) := by kernel_rfl
theorem ac_spec_l22Text {w0 : World} {a0 a1 a2 a3 a4 : Value} {σ : Vw} {R : Value → Vw → Prop} (h : vc_spec_l22Text w0 a0 a1 a2 a3 a4 σ R) : AC Try.prog w0 n_spec_l22Text [a0, a1, a2, a3, a4] σ R := by
  refine ac_rule (fn := Try.f77) (c := Try.f77.body.getD .skip) kp_spec_l22Text esc_spec_l22Text Try.func77 (by kernel_rfl) (by kernel_rfl) ?_
  rw [← vc_spec_l22Text_eq]
  exact h

/-- spec.l22Area -/
def kp_spec_l22Area : Nat → Keep
  | _ => ⟨[], [], [], .done, []⟩
def esc_spec_l22Area : Nat → Bool
  | _ => false
def vc_spec_l22Area (w0 : World) (a0 : Value) (σ : Vw) (R : Value → Vw → Prop) : Prop :=
  B P 3 .rem a0 (.int .i64 2) fun v0 => B P 3 .mul v0 (.int .i64 90) fun v1 => B P 3 .add (.int .i64 14) v1 fun v2 => R v2 σ
theorem vc_spec_l22Area_eq (w0 : World) (a0 : Value) (σ : Vw) (R : Value → Vw → Prop) : vc_spec_l22Area w0 a0 σ R = den Try.prog w0 kp_spec_l22Area esc_spec_l22Area (Try.f78.body.getD .skip) (entry Try.f78.ntmps [a0]) σ (retK Try.prog Try.f78.results.toList R) := by kernel_rfl
theorem ac_spec_l22Area {w0 : World} {a0 : Value} {σ : Vw} {R : Value → Vw → Prop} (h : vc_spec_l22Area w0 a0 σ R) : AC Try.prog w0 n_spec_l22Area [a0] σ R := by
  refine ac_rule (fn := Try.f78) (c := Try.f78.body.getD .skip) kp_spec_l22Area esc_spec_l22Area Try.func78 (by kernel_rfl) (by kernel_rfl) ?_
  rw [← vc_spec_l22Area_eq]
  exact h

/-- spec.l22Group -/
def kp_spec_l22Group : Nat → Keep
  | _ => ⟨[], [], [], .done, []⟩
def esc_spec_l22Group : Nat → Bool
  | _ => false
def vc_spec_l22Group (w0 : World) (a0 a1 a2 a3 : Value) (σ : Vw) (R : Value → Vw → Prop) : Prop :=
  V true 1 a0 (B P 3 .geq a3 (.int .i64 12) fun v0 => Q v0 (R (.tuple (⟨[.string ({ data := #[] }), .int .i64 0]⟩)) σ) (B P 3 .add (.int .i64 2) a3 fun v1 => X 1 (C a0 0) v1 fun v2 => L w0 1 v2 σ fun g3 => AC P w0 n_spec_l22Cut [g3 0, .int .u8 32] σ fun v4 s5 => N v4 fun v6 => B P 3 .neq v6 (.int .i64 4) fun v7 => Q v7 (R (.tuple (⟨[.string ({ data := #[] }), .int .i64 0]⟩)) s5) (X 1 v4 (.int .i64 0) fun v8 => L w0 1 v8 s5 fun g9 => B P 9 .neq (g9 0) (.string ({ data := #[72] })) fun v10 => Q v10 (R (.tuple (⟨[.string ({ data := #[] }), .int .i64 0]⟩)) s5) (X 1 v4 (.int .i64 1) fun v11 => L w0 1 v11 s5 fun g12 => AC P w0 n_spec_l22Num [g12 0] s5 fun v13 s14 => B P 3 .neq v13 a1 fun v15 => Q v15 (R (.tuple (⟨[.string ({ data := #[] }), .int .i64 0]⟩)) s14) (X 1 v4 (.int .i64 2) fun v16 => L w0 1 v16 s14 fun g17 => AC P w0 n_spec_l22Num [g17 0] s14 fun v18 s19 => B P 3 .neq v18 a2 fun v20 => Q v20 (R (.tuple (⟨[.string ({ data := #[] }), .int .i64 0]⟩)) s19) (X 1 v4 (.int .i64 3) fun v21 => L w0 1 v21 s19 fun g22 => AC P w0 n_spec_l22Num [g22 0] s19 fun v23 s24 => B P 3 .add v23 (.int .i64 64) fun v25 => B P 3 .sub v25 (.int .i64 2) fun v26 => B P 3 .quo v26 (.int .i64 63) fun v27 => B P 3 .add (.int .i64 1) v27 fun v28 => AC P w0 n_spec_l21In [v23, .int .i64 0, .int .i64 600] s24 fun v29 s30 => pUn .not v29 fun v31 => Q v31 (R (.tuple (⟨[.string ({ data := #[] }), .int .i64 0]⟩)) s30) (B P 3 .add a3 v28 fun v32 => B P 3 .gtr v32 (.int .i64 12) fun v33 => Q v33 (R (.tuple (⟨[.string ({ data := #[] }), .int .i64 0]⟩)) s30) (B P 3 .add (.int .i64 2) a3 fun v34 => B P 3 .add v34 (.int .i64 1) fun v35 => B P 3 .sub v28 (.int .i64 1) fun v36 => AC P w0 n_spec_l22Text ([.agg (⟨[C a0 0]⟩), v35, v36, v23, .int .i64 1]) s30 fun v37 s38 => E v37 0 fun v39 => E v37 1 fun v40 => pUn .not v40 fun v41 => Q v41 (R (.tuple (⟨[.string ({ data := #[] }), .int .i64 0]⟩)) s38) (R (.tuple (⟨[v39, v28]⟩)) s38)))))))))
theorem vc_spec_l22Group_eq (w0 : World) (a0 a1 a2 a3 : Value) (σ : Vw) (R : Value → Vw → Prop) : vc_spec_l22Group w0 a0 a1 a2 a3 σ R = den Try.prog w0 kp_spec_l22Group esc_spec_l22Group (Try.f79.body.getD .skip) (entry Try.f79.ntmps [a0, a1, a2, a3]) σ (retK Try.prog Try.f79.results.toList R) := by kernel_rfl
theorem ac_spec_l22Group {w0 : World} {a0 a1 a2 a3 : Value} {σ : Vw} {R : Value → Vw → Prop} (h : vc_spec_l22Group w0 a0 a1 a2 a3 σ R) : AC Try.prog w0 n_spec_l22Group [a0, a1, a2, a3] σ R := by
  refine ac_rule (fn := Try.f79) (c := Try.f79.body.getD .skip) kp_spec_l22Group esc_spec_l22Group Try.func79 (by kernel_rfl) (by kernel_rfl) ?_
  rw [← vc_spec_l22Group_eq]
  exact h

/-- spec.l22Clean -/
def kp_spec_l22Clean : Nat → Keep
  | 2 => ⟨[5, 6], [(2, 1), (3, 4), (4, 4)], [2, 3, 4], .done, []⟩
  | 5 => ⟨[], [], [], .step 0 (.step 1 (.step 2 (.step 3 (.step 4 (.step 5 (.step 6 (.step 7 (.step 8 (.step 9 (.step 10 (.step 11 (.step 12 (.step 14 (.step 15 (.step 13 (.step 16 (.step 17 (.done)))))))))))))))))), [(1, [0]), (2, [0, 1]), (3, [0, 1, 2]), (4, [0, 1, 2, 3]), (5, [0, 1, 2, 3, 4]), (6, [0, 1, 2, 3, 4, 5]), (7, [0, 1, 2, 3, 4, 5, 6]), (8, [0, 1, 2, 3, 4, 5, 6, 7]), (9, [0, 1, 2, 3, 4, 5, 6, 7, 8]), (10, [0, 1, 2, 3, 4, 5, 6, 7, 8, 9]), (11, [0, 1, 2, 3, 4, 5, 6, 7, 8, 9, 10]), (12, [0, 1, 2, 3, 4, 5, 6, 7, 8, 9, 10, 11]), (13, [0, 1, 2, 3, 4, 5, 6, 7, 8, 9, 10, 11, 12]), (14, [0, 1, 2, 3, 4, 5, 6, 7, 8, 9]), (15, [0, 1, 2, 3, 4, 5, 6, 7, 8, 9, 14]), (16, [0, 1, 2, 3, 4, 5, 6, 7, 8, 9, 10, 11, 12, 13, 14, 15]), (17, [0, 1, 2, 3, 4, 5, 6, 7, 8, 9, 10, 11, 12, 13, 14, 15, 16])]⟩
  | _ => ⟨[], [], [], .done, []⟩
def esc_spec_l22Clean : Nat → Bool
  | _ => false
def vc_spec_l22Clean (w0 : World) (a0 a1 : Value) (σ : Vw) (R : Value → Vw → Prop) : Prop :=
  V true 1 a0 (V true 4 a1 (pLoop (fun l0 K1 s2 => B P 3 .lss (G l0 1) (.int .i64 12) fun v3 => Q v3 (B P 3 .add (.int .i64 2) (G l0 1) fun v4 => X 1 (G l0 2) v4 fun v5 => L w0 1 v5 s2 fun g6 => AC P w0 n_spec_l22Cut [g6 0, .int .u8 32] s2 fun v7 s8 => N v7 fun v9 => B P 3 .eql v9 (.int .i64 4) fun v10 => Q v10 (X 1 v7 (.int .i64 0) fun v11 => L w0 1 v11 s8 fun g12 => B P 9 .eql (g12 0) (.string ({ data := #[72] })) fun v13 => Q v13 (X 1 v7 (.int .i64 1) fun v14 => L w0 1 v14 s8 fun g15 => AC P w0 n_spec_l22Num [g15 0] s8 fun v16 s17 => B P 3 .geq v16 (G l0 3) fun v18 => Q v18 (V true 4 (.agg (⟨[.int .i64 0, .string ({ data := #[] }), .slice none 0 0, .int .i64 0]⟩)) (K1 .ret ([.bool false, G l0 1, G l0 2, G l0 3, G l0 4, G l0 5, G l0 6, .int .i64 0, .string ({ data := #[] }), .slice none 0 0, .int .i64 0]) s17)) (B P 3 .add (G l0 1) (.int .i64 1) fun v19 => K1 .normal [G l0 0, v19, G l0 2, G l0 3, G l0 4, G l0 5, G l0 6, G l0 7, G l0 8, G l0 9, G l0 10] s17)) (B P 3 .add (G l0 1) (.int .i64 1) fun v20 => K1 .normal [G l0 0, v20, G l0 2, G l0 3, G l0 4, G l0 5, G l0 6, G l0 7, G l0 8, G l0 9, G l0 10] s8)) (B P 3 .add (G l0 1) (.int .i64 1) fun v21 => K1 .normal [G l0 0, v21, G l0 2, G l0 3, G l0 4, G l0 5, G l0 6, G l0 7, G l0 8, G l0 9, G l0 10] s8)) (K1 (.exit 0) [G l0 0, G l0 1, G l0 2, G l0 3, G l0 4, G l0 5, G l0 6, G l0 7, G l0 8, G l0 9, G l0 10] s2)) ([.bool false, C a1 3, C a0 0, C a1 0, C a1 1, C a1 2, C a1 3, .int .i64 0, .string ({ data := #[] }), .slice none 0 0, .int .i64 0]) σ fun x22 l23 s24 => match x22 with | .normal => V true 4 (.agg (⟨[G l23 3, G l23 4, G l23 5, G l23 6]⟩)) (R (.tuple (⟨[.agg (⟨[G l23 3, G l23 4, G l23 5, G l23 6]⟩), .bool true]⟩)) s24) | .ret => R (.tuple (⟨[.agg (⟨[G l23 7, G l23 8, G l23 9, G l23 10]⟩), G l23 0]⟩)) s24 | .exit i25 => (match Nat.beq i25 0 with | true => V true 4 (.agg (⟨[G l23 3, G l23 4, G l23 5, G l23 6]⟩)) (R (.tuple (⟨[.agg (⟨[G l23 3, G l23 4, G l23 5, G l23 6]⟩), .bool true]⟩)) s24) | false => False)))
theorem vc_spec_l22Clean_eq (w0 : World) (a0 a1 : Value) (σ : Vw) (R : Value → Vw → Prop) : vc_spec_l22Clean w0 a0 a1 σ R = den Try.prog w0 kp_spec_l22Clean esc_spec_l22Clean (Try.f80.body.getD .skip) (entry Try.f80.ntmps [a0, a1]) σ (retK Try.prog Try.f80.results.toList R) := by kernel_rfl
theorem ac_spec_l22Clean {w0 : World} {a0 a1 : Value} {σ : Vw} {R : Value → Vw → Prop} (h : vc_spec_l22Clean w0 a0 a1 σ R) : AC Try.prog w0 n_spec_l22Clean [a0, a1] σ R := by
  refine ac_rule (fn := Try.f80) (c := Try.f80.body.getD .skip) kp_spec_l22Clean esc_spec_l22Clean Try.func80 (by kernel_rfl) (by kernel_rfl) ?_
  rw [← vc_spec_l22Clean_eq]
  exact h

/-- spec.StoreAppend -/
def kp_spec_StoreAppend : Nat → Keep
  | 6 => ⟨[], [], [], .step 0 (.step 1 (.step 2 (.step 3 (.step 4 (.step 5 (.done)))))), [(1, [0]), (3, [2]), (4, [0, 1, 2, 3]), (5, [0, 1, 2, 3, 4])]⟩
  | 10 => ⟨[1, 8, 9], [(2, 4), (5, 4)], [2, 5], .done, []⟩
  | 12 => ⟨[], [], [], .step 0 (.step 1 (.step 2 (.step 3 (.step 4 (.step 5 (.step 6 (.step 7 (.step 8 (.step 9 (.step 10 (.step 11 (.step 12 (.step 13 (.step 14 (.done))))))))))))))), [(2, [1]), (3, [1, 2]), (4, [1, 2, 3]), (6, [1, 2, 3, 4, 5]), (9, [7, 8]), (10, [7, 8, 9]), (11, [1, 2, 3, 4, 5, 6, 7, 8, 9, 10]), (12, [1, 2, 3, 4, 5, 6, 7, 8, 9, 10, 11]), (13, [0, 1, 2, 3, 4, 5, 6, 7, 8, 9, 10, 11, 12]), (14, [0, 1, 2, 3, 4, 5, 6, 7, 8, 9, 10, 11, 12, 13])]⟩
  | 13 => ⟨[], [], [], .step 0 (.step 1 (.step 2 (.step 3 (.step 4 (.step 5 (.step 9 (.step 10 (.step 11 (.step 15 (.step 16 (.step 6 (.step 7 (.step 8 (.step 12 (.step 13 (.step 14 (.step 17 (.step 18 (.step 19 (.step 20 (.step 21 (.step 22 (.done))))))))))))))))))))))), [(2, [1]), (3, [1, 2]), (5, [4]), (6, [4, 5]), (7, [4, 5, 6]), (8, [4, 5, 6, 7]), (10, [9]), (11, [9, 10]), (12, [4, 5, 6, 9, 10, 11]), (13, [4, 5, 6, 7, 8, 9, 10, 11, 12]), (14, [4, 5, 6, 7, 8, 9, 10, 11, 12, 13]), (16, [15]), (17, [4, 5, 6, 9, 10, 11, 12, 15, 16]), (18, [4, 5, 6, 7, 8, 9, 10, 11, 12, 13, 14, 15, 16, 17]), (19, [1, 2, 3, 4, 5, 6, 7, 8, 9, 10, 11, 12, 13, 14, 15, 16, 17, 18]), (20, [1, 2, 3, 4, 5, 6, 7, 8, 9, 10, 11, 12, 13, 14, 15, 16, 17, 18, 19]), (21, [0, 1, 2, 3, 4, 5, 6, 7, 8, 9, 10, 11, 12, 13, 14, 15, 16, 17, 18, 19, 20]), (22, [0, 1, 2, 3, 4, 5, 6, 7, 8, 9, 10, 11, 12, 13, 14, 15, 16, 17, 18, 19, 20, 21])]⟩
  | 16 => ⟨[], [], [], .step 0 (.step 1 (.step 2 (.step 3 (.step 4 (.step 5 (.step 6 (.done))))))), [(1, [0]), (3, [2]), (4, [0, 1, 2, 3]), (5, [0, 1, 2, 3, 4]), (6, [0, 1, 2, 3, 4, 5])]⟩
  | 17 => ⟨[], [], [], .step 0 (.step 1 (.step 2 (.step 3 (.step 4 (.done))))), [(2, [0]), (3, [0, 1, 2]), (4, [0, 1, 2, 3])]⟩
  | _ => ⟨[], [], [], .done, []⟩
def esc_spec_StoreAppend : Nat → Bool
  | 11 => true
  | 32 => true
  | _ => false
def cs_spec_StoreAppend_1 (w0 : World) (l900 : List Value) (s901 : Vw) (v902 : Value) (R : Value → Vw → Prop) : Prop :=
  N (G l900 5) (fun v500 => pLenS (G l900 0) fun v501 => AC P w0 n_spec_l22Dec [G l900 3] s901 fun v502 s503 => B P 9 .add (.string ({ data := #[72, 32] })) v502 fun v504 => B P 9 .add v504 (.string ({ data := #[32] })) fun v505 => AC P w0 n_spec_l22Dec [v500] s503 fun v506 s507 => B P 9 .add v505 v506 fun v508 => B P 9 .add v508 (.string ({ data := #[32] })) fun v509 => AC P w0 n_spec_l22Dec [v501] s507 fun v510 s511 => B P 9 .add v509 v510 fun v512 => V false 1 v902 (V false 1 v512 (V true 2 (.agg (⟨[v902, v512]⟩)) ((allOne [v902, v512]) ∧ (A w0 45 2 24 (G l900 1) 1 [v902, v512] s511 fun v513 s514 => AC P w0 n_spec_l22Copy ([.agg (⟨[G l900 3, G l900 4, G l900 5, G l900 6]⟩)]) s514 fun v515 s516 => V true 4 v515 (V false 1 (G l900 0) ((allOne [G l900 0]) ∧ (A w0 9 1 16 (C v515 2) 1 [G l900 0] s516 fun v517 s518 => V false 1 v517 (AC P w0 n_spec_l22Blocks [G l900 0] s518 fun v519 s520 => B P 3 .add (G l900 6) v519 fun v521 => V false 1 v521 (V true 4 (.agg (⟨[C v515 0, C v515 1, v517, v521]⟩)) (R (.tuple (⟨[v513, .agg (⟨[C v515 0, C v515 1, v517, v521]⟩), .int .i64 0]⟩)) s520)))))))))))
def vc_spec_StoreAppend (w0 : World) (a0 a1 : Value) (σ : Vw) (R : Value → Vw → Prop) : Prop :=
  V true 4 a0 (W w0 45 [] σ fun n0 s1 => AC P w0 n_spec_l22Ok ([.agg (⟨[C a0 0, C a0 1, C a0 2, C a0 3]⟩)]) s1 fun v2 s3 => pUn .not v2 fun v4 => Q v4 (V true 4 (.agg (⟨[.int .i64 0, .string ({ data := #[] }), .slice none 0 0, .int .i64 0]⟩)) (R (.tuple (⟨[.slice (some (Addr.mk n0 0 none)) 0 0, .agg (⟨[.int .i64 0, .string ({ data := #[] }), .slice none 0 0, .int .i64 0]⟩), .int .i64 1]⟩)) s3)) (pLenS a1 fun v5 => B P 3 .gtr v5 (.int .i64 600) fun v6 => Q v6 (AC P w0 n_spec_l22Copy ([.agg (⟨[C a0 0, C a0 1, C a0 2, C a0 3]⟩)]) s3 fun v7 s8 => V true 4 v7 (R (.tuple (⟨[.slice (some (Addr.mk n0 0 none)) 0 0, .agg (⟨[C v7 0, C v7 1, C v7 2, C v7 3]⟩), .int .i64 6]⟩)) s8)) (AC P w0 n_spec_l22Blocks [a1] s3 fun v9 s10 => B P 3 .add (C a0 3) v9 fun v11 => B P 3 .gtr v11 (.int .i64 12) fun v12 => Q v12 (AC P w0 n_spec_l22Copy ([.agg (⟨[C a0 0, C a0 1, C a0 2, C a0 3]⟩)]) s10 fun v13 s14 => V true 4 v13 (R (.tuple (⟨[.slice (some (Addr.mk n0 0 none)) 0 0, .agg (⟨[C v13 0, C v13 1, C v13 2, C v13 3]⟩), .int .i64 4]⟩)) s14)) (W w0 45 [] s10 fun n15 s16 => pLoop (fun l17 K18 s19 => AC P w0 n_spec_l22Blocks [G l17 0] s19 fun v20 s21 => B P 3 .sub v20 (.int .i64 1) fun v22 => B P 3 .lss (G l17 2) v22 fun v23 => Q v23 (B P 3 .add (.int .i64 2) (G l17 6) fun v24 => B P 3 .add v24 (.int .i64 1) fun v25 => B P 3 .add v25 (G l17 2) fun v26 => AC P w0 n_spec_l22Piece [G l17 0, G l17 2, .int .i64 63] s21 fun v27 s28 => B P 9 .add (.string ({ data := #[68] })) v27 fun v29 => V false 1 v26 (V false 1 v29 (V true 2 (.agg (⟨[v26, v29]⟩)) ((allOne [v26, v29]) ∧ (A w0 45 2 24 (G l17 1) 1 [v26, v29] s28 fun v30 s31 => B P 3 .add (G l17 2) (.int .i64 1) fun v32 => K18 .normal [G l17 0, v30, v32, G l17 3, G l17 4, G l17 5, G l17 6, G l17 7, G l17 8, G l17 9, G l17 10] s31))))) (K18 (.exit 0) [G l17 0, G l17 1, G l17 2, G l17 3, G l17 4, G l17 5, G l17 6, G l17 7, G l17 8, G l17 9, G l17 10] s21)) ([a1, .slice (some (Addr.mk n15 0 none)) 0 0, .int .i64 0, C a0 0, C a0 1, C a0 2, C a0 3, .int .i64 0, .string ({ data := #[] }), .slice none 0 0, .int .i64 0]) s16 fun x33 l34 s35 => match x33 with | .normal => B P 3 .add (.int .i64 2) (G l34 6) (fun v36 => cs_spec_StoreAppend_1 w0 l34 s35 v36 R) | .ret => False | .exit i59 => (match Nat.beq i59 0 with | true => B P 3 .add (.int .i64 2) (G l34 6) (fun v60 => cs_spec_StoreAppend_1 w0 l34 s35 v60 R) | false => False)))))

theorem vc_spec_StoreAppend_eq (w0 : World) (a0 a1 : Value) (σ : Vw) (R : Value → Vw → Prop) : vc_spec_StoreAppend w0 a0 a1 σ R = den Try.prog w0 kp_spec_StoreAppend esc_spec_StoreAppend (Try.f81.body.getD .skip) (entry Try.f81.ntmps [a0, a1]) σ (retK Try.prog Try.f81.results.toList R) := by kernel_rfl
theorem ac_spec_StoreAppend {w0 : World} {a0 a1 : Value} {σ : Vw} {R : Value → Vw → Prop} (h : vc_spec_StoreAppend w0 a0 a1 σ R) : AC Try.prog w0 n_spec_StoreAppend [a0, a1] σ R := by
  refine ac_rule (fn := Try.f81) (c := Try.f81.body.getD .skip) kp_spec_StoreAppend esc_spec_StoreAppend Try.func81 (by kernel_rfl) (by kernel_rfl) ?_
  rw [← vc_spec_StoreAppend_eq]
  exact h

/-- spec.StoreSave -/
def kp_spec_StoreSave : Nat → Keep
  | 8 => ⟨[], [], [], .step 0 (.step 1 (.step 2 (.step 3 (.step 5 (.step 6 (.step 7 (.step 8 (.step 9 (.step 4 (.step 10 (.step 11 (.step 12 (.done))))))))))))), [(1, [0]), (2, [0, 1]), (4, [0, 1, 2, 3]), (6, [5]), (7, [5, 6]), (9, [5, 6, 7, 8]), (10, [0, 1, 2, 3, 4]), (11, [0, 1, 2, 3, 4, 5, 6, 7, 8, 9, 10]), (12, [0, 1, 2, 3, 4, 5, 6, 7, 8, 9, 10, 11])]⟩
  | _ => ⟨[], [], [], .done, []⟩
def esc_spec_StoreSave : Nat → Bool
  | 8 => true
  | _ => false
def vc_spec_StoreSave (w0 : World) (a0 a1 : Value) (σ : Vw) (R : Value → Vw → Prop) : Prop :=
  V true 4 a0 (W w0 45 [] σ fun n0 s1 => AC P w0 n_spec_l22Ok ([.agg (⟨[C a0 0, C a0 1, C a0 2, C a0 3]⟩)]) s1 fun v2 s3 => pUn .not v2 fun v4 => Q v4 (V true 4 (.agg (⟨[.int .i64 0, .string ({ data := #[] }), .slice none 0 0, .int .i64 0]⟩)) (R (.tuple (⟨[.slice (some (Addr.mk n0 0 none)) 0 0, .agg (⟨[.int .i64 0, .string ({ data := #[] }), .slice none 0 0, .int .i64 0]⟩), .int .i64 1]⟩)) s3)) (AC P w0 n_spec_l22TextOk [a1] s3 fun v5 s6 => pUn .not v5 fun v7 => Q v7 (AC P w0 n_spec_l22Copy ([.agg (⟨[C a0 0, C a0 1, C a0 2, C a0 3]⟩)]) s6 fun v8 s9 => V true 4 v8 (R (.tuple (⟨[.slice (some (Addr.mk n0 0 none)) 0 0, .agg (⟨[C v8 0, C v8 1, C v8 2, C v8 3]⟩), .int .i64 4]⟩)) s9)) (B P 3 .geq (C a0 0) (.int .i64 99999) fun v10 => Q v10 (AC P w0 n_spec_l22Copy ([.agg (⟨[C a0 0, C a0 1, C a0 2, C a0 3]⟩)]) s6 fun v11 s12 => V true 4 v11 (R (.tuple (⟨[.slice (some (Addr.mk n0 0 none)) 0 0, .agg (⟨[C v11 0, C v11 1, C v11 2, C v11 3]⟩), .int .i64 5]⟩)) s12)) (B P 3 .add (C a0 0) (.int .i64 1) fun v13 => B P 3 .add (C a0 0) (.int .i64 1) fun v14 => V false 1 v14 (V false 1 a1 (AC P w0 n_spec_l22Saved [v13, a1] s6 fun v15 s16 => V true 4 (.agg (⟨[v14, a1, .slice none 0 0, .int .i64 0]⟩)) (R (.tuple (⟨[v15, .agg (⟨[v14, a1, .slice none 0 0, .int .i64 0]⟩), .int .i64 0]⟩)) s16)))))))
theorem vc_spec_StoreSave_eq (w0 : World) (a0 a1 : Value) (σ : Vw) (R : Value → Vw → Prop) : vc_spec_StoreSave w0 a0 a1 σ R = den Try.prog w0 kp_spec_StoreSave esc_spec_StoreSave (Try.f82.body.getD .skip) (entry Try.f82.ntmps [a0, a1]) σ (retK Try.prog Try.f82.results.toList R) := by kernel_rfl
theorem ac_spec_StoreSave {w0 : World} {a0 a1 : Value} {σ : Vw} {R : Value → Vw → Prop} (h : vc_spec_StoreSave w0 a0 a1 σ R) : AC Try.prog w0 n_spec_StoreSave [a0, a1] σ R := by
  refine ac_rule (fn := Try.f82) (c := Try.f82.body.getD .skip) kp_spec_StoreSave esc_spec_StoreSave Try.func82 (by kernel_rfl) (by kernel_rfl) ?_
  rw [← vc_spec_StoreSave_eq]
  exact h

/-- spec.l22TextOk -/
def kp_spec_l22TextOk : Nat → Keep
  | _ => ⟨[], [], [], .done, []⟩
def esc_spec_l22TextOk : Nat → Bool
  | _ => false
def vc_spec_l22TextOk (w0 : World) (a0 : Value) (σ : Vw) (R : Value → Vw → Prop) : Prop :=
  pLenS a0 fun v0 => B P 3 .leq v0 (.int .i64 5760) fun v1 => R v1 σ
theorem vc_spec_l22TextOk_eq (w0 : World) (a0 : Value) (σ : Vw) (R : Value → Vw → Prop) : vc_spec_l22TextOk w0 a0 σ R = den Try.prog w0 kp_spec_l22TextOk esc_spec_l22TextOk (Try.f83.body.getD .skip) (entry Try.f83.ntmps [a0]) σ (retK Try.prog Try.f83.results.toList R) := by kernel_rfl
theorem ac_spec_l22TextOk {w0 : World} {a0 : Value} {σ : Vw} {R : Value → Vw → Prop} (h : vc_spec_l22TextOk w0 a0 σ R) : AC Try.prog w0 n_spec_l22TextOk [a0] σ R := by
  refine ac_rule (fn := Try.f83) (c := Try.f83.body.getD .skip) kp_spec_l22TextOk esc_spec_l22TextOk Try.func83 (by kernel_rfl) (by kernel_rfl) ?_
  rw [← vc_spec_l22TextOk_eq]
  exact h

/-- spec.l22Saved -/
def kp_spec_l22Saved : Nat → Keep
  | 3 => ⟨[0, 1, 5, 6], [], [], .done, []⟩
  | _ => ⟨[], [], [], .done, []⟩
def esc_spec_l22Saved : Nat → Bool
  | 7 => true
  | _ => false
def vc_spec_l22Saved (w0 : World) (a0 a1 : Value) (σ : Vw) (R : Value → Vw → Prop) : Prop :=
  W w0 45 [] σ fun n0 s1 => pLoop (fun l2 K3 s4 => AC P w0 n_spec_l22Many [G l2 1, .int .i64 64] s4 fun v5 s6 => B P 3 .lss (G l2 3) v5 fun v7 => Q v7 (AC P w0 n_spec_l22Area [G l2 0] s6 fun v8 s9 => B P 3 .add v8 (G l2 3) fun v10 => AC P w0 n_spec_l22Piece [G l2 1, G l2 3, .int .i64 64] s9 fun v11 s12 => V false 1 v10 (V false 1 v11 (V true 2 (.agg (⟨[v10, v11]⟩)) ((allOne [v10, v11]) ∧ (A w0 45 2 24 (G l2 2) 1 [v10, v11] s12 fun v13 s14 => B P 3 .add (G l2 3) (.int .i64 1) fun v15 => K3 .normal [G l2 0, G l2 1, v13, v15] s14))))) (K3 (.exit 0) [G l2 0, G l2 1, G l2 2, G l2 3] s6)) [a0, a1, .slice (some (Addr.mk n0 0 none)) 0 0, .int .i64 0] s1 fun x16 l17 s18 => match x16 with | .normal => B P 3 .rem (G l17 0) (.int .i64 2) (fun v19 => AC P w0 n_spec_l22Head [G l17 0, G l17 1] s18 fun v20 s21 => V false 1 v19 (V false 1 v20 (V true 2 (.agg (⟨[v19, v20]⟩)) ((allOne [v19, v20]) ∧ (A w0 45 2 24 (G l17 2) 1 [v19, v20] s21 fun v22 s23 => R v22 s23))))) | .ret => False | .exit i24 => (match Nat.beq i24 0 with | true => B P 3 .rem (G l17 0) (.int .i64 2) (fun v25 => AC P w0 n_spec_l22Head [G l17 0, G l17 1] s18 fun v26 s27 => V false 1 v25 (V false 1 v26 (V true 2 (.agg (⟨[v25, v26]⟩)) ((allOne [v25, v26]) ∧ (A w0 45 2 24 (G l17 2) 1 [v25, v26] s27 fun v28 s29 => R v28 s29))))) | false => False)
theorem vc_spec_l22Saved_eq (w0 : World) (a0 a1 : Value) (σ : Vw) (R : Value → Vw → Prop) : vc_spec_l22Saved w0 a0 a1 σ R = den Try.prog w0 kp_spec_l22Saved esc_spec_l22Saved (Try.f84.body.getD .skip) (entry Try.f84.ntmps [a0, a1]) σ (retK Try.prog Try.f84.results.toList R) := by kernel_rfl
theorem ac_spec_l22Saved {w0 : World} {a0 a1 : Value} {σ : Vw} {R : Value → Vw → Prop} (h : vc_spec_l22Saved w0 a0 a1 σ R) : AC Try.prog w0 n_spec_l22Saved [a0, a1] σ R := by
  refine ac_rule (fn := Try.f84) (c := Try.f84.body.getD .skip) kp_spec_l22Saved esc_spec_l22Saved Try.func84 (by kernel_rfl) (by kernel_rfl) ?_
  rw [← vc_spec_l22Saved_eq]
  exact h

/-- spec.l22Cut -/
def kp_spec_l22Cut : Nat → Keep
  | 4 => ⟨[0, 1, 5, 6, 7], [], [], .done, []⟩
  | _ => ⟨[], [], [], .done, []⟩
def esc_spec_l22Cut : Nat → Bool
  | 8 => true
  | _ => false
def vc_spec_l22Cut (w0 : World) (a0 a1 : Value) (σ : Vw) (R : Value → Vw → Prop) : Prop :=
  W w0 9 [] σ fun n0 s1 => pLoop (fun l2 K3 s4 => pLenS (G l2 0) fun v5 => B P 3 .lss (G l2 4) v5 fun v6 => Q v6 (pIndexStr (G l2 0) (G l2 4) fun v7 => B P 5 .eql v7 (G l2 1) fun v8 => Q v8 (pSliceStr (G l2 0) (some (G l2 3)) (some (G l2 4)) fun v9 => V false 1 v9 ((allOne [v9]) ∧ (A w0 9 1 16 (G l2 2) 1 [v9] s4 fun v10 s11 => B P 3 .add (G l2 4) (.int .i64 1) fun v12 => B P 3 .add (G l2 4) (.int .i64 1) fun v13 => K3 .normal [G l2 0, G l2 1, v10, v12, v13] s11))) (B P 3 .add (G l2 4) (.int .i64 1) fun v14 => K3 .normal [G l2 0, G l2 1, G l2 2, G l2 3, v14] s4)) (K3 (.exit 0) [G l2 0, G l2 1, G l2 2, G l2 3, G l2 4] s4)) [a0, a1, .slice (some (Addr.mk n0 0 none)) 0 0, .int .i64 0, .int .i64 0] s1 fun x15 l16 s17 => match x15 with | .normal => pSliceStr (G l16 0) (some (G l16 3)) none (fun v18 => V false 1 v18 ((allOne [v18]) ∧ (A w0 9 1 16 (G l16 2) 1 [v18] s17 fun v19 s20 => R v19 s20))) | .ret => False | .exit i21 => (match Nat.beq i21 0 with | true => pSliceStr (G l16 0) (some (G l16 3)) none (fun v22 => V false 1 v22 ((allOne [v22]) ∧ (A w0 9 1 16 (G l16 2) 1 [v22] s17 fun v23 s24 => R v23 s24))) | false => False)
theorem vc_spec_l22Cut_eq (w0 : World) (a0 a1 : Value) (σ : Vw) (R : Value → Vw → Prop) : vc_spec_l22Cut w0 a0 a1 σ R = den Try.prog w0 kp_spec_l22Cut esc_spec_l22Cut (Try.f85.body.getD .skip) (entry Try.f85.ntmps [a0, a1]) σ (retK Try.prog Try.f85.results.toList R) := by kernel_rfl
theorem ac_spec_l22Cut {w0 : World} {a0 a1 : Value} {σ : Vw} {R : Value → Vw → Prop} (h : vc_spec_l22Cut w0 a0 a1 σ R) : AC Try.prog w0 n_spec_l22Cut [a0, a1] σ R := by
  refine ac_rule (fn := Try.f85) (c := Try.f85.body.getD .skip) kp_spec_l22Cut esc_spec_l22Cut Try.func85 (by kernel_rfl) (by kernel_rfl) ?_
  rw [← vc_spec_l22Cut_eq]
  exact h

/-- spec.l22Num -/
def kp_spec_l22Num : Nat → Keep
  | 5 => ⟨[0, 2, 3, 4], [], [], .done, []⟩
  | _ => ⟨[], [], [], .done, []⟩
def esc_spec_l22Num : Nat → Bool
  | _ => false
def cs_spec_l22Num_1 (w0 : World) (v900 : Value) (s901 : Vw) (R : Value → Vw → Prop) : Prop :=
  pLoop (fun l500 K501 s502 => pLenS (G l500 0) fun v503 => B P 3 .lss (G l500 3) v503 fun v504 => Q v504 (pIndexStr (G l500 0) (G l500 3) fun v505 => B P 5 .lss v505 (.int .u8 48) fun v506 => Q v506 (K501 .ret [G l500 0, .int .i64 (-1), G l500 2, G l500 3] s502) (pIndexStr (G l500 0) (G l500 3) fun v507 => B P 5 .gtr v507 (.int .u8 57) fun v508 => Q v508 (K501 .ret [G l500 0, .int .i64 (-1), G l500 2, G l500 3] s502) (B P 3 .mul (G l500 2) (.int .i64 10) fun v509 => pIndexStr (G l500 0) (G l500 3) fun v510 => B P 5 .sub v510 (.int .u8 48) fun v511 => pConvInt .i64 v511 fun v512 => B P 3 .add v509 v512 fun v513 => B P 3 .add (G l500 3) (.int .i64 1) fun v514 => K501 .normal [G l500 0, G l500 1, v513, v514] s502))) (K501 (.exit 0) [G l500 0, G l500 1, G l500 2, G l500 3] s502)) [v900, .int .i64 0, .int .i64 0, .int .i64 0] s901 (fun x515 l516 s517 => match x515 with | .normal => R (G l516 2) s517 | .ret => R (G l516 1) s517 | .exit i518 => (match Nat.beq i518 0 with | true => R (G l516 2) s517 | false => False))
def vc_spec_l22Num (w0 : World) (a0 : Value) (σ : Vw) (R : Value → Vw → Prop) : Prop :=
  pLenS a0 fun v0 => AC P w0 n_spec_l21In [v0, .int .i64 1, .int .i64 5] σ fun v1 s2 => pUn .not v1 fun v3 => Q v3 (R (.int .i64 (-1)) s2) (pLenS a0 fun v4 => B P 3 .gtr v4 (.int .i64 1) fun v5 => Q v5 (pIndexStr a0 (.int .i64 0) fun v6 => B P 5 .eql v6 (.int .u8 48) fun v7 => Q v7 (R (.int .i64 (-1)) s2) (cs_spec_l22Num_1 w0 a0 s2 R)) (cs_spec_l22Num_1 w0 a0 s2 R))

theorem vc_spec_l22Num_eq (w0 : World) (a0 : Value) (σ : Vw) (R : Value → Vw → Prop) : vc_spec_l22Num w0 a0 σ R = den Try.prog w0 kp_spec_l22Num esc_spec_l22Num (Try.f86.body.getD .skip) (entry Try.f86.ntmps [a0]) σ (retK Try.prog Try.f86.results.toList R) := by kernel_rfl
theorem ac_spec_l22Num {w0 : World} {a0 : Value} {σ : Vw} {R : Value → Vw → Prop} (h : vc_spec_l22Num w0 a0 σ R) : AC Try.prog w0 n_spec_l22Num [a0] σ R := by
  refine ac_rule (fn := Try.f86) (c := Try.f86.body.getD .skip) kp_spec_l22Num esc_spec_l22Num Try.func86 (by kernel_rfl) (by kernel_rfl) ?_
  rw [← vc_spec_l22Num_eq]
  exact h

/-- spec.l22Ok -/
def kp_spec_l22Ok : Nat → Keep
  | 3 => ⟨[2, 3, 4], [(1, 4)], [1], .done, []⟩
  | _ => ⟨[], [], [], .done, []⟩
def esc_spec_l22Ok : Nat → Bool
  | _ => false
def vc_spec_l22Ok (w0 : World) (a0 : Value) (σ : Vw) (R : Value → Vw → Prop) : Prop :=
  V true 4 a0 (pLoop (fun l0 K1 s2 => N (G l0 5) fun v3 => B P 3 .lss (G l0 2) v3 fun v4 => Q v4 (X 1 (G l0 5) (G l0 2) fun v5 => L w0 1 v5 s2 fun g6 => pLenS (g6 0) fun v7 => B P 3 .gtr v7 (.int .i64 600) fun v8 => Q v8 (K1 .ret [.bool false, G l0 1, G l0 2, G l0 3, G l0 4, G l0 5, G l0 6] s2) (X 1 (G l0 5) (G l0 2) fun v9 => L w0 1 v9 s2 fun g10 => AC P w0 n_spec_l22Blocks [g10 0] s2 fun v11 s12 => B P 3 .add (G l0 1) v11 fun v13 => B P 3 .add (G l0 2) (.int .i64 1) fun v14 => K1 .normal [G l0 0, v13, v14, G l0 3, G l0 4, G l0 5, G l0 6] s12)) (K1 (.exit 0) [G l0 0, G l0 1, G l0 2, G l0 3, G l0 4, G l0 5, G l0 6] s2)) [.bool false, .int .i64 0, .int .i64 0, C a0 0, C a0 1, C a0 2, C a0 3] σ fun x15 l16 s17 => match x15 with | .normal => AC P w0 n_spec_l21In [G l16 3, .int .i64 1, .int .i64 99999] s17 (fun v18 s19 => Q v18 (AC P w0 n_spec_l22TextOk [G l16 4] s19 fun v20 s21 => Q v20 (B P 3 .eql (G l16 1) (G l16 6) fun v22 => Q v22 (B P 3 .leq (G l16 1) (.int .i64 12) fun v23 => R v23 s21) (R (.bool false) s21)) (R (.bool false) s21)) (R (.bool false) s19)) | .ret => R (G l16 0) s17 | .exit i24 => (match Nat.beq i24 0 with | true => AC P w0 n_spec_l21In [G l16 3, .int .i64 1, .int .i64 99999] s17 (fun v25 s26 => Q v25 (AC P w0 n_spec_l22TextOk [G l16 4] s26 fun v27 s28 => Q v27 (B P 3 .eql (G l16 1) (G l16 6) fun v29 => Q v29 (B P 3 .leq (G l16 1) (.int .i64 12) fun v30 => R v30 s28) (R (.bool false) s28)) (R (.bool false) s28)) (R (.bool false) s26)) | false => False))
theorem vc_spec_l22Ok_eq (w0 : World) (a0 : Value) (σ : Vw) (R : Value → Vw → Prop) : vc_spec_l22Ok w0 a0 σ R = den Try.prog w0 kp_spec_l22Ok esc_spec_l22Ok (Try.f87.body.getD .skip) (entry Try.f87.ntmps [a0]) σ (retK Try.prog Try.f87.results.toList R) := by kernel_rfl
theorem ac_spec_l22Ok {w0 : World} {a0 : Value} {σ : Vw} {R : Value → Vw → Prop} (h : vc_spec_l22Ok w0 a0 σ R) : AC Try.prog w0 n_spec_l22Ok [a0] σ R := by
  refine ac_rule (fn := Try.f87) (c := Try.f87.body.getD .skip) kp_spec_l22Ok esc_spec_l22Ok Try.func87 (by kernel_rfl) (by kernel_rfl) ?_
  rw [← vc_spec_l22Ok_eq]
  exact h

/-- spec.l22Blocks -/
def kp_spec_l22Blocks : Nat → Keep
  | _ => ⟨[], [], [], .done, []⟩
def esc_spec_l22Blocks : Nat → Bool
  | _ => false
def vc_spec_l22Blocks (w0 : World) (a0 : Value) (σ : Vw) (R : Value → Vw → Prop) : Prop :=
  AC P w0 n_spec_l22Many [a0, .int .i64 63] σ fun v0 s1 => B P 3 .add (.int .i64 1) v0 fun v2 => R v2 s1
theorem vc_spec_l22Blocks_eq (w0 : World) (a0 : Value) (σ : Vw) (R : Value → Vw → Prop) : vc_spec_l22Blocks w0 a0 σ R = den Try.prog w0 kp_spec_l22Blocks esc_spec_l22Blocks (Try.f88.body.getD .skip) (entry Try.f88.ntmps [a0]) σ (retK Try.prog Try.f88.results.toList R) := by kernel_rfl
theorem ac_spec_l22Blocks {w0 : World} {a0 : Value} {σ : Vw} {R : Value → Vw → Prop} (h : vc_spec_l22Blocks w0 a0 σ R) : AC Try.prog w0 n_spec_l22Blocks [a0] σ R := by
  refine ac_rule (fn := Try.f88) (c := Try.f88.body.getD .skip) kp_spec_l22Blocks esc_spec_l22Blocks Try.func88 (by kernel_rfl) (by kernel_rfl) ?_
  rw [← vc_spec_l22Blocks_eq]
  exact h

/-- spec.l22Piece -/
def kp_spec_l22Piece : Nat → Keep
  | _ => ⟨[], [], [], .done, []⟩
def esc_spec_l22Piece : Nat → Bool
  | _ => false
def vc_spec_l22Piece (w0 : World) (a0 a1 a2 : Value) (σ : Vw) (R : Value → Vw → Prop) : Prop :=
  B P 3 .mul a1 a2 fun v0 => pLenS a0 fun v1 => B P 3 .geq v0 v1 fun v2 => Q v2 (R (.string ({ data := #[] })) σ) (B P 3 .add v0 a2 fun v3 => pLenS a0 fun v4 => B P 3 .gtr v3 v4 fun v5 => Q v5 (pSliceStr a0 (some v0) none fun v6 => R v6 σ) (B P 3 .add v0 a2 fun v7 => pSliceStr a0 (some v0) (some v7) fun v8 => R v8 σ))
theorem vc_spec_l22Piece_eq (w0 : World) (a0 a1 a2 : Value) (σ : Vw) (R : Value → Vw → Prop) : vc_spec_l22Piece w0 a0 a1 a2 σ R = den Try.prog w0 kp_spec_l22Piece esc_spec_l22Piece (Try.f89.body.getD .skip) (entry Try.f89.ntmps [a0, a1, a2]) σ (retK Try.prog Try.f89.results.toList R) := by kernel_rfl
theorem ac_spec_l22Piece {w0 : World} {a0 a1 a2 : Value} {σ : Vw} {R : Value → Vw → Prop} (h : vc_spec_l22Piece w0 a0 a1 a2 σ R) : AC Try.prog w0 n_spec_l22Piece [a0, a1, a2] σ R := by
  refine ac_rule (fn := Try.f89) (c := Try.f89.body.getD .skip) kp_spec_l22Piece esc_spec_l22Piece Try.func89 (by kernel_rfl) (by kernel_rfl) ?_
  rw [← vc_spec_l22Piece_eq]
  exact h

/-- spec.l22Dec -/
def kp_spec_l22Dec : Nat → Keep
  | 7 => ⟨[], [], [], .step 0 (.step 1 (.step 3 (.step 4 (.step 5 (.step 6 (.both (.step 2 (.step 7 (.step 8 (.step 9 (.step 10 (.done)))))) (.step 7 (.step 8 (.step 2 (.step 9 (.step 10 (.done)))))))))))), [(1, [0]), (2, [0, 1]), (4, [3]), (5, [3, 4]), (6, [3, 4, 5]), (7, [3, 4, 5, 6]), (8, [3, 4, 5, 6, 7]), (9, [0, 1, 2, 3, 4, 5, 6, 7, 8]), (10, [0, 1, 2, 3, 4, 5, 6, 7, 8, 9])]⟩
  | _ => ⟨[], [], [], .done, []⟩
def esc_spec_l22Dec : Nat → Bool
  | 16 => true
  | 25 => true
  | _ => false
def vc_spec_l22Dec (w0 : World) (a0 : Value) (σ : Vw) (R : Value → Vw → Prop) : Prop :=
  B P 3 .lss a0 (.int .i64 (-9223372036854775807)) fun v0 => Q v0 (R (.string ({ data := #[45, 57, 50, 50, 51, 51, 55, 50, 48, 51, 54, 56, 53, 52, 55, 55, 53, 56, 48, 56] })) σ) (B P 3 .lss a0 (.int .i64 0) fun v1 => Q v1 (pUn .neg a0 fun v2 => AC P w0 n_spec_l22Dec [v2] σ fun v3 s4 => B P 9 .add (.string ({ data := #[45] })) v3 fun v5 => R v5 s4) (B P 3 .lss a0 (.int .i64 10) fun v6 => Q v6 (B P 3 .add (.int .i64 48) a0 fun v7 => pConvInt .u8 v7 fun v8 => V false 1 v8 (W w0 5 [v8] σ fun n9 s10 => pStr w0 (.slice (some (Addr.mk n9 0 none)) 1 1) s10 fun v11 => R v11 s10)) (B P 3 .quo a0 (.int .i64 10) fun v12 => B P 3 .rem a0 (.int .i64 10) fun v13 => B P 3 .add (.int .i64 48) v13 fun v14 => pConvInt .u8 v14 fun v15 => (AC P w0 n_spec_l22Dec [v12] σ fun v16 s17 => V false 1 v15 (W w0 5 [v15] s17 fun n18 s19 => pStr w0 (.slice (some (Addr.mk n18 0 none)) 1 1) s19 fun v20 => B P 9 .add v16 v20 fun v21 => R v21 s19)) ∧ (V false 1 v15 (W w0 5 [v15] σ fun n22 s23 => pStr w0 (.slice (some (Addr.mk n22 0 none)) 1 1) s23 fun v24 => AC P w0 n_spec_l22Dec [v12] s23 fun v25 s26 => (Ext s23 s26) ∧ (B P 9 .add v25 v24 fun v27 => R v27 s26))))))
theorem vc_spec_l22Dec_eq (w0 : World) (a0 : Value) (σ : Vw) (R : Value → Vw → Prop) : vc_spec_l22Dec w0 a0 σ R = den Try.prog w0 kp_spec_l22Dec esc_spec_l22Dec (Try.f90.body.getD .skip) (entry Try.f90.ntmps [a0]) σ (retK Try.prog Try.f90.results.toList R) := by kernel_rfl
theorem ac_spec_l22Dec {w0 : World} {a0 : Value} {σ : Vw} {R : Value → Vw → Prop} (h : vc_spec_l22Dec w0 a0 σ R) : AC Try.prog w0 n_spec_l22Dec [a0] σ R := by
  refine ac_rule (fn := Try.f90) (c := Try.f90.body.getD .skip) kp_spec_l22Dec esc_spec_l22Dec Try.func90 (by kernel_rfl) (by kernel_rfl) ?_
  rw [← vc_spec_l22Dec_eq]
  exact h

/-- spec.l22Many -/
def kp_spec_l22Many : Nat → Keep
  | _ => ⟨[], [], [], .done, []⟩
def esc_spec_l22Many : Nat → Bool
  | _ => false
def vc_spec_l22Many (w0 : World) (a0 a1 : Value) (σ : Vw) (R : Value → Vw → Prop) : Prop :=
  pLenS a0 fun v0 => B P 3 .add v0 a1 fun v1 => B P 3 .sub v1 (.int .i64 1) fun v2 => B P 3 .quo v2 a1 fun v3 => R v3 σ
theorem vc_spec_l22Many_eq (w0 : World) (a0 a1 : Value) (σ : Vw) (R : Value → Vw → Prop) : vc_spec_l22Many w0 a0 a1 σ R = den Try.prog w0 kp_spec_l22Many esc_spec_l22Many (Try.f91.body.getD .skip) (entry Try.f91.ntmps [a0, a1]) σ (retK Try.prog Try.f91.results.toList R) := by kernel_rfl
theorem ac_spec_l22Many {w0 : World} {a0 a1 : Value} {σ : Vw} {R : Value → Vw → Prop} (h : vc_spec_l22Many w0 a0 a1 σ R) : AC Try.prog w0 n_spec_l22Many [a0, a1] σ R := by
  refine ac_rule (fn := Try.f91) (c := Try.f91.body.getD .skip) kp_spec_l22Many esc_spec_l22Many Try.func91 (by kernel_rfl) (by kernel_rfl) ?_
  rw [← vc_spec_l22Many_eq]
  exact h

/-- spec.l22Head -/
def kp_spec_l22Head : Nat → Keep
  | _ => ⟨[], [], [], .done, []⟩
def esc_spec_l22Head : Nat → Bool
  | _ => false
def vc_spec_l22Head (w0 : World) (a0 a1 : Value) (σ : Vw) (R : Value → Vw → Prop) : Prop :=
  AC P w0 n_spec_l22Dec [a0] σ fun v0 s1 => B P 9 .add (.string ({ data := #[67, 32] })) v0 fun v2 => B P 9 .add v2 (.string ({ data := #[32] })) fun v3 => pLenS a1 fun v4 => AC P w0 n_spec_l22Dec [v4] s1 fun v5 s6 => B P 9 .add v3 v5 fun v7 => R v7 s6
theorem vc_spec_l22Head_eq (w0 : World) (a0 a1 : Value) (σ : Vw) (R : Value → Vw → Prop) : vc_spec_l22Head w0 a0 a1 σ R = den Try.prog w0 kp_spec_l22Head esc_spec_l22Head (Try.f92.body.getD .skip) (entry Try.f92.ntmps [a0, a1]) σ (retK Try.prog Try.f92.results.toList R) := by kernel_rfl
theorem ac_spec_l22Head {w0 : World} {a0 a1 : Value} {σ : Vw} {R : Value → Vw → Prop} (h : vc_spec_l22Head w0 a0 a1 σ R) : AC Try.prog w0 n_spec_l22Head [a0, a1] σ R := by
  refine ac_rule (fn := Try.f92) (c := Try.f92.body.getD .skip) kp_spec_l22Head esc_spec_l22Head Try.func92 (by kernel_rfl) (by kernel_rfl) ?_
  rw [← vc_spec_l22Head_eq]
  exact h

end Go.Proofs.Ytlfnfpdipghdiaa

/- What each function owes: all parts. MADE BY PROGRAM (emit.py). -/


/- The lists of texts: their size, their copy, their comparison. -/
set_option linter.unusedVariables false
set_option linter.unusedSimpArgs false
namespace Go.Proofs.Ytlfnfpdipghdiaa
open Go Go.Av

section
variable {w0 : World} {σ : Vw}

end
end Go.Proofs.Ytlfnfpdipghdiaa

/- The lists of texts: their copy, their comparison. -/
set_option linter.unusedVariables false
set_option linter.unusedSimpArgs false
namespace Go.Proofs.Ytlfnfpdipghdiaa
open Go Go.Av

section
variable {w0 : World} {σ : Vw}


end
end Go.Proofs.Ytlfnfpdipghdiaa

/- A disk's rows: the law 'DiskOk', of the functions alone. -/
set_option linter.unusedVariables false
set_option linter.unusedSimpArgs false
namespace Go.Proofs.Ytlfnfpdipghdiaa
open Go Go.Av

section
variable {w0 : World} {σ : Vw}

def okD : List ByteArray → Bool
  | [] => true
  | s :: r => decide (s.size ≤ 64) && okD r
theorem okD_iff {xs : List ByteArray} : okD xs = true ↔ ∀ (j : Nat) (x : ByteArray), xs[j]? = some x → x.size ≤ 64 := by
  induction xs with
  | nil => simp [okD]
  | cons a r ih =>
    simp only [okD, Bool.and_eq_true, decide_eq_true_eq, ih]
    constructor
    · rintro ⟨h1, h2⟩ j x hj
      cases j with
      | zero => simp at hj; subst hj; exact h1
      | succ j => exact h2 j x (by simpa using hj)
    · intro h
      exact ⟨h 0 a rfl, fun j x hj => h (j + 1) x (by simpa using hj)⟩
def diskOk (xs : List ByteArray) : Bool := okD xs && decide (xs.length = 194)

theorem spec_DiskOk {v : Value} {xs : List ByteArray} (h : RSl 1 RS (Av.get w0 σ) v xs) {R : Value → Vw → Prop} (hR : R (.bool (diskOk xs)) σ) : AC Try.prog w0 n_spec_DiskOk [.agg ⟨[v]⟩] σ R := by
  refine ac_spec_DiskOk ?_
  unfold vc_spec_DiskOk
  rw [pVal_1 h.one]
  have hl := h.le
  refine loop_rule (m := xs.length) (fun m l s => ∃ j, s = σ ∧ m + j = xs.length ∧ (∀ (i : Nat) (x : ByteArray), i < j → xs[i]? = some x → x.size ≤ 64) ∧ l = [.bool false, .int .i64 (j : Nat), v]) ?_ ⟨0, rfl, by omega, fun i x h => by omega, rfl⟩
  rintro m l s L ⟨j, rfl, hm, ht, rfl⟩ hL
  simp only [vget, List.getD_cons_zero, List.getD_cons_succ]
  rw [h.len, pBin_lt, pIf_d]
  refine ⟨fun hj => ?_, fun hj => ?_⟩
  · have hj' : j < xs.length := by omega
    have hx := List.getElem?_eq_getElem hj'
    refine h.at hx fun g hg => ?_
    obtain ⟨hg, hs⟩ := hg
    simp only [expl, List.cons.injEq, and_true] at hg
    rw [hg, pLenS_s, pBin_gt, pIf_d]
    refine ⟨fun hgt => ?_, fun hle => ?_⟩
    · have : diskOk xs = false := by
        cases hc : okD xs with
        | false => simp [diskOk, hc]
        | true => have := okD_iff.1 hc j _ hx; omega
      rw [this] at hR; exact hR
    · rw [pBin_add (by omega)]
      refine hL _ _ (m - 1) (by omega) ⟨j + 1, rfl, by omega, fun i x hi he => ?_, rfl⟩
      by_cases e : i = j
      · subst e; rw [hx] at he; cases he; omega
      · exact ht i x (by omega) he
  · have hj' : j = xs.length := by omega
    subst hj'
    show pLen v _
    rw [h.len, pBin_eq]
    have : diskOk xs = decide ((xs.length : Int) = 194) := by
      have h1 : okD xs = true := okD_iff.2 fun i x he => ht i x (List.getElem?_eq_some_iff.1 he).1 he
      simp only [diskOk, h1, Bool.true_and]
      congr 1
      apply propext
      omega
    rw [this] at hR
    exact hR

theorem impl_DiskOk {v : Value} {xs : List ByteArray} (h : RSl 1 RS (Av.get w0 σ) v xs) {R : Value → Vw → Prop} (hR : R (.bool (diskOk xs)) σ) : AC Try.prog w0 n_impl_DiskOk [.agg ⟨[v]⟩] σ R := by
  refine ac_impl_DiskOk ?_
  unfold vc_impl_DiskOk
  have hl := h.le
  rw [pVal_1 h.one]
  simp only [cellOf_agg, List.getD_cons_zero]
  rw [h.len]
  refine loop_rule (m := xs.length) (fun m l s => ∃ j, s = σ ∧ m + j = xs.length ∧ (∀ (i : Nat) (x : ByteArray), i < j → xs[i]? = some x → x.size ≤ 64) ∧ l = [.bool false, v, .int .i64 xs.length, .int .i64 (j : Nat), v]) ?_ ⟨0, rfl, by omega, fun i x h => by omega, rfl⟩
  rintro m l s L ⟨j, rfl, hm, ht, rfl⟩ hL
  simp only [vget, List.getD_cons_zero, List.getD_cons_succ]
  rw [pBin_lt, pIf_d]
  refine ⟨fun hj => ?_, fun hj => ?_⟩
  · have hj' : j < xs.length := by omega
    have hx := List.getElem?_eq_getElem hj'
    refine h.at hx fun g hg => ?_
    obtain ⟨hg, hs⟩ := hg
    simp only [expl, List.cons.injEq, and_true] at hg
    rw [hg, pLenS_s, pBin_gt, pIf_d]
    refine ⟨fun hgt => ?_, fun hle => ?_⟩
    · have : diskOk xs = false := by
        cases hc : okD xs with
        | false => simp [diskOk, hc]
        | true => have := okD_iff.1 hc j _ hx; omega
      rw [this] at hR; exact hR
    · rw [pBin_add (by omega)]
      refine hL _ _ (m - 1) (by omega) ⟨j + 1, rfl, by omega, fun i x hi he => ?_, rfl⟩
      by_cases e : i = j
      · subst e; rw [hx] at he; cases he; omega
      · exact ht i x (by omega) he
  · have hj' : j = xs.length := by omega
    subst hj'
    show pLen v _
    rw [h.len, pBin_eq]
    have : diskOk xs = decide ((xs.length : Int) = 194) := by
      have h1 : okD xs = true := okD_iff.2 fun i x he => ht i x (List.getElem?_eq_some_iff.1 he).1 he
      simp only [diskOk, h1, Bool.true_and]
      congr 1
      apply propext
      omega
    rw [this] at hR
    exact hR

end
end Go.Proofs.Ytlfnfpdipghdiaa

/- The lists of texts in rows of their own; marks (a path and a bool) and their lists: size, copy, comparison. -/
set_option linter.unusedVariables false
set_option linter.unusedSimpArgs false
namespace Go.Proofs.Ytlfnfpdipghdiaa
open Go Go.Av

/-- A text needs no row. -/
def OStr (σ : Vw) (F : List Nat) (es : List Value) (s : ByteArray) : Prop := F = [] ∧ es = [.string s] ∧ s.size ≤ 9223372036854775807

section
variable {w0 : World} {σ : Vw}

theorem ok_str (w0 : World) : OOk w0 1 RS OStr := by
  refine ⟨?_, ?_, ?_, ?_, ?_, ?_⟩
  · rintro σ F es x ⟨_, h1, h2⟩; exact ⟨h1, h2⟩
  · rintro σ σ' F es x h _; exact h
  · rintro σ F es x ⟨rfl, _, _⟩ b hb; cases hb
  · rintro σ F es x ⟨rfl, _, _⟩; exact List.nodup_nil
  · rintro σ F es x ⟨_, rfl, _⟩; rfl
  · rintro σ F es x ⟨_, rfl, _⟩ c hc; rw [List.mem_singleton.1 hc]; rfl

abbrev OStrs (w0 : World) := OSl w0 1 OStr
theorem OSl.one' {α : Type} {n : Nat} {O : Vw → List Nat → List Value → α → Prop} {F : List Nat} {v : Value} {xs : List α} (h : OSl w0 n O σ F v xs) : v.oneCell' = true := by
  obtain ⟨_, _, ⟨rfl, _⟩ | ⟨_, _, _, _, _, _, _, _, rfl, _⟩⟩ := h <;> rfl

end
end Go.Proofs.Ytlfnfpdipghdiaa

/- Names: their letters and their length. -/
set_option linter.unusedVariables false
set_option linter.unusedSimpArgs false
namespace Go.Proofs.Ytlfnfpdipghdiaa
open Go Go.Av

theorem pIndexStr_s {s : ByteArray} {j : Nat} {K : Value → Prop} (h : j < s.size) (hK : K (.int .u8 ((s[j]'h).toNat : Int))) : pIndexStr (.string s) (.int .i64 j) K :=
  ⟨s, .i64, j, rfl, rfl, by omega, h, hK⟩

/-- Within two bounds. -/
def inB (n lo hi : Int) : Bool := decide (lo ≤ n ∧ n ≤ hi)
section
variable {w0 : World} {σ : Vw}

theorem impl_within {n lo hi : Int} {R : Value → Vw → Prop} (hR : R (.bool (inB n lo hi)) σ) : AC Try.prog w0 n_impl_within [.int .i64 n, .int .i64 lo, .int .i64 hi] σ R := by
  refine ac_impl_within ?_
  unfold vc_impl_within
  rw [pBin_ge, pIf_d]
  refine ⟨fun h => ?_, fun h => ?_⟩
  · rw [pBin_le]
    have : inB n lo hi = decide (n ≤ hi) := by simp [inB, h]
    rw [this] at hR; exact hR
  · have : inB n lo hi = false := by simp [inB, h]
    rw [this] at hR; exact hR

end
end Go.Proofs.Ytlfnfpdipghdiaa

/- Marks of texts. -/
set_option linter.unusedVariables false
set_option linter.unusedSimpArgs false
namespace Go.Proofs.Ytlfnfpdipghdiaa
open Go Go.Av

section
variable {w0 : World} {σ : Vw}

end
end Go.Proofs.Ytlfnfpdipghdiaa

/- Writes of a disk: the law 'DiskWrite', of the functions alone. -/
set_option linter.unusedVariables false
set_option linter.unusedSimpArgs false
namespace Go.Proofs.Ytlfnfpdipghdiaa
open Go Go.Av

abbrev Rw := Int × ByteArray
def encRaw (x : Rw) : List Value := [.int .i64 x.1, .string x.2]
def goodRaw (x : Rw) : Prop := (-9223372036854775808 ≤ x.1 ∧ x.1 ≤ 9223372036854775807) ∧ x.2.size ≤ 9223372036854775807
abbrev RRaw := RFl encRaw goodRaw
abbrev ORaw := OFl encRaw goodRaw
theorem ok_raw (w0 : World) : OOk w0 2 RRaw ORaw := ok_fl (n := 2) (enc := encRaw) (good := goodRaw) (fun _ => rfl) (fun x c h => by simp [encRaw] at h; rcases h with rfl | rfl <;> rfl) w0
section
variable {w0 : World} {σ : Vw}

end
end Go.Proofs.Ytlfnfpdipghdiaa

/- The law 'DiskWrite', of the functions alone. -/
set_option linter.unusedVariables false
set_option linter.unusedSimpArgs false
namespace Go.Proofs.Ytlfnfpdipghdiaa
open Go Go.Av

/-- One write. -/
def setD (bs : List ByteArray) (x : Rw) : List ByteArray := if inB x.1 0 193 = true ∧ x.2.size ≤ 64 then bs.set x.1.toNat x.2 else bs
def runD (bs : List ByteArray) (xs : List Rw) : List ByteArray := xs.foldl setD bs
theorem runD_len (bs : List ByteArray) (xs : List Rw) : (runD bs xs).length = bs.length := by
  induction xs generalizing bs with
  | nil => rfl
  | cons x r ih =>
    have : runD bs (x :: r) = runD (setD bs x) r := rfl
    rw [this, ih]
    unfold setD; split
    · rw [List.length_set]
    · rfl
def cutN (cut : Int) (n : Nat) : Nat := (min (max cut 0) n).toNat
def writeD (bs : List ByteArray) (xs : List Rw) (cut : Int) : List ByteArray := if diskOk bs = true then runD bs (xs.take (cutN cut xs.length)) else []

section
variable {w0 : World} {σ : Vw}

theorem take_all {xs : List Rw} {bs : List ByteArray} {j : Nat} {x : Rw} (hj : xs[j]? = some x) : runD bs (xs.take (j + 1)) = setD (runD bs (xs.take j)) x := foldl_take hj

theorem spec_Copy {v : Value} {xs : List ByteArray} (h : RSl 1 RS (Av.get w0 σ) v xs) (hl : xs.length ≤ 1000000000) {R : Value → Vw → Prop}
    (hR : ∀ v' F σ', Keeps σ σ' → OAcc w0 t_string 1 OStr σ' F v' xs → (∀ b, b ∈ F → σ b = none) → R (.agg ⟨[v']⟩) σ') : AC Try.prog w0 n_spec_l21Copy [.agg ⟨[v]⟩] σ R := by
  refine ac_spec_l21Copy ?_
  unfold vc_spec_l21Copy
  rw [pVal_1 h.one]
  intro b h1 h2
  have ha := OAcc.new (w0 := w0) (σ := σ) (ety := t_string) (n := 1) (O := OStr) h1
  refine ha.all (ok_str w0) h (Keeps.put h2).le (fun es y hy => ⟨rfl, hy⟩) (by simp; omega) (by omega) fun v' F' σ' k1 o1 f1 => ?_
  rw [pVal1 (OSl.one' o1.osl), pVal_1 (OSl.one' o1.osl)]
  have hf : ∀ i, i ∈ F' → σ i = none := fun i hi => by
    rcases f1 i hi with e | e
    · rw [List.mem_singleton.1 e]; exact h2
    · cases hs : σ i with
      | none => rfl
      | some r => rw [Keeps.put h2 i r hs] at e; cases e
  exact hR v' F' σ' (k1.old (Keeps.put h2) (fun i hi => by rw [List.mem_singleton.1 hi]; exact h2)) o1 hf

theorem impl_clone {v : Value} {xs : List ByteArray} (h : RSl 1 RS (Av.get w0 σ) v xs) (hl : xs.length ≤ 1000000000) {R : Value → Vw → Prop}
    (hR : ∀ v' F σ', Keeps σ σ' → OAcc w0 t_string 1 OStr σ' F v' xs → (∀ b, b ∈ F → σ b = none) → R (.agg ⟨[v']⟩) σ') : AC Try.prog w0 n_impl_cloneDisk [.agg ⟨[v]⟩] σ R := by
  refine ac_impl_cloneDisk ?_
  unfold vc_impl_cloneDisk
  rw [pVal_1 h.one]
  intro b h1 h2
  have ha := OAcc.new (w0 := w0) (σ := σ) (ety := t_string) (n := 1) (O := OStr) h1
  refine ha.all (ok_str w0) h (Keeps.put h2).le (fun es y hy => ⟨rfl, hy⟩) (by simp; omega) (by omega) fun v' F' σ' k1 o1 f1 => ?_
  rw [pVal1 (OSl.one' o1.osl), pVal_1 (OSl.one' o1.osl)]
  have hf : ∀ i, i ∈ F' → σ i = none := fun i hi => by
    rcases f1 i hi with e | e
    · rw [List.mem_singleton.1 e]; exact h2
    · cases hs : σ i with
      | none => rfl
      | some r => rw [Keeps.put h2 i r hs] at e; cases e
  exact hR v' F' σ' (k1.old (Keeps.put h2) (fun i hi => by rw [List.mem_singleton.1 hi]; exact h2)) o1 hf

/-- A text of a list of our own is written. -/
theorem str_store {F : List Nat} {v : Value} {xs : List ByteArray} (h : OStrs w0 σ F v xs) {j : Nat} {x y : ByteArray} (hj : xs[j]? = some x) (hy : y.size ≤ 9223372036854775807) {K : Vw → Prop}
    (hK : ∀ σ', KeepsBut F σ σ' → OStrs w0 σ' F v (xs.set j y) → K σ') : pIndexAddr 1 v (.int .i64 j) fun p => pVal false 1 (.string y) (pStore p [.string y] σ K) := by
  obtain ⟨b, o, f, c, A, C, r, hix, hb, hr, hc, hA, hOx, hbF, hf, hput⟩ := h.focus (ok_str w0) hj
  obtain ⟨rfl, rfl, hsz⟩ := hOx
  refine hix _ ?_
  refine elem_store hr hc hA rfl ?_
  exact hK _ (KeepsBut.put hbF) (hput _ [.string y] y _ put_at rfl ⟨rfl, rfl, hy⟩ fun i hi hne _ => by simp [Vw.put, hne])

theorem spec_RawOk {es : List Value} {x : Rw} {R : Value → Vw → Prop} (h : RRaw (Av.get w0 σ) es x) (hR : R (.bool (inB x.1 0 193 && decide (x.2.size ≤ 64))) σ) : AC Try.prog w0 n_spec_l21RawOk [.agg ⟨es⟩] σ R := by
  obtain ⟨rfl, hg⟩ := h
  refine ac_spec_l21RawOk ?_
  unfold vc_spec_l21RawOk
  rw [encRaw, pVal_2 rfl rfl]
  simp only [cellOf_agg, List.getD_cons_zero, List.getD_cons_succ]
  refine ac_spec_l21In ?_
  unfold vc_spec_l21In
  rw [pBin_ge, pIf_d]
  have fin : ∀ b : Bool, b = inB x.1 0 193 → pIf (.bool b) (pLenS (.string x.2) (fun v2 => pBin Try.prog 3 .leq v2 (.int .i64 64) (fun v3 => R v3 σ))) (R (.bool false) σ) := by
    rintro b rfl
    rw [pIf_b, pLenS_s, pBin_le]
    refine ⟨fun h => ?_, fun h => ?_⟩
    · rw [h] at hR
      have e : decide ((x.2.size : Int) ≤ 64) = decide (x.2.size ≤ 64) := by congr 1; apply propext; omega
      rw [e]; simpa using hR
    · rw [h] at hR; simpa using hR
  refine ⟨fun h => ?_, fun h => ?_⟩
  · rw [pBin_le]; exact fin _ (by simp [inB, h])
  · exact fin _ (by simp [inB, h])

theorem spec_DiskWrite {v u : Value} {bs : List ByteArray} {xs : List Rw} {cut : Int} (h : RSl 1 RS (Av.get w0 σ) v bs) (hu : RSl 2 RRaw (Av.get w0 σ) u xs) {R : Value → Vw → Prop}
    (hR : ∀ v' F σ', Keeps σ σ' → OStrs w0 σ' F v' (writeD bs xs cut) → (∀ b, b ∈ F → σ b = none) → R (.agg ⟨[v']⟩) σ') : AC Try.prog w0 n_spec_DiskWrite [.agg ⟨[v]⟩, u, .int .i64 cut] σ R := by
  refine ac_spec_DiskWrite ?_
  unfold vc_spec_DiskWrite
  have hl := h.le
  have hul := hu.le
  rw [pVal_1 h.one]
  simp only [cellOf_agg, List.getD_cons_zero, List.getD_cons_succ]
  refine spec_DiskOk h ?_
  rw [pUn_not, pIf_b]
  refine ⟨fun hn => ?_, fun hok => ?_⟩
  · rw [pVal_1 rfl]
    have : diskOk bs = false := by simpa using hn
    have e : writeD bs xs cut = [] := by simp [writeD, this]
    rw [e] at hR
    exact hR _ [] σ (Keeps.refl σ) ⟨by simp, by simp, .inl ⟨rfl, rfl, rfl⟩⟩ (by simp)
  · have hok' : diskOk bs = true := by simpa using hok
    have hlen : bs.length = 194 := by simp [diskOk] at hok'; exact hok'.2
    have e : writeD bs xs cut = runD bs (xs.take (cutN cut xs.length)) := by simp [writeD, hok']
    rw [e] at hR
    refine spec_Copy h (by omega) fun v1 F1 s1 k1 o1 f1 => ?_
    rw [pVal_1 (OSl.one' o1.osl)]
    have fin : ∀ (s : Vw), Keeps σ s → OStrs w0 s F1 v1 (runD bs (xs.take (cutN cut xs.length))) → pVal true 1 (.agg ⟨[v1]⟩) (R (.agg ⟨[v1]⟩) s) := fun s ks os => by
      rw [pVal_1 (OSl.one' os)]; exact hR v1 F1 s ks os f1
    refine loop_rule (m := cutN cut xs.length) (fun c l s => ∃ j : Nat, c + j = cutN cut xs.length ∧ Keeps σ s ∧ OStrs w0 s F1 v1 (runD bs (xs.take j)) ∧ l = [u, .int .i64 cut, .int .i64 (j : Nat), .slice none 0 0, v1]) ?_ ⟨0, by omega, k1, by simpa [runD] using o1.osl, rfl⟩
    rintro c l s L ⟨j, hc, ks, os, rfl⟩ hL
    have hcut : cutN cut xs.length = (min (max cut 0) xs.length).toNat := rfl
    simp only [vget, List.getD_cons_zero, List.getD_cons_succ]
    have hu' := hu.mono ks.le fun _ _ h => h
    rw [hu'.len, pBin_lt, pIf_d]
    refine ⟨fun hj => ?_, fun hj => ?_⟩
    · rw [pBin_lt, pIf_d]
      refine ⟨fun hj2 => ?_, fun hj2 => ?_⟩
      · have hx := List.getElem?_eq_getElem (show j < xs.length by omega)
        generalize hxj : xs[j] = x at hx
        have ht := take_all (bs := bs) hx
        refine hu'.at hx fun g hg => ?_
        refine spec_RawOk hg ?_
        rw [pIf_b]
        have next : ∀ s', KeepsBut F1 s s' → OStrs w0 s' F1 v1 (setD (runD bs (xs.take j)) x) → pBin Try.prog 3 .add (.int .i64 (j : Nat)) (.int .i64 1) (fun v => L [u, .int .i64 cut, v, .slice none 0 0, v1] s') := fun s' k' o' => by
          rw [pBin_add (by omega)]
          rw [← ht] at o'
          exact hL _ _ (c - 1) (by omega) ⟨j + 1, by omega, k'.old ks f1, o', by simp⟩
        refine ⟨fun hg2 => ?_, fun hg2 => ?_⟩
        · simp only [Bool.and_eq_true, decide_eq_true_eq] at hg2
          refine hu'.atf hx 0 (by omega) fun es1 g1 hes1 hg1 => ?_
          refine hu'.atf hx 1 (by omega) fun es2 g2 hes2 hg2' => ?_
          obtain ⟨rfl, _⟩ := hes1
          obtain ⟨rfl, hgood⟩ := hes2
          simp only [encRaw, List.getElem?_cons_zero, List.getElem?_cons_succ, Option.some.injEq] at hg1 hg2'
          rw [← hg1, ← hg2']
          have hr : 0 ≤ x.1 ∧ x.1 ≤ 193 := by have := hg2.1; simpa [inB] using this
          obtain ⟨n, hn⟩ : ∃ n : Nat, x.1 = n := ⟨x.1.toNat, by omega⟩
          rw [hn]
          have hn' : n < (runD bs (xs.take j)).length := by rw [runD_len]; omega
          refine str_store os (List.getElem?_eq_getElem hn') hgood.2 fun s' k' o' => next s' k' ?_
          have : setD (runD bs (xs.take j)) x = (runD bs (xs.take j)).set n x.2 := by
            unfold setD; rw [if_pos hg2, hn]; rfl
          rw [this]; exact o'
        · refine next s (KeepsBut.refl _ _) ?_
          have : setD (runD bs (xs.take j)) x = runD bs (xs.take j) := by
            unfold setD; rw [if_neg]; simpa using hg2
          rw [this]; exact os
      · have : j = cutN cut xs.length := by omega
        subst this
        exact fin s ks os
    · have : j = cutN cut xs.length := by omega
      subst this
      exact fin s ks os

theorem impl_DiskWrite {v u : Value} {bs : List ByteArray} {xs : List Rw} {cut : Int} (h : RSl 1 RS (Av.get w0 σ) v bs) (hu : RSl 2 RRaw (Av.get w0 σ) u xs) {R : Value → Vw → Prop}
    (hR : ∀ v' F σ', Keeps σ σ' → OStrs w0 σ' F v' (writeD bs xs cut) → (∀ b, b ∈ F → σ b = none) → R (.agg ⟨[v']⟩) σ') : AC Try.prog w0 n_impl_DiskWrite [.agg ⟨[v]⟩, u, .int .i64 cut] σ R := by
  refine ac_impl_DiskWrite ?_
  unfold vc_impl_DiskWrite
  have hl := h.le
  have hul := hu.le
  rw [pVal_1 h.one]
  simp only [cellOf_agg, List.getD_cons_zero, List.getD_cons_succ]
  refine impl_DiskOk h ?_
  rw [pUn_not, pIf_b]
  refine ⟨fun hn => ?_, fun hok => ?_⟩
  · rw [pVal_1 rfl]
    have : diskOk bs = false := by simpa using hn
    have e : writeD bs xs cut = [] := by simp [writeD, this]
    rw [e] at hR
    exact hR _ [] σ (Keeps.refl σ) ⟨by simp, by simp, .inl ⟨rfl, rfl, rfl⟩⟩ (by simp)
  · have hok' : diskOk bs = true := by simpa using hok
    have hlen : bs.length = 194 := by simp [diskOk] at hok'; exact hok'.2
    have e : writeD bs xs cut = runD bs (xs.take (cutN cut xs.length)) := by simp [writeD, hok']
    rw [e] at hR
    refine impl_clone h (by omega) fun v1 F1 s1 k1 o1 f1 => ?_
    rw [pVal_1 (OSl.one' o1.osl), pMax_s]
    have hu1 := hu.mono k1.le fun _ _ h => h
    rw [hu1.len, pMin_s]
    have hcut : (min (max cut 0) (xs.length : Int)) = ((cutN cut xs.length : Nat) : Int) := by unfold cutN; omega
    rw [hcut]
    refine hu.slice (l := 0) (u := cutN cut xs.length) rfl rfl (by omega) (by unfold cutN; omega) fun u2 hu2 => ?_
    rw [List.drop_zero] at hu2
    have hlen2 : (xs.take (cutN cut xs.length)).length = cutN cut xs.length := by rw [List.length_take]; unfold cutN; omega
    rw [hu2.len, hlen2]
    have fin : ∀ (s : Vw), Keeps σ s → OStrs w0 s F1 v1 (runD bs (xs.take (cutN cut xs.length))) → pVal true 1 (.agg ⟨[v1]⟩) (R (.agg ⟨[v1]⟩) s) := fun s ks os => by
      rw [pVal_1 (OSl.one' os)]; exact hR v1 F1 s ks os f1
    refine loop_rule (m := cutN cut xs.length) (fun c l s => ∃ j : Nat, c + j = cutN cut xs.length ∧ Keeps σ s ∧ Keeps s1 s1 ∧ KeepsBut F1 s1 s ∧ OStrs w0 s F1 v1 (runD bs (xs.take j)) ∧ l = [u2, .int .i64 (cutN cut xs.length : Nat), .int .i64 (j : Nat), .slice none 0 0, v1]) ?_ ⟨0, by omega, k1, Keeps.refl _, KeepsBut.refl _ _, by simpa [runD] using o1.osl, rfl⟩
    rintro c l s L ⟨j, hc, ks, _, kb, os, rfl⟩ hL
    simp only [vget, List.getD_cons_zero, List.getD_cons_succ]
    rw [pBin_lt, pIf_d]
    refine ⟨fun hj => ?_, fun hj => ?_⟩
    · have hjx : j < xs.length := by unfold cutN at hj; omega
      have hx := List.getElem?_eq_getElem hjx
      generalize hxj : xs[j] = x at hx
      have ht := take_all (bs := bs) hx
      have hx2 : (xs.take (cutN cut xs.length))[j]? = some x := by rw [List.getElem?_take_of_lt (by omega)]; exact hx
      have next : ∀ s', KeepsBut F1 s s' → OStrs w0 s' F1 v1 (setD (runD bs (xs.take j)) x) → pBin Try.prog 3 .add (.int .i64 (j : Nat)) (.int .i64 1) (fun v => L [u2, .int .i64 (cutN cut xs.length : Nat), v, .slice none 0 0, v1] s') := fun s' k' o' => by
        rw [pBin_add (by omega)]
        rw [← ht] at o'
        exact hL _ _ (c - 1) (by omega) ⟨j + 1, by omega, k'.old ks f1, Keeps.refl _, kb.trans k', o', by simp⟩
      have no : ¬ (inB x.1 0 193 = true ∧ x.2.size ≤ 64) → pBin Try.prog 3 .add (.int .i64 (j : Nat)) (.int .i64 1) (fun v => L [u2, .int .i64 (cutN cut xs.length : Nat), v, .slice none 0 0, v1] s) := fun hn => by
        refine next s (KeepsBut.refl _ _) ?_
        have : setD (runD bs (xs.take j)) x = runD bs (xs.take j) := by unfold setD; rw [if_neg hn]
        rw [this]; exact os
      have hus := hu2.mono ks.le fun _ _ h => h
      refine hus.at hx2 fun g hg => ?_
      obtain ⟨hg, hgood⟩ := hg
      simp only [expl, encRaw, List.cons.injEq, and_true] at hg
      obtain ⟨g0, g1⟩ := hg
      rw [g0, g1, pVal_2 rfl rfl]
      refine impl_within ?_
      rw [pIf_b]
      refine ⟨fun hin => ?_, fun hin => no fun hh => by rw [hh.1] at hin; cases hin⟩
      rw [pLenS_s, pBin_le, pIf_d]
      refine ⟨fun hsz => ?_, fun hsz => no fun hh => by omega⟩
      have hr : 0 ≤ x.1 ∧ x.1 ≤ 193 := by simpa [inB] using hin
      obtain ⟨n, hn⟩ : ∃ n : Nat, x.1 = n := ⟨x.1.toNat, by omega⟩
      rw [hn]
      have hn' : n < (runD bs (xs.take j)).length := by rw [runD_len]; omega
      refine str_store os (List.getElem?_eq_getElem hn') hgood.2 fun s' k' o' => next s' k' ?_
      have : setD (runD bs (xs.take j)) x = (runD bs (xs.take j)).set n x.2 := by
        unfold setD; rw [if_pos ⟨hin, by omega⟩, hn]; rfl
      rw [this]; exact o'
    · have : j = cutN cut xs.length := by omega
      subst this
      exact fin s ks os
end
end Go.Proofs.Ytlfnfpdipghdiaa

/- No function of Go's library is reached here that is not walked itself. -/
namespace Go.Proofs
end Go.Proofs

/- Decimals by either hand; how a text is cut into blocks. -/
set_option linter.unusedVariables false
set_option linter.unusedSimpArgs false
namespace Go.Proofs.Ytlfnfpdipghdiaa
open Go Go.Av Go.RowKit

theorem nums_dig (n : Nat) : strOfNums [((48 + n % 10 : Nat) : Int)] = ofL [dig n] := by
  have h := bl_byte (48 + n % 10)
  rw [Nat.mod_eq_of_lt (by omega)] at h
  exact bl_inj (by rw [h, bl_ofL]; rfl)
theorem pUn_neg {n : Int} {K : Value → Prop} (h : -9223372036854775807 ≤ n ∧ n ≤ 9223372036854775807) : pUn .neg (.int .i64 n) K ↔ K (.int .i64 (-n)) := by
  have e : aun .neg (.int .i64 n) = some (.int .i64 (-n)) := by
    show some (Value.int .i64 (IntKind.i64.wrap (0 - n))) = _
    rw [IntWalk.i64_in (0 - n) (by omega), Int.zero_sub]
  exact ⟨fun ⟨_, h', hK⟩ => by rw [e] at h'; cases h'; exact hK, fun hK => ⟨_, e, hK⟩⟩
theorem dec_min : decZ (-9223372036854775808) = minText := by
  have : decL 9223372036854775808 = [57, 50, 50, 51, 51, 55, 50, 48, 51, 54, 56, 53, 52, 55, 55, 53, 56, 48, 56] := by
    simp [decL_big, decL_small, dig]
  unfold decZ
  rw [if_pos (by omega)]
  have e : (-(-9223372036854775808 : Int)).toNat = 9223372036854775808 := rfl
  rw [e, decN, this]
  rfl
theorem decN_big {k : Nat} (h : ¬ k < 10) : decN k = decN (k / 10) ++ ofL [dig k] := by
  rw [decN, decL_big h, ← ofL_append]; rfl

section
variable {w0 : World} {σ : Vw}

theorem dec_row {σ' : Vw} {k : Nat} {K : Vw → Value → Prop} (hK : ∀ s, Keeps σ' s → K s (.string (ofL [dig k]))) : pNew w0 5 [.int .u8 ((48 + k % 10 : Nat) : Int)] σ' (fun n s => pStr w0 (.slice (some (Addr.mk n 0 none)) 1 1) s (fun v => K s v)) := by
  intro b h1 h2
  refine pStr1 (by rw [get_row h1 put_at]; rfl) ?_
  rw [nums_dig]
  exact hK _ (Keeps.put h2)

theorem spec_l22Dec_nat : ∀ (k : Nat), k ≤ 9223372036854775807 → ∀ {σ : Vw} {R : Value → Vw → Prop}, (∀ σ', Keeps σ σ' → R (.string (decN k)) σ') → AC Try.prog w0 n_spec_l22Dec [.int .i64 (k : Nat)] σ R := by
  intro k
  induction k using Nat.strongRecOn with
  | _ k ih =>
    intro hk σ R hR
    refine ac_spec_l22Dec ?_
    unfold vc_spec_l22Dec
    rw [pBin_lt, pIf_d]
    refine ⟨fun h => by omega, fun _ => ?_⟩
    rw [pBin_lt, pIf_d]
    refine ⟨fun h => by omega, fun _ => ?_⟩
    rw [pBin_lt, pIf_d]
    refine ⟨fun h10 => ?_, fun h10 => ?_⟩
    · rw [pBin_add (by omega), pConv_u8 (by omega), pVal1 rfl, show (48 : Int) + (k : Nat) = ((48 + k % 10 : Nat) : Int) by omega]
      refine dec_row fun s k1 => ?_
      have := hR s k1
      rw [decN, decL_small (by omega)] at this
      exact this
    · have hb : ¬ k < 10 := by omega
      have hd := (decN_size (k / 10)).2
      rw [decN_big hb] at hR
      have hcat : ∀ K : Value → Prop, pBin Try.prog 9 .add (.string (decN (k / 10))) (.string (ofL [dig k])) K ↔ K (.string (decN (k / 10) ++ ofL [dig k])) := fun K => pBin_cat (by rw [size_ofL]; simp only [List.length_singleton]; omega)
      rw [pBin_quo (by omega), pBin_rem (by omega), pBin_add (by omega), pConv_u8 (by omega), show (48 : Int) + (k : Nat) % 10 = ((48 + k % 10 : Nat) : Int) by omega, show ((k : Nat) : Int) / 10 = ((k / 10 : Nat) : Int) by omega]
      refine ⟨ih (k / 10) (by omega) (by omega) fun s k1 => ?_, ?_⟩
      · rw [pVal1 rfl]
        refine dec_row fun s2 k2 => ?_
        rw [hcat]
        exact hR s2 (k1.trans k2)
      · rw [pVal1 rfl]
        refine dec_row fun s2 k2 => ?_
        refine ih (k / 10) (by omega) (by omega) fun s k1 => ⟨k1.ext, ?_⟩
        rw [hcat]
        exact hR s (k2.trans k1)

theorem spec_l22Dec {n : Int} {R : Value → Vw → Prop} (hn : -9223372036854775808 ≤ n ∧ n ≤ 9223372036854775807) (hR : ∀ σ', Keeps σ σ' → R (.string (decZ n)) σ') : AC Try.prog w0 n_spec_l22Dec [.int .i64 n] σ R := by
  by_cases h0 : 0 ≤ n
  · obtain ⟨k, rfl⟩ : ∃ k : Nat, n = k := ⟨n.toNat, by omega⟩
    rw [decZ_nat] at hR
    exact spec_l22Dec_nat k (by omega) hR
  refine ac_spec_l22Dec ?_
  unfold vc_spec_l22Dec
  rw [pBin_lt, pIf_d]
  refine ⟨fun h1 => ?_, fun h1 => ?_⟩
  · have : n = -9223372036854775808 := by omega
    subst this
    have := hR σ (Keeps.refl σ)
    rw [dec_min] at this
    exact this
  rw [pBin_lt, pIf_d]
  refine ⟨fun _ => ?_, fun h => by omega⟩
  rw [pUn_neg (by omega)]
  obtain ⟨k, hk⟩ : ∃ k : Nat, -n = k := ⟨(-n).toNat, by omega⟩
  rw [hk]
  have e : decZ n = ⟨#[45]⟩ ++ decN k := by
    unfold decZ
    rw [if_pos (by omega), hk, Int.toNat_natCast]
  rw [e] at hR
  refine spec_l22Dec_nat k (by omega) fun s k1 => ?_
  have hd := (decN_size k).2
  rw [pBin_cat (by show 1 + _ ≤ _; omega)]
  exact hR s k1

def manyN (s : ByteArray) (size : Nat) : Nat := (s.size + size - 1) / size
def areaI (gen : Int) : Int := 14 + gen % 2 * 90
def pieceB (s : ByteArray) (i size : Nat) : ByteArray := s.extract (i * size) (min ((i + 1) * size) s.size)
def headB (gen : Int) (n : Nat) : ByteArray := ⟨#[67, 32]⟩ ++ decZ gen ++ ⟨#[32]⟩ ++ decN n

theorem lt_many {s : ByteArray} {size i : Nat} (h : 0 < size) : i < manyN s size ↔ i * size < s.size := by
  unfold manyN
  constructor
  · intro hi
    have : (i + 1) * size ≤ s.size + size - 1 := (Nat.le_div_iff_mul_le h).1 hi
    rw [Nat.add_mul, Nat.one_mul] at this
    omega
  · intro hi
    refine (Nat.le_div_iff_mul_le h).2 ?_
    show (i + 1) * size ≤ _
    rw [Nat.add_mul, Nat.one_mul]; omega
theorem piece_size (s : ByteArray) (i size : Nat) : (pieceB s i size).size ≤ size := by
  unfold pieceB
  rw [ByteArray.size_extract]
  have : (i + 1) * size = i * size + size := by rw [Nat.add_mul, Nat.one_mul]
  omega

theorem spec_l22Many {s : ByteArray} {size : Nat} {R : Value → Vw → Prop} (hs : s.size ≤ 1000000000000) (h : 0 < size ∧ size ≤ 1000) (hR : R (.int .i64 (manyN s size : Nat)) σ) : AC Try.prog w0 n_spec_l22Many [.string s, .int .i64 (size : Nat)] σ R := by
  refine ac_spec_l22Many ?_
  unfold vc_spec_l22Many
  rw [pLenS_s, pBin_add (by omega), pBin_sub (by omega), pBin_quo (by omega)]
  have : ((s.size : Int) + (size : Nat) - 1) / (size : Nat) = (manyN s size : Nat) := by
    unfold manyN
    rw [Int.natCast_ediv]
    congr 1; omega
  rw [this]; exact hR
theorem spec_l22Area {gen : Int} {R : Value → Vw → Prop} (hg : 0 ≤ gen ∧ gen ≤ 1000000) (hR : R (.int .i64 (areaI gen)) σ) : AC Try.prog w0 n_spec_l22Area [.int .i64 gen] σ R := by
  refine ac_spec_l22Area ?_
  unfold vc_spec_l22Area
  rw [pBin_rem (by omega), pBin_mul (by omega), pBin_add (by omega)]
  exact hR
theorem spec_l22Piece {s : ByteArray} {i size : Nat} {R : Value → Vw → Prop} (hs : s.size ≤ 1000000000000) (h : 0 < size ∧ size ≤ 1000) (hi : i * size < s.size) (hR : R (.string (pieceB s i size)) σ) : AC Try.prog w0 n_spec_l22Piece [.string s, .int .i64 (i : Nat), .int .i64 (size : Nat)] σ R := by
  refine ac_spec_l22Piece ?_
  unfold vc_spec_l22Piece
  have e : ((i : Nat) : Int) * (size : Nat) = ((i * size : Nat) : Int) := by rw [Int.natCast_mul]
  have e2 : (i + 1) * size = i * size + size := by rw [Nat.add_mul, Nat.one_mul]
  rw [pBin_mul (by rw [e]; omega), e, pLenS_s, pBin_ge, pIf_d]
  refine ⟨fun h => by omega, fun _ => ?_⟩
  rw [pBin_add (by omega), pLenS_s, pBin_gt, pIf_d]
  refine ⟨fun hgt => ?_, fun hgt => ?_⟩
  · refine pSliceStr_s (l := ((i * size : Nat) : Int)) (h := s.size) rfl rfl (by omega) ?_
    have : pieceB s i size = s.extract (i * size) s.size := by unfold pieceB; rw [e2, Nat.min_eq_right (by omega)]
    rw [this] at hR
    rw [Int.toNat_natCast, Int.toNat_natCast]
    exact hR
  · rw [pBin_add (by omega)]
    refine pSliceStr_s (l := ((i * size : Nat) : Int)) (h := ((i * size : Nat) : Int) + (size : Nat)) rfl rfl (by omega) ?_
    have : pieceB s i size = s.extract (i * size) (i * size + size) := by unfold pieceB; rw [e2, Nat.min_eq_left (by omega)]
    rw [this] at hR
    have e3 : (((i * size : Nat) : Int) + (size : Nat)).toNat = i * size + size := by omega
    rw [e3, Int.toNat_natCast]
    exact hR
end
end Go.Proofs.Ytlfnfpdipghdiaa

/- The law 'DiskWrite'; how disks and writes are opened. -/
set_option linter.unusedVariables false
set_option linter.unusedSimpArgs false
namespace Go.Proofs.Ytlfnfpdipghdiaa
open Go Go.Av Go.RowKit

section
variable {w0 : World} {σ : Vw}

end
end Go.Proofs.Ytlfnfpdipghdiaa

/- Rows of our own: cells stored, an element taken out in place, the copy of two lists in any order. -/
set_option linter.unusedVariables false
set_option linter.unusedSimpArgs false
namespace Go.Av
open Go Go.RowKit

section
variable {P : Program} {w0 : World} {σ σ' : Vw} {α γ : Type}

theorem fresh_in {F F' : List Nat} {σ s : Vw} (k : Keeps σ s) (hF : ∀ i, i ∈ F → σ i = none) (h : ∀ i, i ∈ F' → i ∈ F ∨ s i = none) : ∀ i, i ∈ F' → σ i = none := fun i hi => by
  rcases h i hi with e | e
  · exact hF i e
  · cases hs : σ i with
    | none => rfl
    | some r => rw [k i r hs] at e; cases e
/-! ### An element is taken out, in place -/
end
end Go.Av

/- Checkpoints by either hand; 'StoreNew' and its law. -/
set_option linter.unusedVariables false
set_option linter.unusedSimpArgs false
namespace Go.Proofs.Ytlfnfpdipghdiaa
open Go Go.Av Go.RowKit

def rng' (n : Int) : Prop := -9223372036854775808 ≤ n ∧ n ≤ 9223372036854775807
def savedP (gen : Int) (text : ByteArray) (n : Nat) : List Rw := (List.range n).map fun i => (areaI gen + (i : Nat), pieceB text i 64)
def savedR (gen : Int) (text : ByteArray) : List Rw := savedP gen text (manyN text 64) ++ [(gen % 2, headB gen text.size)]
theorem savedP_succ (gen : Int) (text : ByteArray) (n : Nat) : savedP gen text (n + 1) = savedP gen text n ++ [(areaI gen + (n : Nat), pieceB text n 64)] := by simp [savedP, List.range_succ]
theorem savedP_len (gen : Int) (text : ByteArray) (n : Nat) : (savedP gen text n).length = n := by simp [savedP]
theorem savedR_len (gen : Int) (text : ByteArray) : (savedR gen text).length = manyN text 64 + 1 := by simp [savedR, savedP_len]
theorem many64 {s : ByteArray} (h : s.size ≤ 5760) : manyN s 64 ≤ 90 := by unfold manyN; omega
theorem area_le {gen : Int} (h : 0 ≤ gen) : 14 ≤ areaI gen ∧ areaI gen ≤ 104 := by unfold areaI; omega
theorem head_size {gen : Int} {n : Nat} (hg : 0 ≤ gen ∧ gen ≤ 1000000) (hn : n ≤ 1000000) : (headB gen n).size ≤ 1000000 := by
  unfold headB
  have h1 := (decN_size n).2
  have h2 := (decN_size gen.toNat).2
  have e : decZ gen = decN gen.toNat := by unfold decZ; rw [if_neg (by omega)]
  rw [ByteArray.size_append, ByteArray.size_append, ByteArray.size_append, e]
  show 2 + _ + 1 + _ ≤ _
  omega
def newR (text : ByteArray) : List Rw × Bool := if text.size ≤ 5760 then (savedR 1 text, true) else ([], false)

section
variable {w0 : World} {σ : Vw}

theorem spec_l22Head {gen : Int} {text : ByteArray} {R : Value → Vw → Prop} (hg : 0 ≤ gen ∧ gen ≤ 1000000) (hs : text.size ≤ 1000000) (hR : ∀ σ', Keeps σ σ' → R (.string (headB gen text.size)) σ') : AC Try.prog w0 n_spec_l22Head [.int .i64 gen, .string text] σ R := by
  refine ac_spec_l22Head ?_
  unfold vc_spec_l22Head
  have h1 := (decN_size text.size).2
  have h2 := decZ_size (n := gen) (by omega)
  refine spec_l22Dec (by omega) fun s1 k1 => ?_
  rw [pBin_cat (by show 2 + _ ≤ _; omega), pBin_cat (by rw [ByteArray.size_append]; show 2 + _ + 1 ≤ _; omega), pLenS_s]
  refine spec_l22Dec_nat _ (by omega) fun s2 k2 => ?_
  rw [pBin_cat (by rw [ByteArray.size_append, ByteArray.size_append]; show 2 + _ + 1 + _ ≤ _; omega)]
  exact hR s2 (k1.trans k2)

theorem raw_app {F : List Nat} {v : Value} {xs : List Rw} {a : Int} {t : ByteArray} (ho : OAcc w0 t_impl_Raw 2 ORaw σ F v xs) (ha : rng' a) (ht : t.size ≤ 9223372036854775807) (hl : xs.length ≤ 1000000) {K : Value → Vw → Prop}
    (hK : ∀ v' F' σ', KeepsBut F σ σ' → OAcc w0 t_impl_Raw 2 ORaw σ' F' v' (xs ++ [(a, t)]) → (∀ i, i ∈ F' → i ∈ F ∨ σ i = none) → K v' σ') :
    pVal false 1 (.int .i64 a) (pVal false 1 (.string t) (pVal true 2 (.agg ⟨[.int .i64 a, .string t]⟩) (allOne [.int .i64 a, .string t] ∧ pAppend w0 t_impl_Raw 2 24 v 1 [.int .i64 a, .string t] σ K))) := by
  rw [pVal1 rfl, pVal1 rfl, pVal_2 rfl rfl]
  refine ho.one (ok_raw w0) (f := []) (y := (a, t)) ⟨rfl, rfl, ha, ht⟩ (by simp) (by omega) (by omega) fun v' F' σ' k o f => hK v' F' σ' k o fun i hi => ?_
  rcases f i hi with h | h | h
  · exact .inl h
  · cases h
  · exact .inr h

theorem spec_l22Saved {gen : Int} {text : ByteArray} {R : Value → Vw → Prop} (hg : 0 ≤ gen ∧ gen ≤ 1000000) (hs : text.size ≤ 5760)
    (hR : ∀ v F σ', Keeps σ σ' → OAcc w0 t_impl_Raw 2 ORaw σ' F v (savedR gen text) → (∀ i, i ∈ F → σ i = none) → R v σ') : AC Try.prog w0 n_spec_l22Saved [.int .i64 gen, .string text] σ R := by
  refine ac_spec_l22Saved ?_
  unfold vc_spec_l22Saved
  intro b h1 h2
  have h90 := many64 hs
  have har := area_le hg.1
  have new := OAcc.new (w0 := w0) (σ := σ) (ety := t_impl_Raw) (n := 2) (O := ORaw) h1
  have fin : ∀ (v : Value) (F : List Nat) (s : Vw), Keeps σ s → (∀ i, i ∈ F → σ i = none) → OAcc w0 t_impl_Raw 2 ORaw s F v (savedP gen text (manyN text 64)) → pBin Try.prog 3 .rem (.int .i64 gen) (.int .i64 2) (fun v19 => AC Try.prog w0 n_spec_l22Head [.int .i64 gen, .string text] s (fun v20 s21 => pVal false 1 v19 (pVal false 1 v20 (pVal true 2 (.agg ⟨[v19, v20]⟩) ((allOne [v19, v20]) ∧ (pAppend w0 t_impl_Raw 2 24 v 1 [v19, v20] s21 (fun v22 s23 => R v22 s23))))))) := by
    intro v F s ks hF ho
    rw [pBin_rem (by omega)]
    refine spec_l22Head hg (by omega) fun s1 k1 => ?_
    have ho1 := ho.frame (ok_raw w0) (k1.but_at fun b hb => (ho.dom (ok_raw w0) b hb).2)
    refine raw_app ho1 (by unfold rng'; omega) (by have := head_size hg (show text.size ≤ 1000000 by omega); omega) (by rw [savedP_len]; omega) fun v' F' s2 k2 o2 f2 => ?_
    exact hR v' F' s2 (k2.old (ks.trans k1) hF) o2 (fresh_in (ks.trans k1) hF f2)
  refine loop_rule (m := manyN text 64) (fun m l s => ∃ (i : Nat) (v : Value) (F : List Nat), m + i = manyN text 64 ∧ Keeps σ s ∧ (∀ j, j ∈ F → σ j = none) ∧ OAcc w0 t_impl_Raw 2 ORaw s F v (savedP gen text i) ∧ l = [.int .i64 gen, .string text, v, .int .i64 (i : Nat)]) ?_
    ⟨0, _, [b], by omega, Keeps.put h2, (fun j hj => by rw [List.mem_singleton.1 hj]; exact h2), by simpa [savedP] using new, rfl⟩
  rintro m l s L ⟨i, v, F, hm, ks, hF, ho, rfl⟩ hL
  simp only [vget, List.getD_cons_zero, List.getD_cons_succ]
  refine spec_l22Many (size := 64) (by omega) (by omega) ?_
  rw [pBin_lt, pIf_d]
  refine ⟨fun hi => ?_, fun hi => ?_⟩
  · refine spec_l22Area hg ?_
    rw [pBin_add (by omega)]
    refine spec_l22Piece (size := 64) (by omega) (by omega) ((lt_many (by omega)).1 (by omega)) ?_
    have hps := piece_size text i 64
    refine raw_app ho (by unfold rng'; omega) (by omega) (by rw [savedP_len]; omega) fun v' F' s2 k2 o2 f2 => ?_
    rw [pBin_add (by omega)]
    rw [← savedP_succ] at o2
    exact hL _ _ (m - 1) (by omega) ⟨i + 1, v', F', by omega, k2.old ks hF, fresh_in ks hF f2, o2, by simp⟩
  · have e : i = manyN text 64 := by omega
    subst e
    exact fin v F s ks hF ho

theorem raw_new {b : Nat} (hb : w0.heap.size ≤ b) {ety : Nat} : OSl w0 2 ORaw (σ.put b ⟨ety, [], 0, (0, 0)⟩) [b] (.slice (some ⟨b, 0, none⟩) 0 0) [] := (OAcc.new (w0 := w0) (σ := σ) (ety := ety) (n := 2) (O := ORaw) hb).osl

theorem spec_l22TextOk {text : ByteArray} {R : Value → Vw → Prop} (hR : R (.bool (decide (text.size ≤ 5760))) σ) : AC Try.prog w0 n_spec_l22TextOk [.string text] σ R := by
  refine ac_spec_l22TextOk ?_
  unfold vc_spec_l22TextOk
  rw [pLenS_s, pBin_le]
  have e : decide ((text.size : Int) ≤ 5760) = decide (text.size ≤ 5760) := by congr 1; apply propext; omega
  rw [e]; exact hR
theorem spec_StoreNew {text : ByteArray} {R : Value → Vw → Prop} (hR : ∀ v F σ', Keeps σ σ' → OSl w0 2 ORaw σ' F v (newR text).1 → (∀ i, i ∈ F → σ i = none) → R (.tuple ⟨[v, .bool (newR text).2]⟩) σ') : AC Try.prog w0 n_spec_StoreNew [.string text] σ R := by
  refine ac_spec_StoreNew ?_
  unfold vc_spec_StoreNew
  refine spec_l22TextOk ?_
  rw [pUn_not, pIf_b]
  refine ⟨fun h => ?_, fun h => ?_⟩
  · have e : newR text = ([], false) := by simp at h; simp [newR, show ¬ text.size ≤ 5760 by omega]
    rw [e] at hR
    intro b h1 h2
    exact hR _ [b] _ (Keeps.put h2) (raw_new h1) fun i hi => by rw [List.mem_singleton.1 hi]; exact h2
  · have hs : text.size ≤ 5760 := by simp at h; omega
    have e : newR text = (savedR 1 text, true) := by simp [newR, hs]
    rw [e] at hR
    exact spec_l22Saved (by omega) hs fun v F s k o f => hR v F s k o.osl f

end
end Go.Proofs.Ytlfnfpdipghdiaa

/- Stores: a group is appended, a checkpoint is saved: by either hand. -/
set_option linter.unusedVariables false
set_option linter.unusedSimpArgs false
namespace Go.Proofs.Ytlfnfpdipghdiaa
open Go Go.Av Go.RowKit

/-- A store: its number, its text, its groups, the next free block of the log. -/
abbrev Sto := Int × ByteArray × List ByteArray × Int
def RSto (rd : Addr → Option Value) (es : List Value) (x : Sto) : Prop := ∃ v, es = [.int .i64 x.1, .string x.2.1, v, .int .i64 x.2.2.2] ∧ RSl 1 RS rd v x.2.2.1 ∧ rng' x.1 ∧ x.2.1.size ≤ 9223372036854775807 ∧ rng' x.2.2.2
def OSto (w0 : World) (σ : Vw) (F : List Nat) (es : List Value) (x : Sto) : Prop := ∃ v, es = [.int .i64 x.1, .string x.2.1, v, .int .i64 x.2.2.2] ∧ OStrs w0 σ F v x.2.2.1 ∧ rng' x.1 ∧ x.2.1.size ≤ 9223372036854775807 ∧ rng' x.2.2.2
def blkN (g : ByteArray) : Nat := 1 + manyN g 63
def grpOk (gs : List ByteArray) : Bool := gs.all fun g => decide (g.size ≤ 600)
def stOk (x : Sto) : Bool := grpOk x.2.2.1 && (inB x.1 1 99999 && (decide (x.2.1.size ≤ 5760) && (decide (((sumBy blkN x.2.2.1 : Nat) : Int) = x.2.2.2) && decide (((sumBy blkN x.2.2.1 : Nat) : Int) ≤ 12))))
def gheadB (gen : Int) (k n : Nat) : ByteArray := ⟨#[72, 32]⟩ ++ decZ gen ++ ⟨#[32]⟩ ++ decN k ++ ⟨#[32]⟩ ++ decN n
def apP (next : Int) (g : ByteArray) (n : Nat) : List Rw := (List.range n).map fun i => (2 + next + 1 + (i : Nat), ⟨#[68]⟩ ++ pieceB g i 63)
def appR (x : Sto) (g : ByteArray) : List Rw × Sto × Int :=
  if stOk x = false then ([], (0, ⟨#[]⟩, [], 0), 1)
  else if 600 < g.size then ([], x, 6)
  else if 12 < x.2.2.2 + (blkN g : Nat) then ([], x, 4)
  else (apP x.2.2.2 g (manyN g 63) ++ [(2 + x.2.2.2, gheadB x.1 x.2.2.1.length g.size)], (x.1, x.2.1, x.2.2.1 ++ [g], x.2.2.2 + (blkN g : Nat)), 0)
def saveR (x : Sto) (t : ByteArray) : List Rw × Sto × Int :=
  if stOk x = false then ([], (0, ⟨#[]⟩, [], 0), 1)
  else if 5760 < t.size then ([], x, 4)
  else if 99999 ≤ x.1 then ([], x, 5)
  else (savedR (x.1 + 1) t, (x.1 + 1, t, [], 0), 0)

theorem apP_succ (next : Int) (g : ByteArray) (n : Nat) : apP next g (n + 1) = apP next g n ++ [(2 + next + 1 + (n : Nat), ⟨#[68]⟩ ++ pieceB g n 63)] := by simp [apP, List.range_succ]
theorem apP_len (next : Int) (g : ByteArray) (n : Nat) : (apP next g n).length = n := by simp [apP]
theorem many63 {s : ByteArray} (h : s.size ≤ 600) : manyN s 63 ≤ 10 := by unfold manyN; omega
theorem blk_le {s : ByteArray} (h : s.size ≤ 1000000000) : blkN s ≤ 1000000000 := by unfold blkN manyN; omega
theorem blk_600 {s : ByteArray} (h : s.size ≤ 600) : 1 ≤ blkN s ∧ blkN s ≤ 11 := by have := many63 h; unfold blkN; omega
theorem blk_sum : ∀ {gs : List ByteArray}, (∀ y, y ∈ gs → y.size ≤ 600) → gs.length ≤ sumBy blkN gs ∧ sumBy blkN gs ≤ 11 * gs.length
  | [], _ => by simp [sumBy]
  | y :: gs, h => by
    have h1 := blk_600 (h y (by simp))
    have h2 := blk_sum (gs := gs) fun z hz => h z (by simp [hz])
    simp only [sumBy, List.length_cons]; omega
theorem grpOk_iff {gs : List ByteArray} : grpOk gs = true ↔ ∀ y, y ∈ gs → y.size ≤ 600 := by simp [grpOk]
theorem stOk_all {gen next : Int} {text : ByteArray} {gs : List ByteArray} (h : ∀ y, y ∈ gs → y.size ≤ 600) : stOk (gen, text, gs, next) = (inB gen 1 99999 && (decide (text.size ≤ 5760) && (decide (((sumBy blkN gs : Nat) : Int) = next) && decide (((sumBy blkN gs : Nat) : Int) ≤ 12)))) := by
  simp [stOk, grpOk_iff.2 h]
theorem stOk_no {gen next : Int} {text : ByteArray} {gs : List ByteArray} {y : ByteArray} (h : y ∈ gs) (hy : 600 < y.size) : stOk (gen, text, gs, next) = false := by
  cases hc : grpOk gs with
  | false => simp [stOk, hc]
  | true => have := grpOk_iff.1 hc y h; omega
theorem stOk_of {x : Sto} (h : stOk x = true) : (∀ y, y ∈ x.2.2.1 → y.size ≤ 600) ∧ (1 ≤ x.1 ∧ x.1 ≤ 99999) ∧ x.2.1.size ≤ 5760 ∧ (0 ≤ x.2.2.2 ∧ x.2.2.2 ≤ 12) ∧ x.2.2.1.length ≤ 12 := by
  simp only [stOk, Bool.and_eq_true, decide_eq_true_eq, grpOk_iff, inB] at h
  have := (blk_sum h.1).1
  exact ⟨h.1, h.2.1, h.2.2.1, by omega, by omega⟩
theorem mem_take_succ {α : Type} {xs : List α} {j : Nat} {x : α} (hj : xs[j]? = some x) {p : α → Prop} (h : ∀ y, y ∈ xs.take j → p y) (hx : p x) : ∀ y, y ∈ xs.take (j + 1) → p y := by
  intro y hy
  rw [List.take_add_one, hj] at hy
  rcases List.mem_append.1 hy with e | e
  · exact h y e
  · simp at e; rw [e]; exact hx

section
variable {w0 : World} {σ : Vw}

theorem pVal_4 {a b c d : Value} {A : Prop} (h1 : a.oneCell' = true) (h2 : b.oneCell' = true) (h3 : c.oneCell' = true) (h4 : d.oneCell' = true) : pVal true 4 (.agg ⟨[a, b, c, d]⟩) A ↔ A := pValN rfl (by simp [h1, h2, h3, h4])

theorem ok_sto (w0 : World) : OOk w0 4 RSto (OSto w0) := by
  refine ⟨?_, ?_, ?_, ?_, ?_, ?_⟩
  · rintro σ F es x ⟨v, h1, h2, h3⟩; exact ⟨v, h1, h2.rel (ok_str w0), h3⟩
  · rintro σ σ' F es x ⟨v, h1, h2, h3⟩ hF; exact ⟨v, h1, h2.frame (ok_str w0) hF, h3⟩
  · rintro σ F es x ⟨v, h1, h2, h3⟩; exact h2.dom (ok_str w0)
  · rintro σ F es x ⟨v, h1, h2, h3⟩; exact h2.2.1
  · rintro σ F es x ⟨v, rfl, h2, h3⟩; rfl
  · rintro σ F es x ⟨v, rfl, h2, h3⟩ c hc
    simp at hc
    rcases hc with rfl | rfl | rfl | rfl
    · rfl
    · rfl
    · exact OSl.one' h2
    · rfl
theorem mono_sto {rd rd' : Addr → Option Value} {es : List Value} {x : Sto} (hl : Le rd rd') (h : RSto rd es x) : RSto rd' es x := by
  obtain ⟨v, h1, h2, h3⟩ := h; exact ⟨v, h1, h2.mono hl fun _ _ h => h, h3⟩
theorem RSto.four {rd : Addr → Option Value} {es : List Value} {x : Sto} (h : RSto rd es x) {A : Prop} : pVal true 4 (.agg ⟨es⟩) A ↔ A := by
  obtain ⟨v, rfl, h2, _⟩ := h; exact pVal_4 rfl rfl h2.one rfl
theorem RSto.shape {rd : Addr → Option Value} {es : List Value} {x : Sto} (h : RSto rd es x) : ∃ v, es = [.int .i64 x.1, .string x.2.1, v, .int .i64 x.2.2.2] := by obtain ⟨v, h1, _⟩ := h; exact ⟨v, h1⟩
theorem spec_l21In {n lo hi : Int} {R : Value → Vw → Prop} (hR : R (.bool (inB n lo hi)) σ) : AC Try.prog w0 n_spec_l21In [.int .i64 n, .int .i64 lo, .int .i64 hi] σ R := by
  refine ac_spec_l21In ?_
  unfold vc_spec_l21In
  rw [pBin_ge, pIf_d]
  refine ⟨fun h => ?_, fun h => ?_⟩
  · rw [pBin_le]
    have : inB n lo hi = decide (n ≤ hi) := by simp [inB, h]
    rw [this] at hR; exact hR
  · have : inB n lo hi = false := by simp [inB, h]
    rw [this] at hR; exact hR
theorem spec_l22Blocks {s : ByteArray} {R : Value → Vw → Prop} (hs : s.size ≤ 1000000000) (hR : R (.int .i64 (blkN s : Nat)) σ) : AC Try.prog w0 n_spec_l22Blocks [.string s] σ R := by
  refine ac_spec_l22Blocks ?_
  unfold vc_spec_l22Blocks
  have h1 := blk_le hs
  have e : ((blkN s : Nat) : Int) = 1 + (manyN s 63 : Nat) := by unfold blkN; omega
  refine spec_l22Many (size := 63) (by omega) (by omega) ?_
  rw [pBin_add (by omega), ← e]
  exact hR
theorem spec_l22Ok {es : List Value} {x : Sto} (h : RSto (Av.get w0 σ) es x) (hl : x.2.2.1.length ≤ 1000000000) {R : Value → Vw → Prop} (hR : R (.bool (stOk x)) σ) : AC Try.prog w0 n_spec_l22Ok [.agg ⟨es⟩] σ R := by
  obtain ⟨gen, text, gs, next⟩ := x
  obtain ⟨v, rfl, hv, hg, ht, hn⟩ := h
  simp only at hv hg ht hn hl
  refine ac_spec_l22Ok ?_
  unfold vc_spec_l22Ok
  rw [pVal_4 rfl rfl hv.one rfl]
  simp only [cellOf_agg, List.getD_cons_zero, List.getD_cons_succ]
  refine loop_rule (m := gs.length) (fun m l s => ∃ j : Nat, s = σ ∧ m + j = gs.length ∧ (∀ y, y ∈ gs.take j → y.size ≤ 600) ∧ l = [.bool false, .int .i64 (sumBy blkN (gs.take j) : Nat), .int .i64 (j : Nat), .int .i64 gen, .string text, v, .int .i64 next]) ?_ ⟨0, rfl, by omega, by simp, rfl⟩
  rintro m l s L ⟨j, rfl, hm, hj, rfl⟩ hL
  simp only [vget, List.getD_cons_zero, List.getD_cons_succ]
  have hsum := blk_sum hj
  rw [List.length_take] at hsum
  rw [hv.len, pBin_lt, pIf_d]
  refine ⟨fun hi => ?_, fun hi => ?_⟩
  · have hx := List.getElem?_eq_getElem (show j < gs.length by omega)
    generalize hxi : gs[j]'(by omega) = y at hx
    refine hv.at hx fun g hg => ?_
    obtain ⟨hg, hs⟩ := hg
    simp only [expl, List.cons.injEq, and_true] at hg
    rw [hg, pLenS_s, pBin_gt, pIf_d]
    refine ⟨fun hgt => ?_, fun hle => ?_⟩
    · rw [stOk_no (List.mem_of_getElem? hx) (by omega)] at hR; exact hR
    · have hb := blk_600 (s := y) (by omega)
      refine hv.at hx fun g' hg' => ?_
      obtain ⟨hg', _⟩ := hg'
      simp only [expl, List.cons.injEq, and_true] at hg'
      rw [hg']
      refine spec_l22Blocks (by omega) ?_
      rw [pBin_add (by omega), pBin_add (by omega)]
      refine hL _ _ (m - 1) (by omega) ⟨j + 1, rfl, by omega, mem_take_succ hx hj (by omega), ?_⟩
      rw [sumBy_take hx]; simp
  · have e : j = gs.length := by omega
    subst e
    rw [List.take_length] at hj ⊢
    rw [stOk_all hj] at hR
    refine spec_l21In ?_
    rw [pIf_b]
    refine ⟨fun h1 => ?_, fun h1 => by rw [h1] at hR; exact hR⟩
    rw [h1] at hR
    refine spec_l22TextOk ?_
    rw [pIf_b]
    refine ⟨fun h2 => ?_, fun h2 => by rw [h2] at hR; exact hR⟩
    rw [h2] at hR
    rw [pBin_eq, pIf_b]
    refine ⟨fun h3 => ?_, fun h3 => by rw [h3] at hR; exact hR⟩
    rw [h3] at hR
    rw [pBin_le]
    exact hR

theorem copy_core {gen next : Int} {text : ByteArray} {v : Value} {gs : List ByteArray} (hv : RSl 1 RS (Av.get w0 σ) v gs) (hl : gs.length ≤ 1000000000) {R : Value → Vw → Prop}
    (hR : ∀ v' F σ', Keeps σ σ' → OAcc w0 t_string 1 OStr σ' F v' gs → (∀ b, b ∈ F → σ b = none) → R (.agg ⟨[.int .i64 gen, .string text, v', .int .i64 next]⟩) σ') :
    pNew w0 t_string [] σ (fun n0 s1 => pAppendS w0 t_string 1 16 (.slice (some (Addr.mk n0 0 none)) 0 0) v s1 (fun v2 s3 => pVal false 1 v2 (pVal true 4 (.agg ⟨[.int .i64 gen, .string text, v2, .int .i64 next]⟩) (R (.agg ⟨[.int .i64 gen, .string text, v2, .int .i64 next]⟩) s3)))) := by
  intro b h1 h2
  have ha := OAcc.new (w0 := w0) (σ := σ) (ety := t_string) (n := 1) (O := OStr) h1
  have kb : Keeps σ (σ.put b ⟨t_string, [], 0, (0, 0)⟩) := Keeps.put h2
  have hb0 : ∀ i, i ∈ [b] → σ i = none := fun i hi => by rw [List.mem_singleton.1 hi]; exact h2
  refine ha.all (ok_str w0) hv kb.le (fun es y hy => ⟨rfl, hy⟩) (by simp; omega) (by omega) fun v' F' σ' k1 o1 f1 => ?_
  rw [pVal1 (OSl.one' o1.osl), pVal_4 rfl rfl (OSl.one' o1.osl) rfl]
  exact hR v' F' σ' (k1.old kb hb0) (by simpa using o1) (fresh_in kb hb0 f1)
theorem spec_l22Copy {gen next : Int} {text : ByteArray} {v : Value} {gs : List ByteArray} (hv : RSl 1 RS (Av.get w0 σ) v gs) (hl : gs.length ≤ 1000000000) {R : Value → Vw → Prop}
    (hR : ∀ v' F σ', Keeps σ σ' → OAcc w0 t_string 1 OStr σ' F v' gs → (∀ b, b ∈ F → σ b = none) → R (.agg ⟨[.int .i64 gen, .string text, v', .int .i64 next]⟩) σ') : AC Try.prog w0 n_spec_l22Copy [.agg ⟨[.int .i64 gen, .string text, v, .int .i64 next]⟩] σ R := by
  refine ac_spec_l22Copy ?_
  unfold vc_spec_l22Copy
  rw [pVal_4 rfl rfl hv.one rfl]
  exact copy_core hv hl hR
end
end Go.Proofs.Ytlfnfpdipghdiaa

/- 'StoreAppend' and 'StoreSave' by either hand, and their laws. -/
set_option linter.unusedVariables false
set_option linter.unusedSimpArgs false
namespace Go.Proofs.Ytlfnfpdipghdiaa
open Go Go.Av Go.RowKit

section
variable {w0 : World} {σ : Vw}

theorem none_atI {σ s : Vw} (k : Keeps σ s) {i : Nat} (h : s i = none) : σ i = none := by
  cases hs : σ i with
  | none => rfl
  | some r => rw [k i r hs] at h; cases h
theorem nil_sto : OSto w0 σ [] [.int .i64 0, .string ⟨#[]⟩, .slice none 0 0, .int .i64 0] (0, ⟨#[]⟩, [], 0) :=
  ⟨_, rfl, ⟨by simp, by simp, .inl ⟨rfl, rfl, rfl⟩⟩, by unfold rng'; simp, by simp [ByteArray.size], by unfold rng'; simp⟩
theorem ghead_size {gen : Int} {k n : Nat} (hg : 0 ≤ gen ∧ gen ≤ 1000000) (hk : k ≤ 1000000) (hn : n ≤ 1000000) : (gheadB gen k n).size ≤ 1000000 := by
  unfold gheadB
  have h1 := (decN_size n).2
  have h2 := (decN_size k).2
  have h3 := (decN_size gen.toNat).2
  have e : decZ gen = decN gen.toNat := by unfold decZ; rw [if_neg (by omega)]
  simp only [ByteArray.size_append, e]
  show 2 + _ + 1 + _ + 1 + _ ≤ _
  omega

theorem spec_ghead {gen : Int} {k n : Nat} {K : Value → Vw → Prop} (hg : 0 ≤ gen ∧ gen ≤ 1000000) (hk : k ≤ 1000000) (hn : n ≤ 1000000) (hK : ∀ s, Keeps σ s → K (.string (gheadB gen k n)) s) :
    AC Try.prog w0 n_spec_l22Dec [.int .i64 gen] σ (fun v63 s64 => pBin Try.prog 9 BinOp.add (Value.string ({ data := #[72, 32] })) v63 (fun v65 => pBin Try.prog 9 BinOp.add v65 (Value.string ({ data := #[32] })) (fun v66 => AC Try.prog w0 n_spec_l22Dec [.int .i64 (k : Nat)] s64 (fun v67 s68 => pBin Try.prog 9 BinOp.add v66 v67 (fun v69 => pBin Try.prog 9 BinOp.add v69 (Value.string ({ data := #[32] })) (fun v70 => AC Try.prog w0 n_spec_l22Dec [.int .i64 (n : Nat)] s68 (fun v71 s72 => pBin Try.prog 9 BinOp.add v70 v71 (fun v73 => K v73 s72)))))))) := by
  have h1 := (decN_size n).2
  have h2 := (decN_size k).2
  have h3 := decZ_size (n := gen) (by omega)
  refine spec_l22Dec (by omega) fun s1 k1 => ?_
  rw [pBin_cat (by show 2 + _ ≤ _; omega), pBin_cat (by rw [ByteArray.size_append]; show 2 + _ + 1 ≤ _; omega)]
  refine spec_l22Dec_nat _ (by omega) fun s2 k2 => ?_
  rw [pBin_cat (by simp only [ByteArray.size_append]; show 2 + _ + 1 + _ ≤ _; omega), pBin_cat (by simp only [ByteArray.size_append]; show 2 + _ + 1 + _ + 1 ≤ _; omega)]
  refine spec_l22Dec_nat _ (by omega) fun s3 k3 => ?_
  rw [pBin_cat (by simp only [ByteArray.size_append]; show 2 + _ + 1 + _ + 1 + _ ≤ _; omega)]
  exact hK s3 ((k1.trans k2).trans k3)
theorem str_app {F : List Nat} {v : Value} {xs : List ByteArray} {g : ByteArray} (ho : OAcc w0 t_string 1 OStr σ F v xs) (hg : g.size ≤ 9223372036854775807) (hl : xs.length ≤ 1000000) {K : Value → Vw → Prop}
    (hK : ∀ v' F' σ', KeepsBut F σ σ' → OAcc w0 t_string 1 OStr σ' F' v' (xs ++ [g]) → (∀ i, i ∈ F' → i ∈ F ∨ σ i = none) → K v' σ') :
    pVal false 1 (.string g) (allOne [.string g] ∧ pAppend w0 t_string 1 16 v 1 [.string g] σ K) := by
  rw [pVal1 rfl]
  refine ho.one (ok_str w0) (f := []) (y := g) ⟨rfl, rfl, hg⟩ (by simp) (by omega) (by omega) fun v' F' σ' k o f => hK v' F' σ' k o fun i hi => ?_
  rcases f i hi with h | h | h
  · exact .inl h
  · cases h
  · exact .inr h

/-- What a caller learns of the three results. -/
abbrev Out (w0 : World) (σ : Vw) (y : List Rw × Sto × Int) (R : Value → Vw → Prop) : Prop :=
  ∀ v es' F G σ', Keeps σ σ' → OSl w0 2 ORaw σ' F v y.1 → OSto w0 σ' G es' y.2.1 → (∀ b, b ∈ F → σ b = none) → (∀ b, b ∈ G → σ b = none) → (∀ b, b ∈ F → b ∉ G) → R (.tuple ⟨[v, .agg ⟨es'⟩, .int .i64 y.2.2]⟩) σ'

/-- Refused: nothing to write, and a copy. -/
theorem out_copy {b : Nat} {x : Sto} {c : Int} {R : Value → Vw → Prop} (hR : Out w0 σ ([], x, c) R) (h1 : w0.heap.size ≤ b) (h2 : σ b = none) (hx : rng' x.1 ∧ x.2.1.size ≤ 9223372036854775807 ∧ rng' x.2.2.2)
    {v' : Value} {F : List Nat} {s : Vw} (k : Keeps (σ.put b ⟨t_impl_Raw, [], 0, (0, 0)⟩) s) (o : OAcc w0 t_string 1 OStr s F v' x.2.2.1) (f : ∀ i, i ∈ F → (σ.put b ⟨t_impl_Raw, [], 0, (0, 0)⟩) i = none) :
    pVal true 4 (.agg ⟨[.int .i64 x.1, .string x.2.1, v', .int .i64 x.2.2.2]⟩) (R (.tuple ⟨[.slice (some (Addr.mk b 0 none)) 0 0, .agg ⟨[.int .i64 x.1, .string x.2.1, v', .int .i64 x.2.2.2]⟩, .int .i64 c]⟩) s) := by
  rw [pVal_4 rfl rfl (OSl.one' o.osl) rfl]
  have kb : Keeps σ (σ.put b ⟨t_impl_Raw, [], 0, (0, 0)⟩) := Keeps.put h2
  have n0 := raw_new (σ := σ) (ety := t_impl_Raw) h1
  refine hR _ _ [b] F s (kb.trans k) (n0.frame (ok_raw w0) (k.but_at fun i hi => (n0.dom (ok_raw w0) i hi).2)) ⟨v', rfl, o.osl, hx⟩ (fun i hi => by rw [List.mem_singleton.1 hi]; exact h2) (fun i hi => none_atI kb (f i hi)) fun i hi hi' => ?_
  exact (n0.dom (ok_raw w0) i hi).2 (f i hi')

theorem spec_StoreAppend {es : List Value} {x : Sto} {g : ByteArray} (h : RSto (Av.get w0 σ) es x) (hl : x.2.2.1.length ≤ 1000000000) (hs : g.size ≤ 1000000000) {R : Value → Vw → Prop} (hR : Out w0 σ (appR x g) R) : AC Try.prog w0 n_spec_StoreAppend [.agg ⟨es⟩, .string g] σ R := by
  have h0 := h
  obtain ⟨gen, text, gs, next⟩ := x
  obtain ⟨v, rfl, hv, hx⟩ := h
  simp only at hv hx hl
  refine ac_spec_StoreAppend ?_
  unfold vc_spec_StoreAppend cs_spec_StoreAppend_1
  rw [pVal_4 rfl rfl hv.one rfl]
  simp only [cellOf_agg, List.getD_cons_zero, List.getD_cons_succ]
  intro b h1 h2
  have kb : Keeps σ (σ.put b ⟨t_impl_Raw, [], 0, (0, 0)⟩) := Keeps.put h2
  have hb0 : ∀ i, i ∈ [b] → σ i = none := fun i hi => by rw [List.mem_singleton.1 hi]; exact h2
  refine spec_l22Ok (mono_sto kb.le h0) hl ?_
  rw [pUn_not, pIf_b]
  refine ⟨fun hno => ?_, fun hyes => ?_⟩
  · have e : appR (gen, text, gs, next) g = ([], (0, ⟨#[]⟩, [], 0), 1) := by simp at hno; simp [appR, hno]
    rw [e] at hR
    rw [pVal_4 rfl rfl rfl rfl]
    exact hR _ _ [b] [] _ kb (raw_new h1) nil_sto hb0 (by simp) (by simp)
  have hst : stOk (gen, text, gs, next) = true := by simpa using hyes
  obtain ⟨ho1, ho2, ho3, ho4, ho5⟩ := stOk_of hst
  simp only at ho1 ho2 ho3 ho4 ho5
  have hvb := hv.mono kb.le fun _ _ h => h
  rw [pLenS_s, pBin_gt, pIf_d]
  refine ⟨fun hbig => ?_, fun hbig => ?_⟩
  · have e : appR (gen, text, gs, next) g = ([], (gen, text, gs, next), 6) := by simp [appR, hst, show 600 < g.size by omega]
    rw [e] at hR
    refine spec_l22Copy hvb (by omega) fun v' F s k o f => ?_
    exact out_copy hR h1 h2 hx k o f
  have h10 := many63 (s := g) (by omega)
  have hbk := blk_600 (s := g) (by omega)
  have hbe : ((blkN g : Nat) : Int) = 1 + (manyN g 63 : Nat) := by unfold blkN; omega
  refine spec_l22Blocks (by omega) ?_
  rw [pBin_add (by omega), pBin_gt, pIf_d]
  refine ⟨fun hfull => ?_, fun hfull => ?_⟩
  · have e : appR (gen, text, gs, next) g = ([], (gen, text, gs, next), 4) := by simp [appR, hst, show ¬ 600 < g.size by omega, hfull]
    rw [e] at hR
    refine spec_l22Copy hvb (by omega) fun v' F s k o f => ?_
    exact out_copy hR h1 h2 hx k o f
  have e : appR (gen, text, gs, next) g = (apP next g (manyN g 63) ++ [(2 + next, gheadB gen gs.length g.size)], (gen, text, gs ++ [g], next + (blkN g : Nat)), 0) := by simp [appR, hst, show ¬ 600 < g.size by omega, hfull]
  rw [e] at hR
  intro c h3 h4
  have kc : Keeps σ ((σ.put b ⟨t_impl_Raw, [], 0, (0, 0)⟩).put c ⟨t_impl_Raw, [], 0, (0, 0)⟩) := kb.trans (Keeps.put h4)
  have new := OAcc.new (w0 := w0) (σ := σ.put b ⟨t_impl_Raw, [], 0, (0, 0)⟩) (ety := t_impl_Raw) (n := 2) (O := ORaw) h3
  refine loop_rule (m := manyN g 63) (fun m l s => ∃ (i : Nat) (v' : Value) (F : List Nat), m + i = manyN g 63 ∧ Keeps σ s ∧ (∀ j, j ∈ F → σ j = none) ∧ OAcc w0 t_impl_Raw 2 ORaw s F v' (apP next g i) ∧ l = [.string g, v', .int .i64 (i : Nat), .int .i64 gen, .string text, v, .int .i64 next, .int .i64 0, .string ⟨#[]⟩, .slice none 0 0, .int .i64 0]) ?_
    ⟨0, _, [c], by omega, kc, (fun j hj => by rw [List.mem_singleton.1 hj]; exact none_atI kb h4), by simpa [apP] using new, rfl⟩
  rintro m l s L ⟨i, v', F, hm, ks, hF, ho, rfl⟩ hL
  simp only [vget, List.getD_cons_zero, List.getD_cons_succ]
  refine spec_l22Blocks (by omega) ?_
  rw [pBin_sub (by omega), pBin_lt, pIf_d]
  refine ⟨fun hi => ?_, fun hi => ?_⟩
  · rw [pBin_add (by omega), pBin_add (by omega), pBin_add (by omega)]
    refine spec_l22Piece (size := 63) (by omega) (by omega) ((lt_many (by omega)).1 (by omega)) ?_
    have hps := piece_size g i 63
    rw [pBin_cat (by show 1 + _ ≤ _; omega)]
    refine raw_app ho (by unfold rng'; omega) (by rw [ByteArray.size_append]; show 1 + _ ≤ _; omega) (by rw [apP_len]; omega) fun v2 F2 s2 k2 o2 f2 => ?_
    rw [pBin_add (by omega)]
    rw [← apP_succ] at o2
    exact hL _ _ (m - 1) (by omega) ⟨i + 1, v2, F2, by omega, k2.old ks hF, fresh_in ks hF f2, o2, by simp⟩
  · have e : i = manyN g 63 := by omega
    subst e
    show pBin Try.prog 3 .add (.int .i64 2) (.int .i64 next) _
    rw [pBin_add (by omega), hv.len, pLenS_s]
    refine spec_ghead (by omega) (by omega) (by omega) fun s1 k1 => ?_
    have ho1' := ho.frame (ok_raw w0) (k1.but_at fun b hb => (ho.dom (ok_raw w0) b hb).2)
    have hgs := ghead_size (gen := gen) (k := gs.length) (n := g.size) (by omega) (by omega) (by omega)
    refine raw_app ho1' (by unfold rng'; omega) (by omega) (by rw [apP_len]; omega) fun v2 F2 s2 k2 o2 f2 => ?_
    have ks1 := ks.trans k1
    have ks2 := k2.old ks1 hF
    have hF2 := fresh_in ks1 hF f2
    refine spec_l22Copy (hv.mono ks2.le fun _ _ h => h) (by omega) fun v3 F3 s3 k3 o3 f3 => ?_
    rw [pVal_4 rfl rfl (OSl.one' o3.osl) rfl]
    simp only [cellOf_agg, List.getD_cons_zero, List.getD_cons_succ]
    refine str_app o3 (by omega) (by omega) fun v4 F4 s4 k4 o4 f4 => ?_
    rw [pVal1 (OSl.one' o4.osl)]
    refine spec_l22Blocks (by omega) ?_
    rw [pBin_add (by omega), pVal1 rfl, pVal_4 rfl rfl (OSl.one' o4.osl) rfl]
    have ks3 := ks2.trans k3
    have hF3 : ∀ i, i ∈ F3 → σ i = none := fun i hi => none_atI ks2 (f3 i hi)
    have p3 := o2.frame (ok_raw w0) (k3.but_at fun b hb => (o2.dom (ok_raw w0) b hb).2)
    have p4 := p3.frame (ok_raw w0) (k4.at (fun b hb => (p3.dom (ok_raw w0) b hb).2) fun b hb hb' => (o2.dom (ok_raw w0) b hb).2 (f3 b hb'))
    refine hR v2 _ F2 F4 s4 (k4.old ks3 hF3) p4.osl ⟨v4, rfl, o4.osl, hx.1, hx.2.1, ?_⟩ hF2 (fresh_in ks3 hF3 f4) fun i hi hi' => ?_
    · show rng' (next + (blkN g : Nat)); unfold rng'; omega
    · rcases f4 i hi' with h | h
      · exact (o2.dom (ok_raw w0) i hi).2 (f3 i h)
      · exact (p3.dom (ok_raw w0) i hi).2 h

theorem spec_StoreSave {es : List Value} {x : Sto} {t : ByteArray} (h : RSto (Av.get w0 σ) es x) (hl : x.2.2.1.length ≤ 1000000000) (hs : t.size ≤ 1000000000) {R : Value → Vw → Prop} (hR : Out w0 σ (saveR x t) R) : AC Try.prog w0 n_spec_StoreSave [.agg ⟨es⟩, .string t] σ R := by
  have h0 := h
  obtain ⟨gen, text, gs, next⟩ := x
  obtain ⟨v, rfl, hv, hx⟩ := h
  simp only at hv hx hl
  refine ac_spec_StoreSave ?_
  unfold vc_spec_StoreSave
  rw [pVal_4 rfl rfl hv.one rfl]
  simp only [cellOf_agg, List.getD_cons_zero, List.getD_cons_succ]
  intro b h1 h2
  have kb : Keeps σ (σ.put b ⟨t_impl_Raw, [], 0, (0, 0)⟩) := Keeps.put h2
  have hb0 : ∀ i, i ∈ [b] → σ i = none := fun i hi => by rw [List.mem_singleton.1 hi]; exact h2
  refine spec_l22Ok (mono_sto kb.le h0) hl ?_
  rw [pUn_not, pIf_b]
  refine ⟨fun hno => ?_, fun hyes => ?_⟩
  · have e : saveR (gen, text, gs, next) t = ([], (0, ⟨#[]⟩, [], 0), 1) := by simp at hno; simp [saveR, hno]
    rw [e] at hR
    rw [pVal_4 rfl rfl rfl rfl]
    exact hR _ _ [b] [] _ kb (raw_new h1) nil_sto hb0 (by simp) (by simp)
  have hst : stOk (gen, text, gs, next) = true := by simpa using hyes
  obtain ⟨ho1, ho2, ho3, ho4, ho5⟩ := stOk_of hst
  simp only at ho1 ho2 ho3 ho4 ho5
  have hvb := hv.mono kb.le fun _ _ h => h
  refine spec_l22TextOk ?_
  rw [pUn_not, pIf_b]
  refine ⟨fun hbig => ?_, fun hbig => ?_⟩
  · have e : saveR (gen, text, gs, next) t = ([], (gen, text, gs, next), 4) := by simp at hbig; simp [saveR, hst, hbig]
    rw [e] at hR
    refine spec_l22Copy hvb (by omega) fun v' F s k o f => ?_
    exact out_copy hR h1 h2 hx k o f
  have hsm : ¬ 5760 < t.size := by simp at hbig; omega
  rw [pBin_ge, pIf_d]
  refine ⟨fun hfull => ?_, fun hfull => ?_⟩
  · have e : saveR (gen, text, gs, next) t = ([], (gen, text, gs, next), 5) := by simp [saveR, hst, hsm, hfull]
    rw [e] at hR
    refine spec_l22Copy hvb (by omega) fun v' F s k o f => ?_
    exact out_copy hR h1 h2 hx k o f
  have e : saveR (gen, text, gs, next) t = (savedR (gen + 1) t, (gen + 1, t, [], 0), 0) := by simp only [saveR, hst]; rw [if_neg (by simp), if_neg hsm, if_neg hfull]
  rw [e] at hR
  rw [pBin_add (by omega), pBin_add (by omega), pVal1 rfl, pVal1 rfl]
  refine spec_l22Saved (by omega) (by omega) fun v2 F2 s2 k2 o2 f2 => ?_
  rw [pVal_4 rfl rfl rfl rfl]
  exact hR v2 _ F2 [] s2 (kb.trans k2) o2.osl ⟨_, rfl, ⟨by simp, by simp, .inl ⟨rfl, rfl, rfl⟩⟩, by show rng' (gen + 1); unfold rng'; omega, by show t.size ≤ _; omega, by show rng' 0; unfold rng'; simp⟩ (fun i hi => none_atI kb (f2 i hi)) (by simp) (by simp)

end

end Go.Proofs.Ytlfnfpdipghdiaa

/- A disk on which a store is: how it is opened; that what is written and played on opens again: pure. -/
set_option linter.unusedVariables false
set_option linter.unusedSimpArgs false
set_option maxRecDepth 20000
namespace Go.Proofs.Ytlfnfpdipghdiaa
open Go Go.Av

/-! ### Numbers of at most five figures -/
noncomputable def num5 (s : ByteArray) : Int :=
  open Classical in if ((1 ≤ s.size ∧ s.size ≤ 5) ∧ ¬ (1 < s.size ∧ (bl s).head? = some 48)) ∧ ∀ b, b ∈ bl s → 48 ≤ b.toNat ∧ b.toNat ≤ 57 then (valL (bl s) 0 : Nat) else -1
theorem num5_yes {s : ByteArray} (h : ((1 ≤ s.size ∧ s.size ≤ 5) ∧ ¬ (1 < s.size ∧ (bl s).head? = some 48)) ∧ ∀ b, b ∈ bl s → 48 ≤ b.toNat ∧ b.toNat ≤ 57) : num5 s = (valL (bl s) 0 : Nat) := by unfold num5; rw [if_pos h]
theorem num5_no {s : ByteArray} (h : ¬ (((1 ≤ s.size ∧ s.size ≤ 5) ∧ ¬ (1 < s.size ∧ (bl s).head? = some 48)) ∧ ∀ b, b ∈ bl s → 48 ≤ b.toNat ∧ b.toNat ≤ 57)) : num5 s = -1 := by unfold num5; rw [if_neg h]
theorem num5_of {s : ByteArray} {k : Int} (h : num5 s = k) (hk : 0 ≤ k) : s = decN k.toNat ∧ s.size ≤ 5 ∧ k ≤ 99999 := by
  by_cases hc : ((1 ≤ s.size ∧ s.size ≤ 5) ∧ ¬ (1 < s.size ∧ (bl s).head? = some 48)) ∧ ∀ b, b ∈ bl s → 48 ≤ b.toNat ∧ b.toNat ≤ 57
  · rw [num5_yes hc] at h
    subst h
    obtain ⟨⟨h1, h2⟩, h3⟩ := hc
    have hl := size_bl s
    have h4 := decL_of (bl s) (fun e => by rw [e] at hl; simp at hl; omega) h3 (fun hlt e => h2 ⟨by omega, e⟩)
    have h5 := valL_lt (bl s) 0 h3
    have h6 : 10 ^ (bl s).length ≤ 10 ^ 5 := Nat.pow_le_pow_right (by omega) (by omega)
    refine ⟨?_, h1.2, by omega⟩
    rw [Int.toNat_natCast]
    unfold decN
    rw [h4, ofL_bl]
  · rw [num5_no hc] at h; omega
theorem dec_len5 : ∀ (k : Nat), k ≤ 99999 → (decL k).length ≤ 5 := by
  have h0 : ∀ k, k ≤ 9 → (decL k).length ≤ 1 := fun k hk => by rw [decL_small (by omega)]; simp
  have step : ∀ (a b : Nat), (∀ k, k ≤ a → (decL k).length ≤ b) → ∀ k, k ≤ 10 * a + 9 → (decL k).length ≤ b + 1 := fun a b h k hk => by
    by_cases hs : k < 10
    · rw [decL_small hs]; simp
    · rw [decL_big hs, List.length_append]
      have := h (k / 10) (by omega)
      simp only [List.length_singleton]; omega
  exact step 9999 4 (step 999 3 (step 99 2 (step 9 1 h0)))
theorem num5_dec {k : Nat} (h : k ≤ 99999) : num5 (decN k) = k := by
  have h1 := dec_len5 k h
  have h2 := decL_len k
  have e : bl (decN k) = decL k := bl_ofL _
  have hsz : (decN k).size = (decL k).length := size_ofL _
  rw [num5_yes, e, valL_dec]
  refine ⟨⟨by omega, fun ⟨h3, h4⟩ => ?_⟩, fun b hb => decL_digits k b (by rw [← e]; exact hb)⟩
  rw [e] at h4
  rcases Nat.eq_zero_or_pos k with h0 | h0
  · subst h0; rw [decL_small (by omega)] at hsz; simp at hsz; omega
  · obtain ⟨b, r, h5, h6⟩ := decL_head k h0
    rw [h5] at h4
    simp at h4; exact h6 h4
theorem dec_no32 (k : Nat) : (32 : UInt8) ∉ decL k := fun h => by
  have := decL_digits k 32 h
  have e : (32 : UInt8).toNat = 32 := rfl
  omega

/-! ### Words -/
def cTx : ByteArray := ⟨#[67]⟩
def hT : ByteArray := ⟨#[72]⟩
theorem decZ_of {g : Int} (h : 0 ≤ g) : decZ g = decN g.toNat := by
  obtain ⟨k, rfl⟩ : ∃ k : Nat, g = k := ⟨g.toNat, by omega⟩
  rw [decZ_nat, Int.toNat_natCast]
theorem cut_head {gen : Int} {n : Nat} (hg : 0 ≤ gen) : cutS 32 (headB gen n) = [cTx, decN gen.toNat, decN n] := by
  have e : bl (headB gen n) = 67 :: 32 :: (decL gen.toNat ++ 32 :: decL n) := by
    unfold headB
    rw [decZ_of hg]
    simp only [bl_append, decN, bl_ofL]
    have e1 : bl (⟨#[67, 32]⟩ : ByteArray) = [67, 32] := rfl
    have e2 : bl (⟨#[32]⟩ : ByteArray) = [32] := rfl
    rw [e1, e2]; simp
  unfold cutS
  rw [e, show (67 : UInt8) :: 32 :: (decL gen.toNat ++ 32 :: decL n) = [67] ++ 32 :: (decL gen.toNat ++ 32 :: decL n) from rfl, cutL_at (by decide), cutL_at (dec_no32 _), cutL_none (dec_no32 _)]
  rfl
theorem cut_ghead {gen : Int} {k n : Nat} (hg : 0 ≤ gen) : cutS 32 (gheadB gen k n) = [hT, decN gen.toNat, decN k, decN n] := by
  have e : bl (gheadB gen k n) = 72 :: 32 :: (decL gen.toNat ++ 32 :: (decL k ++ 32 :: decL n)) := by
    unfold gheadB
    rw [decZ_of hg]
    simp only [bl_append, decN, bl_ofL]
    simp only [List.append_assoc]
    rfl
  unfold cutS
  rw [e, show (72 : UInt8) :: 32 :: (decL gen.toNat ++ 32 :: (decL k ++ 32 :: decL n)) = [72] ++ 32 :: (decL gen.toNat ++ 32 :: (decL k ++ 32 :: decL n)) from rfl, cutL_at (by decide), cutL_at (dec_no32 _), cutL_at (dec_no32 _), cutL_none (dec_no32 _)]
  rfl
theorem data_ne (r : List UInt8) : ofL (68 :: r) ≠ hT ∧ ofL (68 :: r) ≠ cTx := by
  refine ⟨fun h => ?_, fun h => ?_⟩
  · have := congrArg bl h; rw [bl_ofL] at this; cases this
  · have := congrArg bl h; rw [bl_ofL] at this; cases this

/-! ### How a disk is opened -/
noncomputable def foundP (b : ByteArray) (slot : Int) : Int × Int :=
  match cutS 32 b with
  | [w, g, n] => if w = cTx ∧ ((1 ≤ num5 g ∧ num5 g ≤ 99999) ∧ num5 g % 2 = slot) ∧ (0 ≤ num5 n ∧ num5 n ≤ 5760) then (num5 g, num5 n) else (0, 0)
  | _ => (0, 0)
def at0 (B : List ByteArray) (i : Nat) : ByteArray := (B[i]?).getD ⟨#[]⟩
/-- A text of pieces: of so many blocks at most, from one on. -/
noncomputable def textP (B : List ByteArray) (skip n : Nat) : Nat → Nat → ByteArray → Option ByteArray
  | 0, _, out => if out.size = n then some out else none
  | m + 1, a, out => if out.size < n then if (at0 B a).size ≤ skip ∨ (skip = 1 ∧ (bl (at0 B a)).head? ≠ some 68) then none else textP B skip n m (a + 1) (out ++ (at0 B a).extract skip (at0 B a).size) else if out.size = n then some out else none
def lenB (n : Int) : Nat := (n.toNat + 62) / 63
noncomputable def groupP (B : List ByteArray) (gen : Int) (k at' : Nat) : Option (ByteArray × Nat) :=
  if 12 ≤ at' then none else
  match cutS 32 (at0 B (2 + at')) with
  | [w, g, m, n] => if ((w = hT ∧ num5 g = gen) ∧ num5 m = k) ∧ (0 ≤ num5 n ∧ num5 n ≤ 600) ∧ at' + (1 + lenB (num5 n)) ≤ 12 then
      (textP B 1 (num5 n).toNat (lenB (num5 n)) (3 + at') ⟨#[]⟩).map fun s => (s, 1 + lenB (num5 n)) else none
  | _ => none
noncomputable def groupsP (B : List ByteArray) (gen : Int) : Nat → List ByteArray → Nat → List ByteArray × Nat
  | 0, gs, nx => (gs, nx)
  | f + 1, gs, nx => match groupP B gen gs.length nx with
    | some (g, k) => groupsP B gen f (gs ++ [g]) (nx + k)
    | none => (gs, nx)
/-- A head of a group, of a checkpoint or a later one. -/
noncomputable def likeP (b : ByteArray) (gen : Int) : Bool :=
  match cutS 32 b with
  | [w, g, _, _] => decide (w = hT ∧ gen ≤ num5 g)
  | _ => false
def CleanP (B : List ByteArray) (gen : Int) (nx : Nat) : Prop := ∀ i, nx ≤ i → i < 12 → likeP (at0 B (2 + i)) gen = false
noncomputable def genP (B : List ByteArray) : Int × Int := if (foundP (at0 B 0) 0).1 < (foundP (at0 B 1) 1).1 then foundP (at0 B 1) 1 else foundP (at0 B 0) 0
noncomputable def openP (B : List ByteArray) : Option Sto :=
  open Classical in
  if diskOk B = true ∧ (genP B).1 ≠ 0 then
    match textP B 0 (genP B).2.toNat 90 (areaI (genP B).1).toNat ⟨#[]⟩ with
    | none => none
    | some text =>
      if CleanP B (genP B).1 (groupsP B (genP B).1 13 [] 0).2 then some ((genP B).1, text, (groupsP B (genP B).1 13 [] 0).1, (((groupsP B (genP B).1 13 [] 0).2 : Nat) : Int)) else none
  else none
end Go.Proofs.Ytlfnfpdipghdiaa
