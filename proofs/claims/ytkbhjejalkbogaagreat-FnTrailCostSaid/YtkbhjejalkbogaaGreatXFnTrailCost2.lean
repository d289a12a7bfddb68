/- The law FnTrailCost holds: it returns true, and the input reads as it did. No condition. This is part 2 of 6 of its proof. -/
import Derived.Test.YtkbhjejalkbogaaGreatXFnTrailCost1
import Derived.IntWalk
import Derived.ChangeArms
import Derived.WideShapes
import Derived.ProofKit
import Derived.Below
import Derived.Test.YtkbhjejalkbogaaGreatProg

/- The plain side, part 1: the operations at known values; loops; what is read in a slice. -/
set_option linter.unusedVariables false
set_option linter.unusedSimpArgs false
namespace Go.Av
open Go Go.RowKit IntWalk

section
variable {P : Program} {w0 : World} {σ σ' : Vw}

/-! ### The operations at known values -/
theorem pIf_b {b : Bool} {A B : Prop} : pIf (.bool b) A B ↔ (b = true → A) ∧ (b = false → B) :=
  ⟨fun ⟨c, h, h1, h2⟩ => by cases h; exact ⟨h1, h2⟩, fun ⟨h1, h2⟩ => ⟨b, rfl, h1, h2⟩⟩
theorem pIf_d {p : Prop} [Decidable p] {A B : Prop} : pIf (.bool (decide p)) A B ↔ (p → A) ∧ (¬ p → B) := by
  rw [pIf_b]; simp
theorem pLen_s {A : Option Addr} {n c : Nat} {K : Value → Prop} : pLen (.slice A n c) K ↔ K (.int .i64 n) :=
  ⟨fun ⟨_, _, _, h, hK⟩ => by cases h; exact hK, fun h => ⟨_, _, _, rfl, h⟩⟩
theorem pLenS_s {s : ByteArray} {K : Value → Prop} : pLenS (.string s) K ↔ K (.int .i64 s.size) :=
  ⟨fun ⟨_, h, hK⟩ => by cases h; exact hK, fun h => ⟨_, rfl, h⟩⟩
theorem pNil_s {a : Addr} {K : Prop} : pNil (.pointer (some a)) K ↔ K := ⟨fun ⟨_, _, h⟩ => h, fun h => ⟨a, rfl, h⟩⟩
theorem pField_s {o : Nat} {a : Addr} {K : Value → Prop} : pField o (.pointer (some a)) K ↔ K (.pointer (some (a.add o))) :=
  ⟨fun ⟨_, h, hK⟩ => by cases h; exact hK, fun h => ⟨_, rfl, h⟩⟩
theorem pUn_not {b : Bool} {K : Value → Prop} : pUn .not (.bool b) K ↔ K (.bool !b) :=
  ⟨fun ⟨_, h, hK⟩ => by simp only [aun, Option.some.injEq] at h; subst h; exact hK, fun h => ⟨_, rfl, h⟩⟩
theorem pBin_i {T : Nat} {op : BinOp} {k : IntKind} {a b : Int} {v : Value} {K : Value → Prop} (h : aint op k a b = some v) : pBin P T op (.int k a) (.int k b) K ↔ K v := by
  have e : abinT P T op (.int k a) (.int k b) = some v := by unfold abinT; simp only [if_true]; exact h
  exact ⟨fun ⟨_, h, hK⟩ => by rw [e] at h; cases h; exact hK, fun h => ⟨_, e, h⟩⟩
theorem pBin_lt {T : Nat} {k : IntKind} {a b : Int} {K : Value → Prop} : pBin P T .lss (.int k a) (.int k b) K ↔ K (.bool (decide (a < b))) := pBin_i rfl
theorem pBin_le {T : Nat} {k : IntKind} {a b : Int} {K : Value → Prop} : pBin P T .leq (.int k a) (.int k b) K ↔ K (.bool (decide (a ≤ b))) := pBin_i rfl
theorem pBin_gt {T : Nat} {k : IntKind} {a b : Int} {K : Value → Prop} : pBin P T .gtr (.int k a) (.int k b) K ↔ K (.bool (decide (b < a))) := pBin_i rfl
theorem pBin_ge {T : Nat} {k : IntKind} {a b : Int} {K : Value → Prop} : pBin P T .geq (.int k a) (.int k b) K ↔ K (.bool (decide (b ≤ a))) := pBin_i rfl
theorem pBin_eq {T : Nat} {k : IntKind} {a b : Int} {K : Value → Prop} : pBin P T .eql (.int k a) (.int k b) K ↔ K (.bool (decide (a = b))) := pBin_i rfl
theorem pBin_ne {T : Nat} {k : IntKind} {a b : Int} {K : Value → Prop} : pBin P T .neq (.int k a) (.int k b) K ↔ K (.bool (decide (a ≠ b))) :=
  pBin_i (by simp only [aint, bne, Option.some.injEq, Value.bool.injEq]; by_cases h : a = b <;> simp [h])
theorem pBin_add {T : Nat} {a b : Int} {K : Value → Prop} (h : -9223372036854775808 ≤ a + b ∧ a + b ≤ 9223372036854775807) : pBin P T .add (.int .i64 a) (.int .i64 b) K ↔ K (.int .i64 (a + b)) :=
  pBin_i (by simp only [aint, i64_in _ h])
theorem pBin_sub {T : Nat} {a b : Int} {K : Value → Prop} (h : -9223372036854775808 ≤ a - b ∧ a - b ≤ 9223372036854775807) : pBin P T .sub (.int .i64 a) (.int .i64 b) K ↔ K (.int .i64 (a - b)) :=
  pBin_i (by simp only [aint, i64_in _ h])
theorem pBin_mul {T : Nat} {a b : Int} {K : Value → Prop} (h : -9223372036854775808 ≤ a * b ∧ a * b ≤ 9223372036854775807) : pBin P T .mul (.int .i64 a) (.int .i64 b) K ↔ K (.int .i64 (a * b)) :=
  pBin_i (by simp only [aint, i64_in _ h])

theorem bytes_inj {a b : ByteArray} (h : a.toList = b.toList) : a = b := by
  rw [ByteArray.toList_eq, ByteArray.toList_eq] at h
  cases a; cases b
  simp only [ByteArray.mk.injEq]
  exact Array.toList_inj.1 h
theorem toList_eq {a b : ByteArray} : (a.toList == b.toList) = decide (a = b) := by
  have : a.toList = b.toList ↔ a = b := ⟨fun h => Go.Av.bytes_inj h, fun h => by rw [h]⟩
  by_cases h : a = b
  · subst h; simp
  · have h' : ¬ a.toList = b.toList := fun e => h (this.1 e)
    simp [h, h']
theorem pBin_s {T : Nat} {op : BinOp} {a b : ByteArray} {v : Value} {K : Value → Prop} (h : astr op a b = some v) : pBin P T op (.string a) (.string b) K ↔ K v :=
  ⟨fun ⟨_, h', hK⟩ => by rw [show abinT P T op (.string a) (.string b) = some v from h] at h'; cases h'; exact hK, fun hK => ⟨_, h, hK⟩⟩
theorem pBin_seq {T : Nat} {a b : ByteArray} {K : Value → Prop} : pBin P T .eql (.string a) (.string b) K ↔ K (.bool (decide (a = b))) := pBin_s (by simp only [astr, toList_eq])
theorem pBin_sne {T : Nat} {a b : ByteArray} {K : Value → Prop} : pBin P T .neq (.string a) (.string b) K ↔ K (.bool (decide (a ≠ b))) := pBin_s (by simp only [astr, toList_eq]; simp)
theorem pBin_b {T : Nat} {op : BinOp} {a b : Bool} {v : Value} {K : Value → Prop} (hT : P.underlying T = some .bool) (h : (match op with | .eql => some (Value.bool (a == b)) | .neq => some (.bool (!(a == b))) | _ => none) = some v) : pBin P T op (.bool a) (.bool b) K ↔ K v := by
  have e : abinT P T op (.bool a) (.bool b) = some v := by simp only [abinT, hT]; exact h
  exact ⟨fun ⟨_, h', hK⟩ => by rw [e] at h'; cases h'; exact hK, fun hK => ⟨_, e, hK⟩⟩

theorem pVal1 {n : Nat} {v : Value} {A : Prop} (h : v.oneCell' = true) : pVal false n v A ↔ A := ⟨fun h => h.2, fun hA => ⟨h, hA⟩⟩
theorem pValN {n : Nat} {cs : List Value} {A : Prop} (hl : cs.length = n) (h : ∀ c, c ∈ cs → c.oneCell' = true) : pVal true n (.agg ⟨cs⟩) A ↔ A := ⟨fun h => h.2, fun hA => ⟨⟨cs, rfl, hl, h⟩, hA⟩⟩
theorem cellOf_agg {cs : List Value} {i : Nat} : cellOf (.agg ⟨cs⟩) i = cs.getD i undef := rfl
theorem pStr1 {b : Nat} {K : Value → Prop} {n : Int} {c : Nat} (h : Av.get w0 σ ⟨b, 0, none⟩ = some (.int .u8 n)) (hK : K (.string (strOfNums [n]))) : pStr w0 (.slice (some ⟨b, 0, none⟩) 1 c) σ K :=
  .inr ⟨b, 0, 1, c, [n], rfl, rfl, (fun j hj => by
    have e : j = 0 := by omega
    subst e
    exact h), hK⟩

/-! ### Loops -/
theorem loop_rule {B : List Value → (AX → List Value → Vw → Prop) → Vw → Prop} {K : AX → List Value → Vw → Prop} (I : Nat → List Value → Vw → Prop)
    (step : ∀ m vs σ (L : List Value → Vw → Prop), I m vs σ → (∀ vs' σ', ∀ m', m' + 1 = m → I m' vs' σ' → L vs' σ') → B vs (fun e vs' σ' => match e with | .normal => L vs' σ' | .exit i => K (.exit i) vs' σ' | .ret => K .ret vs' σ') σ)
    {m : Nat} {vs : List Value} (h : I m vs σ) : pLoop B vs σ K := by
  refine ⟨m + 1, ?_⟩
  induction m generalizing vs σ with
  | zero => exact step 0 vs σ _ h (fun vs' σ' m' e => by omega)
  | succ m ih =>
    refine step (m + 1) vs σ _ h (fun vs' σ' m' e hI => ?_)
    have e : m' = m := by omega
    subst e
    exact ih hI

/-! ### Reading -/
theorem add_add (a : Addr) (i j : Nat) : (a.add i).add j = a.add (i + j) := by
  unfold Addr.add
  by_cases hi : i = 0
  · simp [hi]
  · by_cases hj : j = 0
    · simp [hj]
    · have : i + j ≠ 0 := by omega
      simp [hi, hj, this, Nat.add_assoc]

/-- A reader that reads no less. -/
def Le (rd rd' : Addr → Option Value) : Prop := ∀ a v, rd a = some v → rd' a = some v
theorem Le.refl (rd : Addr → Option Value) : Le rd rd := fun _ _ h => h
theorem Ext.le (hx : Ext σ σ') : Le (Av.get w0 σ) (Av.get w0 σ') := fun _ _ h => get_ext hx h

/-- What is read behind a slice: xs, each of n cells. -/
def RSl {α : Type} (n : Nat) (R : (Addr → Option Value) → List Value → α → Prop) (rd : Addr → Option Value) (v : Value) (xs : List α) : Prop :=
  ∃ A cap, v = .slice A xs.length cap ∧ (xs.length ≤ cap ∧ cap ≤ 9223372036854775807) ∧ ∀ (j : Nat) (x : α), xs[j]? = some x → ∃ a es, A = some a ∧ es.length = n ∧ (∀ i, i < n → rd (a.add (j * n + i)) = es[i]?) ∧ R rd es x

theorem RSl.mono {α : Type} {n : Nat} {R : (Addr → Option Value) → List Value → α → Prop} {rd rd' : Addr → Option Value} {v : Value} {xs : List α} (h : RSl n R rd v xs) (hx : Le rd rd') (hR : ∀ es x, R rd es x → R rd' es x) : RSl n R rd' v xs := by
  obtain ⟨A, cap, h1, h2, h3⟩ := h
  refine ⟨A, cap, h1, h2, fun j x hj => ?_⟩
  obtain ⟨a, es, h4, h5, h6, h7⟩ := h3 j x hj
  refine ⟨a, es, h4, h5, fun i hi => ?_, hR _ _ h7⟩
  have := h6 i hi
  have hlt : i < es.length := by omega
  rw [List.getElem?_eq_getElem hlt] at this ⊢
  exact hx _ _ this

theorem RSl.len {α : Type} {n : Nat} {R : (Addr → Option Value) → List Value → α → Prop} {rd : Addr → Option Value} {v : Value} {xs : List α} (h : RSl n R rd v xs) {K : Value → Prop} : pLen v K ↔ K (.int .i64 xs.length) := by
  obtain ⟨A, cap, rfl, _⟩ := h
  exact pLen_s

/-- An element is read. -/
theorem RSl.at {α : Type} {n : Nat} {R : (Addr → Option Value) → List Value → α → Prop} {v : Value} {xs : List α} (h : RSl n R (Av.get w0 σ) v xs) {j : Nat} {x : α} (hj : xs[j]? = some x) {K : (Nat → Value) → Prop} (hK : ∀ g : Nat → Value, R (Av.get w0 σ) (expl g 0 n) x → K g) :
    pIndexAddr n v (.int .i64 j) fun p => pLoad w0 n p σ K := by
  obtain ⟨A, cap, rfl, _, h3⟩ := h
  obtain ⟨a, es, rfl, h5, h6, h7⟩ := h3 j x hj
  have hlt : j < xs.length := (List.getElem?_eq_some_iff.1 hj).1
  refine ⟨a, xs.length, cap, .i64, j, rfl, rfl, by omega, by omega, a.add (j * n), fun i => es.getD i undef, rfl, fun i hi => ?_, hK _ ?_⟩
  · have := h6 i hi
    have hlt : i < es.length := by omega
    rw [add_add, this, List.getElem?_eq_getElem hlt]
    simp only [List.getD_eq_getElem?_getD, List.getElem?_eq_getElem hlt, Option.getD_some]
  · have : expl (fun i => es.getD i undef) 0 n = es := by
      apply List.ext_getElem?
      intro i
      by_cases hi : i < n
      · rw [expl_get _ _ _ _ hi, Nat.zero_add, List.getD_eq_getElem?_getD]
        have hlt : i < es.length := by omega
        rw [List.getElem?_eq_getElem hlt]; rfl
      · rw [List.getElem?_eq_none (by rw [length_expl]; omega), List.getElem?_eq_none (by omega)]
    rw [this]; exact h7

/-- A text. -/
def RS (rd : Addr → Option Value) (cs : List Value) (s : ByteArray) : Prop := cs = [.string s] ∧ s.size ≤ 9223372036854775807
end
end Go.Av

/- The plain side, part 2: rows of our own. -/
set_option linter.unusedVariables false
set_option linter.unusedSimpArgs false
namespace Go.Av
open Go Go.RowKit

/-- Every row stays as it is; there may be new ones. -/
def Keeps (σ σ' : Vw) : Prop := ∀ b r, σ b = some r → σ' b = some r
theorem Keeps.refl (σ : Vw) : Keeps σ σ := fun _ _ h => h
theorem Keeps.trans {σ σ' σ'' : Vw} (h : Keeps σ σ') (h' : Keeps σ' σ'') : Keeps σ σ'' := fun b r hb => h' b r (h b r hb)
theorem Keeps.ext {σ σ' : Vw} (h : Keeps σ σ') : Ext σ σ' := fun b r hb => ⟨r, h b r hb, List.prefix_refl _⟩
theorem Keeps.le {w0 : World} {σ σ' : Vw} (h : Keeps σ σ') : Le (Av.get w0 σ) (Av.get w0 σ') := h.ext.le
theorem Keeps.stay {w0 : World} {σ σ' : Vw} {v : Value} {n : Nat} (h : Keeps σ σ') : Stay w0 σ σ' v n := fun a g _ hc j hj => h.le _ _ (hc j hj)
theorem Keeps.put {σ : Vw} {b : Nat} {r : Row} (h : σ b = none) : Keeps σ (σ.put b r) := fun i x hi => by
  have : i ≠ b := fun e => by rw [e, h] at hi; cases hi
  simp [Vw.put, this, hi]
/-- A new row is made, then others, then the first is written. -/
theorem Keeps.fill {σ σ' : Vw} {b : Nat} {r : Row} (h : Keeps σ σ') (hb : σ b = none) : Keeps σ (σ'.put b r) := fun i x hi => by
  have : i ≠ b := fun e => by rw [e, hb] at hi; cases hi
  simp [Vw.put, this, h i x hi]
theorem put_at {σ : Vw} {b : Nat} {r : Row} : σ.put b r b = some r := by simp [Vw.put]
theorem put_put {σ : Vw} {b : Nat} {r r' : Row} : (σ.put b r).put b r' = σ.put b r' := by
  funext i; simp only [Vw.put]; split <;> rfl

theorem get_row {w0 : World} {σ : Vw} {b off : Nat} {r : Row} (hb : w0.heap.size ≤ b) (h : σ b = some r) : Av.get w0 σ ⟨b, off, none⟩ = r.cells[off]? := by
  unfold Av.get
  simp only
  rw [if_neg (by omega), if_pos trivial, h]; rfl

theorem addr_add (b off i : Nat) : (Addr.mk b off none).add i = ⟨b, off + i, none⟩ := by
  unfold Addr.add
  split
  · rename_i h; subst h; rfl
  · rfl

theorem setAt_mid : ∀ (A old new C : List Value), old.length = new.length → setAt (A ++ (old ++ C)) A.length new = A ++ (new ++ C)
  | A, [], [], C, _ => by simp [setAt]
  | A, [], _ :: _, C, h => by simp at h
  | A, _ :: _, [], C, h => by simp at h
  | A, o :: old, n :: new, C, h => by
    simp only [setAt]
    have e : (A ++ (o :: old ++ C)).set A.length n = (A ++ [n]) ++ (old ++ C) := by simp
    rw [e]
    have := setAt_mid (A ++ [n]) old new C (by simpa using h)
    simp only [List.length_append, List.length_singleton] at this
    rw [this]
    simp

section
variable {w0 : World} {σ : Vw}

theorem flat_len {n : Nat} : ∀ (xs : List (List Value)), (∀ c, c ∈ xs → c.length = n) → xs.flatten.length = xs.length * n
  | [], _ => by simp
  | c :: r, h => by
    have := flat_len r (fun d hd => h d (List.mem_cons_of_mem _ hd))
    simp only [List.flatten_cons, List.length_append, List.length_cons, this, h c List.mem_cons_self]
    rw [Nat.add_mul, Nat.one_mul, Nat.add_comm]

theorem flat_get {n : Nat} : ∀ (xs : List (List Value)), (∀ c, c ∈ xs → c.length = n) → ∀ (j : Nat) (c : List Value), xs[j]? = some c → ∀ i, i < n → xs.flatten[j * n + i]? = c[i]?
  | [], _, j, c, hj, i, hi => by simp at hj
  | d :: r, h, 0, c, hj, i, hi => by
    simp at hj; subst hj
    have := h d List.mem_cons_self
    rw [List.flatten_cons, Nat.zero_mul, Nat.zero_add, List.getElem?_append_left (by omega)]
  | d :: r, h, j + 1, c, hj, i, hi => by
    have hd := h d List.mem_cons_self
    rw [List.flatten_cons, Nat.add_mul, Nat.one_mul, List.getElem?_append_right (by omega)]
    have := flat_get r (fun d hd => h d (List.mem_cons_of_mem _ hd)) j c (by simpa using hj) i hi
    rw [← this]
    congr 1
    omega

/-- What lies in a row of our own can be read. -/
theorem RSl.own {α : Type} {n : Nat} {R : (Addr → Option Value) → List Value → α → Prop} {b cap : Nat} {r : Row} {xs : List α} {cs : List (List Value)} {tail : List Value} (hb : w0.heap.size ≤ b) (hr : σ b = some r) (hc : r.cells = cs.flatten ++ tail) (hn : ∀ c, c ∈ cs → c.length = n)
    (hl : cs.length = xs.length) (hm : xs.length ≤ cap ∧ cap ≤ 9223372036854775807) (hR : ∀ (j : Nat) (c : List Value) (x : α), cs[j]? = some c → xs[j]? = some x → R (Av.get w0 σ) c x) : RSl n R (Av.get w0 σ) (.slice (some ⟨b, 0, none⟩) xs.length cap) xs := by
  refine ⟨_, cap, rfl, hm, fun j x hj => ?_⟩
  have hlt : j < cs.length := by have := (List.getElem?_eq_some_iff.1 hj).1; omega
  have hcj := List.getElem?_eq_getElem hlt
  refine ⟨_, cs[j], rfl, hn _ (List.getElem_mem hlt), fun i hi => ?_, hR j _ x hcj hj⟩
  rw [addr_add, get_row hb hr, Nat.zero_add, hc, ← flat_get cs hn j _ hcj i hi, List.getElem?_append_left]
  rw [flat_len cs hn]
  calc j * n + i < j * n + n := by omega
    _ = (j + 1) * n := by rw [Nat.add_mul, Nat.one_mul]
    _ ≤ cs.length * n := Nat.mul_le_mul_right n hlt

theorem RSl.one {α : Type} {n : Nat} {R : (Addr → Option Value) → List Value → α → Prop} {rd : Addr → Option Value} {v : Value} {xs : List α} (h : RSl n R rd v xs) : v.oneCell' = true := by
  obtain ⟨A, cap, rfl, _⟩ := h
  rfl
theorem RSl.le {α : Type} {n : Nat} {R : (Addr → Option Value) → List Value → α → Prop} {rd : Addr → Option Value} {v : Value} {xs : List α} (h : RSl n R rd v xs) : xs.length ≤ 9223372036854775807 := by
  obtain ⟨_, _, _, h2, _⟩ := h; exact Nat.le_trans h2.1 h2.2
theorem pVal_2 {v v' : Value} {A : Prop} (h : v.oneCell' = true) (h' : v'.oneCell' = true) : pVal true 2 (.agg ⟨[v, v']⟩) A ↔ A := pValN rfl (by simp [h, h'])
theorem pVal_3 {v v' v'' : Value} {A : Prop} (h : v.oneCell' = true) (h' : v'.oneCell' = true) (h'' : v''.oneCell' = true) : pVal true 3 (.agg ⟨[v, v', v'']⟩) A ↔ A := pValN rfl (by simp [h, h', h''])

end
end Go.Av

/- The lists of structs, whatever their element: their size, their comparison. -/
set_option linter.unusedVariables false
set_option linter.unusedSimpArgs false
namespace Go.Av
open Go Go.RowKit

/-- What is left of n. -/
def left (n : Int) (t : Nat) : Int := if n - t < 0 then -1 else n - t
def sumBy {α : Type} (f : α → Nat) : List α → Nat
  | [] => 0
  | s :: r => f s + sumBy f r
theorem sumBy_take {α : Type} {f : α → Nat} {xs : List α} : ∀ {j : Nat} {x : α}, xs[j]? = some x → sumBy f (xs.take (j + 1)) = sumBy f (xs.take j) + f x := by
  induction xs with
  | nil => intro j x h; simp at h
  | cons a r ih =>
    intro j x h
    cases j with
    | zero => simp at h; subst h; simp [sumBy]
    | succ j =>
      simp at h
      have := ih h
      simp only [List.take_succ_cons, sumBy, this]
      omega
theorem sumBy_le {α : Type} {f : α → Nat} {xs : List α} : ∀ (j : Nat), sumBy f (xs.take j) ≤ sumBy f xs := by
  induction xs with
  | nil => intro j; simp [sumBy]
  | cons a r ih =>
    intro j
    cases j with
    | zero => simp [sumBy]
    | succ j => have := ih j; simp only [List.take_succ_cons, sumBy]; omega

section
variable {P : Program} {w0 : World} {σ : Vw} {α : Type}

end
end Go.Av

/- Lists that lie in rows of our own, each part in rows of its own; the copy of a list of structs. -/
set_option linter.unusedVariables false
set_option linter.unusedSimpArgs false
namespace Go.Av
open Go Go.RowKit

section
variable {P : Program} {w0 : World} {σ σ' : Vw} {α : Type}

/-- What a rule for parts in rows of our own must keep. -/
structure OOk (w0 : World) (n : Nat) (Rel : (Addr → Option Value) → List Value → α → Prop) (O : Vw → List Nat → List Value → α → Prop) : Prop where
  rel : ∀ σ F es x, O σ F es x → Rel (Av.get w0 σ) es x
  frame : ∀ σ σ' F es x, O σ F es x → (∀ b, b ∈ F → σ' b = σ b) → O σ' F es x
  dom : ∀ σ F es x, O σ F es x → ∀ b, b ∈ F → w0.heap.size ≤ b ∧ σ b ≠ none
  nodup : ∀ σ F es x, O σ F es x → F.Nodup
  len : ∀ σ F es x, O σ F es x → es.length = n
  one : ∀ σ F es x, O σ F es x → ∀ c, c ∈ es → c.oneCell' = true

/-- A list in a row of our own, the elements' own parts in other rows. -/
def OSl (w0 : World) (n : Nat) (O : Vw → List Nat → List Value → α → Prop) (σ : Vw) (F : List Nat) (v : Value) (xs : List α) : Prop :=
  xs.length ≤ 9223372036854775807 ∧ F.Nodup ∧ ((v = .slice none 0 0 ∧ xs = [] ∧ F = []) ∨
  ∃ (b off cap : Nat) (r : Row) (pre post : List Value) (css : List (List Value)) (Fs : List (List Nat)), v = .slice (some ⟨b, off, none⟩) xs.length cap ∧ (xs.length ≤ cap ∧ cap ≤ 9223372036854775807) ∧ w0.heap.size ≤ b ∧ σ b = some r ∧ r.cells = pre ++ (css.flatten ++ post) ∧ pre.length = off ∧
    css.length = xs.length ∧ Fs.length = xs.length ∧ F = b :: Fs.flatten ∧ ∀ (j : Nat) (c : List Value) (x : α) (f : List Nat), css[j]? = some c → xs[j]? = some x → Fs[j]? = some f → O σ f c x)

theorem mem_flat {l : List (List Nat)} {b : Nat} (h : b ∈ l.flatten) : ∃ (j : Nat) (f : List Nat), l[j]? = some f ∧ b ∈ f := by
  obtain ⟨f, h1, h2⟩ := List.mem_flatten.1 h
  obtain ⟨j, hj⟩ := List.getElem?_of_mem h1
  exact ⟨j, f, hj, h2⟩

theorem OSl.frame {n : Nat} {Rel : (Addr → Option Value) → List Value → α → Prop} {O : Vw → List Nat → List Value → α → Prop} (ok : OOk w0 n Rel O) {F : List Nat} {v : Value} {xs : List α} (h : OSl w0 n O σ F v xs) (hF : ∀ b, b ∈ F → σ' b = σ b) : OSl w0 n O σ' F v xs := by
  obtain ⟨h1, h2, h3 | ⟨b, off, cap, r, pre, post, css, Fs, g1, gc, g2, g3, g4, g5, g6, g7, g8, g9⟩⟩ := h
  · exact ⟨h1, h2, .inl h3⟩
  · refine ⟨h1, h2, .inr ⟨b, off, cap, r, pre, post, css, Fs, g1, gc, g2, ?_, g4, g5, g6, g7, g8, fun j c x f e1 e2 e3 => ?_⟩⟩
    · rw [hF b (by rw [g8]; exact List.mem_cons_self)]; exact g3
    · refine ok.frame _ _ _ _ _ (g9 j c x f e1 e2 e3) fun i hi => hF i ?_
      rw [g8]
      exact List.mem_cons_of_mem _ (List.mem_flatten.2 ⟨f, List.mem_of_getElem? e3, hi⟩)

theorem OSl.dom {n : Nat} {Rel : (Addr → Option Value) → List Value → α → Prop} {O : Vw → List Nat → List Value → α → Prop} (ok : OOk w0 n Rel O) {F : List Nat} {v : Value} {xs : List α} (h : OSl w0 n O σ F v xs) : ∀ b, b ∈ F → w0.heap.size ≤ b ∧ σ b ≠ none := by
  obtain ⟨h1, h2, ⟨_, _, h3⟩ | ⟨b, off, cap, r, pre, post, css, Fs, g1, gc, g2, g3, g4, g5, g6, g7, g8, g9⟩⟩ := h
  · rw [h3]; intro b hb; cases hb
  · rw [g8]
    intro i hi
    rcases List.mem_cons.1 hi with e | e
    · rw [e]; exact ⟨g2, by rw [g3]; simp⟩
    · obtain ⟨j, f, e1, e2⟩ := mem_flat e
      have hj : j < Fs.length := (List.getElem?_eq_some_iff.1 e1).1
      exact ok.dom _ _ _ _ (g9 j _ _ f (List.getElem?_eq_getElem (by omega)) (List.getElem?_eq_getElem (by omega)) e1) i e2

theorem OSl.rel {n : Nat} {Rel : (Addr → Option Value) → List Value → α → Prop} {O : Vw → List Nat → List Value → α → Prop} (ok : OOk w0 n Rel O) {F : List Nat} {v : Value} {xs : List α} (h : OSl w0 n O σ F v xs) : RSl n Rel (Av.get w0 σ) v xs := by
  obtain ⟨h1, h2, ⟨rfl, rfl, _⟩ | ⟨b, off, cap, r, pre, post, css, Fs, rfl, gc, g2, g3, g4, g5, g6, g7, g8, g9⟩⟩ := h
  · exact ⟨none, 0, rfl, by simp, fun j x hj => by simp at hj⟩
  · have each : ∀ (j : Nat) (c : List Value), css[j]? = some c → c.length = n := fun j c hj => by
      have hlt : j < css.length := (List.getElem?_eq_some_iff.1 hj).1
      exact ok.len _ _ _ _ (g9 j c _ _ hj (List.getElem?_eq_getElem (by omega)) (List.getElem?_eq_getElem (by omega)))
    have hn : ∀ c, c ∈ css → c.length = n := fun c hc => by obtain ⟨j, hj⟩ := List.getElem?_of_mem hc; exact each j c hj
    refine ⟨_, cap, rfl, gc, fun j x hj => ?_⟩
    have hlt : j < css.length := by have := (List.getElem?_eq_some_iff.1 hj).1; omega
    have hcj := List.getElem?_eq_getElem hlt
    refine ⟨_, css[j], rfl, each j _ hcj, fun i hi => ?_, ok.rel _ _ _ _ (g9 j _ x _ hcj hj (List.getElem?_eq_getElem (by omega)))⟩
    rw [addr_add, get_row g2 g3, g4, List.getElem?_append_right (by omega)]
    rw [show off + (j * n + i) - pre.length = j * n + i by omega, List.getElem?_append_left, flat_get css hn j _ hcj i hi]
    rw [flat_len css hn]
    calc j * n + i < j * n + n := by omega
      _ = (j + 1) * n := by rw [Nat.add_mul, Nat.one_mul]
      _ ≤ css.length * n := Nat.mul_le_mul_right n hlt

end
end Go.Av

/- Lists in rows of our own, written element by element: the focus on one element, and the loops that mark and that look at marks. -/
set_option linter.unusedVariables false
set_option linter.unusedSimpArgs false
namespace Go.Av
open Go Go.RowKit

/-- Every row but those of F stays as it is. -/
def KeepsBut (F : List Nat) (σ σ' : Vw) : Prop := ∀ b r, σ b = some r → b ∉ F → σ' b = some r
theorem KeepsBut.refl (F : List Nat) (σ : Vw) : KeepsBut F σ σ := fun _ _ h _ => h
theorem Keeps.but {F : List Nat} {σ σ' : Vw} (h : Keeps σ σ') : KeepsBut F σ σ' := fun b r hb _ => h b r hb
/-- What is older than F stays. -/
theorem KeepsBut.old {F : List Nat} {σ0 σ σ' : Vw} (h : KeepsBut F σ σ') (h0 : Keeps σ0 σ) (hF : ∀ b, b ∈ F → σ0 b = none) : Keeps σ0 σ' := fun b r hb => h b r (h0 b r hb) fun hb' => by rw [hF b hb'] at hb; cases hb
theorem KeepsBut.at {F G : List Nat} {σ σ' : Vw} (h : KeepsBut F σ σ') (hG : ∀ b, b ∈ G → σ b ≠ none) (hd : ∀ b, b ∈ G → b ∉ F) : ∀ b, b ∈ G → σ' b = σ b := fun b hb => by
  cases hs : σ b with
  | none => exact absurd hs (hG b hb)
  | some r => exact h b r hs (hd b hb)
theorem KeepsBut.put {F : List Nat} {σ : Vw} {b : Nat} {r : Row} (hb : b ∈ F) : KeepsBut F σ (σ.put b r) := fun i x hi hF => by
  have : i ≠ b := fun e => hF (e ▸ hb)
  simp [Vw.put, this, hi]

section
variable {P : Program} {w0 : World} {σ σ' : Vw} {α : Type}

theorem nodup_at {l : List (List Nat)} {i j : Nat} {f g : List Nat} (h : l.flatten.Nodup) (hi : l[i]? = some f) (hj : l[j]? = some g) (hij : i ≠ j) : ∀ b, b ∈ f → b ∉ g := by
  induction l generalizing i j with
  | nil => simp at hi
  | cons a r ih =>
    rw [List.flatten_cons, List.nodup_append] at h
    intro b hb hb'
    cases i with
    | zero =>
      cases j with
      | zero => exact hij rfl
      | succ j =>
        simp at hi hj
        subst hi
        exact h.2.2 b hb b (List.mem_flatten.2 ⟨g, List.mem_of_getElem? hj, hb'⟩) rfl
    | succ i =>
      cases j with
      | zero =>
        simp at hi hj
        subst hj
        exact h.2.2 b hb' b (List.mem_flatten.2 ⟨f, List.mem_of_getElem? hi, hb⟩) rfl
      | succ j =>
        simp at hi hj
        exact ih h.2.1 hi hj (fun e => hij (by rw [e])) b hb hb'

theorem split_at {l : List (List Value)} {j : Nat} {c : List Value} (hj : l[j]? = some c) : l.flatten = (l.take j).flatten ++ (c ++ (l.drop (j + 1)).flatten) := by
  have hlt := (List.getElem?_eq_some_iff.1 hj).1
  have e : l = l.take j ++ (c :: l.drop (j + 1)) := by
    have := List.take_append_drop j l
    rw [List.drop_eq_getElem_cons hlt] at this
    have hc : l[j] = c := (List.getElem?_eq_some_iff.1 hj).2
    rw [hc] at this
    exact this.symm
  calc l.flatten = (l.take j ++ (c :: l.drop (j + 1))).flatten := by rw [← e]
    _ = _ := by rw [List.flatten_append, List.flatten_cons]

/-- One element of a list of our own, and how the list is put together again behind a change of it. -/
theorem OSl.focus {n : Nat} {Rel : (Addr → Option Value) → List Value → α → Prop} {O : Vw → List Nat → List Value → α → Prop} (ok : OOk w0 n Rel O) {F : List Nat} {v : Value} {xs : List α} (h : OSl w0 n O σ F v xs) {j : Nat} {x : α} (hj : xs[j]? = some x) :
    ∃ (b o : Nat) (f : List Nat) (c A C : List Value) (r : Row), (∀ K : Value → Prop, K (.pointer (some ⟨b, o, none⟩)) → pIndexAddr n v (.int .i64 j) K) ∧ w0.heap.size ≤ b ∧ σ b = some r ∧ r.cells = A ++ (c ++ C) ∧ A.length = o ∧ O σ f c x ∧ b ∈ F ∧ (∀ i, i ∈ f → i ∈ F ∧ i ≠ b) ∧
      ∀ (σ' : Vw) (c' : List Value) (x' : α) (r' : Row), σ' b = some r' → r'.cells = A ++ (c' ++ C) → O σ' f c' x' → (∀ i, i ∈ F → i ≠ b → i ∉ f → σ' i = σ i) → OSl w0 n O σ' F v (xs.set j x') := by
  obtain ⟨h1, h2, ⟨rfl, rfl, _⟩ | ⟨b, off, cap, r, pre, post, css, Fs, rfl, gc, g2, g3, g4, g5, g6, g7, g8, g9⟩⟩ := h
  · simp at hj
  have hlt : j < xs.length := (List.getElem?_eq_some_iff.1 hj).1
  have hcj := List.getElem?_eq_getElem (show j < css.length by omega)
  have hfj := List.getElem?_eq_getElem (show j < Fs.length by omega)
  generalize hce : css[j]'(by omega) = c at hcj
  generalize hfe : Fs[j]'(by omega) = f at hfj
  have hO := g9 j c x f hcj hj hfj
  have hn : ∀ c, c ∈ css → c.length = n := fun c hc => by
    obtain ⟨i, hi⟩ := List.getElem?_of_mem hc
    have hil : i < css.length := (List.getElem?_eq_some_iff.1 hi).1
    exact ok.len _ _ _ _ (g9 i c _ _ hi (List.getElem?_eq_getElem (by omega)) (List.getElem?_eq_getElem (by omega)))
  have hA : (pre ++ (css.take j).flatten).length = off + j * n := by
    rw [List.length_append, g5, flat_len _ fun c hc => hn c (List.mem_of_mem_take hc), List.length_take]
    congr 2; omega
  rw [g8] at h2
  have hbf : b ∉ f := fun hb => (List.nodup_cons.1 h2).1 (List.mem_flatten.2 ⟨f, List.mem_of_getElem? hfj, hb⟩)
  refine ⟨b, off + j * n, f, c, pre ++ (css.take j).flatten, (css.drop (j + 1)).flatten ++ post, r, fun K hK => ?_, g2, g3, ?_, hA, hO, by rw [g8]; exact List.mem_cons_self, fun i hi => ⟨?_, fun e => hbf (e ▸ hi)⟩, ?_⟩
  · refine ⟨⟨b, off, none⟩, xs.length, cap, .i64, j, rfl, rfl, by omega, by omega, ?_⟩
    rw [addr_add]; exact hK
  · rw [g4, split_at hcj]; simp only [List.append_assoc]
  · rw [g8]; exact List.mem_cons_of_mem _ (List.mem_flatten.2 ⟨f, List.mem_of_getElem? hfj, hi⟩)
  · intro σ' c' x' r' hr' hcells hO' hrest
    have hlen' := ok.len _ _ _ _ hO'
    refine ⟨by rw [List.length_set]; exact h1, by rw [g8]; exact h2, .inr ⟨b, off, cap, r', pre, post, css.set j c', Fs, by rw [List.length_set], by rw [List.length_set]; exact gc, g2, hr', ?_, g5, by rw [List.length_set, List.length_set]; exact g6, by rw [List.length_set]; exact g7, g8, ?_⟩⟩
    · have hcj' : (css.set j c')[j]? = some c' := List.getElem?_set_self (by omega)
      rw [hcells, split_at hcj', List.take_set_of_le (Nat.le_refl j), List.drop_set_of_lt (by omega)]
      simp only [List.append_assoc]
    · intro i ci y fi e1 e2 e3
      by_cases hij : j = i
      · subst hij
        rw [List.getElem?_set_self (by omega)] at e1 e2
        cases e1; cases e2
        rw [hfj] at e3; cases e3
        exact hO'
      · rw [List.getElem?_set_ne hij] at e1 e2
        refine ok.frame _ _ _ _ _ (g9 i ci y fi e1 e2 e3) fun k hk => ?_
        have hkF : k ∈ Fs.flatten := List.mem_flatten.2 ⟨fi, List.mem_of_getElem? e3, hk⟩
        exact hrest k (by rw [g8]; exact List.mem_cons_of_mem _ hkF) (fun e => (List.nodup_cons.1 h2).1 (e ▸ hkF)) (nodup_at (List.nodup_cons.1 h2).2 e3 hfj (fun e => hij e.symm) k hk)

/-- A field of an element is written. -/
theorem field_store {b o off : Nat} {r : Row} {A c C : List Value} {y : Value} {K : Vw → Prop} (hr : σ b = some r) (hc : r.cells = A ++ (c ++ C)) (hA : A.length = o) (hoff : off < c.length) (hy : y.oneCell' = true)
    (hK : K (σ.put b { r with cells := A ++ (c.set off y ++ C) })) : pField off (.pointer (some ⟨b, o, none⟩)) fun q => pVal false 1 y (pStore q [y] σ K) := by
  rw [pField_s, pVal1 hy, addr_add]
  refine ⟨b, o + off, r, rfl, hr, ?_, ?_⟩
  · rw [hc]; simp only [List.length_append, List.length_singleton]; omega
  · have e : setAt r.cells (o + off) [y] = A ++ (c.set off y ++ C) := by
      simp only [setAt]
      rw [hc, List.set_append_right _ _ (by omega), List.set_append_left _ _ (by omega), hA]
      congr 3; omega
    rw [e]; exact hK
theorem elem_store {b o : Nat} {r : Row} {A C : List Value} {x y : Value} {K : Vw → Prop} (hr : σ b = some r) (hc : r.cells = A ++ ([x] ++ C)) (hA : A.length = o) (hy : y.oneCell' = true)
    (hK : K (σ.put b { r with cells := A ++ ([y] ++ C) })) : pVal false 1 y (pStore (.pointer (some ⟨b, o, none⟩)) [y] σ K) := by
  rw [pVal1 hy]
  refine ⟨b, o, r, rfl, hr, ?_, ?_⟩
  · rw [hc]; simp only [List.length_append, List.length_singleton]; omega
  · have e : setAt r.cells o [y] = A ++ ([y] ++ C) := by
      simp only [setAt]
      rw [hc, List.set_append_right _ _ (by omega), hA, Nat.sub_self]; rfl
    rw [e]; exact hK
/-- A field of an element is read. -/
theorem field_load {b o off : Nat} {r : Row} {A c C : List Value} {y : Value} {K : (Nat → Value) → Prop} (hb : w0.heap.size ≤ b) (hr : σ b = some r) (hc : r.cells = A ++ (c ++ C)) (hA : A.length = o) (hoff : c[off]? = some y)
    (hK : ∀ g : Nat → Value, g 0 = y → K g) : pField off (.pointer (some ⟨b, o, none⟩)) fun q => pLoad w0 1 q σ K := by
  rw [pField_s, addr_add]
  refine ⟨_, fun _ => y, rfl, fun j hj => ?_, hK _ rfl⟩
  have : j = 0 := by omega
  subst this
  have hlt : off < c.length := (List.getElem?_eq_some_iff.1 hoff).1
  rw [addr_add, get_row hb hr, hc, List.getElem?_append_right (by omega), List.getElem?_append_left (by omega)]
  rw [show o + off + 0 - A.length = off by omega]; exact hoff

/-! ### Marks -/
end
end Go.Av

/- The plain side, part 3: what the statement's reading of an argument says of the cells. -/
set_option linter.unusedVariables false
set_option linter.unusedSimpArgs false
namespace Go.Av
open Go Go.RowKit

def σ0 : Vw := fun _ => none

section
variable {H : Type} {enc : TypeId × Value → H} {P : Program} {W : World} {fuel : Nat} {cs : List Value} {x : DataW H × List MemPlace}

theorem sat0 (W : World) : Sat W σ0 W := ⟨Below.refl _ _, fun b r h => by cases h⟩

theorem get0 {a : Addr} {v : Value} (h : W.cell? a = some v) {σ : Vw} : Av.get W σ a = some v := by
  have hlt : a.block < W.heap.size := by
    rcases Nat.lt_or_ge a.block W.heap.size with h1 | h1
    · exact h1
    · have : W.heap[a.block]? = none := Array.getElem?_eq_none h1
      unfold World.cell? at h
      simp [this] at h
  unfold Av.get
  rw [if_pos hlt]; exact h

theorem listOf {α : Type} (p : Nat → α → Prop) : ∀ (n : Nat), (∀ i, i < n → ∃ x, p i x) → ∃ xs : List α, xs.length = n ∧ ∀ (j : Nat) (x : α), xs[j]? = some x → p j x
  | 0, _ => ⟨[], rfl, fun j x h => by simp at h⟩
  | n + 1, h => by
    obtain ⟨xs, hl, hx⟩ := listOf p n (fun i hi => h i (by omega))
    obtain ⟨y, hy⟩ := h n (by omega)
    refine ⟨xs ++ [y], by simp [hl], fun j x hj => ?_⟩
    by_cases e : j < xs.length
    · rw [List.getElem?_append_left e] at hj; exact hx j x hj
    · rw [List.getElem?_append_right (by omega)] at hj
      have : j - xs.length = 0 := by
        rcases Nat.eq_zero_or_pos (j - xs.length) with h0 | h0
        · exact h0
        · rw [List.getElem?_eq_none (by simp; omega)] at hj; cases hj
      rw [this] at hj
      simp at hj
      subst hj
      have : j = n := by omega
      subst this; exact hy

/-- A slice is opened, its elements by a rule of their own. -/
theorem open_rsl {α : Type} {t e n : Nat} {R : (Addr → Option Value) → List Value → α → Prop} {spare : Nat → Bool} (ht : P.underlying t = some (.slice e)) (hc : P.cellsOf e = n)
    (hR : ∀ (fuel : Nat) (es : List Value) (y : DataW H × List MemPlace), DataW.trod enc P W 0 spare true fuel e es = some y → es.length = n → ∃ x, R (Av.get W σ0) es x) (h : DataW.trod enc P W 0 spare true fuel t cs = some x) : ∃ v xs, cs = [v] ∧ RSl n R (Av.get W σ0) v xs := by
  rcases DataW.trod_slice ht h with ⟨rfl, _⟩ | ⟨a, len, cap, elems, rest, m, _, rfl, _, hb, hl, hm, hlen, hel, _, _⟩
  · exact ⟨_, [], rfl, none, 0, rfl, by simp, fun j x hj => by simp at hj⟩
  · have each : ∀ i, i < len → ∃ x : α, ∃ es : List Value, es.length = n ∧ (∀ k, k < n → Av.get W σ0 (a.add (i * n + k)) = es[k]?) ∧ R (Av.get W σ0) es x := by
      intro i hi
      have h1 := hel i hi
      rw [hc, List.getElem?_eq_getElem (by omega), Option.bind_eq_some_iff] at h1
      obtain ⟨es, h2, h3⟩ := h1
      obtain ⟨_, hes, hcell⟩ := World.cells?_some h2
      obtain ⟨x, hx⟩ := hR m es _ h3 hes
      refine ⟨x, es, hes, fun k hk => ?_, hx⟩
      have := hcell k hk
      rw [add_add] at this
      have hlt : k < es.length := by omega
      rw [List.getElem?_eq_getElem hlt] at this ⊢
      exact get0 this
    obtain ⟨xs, hxl, hxs⟩ := listOf _ len each
    have hmax : cap ≤ 9223372036854775807 := by have : maxLen = 9223372036854775807 := by decide
                                                omega
    refine ⟨_, xs, rfl, some a, cap, by rw [hxl], ⟨by omega, hmax⟩, fun j x hj => ?_⟩
    obtain ⟨es, g1, g2, g3⟩ := hxs j x hj
    exact ⟨a, es, rfl, g1, g2, g3⟩

/-- From the functions to the statement. -/
theorem AC.calls {f : FuncId} {args : List Value} {R : Value → Vw → Prop} (h : AC P W f args σ0 R) : Calls P f args.toArray W fun e W' => ∃ v σ', e = .returned v ∧ R v σ' ∧ Below W.heap.size W W' :=
  (h.2 W (sat0 W)).mono fun e W' ⟨v, σ', h1, h2, h3⟩ => ⟨v, σ', h1, h2, h3.sat.bel⟩
end
end Go.Av

/- The plain side, part 4: what the statement's reading of an argument says, with the fuel told; numbers, bools, texts. -/
set_option linter.unusedVariables false
set_option linter.unusedSimpArgs false
namespace Go.Av
open Go Go.RowKit

theorem RSl.imp {α : Type} {n : Nat} {R R' : (Addr → Option Value) → List Value → α → Prop} {rd : Addr → Option Value} {v : Value} {xs : List α} (h : RSl n R rd v xs) (hR : ∀ es x, R rd es x → R' rd es x) : RSl n R' rd v xs := by
  obtain ⟨A, cap, h1, h2, h3⟩ := h
  refine ⟨A, cap, h1, h2, fun j x hj => ?_⟩
  obtain ⟨a, es, h4, h5, h6, h7⟩ := h3 j x hj
  exact ⟨a, es, h4, h5, h6, hR _ _ h7⟩

section
variable {H : Type} {enc : TypeId × Value → H} {P : Program} {W : World} {fuel : Nat} {cs : List Value} {x : DataW H × List MemPlace}

end
end Go.Av

/- The plain side, part 5: more operations at known values. -/
set_option linter.unusedVariables false
set_option linter.unusedSimpArgs false
namespace Go.Av
open Go Go.RowKit IntWalk

section
variable {P : Program} {w0 : World} {σ σ' : Vw}
theorem pConv_s {k k' : IntKind} {n : Int} {K : Value → Prop} : pConvInt k (.int k' n) K ↔ K (.int k (k.wrap n)) :=
  ⟨fun ⟨_, _, h, hK⟩ => by cases h; exact hK, fun h => ⟨_, _, rfl, h⟩⟩
theorem pConv_u8 {k' : IntKind} {n : Int} {K : Value → Prop} (h : 0 ≤ n ∧ n ≤ 255) : pConvInt .u8 (.int k' n) K ↔ K (.int .u8 n) := by rw [pConv_s, u8_in n h]
theorem pConv_i64 {k' : IntKind} {n : Int} {K : Value → Prop} (h : -9223372036854775808 ≤ n ∧ n ≤ 9223372036854775807) : pConvInt .i64 (.int k' n) K ↔ K (.int .i64 n) := by rw [pConv_s, i64_in n h]
theorem pBin_rem {T : Nat} {k : IntKind} {a b : Int} {K : Value → Prop} (h : 0 ≤ a ∧ 0 < b) : pBin P T .rem (.int k a) (.int k b) K ↔ K (.int k (a % b)) :=
  pBin_i (by simp only [aint]; rw [if_neg (by omega), Int.tmod_eq_emod_of_nonneg h.1])
theorem pBin_quo {T : Nat} {a b : Int} {K : Value → Prop} (h : 0 ≤ a ∧ a ≤ 9223372036854775807 ∧ 0 < b) : pBin P T .quo (.int .i64 a) (.int .i64 b) K ↔ K (.int .i64 (a / b)) :=
  pBin_i (by simp only [aint]; rw [if_neg (by omega), i64_quo a b (by omega)])
theorem pBin_cat {T : Nat} {a b : ByteArray} {K : Value → Prop} (h : a.size + b.size ≤ 9223372036854775807) : pBin P T .add (.string a) (.string b) K ↔ K (.string (a ++ b)) :=
  pBin_s (by
    have e : IntKind.i64.max = 9223372036854775807 := by decide
    simp only [astr, e]
    rw [if_neg (by omega)])
theorem pExtract_s {vs : List Value} {i : Nat} {v : Value} {K : Value → Prop} (h : vs[i]? = some v) : pExtract (.tuple ⟨vs⟩) i K ↔ K v := by
  obtain ⟨hl, he⟩ := List.getElem?_eq_some_iff.1 h
  exact ⟨fun ⟨_, e, hl', hK⟩ => by cases e; rw [he] at hK; exact hK, fun hK => ⟨_, rfl, hl, by rw [he]; exact hK⟩⟩
theorem pIndexStr_s {s : ByteArray} {j : Nat} {K : Value → Prop} (h : j < s.size) (hK : K (.int .u8 ((s[j]'h).toNat : Int))) : pIndexStr (.string s) (.int .i64 j) K :=
  ⟨s, .i64, j, rfl, rfl, by omega, h, hK⟩
theorem pSliceStr_s {s : ByteArray} {lo hi : Option Value} {l h : Int} {K : Value → Prop} (hl : boundOf 0 lo = some l) (hh : boundOf s.size hi = some h) (h0 : 0 ≤ l ∧ l ≤ h ∧ h ≤ s.size) (hK : K (.string (s.extract l.toNat h.toNat))) : pSliceStr (.string s) lo hi K :=
  ⟨s, l, h, rfl, hl, hh, h0.1, h0.2.1, h0.2.2, hK⟩
end
end Go.Av

/- Lists that grow by append, in a row of our own; elements that need no row; elements that are read in what is older. -/
set_option linter.unusedVariables false
set_option linter.unusedSimpArgs false
namespace Go.Av
open Go Go.RowKit

section
variable {P : Program} {w0 : World} {σ σ' : Vw} {α : Type}

/-! ### Elements that are read by a reader that is fixed -/
def RB (Rel : (Addr → Option Value) → List Value → α → Prop) (rd0 : Addr → Option Value) (rd : Addr → Option Value) (es : List Value) (x : α) : Prop := Rel rd0 es x
def OB (Rel : (Addr → Option Value) → List Value → α → Prop) (rd0 : Addr → Option Value) (σ : Vw) (F : List Nat) (es : List Value) (x : α) : Prop := F = [] ∧ Rel rd0 es x
/-- What a rule of reading must keep. -/
structure ROk (n : Nat) (Rel : (Addr → Option Value) → List Value → α → Prop) : Prop where
  mono : ∀ rd rd' es x, Le rd rd' → Rel rd es x → Rel rd' es x
  len : ∀ rd es x, Rel rd es x → es.length = n
  one : ∀ rd es x, Rel rd es x → ∀ c, c ∈ es → c.oneCell' = true
theorem ok_base {n : Nat} {Rel : (Addr → Option Value) → List Value → α → Prop} (ok : ROk n Rel) (w0 : World) (rd0 : Addr → Option Value) : OOk w0 n (RB Rel rd0) (OB Rel rd0) := by
  refine ⟨?_, ?_, ?_, ?_, ?_, ?_⟩
  · rintro σ F es x ⟨_, h⟩; exact h
  · rintro σ σ' F es x h _; exact h
  · rintro σ F es x ⟨rfl, _⟩ b hb; cases hb
  · rintro σ F es x ⟨rfl, _⟩; exact List.nodup_nil
  · rintro σ F es x ⟨_, h⟩; exact ok.len _ _ _ h
  · rintro σ F es x ⟨_, h⟩; exact ok.one _ _ _ h
theorem RSl.unbase {n : Nat} {Rel : (Addr → Option Value) → List Value → α → Prop} (ok : ROk n Rel) {rd0 rd : Addr → Option Value} {v : Value} {xs : List α} (h : RSl n (RB Rel rd0) rd v xs) (hle : Le rd0 rd) : RSl n Rel rd v xs :=
  h.imp fun es x hx => ok.mono _ _ _ _ hle hx

/-! ### Elements that need no row -/
/-! ### Growing lists -/
def OAcc (w0 : World) (ety n : Nat) (O : Vw → List Nat → List Value → α → Prop) (σ : Vw) (F : List Nat) (v : Value) (xs : List α) : Prop :=
  xs.length ≤ 9223372036854775807 ∧ F.Nodup ∧ ((v = .slice none 0 0 ∧ xs = [] ∧ F = []) ∨
  ∃ (b cap : Nat) (css : List (List Value)) (Fs : List (List Nat)), v = .slice (some ⟨b, 0, none⟩) xs.length cap ∧ (xs.length ≤ cap ∧ cap ≤ 9223372036854775807) ∧ w0.heap.size ≤ b ∧ σ b = some ⟨ety, css.flatten, cap * n, (0, 0)⟩ ∧
    css.length = xs.length ∧ Fs.length = xs.length ∧ F = b :: Fs.flatten ∧ ∀ (j : Nat) (c : List Value) (x : α) (f : List Nat), css[j]? = some c → xs[j]? = some x → Fs[j]? = some f → O σ f c x)

theorem OAcc.osl {ety n : Nat} {O : Vw → List Nat → List Value → α → Prop} {F : List Nat} {v : Value} {xs : List α} (h : OAcc w0 ety n O σ F v xs) : OSl w0 n O σ F v xs := by
  obtain ⟨h1, h2, h3 | ⟨b, cap, css, Fs, g1, g2, g3, g4, g5, g6, g7, g8⟩⟩ := h
  · exact ⟨h1, h2, .inl h3⟩
  · exact ⟨h1, h2, .inr ⟨b, 0, cap, _, [], [], css, Fs, g1, g2, g3, g4, by simp, rfl, g5, g6, g7, g8⟩⟩
theorem OAcc.frame {ety n : Nat} {Rel : (Addr → Option Value) → List Value → α → Prop} {O : Vw → List Nat → List Value → α → Prop} (ok : OOk w0 n Rel O) {F : List Nat} {v : Value} {xs : List α} (h : OAcc w0 ety n O σ F v xs) (hF : ∀ b, b ∈ F → σ' b = σ b) : OAcc w0 ety n O σ' F v xs := by
  obtain ⟨h1, h2, h3 | ⟨b, cap, css, Fs, g1, g2, g3, g4, g5, g6, g7, g8⟩⟩ := h
  · exact ⟨h1, h2, .inl h3⟩
  · refine ⟨h1, h2, .inr ⟨b, cap, css, Fs, g1, g2, g3, by rw [hF b (by rw [g7]; exact List.mem_cons_self)]; exact g4, g5, g6, g7, fun j c x f e1 e2 e3 => ?_⟩⟩
    refine ok.frame _ _ _ _ _ (g8 j c x f e1 e2 e3) fun i hi => hF i ?_
    rw [g7]
    exact List.mem_cons_of_mem _ (List.mem_flatten.2 ⟨f, List.mem_of_getElem? e3, hi⟩)
theorem OAcc.dom {ety n : Nat} {Rel : (Addr → Option Value) → List Value → α → Prop} {O : Vw → List Nat → List Value → α → Prop} (ok : OOk w0 n Rel O) {F : List Nat} {v : Value} {xs : List α} (h : OAcc w0 ety n O σ F v xs) : ∀ b, b ∈ F → w0.heap.size ≤ b ∧ σ b ≠ none := h.osl.dom ok
theorem OAcc.nil {ety n : Nat} {O : Vw → List Nat → List Value → α → Prop} : OAcc w0 ety n O σ [] (.slice none 0 0) [] := ⟨by simp, by simp, .inl ⟨rfl, rfl, rfl⟩⟩
theorem OAcc.new {ety n b : Nat} {O : Vw → List Nat → List Value → α → Prop} (hb : w0.heap.size ≤ b) : OAcc w0 ety n O (σ.put b ⟨ety, [], 0, (0, 0)⟩) [b] (.slice (some ⟨b, 0, none⟩) 0 0) [] :=
  ⟨by simp, by simp, .inr ⟨b, 0, [], [], rfl, by simp, hb, by rw [put_at]; simp, rfl, rfl, rfl, fun j c x f h => by simp at h⟩⟩

theorem Keeps.but_at {F : List Nat} (h : Keeps σ σ') (hF : ∀ b, b ∈ F → σ b ≠ none) : ∀ b, b ∈ F → σ' b = σ b := fun b hb => by
  cases hs : σ b with
  | none => exact absurd hs (hF b hb)
  | some r => exact h b r hs

/-- Elements are appended, each with rows of its own. -/
theorem OAcc.pushX {ety n bytes m : Nat} {Rel : (Addr → Option Value) → List Value → α → Prop} {O : Vw → List Nat → List Value → α → Prop} (ok : OOk w0 n Rel O) {F : List Nat} {v : Value} {xs ys : List α} {nss : List (List Value)} {Gs : List (List Nat)} {new : List Value}
    (h : OAcc w0 ety n O σ F v xs) (hm : ys.length = m) (hnl : nss.length = m) (hGl : Gs.length = m) (hnew : new = nss.flatten) (hO : ∀ (j : Nat) (c : List Value) (y : α) (g : List Nat), nss[j]? = some c → ys[j]? = some y → Gs[j]? = some g → O σ g c y)
    (hG : Gs.flatten.Nodup) (hGF : ∀ i, i ∈ Gs.flatten → i ∉ F) (hlen : xs.length + m ≤ 1000000000000) (hbytes : bytes ≤ 140) {K : Value → Vw → Prop}
    (hK : ∀ v' F' σ', Ext σ σ' → KeepsBut F σ σ' → OAcc w0 ety n O σ' F' v' (xs ++ ys) → (∀ i, i ∈ F' → i ∈ F ∨ i ∈ Gs.flatten ∨ σ i = none) → K v' σ') : pAppend w0 ety n bytes v m new σ K := by
  have hb47 : (xs.length + m) * bytes ≤ 2 ^ 47 := by
    have h1 : (xs.length + m) * bytes ≤ 1000000000000 * 140 := Nat.mul_le_mul hlen hbytes
    have h2 : (2 : Nat) ^ 47 = 140737488355328 := by decide
    omega
  have hn2 : ∀ c, c ∈ nss → c.length = n := fun c hc => by
    obtain ⟨i, hi⟩ := List.getElem?_of_mem hc
    have hil : i < nss.length := (List.getElem?_eq_some_iff.1 hi).1
    exact ok.len _ _ _ _ (hO i c _ _ hi (List.getElem?_eq_getElem (by omega)) (List.getElem?_eq_getElem (by omega)))
  have hnewl : new.length = m * n := by rw [hnew, flat_len _ hn2, hnl]
  have hGdom : ∀ i, i ∈ Gs.flatten → σ i ≠ none := fun i hi => by
    obtain ⟨j, f, e1, e2⟩ := mem_flat hi
    have hj : j < Gs.length := (List.getElem?_eq_some_iff.1 e1).1
    exact (ok.dom _ _ _ _ (hO j _ _ f (List.getElem?_eq_getElem (by omega)) (List.getElem?_eq_getElem (by omega)) e1) i e2).2
  obtain ⟨h1, h2, ⟨rfl, rfl, rfl⟩ | ⟨b, cap, css, Fs, rfl, g2, g3, g4, g5, g6, g7, g8⟩⟩ := h
  · refine .inr (.inl ⟨0, [], ⟨by simp, .inl ⟨rfl, rfl⟩⟩, hnewl, by simpa using (by omega : m ≤ 9223372036854775807), by simpa using hb47, fun v' σ' hg => ?_⟩)
    rcases hg with ⟨rfl, rfl, _, h0, _⟩ | ⟨b', c', rfl, g1, g2, rfl, g3, g4⟩
    · have : m = 0 := by omega
      subst this
      have hy : ys = [] := List.length_eq_zero_iff.1 hm
      subst hy
      exact hK _ [] _ (Ext.refl _) (KeepsBut.refl _ _) (by simpa using OAcc.nil) (fun i hi => by cases hi)
    · have hb' : σ b' = none := by
        rcases g4 with h | ⟨n0, c0, h⟩
        · exact h
        · cases h
      have hbG : b' ∉ Gs.flatten := fun hi => hGdom b' hi hb'
      refine hK _ (b' :: Gs.flatten) _ (Keeps.put hb').ext (Keeps.put hb').but ?_ fun i hi => ?_
      · refine ⟨by simp; omega, List.nodup_cons.2 ⟨hbG, hG⟩, .inr ⟨b', c', nss, Gs, by simp [hm], by simp [hm]; omega, g3, by rw [put_at]; simp [hnew], by simp [hm, hnl], by simp [hm, hGl], rfl, fun j c x f e1 e2 e3 => ?_⟩⟩
        simp only [List.nil_append] at e2
        refine ok.frame _ _ _ _ _ (hO j c x f e1 e2 e3) fun i hi => ?_
        have : i ≠ b' := fun e => hbG (e ▸ List.mem_flatten.2 ⟨f, List.mem_of_getElem? e3, hi⟩)
        simp [Vw.put, this]
      · rcases List.mem_cons.1 hi with e | e
        · rw [e]; exact .inr (.inr hb')
        · exact .inr (.inl e)
  · have hn1 : ∀ c, c ∈ css → c.length = n := fun c hc => by
      obtain ⟨i, hi⟩ := List.getElem?_of_mem hc
      have hil : i < css.length := (List.getElem?_eq_some_iff.1 hi).1
      exact ok.len _ _ _ _ (g8 i c _ _ hi (List.getElem?_eq_getElem (by omega)) (List.getElem?_eq_getElem (by omega)))
    have g4' := g4
    rw [g7] at h2
    have hbFs : b ∉ Fs.flatten := (List.nodup_cons.1 h2).1
    have hbG : b ∉ Gs.flatten := fun hi => hGF b hi (by rw [g7]; exact List.mem_cons_self)
    have hFsdom : ∀ i, i ∈ Fs.flatten → σ i ≠ none := fun i hi => by
      obtain ⟨j, f, e1, e2⟩ := mem_flat hi
      have hj : j < Fs.length := (List.getElem?_eq_some_iff.1 e1).1
      exact (ok.dom _ _ _ _ (g8 j _ _ f (List.getElem?_eq_getElem (by omega)) (List.getElem?_eq_getElem (by omega)) e1) i e2).2
    refine .inr (.inl ⟨xs.length, css.flatten, ⟨by rw [flat_len _ hn1, g5], .inr ⟨b, cap, rfl, g4, g2.1, g2.2⟩⟩, hnewl, by omega, hb47, fun v' σ' hg => ?_⟩)
    rcases hg with ⟨rfl, rfl, h, _⟩ | ⟨b', c', rfl, k1, k2, rfl, k3, k4⟩
    · cases h
    · have hb' : b' ∉ Fs.flatten ∧ b' ∉ Gs.flatten ∧ (b' = b ∨ σ b' = none) := by
        rcases k4 with h | ⟨n0, c0, h⟩
        · exact ⟨fun hi => hFsdom b' hi h, fun hi => hGdom b' hi h, .inr h⟩
        · cases h; exact ⟨hbFs, hbG, .inl rfl⟩
      refine hK _ (b' :: (Fs ++ Gs).flatten) _ ?_ ?_ ?_ fun i hi => ?_
      · rcases hb'.2.2 with rfl | h
        · intro i r hi
          by_cases e : i = b'
          · subst e
            rw [g4'] at hi; cases hi
            exact ⟨_, put_at, List.prefix_append _ _⟩
          · exact ⟨r, by simp [Vw.put, e, hi], List.prefix_refl _⟩
        · exact (Keeps.put h).ext
      · rcases hb'.2.2 with rfl | h
        · exact KeepsBut.put (by rw [g7]; exact List.mem_cons_self)
        · exact (Keeps.put h).but
      · refine ⟨by simp; omega, ?_, .inr ⟨b', c', css ++ nss, Fs ++ Gs, by simp [hm], by simp [hm]; omega, k3, by rw [put_at, hnew]; simp, by simp [hm, hnl, g5], by simp [hm, hGl, g6], rfl, fun j c x f e1 e2 e3 => ?_⟩⟩
        · rw [List.flatten_append, List.nodup_cons]
          refine ⟨fun hi => ?_, List.nodup_append.2 ⟨(List.nodup_cons.1 h2).2, hG, fun a ha d hd e => hGF d hd (by rw [g7, ← e]; exact List.mem_cons_of_mem _ ha)⟩⟩
          rcases List.mem_append.1 hi with h | h
          · exact hb'.1 h
          · exact hb'.2.1 h
        · have hput : ∀ i, i ≠ b' → (σ.put b' ⟨ety, css.flatten ++ new, c' * n, (0, 0)⟩) i = σ i := fun i hi => by simp [Vw.put, hi]
          by_cases hj : j < xs.length
          · rw [List.getElem?_append_left (by omega)] at e1 e2 e3
            exact ok.frame _ _ _ _ _ (g8 j c x f e1 e2 e3) fun i hi => hput i fun e => hb'.1 (e ▸ List.mem_flatten.2 ⟨f, List.mem_of_getElem? e3, hi⟩)
          · rw [List.getElem?_append_right (by omega)] at e1 e2 e3
            rw [g5] at e1; rw [g6] at e3
            exact ok.frame _ _ _ _ _ (hO _ c x f e1 e2 e3) fun i hi => hput i fun e => hb'.2.1 (e ▸ List.mem_flatten.2 ⟨f, List.mem_of_getElem? e3, hi⟩)
      · rw [g7]
        rcases List.mem_cons.1 hi with e | e
        · rw [e]
          rcases hb'.2.2 with rfl | h
          · exact .inl List.mem_cons_self
          · exact .inr (.inr h)
        · rw [List.flatten_append] at e
          rcases List.mem_append.1 e with h | h
          · exact .inl (List.mem_cons_of_mem _ h)
          · exact .inr (.inl h)

/-- One element is appended. -/
theorem OAcc.oneX {ety n bytes : Nat} {Rel : (Addr → Option Value) → List Value → α → Prop} {O : Vw → List Nat → List Value → α → Prop} (ok : OOk w0 n Rel O) {F f : List Nat} {v : Value} {xs : List α} {y : α} {es : List Value}
    (h : OAcc w0 ety n O σ F v xs) (hy : O σ f es y) (hf : ∀ i, i ∈ f → i ∉ F) (hlen : xs.length + 1 ≤ 1000000000000) (hbytes : bytes ≤ 140) {K : Value → Vw → Prop}
    (hK : ∀ v' F' σ', Ext σ σ' → KeepsBut F σ σ' → OAcc w0 ety n O σ' F' v' (xs ++ [y]) → (∀ i, i ∈ F' → i ∈ F ∨ i ∈ f ∨ σ i = none) → K v' σ') : allOne es ∧ pAppend w0 ety n bytes v 1 es σ K := by
  refine ⟨ok.one _ _ _ _ hy, ?_⟩
  refine h.pushX ok (ys := [y]) (nss := [es]) (Gs := [f]) rfl rfl rfl (by simp) (fun j c z g e1 e2 e3 => ?_) (by simpa using ok.nodup _ _ _ _ hy) (by simpa using hf) hlen hbytes (by simpa using hK)
  cases j with
  | zero => simp at e1 e2 e3; subst e1 e2 e3; exact hy
  | succ j => simp at e1

/-- All elements of a list that is read are appended; they need no rows of their own. -/
theorem OAcc.allX {ety n bytes : Nat} {Rel Rel0 : (Addr → Option Value) → List Value → α → Prop} {O : Vw → List Nat → List Value → α → Prop} (ok : OOk w0 n Rel O) {rd0 : Addr → Option Value} {F : List Nat} {v s : Value} {xs ys : List α}
    (h : OAcc w0 ety n O σ F v xs) (hs : RSl n Rel0 rd0 s ys) (hle : Le rd0 (Av.get w0 σ)) (hO : ∀ es y, Rel0 rd0 es y → O σ [] es y) (hlen : xs.length + ys.length ≤ 1000000000000) (hbytes : bytes ≤ 140) {K : Value → Vw → Prop}
    (hK : ∀ v' F' σ', Ext σ σ' → KeepsBut F σ σ' → OAcc w0 ety n O σ' F' v' (xs ++ ys) → (∀ i, i ∈ F' → i ∈ F ∨ σ i = none) → K v' σ') : pAppendS w0 ety n bytes v s σ K := by
  obtain ⟨A, cap, rfl, hc, hel⟩ := hs
  obtain ⟨css, hcl, hcs⟩ := listOf (fun i (c : List Value) => ∃ a y, A = some a ∧ ys[i]? = some y ∧ c.length = n ∧ (∀ k, k < n → rd0 (a.add (i * n + k)) = c[k]?) ∧ Rel0 rd0 c y) ys.length (fun i hi => by
    obtain ⟨a, es, h1, h2, h3, h4⟩ := hel i _ (List.getElem?_eq_getElem hi)
    exact ⟨es, a, _, h1, List.getElem?_eq_getElem hi, h2, h3, h4⟩)
  have hn : ∀ c, c ∈ css → c.length = n := fun c hc => by
    obtain ⟨i, hi⟩ := List.getElem?_of_mem hc
    obtain ⟨_, _, _, _, h, _⟩ := hcs i c hi
    exact h
  refine ⟨A, ys.length, cap, css.flatten, rfl, by rw [flat_len _ hn, hcl], ?_, ?_, ?_⟩
  · intro c hc
    obtain ⟨es, he, hce⟩ := List.mem_flatten.1 hc
    obtain ⟨i, hi⟩ := List.getElem?_of_mem he
    obtain ⟨a, y, _, _, _, _, hR⟩ := hcs i es hi
    exact ok.one _ _ _ _ (hO _ _ hR) c hce
  · intro j hj
    rw [flat_len _ hn, hcl] at hj
    have hn0 : 0 < n := by
      rcases Nat.eq_zero_or_pos n with e | e
      · subst e; omega
      · exact e
    have hq : j / n < css.length := by rw [hcl]; exact (Nat.div_lt_iff_lt_mul hn0).2 hj
    obtain ⟨a, y, hA, hy, hl, hk, hR⟩ := hcs (j / n) _ (List.getElem?_eq_getElem hq)
    have hr : j % n < n := Nat.mod_lt _ hn0
    have hdm : j / n * n + j % n = j := by rw [Nat.mul_comm]; exact Nat.div_add_mod j n
    refine ⟨a, hA, ?_⟩
    have e1 := flat_get css hn (j / n) _ (List.getElem?_eq_getElem hq) (j % n) hr
    rw [hdm] at e1
    have e2 := hk (j % n) hr
    rw [hdm, ← e1] at e2
    have hj' : j < css.flatten.length := by rw [flat_len _ hn, hcl]; exact hj
    rw [List.getElem?_eq_getElem hj'] at e2
    exact hle _ _ e2
  · refine h.pushX ok (ys := ys) (nss := css) (Gs := List.replicate ys.length []) rfl hcl (by simp) rfl (fun j c y g e1 e2 e3 => ?_) (by simp) (by simp) hlen hbytes (by simpa using hK)
    obtain ⟨a, y', _, hy, _, _, hR⟩ := hcs j c e1
    rw [e2] at hy; cases hy
    rw [List.getElem?_replicate] at e3
    split at e3
    · cases e3; exact hO _ _ hR
    · cases e3

/-- All elements of a list of our own are appended, with their rows. -/
theorem OAcc.allOwnX {ety n bytes : Nat} {Rel : (Addr → Option Value) → List Value → α → Prop} {O : Vw → List Nat → List Value → α → Prop} (ok : OOk w0 n Rel O) {F G : List Nat} {v s : Value} {xs ys : List α}
    (h : OAcc w0 ety n O σ F v xs) (hs : OSl w0 n O σ G s ys) (hGF : ∀ i, i ∈ G → i ∉ F) (hlen : xs.length + ys.length ≤ 1000000000000) (hbytes : bytes ≤ 140) {K : Value → Vw → Prop}
    (hK : ∀ v' F' σ', Ext σ σ' → KeepsBut F σ σ' → OAcc w0 ety n O σ' F' v' (xs ++ ys) → (∀ i, i ∈ F' → i ∈ F ∨ i ∈ G ∨ σ i = none) → K v' σ') : pAppendS w0 ety n bytes v s σ K := by
  obtain ⟨s1, s2, ⟨rfl, rfl, rfl⟩ | ⟨b, off, cap, r, pre, post, css, Gs, rfl, gc, g2, g3, g4, g5, g6, g7, g8, g9⟩⟩ := hs
  · refine ⟨none, 0, 0, [], rfl, by simp, by simp, fun j hj => by simp at hj, ?_⟩
    exact h.pushX ok (ys := []) (nss := []) (Gs := []) rfl rfl rfl rfl (fun j c y g e1 => by simp at e1) (by simp) (by simp) (by simpa using hlen) hbytes (by simpa using hK)
  · have hn : ∀ c, c ∈ css → c.length = n := fun c hc => by
      obtain ⟨i, hi⟩ := List.getElem?_of_mem hc
      have hil : i < css.length := (List.getElem?_eq_some_iff.1 hi).1
      exact ok.len _ _ _ _ (g9 i c _ _ hi (List.getElem?_eq_getElem (by omega)) (List.getElem?_eq_getElem (by omega)))
    rw [g8] at s2
    refine ⟨_, ys.length, cap, css.flatten, rfl, by rw [flat_len _ hn, g6], ?_, ?_, ?_⟩
    · intro c hc
      obtain ⟨es, he, hce⟩ := List.mem_flatten.1 hc
      obtain ⟨i, hi⟩ := List.getElem?_of_mem he
      have hil : i < css.length := (List.getElem?_eq_some_iff.1 hi).1
      exact ok.one _ _ _ _ (g9 i es _ _ hi (List.getElem?_eq_getElem (by omega)) (List.getElem?_eq_getElem (by omega))) c hce
    · intro j hj
      refine ⟨_, rfl, ?_⟩
      rw [addr_add, get_row g2 g3, g4, List.getElem?_append_right (by omega), List.getElem?_append_left (by omega), ← List.getElem?_eq_getElem hj]
      congr 1; omega
    · refine h.pushX ok (ys := ys) (nss := css) (Gs := Gs) rfl g6 g7 rfl g9 (List.nodup_cons.1 s2).2 (fun i hi => hGF i (by rw [g8]; exact List.mem_cons_of_mem _ hi)) hlen hbytes fun v' F' σ' k0 k1 k2 k3 => hK v' F' σ' k0 k1 k2 fun i hi => ?_
      rcases k3 i hi with h | h | h
      · exact .inl h
      · exact .inr (.inl (by rw [g8]; exact List.mem_cons_of_mem _ h))
      · exact .inr (.inr h)
theorem OAcc.one {ety n bytes : Nat} {Rel : (Addr → Option Value) → List Value → α → Prop} {O : Vw → List Nat → List Value → α → Prop} (ok : OOk w0 n Rel O) {F f : List Nat} {v : Value} {xs : List α} {y : α} {es : List Value}
    (h : OAcc w0 ety n O σ F v xs) (hy : O σ f es y) (hf : ∀ i, i ∈ f → i ∉ F) (hlen : xs.length + 1 ≤ 1000000000000) (hbytes : bytes ≤ 140) {K : Value → Vw → Prop}
    (hK : ∀ v' F' σ', KeepsBut F σ σ' → OAcc w0 ety n O σ' F' v' (xs ++ [y]) → (∀ i, i ∈ F' → i ∈ F ∨ i ∈ f ∨ σ i = none) → K v' σ') : allOne es ∧ pAppend w0 ety n bytes v 1 es σ K :=
  OAcc.oneX ok h hy hf hlen hbytes fun v' F' σ' _ => hK v' F' σ'
theorem OAcc.all {ety n bytes : Nat} {Rel Rel0 : (Addr → Option Value) → List Value → α → Prop} {O : Vw → List Nat → List Value → α → Prop} (ok : OOk w0 n Rel O) {rd0 : Addr → Option Value} {F : List Nat} {v s : Value} {xs ys : List α}
    (h : OAcc w0 ety n O σ F v xs) (hs : RSl n Rel0 rd0 s ys) (hle : Le rd0 (Av.get w0 σ)) (hO : ∀ es y, Rel0 rd0 es y → O σ [] es y) (hlen : xs.length + ys.length ≤ 1000000000000) (hbytes : bytes ≤ 140) {K : Value → Vw → Prop}
    (hK : ∀ v' F' σ', KeepsBut F σ σ' → OAcc w0 ety n O σ' F' v' (xs ++ ys) → (∀ i, i ∈ F' → i ∈ F ∨ σ i = none) → K v' σ') : pAppendS w0 ety n bytes v s σ K :=
  OAcc.allX ok h hs hle hO hlen hbytes fun v' F' σ' _ => hK v' F' σ'
theorem OAcc.allOwn {ety n bytes : Nat} {Rel : (Addr → Option Value) → List Value → α → Prop} {O : Vw → List Nat → List Value → α → Prop} (ok : OOk w0 n Rel O) {F G : List Nat} {v s : Value} {xs ys : List α}
    (h : OAcc w0 ety n O σ F v xs) (hs : OSl w0 n O σ G s ys) (hGF : ∀ i, i ∈ G → i ∉ F) (hlen : xs.length + ys.length ≤ 1000000000000) (hbytes : bytes ≤ 140) {K : Value → Vw → Prop}
    (hK : ∀ v' F' σ', KeepsBut F σ σ' → OAcc w0 ety n O σ' F' v' (xs ++ ys) → (∀ i, i ∈ F' → i ∈ F ∨ i ∈ G ∨ σ i = none) → K v' σ') : pAppendS w0 ety n bytes v s σ K :=
  OAcc.allOwnX ok h hs hGF hlen hbytes fun v' F' σ' _ => hK v' F' σ'
end
end Go.Av

/- A part of a list that is read; slices of texts. -/
set_option linter.unusedVariables false
set_option linter.unusedSimpArgs false
namespace Go.Av
open Go Go.RowKit

section
variable {P : Program} {w0 : World} {σ σ' : Vw} {α : Type}

theorem RSl.slice {n : Nat} {R : (Addr → Option Value) → List Value → α → Prop} {rd : Addr → Option Value} {v : Value} {xs : List α} (h : RSl n R rd v xs) {lo hi : Option Value} {l u : Nat} (hl : boundOf 0 lo = some (l : Int)) (hu : boundOf xs.length hi = some (u : Int)) (hlu : l ≤ u) (hux : u ≤ xs.length) {K : Value → Prop}
    (hK : ∀ v', RSl n R rd v' ((xs.take u).drop l) → K v') : pSlice n v lo hi K := by
  obtain ⟨A, cap, rfl, h2, h3⟩ := h
  refine ⟨A, xs.length, cap, l, u, rfl, hl, hu, by omega, by omega, by omega, hK _ ?_⟩
  have hlen : ((xs.take u).drop l).length = u - l := by rw [List.length_drop, List.length_take]; omega
  simp only [Int.toNat_natCast]
  refine ⟨if cap = l then A else Option.map (fun x => x.add (l * n)) A, cap - l, by rw [hlen], by rw [hlen]; omega, fun j x hj => ?_⟩
  rw [List.getElem?_drop] at hj
  have hlt : l + j < u := by
    rcases Nat.lt_or_ge (l + j) u with h | h
    · exact h
    · rw [List.getElem?_eq_none (by rw [List.length_take]; omega)] at hj; cases hj
  rw [List.getElem?_take_of_lt hlt] at hj
  obtain ⟨a, es, rfl, g1, g2, g3⟩ := h3 _ x hj
  refine ⟨a.add (l * n), es, ?_, g1, fun i hi => ?_, g3⟩
  · rw [if_neg (by omega)]; rfl
  · rw [add_add, ← g2 i hi]
    congr 2
    rw [Nat.add_mul]; omega

/-- A field of an element is read. -/
theorem RSl.atp {n : Nat} {R : (Addr → Option Value) → List Value → α → Prop} {v : Value} {xs : List α} (h : RSl n R (Av.get w0 σ) v xs) {j : Nat} {x : α} (hj : xs[j]? = some x) {K : Value → (Nat → Value) → Prop} (hK : ∀ (p : Value) (g : Nat → Value), R (Av.get w0 σ) (expl g 0 n) x → K p g) :
    pIndexAddr n v (.int .i64 j) fun p => pLoad w0 n p σ (K p) := by
  have h' := h
  obtain ⟨A, cap, rfl, _, h3⟩ := h
  obtain ⟨a, es, rfl, h5, h6, h7⟩ := h3 j x hj
  have hlt : j < xs.length := (List.getElem?_eq_some_iff.1 hj).1
  refine ⟨a, xs.length, cap, .i64, j, rfl, rfl, by omega, by omega, a.add (j * n), fun i => es.getD i undef, rfl, fun i hi => ?_, hK _ _ ?_⟩
  · have := h6 i hi
    have hlt : i < es.length := by omega
    rw [add_add]
    show Av.get w0 σ (a.add (j * n + i)) = _
    rw [this, List.getElem?_eq_getElem hlt]
    simp only [List.getD_eq_getElem?_getD, List.getElem?_eq_getElem hlt, Option.getD_some]
  · have : expl (fun i => es.getD i undef) 0 n = es := by
      apply List.ext_getElem?
      intro i
      by_cases hi : i < n
      · rw [expl_get _ _ _ _ hi, Nat.zero_add, List.getD_eq_getElem?_getD]
        have hlt : i < es.length := by omega
        rw [List.getElem?_eq_getElem hlt]; rfl
      · rw [List.getElem?_eq_none (by rw [length_expl]; omega), List.getElem?_eq_none (by omega)]
    rw [this]; exact h7
theorem RSl.atfp {n : Nat} {R : (Addr → Option Value) → List Value → α → Prop} {v : Value} {xs : List α} (h : RSl n R (Av.get w0 σ) v xs) {j : Nat} {x : α} (hj : xs[j]? = some x) (o : Nat) (ho : o < n) {K : Value → (Nat → Value) → Prop} (hK : ∀ (q : Value) (es : List Value) (g : Nat → Value), R (Av.get w0 σ) es x → es[o]? = some (g 0) → K q g) :
    pIndexAddr n v (.int .i64 j) fun p => pField o p fun q => pLoad w0 1 q σ (K q) := by
  obtain ⟨A, cap, rfl, _, h3⟩ := h
  obtain ⟨a, es, rfl, h5, h6, h7⟩ := h3 j x hj
  have hlt : j < xs.length := (List.getElem?_eq_some_iff.1 hj).1
  refine ⟨a, xs.length, cap, .i64, j, rfl, rfl, by omega, by omega, a.add (j * n), rfl, (a.add (j * n)).add o, fun _ => es.getD o undef, rfl, fun i hi => ?_, hK _ es _ h7 ?_⟩
  · have e : i = 0 := by omega
    subst e
    have := h6 o ho
    rw [add_add, add_add, Nat.add_zero, this, List.getElem?_eq_getElem (by omega)]
    simp only [List.getD_eq_getElem?_getD, List.getElem?_eq_getElem (show o < es.length by omega), Option.getD_some]
  · simp only [List.getD_eq_getElem?_getD, List.getElem?_eq_getElem (show o < es.length by omega), Option.getD_some]

theorem RSl.atf {n : Nat} {R : (Addr → Option Value) → List Value → α → Prop} {v : Value} {xs : List α} (h : RSl n R (Av.get w0 σ) v xs) {j : Nat} {x : α} (hj : xs[j]? = some x) (o : Nat) (ho : o < n) {K : (Nat → Value) → Prop} (hK : ∀ (es : List Value) (g : Nat → Value), R (Av.get w0 σ) es x → es[o]? = some (g 0) → K g) :
    pIndexAddr n v (.int .i64 j) fun p => pField o p fun q => pLoad w0 1 q σ K :=
  h.atfp hj o ho fun q => hK

end
end Go.Av

/- Rows of our own: cells stored, an element taken out in place, the copy of two lists in any order. -/
set_option linter.unusedVariables false
set_option linter.unusedSimpArgs false
namespace Go.Av
open Go Go.RowKit

section
variable {P : Program} {w0 : World} {σ σ' : Vw} {α γ : Type}

theorem cell_store {b o : Nat} {r : Row} {A c C new : List Value} {K : Vw → Prop} (hr : σ b = some r) (hc : r.cells = A ++ (c ++ C)) (hA : A.length = o) (hl : c.length = new.length)
    (hK : K (σ.put b { r with cells := A ++ (new ++ C) })) : pStore (.pointer (some ⟨b, o, none⟩)) new σ K := by
  refine ⟨b, o, r, rfl, hr, by rw [hc]; simp only [List.length_append]; omega, ?_⟩
  rw [hc, ← hA, setAt_mid A c new C hl]
  exact hK

/-- An element of a list of our own is written, all its cells. -/
theorem OSl.store {n : Nat} {Rel : (Addr → Option Value) → List Value → α → Prop} {O : Vw → List Nat → List Value → α → Prop} (ok : OOk w0 n Rel O) {F : List Nat} {v : Value} {xs : List α} (h : OSl w0 n O σ F v xs) {j : Nat} {x y : α} {new : List Value} (hj : xs[j]? = some x)
    (hO : ∀ f c σ', O σ f c x → O σ' f new y) (hn : new.length = n) {K : Vw → Prop}
    (hK : ∀ σ', KeepsBut F σ σ' → OSl w0 n O σ' F v (xs.set j y) → K σ') : pIndexAddr n v (.int .i64 j) fun p => pStore p new σ K := by
  obtain ⟨b, o, f, c, A, C, r, hix, hb, hr, hc, hA, hOx, hbF, hf, hput⟩ := h.focus ok hj
  refine hix _ ?_
  have hcl := ok.len _ _ _ _ hOx
  refine cell_store hr hc hA (by rw [hcl, hn]) ?_
  exact hK _ (KeepsBut.put hbF) (hput _ new y _ put_at rfl (hO _ _ _ hOx) fun i hi hne _ => by simp [Vw.put, hne])

theorem fresh_in {F F' : List Nat} {σ s : Vw} (k : Keeps σ s) (hF : ∀ i, i ∈ F → σ i = none) (h : ∀ i, i ∈ F' → i ∈ F ∨ s i = none) : ∀ i, i ∈ F' → σ i = none := fun i hi => by
  rcases h i hi with e | e
  · exact hF i e
  · cases hs : σ i with
    | none => rfl
    | some r => rw [k i r hs] at e; cases e
/-! ### An element is taken out, in place -/
end
end Go.Av

/- What each function owes, reckoned out. MADE BY PROGRAM (emit.py). -/
set_option linter.unusedVariables false
namespace Go.Proofs.YtkbhjejalkbogaaGreat
open Go Go.Av

abbrev t_int : Nat := 3
abbrev t_uint8 : Nat := 5
abbrev t_string : Nat := 9
abbrev t_s_uint8 : Nat := 22
abbrev t_s_string : Nat := 23
abbrev t_impl_Tree : Nat := 26
abbrev t_impl_Mark : Nat := 31
abbrev t_p_impl_Tree : Nat := 73
abbrev t_spec_l12Look : Nat := 76
abbrev t_impl_Entry : Nat := 80
abbrev n_laws_FnTrailCost : Nat := 6
abbrev n_spec_DrawTrailDiff : Nat := 7
abbrev n_spec_DrawTrailAdd : Nat := 8
abbrev n_impl_TrailDiff : Nat := 9
abbrev n_spec_TrailDiff : Nat := 10
abbrev n_laws_wtEntries : Nat := 11
abbrev n_spec_TrailCovers : Nat := 12
abbrev n_impl_TrailAdd : Nat := 13
abbrev n_impl_TrailCovers : Nat := 14
abbrev n_laws_wuMarks : Nat := 26
abbrev n_spec_TrailAdd : Nat := 27
abbrev n_impl_TrailOk : Nat := 28
abbrev n_spec_TrailOk : Nat := 29
abbrev n_spec_DrawTrailOf : Nat := 30
abbrev n_impl_TrailOf : Nat := 31
abbrev n_spec_TrailOf : Nat := 32
abbrev n_laws_wuMarked : Nat := 33
abbrev n_impl_TrailBelow : Nat := 34
abbrev n_spec_TrailBelow : Nat := 35
abbrev n_impl_DiffWalk : Nat := 36
abbrev n_spec_l13Both : Nat := 37
abbrev n_spec_l1Open : Nat := 38
abbrev n_spec_l4Tree : Nat := 39
abbrev n_spec_l13Any : Nat := 40
abbrev n_spec_l13Mark : Nat := 41
abbrev n_impl_TreeOk : Nat := 42
abbrev n_impl_look : Nat := 43
abbrev n_spec_TreeOk : Nat := 44
abbrev n_p_spec_l12Look_at : Nat := 45
abbrev n_laws_wtTexts : Nat := 46
abbrev n_spec_l12Covers : Nat := 47
abbrev n_impl_markOk : Nat := 48
abbrev n_impl_add : Nat := 50
abbrev n_impl_covers : Nat := 51
abbrev n_spec_l11Copy : Nat := 66
abbrev n_spec_l11MarkOk : Nat := 67
abbrev n_spec_l11Put : Nat := 68
abbrev n_spec_l11Coarser : Nat := 69
abbrev n_slices_Compare_string_string : Nat := 70
abbrev n_impl_under : Nat := 71
abbrev n_spec_l11Less : Nat := 72
abbrev n_spec_l2Within : Nat := 73
abbrev n_spec_l2CallOk : Nat := 76
abbrev n_spec_l1At : Nat := 77
abbrev n_impl_both : Nat := 79
abbrev n_p_impl_Tree_at : Nat := 80
abbrev n_spec_l12Union : Nat := 81
abbrev n_impl_walk : Nat := 82
abbrev n_p_spec_l1Rd_pick : Nat := 83
abbrev n_spec_l4Spoil : Nat := 84
abbrev n_spec_l13Play : Nat := 85
abbrev n_spec_l4Path : Nat := 86
abbrev n_spec_l4Data : Nat := 87
abbrev n_spec_TreeDo : Nat := 88
abbrev n_spec_l4Calls : Nat := 89
abbrev n_spec_l13Trail : Nat := 90
abbrev n_spec_l13Spoil : Nat := 91
abbrev n_p_spec_l1Rd_of : Nat := 92
abbrev n_impl_Tree_sound : Nat := 93
abbrev n_impl_Tree_paths : Nat := 94
abbrev n_impl_fresh : Nat := 95
abbrev n_impl_gone : Nat := 96
abbrev n_impl_marked : Nat := 97
abbrev n_impl_changes : Nat := 98
abbrev n_impl_either : Nat := 99
abbrev n_impl_below : Nat := 100
abbrev n_impl_leads : Nat := 101
abbrev n_p_impl_Tree_kid : Nat := 102
abbrev n_spec_l1Parts : Nat := 103
abbrev n_spec_l1Count : Nat := 104
abbrev n_spec_l3New : Nat := 105
abbrev n_spec_l3Gone : Nat := 106
abbrev n_spec_l11Under : Nat := 107
abbrev n_spec_l3Walk : Nat := 108
abbrev n_spec_l11Marked : Nat := 109
abbrev n_spec_l3Part : Nat := 110
abbrev n_spec_l12Names : Nat := 111
abbrev n_spec_l3Path : Nat := 112
abbrev n_p_spec_l12Look_leads : Nat := 113
abbrev n_spec_l12Kid : Nat := 114
abbrev n_impl_namesOk : Nat := 115
abbrev n_impl_begins : Nat := 116
abbrev n_slices_SortFunc_impl_Mark_impl_Mark : Nat := 117
abbrev n_slices_Delete_impl_Mark_impl_Mark : Nat := 119
abbrev n_spec_l2PathOk : Nat := 120
abbrev n_cmp_Compare_string : Nat := 121
abbrev n_spec_l4Call : Nat := 123
abbrev n_spec_l1In : Nat := 125
abbrev n_spec_l1Find : Nat := 126
abbrev n_spec_l1Copy : Nat := 127
abbrev n_spec_l1Many : Nat := 128
abbrev n_spec_l1Dec : Nat := 129
abbrev n_spec_TrailDo : Nat := 130
abbrev n_spec_l4Name : Nat := 131
abbrev n_spec_l2Do : Nat := 132
abbrev n_impl_modeOk : Nat := 133
abbrev n_impl_nameOk : Nat := 134
abbrev n_impl_Tree_each : Nat := 135
abbrev n_impl_fresh_c1 : Nat := 136
abbrev n_slices_ContainsFunc_impl_Mark_impl_Mark : Nat := 137
abbrev n_impl_marked_c1 : Nat := 138
abbrev n_slices_Equal_string_string : Nat := 139
abbrev n_slices_Sort_string_string : Nat := 140
abbrev n_slices_Compact_string_string : Nat := 141
abbrev n_slices_Index_string_string : Nat := 142
abbrev n_spec_l1Plain : Nat := 143
abbrev n_spec_l11Same : Nat := 144
abbrev n_impl_within : Nat := 145
abbrev n_slices_pdqsortCmpFunc_impl_Mark : Nat := 146
abbrev n_spec_l1NameOk : Nat := 148
abbrev n_cmp_isNaN_string : Nat := 149
abbrev n_spec_l2Parent : Nat := 151
abbrev n_spec_l2Fits : Nat := 152
abbrev n_spec_l2Set : Nat := 153
abbrev n_spec_l2File : Nat := 154
abbrev n_spec_l2Rename : Nat := 155
abbrev n_slices_IndexFunc_impl_Mark_impl_Mark : Nat := 156
abbrev n_slices_insertionSortCmpFunc_impl_Mark : Nat := 158
abbrev n_slices_heapSortCmpFunc_impl_Mark : Nat := 159
abbrev n_slices_breakPatternsCmpFunc_impl_Mark : Nat := 160
abbrev n_slices_choosePivotCmpFunc_impl_Mark : Nat := 161
abbrev n_slices_reverseRangeCmpFunc_impl_Mark : Nat := 162
abbrev n_slices_partialInsertionSortCmpFunc_impl_Mark : Nat := 163
abbrev n_slices_partitionEqualCmpFunc_impl_Mark : Nat := 164
abbrev n_slices_partitionCmpFunc_impl_Mark : Nat := 165
abbrev n_spec_l2Write : Nat := 168
abbrev n_slices_nextPowerOfTwo : Nat := 179
abbrev n_p_slices_xorshift_Next : Nat := 180
theorem is_slices_Sort_string_string : ∃ fn, Tryz.prog.funcs[n_slices_Sort_string_string]? = some fn ∧ (fn.name == "runtime.NumGoroutine") = false ∧ fn.body.isNone = false := ⟨Tryz.f140, Tryz.func140, by kernel_rfl, by kernel_rfl⟩
theorem is_slices_Compact_string_string : ∃ fn, Tryz.prog.funcs[n_slices_Compact_string_string]? = some fn ∧ (fn.name == "runtime.NumGoroutine") = false ∧ fn.body.isNone = false := ⟨Tryz.f141, Tryz.func141, by kernel_rfl, by kernel_rfl⟩
end Go.Proofs.YtkbhjejalkbogaaGreat

/- What each function owes, reckoned out, part 1. MADE BY PROGRAM (emit.py). -/
set_option linter.unusedVariables false
namespace Go.Proofs.YtkbhjejalkbogaaGreat
open Go.Av renaming vget → G, cellOf → C, pVal → V, pBin → B, pIndexAddr → X, pLoad → L, pField → F, pIf → Q, pExtract → E, pAppend → A, pLen → N, pNew → W
open Go.Proofs.Tryz renaming prog → P
open Go Go.Av

/-- laws.FnTrailMore -/
def kp_laws_FnTrailMore : Nat → Keep
  | _ => ⟨[], [], [], .done, []⟩
def cs_laws_FnTrailAdd_1 (w0 : World) (l900 : List Value) (s901 : Vw) (R : Value → Vw → Prop) : Prop :=
  W w0 31 [G l900 4, G l900 5] s901 (fun n500 s501 => AC P w0 n_spec_TrailOk [.slice (some (Addr.mk n500 0 none)) 1 1] s501 fun v502 s503 => AC P w0 n_impl_TrailOk [G l900 2] s503 fun v504 s505 => Q v504 (pUn .not v502 fun v506 => Q v506 (AC P w0 n_impl_TrailAdd ([G l900 2, .agg (⟨[G l900 4, G l900 5]⟩)]) s505 fun v507 s508 => AC P w0 n_laws_wuMarks [v507, G l900 2] s508 fun v509 s510 => R v509 s510) (AC P w0 n_laws_wuMarked [G l900 2, G l900 4] s505 fun v511 s512 => Q v511 (AC P w0 n_impl_TrailAdd ([G l900 2, .agg (⟨[G l900 4, G l900 5]⟩)]) s512 fun v513 s514 => AC P w0 n_laws_wuMarks [v513, G l900 2] s514 fun v515 s516 => R v515 s516) (R (.bool false) s512))) (R (.bool false) s505))
def vc_laws_FnTrailAdd (w0 : World) (a0 a1 : Value) (σ : Vw) (R : Value → Vw → Prop) : Prop :=
  N a0 fun v0 => B P 3 .gtr v0 (.int .i64 1048576) fun v1 => Q v1 (R (.bool true) σ) (N a1 fun v2 => B P 3 .gtr v2 (.int .i64 1048576) fun v3 => Q v3 (R (.bool true) σ) (AC P w0 n_spec_DrawTrailAdd [a0] σ fun v4 s5 => E v4 0 fun v6 => E v4 1 fun v7 => V true 2 v7 (AC P w0 n_impl_TrailAdd ([v6, .agg (⟨[C v7 0, C v7 1]⟩)]) s5 fun v8 s9 => AC P w0 n_spec_TrailAdd ([v6, .agg (⟨[C v7 0, C v7 1]⟩)]) s9 fun v10 s11 => AC P w0 n_laws_wuMarks [v8, v10] s11 fun v12 s13 => pUn .not v12 fun v14 => Q v14 (R (.bool false) s13) (AC P w0 n_impl_TrailOk [v6] s13 fun v15 s16 => AC P w0 n_spec_TrailOk [v6] s16 fun v17 s18 => B P 4 .neq v15 v17 fun v19 => Q v19 (R (.bool false) s18) (AC P w0 n_spec_DrawTrailOf [a1] s18 fun v20 s21 => E v20 0 fun v22 => E v20 1 fun v23 => V true 5 v22 (V true 5 v23 (AC P w0 n_impl_TrailOf ([.agg (⟨[C v22 0, C v22 1, C v22 2, C v22 3, C v22 4]⟩), .agg (⟨[C v23 0, C v23 1, C v23 2, C v23 3, C v23 4]⟩)]) s21 fun v24 s25 => AC P w0 n_spec_TrailOf ([.agg (⟨[C v22 0, C v22 1, C v22 2, C v22 3, C v22 4]⟩), .agg (⟨[C v23 0, C v23 1, C v23 2, C v23 3, C v23 4]⟩)]) s25 fun v26 s27 => AC P w0 n_laws_wuMarks [v24, v26] s27 fun v28 s29 => pUn .not v28 fun v30 => Q v30 (R (.bool false) s29) (AC P w0 n_spec_TrailOk [v6] s29 fun v31 s32 => pUn .not v31 fun v33 => Q v33 (N v8 fun v34 => B P 3 .eql v34 (.int .i64 0) fun v35 => R v35 s32) (pLoop (fun l36 K37 s38 => N (G l36 1) fun v39 => B P 3 .lss (G l36 3) v39 fun v40 => Q v40 (X 2 (G l36 1) (G l36 3) fun v41 => F 0 v41 fun v42 => L w0 1 v42 s38 fun g43 => AC P w0 n_laws_wuMarked [G l36 2, g43 0] s38 fun v44 s45 => pUn .not v44 fun v46 => Q v46 (K37 .ret [.bool false, G l36 1, G l36 2, G l36 3, G l36 4, G l36 5] s45) (B P 3 .add (G l36 3) (.int .i64 1) fun v47 => K37 .normal [G l36 0, G l36 1, G l36 2, v47, G l36 4, G l36 5] s45)) (K37 (.exit 0) [G l36 0, G l36 1, G l36 2, G l36 3, G l36 4, G l36 5] s38)) [.bool false, v6, v8, .int .i64 0, C v7 0, C v7 1] s32 fun x48 l49 s50 => match x48 with | .normal => V true 2 (.agg (⟨[G l49 4, G l49 5]⟩)) (cs_laws_FnTrailAdd_1 w0 l49 s50 R) | .ret => R (G l49 0) s50 | .exit i68 => (match Nat.beq i68 0 with | true => V true 2 (.agg (⟨[G l49 4, G l49 5]⟩)) (cs_laws_FnTrailAdd_1 w0 l49 s50 R) | false => False))))))))))

/-- laws.FnTrailCost -/
def kp_laws_FnTrailCost : Nat → Keep
  | _ => ⟨[], [], [], .done, []⟩
def esc_laws_FnTrailCost : Nat → Bool
  | _ => false
def vc_laws_FnTrailCost (w0 : World) (a0 : Value) (σ : Vw) (R : Value → Vw → Prop) : Prop :=
  N a0 fun v0 => B P 3 .gtr v0 (.int .i64 1048576) fun v1 => Q v1 (R (.bool true) σ) (AC P w0 n_spec_DrawTrailDiff [a0] σ fun v2 s3 => E v2 0 fun v4 => E v2 1 fun v5 => E v2 2 fun v6 => V true 5 v4 (V true 5 v5 (AC P w0 n_impl_TrailDiff ([.agg (⟨[C v4 0, C v4 1, C v4 2, C v4 3, C v4 4]⟩), .agg (⟨[C v5 0, C v5 1, C v5 2, C v5 3, C v5 4]⟩), v6]) s3 fun v7 s8 => E v7 0 fun v9 => E v7 1 fun v10 => AC P w0 n_spec_TrailDiff ([.agg (⟨[C v4 0, C v4 1, C v4 2, C v4 3, C v4 4]⟩), .agg (⟨[C v5 0, C v5 1, C v5 2, C v5 3, C v5 4]⟩), v6]) s8 fun v11 s12 => E v11 0 fun v13 => E v11 1 fun v14 => AC P w0 n_impl_TrailBelow ([.agg (⟨[C v4 0, C v4 1, C v4 2, C v4 3, C v4 4]⟩), .agg (⟨[C v5 0, C v5 1, C v5 2, C v5 3, C v5 4]⟩), v6]) s12 fun v15 s16 => AC P w0 n_impl_TrailCovers ([.agg (⟨[C v4 0, C v4 1, C v4 2, C v4 3, C v4 4]⟩), .agg (⟨[C v5 0, C v5 1, C v5 2, C v5 3, C v5 4]⟩), v6]) s16 fun v17 s18 => B P 3 .neq v10 v14 fun v19 => Q v19 (R (.bool false) s18) (AC P w0 n_laws_wtEntries [v9, v13] s18 fun v20 s21 => pUn .not v20 fun v22 => Q v22 (R (.bool false) s21) (AC P w0 n_spec_TrailBelow ([.agg (⟨[C v4 0, C v4 1, C v4 2, C v4 3, C v4 4]⟩), .agg (⟨[C v5 0, C v5 1, C v5 2, C v5 3, C v5 4]⟩), v6]) s21 fun v23 s24 => B P 3 .neq v15 v23 fun v25 => Q v25 (R (.bool false) s24) (AC P w0 n_spec_TrailCovers ([.agg (⟨[C v4 0, C v4 1, C v4 2, C v4 3, C v4 4]⟩), .agg (⟨[C v5 0, C v5 1, C v5 2, C v5 3, C v5 4]⟩), v6]) s24 fun v26 s27 => B P 4 .neq v17 v26 fun v28 => Q v28 (R (.bool false) s27) (pUn .not v17 fun v29 => Q v29 (R (.bool true) s27) (AC P w0 n_impl_DiffWalk ([.agg (⟨[C v4 0, C v4 1, C v4 2, C v4 3, C v4 4]⟩), .agg (⟨[C v5 0, C v5 1, C v5 2, C v5 3, C v5 4]⟩)]) s27 fun v30 s31 => AC P w0 n_laws_wtEntries [v9, v30] s31 fun v32 s33 => Q v32 (N v6 fun v34 => B P 3 .mul (.int .i64 2) v34 fun v35 => B P 3 .mul v35 (.int .i64 4) fun v36 => B P 3 .add v36 v15 fun v37 => B P 3 .leq v10 v37 fun v38 => R v38 s33) (R (.bool false) s33)))))))))
theorem vc_laws_FnTrailCost_eq (w0 : World) (a0 : Value) (σ : Vw) (R : Value → Vw → Prop) : vc_laws_FnTrailCost w0 a0 σ R = den Tryz.prog w0 kp_laws_FnTrailCost esc_laws_FnTrailCost (Tryz.f6.body.getD .skip) (entry Tryz.f6.ntmps [a0]) σ (retK Tryz.prog Tryz.f6.results.toList R) := by kernel_rfl
theorem ac_laws_FnTrailCost {w0 : World} {a0 : Value} {σ : Vw} {R : Value → Vw → Prop} (h : vc_laws_FnTrailCost w0 a0 σ R) : AC Tryz.prog w0 n_laws_FnTrailCost [a0] σ R := by
  refine ac_rule (fn := Tryz.f6) (c := Tryz.f6.body.getD .skip) kp_laws_FnTrailCost esc_laws_FnTrailCost Tryz.func6 (by kernel_rfl) (by kernel_rfl) ?_
  rw [← vc_laws_FnTrailCost_eq]
  exact h

/-- spec.DrawTrailDiff -/
def kp_spec_DrawTrailDiff : Nat → Keep
  | _ => ⟨[], [], [], .done, []⟩
def esc_spec_DrawTrailDiff : Nat → Bool
  | _ => false
def vc_spec_DrawTrailDiff (w0 : World) (a0 : Value) (σ : Vw) (R : Value → Vw → Prop) : Prop :=
  AC P w0 n_spec_l1Open [a0] σ fun v0 s1 => AC P w0 n_spec_l13Both [v0] s1 fun v2 s3 => E v2 0 fun v4 => E v2 1 fun v5 => E v2 2 fun v6 => V true 5 v4 (V true 5 v5 (R (.tuple (⟨[.agg (⟨[C v4 0, C v4 1, C v4 2, C v4 3, C v4 4]⟩), .agg (⟨[C v5 0, C v5 1, C v5 2, C v5 3, C v5 4]⟩), v6]⟩)) s3))
theorem vc_spec_DrawTrailDiff_eq (w0 : World) (a0 : Value) (σ : Vw) (R : Value → Vw → Prop) : vc_spec_DrawTrailDiff w0 a0 σ R = den Tryz.prog w0 kp_spec_DrawTrailDiff esc_spec_DrawTrailDiff (Tryz.f7.body.getD .skip) (entry Tryz.f7.ntmps [a0]) σ (retK Tryz.prog Tryz.f7.results.toList R) := by kernel_rfl
theorem ac_spec_DrawTrailDiff {w0 : World} {a0 : Value} {σ : Vw} {R : Value → Vw → Prop} (h : vc_spec_DrawTrailDiff w0 a0 σ R) : AC Tryz.prog w0 n_spec_DrawTrailDiff [a0] σ R := by
  refine ac_rule (fn := Tryz.f7) (c := Tryz.f7.body.getD .skip) kp_spec_DrawTrailDiff esc_spec_DrawTrailDiff Tryz.func7 (by kernel_rfl) (by kernel_rfl) ?_
  rw [← vc_spec_DrawTrailDiff_eq]
  exact h

/-- impl.TrailDiff -/
def kp_impl_TrailDiff : Nat → Keep
  | _ => ⟨[], [], [], .done, []⟩
def esc_impl_TrailDiff : Nat → Bool
  | 3 => true
  | 4 => true
  | 26 => true
  | _ => false
def vc_impl_TrailDiff (w0 : World) (a0 a1 a2 : Value) (σ : Vw) (R : Value → Vw → Prop) : Prop :=
  V true 5 a0 (W w0 26 [C a0 0, C a0 1, C a0 2, C a0 3, C a0 4] σ fun n0 s1 => V true 5 a1 (W w0 26 [C a1 0, C a1 1, C a1 2, C a1 3, C a1 4] s1 fun n2 s3 => L w0 5 (.pointer (some (Addr.mk n0 0 none))) s3 fun g4 => AC P w0 n_impl_TreeOk ([.agg (⟨[g4 0, g4 1, g4 2, g4 3, g4 4]⟩)]) s3 fun v5 s6 => pUn .not v5 fun v7 => Q v7 (W w0 80 [] s6 fun n8 s9 => R (.tuple (⟨[.slice (some (Addr.mk n8 0 none)) 0 0, .int .i64 0]⟩)) s9) (L w0 5 (.pointer (some (Addr.mk n2 0 none))) s6 fun g10 => AC P w0 n_impl_TreeOk ([.agg (⟨[g10 0, g10 1, g10 2, g10 3, g10 4]⟩)]) s6 fun v11 s12 => pUn .not v11 fun v13 => Q v13 (W w0 80 [] s12 fun n14 s15 => R (.tuple (⟨[.slice (some (Addr.mk n14 0 none)) 0 0, .int .i64 0]⟩)) s15) (AC P w0 n_impl_TrailOk [a2] s12 fun v16 s17 => pUn .not v16 fun v18 => Q v18 (W w0 80 [] s17 fun n19 s20 => R (.tuple (⟨[.slice (some (Addr.mk n19 0 none)) 0 0, .int .i64 0]⟩)) s20) (N a2 fun v21 => B P 3 .eql v21 (.int .i64 0) fun v22 => Q v22 (W w0 80 [] s17 fun n23 s24 => R (.tuple (⟨[.slice (some (Addr.mk n23 0 none)) 0 0, .int .i64 0]⟩)) s24) (AC P w0 n_impl_look [.slice none 0 0, .pointer (some (Addr.mk n0 0 none)), .pointer (some (Addr.mk n2 0 none)), a2] s17 fun v25 s26 => E v25 0 fun v27 => E v25 1 fun v28 => R (.tuple (⟨[v27, v28]⟩)) s26))))))
theorem vc_impl_TrailDiff_eq (w0 : World) (a0 a1 a2 : Value) (σ : Vw) (R : Value → Vw → Prop) : vc_impl_TrailDiff w0 a0 a1 a2 σ R = den Tryz.prog w0 kp_impl_TrailDiff esc_impl_TrailDiff (Tryz.f9.body.getD .skip) (entry Tryz.f9.ntmps [a0, a1, a2]) σ (retK Tryz.prog Tryz.f9.results.toList R) := by kernel_rfl
theorem ac_impl_TrailDiff {w0 : World} {a0 a1 a2 : Value} {σ : Vw} {R : Value → Vw → Prop} (h : vc_impl_TrailDiff w0 a0 a1 a2 σ R) : AC Tryz.prog w0 n_impl_TrailDiff [a0, a1, a2] σ R := by
  refine ac_rule (fn := Tryz.f9) (c := Tryz.f9.body.getD .skip) kp_impl_TrailDiff esc_impl_TrailDiff Tryz.func9 (by kernel_rfl) (by kernel_rfl) ?_
  rw [← vc_impl_TrailDiff_eq]
  exact h

/-- spec.TrailDiff -/
def kp_spec_TrailDiff : Nat → Keep
  | 6 => ⟨[], [], [], .step 0 (.step 1 (.step 2 (.step 3 (.step 4 (.step 5 (.step 6 (.step 7 (.step 8 (.step 9 (.done)))))))))), [(1, [0]), (2, [0, 1]), (3, [0, 1, 2]), (5, [4]), (6, [4, 5]), (7, [4, 5, 6]), (8, [0, 1, 2, 3]), (9, [0, 1, 2, 3, 4, 5, 6, 7, 8])]⟩
  | _ => ⟨[], [], [], .done, []⟩
def esc_spec_TrailDiff : Nat → Bool
  | 22 => true
  | 24 => true
  | 26 => true
  | 31 => true
  | _ => false
def vc_spec_TrailDiff (w0 : World) (a0 a1 a2 : Value) (σ : Vw) (R : Value → Vw → Prop) : Prop :=
  V true 5 a0 (V true 5 a1 (AC P w0 n_spec_TreeOk ([.agg (⟨[C a0 0, C a0 1, C a0 2, C a0 3, C a0 4]⟩)]) σ fun v0 s1 => pUn .not v0 fun v2 => Q v2 (W w0 80 [] s1 fun n3 s4 => R (.tuple (⟨[.slice (some (Addr.mk n3 0 none)) 0 0, .int .i64 0]⟩)) s4) (AC P w0 n_spec_TreeOk ([.agg (⟨[C a1 0, C a1 1, C a1 2, C a1 3, C a1 4]⟩)]) s1 fun v5 s6 => pUn .not v5 fun v7 => Q v7 (W w0 80 [] s6 fun n8 s9 => R (.tuple (⟨[.slice (some (Addr.mk n8 0 none)) 0 0, .int .i64 0]⟩)) s9) (AC P w0 n_spec_TrailOk [a2] s6 fun v10 s11 => pUn .not v10 fun v12 => Q v12 (W w0 80 [] s11 fun n13 s14 => R (.tuple (⟨[.slice (some (Addr.mk n13 0 none)) 0 0, .int .i64 0]⟩)) s14) (W w0 80 [] s11 fun n15 s16 => V false 1 a2 (V false 1 (.slice (some (Addr.mk n15 0 none)) 0 0) (V true 3 (.agg (⟨[a2, .slice (some (Addr.mk n15 0 none)) 0 0, .int .i64 0]⟩)) (W w0 76 [a2, .slice (some (Addr.mk n15 0 none)) 0 0, .int .i64 0] s16 fun n17 s18 => N a2 fun v19 => B P 3 .gtr v19 (.int .i64 0) fun v20 => Q v20 (W w0 9 [] s18 fun n21 s22 => AC P w0 n_p_spec_l12Look_at ([.pointer (some (Addr.mk n17 0 none)), .slice (some (Addr.mk n21 0 none)) 0 0, .agg (⟨[C a0 0, C a0 1, C a0 2, C a0 3, C a0 4]⟩), .bool true, .agg (⟨[C a1 0, C a1 1, C a1 2, C a1 3, C a1 4]⟩), .bool true]) s22 fun v23 s24 => pNil (.pointer (some (Addr.mk n17 0 none))) (F 1 (.pointer (some (Addr.mk n17 0 none))) fun v25 => L w0 1 v25 s24 fun g26 => pNil (.pointer (some (Addr.mk n17 0 none))) (F 2 (.pointer (some (Addr.mk n17 0 none))) fun v27 => L w0 1 v27 s24 fun g28 => R (.tuple (⟨[g26 0, g28 0]⟩)) s24))) (pNil (.pointer (some (Addr.mk n17 0 none))) (F 1 (.pointer (some (Addr.mk n17 0 none))) fun v29 => L w0 1 v29 s18 fun g30 => pNil (.pointer (some (Addr.mk n17 0 none))) (F 2 (.pointer (some (Addr.mk n17 0 none))) fun v31 => L w0 1 v31 s18 fun g32 => R (.tuple (⟨[g30 0, g32 0]⟩)) s18)))))))))))
theorem vc_spec_TrailDiff_eq (w0 : World) (a0 a1 a2 : Value) (σ : Vw) (R : Value → Vw → Prop) : vc_spec_TrailDiff w0 a0 a1 a2 σ R = den Tryz.prog w0 kp_spec_TrailDiff esc_spec_TrailDiff (Tryz.f10.body.getD .skip) (entry Tryz.f10.ntmps [a0, a1, a2]) σ (retK Tryz.prog Tryz.f10.results.toList R) := by kernel_rfl
theorem ac_spec_TrailDiff {w0 : World} {a0 a1 a2 : Value} {σ : Vw} {R : Value → Vw → Prop} (h : vc_spec_TrailDiff w0 a0 a1 a2 σ R) : AC Tryz.prog w0 n_spec_TrailDiff [a0, a1, a2] σ R := by
  refine ac_rule (fn := Tryz.f10) (c := Tryz.f10.body.getD .skip) kp_spec_TrailDiff esc_spec_TrailDiff Tryz.func10 (by kernel_rfl) (by kernel_rfl) ?_
  rw [← vc_spec_TrailDiff_eq]
  exact h

/-- laws.wtEntries -/
def kp_laws_wtEntries : Nat → Keep
  | 4 => ⟨[0, 1, 4, 5], [], [], .done, []⟩
  | 6 => ⟨[], [], [], .step 0 (.step 1 (.step 2 (.step 3 (.step 4 (.step 5 (.step 6 (.step 7 (.step 8 (.step 9 (.step 10 (.step 11 (.step 12 (.step 13 (.step 14 (.step 15 (.step 16 (.step 17 (.step 18 (.step 19 (.step 20 (.step 21 (.step 22 (.step 23 (.step 24 (.step 25 (.step 26 (.step 27 (.step 28 (.step 29 (.step 30 (.step 31 (.step 32 (.step 33 (.step 34 (.step 35 (.step 36 (.step 37 (.step 38 (.step 39 (.step 40 (.step 41 (.step 42 (.step 43 (.step 44 (.step 45 (.step 46 (.step 47 (.step 48 (.step 49 (.step 50 (.step 51 (.step 52 (.step 53 (.step 54 (.step 55 (.step 56 (.step 57 (.step 58 (.step 59 (.step 60 (.step 61 (.step 62 (.step 63 (.done)))))))))))))))))))))))))))))))))))))))))))))))))))))))))))))))), [(2, [0, 1]), (3, [0, 1, 2]), (4, [0, 1, 2, 3]), (7, [5, 6]), (8, [5, 6, 7]), (9, [5, 6, 7, 8]), (10, [0, 1, 2, 3, 4, 5, 6, 7, 8, 9]), (11, [0, 1, 2, 3, 4, 5, 6, 7, 8, 9, 10]), (12, [0, 1, 2, 3, 4, 5, 6, 7, 8, 9, 10, 11]), (13, [0, 1, 2, 3, 4, 5, 6, 7, 8, 9, 10, 11, 12]), (14, [0, 1, 2, 3, 4, 5, 6, 7, 8, 9, 10, 11, 12]), (15, [0, 1, 2, 3, 4, 5, 6, 7, 8, 9, 10, 11, 12, 13, 14]), (16, [0, 1, 2, 3, 4, 5, 6, 7, 8, 9, 10, 11, 12, 13, 14, 15]), (17, [0, 1, 2, 3, 4, 5, 6, 7, 8, 9, 10, 11, 12, 13, 14, 15, 16]), (18, [0, 1, 2, 3, 4, 5, 6, 7, 8, 9, 10, 11, 12]), (19, [0, 1, 2, 3, 4, 5, 6, 7, 8, 9, 10, 11, 12]), (20, [0, 1, 2, 3, 4, 5, 6, 7, 8, 9, 10, 11, 12, 18, 19]), (21, [0, 1, 2, 3, 4, 5, 6, 7, 8, 9, 10, 11, 12, 18, 19, 20]), (22, [0, 1, 2, 3, 4, 5, 6, 7, 8, 9, 10, 11, 12, 18, 19, 20, 21]), (23, [0, 1, 2, 3, 4, 5, 6, 7, 8, 9, 10, 11, 12, 13, 14, 15, 16, 17, 18, 19, 20, 21, 22]), (24, [0, 1, 2, 3, 4, 5, 6, 7, 8, 9, 10, 11, 12, 13, 14, 15, 16, 17, 18, 19, 20, 21, 22, 23]), (25, [0, 1, 2, 3, 4, 5, 6, 7, 8, 9, 10, 11, 12, 13, 14, 15, 16, 17, 18, 19, 20, 21, 22, 23, 24]), (26, [0, 1, 2, 3, 4, 5, 6, 7, 8, 9, 10, 11, 12, 13, 14, 15, 16, 17, 18, 19, 20, 21, 22, 23, 24, 25]), (27, [0, 1, 2, 3, 4, 5, 6, 7, 8, 9, 10, 11, 12, 13, 14, 15, 16, 17, 18, 19, 20, 21, 22, 23, 24, 25]), (28, [0, 1, 2, 3, 4, 5, 6, 7, 8, 9, 10, 11, 12, 13, 14, 15, 16, 17, 18, 19, 20, 21, 22, 23, 24, 25, 26, 27]), (29, [0, 1, 2, 3, 4, 5, 6, 7, 8, 9, 10, 11, 12, 13, 14, 15, 16, 17, 18, 19, 20, 21, 22, 23, 24, 25, 26, 27, 28]), (30, [0, 1, 2, 3, 4, 5, 6, 7, 8, 9, 10, 11, 12, 13, 14, 15, 16, 17, 18, 19, 20, 21, 22, 23, 24, 25, 26, 27, 28, 29]), (31, [0, 1, 2, 3, 4, 5, 6, 7, 8, 9, 10, 11, 12, 13, 14, 15, 16, 17, 18, 19, 20, 21, 22, 23, 24, 25]), (32, [0, 1, 2, 3, 4, 5, 6, 7, 8, 9, 10, 11, 12, 13, 14, 15, 16, 17, 18, 19, 20, 21, 22, 23, 24, 25]), (33, [0, 1, 2, 3, 4, 5, 6, 7, 8, 9, 10, 11, 12, 13, 14, 15, 16, 17, 18, 19, 20, 21, 22, 23, 24, 25, 31, 32]), (34, [0, 1, 2, 3, 4, 5, 6, 7, 8, 9, 10, 11, 12, 13, 14, 15, 16, 17, 18, 19, 20, 21, 22, 23, 24, 25, 31, 32, 33]), (35, [0, 1, 2, 3, 4, 5, 6, 7, 8, 9, 10, 11, 12, 13, 14, 15, 16, 17, 18, 19, 20, 21, 22, 23, 24, 25, 31, 32, 33, 34]), (36, [0, 1, 2, 3, 4, 5, 6, 7, 8, 9, 10, 11, 12, 13, 14, 15, 16, 17, 18, 19, 20, 21, 22, 23, 24, 25, 26, 27, 28, 29, 30, 31, 32, 33, 34, 35]), (37, [0, 1, 2, 3, 4, 5, 6, 7, 8, 9, 10, 11, 12, 13, 14, 15, 16, 17, 18, 19, 20, 21, 22, 23, 24, 25, 26, 27, 28, 29, 30, 31, 32, 33, 34, 35, 36]), (38, [0, 1, 2, 3, 4, 5, 6, 7, 8, 9, 10, 11, 12, 13, 14, 15, 16, 17, 18, 19, 20, 21, 22, 23, 24, 25, 26, 27, 28, 29, 30, 31, 32, 33, 34, 35, 36, 37]), (39, [0, 1, 2, 3, 4, 5, 6, 7, 8, 9, 10, 11, 12, 13, 14, 15, 16, 17, 18, 19, 20, 21, 22, 23, 24, 25, 26, 27, 28, 29, 30, 31, 32, 33, 34, 35, 36, 37, 38]), (40, [0, 1, 2, 3, 4, 5, 6, 7, 8, 9, 10, 11, 12, 13, 14, 15, 16, 17, 18, 19, 20, 21, 22, 23, 24, 25, 26, 27, 28, 29, 30, 31, 32, 33, 34, 35, 36, 37, 38]), (41, [0, 1, 2, 3, 4, 5, 6, 7, 8, 9, 10, 11, 12, 13, 14, 15, 16, 17, 18, 19, 20, 21, 22, 23, 24, 25, 26, 27, 28, 29, 30, 31, 32, 33, 34, 35, 36, 37, 38, 39, 40]), (42, [0, 1, 2, 3, 4, 5, 6, 7, 8, 9, 10, 11, 12, 13, 14, 15, 16, 17, 18, 19, 20, 21, 22, 23, 24, 25, 26, 27, 28, 29, 30, 31, 32, 33, 34, 35, 36, 37, 38, 39, 40, 41]), (43, [0, 1, 2, 3, 4, 5, 6, 7, 8, 9, 10, 11, 12, 13, 14, 15, 16, 17, 18, 19, 20, 21, 22, 23, 24, 25, 26, 27, 28, 29, 30, 31, 32, 33, 34, 35, 36, 37, 38, 39, 40, 41, 42]), (44, [0, 1, 2, 3, 4, 5, 6, 7, 8, 9, 10, 11, 12, 13, 14, 15, 16, 17, 18, 19, 20, 21, 22, 23, 24, 25, 26, 27, 28, 29, 30, 31, 32, 33, 34, 35, 36, 37, 38]), (45, [0, 1, 2, 3, 4, 5, 6, 7, 8, 9, 10, 11, 12, 13, 14, 15, 16, 17, 18, 19, 20, 21, 22, 23, 24, 25, 26, 27, 28, 29, 30, 31, 32, 33, 34, 35, 36, 37, 38]), (46, [0, 1, 2, 3, 4, 5, 6, 7, 8, 9, 10, 11, 12, 13, 14, 15, 16, 17, 18, 19, 20, 21, 22, 23, 24, 25, 26, 27, 28, 29, 30, 31, 32, 33, 34, 35, 36, 37, 38, 44, 45]), (47, [0, 1, 2, 3, 4, 5, 6, 7, 8, 9, 10, 11, 12, 13, 14, 15, 16, 17, 18, 19, 20, 21, 22, 23, 24, 25, 26, 27, 28, 29, 30, 31, 32, 33, 34, 35, 36, 37, 38, 44, 45, 46]), (48, [0, 1, 2, 3, 4, 5, 6, 7, 8, 9, 10, 11, 12, 13, 14, 15, 16, 17, 18, 19, 20, 21, 22, 23, 24, 25, 26, 27, 28, 29, 30, 31, 32, 33, 34, 35, 36, 37, 38, 44, 45, 46, 47]), (49, [0, 1, 2, 3, 4, 5, 6, 7, 8, 9, 10, 11, 12, 13, 14, 15, 16, 17, 18, 19, 20, 21, 22, 23, 24, 25, 26, 27, 28, 29, 30, 31, 32, 33, 34, 35, 36, 37, 38, 39, 40, 41, 42, 43, 44, 45, 46, 47, 48]), (50, [0, 1, 2, 3, 4, 5, 6, 7, 8, 9, 10, 11, 12, 13, 14, 15, 16, 17, 18, 19, 20, 21, 22, 23, 24, 25, 26, 27, 28, 29, 30, 31, 32, 33, 34, 35, 36, 37, 38, 39, 40, 41, 42, 43, 44, 45, 46, 47, 48, 49]), (51, [0, 1, 2, 3, 4, 5, 6, 7, 8, 9, 10, 11, 12, 13, 14, 15, 16, 17, 18, 19, 20, 21, 22, 23, 24, 25, 26, 27, 28, 29, 30, 31, 32, 33, 34, 35, 36, 37, 38, 39, 40, 41, 42, 43, 44, 45, 46, 47, 48, 49, 50]), (52, [0, 1, 2, 3, 4, 5, 6, 7, 8, 9, 10, 11, 12, 13, 14, 15, 16, 17, 18, 19, 20, 21, 22, 23, 24, 25, 26, 27, 28, 29, 30, 31, 32, 33, 34, 35, 36, 37, 38, 39, 40, 41, 42, 43, 44, 45, 46, 47, 48, 49, 50, 51]), (53, [0, 1, 2, 3, 4, 5, 6, 7, 8, 9, 10, 11, 12, 13, 14, 15, 16, 17, 18, 19, 20, 21, 22, 23, 24, 25, 26, 27, 28, 29, 30, 31, 32, 33, 34, 35, 36, 37, 38, 39, 40, 41, 42, 43, 44, 45, 46, 47, 48, 49, 50, 51]), (54, [0, 1, 2, 3, 4, 5, 6, 7, 8, 9, 10, 11, 12, 13, 14, 15, 16, 17, 18, 19, 20, 21, 22, 23, 24, 25, 26, 27, 28, 29, 30, 31, 32, 33, 34, 35, 36, 37, 38, 39, 40, 41, 42, 43, 44, 45, 46, 47, 48, 49, 50, 51, 52, 53]), (55, [0, 1, 2, 3, 4, 5, 6, 7, 8, 9, 10, 11, 12, 13, 14, 15, 16, 17, 18, 19, 20, 21, 22, 23, 24, 25, 26, 27, 28, 29, 30, 31, 32, 33, 34, 35, 36, 37, 38, 39, 40, 41, 42, 43, 44, 45, 46, 47, 48, 49, 50, 51, 52, 53, 54]), (56, [0, 1, 2, 3, 4, 5, 6, 7, 8, 9, 10, 11, 12, 13, 14, 15, 16, 17, 18, 19, 20, 21, 22, 23, 24, 25, 26, 27, 28, 29, 30, 31, 32, 33, 34, 35, 36, 37, 38, 39, 40, 41, 42, 43, 44, 45, 46, 47, 48, 49, 50, 51, 52, 53, 54, 55]), (57, [0, 1, 2, 3, 4, 5, 6, 7, 8, 9, 10, 11, 12, 13, 14, 15, 16, 17, 18, 19, 20, 21, 22, 23, 24, 25, 26, 27, 28, 29, 30, 31, 32, 33, 34, 35, 36, 37, 38, 39, 40, 41, 42, 43, 44, 45, 46, 47, 48, 49, 50, 51]), (58, [0, 1, 2, 3, 4, 5, 6, 7, 8, 9, 10, 11, 12, 13, 14, 15, 16, 17, 18, 19, 20, 21, 22, 23, 24, 25, 26, 27, 28, 29, 30, 31, 32, 33, 34, 35, 36, 37, 38, 39, 40, 41, 42, 43, 44, 45, 46, 47, 48, 49, 50, 51]), (59, [0, 1, 2, 3, 4, 5, 6, 7, 8, 9, 10, 11, 12, 13, 14, 15, 16, 17, 18, 19, 20, 21, 22, 23, 24, 25, 26, 27, 28, 29, 30, 31, 32, 33, 34, 35, 36, 37, 38, 39, 40, 41, 42, 43, 44, 45, 46, 47, 48, 49, 50, 51, 57, 58]), (60, [0, 1, 2, 3, 4, 5, 6, 7, 8, 9, 10, 11, 12, 13, 14, 15, 16, 17, 18, 19, 20, 21, 22, 23, 24, 25, 26, 27, 28, 29, 30, 31, 32, 33, 34, 35, 36, 37, 38, 39, 40, 41, 42, 43, 44, 45, 46, 47, 48, 49, 50, 51, 57, 58, 59]), (61, [0, 1, 2, 3, 4, 5, 6, 7, 8, 9, 10, 11, 12, 13, 14, 15, 16, 17, 18, 19, 20, 21, 22, 23, 24, 25, 26, 27, 28, 29, 30, 31, 32, 33, 34, 35, 36, 37, 38, 39, 40, 41, 42, 43, 44, 45, 46, 47, 48, 49, 50, 51, 57, 58, 59, 60]), (62, [0, 1, 2, 3, 4, 5, 6, 7, 8, 9, 10, 11, 12, 13, 14, 15, 16, 17, 18, 19, 20, 21, 22, 23, 24, 25, 26, 27, 28, 29, 30, 31, 32, 33, 34, 35, 36, 37, 38, 39, 40, 41, 42, 43, 44, 45, 46, 47, 48, 49, 50, 51, 52, 53, 54, 55, 56, 57, 58, 59, 60, 61]), (63, [0, 1, 2, 3, 4, 5, 6, 7, 8, 9, 10, 11, 12, 13, 14, 15, 16, 17, 18, 19, 20, 21, 22, 23, 24, 25, 26, 27, 28, 29, 30, 31, 32, 33, 34, 35, 36, 37, 38, 39, 40, 41, 42, 43, 44, 45, 46, 47, 48, 49, 50, 51, 52, 53, 54, 55, 56, 57, 58, 59, 60, 61, 62])]⟩
  | _ => ⟨[], [], [], .done, []⟩
def esc_laws_wtEntries : Nat → Bool
  | _ => false
def vc_laws_wtEntries (w0 : World) (a0 a1 : Value) (σ : Vw) (R : Value → Vw → Prop) : Prop :=
  N a0 fun v0 => N a1 fun v1 => B P 3 .neq v0 v1 fun v2 => Q v2 (R (.bool false) σ) (pLoop (fun l3 K4 s5 => N (G l3 0) fun v6 => B P 3 .lss (G l3 3) v6 fun v7 => Q v7 (X 5 (G l3 0) (G l3 3) fun v8 => F 0 v8 fun v9 => L w0 1 v9 s5 fun g10 => X 5 (G l3 1) (G l3 3) fun v11 => F 0 v11 fun v12 => L w0 1 v12 s5 fun g13 => AC P w0 n_laws_wtTexts [g10 0, g13 0] s5 fun v14 s15 => pUn .not v14 fun v16 => Q v16 (K4 .ret [G l3 0, G l3 1, .bool false, G l3 3] s15) (X 5 (G l3 0) (G l3 3) fun v17 => F 1 v17 fun v18 => L w0 1 v18 s15 fun g19 => X 5 (G l3 1) (G l3 3) fun v20 => F 1 v20 fun v21 => L w0 1 v21 s15 fun g22 => B P 3 .neq (g19 0) (g22 0) fun v23 => Q v23 (K4 .ret [G l3 0, G l3 1, .bool false, G l3 3] s15) (X 5 (G l3 0) (G l3 3) fun v24 => F 2 v24 fun v25 => L w0 1 v25 s15 fun g26 => X 5 (G l3 1) (G l3 3) fun v27 => F 2 v27 fun v28 => L w0 1 v28 s15 fun g29 => B P 4 .neq (g26 0) (g29 0) fun v30 => Q v30 (K4 .ret [G l3 0, G l3 1, .bool false, G l3 3] s15) (X 5 (G l3 0) (G l3 3) fun v31 => F 3 v31 fun v32 => L w0 1 v32 s15 fun g33 => X 5 (G l3 1) (G l3 3) fun v34 => F 3 v34 fun v35 => L w0 1 v35 s15 fun g36 => B P 3 .neq (g33 0) (g36 0) fun v37 => Q v37 (K4 .ret [G l3 0, G l3 1, .bool false, G l3 3] s15) (X 5 (G l3 0) (G l3 3) fun v38 => F 4 v38 fun v39 => L w0 1 v39 s15 fun g40 => X 5 (G l3 1) (G l3 3) fun v41 => F 4 v41 fun v42 => L w0 1 v42 s15 fun g43 => B P 9 .neq (g40 0) (g43 0) fun v44 => Q v44 (K4 .ret [G l3 0, G l3 1, .bool false, G l3 3] s15) (B P 3 .add (G l3 3) (.int .i64 1) fun v45 => K4 .normal [G l3 0, G l3 1, G l3 2, v45] s15)))))) (K4 (.exit 0) [G l3 0, G l3 1, G l3 2, G l3 3] s5)) [a0, a1, .bool false, .int .i64 0] σ fun x46 l47 s48 => match x46 with | .normal => R (.bool true) s48 | .ret => R (G l47 2) s48 | .exit i49 => (match Nat.beq i49 0 with | true => R (.bool true) s48 | false => False))
theorem vc_laws_wtEntries_eq (w0 : World) (a0 a1 : Value) (σ : Vw) (R : Value → Vw → Prop) : vc_laws_wtEntries w0 a0 a1 σ R = den Tryz.prog w0 kp_laws_wtEntries esc_laws_wtEntries (Tryz.f11.body.getD .skip) (entry Tryz.f11.ntmps [a0, a1]) σ (retK Tryz.prog Tryz.f11.results.toList R) := by kernel_rfl
theorem ac_laws_wtEntries {w0 : World} {a0 a1 : Value} {σ : Vw} {R : Value → Vw → Prop} (h : vc_laws_wtEntries w0 a0 a1 σ R) : AC Tryz.prog w0 n_laws_wtEntries [a0, a1] σ R := by
  refine ac_rule (fn := Tryz.f11) (c := Tryz.f11.body.getD .skip) kp_laws_wtEntries esc_laws_wtEntries Tryz.func11 (by kernel_rfl) (by kernel_rfl) ?_
  rw [← vc_laws_wtEntries_eq]
  exact h

/-- spec.TrailCovers -/
def kp_spec_TrailCovers : Nat → Keep
  | _ => ⟨[], [], [], .done, []⟩
def esc_spec_TrailCovers : Nat → Bool
  | 18 => true
  | _ => false
def vc_spec_TrailCovers (w0 : World) (a0 a1 a2 : Value) (σ : Vw) (R : Value → Vw → Prop) : Prop :=
  V true 5 a0 (V true 5 a1 (AC P w0 n_spec_TreeOk ([.agg (⟨[C a0 0, C a0 1, C a0 2, C a0 3, C a0 4]⟩)]) σ fun v0 s1 => Q v0 (AC P w0 n_spec_TreeOk ([.agg (⟨[C a1 0, C a1 1, C a1 2, C a1 3, C a1 4]⟩)]) s1 fun v2 s3 => Q v2 (AC P w0 n_spec_TrailOk [a2] s3 fun v4 s5 => Q v4 (W w0 9 [] s5 fun n6 s7 => AC P w0 n_spec_l12Covers ([.slice (some (Addr.mk n6 0 none)) 0 0, .agg (⟨[C a0 0, C a0 1, C a0 2, C a0 3, C a0 4]⟩), .bool true, .agg (⟨[C a1 0, C a1 1, C a1 2, C a1 3, C a1 4]⟩), .bool true, a2]) s7 fun v8 s9 => R v8 s9) (R (.bool false) s5)) (R (.bool false) s3)) (R (.bool false) s1)))
theorem vc_spec_TrailCovers_eq (w0 : World) (a0 a1 a2 : Value) (σ : Vw) (R : Value → Vw → Prop) : vc_spec_TrailCovers w0 a0 a1 a2 σ R = den Tryz.prog w0 kp_spec_TrailCovers esc_spec_TrailCovers (Tryz.f12.body.getD .skip) (entry Tryz.f12.ntmps [a0, a1, a2]) σ (retK Tryz.prog Tryz.f12.results.toList R) := by kernel_rfl
theorem ac_spec_TrailCovers {w0 : World} {a0 a1 a2 : Value} {σ : Vw} {R : Value → Vw → Prop} (h : vc_spec_TrailCovers w0 a0 a1 a2 σ R) : AC Tryz.prog w0 n_spec_TrailCovers [a0, a1, a2] σ R := by
  refine ac_rule (fn := Tryz.f12) (c := Tryz.f12.body.getD .skip) kp_spec_TrailCovers esc_spec_TrailCovers Tryz.func12 (by kernel_rfl) (by kernel_rfl) ?_
  rw [← vc_spec_TrailCovers_eq]
  exact h

/-- impl.TrailCovers -/
def kp_impl_TrailCovers : Nat → Keep
  | _ => ⟨[], [], [], .done, []⟩
def esc_impl_TrailCovers : Nat → Bool
  | 3 => true
  | 4 => true
  | _ => false
def vc_impl_TrailCovers (w0 : World) (a0 a1 a2 : Value) (σ : Vw) (R : Value → Vw → Prop) : Prop :=
  V true 5 a0 (W w0 26 [C a0 0, C a0 1, C a0 2, C a0 3, C a0 4] σ fun n0 s1 => V true 5 a1 (W w0 26 [C a1 0, C a1 1, C a1 2, C a1 3, C a1 4] s1 fun n2 s3 => L w0 5 (.pointer (some (Addr.mk n0 0 none))) s3 fun g4 => AC P w0 n_impl_TreeOk ([.agg (⟨[g4 0, g4 1, g4 2, g4 3, g4 4]⟩)]) s3 fun v5 s6 => Q v5 (L w0 5 (.pointer (some (Addr.mk n2 0 none))) s6 fun g7 => AC P w0 n_impl_TreeOk ([.agg (⟨[g7 0, g7 1, g7 2, g7 3, g7 4]⟩)]) s6 fun v8 s9 => Q v8 (AC P w0 n_impl_TrailOk [a2] s9 fun v10 s11 => Q v10 (AC P w0 n_impl_covers [.slice none 0 0, .pointer (some (Addr.mk n0 0 none)), .pointer (some (Addr.mk n2 0 none)), a2] s11 fun v12 s13 => R v12 s13) (R (.bool false) s11)) (R (.bool false) s9)) (R (.bool false) s6)))
theorem vc_impl_TrailCovers_eq (w0 : World) (a0 a1 a2 : Value) (σ : Vw) (R : Value → Vw → Prop) : vc_impl_TrailCovers w0 a0 a1 a2 σ R = den Tryz.prog w0 kp_impl_TrailCovers esc_impl_TrailCovers (Tryz.f14.body.getD .skip) (entry Tryz.f14.ntmps [a0, a1, a2]) σ (retK Tryz.prog Tryz.f14.results.toList R) := by kernel_rfl
theorem ac_impl_TrailCovers {w0 : World} {a0 a1 a2 : Value} {σ : Vw} {R : Value → Vw → Prop} (h : vc_impl_TrailCovers w0 a0 a1 a2 σ R) : AC Tryz.prog w0 n_impl_TrailCovers [a0, a1, a2] σ R := by
  refine ac_rule (fn := Tryz.f14) (c := Tryz.f14.body.getD .skip) kp_impl_TrailCovers esc_impl_TrailCovers Tryz.func14 (by kernel_rfl) (by kernel_rfl) ?_
  rw [← vc_impl_TrailCovers_eq]
  exact h

/-- spec.TrailAdd -/
def kp_spec_TrailAdd : Nat → Keep
  | 7 => ⟨[5], [], [], .done, []⟩
  | _ => ⟨[], [], [], .done, []⟩
def esc_spec_TrailAdd : Nat → Bool
  | 9 => true
  | _ => false
def vc_spec_TrailAdd (w0 : World) (a0 a1 : Value) (σ : Vw) (R : Value → Vw → Prop) : Prop :=
  V true 2 a1 (AC P w0 n_spec_TrailOk [a0] σ fun v0 s1 => pUn .not v0 fun v2 => Q v2 (W w0 31 [] s1 fun n3 s4 => R (.slice (some (Addr.mk n3 0 none)) 0 0) s4) (AC P w0 n_spec_l11Copy [a0] s1 fun v5 s6 => AC P w0 n_spec_l11MarkOk ([.agg (⟨[C a1 0, C a1 1]⟩)]) s6 fun v7 s8 => pUn .not v7 fun v9 => Q v9 (R v5 s8) (AC P w0 n_spec_l11Put ([v5, .agg (⟨[C a1 0, C a1 1]⟩)]) s8 fun v10 s11 => pLoop (fun l12 K13 s14 => N (G l12 0) fun v15 => B P 3 .gtr v15 (.int .i64 6) fun v16 => Q v16 (AC P w0 n_spec_l11Coarser [G l12 0] s14 fun v17 s18 => K13 .normal [v17] s18) (K13 (.exit 0) [G l12 0] s14)) [v10] s11 fun x19 l20 s21 => match x19 with | .normal => AC P w0 n_spec_l11Copy [G l20 0] s21 (fun v22 s23 => R v22 s23) | .ret => False | .exit i24 => (match Nat.beq i24 0 with | true => AC P w0 n_spec_l11Copy [G l20 0] s21 (fun v25 s26 => R v25 s26) | false => False))))
theorem vc_spec_TrailAdd_eq (w0 : World) (a0 a1 : Value) (σ : Vw) (R : Value → Vw → Prop) : vc_spec_TrailAdd w0 a0 a1 σ R = den Tryz.prog w0 kp_spec_TrailAdd esc_spec_TrailAdd (Tryz.f27.body.getD .skip) (entry Tryz.f27.ntmps [a0, a1]) σ (retK Tryz.prog Tryz.f27.results.toList R) := by kernel_rfl
theorem ac_spec_TrailAdd {w0 : World} {a0 a1 : Value} {σ : Vw} {R : Value → Vw → Prop} (h : vc_spec_TrailAdd w0 a0 a1 σ R) : AC Tryz.prog w0 n_spec_TrailAdd [a0, a1] σ R := by
  refine ac_rule (fn := Tryz.f27) (c := Tryz.f27.body.getD .skip) kp_spec_TrailAdd esc_spec_TrailAdd Tryz.func27 (by kernel_rfl) (by kernel_rfl) ?_
  rw [← vc_spec_TrailAdd_eq]
  exact h

/-- impl.TrailOk -/
def kp_impl_TrailOk : Nat → Keep
  | 2 => ⟨[0, 2, 5, 6, 7], [], [], .done, []⟩
  | 4 => ⟨[], [], [], .step 0 (.step 1 (.step 2 (.step 3 (.step 4 (.step 5 (.step 6 (.step 7 (.step 8 (.step 9 (.step 10 (.step 11 (.step 12 (.step 13 (.step 14 (.step 15 (.step 16 (.step 17 (.step 18 (.step 19 (.step 20 (.step 21 (.step 22 (.step 23 (.step 24 (.step 25 (.step 26 (.done))))))))))))))))))))))))))), [(1, [0]), (2, [0, 1]), (3, [0, 1, 2]), (4, [0, 1, 2, 3]), (5, [0, 1, 2, 3, 4]), (6, [0, 1, 2, 3, 4, 5]), (7, [0, 1, 2, 3, 4, 5, 6]), (8, [0, 1, 2, 3, 4, 5, 6]), (9, [0, 1, 2, 3, 4, 5, 6, 8]), (10, [0, 1, 2, 3, 4, 5, 6, 7, 8, 9]), (11, [0, 1, 2, 3, 4, 5, 6, 7, 8, 9, 10]), (12, [0, 1, 2, 3, 4, 5, 6, 7, 8, 9, 10, 11]), (13, [0, 1, 2, 3, 4, 5, 6]), (14, [0, 1, 2, 3, 4, 5, 6, 13]), (15, [0, 1, 2, 3, 4, 5, 6, 7, 8, 9, 10, 11, 12, 13, 14]), (16, [0, 1, 2, 3, 4, 5, 6, 7, 8, 9, 10, 11, 12, 13, 14, 15]), (17, [0, 1, 2, 3, 4, 5, 6, 7, 8, 9, 10, 11, 12, 13, 14, 15, 16]), (18, [0, 1, 2, 3, 4, 5, 6, 7, 8, 9, 10, 11, 12, 13, 14, 15, 16, 17]), (19, [0, 1, 2, 3, 4, 5, 6, 7, 8, 9, 10, 11, 12, 13, 14, 15, 16, 17, 18]), (20, [0, 1, 2, 3, 4, 5, 6, 7, 8, 9, 10, 11, 12, 13, 14, 15, 16, 17, 18, 19]), (21, [0, 1, 2, 3, 4, 5, 6, 7, 8, 9, 10, 11, 12, 13, 14, 15, 16, 17, 18, 19]), (22, [0, 1, 2, 3, 4, 5, 6, 7, 8, 9, 10, 11, 12, 13, 14, 15, 16, 17, 18, 19, 20, 21]), (23, [0, 1, 2, 3, 4, 5, 6, 7, 8, 9, 10, 11, 12, 13, 14, 15, 16, 17, 18, 19]), (24, [0, 1, 2, 3, 4, 5, 6, 7, 8, 9, 10, 11, 12, 13, 14, 15, 16, 17, 18, 19, 23]), (25, [0, 1, 2, 3, 4, 5, 6, 7, 8, 9, 10, 11, 12, 13, 14, 15, 16, 17, 18, 19, 20, 21, 22, 23, 24]), (26, [0, 1, 2, 3, 4, 5, 6, 7, 8, 9, 10, 11, 12, 13, 14, 15, 16, 17, 18, 19, 20, 21, 22, 23, 24, 25])]⟩
  | _ => ⟨[], [], [], .done, []⟩
def esc_impl_TrailOk : Nat → Bool
  | _ => false
def vc_impl_TrailOk (w0 : World) (a0 : Value) (σ : Vw) (R : Value → Vw → Prop) : Prop :=
  N a0 fun v0 => pLoop (fun l1 K2 s3 => B P 3 .lss (G l1 4) (G l1 3) fun v4 => Q v4 (X 2 (G l1 2) (G l1 4) fun v5 => L w0 2 v5 s3 fun g6 => V true 2 (.agg (⟨[g6 0, g6 1]⟩)) (AC P w0 n_impl_markOk ([.agg (⟨[g6 0, g6 1]⟩)]) s3 fun v7 s8 => pUn .not v7 fun v9 => Q v9 (K2 .ret [G l1 0, .bool false, G l1 2, G l1 3, G l1 4] s8) (B P 3 .gtr (G l1 4) (.int .i64 0) fun v10 => Q v10 (B P 3 .sub (G l1 4) (.int .i64 1) fun v11 => X 2 (G l1 0) v11 fun v12 => F 0 v12 fun v13 => L w0 1 v13 s8 fun g14 => AC P w0 n_slices_Compare_string_string [g14 0, g6 0] s8 fun v15 s16 => B P 3 .geq v15 (.int .i64 0) fun v17 => Q v17 (K2 .ret [G l1 0, .bool false, G l1 2, G l1 3, G l1 4] s16) (pSlice 2 (G l1 0) none (some (G l1 4)) fun v18 => AC P w0 n_impl_under [v18, g6 0] s16 fun v19 s20 => Q v19 (K2 .ret [G l1 0, .bool false, G l1 2, G l1 3, G l1 4] s20) (B P 3 .add (G l1 4) (.int .i64 1) fun v21 => K2 .normal [G l1 0, G l1 1, G l1 2, G l1 3, v21] s20))) (pSlice 2 (G l1 0) none (some (G l1 4)) fun v22 => AC P w0 n_impl_under [v22, g6 0] s8 fun v23 s24 => Q v23 (K2 .ret [G l1 0, .bool false, G l1 2, G l1 3, G l1 4] s24) (B P 3 .add (G l1 4) (.int .i64 1) fun v25 => K2 .normal [G l1 0, G l1 1, G l1 2, G l1 3, v25] s24))))) (K2 (.exit 0) [G l1 0, G l1 1, G l1 2, G l1 3, G l1 4] s3)) [a0, .bool false, a0, v0, .int .i64 0] σ fun x26 l27 s28 => match x26 with | .normal => N (G l27 0) (fun v29 => B P 3 .leq v29 (.int .i64 6) fun v30 => R v30 s28) | .ret => R (G l27 1) s28 | .exit i31 => (match Nat.beq i31 0 with | true => N (G l27 0) (fun v32 => B P 3 .leq v32 (.int .i64 6) fun v33 => R v33 s28) | false => False)
theorem vc_impl_TrailOk_eq (w0 : World) (a0 : Value) (σ : Vw) (R : Value → Vw → Prop) : vc_impl_TrailOk w0 a0 σ R = den Tryz.prog w0 kp_impl_TrailOk esc_impl_TrailOk (Tryz.f28.body.getD .skip) (entry Tryz.f28.ntmps [a0]) σ (retK Tryz.prog Tryz.f28.results.toList R) := by kernel_rfl
theorem ac_impl_TrailOk {w0 : World} {a0 : Value} {σ : Vw} {R : Value → Vw → Prop} (h : vc_impl_TrailOk w0 a0 σ R) : AC Tryz.prog w0 n_impl_TrailOk [a0] σ R := by
  refine ac_rule (fn := Tryz.f28) (c := Tryz.f28.body.getD .skip) kp_impl_TrailOk esc_impl_TrailOk Tryz.func28 (by kernel_rfl) (by kernel_rfl) ?_
  rw [← vc_impl_TrailOk_eq]
  exact h

/-- spec.TrailOk -/
def kp_spec_TrailOk : Nat → Keep
  | 2 => ⟨[0, 2, 3], [], [], .done, []⟩
  | 4 => ⟨[], [], [], .step 0 (.step 1 (.step 2 (.step 3 (.step 4 (.step 5 (.step 6 (.step 7 (.step 8 (.step 9 (.step 10 (.step 11 (.step 12 (.step 13 (.step 14 (.step 15 (.step 16 (.step 17 (.step 18 (.step 19 (.step 20 (.step 21 (.step 22 (.step 23 (.step 24 (.done))))))))))))))))))))))))), [(2, [0, 1]), (3, [0, 1, 2]), (4, [0, 1, 2, 3]), (5, [0, 1, 2, 3, 4]), (6, [0, 1, 2, 3, 4, 5]), (7, [0, 1, 2, 3, 4, 5, 6]), (8, [0, 1, 2, 3, 4, 5, 6, 7]), (9, [0, 1, 2, 3, 4, 5, 6, 7, 8]), (10, [0, 1, 2, 3, 4, 5, 6, 7, 8, 9]), (11, [0, 1, 2, 3, 4, 5, 6, 7, 8, 9]), (12, [0, 1, 2, 3, 4, 5, 6, 7, 8, 9, 11]), (13, [0, 1, 2, 3, 4, 5, 6, 7, 8, 9, 10, 11, 12]), (14, [0, 1, 2, 3, 4, 5, 6, 7, 8, 9, 10, 11, 12, 13]), (15, [0, 1, 2, 3, 4, 5, 6, 7, 8, 9, 10, 11, 12, 13, 14]), (16, [0, 1, 2, 3, 4, 5, 6, 7, 8, 9]), (17, [0, 1, 2, 3, 4, 5, 6, 7, 8, 9]), (18, [0, 1, 2, 3, 4, 5, 6, 7, 8, 9, 16, 17]), (19, [0, 1, 2, 3, 4, 5, 6, 7, 8, 9, 16, 17, 18]), (20, [0, 1, 2, 3, 4, 5, 6, 7, 8, 9, 16, 17, 18, 19]), (21, [0, 1, 2, 3, 4, 5, 6, 7, 8, 9, 10, 11, 12, 13, 14, 15, 16, 17, 18, 19, 20]), (22, [0, 1, 2, 3, 4, 5, 6, 7, 8, 9, 10, 11, 12, 13, 14, 15, 16, 17, 18, 19, 20, 21]), (23, [0, 1, 2, 3, 4, 5, 6, 7, 8, 9, 10, 11, 12, 13, 14, 15, 16, 17, 18, 19, 20, 21, 22]), (24, [0, 1, 2, 3, 4, 5, 6, 7, 8, 9, 10, 11, 12, 13, 14, 15, 16, 17, 18, 19, 20, 21, 22, 23])]⟩
  | 7 => ⟨[0, 2, 3, 4], [], [], .done, []⟩
  | 9 => ⟨[], [], [], .step 0 (.step 1 (.step 2 (.step 3 (.step 4 (.step 5 (.step 6 (.step 7 (.step 8 (.step 9 (.step 10 (.step 11 (.step 12 (.step 13 (.step 14 (.step 15 (.step 16 (.step 17 (.done)))))))))))))))))), [(2, [0, 1]), (3, [0, 1, 2]), (4, [0, 1, 2, 3]), (5, [0, 1, 2, 3, 4]), (6, [0, 1, 2, 3, 4, 5]), (7, [0, 1, 2, 3, 4, 5]), (8, [0, 1, 2, 3, 4, 5, 6, 7]), (9, [0, 1, 2, 3, 4, 5, 6, 7, 8]), (10, [0, 1, 2, 3, 4, 5, 6, 7, 8, 9]), (11, [0, 1, 2, 3, 4, 5]), (12, [0, 1, 2, 3, 4, 5]), (13, [0, 1, 2, 3, 4, 5, 11, 12]), (14, [0, 1, 2, 3, 4, 5, 11, 12, 13]), (15, [0, 1, 2, 3, 4, 5, 11, 12, 13, 14]), (16, [0, 1, 2, 3, 4, 5, 6, 7, 8, 9, 10, 11, 12, 13, 14, 15]), (17, [0, 1, 2, 3, 4, 5, 6, 7, 8, 9, 10, 11, 12, 13, 14, 15, 16])]⟩
  | _ => ⟨[], [], [], .done, []⟩
def esc_spec_TrailOk : Nat → Bool
  | _ => false
def cs_spec_TrailOk_1 (w0 : World) (l900 : List Value) (s901 : Vw) (K902 : AX → List Value → Vw → Prop) (R : Value → Vw → Prop) : Prop :=
  pLoop (fun l500 K501 s502 => B P 3 .lss (G l500 3) (G l500 2) fun v503 => Q v503 (X 2 (G l500 0) (G l500 3) fun v504 => F 1 v504 fun v505 => L w0 1 v505 s502 fun g506 => Q (g506 0) (X 2 (G l500 0) (G l500 2) fun v507 => F 0 v507 fun v508 => L w0 1 v508 s502 fun g509 => X 2 (G l500 0) (G l500 3) fun v510 => F 0 v510 fun v511 => L w0 1 v511 s502 fun g512 => AC P w0 n_spec_l2Within [g509 0, g512 0] s502 fun v513 s514 => Q v513 (K501 .ret [G l500 0, .bool false, G l500 2, G l500 3] s514) (B P 3 .add (G l500 3) (.int .i64 1) fun v515 => K501 .normal [G l500 0, G l500 1, G l500 2, v515] s514)) (B P 3 .add (G l500 3) (.int .i64 1) fun v516 => K501 .normal [G l500 0, G l500 1, G l500 2, v516] s502)) (K501 (.exit 2) [G l500 0, G l500 1, G l500 2, G l500 3] s502)) [G l900 0, G l900 1, G l900 2, .int .i64 0] s901 (fun x517 l518 s519 => match x517 with | .normal => B P 3 .add (G l518 2) (.int .i64 1) (fun v520 => K902 .normal [G l518 0, G l518 1, v520] s519) | .ret => K902 .ret [G l518 0, G l518 1, G l518 2] s519 | .exit i521 => (match Nat.beq i521 2 with | true => B P 3 .add (G l518 2) (.int .i64 1) (fun v522 => K902 .normal [G l518 0, G l518 1, v522] s519) | false => (match Nat.beq i521 1 with | true => B P 3 .add (G l518 2) (.int .i64 1) (fun v523 => K902 .normal [G l518 0, G l518 1, v523] s519) | false => K902 (.exit i521) [G l518 0, G l518 1, G l518 2] s519)))
def vc_spec_TrailOk (w0 : World) (a0 : Value) (σ : Vw) (R : Value → Vw → Prop) : Prop :=
  pLoop (fun l0 K1 s2 => N (G l0 0) fun v3 => B P 3 .lss (G l0 2) v3 fun v4 => Q v4 (X 2 (G l0 0) (G l0 2) fun v5 => L w0 2 v5 s2 fun g6 => AC P w0 n_spec_l11MarkOk ([.agg (⟨[g6 0, g6 1]⟩)]) s2 fun v7 s8 => pUn .not v7 fun v9 => Q v9 (K1 .ret [G l0 0, .bool false, G l0 2] s8) (B P 3 .gtr (G l0 2) (.int .i64 0) fun v10 => Q v10 (B P 3 .sub (G l0 2) (.int .i64 1) fun v11 => X 2 (G l0 0) v11 fun v12 => F 0 v12 fun v13 => L w0 1 v13 s8 fun g14 => X 2 (G l0 0) (G l0 2) fun v15 => F 0 v15 fun v16 => L w0 1 v16 s8 fun g17 => AC P w0 n_spec_l11Less [g14 0, g17 0] s8 fun v18 s19 => pUn .not v18 fun v20 => Q v20 (K1 .ret [G l0 0, .bool false, G l0 2] s19) (cs_spec_TrailOk_1 w0 l0 s19 K1 R)) (cs_spec_TrailOk_1 w0 l0 s8 K1 R))) (K1 (.exit 0) [G l0 0, G l0 1, G l0 2] s2)) [a0, .bool false, .int .i64 0] σ fun x69 l70 s71 => match x69 with | .normal => N (G l70 0) (fun v72 => B P 3 .leq v72 (.int .i64 6) fun v73 => R v73 s71) | .ret => R (G l70 1) s71 | .exit i74 => (match Nat.beq i74 0 with | true => N (G l70 0) (fun v75 => B P 3 .leq v75 (.int .i64 6) fun v76 => R v76 s71) | false => False)

theorem vc_spec_TrailOk_eq (w0 : World) (a0 : Value) (σ : Vw) (R : Value → Vw → Prop) : vc_spec_TrailOk w0 a0 σ R = den Tryz.prog w0 kp_spec_TrailOk esc_spec_TrailOk (Tryz.f29.body.getD .skip) (entry Tryz.f29.ntmps [a0]) σ (retK Tryz.prog Tryz.f29.results.toList R) := by kernel_rfl
theorem ac_spec_TrailOk {w0 : World} {a0 : Value} {σ : Vw} {R : Value → Vw → Prop} (h : vc_spec_TrailOk w0 a0 σ R) : AC Tryz.prog w0 n_spec_TrailOk [a0] σ R := by
  refine ac_rule (fn := Tryz.f29) (c := Tryz.f29.body.getD .skip) kp_spec_TrailOk esc_spec_TrailOk Tryz.func29 (by kernel_rfl) (by kernel_rfl) ?_
  rw [← vc_spec_TrailOk_eq]
  exact h

/-- spec.TrailOf -/
def kp_spec_TrailOf : Nat → Keep
  | 7 => ⟨[], [], [], .step 0 (.step 1 (.step 2 (.step 3 (.step 5 (.step 6 (.step 8 (.step 9 (.step 4 (.step 7 (.step 10 (.step 11 (.step 12 (.done))))))))))))), [(2, [1]), (3, [0, 1, 2]), (6, [5]), (7, [4, 5, 6]), (9, [8]), (10, [4, 5, 6, 7, 8, 9]), (11, [0, 1, 2, 3, 4, 5, 6, 7, 8, 9, 10]), (12, [0, 1, 2, 3, 4, 5, 6, 7, 8, 9, 10, 11])]⟩
  | _ => ⟨[], [], [], .done, []⟩
def esc_spec_TrailOf : Nat → Bool
  | 16 => true
  | 17 => true
  | 26 => true
  | 38 => true
  | 45 => true
  | _ => false
def vc_spec_TrailOf (w0 : World) (a0 a1 : Value) (σ : Vw) (R : Value → Vw → Prop) : Prop :=
  V true 5 a0 (V true 5 a1 (AC P w0 n_spec_TreeOk ([.agg (⟨[C a0 0, C a0 1, C a0 2, C a0 3, C a0 4]⟩)]) σ fun v0 s1 => pUn .not v0 fun v2 => Q v2 (W w0 31 [] s1 fun n3 s4 => R (.slice (some (Addr.mk n3 0 none)) 0 0) s4) (AC P w0 n_spec_l2CallOk ([.agg (⟨[C a1 0, C a1 1, C a1 2, C a1 3, C a1 4]⟩)]) s1 fun v5 s6 => pUn .not v5 fun v7 => Q v7 (W w0 31 [] s6 fun n8 s9 => R (.slice (some (Addr.mk n8 0 none)) 0 0) s9) (W w0 9 [] s6 fun n10 s11 => pAppendS w0 9 1 16 (.slice (some (Addr.mk n10 0 none)) 0 0) (C a1 1) s11 fun v12 s13 => B P 3 .neq (C a1 0) (.int .i64 5) fun v14 => Q v14 (V false 1 v12 (V true 2 (.agg (⟨[v12, .bool false]⟩)) (W w0 31 [v12, .bool false] s13 fun n15 s16 => R (.slice (some (Addr.mk n15 0 none)) 1 1) s16))) (AC P w0 n_spec_l1At ([.agg (⟨[C a0 0, C a0 1, C a0 2, C a0 3, C a0 4]⟩), C a1 1]) s13 fun v17 s18 => E v17 0 fun v19 => E v17 1 fun v20 => V true 5 v19 (V false 1 v12 (V false 1 (C v19 0) (W w0 9 [] s18 fun n21 s22 => pAppendS w0 9 1 16 (.slice (some (Addr.mk n21 0 none)) 0 0) (C a1 2) s22 fun v23 s24 => V false 1 v23 (V false 1 (C v19 0) (V true 2 (.agg (⟨[v12, C v19 0]⟩)) (V true 2 (.agg (⟨[v23, C v19 0]⟩)) (W w0 31 [v12, C v19 0, v23, C v19 0] s24 fun n25 s26 => R (.slice (some (Addr.mk n25 0 none)) 2 2) s26))))))))))))
theorem vc_spec_TrailOf_eq (w0 : World) (a0 a1 : Value) (σ : Vw) (R : Value → Vw → Prop) : vc_spec_TrailOf w0 a0 a1 σ R = den Tryz.prog w0 kp_spec_TrailOf esc_spec_TrailOf (Tryz.f32.body.getD .skip) (entry Tryz.f32.ntmps [a0, a1]) σ (retK Tryz.prog Tryz.f32.results.toList R) := by kernel_rfl
theorem ac_spec_TrailOf {w0 : World} {a0 a1 : Value} {σ : Vw} {R : Value → Vw → Prop} (h : vc_spec_TrailOf w0 a0 a1 σ R) : AC Tryz.prog w0 n_spec_TrailOf [a0, a1] σ R := by
  refine ac_rule (fn := Tryz.f32) (c := Tryz.f32.body.getD .skip) kp_spec_TrailOf esc_spec_TrailOf Tryz.func32 (by kernel_rfl) (by kernel_rfl) ?_
  rw [← vc_spec_TrailOf_eq]
  exact h

/-- impl.TrailBelow -/
def kp_impl_TrailBelow : Nat → Keep
  | 5 => ⟨[3, 4, 7, 23, 24, 25], [], [], .done, []⟩
  | 8 => ⟨[], [], [], .step 0 (.step 1 (.step 2 (.step 4 (.step 5 (.step 3 (.step 6 (.step 7 (.step 8 (.step 9 (.done)))))))))), [(2, [1]), (3, [1, 2]), (5, [4]), (6, [1, 2, 3, 4, 5]), (7, [1, 2, 3, 4, 5, 6]), (8, [0, 1, 2, 3, 4, 5, 6, 7]), (9, [0, 1, 2, 3, 4, 5, 6, 7, 8])]⟩
  | _ => ⟨[], [], [], .done, []⟩
def esc_impl_TrailBelow : Nat → Bool
  | 3 => true
  | 4 => true
  | _ => false
def vc_impl_TrailBelow (w0 : World) (a0 a1 a2 : Value) (σ : Vw) (R : Value → Vw → Prop) : Prop :=
  V true 5 a0 (W w0 26 [C a0 0, C a0 1, C a0 2, C a0 3, C a0 4] σ fun n0 s1 => V true 5 a1 (W w0 26 [C a1 0, C a1 1, C a1 2, C a1 3, C a1 4] s1 fun n2 s3 => L w0 5 (.pointer (some (Addr.mk n0 0 none))) s3 fun g4 => AC P w0 n_impl_TreeOk ([.agg (⟨[g4 0, g4 1, g4 2, g4 3, g4 4]⟩)]) s3 fun v5 s6 => pUn .not v5 fun v7 => Q v7 (R (.int .i64 0) s6) (L w0 5 (.pointer (some (Addr.mk n2 0 none))) s6 fun g8 => AC P w0 n_impl_TreeOk ([.agg (⟨[g8 0, g8 1, g8 2, g8 3, g8 4]⟩)]) s6 fun v9 s10 => pUn .not v9 fun v11 => Q v11 (R (.int .i64 0) s10) (AC P w0 n_impl_TrailOk [a2] s10 fun v12 s13 => pUn .not v12 fun v14 => Q v14 (R (.int .i64 0) s13) (N a2 fun v15 => pLoop (fun l16 K17 s18 => B P 3 .lss (G l16 5) (G l16 4) fun v19 => Q v19 (X 2 (G l16 3) (G l16 5) fun v20 => L w0 2 v20 s18 fun g21 => V true 2 (.agg (⟨[g21 0, g21 1]⟩)) (Q (g21 1) (AC P w0 n_p_impl_Tree_at [G l16 0, g21 0] s18 fun v22 s23 => AC P w0 n_p_impl_Tree_at [G l16 1, g21 0] s23 fun v24 s25 => AC P w0 n_impl_both [v22, v24] s25 fun v26 s27 => B P 3 .add (G l16 2) v26 fun v28 => B P 3 .add (G l16 5) (.int .i64 1) fun v29 => K17 .normal [G l16 0, G l16 1, v28, G l16 3, G l16 4, v29] s27) (B P 3 .add (G l16 5) (.int .i64 1) fun v30 => K17 .normal [G l16 0, G l16 1, G l16 2, G l16 3, G l16 4, v30] s18))) (K17 (.exit 0) [G l16 0, G l16 1, G l16 2, G l16 3, G l16 4, G l16 5] s18)) [.pointer (some (Addr.mk n0 0 none)), .pointer (some (Addr.mk n2 0 none)), .int .i64 0, a2, v15, .int .i64 0] s13 fun x31 l32 s33 => match x31 with | .normal => R (G l32 2) s33 | .ret => False | .exit i34 => (match Nat.beq i34 0 with | true => R (G l32 2) s33 | false => False))))))
theorem vc_impl_TrailBelow_eq (w0 : World) (a0 a1 a2 : Value) (σ : Vw) (R : Value → Vw → Prop) : vc_impl_TrailBelow w0 a0 a1 a2 σ R = den Tryz.prog w0 kp_impl_TrailBelow esc_impl_TrailBelow (Tryz.f34.body.getD .skip) (entry Tryz.f34.ntmps [a0, a1, a2]) σ (retK Tryz.prog Tryz.f34.results.toList R) := by kernel_rfl
theorem ac_impl_TrailBelow {w0 : World} {a0 a1 a2 : Value} {σ : Vw} {R : Value → Vw → Prop} (h : vc_impl_TrailBelow w0 a0 a1 a2 σ R) : AC Tryz.prog w0 n_impl_TrailBelow [a0, a1, a2] σ R := by
  refine ac_rule (fn := Tryz.f34) (c := Tryz.f34.body.getD .skip) kp_impl_TrailBelow esc_impl_TrailBelow Tryz.func34 (by kernel_rfl) (by kernel_rfl) ?_
  rw [← vc_impl_TrailBelow_eq]
  exact h

/-- spec.TrailBelow -/
def kp_spec_TrailBelow : Nat → Keep
  | 5 => ⟨[2, 7, 8], [(3, 5), (4, 5)], [3, 4], .done, []⟩
  | 7 => ⟨[], [], [], .step 0 (.step 1 (.step 2 (.step 3 (.step 4 (.step 5 (.step 10 (.step 6 (.step 7 (.step 8 (.step 9 (.step 11 (.step 12 (.done))))))))))))), [(3, [1, 2]), (4, [1, 2, 3]), (5, [1, 2, 3, 4]), (6, [0, 1, 2, 3, 4, 5]), (7, [0, 1, 2, 3, 4, 5, 6]), (8, [0, 1, 2, 3, 4, 5, 6, 7]), (9, [0, 1, 2, 3, 4, 5, 6, 7]), (11, [0, 1, 2, 3, 4, 5, 6, 7, 8, 10]), (12, [0, 1, 2, 3, 4, 5, 6, 7, 8, 9, 10, 11])]⟩
  | 8 => ⟨[], [], [], .step 0 (.step 1 (.step 2 (.step 3 (.step 4 (.step 5 (.step 10 (.step 6 (.step 7 (.step 8 (.step 9 (.step 11 (.step 12 (.done))))))))))))), [(3, [1, 2]), (4, [1, 2, 3]), (5, [1, 2, 3, 4]), (6, [0, 1, 2, 3, 4, 5]), (7, [0, 1, 2, 3, 4, 5, 6]), (8, [0, 1, 2, 3, 4, 5, 6, 7]), (9, [0, 1, 2, 3, 4, 5, 6, 7]), (11, [0, 1, 2, 3, 4, 5, 6, 7, 8, 10]), (12, [0, 1, 2, 3, 4, 5, 6, 7, 8, 9, 10, 11])]⟩
  | _ => ⟨[], [], [], .done, []⟩
def esc_spec_TrailBelow : Nat → Bool
  | _ => false
def vc_spec_TrailBelow (w0 : World) (a0 a1 a2 : Value) (σ : Vw) (R : Value → Vw → Prop) : Prop :=
  V true 5 a0 (V true 5 a1 (AC P w0 n_spec_TreeOk ([.agg (⟨[C a0 0, C a0 1, C a0 2, C a0 3, C a0 4]⟩)]) σ fun v0 s1 => pUn .not v0 fun v2 => Q v2 (R (.int .i64 0) s1) (AC P w0 n_spec_TreeOk ([.agg (⟨[C a1 0, C a1 1, C a1 2, C a1 3, C a1 4]⟩)]) s1 fun v3 s4 => pUn .not v3 fun v5 => Q v5 (R (.int .i64 0) s4) (AC P w0 n_spec_TrailOk [a2] s4 fun v6 s7 => pUn .not v6 fun v8 => Q v8 (R (.int .i64 0) s7) (pLoop (fun l9 K10 s11 => N (G l9 0) fun v12 => B P 3 .lss (G l9 2) v12 fun v13 => Q v13 (X 2 (G l9 0) (G l9 2) fun v14 => F 0 v14 fun v15 => L w0 1 v15 s11 fun g16 => AC P w0 n_spec_l1At ([.agg (⟨[G l9 3, G l9 4, G l9 5, G l9 6, G l9 7]⟩), g16 0]) s11 fun v17 s18 => E v17 0 fun v19 => E v17 1 fun v20 => V true 5 v19 (X 2 (G l9 0) (G l9 2) fun v21 => F 0 v21 fun v22 => L w0 1 v22 s18 fun g23 => AC P w0 n_spec_l1At ([.agg (⟨[G l9 8, G l9 9, G l9 10, G l9 11, G l9 12]⟩), g23 0]) s18 fun v24 s25 => E v24 0 fun v26 => E v24 1 fun v27 => V true 5 v26 (X 2 (G l9 0) (G l9 2) fun v28 => F 1 v28 fun v29 => L w0 1 v29 s25 fun g30 => Q (g30 0) (Q v20 (AC P w0 n_spec_l12Union ([.agg (⟨[C v19 0, C v19 1, C v19 2, C v19 3, C v19 4]⟩), .agg (⟨[C v26 0, C v26 1, C v26 2, C v26 3, C v26 4]⟩)]) s25 fun v31 s32 => B P 3 .add (G l9 1) v31 fun v33 => B P 3 .add (G l9 2) (.int .i64 1) fun v34 => K10 .normal [G l9 0, v33, v34, G l9 3, G l9 4, G l9 5, G l9 6, G l9 7, G l9 8, G l9 9, G l9 10, G l9 11, G l9 12] s32) (Q v27 (AC P w0 n_spec_l12Union ([.agg (⟨[C v19 0, C v19 1, C v19 2, C v19 3, C v19 4]⟩), .agg (⟨[C v26 0, C v26 1, C v26 2, C v26 3, C v26 4]⟩)]) s25 fun v35 s36 => B P 3 .add (G l9 1) v35 fun v37 => B P 3 .add (G l9 2) (.int .i64 1) fun v38 => K10 .normal [G l9 0, v37, v38, G l9 3, G l9 4, G l9 5, G l9 6, G l9 7, G l9 8, G l9 9, G l9 10, G l9 11, G l9 12] s36) (B P 3 .add (G l9 2) (.int .i64 1) fun v39 => K10 .normal [G l9 0, G l9 1, v39, G l9 3, G l9 4, G l9 5, G l9 6, G l9 7, G l9 8, G l9 9, G l9 10, G l9 11, G l9 12] s25))) (B P 3 .add (G l9 2) (.int .i64 1) fun v40 => K10 .normal [G l9 0, G l9 1, v40, G l9 3, G l9 4, G l9 5, G l9 6, G l9 7, G l9 8, G l9 9, G l9 10, G l9 11, G l9 12] s25)))) (K10 (.exit 0) [G l9 0, G l9 1, G l9 2, G l9 3, G l9 4, G l9 5, G l9 6, G l9 7, G l9 8, G l9 9, G l9 10, G l9 11, G l9 12] s11)) [a2, .int .i64 0, .int .i64 0, C a0 0, C a0 1, C a0 2, C a0 3, C a0 4, C a1 0, C a1 1, C a1 2, C a1 3, C a1 4] s7 fun x41 l42 s43 => match x41 with | .normal => R (G l42 1) s43 | .ret => False | .exit i44 => (match Nat.beq i44 0 with | true => R (G l42 1) s43 | false => False))))))
theorem vc_spec_TrailBelow_eq (w0 : World) (a0 a1 a2 : Value) (σ : Vw) (R : Value → Vw → Prop) : vc_spec_TrailBelow w0 a0 a1 a2 σ R = den Tryz.prog w0 kp_spec_TrailBelow esc_spec_TrailBelow (Tryz.f35.body.getD .skip) (entry Tryz.f35.ntmps [a0, a1, a2]) σ (retK Tryz.prog Tryz.f35.results.toList R) := by kernel_rfl
theorem ac_spec_TrailBelow {w0 : World} {a0 a1 a2 : Value} {σ : Vw} {R : Value → Vw → Prop} (h : vc_spec_TrailBelow w0 a0 a1 a2 σ R) : AC Tryz.prog w0 n_spec_TrailBelow [a0, a1, a2] σ R := by
  refine ac_rule (fn := Tryz.f35) (c := Tryz.f35.body.getD .skip) kp_spec_TrailBelow esc_spec_TrailBelow Tryz.func35 (by kernel_rfl) (by kernel_rfl) ?_
  rw [← vc_spec_TrailBelow_eq]
  exact h

/-- impl.DiffWalk -/
def kp_impl_DiffWalk : Nat → Keep
  | _ => ⟨[], [], [], .done, []⟩
def esc_impl_DiffWalk : Nat → Bool
  | 2 => true
  | 3 => true
  | 13 => true
  | _ => false
def vc_impl_DiffWalk (w0 : World) (a0 a1 : Value) (σ : Vw) (R : Value → Vw → Prop) : Prop :=
  V true 5 a0 (W w0 26 [C a0 0, C a0 1, C a0 2, C a0 3, C a0 4] σ fun n0 s1 => V true 5 a1 (W w0 26 [C a1 0, C a1 1, C a1 2, C a1 3, C a1 4] s1 fun n2 s3 => L w0 5 (.pointer (some (Addr.mk n0 0 none))) s3 fun g4 => AC P w0 n_impl_TreeOk ([.agg (⟨[g4 0, g4 1, g4 2, g4 3, g4 4]⟩)]) s3 fun v5 s6 => pUn .not v5 fun v7 => Q v7 (W w0 80 [] s6 fun n8 s9 => R (.slice (some (Addr.mk n8 0 none)) 0 0) s9) (L w0 5 (.pointer (some (Addr.mk n2 0 none))) s6 fun g10 => AC P w0 n_impl_TreeOk ([.agg (⟨[g10 0, g10 1, g10 2, g10 3, g10 4]⟩)]) s6 fun v11 s12 => pUn .not v11 fun v13 => Q v13 (W w0 80 [] s12 fun n14 s15 => R (.slice (some (Addr.mk n14 0 none)) 0 0) s15) (AC P w0 n_impl_walk [.slice none 0 0, .pointer (some (Addr.mk n0 0 none)), .pointer (some (Addr.mk n2 0 none))] s12 fun v16 s17 => R v16 s17))))
theorem vc_impl_DiffWalk_eq (w0 : World) (a0 a1 : Value) (σ : Vw) (R : Value → Vw → Prop) : vc_impl_DiffWalk w0 a0 a1 σ R = den Tryz.prog w0 kp_impl_DiffWalk esc_impl_DiffWalk (Tryz.f36.body.getD .skip) (entry Tryz.f36.ntmps [a0, a1]) σ (retK Tryz.prog Tryz.f36.results.toList R) := by kernel_rfl
theorem ac_impl_DiffWalk {w0 : World} {a0 a1 : Value} {σ : Vw} {R : Value → Vw → Prop} (h : vc_impl_DiffWalk w0 a0 a1 σ R) : AC Tryz.prog w0 n_impl_DiffWalk [a0, a1] σ R := by
  refine ac_rule (fn := Tryz.f36) (c := Tryz.f36.body.getD .skip) kp_impl_DiffWalk esc_impl_DiffWalk Tryz.func36 (by kernel_rfl) (by kernel_rfl) ?_
  rw [← vc_impl_DiffWalk_eq]
  exact h

/-- spec.l13Both -/
def kp_spec_l13Both : Nat → Keep
  | 4 => ⟨[], [], [], .step 0 (.step 1 (.both (.step 2 (.both (.step 3 (.step 4 (.both (.step 5 (.step 6 (.step 7 (.step 8 (.done))))) (.step 6 (.both (.step 5 (.step 7 (.step 8 (.done)))) (.step 7 (.step 5 (.step 8 (.done))))))))) (.step 6 (.both (.step 3 (.step 4 (.both (.step 5 (.step 7 (.step 8 (.done)))) (.step 7 (.step 5 (.step 8 (.done))))))) (.step 7 (.step 3 (.step 4 (.step 5 (.step 8 (.done)))))))))) (.step 3 (.step 4 (.both (.step 2 (.both (.step 5 (.step 6 (.step 7 (.step 8 (.done))))) (.step 6 (.both (.step 5 (.step 7 (.step 8 (.done)))) (.step 7 (.step 5 (.step 8 (.done)))))))) (.step 5 (.step 2 (.step 6 (.step 7 (.step 8 (.done))))))))))), [(2, [1]), (4, [3]), (5, [3, 4]), (6, [0, 1, 2]), (7, [0, 1, 2, 6]), (8, [0, 1, 2, 3, 4, 5, 6, 7])]⟩
  | 5 => ⟨[], [], [], .step 0 (.step 1 (.step 2 (.step 8 (.step 3 (.step 4 (.step 5 (.step 6 (.step 7 (.step 9 (.step 10 (.done))))))))))), [(3, [2]), (4, [0, 1, 2, 3]), (5, [0, 1, 2, 3, 4]), (6, [0, 1, 2, 3, 4, 5]), (7, [0, 1, 2, 3, 4, 5]), (9, [0, 1, 2, 3, 4, 5, 6, 8]), (10, [0, 1, 2, 3, 4, 5, 6, 7, 8, 9])]⟩
  | 8 => ⟨[], [], [], .step 0 (.step 1 (.step 2 (.step 3 (.step 4 (.step 5 (.step 6 (.step 7 (.done)))))))), [(4, [2, 3]), (5, [0, 2, 3, 4]), (6, [0, 1, 2, 3, 4, 5]), (7, [0, 1, 2, 3, 4, 5, 6])]⟩
  | 10 => ⟨[], [], [], .step 0 (.step 1 (.step 2 (.step 3 (.step 4 (.step 5 (.done)))))), [(3, [0]), (4, [0, 1, 3]), (5, [0, 1, 2, 3, 4])]⟩
  | 11 => ⟨[], [], [], .step 0 (.step 1 (.step 2 (.step 3 (.step 4 (.step 5 (.done)))))), [(3, [0]), (4, [0, 1, 3]), (5, [0, 1, 2, 3, 4])]⟩
  | _ => ⟨[], [], [], .done, []⟩
def esc_spec_l13Both : Nat → Bool
  | 19 => true
  | 21 => true
  | _ => false
def cs_spec_l13Both_1 (w0 : World) (n900 : Nat) (s901 : Vw) (v902 : Value) (v903 : Value) (R : Value → Vw → Prop) : Prop :=
  V true 2 (.agg (⟨[.slice (some (Addr.mk n900 0 none)) 0 0, .bool true]⟩)) (W w0 31 [.slice (some (Addr.mk n900 0 none)) 0 0, .bool true] s901 fun n500 s501 => R (.tuple (⟨[.agg (⟨[C v902 0, C v902 1, C v902 2, C v902 3, C v902 4]⟩), .agg (⟨[C v903 0, C v903 1, C v903 2, C v903 3, C v903 4]⟩), .slice (some (Addr.mk n500 0 none)) 1 1]⟩)) s501)
def cs_spec_l13Both_2 (w0 : World) (v900 : Value) (v901 : Value) (n902 : Nat) (s903 : Vw) (R : Value → Vw → Prop) : Prop :=
  V true 5 v900 (R (.tuple (⟨[.agg (⟨[C v901 0, C v901 1, C v901 2, C v901 3, C v901 4]⟩), .agg (⟨[C v900 0, C v900 1, C v900 2, C v900 3, C v900 4]⟩), .slice (some (Addr.mk n902 0 none)) 1 1]⟩)) s903)
def vc_spec_l13Both (w0 : World) (a0 : Value) (σ : Vw) (R : Value → Vw → Prop) : Prop :=
  AC P w0 n_spec_l4Tree [a0] σ fun v0 s1 => V true 5 v0 (AC P w0 n_p_spec_l1Rd_pick [a0, .int .i64 24] s1 fun v2 s3 => B P 3 .eql v2 (.int .i64 0) fun v4 => Q v4 (AC P w0 n_spec_l4Spoil ([a0, .agg (⟨[C v0 0, C v0 1, C v0 2, C v0 3, C v0 4]⟩)]) s3 fun v5 s6 => V true 5 v5 ((AC P w0 n_spec_l4Tree [a0] s6 fun v7 s8 => (W w0 9 [] s8 fun n9 s10 => V false 1 (.slice (some (Addr.mk n9 0 none)) 0 0) (V false 1 (.bool true) ((V true 2 (.agg (⟨[.slice (some (Addr.mk n9 0 none)) 0 0, .bool true]⟩)) (W w0 31 [.slice (some (Addr.mk n9 0 none)) 0 0, .bool true] s10 fun n11 s12 => V true 5 (.agg (⟨[C v5 0, C v5 1, C v5 2, C v5 3, C v5 4]⟩)) (cs_spec_l13Both_2 w0 v7 v5 n11 s12 R))) ∧ (V true 5 (.agg (⟨[C v5 0, C v5 1, C v5 2, C v5 3, C v5 4]⟩)) ((V true 2 (.agg (⟨[.slice (some (Addr.mk n9 0 none)) 0 0, .bool true]⟩)) (W w0 31 [.slice (some (Addr.mk n9 0 none)) 0 0, .bool true] s10 fun n13 s14 => cs_spec_l13Both_2 w0 v7 v5 n13 s14 R)) ∧ (V true 5 v7 (cs_spec_l13Both_1 w0 n9 s10 v5 v7 R))))))) ∧ (V true 5 (.agg (⟨[C v5 0, C v5 1, C v5 2, C v5 3, C v5 4]⟩)) ((W w0 9 [] s8 fun n17 s18 => V false 1 (.slice (some (Addr.mk n17 0 none)) 0 0) (V false 1 (.bool true) ((V true 2 (.agg (⟨[.slice (some (Addr.mk n17 0 none)) 0 0, .bool true]⟩)) (W w0 31 [.slice (some (Addr.mk n17 0 none)) 0 0, .bool true] s18 fun n19 s20 => cs_spec_l13Both_2 w0 v7 v5 n19 s20 R)) ∧ (V true 5 v7 (cs_spec_l13Both_1 w0 n17 s18 v5 v7 R))))) ∧ (V true 5 v7 (W w0 9 [] s8 fun n23 s24 => V false 1 (.slice (some (Addr.mk n23 0 none)) 0 0) (V false 1 (.bool true) (cs_spec_l13Both_1 w0 n23 s24 v5 v7 R))))))) ∧ (W w0 9 [] s6 fun n27 s28 => V false 1 (.slice (some (Addr.mk n27 0 none)) 0 0) (V false 1 (.bool true) ((AC P w0 n_spec_l4Tree [a0] s28 fun v29 s30 => (V true 2 (.agg (⟨[.slice (some (Addr.mk n27 0 none)) 0 0, .bool true]⟩)) (W w0 31 [.slice (some (Addr.mk n27 0 none)) 0 0, .bool true] s30 fun n31 s32 => V true 5 (.agg (⟨[C v5 0, C v5 1, C v5 2, C v5 3, C v5 4]⟩)) (cs_spec_l13Both_2 w0 v29 v5 n31 s32 R))) ∧ (V true 5 (.agg (⟨[C v5 0, C v5 1, C v5 2, C v5 3, C v5 4]⟩)) ((V true 2 (.agg (⟨[.slice (some (Addr.mk n27 0 none)) 0 0, .bool true]⟩)) (W w0 31 [.slice (some (Addr.mk n27 0 none)) 0 0, .bool true] s30 fun n33 s34 => cs_spec_l13Both_2 w0 v29 v5 n33 s34 R)) ∧ (V true 5 v29 (cs_spec_l13Both_1 w0 n27 s30 v5 v29 R))))) ∧ (V true 2 (.agg (⟨[.slice (some (Addr.mk n27 0 none)) 0 0, .bool true]⟩)) (W w0 31 [.slice (some (Addr.mk n27 0 none)) 0 0, .bool true] s28 fun n37 s38 => AC P w0 n_spec_l4Tree [a0] s38 fun v39 s40 => V true 5 (.agg (⟨[C v5 0, C v5 1, C v5 2, C v5 3, C v5 4]⟩)) (cs_spec_l13Both_2 w0 v39 v5 n37 s40 R)))))))) (AC P w0 n_p_spec_l1Rd_pick [a0, .int .i64 10] s3 fun v41 s42 => AC P w0 n_spec_l13Play ([a0, .agg (⟨[C v0 0, C v0 1, C v0 2, C v0 3, C v0 4]⟩), v41]) s42 fun v43 s44 => E v43 0 fun v45 => E v43 1 fun v46 => V true 5 v45 (AC P w0 n_p_spec_l1Rd_pick [a0, .int .i64 8] s44 fun v47 s48 => B P 3 .eql v47 (.int .i64 0) fun v49 => Q v49 (AC P w0 n_spec_l13Any ([a0, .agg (⟨[C v45 0, C v45 1, C v45 2, C v45 3, C v45 4]⟩)]) s48 fun v50 s51 => V true 5 (.agg (⟨[C v0 0, C v0 1, C v0 2, C v0 3, C v0 4]⟩)) (V true 5 (.agg (⟨[C v45 0, C v45 1, C v45 2, C v45 3, C v45 4]⟩)) (R (.tuple (⟨[.agg (⟨[C v0 0, C v0 1, C v0 2, C v0 3, C v0 4]⟩), .agg (⟨[C v45 0, C v45 1, C v45 2, C v45 3, C v45 4]⟩), v50]⟩)) s51))) (B P 3 .eql v47 (.int .i64 1) fun v52 => Q v52 (V true 5 (.agg (⟨[C v0 0, C v0 1, C v0 2, C v0 3, C v0 4]⟩)) (V true 5 (.agg (⟨[C v0 0, C v0 1, C v0 2, C v0 3, C v0 4]⟩)) (R (.tuple (⟨[.agg (⟨[C v0 0, C v0 1, C v0 2, C v0 3, C v0 4]⟩), .agg (⟨[C v0 0, C v0 1, C v0 2, C v0 3, C v0 4]⟩), v46]⟩)) s48))) (V true 5 (.agg (⟨[C v0 0, C v0 1, C v0 2, C v0 3, C v0 4]⟩)) (V true 5 (.agg (⟨[C v45 0, C v45 1, C v45 2, C v45 3, C v45 4]⟩)) (R (.tuple (⟨[.agg (⟨[C v0 0, C v0 1, C v0 2, C v0 3, C v0 4]⟩), .agg (⟨[C v45 0, C v45 1, C v45 2, C v45 3, C v45 4]⟩), v46]⟩)) s48)))))))

theorem vc_spec_l13Both_eq (w0 : World) (a0 : Value) (σ : Vw) (R : Value → Vw → Prop) : vc_spec_l13Both w0 a0 σ R = den Tryz.prog w0 kp_spec_l13Both esc_spec_l13Both (Tryz.f37.body.getD .skip) (entry Tryz.f37.ntmps [a0]) σ (retK Tryz.prog Tryz.f37.results.toList R) := by kernel_rfl
theorem ac_spec_l13Both {w0 : World} {a0 : Value} {σ : Vw} {R : Value → Vw → Prop} (h : vc_spec_l13Both w0 a0 σ R) : AC Tryz.prog w0 n_spec_l13Both [a0] σ R := by
  refine ac_rule (fn := Tryz.f37) (c := Tryz.f37.body.getD .skip) kp_spec_l13Both esc_spec_l13Both Tryz.func37 (by kernel_rfl) (by kernel_rfl) ?_
  rw [← vc_spec_l13Both_eq]
  exact h

/-- spec.l1Open -/
def kp_spec_l1Open : Nat → Keep
  | _ => ⟨[], [], [], .done, []⟩
def esc_spec_l1Open : Nat → Bool
  | 10 => true
  | _ => false
def vc_spec_l1Open (w0 : World) (a0 : Value) (σ : Vw) (R : Value → Vw → Prop) : Prop :=
  N a0 fun v0 => B P 3 .gtr v0 (.int .i64 2000) fun v1 => Q v1 (pSlice 1 a0 none (some (.int .i64 2000)) fun v2 => V false 1 v2 (V true 2 (.agg (⟨[v2, .int .i64 0]⟩)) (W w0 111 [v2, .int .i64 0] σ fun n3 s4 => R (.pointer (some (Addr.mk n3 0 none))) s4))) (V false 1 a0 (V true 2 (.agg (⟨[a0, .int .i64 0]⟩)) (W w0 111 [a0, .int .i64 0] σ fun n5 s6 => R (.pointer (some (Addr.mk n5 0 none))) s6)))
theorem vc_spec_l1Open_eq (w0 : World) (a0 : Value) (σ : Vw) (R : Value → Vw → Prop) : vc_spec_l1Open w0 a0 σ R = den Tryz.prog w0 kp_spec_l1Open esc_spec_l1Open (Tryz.f38.body.getD .skip) (entry Tryz.f38.ntmps [a0]) σ (retK Tryz.prog Tryz.f38.results.toList R) := by kernel_rfl
theorem ac_spec_l1Open {w0 : World} {a0 : Value} {σ : Vw} {R : Value → Vw → Prop} (h : vc_spec_l1Open w0 a0 σ R) : AC Tryz.prog w0 n_spec_l1Open [a0] σ R := by
  refine ac_rule (fn := Tryz.f38) (c := Tryz.f38.body.getD .skip) kp_spec_l1Open esc_spec_l1Open Tryz.func38 (by kernel_rfl) (by kernel_rfl) ?_
  rw [← vc_spec_l1Open_eq]
  exact h

/-- spec.l4Tree -/
def kp_spec_l4Tree : Nat → Keep
  | 3 => ⟨[0, 4], [(2, 5), (3, 5)], [2, 3], .done, []⟩
  | 5 => ⟨[], [], [], .step 0 (.step 3 (.step 4 (.step 7 (.step 1 (.step 2 (.step 5 (.step 6 (.step 8 (.done))))))))), [(1, [0]), (2, [0, 1]), (5, [0, 1, 3, 4]), (6, [0, 1, 2, 3, 4, 5]), (8, [0, 1, 2, 3, 4, 5, 6, 7])]⟩
  | 11 => ⟨[], [], [], .step 0 (.step 1 (.step 2 (.step 3 (.step 4 (.step 5 (.done)))))), [(3, [2]), (4, [0, 1, 2, 3]), (5, [0, 1, 2, 3, 4])]⟩
  | _ => ⟨[], [], [], .done, []⟩
def esc_spec_l4Tree : Nat → Bool
  | _ => false
def cs_spec_l4Tree_1 (w0 : World) (v900 : Value) (l901 : List Value) (K902 : AX → List Value → Vw → Prop) (s903 : Vw) (R : Value → Vw → Prop) : Prop :=
  E v900 0 (fun v500 => E v900 1 fun v501 => V true 5 v500 (B P 3 .eql v501 (.int .i64 0) fun v502 => Q v502 (V true 5 (.agg (⟨[C v500 0, C v500 1, C v500 2, C v500 3, C v500 4]⟩)) (B P 3 .sub (G l901 1) (.int .i64 1) fun v503 => K902 .normal [G l901 0, v503, G l901 2, G l901 3, G l901 4, G l901 5, G l901 6, C v500 0, C v500 1, C v500 2, C v500 3, C v500 4] s903)) (B P 3 .sub (G l901 1) (.int .i64 1) fun v504 => K902 .normal [G l901 0, v504, G l901 2, G l901 3, G l901 4, G l901 5, G l901 6, G l901 7, G l901 8, G l901 9, G l901 10, G l901 11] s903)))
def vc_spec_l4Tree (w0 : World) (a0 : Value) (σ : Vw) (R : Value → Vw → Prop) : Prop :=
  AC P w0 n_p_spec_l1Rd_pick [a0, .int .i64 8] σ fun v0 s1 => AC P w0 n_p_spec_l1Rd_pick [a0, .int .i64 2] s1 fun v2 s3 => B P 3 .mul v0 v2 fun v4 => V false 1 (.bool true) (V false 1 v4 (V true 5 (.agg (⟨[.bool true, v4, .string ({ data := #[] }), .slice none 0 0, .slice none 0 0]⟩)) (AC P w0 n_p_spec_l1Rd_pick [a0, .int .i64 12] s3 fun v5 s6 => pLoop (fun l7 K8 s9 => B P 3 .gtr (G l7 1) (.int .i64 0) fun v10 => Q v10 (AC P w0 n_p_spec_l1Rd_pick [G l7 0, .int .i64 2] s9 fun v11 s12 => B P 3 .add (.int .i64 1) v11 fun v13 => AC P w0 n_spec_l4Path ([G l7 0, .agg (⟨[G l7 7, G l7 8, G l7 9, G l7 10, G l7 11]⟩)]) s12 fun v14 s15 => V false 1 v13 (V false 1 v14 (V true 5 (.agg (⟨[v13, v14, .slice none 0 0, .int .i64 0, .string ({ data := #[] })]⟩)) (B P 3 .eql v13 (.int .i64 2) fun v16 => Q v16 (AC P w0 n_spec_l4Data [G l7 0] s15 fun v17 s18 => V false 1 v17 (AC P w0 n_spec_TreeDo ([.agg (⟨[G l7 7, G l7 8, G l7 9, G l7 10, G l7 11]⟩), .agg (⟨[v13, v14, .slice none 0 0, .int .i64 0, v17]⟩)]) s18 fun v19 s20 => cs_spec_l4Tree_1 w0 v19 l7 K8 s20 R)) (AC P w0 n_spec_TreeDo ([.agg (⟨[G l7 7, G l7 8, G l7 9, G l7 10, G l7 11]⟩), .agg (⟨[v13, v14, .slice none 0 0, .int .i64 0, .string ({ data := #[] })]⟩)]) s15 fun v26 s27 => cs_spec_l4Tree_1 w0 v26 l7 K8 s27 R))))) (K8 (.exit 0) [G l7 0, G l7 1, G l7 2, G l7 3, G l7 4, G l7 5, G l7 6, G l7 7, G l7 8, G l7 9, G l7 10, G l7 11] s9)) ([a0, v5, .bool false, .int .i64 0, .string ({ data := #[] }), .slice none 0 0, .slice none 0 0, .bool true, v4, .string ({ data := #[] }), .slice none 0 0, .slice none 0 0]) s6 fun x33 l34 s35 => match x33 with | .normal => AC P w0 n_p_spec_l1Rd_pick [G l34 0, .int .i64 6] s35 (fun v36 s37 => AC P w0 n_spec_l4Calls ([G l34 0, .agg (⟨[G l34 7, G l34 8, G l34 9, G l34 10, G l34 11]⟩), v36]) s37 fun v38 s39 => V true 5 v38 (R (.agg (⟨[C v38 0, C v38 1, C v38 2, C v38 3, C v38 4]⟩)) s39)) | .ret => R (.agg (⟨[G l34 2, G l34 3, G l34 4, G l34 5, G l34 6]⟩)) s35 | .exit i40 => (match Nat.beq i40 0 with | true => AC P w0 n_p_spec_l1Rd_pick [G l34 0, .int .i64 6] s35 (fun v41 s42 => AC P w0 n_spec_l4Calls ([G l34 0, .agg (⟨[G l34 7, G l34 8, G l34 9, G l34 10, G l34 11]⟩), v41]) s42 fun v43 s44 => V true 5 v43 (R (.agg (⟨[C v43 0, C v43 1, C v43 2, C v43 3, C v43 4]⟩)) s44)) | false => False))))

theorem vc_spec_l4Tree_eq (w0 : World) (a0 : Value) (σ : Vw) (R : Value → Vw → Prop) : vc_spec_l4Tree w0 a0 σ R = den Tryz.prog w0 kp_spec_l4Tree esc_spec_l4Tree (Tryz.f39.body.getD .skip) (entry Tryz.f39.ntmps [a0]) σ (retK Tryz.prog Tryz.f39.results.toList R) := by kernel_rfl
theorem ac_spec_l4Tree {w0 : World} {a0 : Value} {σ : Vw} {R : Value → Vw → Prop} (h : vc_spec_l4Tree w0 a0 σ R) : AC Tryz.prog w0 n_spec_l4Tree [a0] σ R := by
  refine ac_rule (fn := Tryz.f39) (c := Tryz.f39.body.getD .skip) kp_spec_l4Tree esc_spec_l4Tree Tryz.func39 (by kernel_rfl) (by kernel_rfl) ?_
  rw [← vc_spec_l4Tree_eq]
  exact h

/-- spec.l13Any -/
def kp_spec_l13Any : Nat → Keep
  | _ => ⟨[], [], [], .done, []⟩
def esc_spec_l13Any : Nat → Bool
  | _ => false
def vc_spec_l13Any (w0 : World) (a0 a1 : Value) (σ : Vw) (R : Value → Vw → Prop) : Prop :=
  V true 5 a1 (AC P w0 n_spec_l13Trail ([a0, .agg (⟨[C a1 0, C a1 1, C a1 2, C a1 3, C a1 4]⟩)]) σ fun v0 s1 => AC P w0 n_p_spec_l1Rd_pick [a0, .int .i64 20] s1 fun v2 s3 => B P 3 .eql v2 (.int .i64 0) fun v4 => Q v4 (AC P w0 n_spec_l13Spoil [a0, v0] s3 fun v5 s6 => R v5 s6) (R v0 s3))
theorem vc_spec_l13Any_eq (w0 : World) (a0 a1 : Value) (σ : Vw) (R : Value → Vw → Prop) : vc_spec_l13Any w0 a0 a1 σ R = den Tryz.prog w0 kp_spec_l13Any esc_spec_l13Any (Tryz.f40.body.getD .skip) (entry Tryz.f40.ntmps [a0, a1]) σ (retK Tryz.prog Tryz.f40.results.toList R) := by kernel_rfl
theorem ac_spec_l13Any {w0 : World} {a0 a1 : Value} {σ : Vw} {R : Value → Vw → Prop} (h : vc_spec_l13Any w0 a0 a1 σ R) : AC Tryz.prog w0 n_spec_l13Any [a0, a1] σ R := by
  refine ac_rule (fn := Tryz.f40) (c := Tryz.f40.body.getD .skip) kp_spec_l13Any esc_spec_l13Any Tryz.func40 (by kernel_rfl) (by kernel_rfl) ?_
  rw [← vc_spec_l13Any_eq]
  exact h

/-- spec.l13Mark -/
def kp_spec_l13Mark : Nat → Keep
  | _ => ⟨[], [], [], .done, []⟩
def esc_spec_l13Mark : Nat → Bool
  | 17 => true
  | 22 => true
  | 24 => true
  | _ => false
def vc_spec_l13Mark (w0 : World) (a0 a1 : Value) (σ : Vw) (R : Value → Vw → Prop) : Prop :=
  V true 5 a1 (AC P w0 n_spec_l4Path ([a0, .agg (⟨[C a1 0, C a1 1, C a1 2, C a1 3, C a1 4]⟩)]) σ fun v0 s1 => AC P w0 n_p_spec_l1Rd_pick [a0, .int .i64 4] s1 fun v2 s3 => B P 3 .eql v2 (.int .i64 0) fun v4 => V false 1 v0 (V false 1 v4 (V true 2 (.agg (⟨[v0, v4]⟩)) (AC P w0 n_p_spec_l1Rd_pick [a0, .int .i64 20] s3 fun v5 s6 => B P 3 .eql v5 (.int .i64 0) fun v7 => Q v7 (W w0 9 [] s6 fun n8 s9 => V false 1 (.slice (some (Addr.mk n8 0 none)) 0 0) (V true 2 (.agg (⟨[.slice (some (Addr.mk n8 0 none)) 0 0, v4]⟩)) (R (.agg (⟨[.slice (some (Addr.mk n8 0 none)) 0 0, v4]⟩)) s9))) (B P 3 .eql v5 (.int .i64 1) fun v10 => Q v10 (V false 1 (.string ({ data := #[] })) (V false 1 (.string ({ data := #[65] })) (V false 1 (.string ({ data := #[97] })) (W w0 9 ([.string ({ data := #[] }), .string ({ data := #[65] }), .string ({ data := #[97] })]) s6 fun n11 s12 => AC P w0 n_p_spec_l1Rd_of [a0, .slice (some (Addr.mk n11 0 none)) 3 3] s12 fun v13 s14 => V false 1 v13 (W w0 9 [v13] s14 fun n15 s16 => V false 1 (.slice (some (Addr.mk n15 0 none)) 1 1) (V true 2 (.agg (⟨[.slice (some (Addr.mk n15 0 none)) 1 1, v4]⟩)) (R (.agg (⟨[.slice (some (Addr.mk n15 0 none)) 1 1, v4]⟩)) s16))))))) (V true 2 (.agg (⟨[v0, v4]⟩)) (R (.agg (⟨[v0, v4]⟩)) s6)))))))
theorem vc_spec_l13Mark_eq (w0 : World) (a0 a1 : Value) (σ : Vw) (R : Value → Vw → Prop) : vc_spec_l13Mark w0 a0 a1 σ R = den Tryz.prog w0 kp_spec_l13Mark esc_spec_l13Mark (Tryz.f41.body.getD .skip) (entry Tryz.f41.ntmps [a0, a1]) σ (retK Tryz.prog Tryz.f41.results.toList R) := by kernel_rfl
theorem ac_spec_l13Mark {w0 : World} {a0 a1 : Value} {σ : Vw} {R : Value → Vw → Prop} (h : vc_spec_l13Mark w0 a0 a1 σ R) : AC Tryz.prog w0 n_spec_l13Mark [a0, a1] σ R := by
  refine ac_rule (fn := Tryz.f41) (c := Tryz.f41.body.getD .skip) kp_spec_l13Mark esc_spec_l13Mark Tryz.func41 (by kernel_rfl) (by kernel_rfl) ?_
  rw [← vc_spec_l13Mark_eq]
  exact h

/-- impl.TreeOk -/
def kp_impl_TreeOk : Nat → Keep
  | _ => ⟨[], [], [], .done, []⟩
def esc_impl_TreeOk : Nat → Bool
  | _ => false
def vc_impl_TreeOk (w0 : World) (a0 : Value) (σ : Vw) (R : Value → Vw → Prop) : Prop :=
  V true 5 a0 (Q (C a0 0) (AC P w0 n_impl_Tree_sound ([.agg (⟨[C a0 0, C a0 1, C a0 2, C a0 3, C a0 4]⟩), .int .i64 0]) σ fun v0 s1 => Q v0 (AC P w0 n_impl_Tree_paths ([.agg (⟨[C a0 0, C a0 1, C a0 2, C a0 3, C a0 4]⟩)]) s1 fun v2 s3 => B P 3 .leq v2 (.int .i64 31) fun v4 => R v4 s3) (R (.bool false) s1)) (R (.bool false) σ))
theorem vc_impl_TreeOk_eq (w0 : World) (a0 : Value) (σ : Vw) (R : Value → Vw → Prop) : vc_impl_TreeOk w0 a0 σ R = den Tryz.prog w0 kp_impl_TreeOk esc_impl_TreeOk (Tryz.f42.body.getD .skip) (entry Tryz.f42.ntmps [a0]) σ (retK Tryz.prog Tryz.f42.results.toList R) := by kernel_rfl
theorem ac_impl_TreeOk {w0 : World} {a0 : Value} {σ : Vw} {R : Value → Vw → Prop} (h : vc_impl_TreeOk w0 a0 σ R) : AC Tryz.prog w0 n_impl_TreeOk [a0] σ R := by
  refine ac_rule (fn := Tryz.f42) (c := Tryz.f42.body.getD .skip) kp_impl_TreeOk esc_impl_TreeOk Tryz.func42 (by kernel_rfl) (by kernel_rfl) ?_
  rw [← vc_impl_TreeOk_eq]
  exact h

/-- impl.look -/
def kp_impl_look : Nat → Keep
  | 2 => ⟨[], [], [], .step 0 (.step 1 (.step 2 (.step 3 (.step 5 (.step 6 (.step 7 (.step 4 (.step 8 (.step 9 (.step 10 (.done))))))))))), [(2, [1]), (3, [1, 2]), (4, [0, 1, 2, 3]), (6, [5]), (7, [5, 6]), (8, [0, 1, 2, 3, 4, 5, 6, 7]), (9, [0, 1, 2, 3, 4, 5, 6, 7, 8]), (10, [0, 1, 2, 3, 4, 5, 6, 7, 8, 9])]⟩
  | 5 => ⟨[], [], [], .step 0 (.step 1 (.step 2 (.step 3 (.step 4 (.step 5 (.step 6 (.step 7 (.step 8 (.step 9 (.done)))))))))), [(1, [0]), (2, [0, 1]), (3, [0, 1, 2]), (5, [4]), (6, [4, 5]), (7, [4, 5, 6]), (8, [0, 1, 2, 3, 4, 5, 6, 7]), (9, [0, 1, 2, 3, 4, 5, 6, 7, 8])]⟩
  | 6 => ⟨[], [], [], .step 0 (.step 1 (.step 2 (.step 4 (.step 5 (.step 6 (.step 3 (.step 7 (.step 8 (.step 9 (.done)))))))))), [(3, [0, 1, 2]), (5, [4]), (6, [4, 5]), (7, [0, 1, 2, 3, 4, 5, 6]), (8, [0, 1, 2, 3, 4, 5, 6, 7]), (9, [0, 1, 2, 3, 4, 5, 6, 7, 8])]⟩
  | 11 => ⟨[], [], [], .step 0 (.step 1 (.step 2 (.step 3 (.step 4 (.step 5 (.step 6 (.step 7 (.step 8 (.done))))))))), [(2, [1]), (3, [1, 2]), (5, [4]), (6, [4, 5]), (7, [0, 1, 2, 3, 4, 5, 6]), (8, [0, 1, 2, 3, 4, 5, 6, 7])]⟩
  | 13 => ⟨[0, 1, 2, 3, 10, 11, 78, 79, 80], [], [], .done, []⟩
  | _ => ⟨[], [], [], .done, []⟩
def esc_impl_look : Nat → Bool
  | 34 => true
  | 64 => true
  | _ => false
def cs_impl_look_1 (w0 : World) (l900 : List Value) (s901 : Vw) (K902 : AX → List Value → Vw → Prop) (R : Value → Vw → Prop) : Prop :=
  B P 3 .lss (G l900 8) (G l900 7) (fun v500 => Q v500 (X 1 (G l900 6) (G l900 8) fun v501 => L w0 1 v501 s901 fun g502 => AC P w0 n_impl_below [G l900 0, g502 0] s901 fun v503 s504 => AC P w0 n_impl_leads [G l900 3, v503] s504 fun v505 s506 => Q v505 (AC P w0 n_p_impl_Tree_kid [G l900 1, g502 0] s506 fun v507 s508 => AC P w0 n_p_impl_Tree_kid [G l900 2, g502 0] s508 fun v509 s510 => AC P w0 n_impl_look [v503, v507, v509, G l900 3] s510 fun v511 s512 => E v511 0 fun v513 => E v511 1 fun v514 => pAppendS w0 80 5 64 (G l900 4) v513 s512 fun v515 s516 => B P 3 .add (G l900 5) v514 fun v517 => B P 3 .add (G l900 8) (.int .i64 1) fun v518 => K902 .normal [G l900 0, G l900 1, G l900 2, G l900 3, v515, v517, G l900 6, G l900 7, v518] s516) (B P 3 .add (G l900 8) (.int .i64 1) fun v519 => K902 .normal [G l900 0, G l900 1, G l900 2, G l900 3, G l900 4, G l900 5, G l900 6, G l900 7, v519] s506)) (K902 (.exit 1) [G l900 0, G l900 1, G l900 2, G l900 3, G l900 4, G l900 5, G l900 6, G l900 7, G l900 8] s901))
def vc_impl_look (w0 : World) (a0 a1 a2 a3 : Value) (σ : Vw) (R : Value → Vw → Prop) : Prop :=
  B P 73 .eql a1 (.pointer none) fun v0 => Q v0 (pNil a2 (L w0 5 a2 σ fun g1 => pNil a2 (L w0 5 a2 σ fun g2 => AC P w0 n_impl_fresh ([a0, .agg (⟨[g1 0, g1 1, g1 2, g1 3, g1 4]⟩)]) σ fun v3 s4 => (Stay w0 σ s4 a2 5) ∧ (AC P w0 n_impl_Tree_paths ([.agg (⟨[g2 0, g2 1, g2 2, g2 3, g2 4]⟩)]) s4 fun v5 s6 => R (.tuple (⟨[v3, v5]⟩)) s6)))) (B P 73 .eql a2 (.pointer none) fun v7 => Q v7 (AC P w0 n_impl_gone [a0] σ fun v8 s9 => V true 5 v8 (W w0 80 [C v8 0, C v8 1, C v8 2, C v8 3, C v8 4] s9 fun n10 s11 => R (.tuple (⟨[.slice (some (Addr.mk n10 0 none)) 1 1, .int .i64 1]⟩)) s11)) (pNil a1 (F 0 a1 fun v12 => L w0 1 v12 σ fun g13 => pNil a2 (F 0 a2 fun v14 => L w0 1 v14 σ fun g15 => B P 4 .neq (g13 0) (g15 0) fun v16 => Q v16 (pNil a2 (L w0 5 a2 σ fun g17 => AC P w0 n_impl_walk [a0, a1, a2] σ fun v18 s19 => (Stay w0 σ s19 a2 5) ∧ (AC P w0 n_impl_Tree_paths ([.agg (⟨[g17 0, g17 1, g17 2, g17 3, g17 4]⟩)]) s19 fun v20 s21 => R (.tuple (⟨[v18, v20]⟩)) s21))) (AC P w0 n_impl_under [a3, a0] σ fun v22 s23 => Q v22 (AC P w0 n_impl_walk [a0, a1, a2] s23 fun v24 s25 => AC P w0 n_impl_both [a1, a2] s25 fun v26 s27 => R (.tuple (⟨[v24, v26]⟩)) s27) (W w0 80 [] s23 fun n28 s29 => AC P w0 n_impl_marked [a3, a0] s29 fun v30 s31 => Q v30 (pNil a1 (L w0 5 a1 s31 fun g32 => pNil a2 (L w0 5 a2 s31 fun g33 => AC P w0 n_impl_changes ([a0, .agg (⟨[g32 0, g32 1, g32 2, g32 3, g32 4]⟩), .agg (⟨[g33 0, g33 1, g33 2, g33 3, g33 4]⟩)]) s31 fun v34 s35 => AC P w0 n_impl_either [a1, a2] s35 fun v36 s37 => N v36 fun v38 => pLoop (fun l39 K40 s41 => cs_impl_look_1 w0 l39 s41 K40 R) [a0, a1, a2, a3, v34, .int .i64 1, v36, v38, .int .i64 0] s37 fun x62 l63 s64 => match x62 with | .normal => R (.tuple (⟨[G l63 4, G l63 5]⟩)) s64 | .ret => False | .exit i65 => (match Nat.beq i65 1 with | true => R (.tuple (⟨[G l63 4, G l63 5]⟩)) s64 | false => False)))) (AC P w0 n_impl_either [a1, a2] s31 fun v66 s67 => N v66 fun v68 => pLoop (fun l69 K70 s71 => cs_impl_look_1 w0 l69 s71 K70 R) [a0, a1, a2, a3, .slice (some (Addr.mk n28 0 none)) 0 0, .int .i64 1, v66, v68, .int .i64 0] s67 fun x92 l93 s94 => match x92 with | .normal => R (.tuple (⟨[G l93 4, G l93 5]⟩)) s94 | .ret => False | .exit i95 => (match Nat.beq i95 1 with | true => R (.tuple (⟨[G l93 4, G l93 5]⟩)) s94 | false => False))))))))

theorem vc_impl_look_eq (w0 : World) (a0 a1 a2 a3 : Value) (σ : Vw) (R : Value → Vw → Prop) : vc_impl_look w0 a0 a1 a2 a3 σ R = den Tryz.prog w0 kp_impl_look esc_impl_look (Tryz.f43.body.getD .skip) (entry Tryz.f43.ntmps [a0, a1, a2, a3]) σ (retK Tryz.prog Tryz.f43.results.toList R) := by kernel_rfl
theorem ac_impl_look {w0 : World} {a0 a1 a2 a3 : Value} {σ : Vw} {R : Value → Vw → Prop} (h : vc_impl_look w0 a0 a1 a2 a3 σ R) : AC Tryz.prog w0 n_impl_look [a0, a1, a2, a3] σ R := by
  refine ac_rule (fn := Tryz.f43) (c := Tryz.f43.body.getD .skip) kp_impl_look esc_impl_look Tryz.func43 (by kernel_rfl) (by kernel_rfl) ?_
  rw [← vc_impl_look_eq]
  exact h

/-- spec.TreeOk -/
def kp_spec_TreeOk : Nat → Keep
  | _ => ⟨[], [], [], .done, []⟩
def esc_spec_TreeOk : Nat → Bool
  | _ => false
def vc_spec_TreeOk (w0 : World) (a0 : Value) (σ : Vw) (R : Value → Vw → Prop) : Prop :=
  V true 5 a0 (Q (C a0 0) (AC P w0 n_spec_l1Parts ([.agg (⟨[C a0 0, C a0 1, C a0 2, C a0 3, C a0 4]⟩), .int .i64 0]) σ fun v0 s1 => Q v0 (AC P w0 n_spec_l1Count ([.agg (⟨[C a0 0, C a0 1, C a0 2, C a0 3, C a0 4]⟩)]) s1 fun v2 s3 => B P 3 .leq v2 (.int .i64 30) fun v4 => R v4 s3) (R (.bool false) s1)) (R (.bool false) σ))
theorem vc_spec_TreeOk_eq (w0 : World) (a0 : Value) (σ : Vw) (R : Value → Vw → Prop) : vc_spec_TreeOk w0 a0 σ R = den Tryz.prog w0 kp_spec_TreeOk esc_spec_TreeOk (Tryz.f44.body.getD .skip) (entry Tryz.f44.ntmps [a0]) σ (retK Tryz.prog Tryz.f44.results.toList R) := by kernel_rfl
theorem ac_spec_TreeOk {w0 : World} {a0 : Value} {σ : Vw} {R : Value → Vw → Prop} (h : vc_spec_TreeOk w0 a0 σ R) : AC Tryz.prog w0 n_spec_TreeOk [a0] σ R := by
  refine ac_rule (fn := Tryz.f44) (c := Tryz.f44.body.getD .skip) kp_spec_TreeOk esc_spec_TreeOk Tryz.func44 (by kernel_rfl) (by kernel_rfl) ?_
  rw [← vc_spec_TreeOk_eq]
  exact h

/-- (*spec.l12Look).at -/
def kp_p_spec_l12Look_at : Nat → Keep
  | 2 => ⟨[], [], [], .step 0 (.step 1 (.step 2 (.step 3 (.step 4 (.step 5 (.step 6 (.step 7 (.step 8 (.step 9 (.step 10 (.step 11 (.done)))))))))))), [(2, [1]), (3, [1, 2]), (4, [1, 2, 3]), (7, [5, 6]), (8, [1, 2, 3, 4, 5, 6, 7]), (9, [0, 1, 2, 3, 4, 5, 6, 7, 8]), (10, [0, 1, 2, 3, 4, 5, 6, 7, 8, 9]), (11, [0, 1, 2, 3, 4, 5, 6, 7, 8, 9, 10])]⟩
  | 3 => ⟨[], [], [], .step 0 (.step 1 (.step 2 (.step 3 (.step 4 (.step 5 (.step 6 (.step 7 (.step 8 (.step 9 (.step 10 (.step 11 (.done)))))))))))), [(2, [1]), (3, [1, 2]), (4, [1, 2, 3]), (7, [5, 6]), (8, [1, 2, 3, 4, 5, 6, 7]), (9, [0, 1, 2, 3, 4, 5, 6, 7, 8]), (10, [0, 1, 2, 3, 4, 5, 6, 7, 8, 9]), (11, [0, 1, 2, 3, 4, 5, 6, 7, 8, 9, 10])]⟩
  | 6 => ⟨[], [], [], .step 0 (.step 1 (.step 2 (.step 3 (.step 4 (.step 5 (.step 6 (.step 7 (.step 8 (.step 9 (.step 10 (.done))))))))))), [(2, [1]), (3, [1, 2]), (4, [1, 2, 3]), (6, [5]), (7, [1, 2, 3, 4, 5, 6]), (8, [0, 1, 2, 3, 4, 5, 6, 7]), (9, [0, 1, 2, 3, 4, 5, 6, 7, 8]), (10, [0, 1, 2, 3, 4, 5, 6, 7, 8, 9])]⟩
  | 8 => ⟨[], [], [], .step 0 (.step 1 (.step 2 (.step 3 (.step 4 (.step 5 (.step 6 (.step 7 (.step 8 (.step 9 (.step 10 (.step 11 (.done)))))))))))), [(2, [1]), (3, [1, 2]), (4, [1, 2, 3]), (7, [5, 6]), (8, [1, 2, 3, 4, 5, 6, 7]), (9, [0, 1, 2, 3, 4, 5, 6, 7, 8]), (10, [0, 1, 2, 3, 4, 5, 6, 7, 8, 9]), (11, [0, 1, 2, 3, 4, 5, 6, 7, 8, 9, 10])]⟩
  | 9 => ⟨[], [], [], .step 0 (.step 1 (.step 2 (.step 3 (.step 4 (.step 5 (.step 8 (.step 9 (.step 6 (.step 7 (.step 10 (.step 11 (.step 12 (.step 13 (.step 14 (.done))))))))))))))), [(2, [1]), (3, [1, 2]), (4, [1, 2, 3]), (6, [5]), (7, [1, 2, 3, 4, 5, 6]), (10, [1, 2, 3, 4, 5, 6, 7, 8, 9]), (11, [1, 2, 3, 4, 5, 6, 7, 8, 9, 10]), (12, [0, 1, 2, 3, 4, 5, 6, 7, 8, 9, 10, 11]), (13, [0, 1, 2, 3, 4, 5, 6, 7, 8, 9, 10, 11, 12]), (14, [0, 1, 2, 3, 4, 5, 6, 7, 8, 9, 10, 11, 12, 13])]⟩
  | 11 => ⟨[], [], [], .step 0 (.step 1 (.step 2 (.step 3 (.step 4 (.step 5 (.step 6 (.step 7 (.step 8 (.step 9 (.step 10 (.step 11 (.done)))))))))))), [(2, [1]), (3, [1, 2]), (4, [1, 2, 3]), (7, [5, 6]), (8, [1, 2, 3, 4, 5, 6, 7]), (9, [0, 1, 2, 3, 4, 5, 6, 7, 8]), (10, [0, 1, 2, 3, 4, 5, 6, 7, 8, 9]), (11, [0, 1, 2, 3, 4, 5, 6, 7, 8, 9, 10])]⟩
  | 12 => ⟨[], [], [], .step 0 (.step 1 (.step 2 (.step 3 (.step 4 (.step 5 (.step 6 (.step 7 (.step 8 (.step 9 (.step 10 (.step 11 (.step 12 (.done))))))))))))), [(2, [1]), (3, [1, 2]), (4, [1, 2, 3]), (8, [5, 6, 7]), (9, [1, 2, 3, 4, 5, 6, 7, 8]), (10, [0, 1, 2, 3, 4, 5, 6, 7, 8, 9]), (11, [0, 1, 2, 3, 4, 5, 6, 7, 8, 9, 10]), (12, [0, 1, 2, 3, 4, 5, 6, 7, 8, 9, 10, 11])]⟩
  | 15 => ⟨[], [], [], .step 0 (.step 1 (.step 2 (.step 3 (.step 4 (.step 5 (.step 6 (.step 7 (.step 8 (.step 9 (.step 10 (.step 11 (.step 12 (.done))))))))))))), [(2, [1]), (3, [1, 2]), (4, [1, 2, 3]), (8, [5, 6, 7]), (9, [1, 2, 3, 4, 5, 6, 7, 8]), (10, [0, 1, 2, 3, 4, 5, 6, 7, 8, 9]), (11, [0, 1, 2, 3, 4, 5, 6, 7, 8, 9, 10]), (12, [0, 1, 2, 3, 4, 5, 6, 7, 8, 9, 10, 11])]⟩
  | 18 => ⟨[0, 1, 12, 13], [(8, 5), (10, 5)], [8, 10], .done, []⟩
  | 22 => ⟨[], [], [], .step 0 (.step 1 (.step 2 (.step 3 (.step 4 (.step 9 (.step 5 (.step 6 (.step 7 (.step 8 (.step 10 (.step 11 (.done)))))))))))), [(3, [1, 2]), (4, [1, 2, 3]), (5, [0, 1, 2, 3, 4]), (6, [0, 1, 2, 3, 4, 5]), (7, [0, 1, 2, 3, 4, 5, 6]), (8, [0, 1, 2, 3, 4, 5, 6]), (10, [0, 1, 2, 3, 4, 5, 6, 7, 9]), (11, [0, 1, 2, 3, 4, 5, 6, 7, 8, 9, 10])]⟩
  | 23 => ⟨[], [], [], .step 0 (.step 1 (.step 2 (.step 3 (.step 4 (.step 9 (.step 5 (.step 6 (.step 7 (.step 8 (.step 10 (.step 11 (.done)))))))))))), [(3, [1, 2]), (4, [1, 2, 3]), (5, [0, 1, 2, 3, 4]), (6, [0, 1, 2, 3, 4, 5]), (7, [0, 1, 2, 3, 4, 5, 6]), (8, [0, 1, 2, 3, 4, 5, 6]), (10, [0, 1, 2, 3, 4, 5, 6, 7, 9]), (11, [0, 1, 2, 3, 4, 5, 6, 7, 8, 9, 10])]⟩
  | _ => ⟨[], [], [], .done, []⟩
def esc_p_spec_l12Look_at : Nat → Bool
  | _ => false
def cs_p_spec_l12Look_at_1 (w0 : World) (v900 : Value) (v901 : Value) (s902 : Vw) (v903 : Value) (v904 : Value) (R : Value → Vw → Prop) : Prop :=
  AC P w0 n_spec_l12Names ([.agg (⟨[C v900 0, C v900 1, C v900 2, C v900 3, C v900 4]⟩), .agg (⟨[C v901 0, C v901 1, C v901 2, C v901 3, C v901 4]⟩)]) s902 (fun v500 s501 => pLoop (fun l502 K503 s504 => N (G l502 2) fun v505 => B P 3 .lss (G l502 3) v505 fun v506 => Q v506 (X 1 (G l502 2) (G l502 3) fun v507 => L w0 1 v507 s504 fun g508 => AC P w0 n_spec_l3Path [G l502 1, g508 0] s504 fun v509 s510 => AC P w0 n_p_spec_l12Look_leads [G l502 0, v509] s510 fun v511 s512 => Q v511 (X 1 (G l502 2) (G l502 3) fun v513 => L w0 1 v513 s512 fun g514 => AC P w0 n_spec_l12Kid ([.agg (⟨[G l502 4, G l502 5, G l502 6, G l502 7, G l502 8]⟩), g514 0]) s512 fun v515 s516 => E v515 0 fun v517 => E v515 1 fun v518 => V true 5 v517 (X 1 (G l502 2) (G l502 3) fun v519 => L w0 1 v519 s516 fun g520 => AC P w0 n_spec_l12Kid ([.agg (⟨[G l502 9, G l502 10, G l502 11, G l502 12, G l502 13]⟩), g520 0]) s516 fun v521 s522 => E v521 0 fun v523 => E v521 1 fun v524 => V true 5 v523 (AC P w0 n_p_spec_l12Look_at ([G l502 0, v509, .agg (⟨[C v517 0, C v517 1, C v517 2, C v517 3, C v517 4]⟩), v518, .agg (⟨[C v523 0, C v523 1, C v523 2, C v523 3, C v523 4]⟩), v524]) s522 fun v525 s526 => B P 3 .add (G l502 3) (.int .i64 1) fun v527 => K503 .normal [G l502 0, G l502 1, G l502 2, v527, G l502 4, G l502 5, G l502 6, G l502 7, G l502 8, G l502 9, G l502 10, G l502 11, G l502 12, G l502 13] s526))) (B P 3 .add (G l502 3) (.int .i64 1) fun v528 => K503 .normal [G l502 0, G l502 1, G l502 2, v528, G l502 4, G l502 5, G l502 6, G l502 7, G l502 8, G l502 9, G l502 10, G l502 11, G l502 12, G l502 13] s512)) (K503 (.exit 1) [G l502 0, G l502 1, G l502 2, G l502 3, G l502 4, G l502 5, G l502 6, G l502 7, G l502 8, G l502 9, G l502 10, G l502 11, G l502 12, G l502 13] s504)) [v903, v904, v500, .int .i64 0, C v900 0, C v900 1, C v900 2, C v900 3, C v900 4, C v901 0, C v901 1, C v901 2, C v901 3, C v901 4] s501 fun x529 l530 s531 => match x529 with | .normal => R (.tuple ⟨[]⟩) s531 | .ret => R (.tuple ⟨[]⟩) s531 | .exit i532 => (match Nat.beq i532 1 with | true => R (.tuple ⟨[]⟩) s531 | false => False))
def vc_p_spec_l12Look_at (w0 : World) (a0 a1 a2 a3 a4 a5 : Value) (σ : Vw) (R : Value → Vw → Prop) : Prop :=
  V true 5 a2 (V true 5 a4 (pUn .not a3 fun v0 => Q v0 (pNil a0 (F 2 a0 fun v1 => L w0 1 v1 σ fun g2 => AC P w0 n_spec_l12Union ([.agg (⟨[C a4 0, C a4 1, C a4 2, C a4 3, C a4 4]⟩), .agg (⟨[.bool false, .int .i64 0, .string ({ data := #[] }), .slice none 0 0, .slice none 0 0]⟩)]) σ fun v3 s4 => (Stay w0 σ s4 v1 1) ∧ (B P 3 .add (g2 0) v3 fun v5 => pNil a0 (F 2 a0 fun v6 => V false 1 v5 (pStore v6 [v5] s4 fun s7 => pNil a0 (F 1 a0 fun v8 => L w0 1 v8 s7 fun g9 => AC P w0 n_spec_l3New ([a1, .agg (⟨[C a4 0, C a4 1, C a4 2, C a4 3, C a4 4]⟩)]) s7 fun v10 s11 => (Stay w0 s7 s11 v8 1) ∧ (pAppendS w0 80 5 64 (g9 0) v10 s11 fun v12 s13 => pNil a0 (F 1 a0 fun v14 => V false 1 v12 (pStore v14 [v12] s13 fun s15 => R (.tuple ⟨[]⟩) s15))))))))) (pUn .not a5 fun v16 => Q v16 (pNil a0 (F 2 a0 fun v17 => L w0 1 v17 σ fun g18 => B P 3 .add (g18 0) (.int .i64 1) fun v19 => pNil a0 (F 2 a0 fun v20 => V false 1 v19 (pStore v20 [v19] σ fun s21 => pNil a0 (F 1 a0 fun v22 => L w0 1 v22 s21 fun g23 => AC P w0 n_spec_l3Gone [a1] s21 fun v24 s25 => (Stay w0 s21 s25 v22 1) ∧ (pAppendS w0 80 5 64 (g23 0) v24 s25 fun v26 s27 => pNil a0 (F 1 a0 fun v28 => V false 1 v26 (pStore v28 [v26] s27 fun s29 => R (.tuple ⟨[]⟩) s29)))))))) (B P 4 .neq (C a2 0) (C a4 0) fun v30 => Q v30 (pNil a0 (F 2 a0 fun v31 => L w0 1 v31 σ fun g32 => AC P w0 n_spec_l12Union ([.agg (⟨[C a4 0, C a4 1, C a4 2, C a4 3, C a4 4]⟩), .agg (⟨[.bool false, .int .i64 0, .string ({ data := #[] }), .slice none 0 0, .slice none 0 0]⟩)]) σ fun v33 s34 => (Stay w0 σ s34 v31 1) ∧ (B P 3 .add (g32 0) v33 fun v35 => pNil a0 (F 2 a0 fun v36 => V false 1 v35 (pStore v36 [v35] s34 fun s37 => pNil a0 (F 1 a0 fun v38 => L w0 1 v38 s37 fun g39 => AC P w0 n_spec_l3Gone [a1] s37 fun v40 s41 => (Stay w0 s37 s41 v38 1) ∧ (pAppendS w0 80 5 64 (g39 0) v40 s41 fun v42 s43 => AC P w0 n_spec_l3New ([a1, .agg (⟨[C a4 0, C a4 1, C a4 2, C a4 3, C a4 4]⟩)]) s43 fun v44 s45 => pAppendS w0 80 5 64 v42 v44 s45 fun v46 s47 => pNil a0 (F 1 a0 fun v48 => V false 1 v46 (pStore v48 [v46] s47 fun s49 => R (.tuple ⟨[]⟩) s49))))))))) (pNil a0 (F 0 a0 fun v50 => L w0 1 v50 σ fun g51 => AC P w0 n_spec_l11Under [g51 0, a1] σ fun v52 s53 => Q v52 (pNil a0 (F 2 a0 fun v54 => L w0 1 v54 s53 fun g55 => AC P w0 n_spec_l12Union ([.agg (⟨[C a2 0, C a2 1, C a2 2, C a2 3, C a2 4]⟩), .agg (⟨[C a4 0, C a4 1, C a4 2, C a4 3, C a4 4]⟩)]) s53 fun v56 s57 => (Stay w0 s53 s57 v54 1) ∧ (B P 3 .add (g55 0) v56 fun v58 => pNil a0 (F 2 a0 fun v59 => V false 1 v58 (pStore v59 [v58] s57 fun s60 => pNil a0 (F 1 a0 fun v61 => L w0 1 v61 s60 fun g62 => AC P w0 n_spec_l3Walk ([a1, .agg (⟨[C a2 0, C a2 1, C a2 2, C a2 3, C a2 4]⟩), .agg (⟨[C a4 0, C a4 1, C a4 2, C a4 3, C a4 4]⟩)]) s60 fun v63 s64 => (Stay w0 s60 s64 v61 1) ∧ (pAppendS w0 80 5 64 (g62 0) v63 s64 fun v65 s66 => pNil a0 (F 1 a0 fun v67 => V false 1 v65 (pStore v67 [v65] s66 fun s68 => R (.tuple ⟨[]⟩) s68))))))))) (pNil a0 (F 2 a0 fun v69 => L w0 1 v69 s53 fun g70 => B P 3 .add (g70 0) (.int .i64 1) fun v71 => pNil a0 (F 2 a0 fun v72 => V false 1 v71 (pStore v72 [v71] s53 fun s73 => pNil a0 (F 0 a0 fun v74 => L w0 1 v74 s73 fun g75 => AC P w0 n_spec_l11Marked [g75 0, a1] s73 fun v76 s77 => Q v76 (pNil a0 (F 1 a0 fun v78 => L w0 1 v78 s77 fun g79 => AC P w0 n_spec_l3Part ([a1, .agg (⟨[C a2 0, C a2 1, C a2 2, C a2 3, C a2 4]⟩), .agg (⟨[C a4 0, C a4 1, C a4 2, C a4 3, C a4 4]⟩)]) s77 fun v80 s81 => (Stay w0 s77 s81 v78 1) ∧ (pAppendS w0 80 5 64 (g79 0) v80 s81 fun v82 s83 => pNil a0 (F 1 a0 fun v84 => V false 1 v82 (pStore v84 [v82] s83 fun s85 => cs_p_spec_l12Look_at_1 w0 a2 a4 s85 a0 a1 R))))) (cs_p_spec_l12Look_at_1 w0 a2 a4 s77 a0 a1 R))))))))))))

theorem vc_p_spec_l12Look_at_eq (w0 : World) (a0 a1 a2 a3 a4 a5 : Value) (σ : Vw) (R : Value → Vw → Prop) : vc_p_spec_l12Look_at w0 a0 a1 a2 a3 a4 a5 σ R = den Tryz.prog w0 kp_p_spec_l12Look_at esc_p_spec_l12Look_at (Tryz.f45.body.getD .skip) (entry Tryz.f45.ntmps [a0, a1, a2, a3, a4, a5]) σ (retK Tryz.prog Tryz.f45.results.toList R) := by kernel_rfl
theorem ac_p_spec_l12Look_at {w0 : World} {a0 a1 a2 a3 a4 a5 : Value} {σ : Vw} {R : Value → Vw → Prop} (h : vc_p_spec_l12Look_at w0 a0 a1 a2 a3 a4 a5 σ R) : AC Tryz.prog w0 n_p_spec_l12Look_at [a0, a1, a2, a3, a4, a5] σ R := by
  refine ac_rule (fn := Tryz.f45) (c := Tryz.f45.body.getD .skip) kp_p_spec_l12Look_at esc_p_spec_l12Look_at Tryz.func45 (by kernel_rfl) (by kernel_rfl) ?_
  rw [← vc_p_spec_l12Look_at_eq]
  exact h

/-- laws.wtTexts -/
def kp_laws_wtTexts : Nat → Keep
  | 4 => ⟨[0, 1, 4, 5], [], [], .done, []⟩
  | 6 => ⟨[], [], [], .step 0 (.step 1 (.step 2 (.step 3 (.step 4 (.step 5 (.step 6 (.step 7 (.step 8 (.done))))))))), [(2, [0, 1]), (3, [0, 1, 2]), (6, [4, 5]), (7, [4, 5, 6]), (8, [0, 1, 2, 3, 4, 5, 6, 7])]⟩
  | _ => ⟨[], [], [], .done, []⟩
def esc_laws_wtTexts : Nat → Bool
  | _ => false
def vc_laws_wtTexts (w0 : World) (a0 a1 : Value) (σ : Vw) (R : Value → Vw → Prop) : Prop :=
  N a0 fun v0 => N a1 fun v1 => B P 3 .neq v0 v1 fun v2 => Q v2 (R (.bool false) σ) (pLoop (fun l3 K4 s5 => N (G l3 0) fun v6 => B P 3 .lss (G l3 3) v6 fun v7 => Q v7 (X 1 (G l3 0) (G l3 3) fun v8 => L w0 1 v8 s5 fun g9 => X 1 (G l3 1) (G l3 3) fun v10 => L w0 1 v10 s5 fun g11 => B P 9 .neq (g9 0) (g11 0) fun v12 => Q v12 (K4 .ret [G l3 0, G l3 1, .bool false, G l3 3] s5) (B P 3 .add (G l3 3) (.int .i64 1) fun v13 => K4 .normal [G l3 0, G l3 1, G l3 2, v13] s5)) (K4 (.exit 0) [G l3 0, G l3 1, G l3 2, G l3 3] s5)) [a0, a1, .bool false, .int .i64 0] σ fun x14 l15 s16 => match x14 with | .normal => R (.bool true) s16 | .ret => R (G l15 2) s16 | .exit i17 => (match Nat.beq i17 0 with | true => R (.bool true) s16 | false => False))
theorem vc_laws_wtTexts_eq (w0 : World) (a0 a1 : Value) (σ : Vw) (R : Value → Vw → Prop) : vc_laws_wtTexts w0 a0 a1 σ R = den Tryz.prog w0 kp_laws_wtTexts esc_laws_wtTexts (Tryz.f46.body.getD .skip) (entry Tryz.f46.ntmps [a0, a1]) σ (retK Tryz.prog Tryz.f46.results.toList R) := by kernel_rfl
theorem ac_laws_wtTexts {w0 : World} {a0 a1 : Value} {σ : Vw} {R : Value → Vw → Prop} (h : vc_laws_wtTexts w0 a0 a1 σ R) : AC Tryz.prog w0 n_laws_wtTexts [a0, a1] σ R := by
  refine ac_rule (fn := Tryz.f46) (c := Tryz.f46.body.getD .skip) kp_laws_wtTexts esc_laws_wtTexts Tryz.func46 (by kernel_rfl) (by kernel_rfl) ?_
  rw [← vc_laws_wtTexts_eq]
  exact h

/-- spec.l12Covers -/
def kp_spec_l12Covers : Nat → Keep
  | 6 => ⟨[0, 5, 12, 14, 15], [(7, 5), (9, 5)], [7, 9], .done, []⟩
  | 8 => ⟨[], [], [], .step 0 (.step 1 (.step 2 (.step 3 (.step 4 (.step 9 (.step 5 (.step 6 (.step 7 (.step 8 (.step 10 (.step 11 (.done)))))))))))), [(3, [1, 2]), (4, [1, 2, 3]), (5, [0, 1, 2, 3, 4]), (6, [0, 1, 2, 3, 4, 5]), (7, [0, 1, 2, 3, 4, 5, 6]), (8, [0, 1, 2, 3, 4, 5, 6]), (10, [0, 1, 2, 3, 4, 5, 6, 7, 9]), (11, [0, 1, 2, 3, 4, 5, 6, 7, 8, 9, 10])]⟩
  | 9 => ⟨[], [], [], .step 0 (.step 1 (.step 2 (.step 3 (.step 4 (.step 9 (.step 5 (.step 6 (.step 7 (.step 8 (.step 10 (.step 11 (.done)))))))))))), [(3, [1, 2]), (4, [1, 2, 3]), (5, [0, 1, 2, 3, 4]), (6, [0, 1, 2, 3, 4, 5]), (7, [0, 1, 2, 3, 4, 5, 6]), (8, [0, 1, 2, 3, 4, 5, 6]), (10, [0, 1, 2, 3, 4, 5, 6, 7, 9]), (11, [0, 1, 2, 3, 4, 5, 6, 7, 8, 9, 10])]⟩
  | 10 => ⟨[], [], [], .step 0 (.step 1 (.step 2 (.step 3 (.step 4 (.step 6 (.step 7 (.step 8 (.step 9 (.step 10 (.step 5 (.step 11 (.step 12 (.done))))))))))))), [(3, [1, 2]), (4, [1, 2, 3]), (5, [0, 1, 2, 3, 4]), (11, [0, 1, 2, 3, 4, 5, 6, 7, 8, 9, 10]), (12, [0, 1, 2, 3, 4, 5, 6, 7, 8, 9, 10, 11])]⟩
  | _ => ⟨[], [], [], .done, []⟩
def esc_spec_l12Covers : Nat → Bool
  | _ => false
def cs_spec_l12Covers_1 (w0 : World) (v900 : Value) (v901 : Value) (s902 : Vw) (v903 : Value) (v904 : Value) (R : Value → Vw → Prop) : Prop :=
  AC P w0 n_spec_l12Names ([.agg (⟨[C v900 0, C v900 1, C v900 2, C v900 3, C v900 4]⟩), .agg (⟨[C v901 0, C v901 1, C v901 2, C v901 3, C v901 4]⟩)]) s902 (fun v500 s501 => pLoop (fun l502 K503 s504 => N (G l502 3) fun v505 => B P 3 .lss (G l502 4) v505 fun v506 => Q v506 (X 1 (G l502 3) (G l502 4) fun v507 => L w0 1 v507 s504 fun g508 => AC P w0 n_spec_l12Kid ([.agg (⟨[G l502 5, G l502 6, G l502 7, G l502 8, G l502 9]⟩), g508 0]) s504 fun v509 s510 => E v509 0 fun v511 => E v509 1 fun v512 => V true 5 v511 (X 1 (G l502 3) (G l502 4) fun v513 => L w0 1 v513 s510 fun g514 => AC P w0 n_spec_l12Kid ([.agg (⟨[G l502 10, G l502 11, G l502 12, G l502 13, G l502 14]⟩), g514 0]) s510 fun v515 s516 => E v515 0 fun v517 => E v515 1 fun v518 => V true 5 v517 (X 1 (G l502 3) (G l502 4) fun v519 => L w0 1 v519 s516 fun g520 => AC P w0 n_spec_l3Path [G l502 0, g520 0] s516 fun v521 s522 => AC P w0 n_spec_l12Covers ([v521, .agg (⟨[C v511 0, C v511 1, C v511 2, C v511 3, C v511 4]⟩), v512, .agg (⟨[C v517 0, C v517 1, C v517 2, C v517 3, C v517 4]⟩), v518, G l502 1]) s522 fun v523 s524 => pUn .not v523 fun v525 => Q v525 (K503 .ret [G l502 0, G l502 1, .bool false, G l502 3, G l502 4, G l502 5, G l502 6, G l502 7, G l502 8, G l502 9, G l502 10, G l502 11, G l502 12, G l502 13, G l502 14] s524) (B P 3 .add (G l502 4) (.int .i64 1) fun v526 => K503 .normal [G l502 0, G l502 1, G l502 2, G l502 3, v526, G l502 5, G l502 6, G l502 7, G l502 8, G l502 9, G l502 10, G l502 11, G l502 12, G l502 13, G l502 14] s524)))) (K503 (.exit 0) [G l502 0, G l502 1, G l502 2, G l502 3, G l502 4, G l502 5, G l502 6, G l502 7, G l502 8, G l502 9, G l502 10, G l502 11, G l502 12, G l502 13, G l502 14] s504)) [v903, v904, .bool false, v500, .int .i64 0, C v900 0, C v900 1, C v900 2, C v900 3, C v900 4, C v901 0, C v901 1, C v901 2, C v901 3, C v901 4] s501 fun x527 l528 s529 => match x527 with | .normal => R (.bool true) s529 | .ret => R (G l528 2) s529 | .exit i530 => (match Nat.beq i530 0 with | true => R (.bool true) s529 | false => False))
def vc_spec_l12Covers (w0 : World) (a0 a1 a2 a3 a4 a5 : Value) (σ : Vw) (R : Value → Vw → Prop) : Prop :=
  V true 5 a1 (V true 5 a3 (B P 4 .neq a2 a4 fun v0 => Q v0 (AC P w0 n_spec_l11Marked [a5, a0] σ fun v1 s2 => pUn .not v1 fun v3 => Q v3 (R (.bool false) s2) (cs_spec_l12Covers_1 w0 a1 a3 s2 a0 a5 R)) (B P 4 .neq (C a1 0) (C a3 0) fun v35 => Q v35 (AC P w0 n_spec_l11Marked [a5, a0] σ fun v36 s37 => pUn .not v36 fun v38 => Q v38 (R (.bool false) s37) (cs_spec_l12Covers_1 w0 a1 a3 s37 a0 a5 R)) (B P 3 .neq (C a1 1) (C a3 1) fun v70 => Q v70 (AC P w0 n_spec_l11Marked [a5, a0] σ fun v71 s72 => pUn .not v71 fun v73 => Q v73 (R (.bool false) s72) (cs_spec_l12Covers_1 w0 a1 a3 s72 a0 a5 R)) (B P 9 .neq (C a1 2) (C a3 2) fun v105 => Q v105 (AC P w0 n_spec_l11Marked [a5, a0] σ fun v106 s107 => pUn .not v106 fun v108 => Q v108 (R (.bool false) s107) (cs_spec_l12Covers_1 w0 a1 a3 s107 a0 a5 R)) (cs_spec_l12Covers_1 w0 a1 a3 σ a0 a5 R))))))

theorem vc_spec_l12Covers_eq (w0 : World) (a0 a1 a2 a3 a4 a5 : Value) (σ : Vw) (R : Value → Vw → Prop) : vc_spec_l12Covers w0 a0 a1 a2 a3 a4 a5 σ R = den Tryz.prog w0 kp_spec_l12Covers esc_spec_l12Covers (Tryz.f47.body.getD .skip) (entry Tryz.f47.ntmps [a0, a1, a2, a3, a4, a5]) σ (retK Tryz.prog Tryz.f47.results.toList R) := by kernel_rfl
theorem ac_spec_l12Covers {w0 : World} {a0 a1 a2 a3 a4 a5 : Value} {σ : Vw} {R : Value → Vw → Prop} (h : vc_spec_l12Covers w0 a0 a1 a2 a3 a4 a5 σ R) : AC Tryz.prog w0 n_spec_l12Covers [a0, a1, a2, a3, a4, a5] σ R := by
  refine ac_rule (fn := Tryz.f47) (c := Tryz.f47.body.getD .skip) kp_spec_l12Covers esc_spec_l12Covers Tryz.func47 (by kernel_rfl) (by kernel_rfl) ?_
  rw [← vc_spec_l12Covers_eq]
  exact h

/-- impl.markOk -/
def kp_impl_markOk : Nat → Keep
  | _ => ⟨[], [], [], .done, []⟩
def esc_impl_markOk : Nat → Bool
  | _ => false
def vc_impl_markOk (w0 : World) (a0 : Value) (σ : Vw) (R : Value → Vw → Prop) : Prop :=
  V true 2 a0 (AC P w0 n_impl_namesOk [C a0 0, .int .i64 0] σ fun v0 s1 => Q v0 (N (C a0 0) fun v2 => B P 3 .gtr v2 (.int .i64 0) fun v3 => Q v3 (R (.bool true) s1) (R (C a0 1) s1)) (R (.bool false) s1))
theorem vc_impl_markOk_eq (w0 : World) (a0 : Value) (σ : Vw) (R : Value → Vw → Prop) : vc_impl_markOk w0 a0 σ R = den Tryz.prog w0 kp_impl_markOk esc_impl_markOk (Tryz.f48.body.getD .skip) (entry Tryz.f48.ntmps [a0]) σ (retK Tryz.prog Tryz.f48.results.toList R) := by kernel_rfl
theorem ac_impl_markOk {w0 : World} {a0 : Value} {σ : Vw} {R : Value → Vw → Prop} (h : vc_impl_markOk w0 a0 σ R) : AC Tryz.prog w0 n_impl_markOk [a0] σ R := by
  refine ac_rule (fn := Tryz.f48) (c := Tryz.f48.body.getD .skip) kp_impl_markOk esc_impl_markOk Tryz.func48 (by kernel_rfl) (by kernel_rfl) ?_
  rw [← vc_impl_markOk_eq]
  exact h

end Go.Proofs.YtkbhjejalkbogaaGreat

/- What each function owes, reckoned out, part 2. MADE BY PROGRAM (emit.py). -/
set_option linter.unusedVariables false
namespace Go.Proofs.YtkbhjejalkbogaaGreat
open Go.Av renaming vget → G, cellOf → C, pVal → V, pBin → B, pIndexAddr → X, pLoad → L, pField → F, pIf → Q, pExtract → E, pAppend → A, pLen → N, pNew → W
open Go.Proofs.Tryz renaming prog → P
open Go Go.Av

def cs_impl_add_1 (w0 : World) (l900 : List Value) (s901 : Vw) (R : Value → Vw → Prop) : Prop :=
  A w0 31 2 32 (G l900 0) 1 [G l900 4, G l900 5] s901 (fun v500 s501 => AC P w0 n_slices_SortFunc_impl_Mark_impl_Mark ([v500, .func (Fn.func 118) ⟨[]⟩ ⟨[]⟩]) s501 fun v502 s503 => pLoop (fun l504 K505 s506 => N (G l504 0) fun v507 => B P 3 .gtr v507 (.int .i64 6) fun v508 => Q v508 (N (G l504 0) fun v509 => pLoop (fun l510 K511 s512 => B P 3 .lss (G l510 4) (G l510 3) fun v513 => Q v513 (X 2 (G l510 2) (G l510 4) fun v514 => L w0 2 v514 s512 fun g515 => V true 2 (.agg (⟨[g515 0, g515 1]⟩)) (N (g515 0) fun v516 => X 2 (G l510 0) (G l510 1) fun v517 => F 0 v517 fun v518 => L w0 1 v518 s512 fun g519 => N (g519 0) fun v520 => B P 3 .geq v516 v520 fun v521 => Q v521 (B P 3 .add (G l510 4) (.int .i64 1) fun v522 => K511 .normal [G l510 0, G l510 4, G l510 2, G l510 3, v522] s512) (B P 3 .add (G l510 4) (.int .i64 1) fun v523 => K511 .normal [G l510 0, G l510 1, G l510 2, G l510 3, v523] s512))) (K511 (.exit 4) [G l510 0, G l510 1, G l510 2, G l510 3, G l510 4] s512)) [G l504 0, .int .i64 0, G l504 0, v509, .int .i64 0] s506 fun x524 l525 s526 => match x524 with | .normal => X 2 (G l525 0) (G l525 1) (fun v527 => F 0 v527 fun v528 => L w0 1 v528 s526 fun g529 => B P 3 .add (G l525 1) (.int .i64 1) fun v530 => AC P w0 n_slices_Delete_impl_Mark_impl_Mark [G l525 0, G l525 1, v530] s526 fun v531 s532 => N (g529 0) fun v533 => B P 3 .sub v533 (.int .i64 1) fun v534 => pSlice 1 (g529 0) none (some v534) fun v535 => V false 1 v535 (V false 1 (.bool true) (AC P w0 n_impl_add ([v531, .agg (⟨[v535, .bool true]⟩)]) s532 fun v536 s537 => K505 .normal [v536] s537))) | .ret => K505 .ret [G l525 0] s526 | .exit i538 => (match Nat.beq i538 4 with | true => X 2 (G l525 0) (G l525 1) (fun v539 => F 0 v539 fun v540 => L w0 1 v540 s526 fun g541 => B P 3 .add (G l525 1) (.int .i64 1) fun v542 => AC P w0 n_slices_Delete_impl_Mark_impl_Mark [G l525 0, G l525 1, v542] s526 fun v543 s544 => N (g541 0) fun v545 => B P 3 .sub v545 (.int .i64 1) fun v546 => pSlice 1 (g541 0) none (some v546) fun v547 => V false 1 v547 (V false 1 (.bool true) (AC P w0 n_impl_add ([v543, .agg (⟨[v547, .bool true]⟩)]) s544 fun v548 s549 => K505 .normal [v548] s549))) | false => (match Nat.beq i538 3 with | true => K505 .normal [G l525 0] s526 | false => K505 (.exit i538) [G l525 0] s526))) (K505 (.exit 2) [G l504 0] s506)) [v500] s503 fun x550 l551 s552 => match x550 with | .normal => R (G l551 0) s552 | .ret => False | .exit i553 => (match Nat.beq i553 2 with | true => R (G l551 0) s552 | false => False))
def cs_impl_add_2 (w0 : World) (s900 : Vw) (v901 : Value) (v902 : Value) (R : Value → Vw → Prop) : Prop :=
  W w0 31 [] s900 (fun n500 s501 => N v901 fun v502 => pLoop (fun l503 K504 s505 => B P 3 .lss (G l503 3) (G l503 2) fun v506 => Q v506 (X 2 (G l503 1) (G l503 3) fun v507 => L w0 2 v507 s505 fun g508 => V true 2 (.agg (⟨[g508 0, g508 1]⟩)) (pUn .not (G l503 5) fun v509 => Q v509 (V true 2 (.agg (⟨[g508 0, g508 1]⟩)) ((allOne [g508 0, g508 1]) ∧ (A w0 31 2 32 (G l503 0) 1 [g508 0, g508 1] s505 fun v510 s511 => B P 3 .add (G l503 3) (.int .i64 1) fun v512 => K504 .normal [v510, G l503 1, G l503 2, v512, G l503 4, G l503 5] s511))) (AC P w0 n_impl_begins [g508 0, G l503 4] s505 fun v513 s514 => pUn .not v513 fun v515 => Q v515 (V true 2 (.agg (⟨[g508 0, g508 1]⟩)) ((allOne [g508 0, g508 1]) ∧ (A w0 31 2 32 (G l503 0) 1 [g508 0, g508 1] s514 fun v516 s517 => B P 3 .add (G l503 3) (.int .i64 1) fun v518 => K504 .normal [v516, G l503 1, G l503 2, v518, G l503 4, G l503 5] s517))) (B P 3 .add (G l503 3) (.int .i64 1) fun v519 => K504 .normal [G l503 0, G l503 1, G l503 2, v519, G l503 4, G l503 5] s514)))) (K504 (.exit 0) [G l503 0, G l503 1, G l503 2, G l503 3, G l503 4, G l503 5] s505)) [.slice (some (Addr.mk n500 0 none)) 0 0, v901, v502, .int .i64 0, C v902 0, C v902 1] s501 fun x520 l521 s522 => match x520 with | .normal => V true 2 (.agg (⟨[G l521 4, G l521 5]⟩)) ((allOne [G l521 4, G l521 5]) ∧ (cs_impl_add_1 w0 l521 s522 R)) | .ret => False | .exit i523 => (match Nat.beq i523 0 with | true => V true 2 (.agg (⟨[G l521 4, G l521 5]⟩)) ((allOne [G l521 4, G l521 5]) ∧ (cs_impl_add_1 w0 l521 s522 R)) | false => False))
def vc_impl_add (w0 : World) (a0 a1 : Value) (σ : Vw) (R : Value → Vw → Prop) : Prop :=
  V true 2 a1 (AC P w0 n_impl_under [a0, C a1 0] σ fun v0 s1 => Q v0 (R a0 s1) (pUn .not (C a1 1) fun v2 => Q v2 (AC P w0 n_impl_marked [a0, C a1 0] s1 fun v3 s4 => Q v3 (R a0 s4) (cs_impl_add_2 w0 s4 a0 a1 R)) (cs_impl_add_2 w0 s1 a0 a1 R)))

/-- impl.covers -/
def kp_impl_covers : Nat → Keep
  | 1 => ⟨[], [], [], .step 0 (.step 1 (.step 2 (.step 3 (.step 4 (.step 5 (.step 6 (.step 7 (.step 8 (.step 9 (.step 10 (.step 11 (.step 12 (.step 13 (.step 14 (.step 15 (.step 16 (.step 17 (.step 18 (.step 19 (.step 20 (.step 21 (.step 22 (.step 23 (.step 24 (.step 25 (.step 26 (.step 27 (.step 28 (.step 29 (.step 30 (.step 31 (.step 32 (.step 33 (.step 34 (.step 35 (.step 36 (.step 37 (.step 38 (.step 39 (.done)))))))))))))))))))))))))))))))))))))))), [(1, [0]), (2, [0, 1]), (3, [0, 1, 2]), (4, [0, 1, 2, 3]), (5, [0, 1, 2, 3, 4]), (6, [0, 1, 2, 3, 4, 5]), (7, [0, 1, 2, 3, 4, 5, 6]), (8, [0, 1, 2, 3, 4, 5, 6, 7]), (9, [0, 1, 2, 3, 4, 5, 6, 7, 8]), (10, [0, 1, 2, 3, 4, 5, 6, 7, 8, 9]), (11, [0, 1, 2, 3, 4, 5, 6]), (12, [0, 1, 2, 3, 4, 5, 6, 11]), (13, [0, 1, 2, 3, 4, 5, 6, 11, 12]), (14, [0, 1, 2, 3, 4, 5, 6, 11, 12, 13]), (15, [0, 1, 2, 3, 4, 5, 6, 7, 8, 9, 10, 11, 12, 13, 14]), (16, [0, 1, 2, 3, 4, 5, 6, 7, 8, 9, 10, 11, 12, 13, 14, 15]), (17, [0, 1, 2, 3, 4, 5, 6, 7, 8, 9, 10, 11, 12, 13, 14, 15, 16]), (18, [0, 1, 2, 3, 4, 5, 6, 7, 8, 9, 10, 11, 12, 13, 14, 15, 16, 17]), (19, [0, 1, 2, 3, 4, 5, 6, 7, 8, 9, 10, 11, 12, 13, 14, 15, 16, 17, 18]), (20, [0, 1, 2, 3, 4, 5, 6, 7, 8, 9, 10, 11, 12, 13, 14, 15, 16, 17, 18, 19]), (21, [0, 1, 2, 3, 4, 5, 6, 7, 8, 9, 10, 11, 12, 13, 14, 15, 16, 17, 18, 19, 20]), (22, [0, 1, 2, 3, 4, 5, 6, 7, 8, 9, 10, 11, 12, 13, 14, 15, 16, 17]), (23, [0, 1, 2, 3, 4, 5, 6, 7, 8, 9, 10, 11, 12, 13, 14, 15, 16, 17, 22]), (24, [0, 1, 2, 3, 4, 5, 6, 7, 8, 9, 10, 11, 12, 13, 14, 15, 16, 17, 22, 23]), (25, [0, 1, 2, 3, 4, 5, 6, 7, 8, 9, 10, 11, 12, 13, 14, 15, 16, 17, 22, 23, 24]), (26, [0, 1, 2, 3, 4, 5, 6, 7, 8, 9, 10, 11, 12, 13, 14, 15, 16, 17, 18, 19, 20, 21, 22, 23, 24, 25]), (27, [0, 1, 2, 3, 4, 5, 6, 7, 8, 9, 10, 11, 12, 13, 14, 15, 16, 17, 18, 19, 20, 21, 22, 23, 24, 25, 26]), (28, [0, 1, 2, 3, 4, 5, 6, 7, 8, 9, 10, 11, 12, 13, 14, 15, 16, 17, 18, 19, 20, 21, 22, 23, 24, 25, 26, 27]), (29, [0, 1, 2, 3, 4, 5, 6, 7, 8, 9, 10, 11, 12, 13, 14, 15, 16, 17, 18, 19, 20, 21, 22, 23, 24, 25, 26, 27, 28]), (30, [0, 1, 2, 3, 4, 5, 6, 7, 8, 9, 10, 11, 12, 13, 14, 15, 16, 17, 18, 19, 20, 21, 22, 23, 24, 25, 26, 27, 28, 29]), (31, [0, 1, 2, 3, 4, 5, 6, 7, 8, 9, 10, 11, 12, 13, 14, 15, 16, 17, 18, 19, 20, 21, 22, 23, 24, 25, 26, 27, 28, 29, 30]), (32, [0, 1, 2, 3, 4, 5, 6, 7, 8, 9, 10, 11, 12, 13, 14, 15, 16, 17, 18, 19, 20, 21, 22, 23, 24, 25, 26, 27, 28, 29, 30, 31]), (33, [0, 1, 2, 3, 4, 5, 6, 7, 8, 9, 10, 11, 12, 13, 14, 15, 16, 17, 18, 19, 20, 21, 22, 23, 24, 25, 26, 27, 28]), (34, [0, 1, 2, 3, 4, 5, 6, 7, 8, 9, 10, 11, 12, 13, 14, 15, 16, 17, 18, 19, 20, 21, 22, 23, 24, 25, 26, 27, 28, 33]), (35, [0, 1, 2, 3, 4, 5, 6, 7, 8, 9, 10, 11, 12, 13, 14, 15, 16, 17, 18, 19, 20, 21, 22, 23, 24, 25, 26, 27, 28, 33, 34]), (36, [0, 1, 2, 3, 4, 5, 6, 7, 8, 9, 10, 11, 12, 13, 14, 15, 16, 17, 18, 19, 20, 21, 22, 23, 24, 25, 26, 27, 28, 33, 34, 35]), (37, [0, 1, 2, 3, 4, 5, 6, 7, 8, 9, 10, 11, 12, 13, 14, 15, 16, 17, 18, 19, 20, 21, 22, 23, 24, 25, 26, 27, 28, 29, 30, 31, 32, 33, 34, 35, 36]), (38, [0, 1, 2, 3, 4, 5, 6, 7, 8, 9, 10, 11, 12, 13, 14, 15, 16, 17, 18, 19, 20, 21, 22, 23, 24, 25, 26, 27, 28, 29, 30, 31, 32, 33, 34, 35, 36, 37]), (39, [0, 1, 2, 3, 4, 5, 6, 7, 8, 9, 10, 11, 12, 13, 14, 15, 16, 17, 18, 19, 20, 21, 22, 23, 24, 25, 26, 27, 28, 29, 30, 31, 32, 33, 34, 35, 36, 37, 38])]⟩
  | 10 => ⟨[0, 1, 2, 3, 8, 70, 71, 72], [], [], .done, []⟩
  | _ => ⟨[], [], [], .done, []⟩
def esc_impl_covers : Nat → Bool
  | 61 => true
  | _ => false
def cs_impl_covers_2 (w0 : World) (l900 : List Value) (s901 : Vw) (K902 : AX → List Value → Vw → Prop) (R : Value → Vw → Prop) : Prop :=
  B P 3 .lss (G l900 7) (G l900 6) (fun v500 => Q v500 (X 1 (G l900 5) (G l900 7) fun v501 => L w0 1 v501 s901 fun g502 => AC P w0 n_impl_below [G l900 0, g502 0] s901 fun v503 s504 => AC P w0 n_p_impl_Tree_kid [G l900 1, g502 0] s504 fun v505 s506 => AC P w0 n_p_impl_Tree_kid [G l900 2, g502 0] s506 fun v507 s508 => AC P w0 n_impl_covers [v503, v505, v507, G l900 3] s508 fun v509 s510 => pUn .not v509 fun v511 => Q v511 (K902 .ret [G l900 0, G l900 1, G l900 2, G l900 3, .bool false, G l900 5, G l900 6, G l900 7] s510) (B P 3 .add (G l900 7) (.int .i64 1) fun v512 => K902 .normal [G l900 0, G l900 1, G l900 2, G l900 3, G l900 4, G l900 5, G l900 6, v512] s510)) (K902 (.exit 0) [G l900 0, G l900 1, G l900 2, G l900 3, G l900 4, G l900 5, G l900 6, G l900 7] s901))
def cs_impl_covers_1 (w0 : World) (s900 : Vw) (v901 : Value) (v902 : Value) (v903 : Value) (v904 : Value) (R : Value → Vw → Prop) : Prop :=
  V true 5 (.agg (⟨[.bool false, .int .i64 0, .string ({ data := #[] }), .slice none 0 0, .slice none 0 0]⟩)) (W w0 26 ([.bool false, .int .i64 0, .string ({ data := #[] }), .slice none 0 0, .slice none 0 0]) s900 fun n500 s501 => B P 73 .eql v901 (.pointer none) fun v502 => Q v502 (B P 73 .eql v902 (.pointer none) fun v503 => Q v503 (AC P w0 n_impl_either [.pointer (some (Addr.mk n500 0 none)), .pointer (some (Addr.mk n500 0 none))] s501 fun v504 s505 => N v504 fun v506 => pLoop (fun l507 K508 s509 => cs_impl_covers_2 w0 l507 s509 K508 R) [v903, .pointer (some (Addr.mk n500 0 none)), .pointer (some (Addr.mk n500 0 none)), v904, .bool false, v504, v506, .int .i64 0] s505 fun x523 l524 s525 => match x523 with | .normal => R (.bool true) s525 | .ret => R (G l524 4) s525 | .exit i526 => (match Nat.beq i526 0 with | true => R (.bool true) s525 | false => False)) (AC P w0 n_impl_either [.pointer (some (Addr.mk n500 0 none)), v902] s501 fun v527 s528 => N v527 fun v529 => pLoop (fun l530 K531 s532 => cs_impl_covers_2 w0 l530 s532 K531 R) [v903, .pointer (some (Addr.mk n500 0 none)), v902, v904, .bool false, v527, v529, .int .i64 0] s528 fun x546 l547 s548 => match x546 with | .normal => R (.bool true) s548 | .ret => R (G l547 4) s548 | .exit i549 => (match Nat.beq i549 0 with | true => R (.bool true) s548 | false => False))) (B P 73 .eql v902 (.pointer none) fun v550 => Q v550 (AC P w0 n_impl_either [v901, .pointer (some (Addr.mk n500 0 none))] s501 fun v551 s552 => N v551 fun v553 => pLoop (fun l554 K555 s556 => cs_impl_covers_2 w0 l554 s556 K555 R) [v903, v901, .pointer (some (Addr.mk n500 0 none)), v904, .bool false, v551, v553, .int .i64 0] s552 fun x570 l571 s572 => match x570 with | .normal => R (.bool true) s572 | .ret => R (G l571 4) s572 | .exit i573 => (match Nat.beq i573 0 with | true => R (.bool true) s572 | false => False)) (AC P w0 n_impl_either [v901, v902] s501 fun v574 s575 => N v574 fun v576 => pLoop (fun l577 K578 s579 => cs_impl_covers_2 w0 l577 s579 K578 R) [v903, v901, v902, v904, .bool false, v574, v576, .int .i64 0] s575 fun x593 l594 s595 => match x593 with | .normal => R (.bool true) s595 | .ret => R (G l594 4) s595 | .exit i596 => (match Nat.beq i596 0 with | true => R (.bool true) s595 | false => False))))
def cs_impl_covers_3 (w0 : World) (v900 : Value) (v901 : Value) (s902 : Vw) (v903 : Value) (v904 : Value) (R : Value → Vw → Prop) : Prop :=
  pUn .not (.bool false) (fun v500 => Q v500 (AC P w0 n_impl_marked [v900, v901] s902 fun v501 s502 => pUn .not v501 fun v503 => Q v503 (R (.bool false) s502) (cs_impl_covers_1 w0 s502 v903 v904 v901 v900 R)) (cs_impl_covers_1 w0 s902 v903 v904 v901 v900 R))
def vc_impl_covers (w0 : World) (a0 a1 a2 a3 : Value) (σ : Vw) (R : Value → Vw → Prop) : Prop :=
  B P 73 .neq a1 (.pointer none) fun v0 => Q v0 (B P 73 .neq a2 (.pointer none) fun v1 => Q v1 (pNil a1 (F 0 a1 fun v2 => L w0 1 v2 σ fun g3 => pNil a2 (F 0 a2 fun v4 => L w0 1 v4 σ fun g5 => B P 4 .eql (g3 0) (g5 0) fun v6 => Q v6 (pNil a1 (F 1 a1 fun v7 => L w0 1 v7 σ fun g8 => pNil a2 (F 1 a2 fun v9 => L w0 1 v9 σ fun g10 => B P 3 .eql (g8 0) (g10 0) fun v11 => Q v11 (pNil a1 (F 2 a1 fun v12 => L w0 1 v12 σ fun g13 => pNil a2 (F 2 a2 fun v14 => L w0 1 v14 σ fun g15 => B P 9 .eql (g13 0) (g15 0) fun v16 => pUn .not v16 fun v17 => Q v17 (AC P w0 n_impl_marked [a3, a0] σ fun v18 s19 => pUn .not v18 fun v20 => Q v20 (R (.bool false) s19) (cs_impl_covers_1 w0 s19 a1 a2 a0 a3 R)) (cs_impl_covers_1 w0 σ a1 a2 a0 a3 R)))) (cs_impl_covers_3 w0 a3 a0 σ a1 a2 R)))) (cs_impl_covers_3 w0 a3 a0 σ a1 a2 R)))) (cs_impl_covers_3 w0 a3 a0 σ a1 a2 R)) (cs_impl_covers_3 w0 a3 a0 σ a1 a2 R)

theorem vc_impl_covers_eq (w0 : World) (a0 a1 a2 a3 : Value) (σ : Vw) (R : Value → Vw → Prop) : vc_impl_covers w0 a0 a1 a2 a3 σ R = den Tryz.prog w0 kp_impl_covers esc_impl_covers (Tryz.f51.body.getD .skip) (entry Tryz.f51.ntmps [a0, a1, a2, a3]) σ (retK Tryz.prog Tryz.f51.results.toList R) := by kernel_rfl
theorem ac_impl_covers {w0 : World} {a0 a1 a2 a3 : Value} {σ : Vw} {R : Value → Vw → Prop} (h : vc_impl_covers w0 a0 a1 a2 a3 σ R) : AC Tryz.prog w0 n_impl_covers [a0, a1, a2, a3] σ R := by
  refine ac_rule (fn := Tryz.f51) (c := Tryz.f51.body.getD .skip) kp_impl_covers esc_impl_covers Tryz.func51 (by kernel_rfl) (by kernel_rfl) ?_
  rw [← vc_impl_covers_eq]
  exact h

def esc_laws_szStringS : Nat → Bool
  | _ => false
/-- laws.eqStringS -/
def kp_laws_eqStringS : Nat → Keep
  | 4 => ⟨[0, 1, 4, 5], [], [], .done, []⟩
  | 6 => ⟨[], [], [], .step 0 (.step 1 (.step 2 (.step 3 (.step 4 (.step 5 (.step 6 (.step 7 (.step 8 (.done))))))))), [(2, [0, 1]), (3, [0, 1, 2]), (6, [4, 5]), (7, [4, 5, 6]), (8, [0, 1, 2, 3, 4, 5, 6, 7])]⟩
  | _ => ⟨[], [], [], .done, []⟩
/-- laws.markStringS -/
def kp_laws_markStringS : Nat → Keep
  | 2 => ⟨[0, 1, 5], [], [], .done, []⟩
  | _ => ⟨[], [], [], .done, []⟩
/-- spec.l11Copy -/
def kp_spec_l11Copy : Nat → Keep
  | 3 => ⟨[0, 3, 4], [], [], .done, []⟩
  | 5 => ⟨[], [], [], .step 0 (.step 2 (.step 3 (.step 4 (.step 5 (.step 6 (.step 8 (.step 9 (.step 10 (.step 11 (.step 12 (.step 1 (.step 7 (.step 13 (.step 14 (.step 15 (.step 16 (.done))))))))))))))))), [(4, [2, 3]), (5, [2, 3, 4]), (6, [2, 3, 4, 5]), (7, [1, 2, 3, 4, 5, 6]), (10, [8, 9]), (11, [8, 9, 10]), (12, [8, 9, 10, 11]), (13, [1, 2, 3, 4, 5, 6, 7, 8, 9, 10, 11, 12]), (14, [1, 2, 3, 4, 5, 6, 7, 8, 9, 10, 11, 12, 13]), (15, [0, 1, 2, 3, 4, 5, 6, 7, 8, 9, 10, 11, 12, 13, 14]), (16, [0, 1, 2, 3, 4, 5, 6, 7, 8, 9, 10, 11, 12, 13, 14, 15])]⟩
  | _ => ⟨[], [], [], .done, []⟩
def esc_spec_l11Copy : Nat → Bool
  | 5 => true
  | 13 => true
  | _ => false
def vc_spec_l11Copy (w0 : World) (a0 : Value) (σ : Vw) (R : Value → Vw → Prop) : Prop :=
  W w0 31 [] σ fun n0 s1 => pLoop (fun l2 K3 s4 => N (G l2 0) fun v5 => B P 3 .lss (G l2 2) v5 fun v6 => Q v6 (X 2 (G l2 0) (G l2 2) fun v7 => F 0 v7 fun v8 => L w0 1 v8 s4 fun g9 => X 2 (G l2 0) (G l2 2) fun v10 => F 1 v10 fun v11 => L w0 1 v11 s4 fun g12 => W w0 9 [] s4 fun n13 s14 => (Stay w0 s4 s14 v11 1) ∧ ((Stay w0 s4 s14 v8 1) ∧ (pAppendS w0 9 1 16 (.slice (some (Addr.mk n13 0 none)) 0 0) (g9 0) s14 fun v15 s16 => (Stay w0 s14 s16 v11 1) ∧ (V false 1 v15 (V false 1 (g12 0) (V true 2 (.agg (⟨[v15, g12 0]⟩)) ((allOne [v15, g12 0]) ∧ (A w0 31 2 32 (G l2 1) 1 [v15, g12 0] s16 fun v17 s18 => B P 3 .add (G l2 2) (.int .i64 1) fun v19 => K3 .normal [G l2 0, v17, v19] s18)))))))) (K3 (.exit 0) [G l2 0, G l2 1, G l2 2] s4)) [a0, .slice (some (Addr.mk n0 0 none)) 0 0, .int .i64 0] s1 fun x20 l21 s22 => match x20 with | .normal => R (G l21 1) s22 | .ret => False | .exit i23 => (match Nat.beq i23 0 with | true => R (G l21 1) s22 | false => False)
theorem vc_spec_l11Copy_eq (w0 : World) (a0 : Value) (σ : Vw) (R : Value → Vw → Prop) : vc_spec_l11Copy w0 a0 σ R = den Tryz.prog w0 kp_spec_l11Copy esc_spec_l11Copy (Tryz.f66.body.getD .skip) (entry Tryz.f66.ntmps [a0]) σ (retK Tryz.prog Tryz.f66.results.toList R) := by kernel_rfl
theorem ac_spec_l11Copy {w0 : World} {a0 : Value} {σ : Vw} {R : Value → Vw → Prop} (h : vc_spec_l11Copy w0 a0 σ R) : AC Tryz.prog w0 n_spec_l11Copy [a0] σ R := by
  refine ac_rule (fn := Tryz.f66) (c := Tryz.f66.body.getD .skip) kp_spec_l11Copy esc_spec_l11Copy Tryz.func66 (by kernel_rfl) (by kernel_rfl) ?_
  rw [← vc_spec_l11Copy_eq]
  exact h

/-- spec.l11MarkOk -/
def kp_spec_l11MarkOk : Nat → Keep
  | _ => ⟨[], [], [], .done, []⟩
def esc_spec_l11MarkOk : Nat → Bool
  | _ => false
def vc_spec_l11MarkOk (w0 : World) (a0 : Value) (σ : Vw) (R : Value → Vw → Prop) : Prop :=
  V true 2 a0 (N (C a0 0) fun v0 => B P 3 .eql v0 (.int .i64 0) fun v1 => Q v1 (R (C a0 1) σ) (AC P w0 n_spec_l2PathOk [C a0 0] σ fun v2 s3 => R v2 s3))
theorem vc_spec_l11MarkOk_eq (w0 : World) (a0 : Value) (σ : Vw) (R : Value → Vw → Prop) : vc_spec_l11MarkOk w0 a0 σ R = den Tryz.prog w0 kp_spec_l11MarkOk esc_spec_l11MarkOk (Tryz.f67.body.getD .skip) (entry Tryz.f67.ntmps [a0]) σ (retK Tryz.prog Tryz.f67.results.toList R) := by kernel_rfl
theorem ac_spec_l11MarkOk {w0 : World} {a0 : Value} {σ : Vw} {R : Value → Vw → Prop} (h : vc_spec_l11MarkOk w0 a0 σ R) : AC Tryz.prog w0 n_spec_l11MarkOk [a0] σ R := by
  refine ac_rule (fn := Tryz.f67) (c := Tryz.f67.body.getD .skip) kp_spec_l11MarkOk esc_spec_l11MarkOk Tryz.func67 (by kernel_rfl) (by kernel_rfl) ?_
  rw [← vc_spec_l11MarkOk_eq]
  exact h

/-- spec.l11Put -/
def kp_spec_l11Put : Nat → Keep
  | 6 => ⟨[0, 5, 6, 7], [(3, 2)], [3], .done, []⟩
  | _ => ⟨[], [], [], .done, []⟩
def esc_spec_l11Put : Nat → Bool
  | 25 => true
  | _ => false
def cs_spec_l11Put_2 (w0 : World) (l900 : List Value) (g901 : Nat → Value) (s902 : Vw) (K903 : AX → List Value → Vw → Prop) (R : Value → Vw → Prop) : Prop :=
  pUn .not (G l900 2) (fun v500 => Q v500 (AC P w0 n_spec_l11Less [G l900 4, g901 0] s902 fun v501 s502 => Q v501 (V true 2 (.agg (⟨[G l900 4, G l900 5]⟩)) ((allOne [G l900 4, G l900 5]) ∧ (A w0 31 2 32 (G l900 1) 1 [G l900 4, G l900 5] s502 fun v503 s504 => V true 2 (.agg (⟨[g901 0, g901 1]⟩)) ((allOne [g901 0, g901 1]) ∧ (A w0 31 2 32 v503 1 [g901 0, g901 1] s504 fun v505 s506 => B P 3 .add (G l900 3) (.int .i64 1) fun v507 => K903 .normal [G l900 0, v505, .bool true, v507, G l900 4, G l900 5] s506))))) (V true 2 (.agg (⟨[g901 0, g901 1]⟩)) ((allOne [g901 0, g901 1]) ∧ (A w0 31 2 32 (G l900 1) 1 [g901 0, g901 1] s502 fun v508 s509 => B P 3 .add (G l900 3) (.int .i64 1) fun v510 => K903 .normal [G l900 0, v508, G l900 2, v510, G l900 4, G l900 5] s509)))) (V true 2 (.agg (⟨[g901 0, g901 1]⟩)) ((allOne [g901 0, g901 1]) ∧ (A w0 31 2 32 (G l900 1) 1 [g901 0, g901 1] s902 fun v511 s512 => B P 3 .add (G l900 3) (.int .i64 1) fun v513 => K903 .normal [G l900 0, v511, G l900 2, v513, G l900 4, G l900 5] s512))))
def cs_spec_l11Put_1 (w0 : World) (s900 : Vw) (v901 : Value) (v902 : Value) (R : Value → Vw → Prop) : Prop :=
  W w0 31 [] s900 (fun n500 s501 => pLoop (fun l502 K503 s504 => N (G l502 0) fun v505 => B P 3 .lss (G l502 3) v505 fun v506 => Q v506 (X 2 (G l502 0) (G l502 3) fun v507 => L w0 2 v507 s504 fun g508 => V true 2 (.agg (⟨[g508 0, g508 1]⟩)) (Q (G l502 5) (AC P w0 n_spec_l2Within [g508 0, G l502 4] s504 fun v509 s510 => Q v509 (B P 3 .add (G l502 3) (.int .i64 1) fun v511 => K503 .normal [G l502 0, G l502 1, G l502 2, v511, G l502 4, G l502 5] s510) (cs_spec_l11Put_2 w0 l502 g508 s510 K503 R)) (cs_spec_l11Put_2 w0 l502 g508 s504 K503 R))) (K503 (.exit 0) [G l502 0, G l502 1, G l502 2, G l502 3, G l502 4, G l502 5] s504)) [v901, .slice (some (Addr.mk n500 0 none)) 0 0, .bool false, .int .i64 0, C v902 0, C v902 1] s501 fun x540 l541 s542 => match x540 with | .normal => pUn .not (G l541 2) (fun v543 => Q v543 (V true 2 (.agg (⟨[G l541 4, G l541 5]⟩)) ((allOne [G l541 4, G l541 5]) ∧ (A w0 31 2 32 (G l541 1) 1 [G l541 4, G l541 5] s542 fun v544 s545 => R v544 s545))) (R (G l541 1) s542)) | .ret => False | .exit i546 => (match Nat.beq i546 0 with | true => pUn .not (G l541 2) (fun v547 => Q v547 (V true 2 (.agg (⟨[G l541 4, G l541 5]⟩)) ((allOne [G l541 4, G l541 5]) ∧ (A w0 31 2 32 (G l541 1) 1 [G l541 4, G l541 5] s542 fun v548 s549 => R v548 s549))) (R (G l541 1) s542)) | false => False))
def vc_spec_l11Put (w0 : World) (a0 a1 : Value) (σ : Vw) (R : Value → Vw → Prop) : Prop :=
  V true 2 a1 (AC P w0 n_spec_l11Under [a0, C a1 0] σ fun v0 s1 => Q v0 (R a0 s1) (pUn .not (C a1 1) fun v2 => Q v2 (AC P w0 n_spec_l11Marked [a0, C a1 0] s1 fun v3 s4 => Q v3 (R a0 s4) (cs_spec_l11Put_1 w0 s4 a0 a1 R)) (cs_spec_l11Put_1 w0 s1 a0 a1 R)))

theorem vc_spec_l11Put_eq (w0 : World) (a0 a1 : Value) (σ : Vw) (R : Value → Vw → Prop) : vc_spec_l11Put w0 a0 a1 σ R = den Tryz.prog w0 kp_spec_l11Put esc_spec_l11Put (Tryz.f68.body.getD .skip) (entry Tryz.f68.ntmps [a0, a1]) σ (retK Tryz.prog Tryz.f68.results.toList R) := by kernel_rfl
theorem ac_spec_l11Put {w0 : World} {a0 a1 : Value} {σ : Vw} {R : Value → Vw → Prop} (h : vc_spec_l11Put w0 a0 a1 σ R) : AC Tryz.prog w0 n_spec_l11Put [a0, a1] σ R := by
  refine ac_rule (fn := Tryz.f68) (c := Tryz.f68.body.getD .skip) kp_spec_l11Put esc_spec_l11Put Tryz.func68 (by kernel_rfl) (by kernel_rfl) ?_
  rw [← vc_spec_l11Put_eq]
  exact h

/-- spec.l11Coarser -/
def kp_spec_l11Coarser : Nat → Keep
  | 3 => ⟨[0, 3, 4], [], [], .done, []⟩
  | 5 => ⟨[], [], [], .step 0 (.step 1 (.step 2 (.step 3 (.step 4 (.step 5 (.step 6 (.step 7 (.step 8 (.step 9 (.step 10 (.step 11 (.step 12 (.done))))))))))))), [(2, [0, 1]), (3, [0, 1, 2]), (4, [0, 1, 2, 3]), (5, [0, 1, 2, 3, 4]), (8, [6, 7]), (9, [6, 7, 8]), (10, [6, 7, 8, 9]), (11, [6, 7, 8, 9, 10]), (12, [0, 1, 2, 3, 4, 5, 6, 7, 8, 9, 10, 11])]⟩
  | _ => ⟨[], [], [], .done, []⟩
def esc_spec_l11Coarser : Nat → Bool
  | 32 => true
  | _ => false
def vc_spec_l11Coarser (w0 : World) (a0 : Value) (σ : Vw) (R : Value → Vw → Prop) : Prop :=
  pLoop (fun l0 K1 s2 => N (G l0 0) fun v3 => B P 3 .lss (G l0 2) v3 fun v4 => Q v4 (X 2 (G l0 0) (G l0 2) fun v5 => F 0 v5 fun v6 => L w0 1 v6 s2 fun g7 => N (g7 0) fun v8 => X 2 (G l0 0) (G l0 1) fun v9 => F 0 v9 fun v10 => L w0 1 v10 s2 fun g11 => N (g11 0) fun v12 => B P 3 .geq v8 v12 fun v13 => Q v13 (B P 3 .add (G l0 2) (.int .i64 1) fun v14 => K1 .normal [G l0 0, G l0 2, v14] s2) (B P 3 .add (G l0 2) (.int .i64 1) fun v15 => K1 .normal [G l0 0, G l0 1, v15] s2)) (K1 (.exit 0) [G l0 0, G l0 1, G l0 2] s2)) [a0, .int .i64 0, .int .i64 1] σ fun x16 l17 s18 => match x16 with | .normal => X 2 (G l17 0) (G l17 1) (fun v19 => F 0 v19 fun v20 => L w0 1 v20 s18 fun g21 => W w0 9 [] s18 fun n22 s23 => N (g21 0) fun v24 => B P 3 .sub v24 (.int .i64 1) fun v25 => pSlice 1 (g21 0) none (some v25) fun v26 => pAppendS w0 9 1 16 (.slice (some (Addr.mk n22 0 none)) 0 0) v26 s23 fun v27 s28 => V false 1 v27 (V false 1 (.bool true) (AC P w0 n_spec_l11Put ([G l17 0, .agg (⟨[v27, .bool true]⟩)]) s28 fun v29 s30 => R v29 s30))) | .ret => False | .exit i31 => (match Nat.beq i31 0 with | true => X 2 (G l17 0) (G l17 1) (fun v32 => F 0 v32 fun v33 => L w0 1 v33 s18 fun g34 => W w0 9 [] s18 fun n35 s36 => N (g34 0) fun v37 => B P 3 .sub v37 (.int .i64 1) fun v38 => pSlice 1 (g34 0) none (some v38) fun v39 => pAppendS w0 9 1 16 (.slice (some (Addr.mk n35 0 none)) 0 0) v39 s36 fun v40 s41 => V false 1 v40 (V false 1 (.bool true) (AC P w0 n_spec_l11Put ([G l17 0, .agg (⟨[v40, .bool true]⟩)]) s41 fun v42 s43 => R v42 s43))) | false => False)
theorem vc_spec_l11Coarser_eq (w0 : World) (a0 : Value) (σ : Vw) (R : Value → Vw → Prop) : vc_spec_l11Coarser w0 a0 σ R = den Tryz.prog w0 kp_spec_l11Coarser esc_spec_l11Coarser (Tryz.f69.body.getD .skip) (entry Tryz.f69.ntmps [a0]) σ (retK Tryz.prog Tryz.f69.results.toList R) := by kernel_rfl
theorem ac_spec_l11Coarser {w0 : World} {a0 : Value} {σ : Vw} {R : Value → Vw → Prop} (h : vc_spec_l11Coarser w0 a0 σ R) : AC Tryz.prog w0 n_spec_l11Coarser [a0] σ R := by
  refine ac_rule (fn := Tryz.f69) (c := Tryz.f69.body.getD .skip) kp_spec_l11Coarser esc_spec_l11Coarser Tryz.func69 (by kernel_rfl) (by kernel_rfl) ?_
  rw [← vc_spec_l11Coarser_eq]
  exact h

/-- slices.Compare[[]string,string] -/
def kp_slices_Compare_string_string : Nat → Keep
  | 2 => ⟨[0, 1, 4, 9, 10, 11], [], [], .done, []⟩
  | _ => ⟨[], [], [], .done, []⟩
def esc_slices_Compare_string_string : Nat → Bool
  | _ => false
def vc_slices_Compare_string_string (w0 : World) (a0 a1 : Value) (σ : Vw) (R : Value → Vw → Prop) : Prop :=
  N a0 fun v0 => pLoop (fun l1 K2 s3 => B P 3 .lss (G l1 5) (G l1 4) fun v4 => Q v4 (X 1 (G l1 3) (G l1 5) fun v5 => L w0 1 v5 s3 fun g6 => N (G l1 1) fun v7 => B P 3 .geq (G l1 5) v7 fun v8 => Q v8 (K2 .ret [G l1 0, G l1 1, .int .i64 1, G l1 3, G l1 4, G l1 5] s3) (X 1 (G l1 1) (G l1 5) fun v9 => L w0 1 v9 s3 fun g10 => AC P w0 n_cmp_Compare_string [g6 0, g10 0] s3 fun v11 s12 => B P 3 .neq v11 (.int .i64 0) fun v13 => Q v13 (K2 .ret [G l1 0, G l1 1, v11, G l1 3, G l1 4, G l1 5] s12) (B P 3 .add (G l1 5) (.int .i64 1) fun v14 => K2 .normal [G l1 0, G l1 1, G l1 2, G l1 3, G l1 4, v14] s12))) (K2 (.exit 0) [G l1 0, G l1 1, G l1 2, G l1 3, G l1 4, G l1 5] s3)) [a0, a1, .int .i64 0, a0, v0, .int .i64 0] σ fun x15 l16 s17 => match x15 with | .normal => N (G l16 0) (fun v18 => N (G l16 1) fun v19 => B P 3 .lss v18 v19 fun v20 => Q v20 (R (.int .i64 (-1)) s17) (R (.int .i64 0) s17)) | .ret => R (G l16 2) s17 | .exit i21 => (match Nat.beq i21 0 with | true => N (G l16 0) (fun v22 => N (G l16 1) fun v23 => B P 3 .lss v22 v23 fun v24 => Q v24 (R (.int .i64 (-1)) s17) (R (.int .i64 0) s17)) | false => False)
theorem vc_slices_Compare_string_string_eq (w0 : World) (a0 a1 : Value) (σ : Vw) (R : Value → Vw → Prop) : vc_slices_Compare_string_string w0 a0 a1 σ R = den Tryz.prog w0 kp_slices_Compare_string_string esc_slices_Compare_string_string (Tryz.f70.body.getD .skip) (entry Tryz.f70.ntmps [a0, a1]) σ (retK Tryz.prog Tryz.f70.results.toList R) := by kernel_rfl
theorem ac_slices_Compare_string_string {w0 : World} {a0 a1 : Value} {σ : Vw} {R : Value → Vw → Prop} (h : vc_slices_Compare_string_string w0 a0 a1 σ R) : AC Tryz.prog w0 n_slices_Compare_string_string [a0, a1] σ R := by
  refine ac_rule (fn := Tryz.f70) (c := Tryz.f70.body.getD .skip) kp_slices_Compare_string_string esc_slices_Compare_string_string Tryz.func70 (by kernel_rfl) (by kernel_rfl) ?_
  rw [← vc_slices_Compare_string_string_eq]
  exact h

/-- impl.under -/
def kp_impl_under : Nat → Keep
  | 2 => ⟨[1, 4, 7, 8, 9], [], [], .done, []⟩
  | _ => ⟨[], [], [], .done, []⟩
def esc_impl_under : Nat → Bool
  | _ => false
def vc_impl_under (w0 : World) (a0 a1 : Value) (σ : Vw) (R : Value → Vw → Prop) : Prop :=
  N a0 fun v0 => pLoop (fun l1 K2 s3 => B P 3 .lss (G l1 4) (G l1 3) fun v4 => Q v4 (X 2 (G l1 2) (G l1 4) fun v5 => L w0 2 v5 s3 fun g6 => V true 2 (.agg (⟨[g6 0, g6 1]⟩)) (Q (g6 1) (AC P w0 n_impl_begins [G l1 0, g6 0] s3 fun v7 s8 => Q v7 (K2 .ret [G l1 0, .bool true, G l1 2, G l1 3, G l1 4] s8) (B P 3 .add (G l1 4) (.int .i64 1) fun v9 => K2 .normal [G l1 0, G l1 1, G l1 2, G l1 3, v9] s8)) (B P 3 .add (G l1 4) (.int .i64 1) fun v10 => K2 .normal [G l1 0, G l1 1, G l1 2, G l1 3, v10] s3))) (K2 (.exit 0) [G l1 0, G l1 1, G l1 2, G l1 3, G l1 4] s3)) [a1, .bool false, a0, v0, .int .i64 0] σ fun x11 l12 s13 => match x11 with | .normal => R (.bool false) s13 | .ret => R (G l12 1) s13 | .exit i14 => (match Nat.beq i14 0 with | true => R (.bool false) s13 | false => False)
theorem vc_impl_under_eq (w0 : World) (a0 a1 : Value) (σ : Vw) (R : Value → Vw → Prop) : vc_impl_under w0 a0 a1 σ R = den Tryz.prog w0 kp_impl_under esc_impl_under (Tryz.f71.body.getD .skip) (entry Tryz.f71.ntmps [a0, a1]) σ (retK Tryz.prog Tryz.f71.results.toList R) := by kernel_rfl
theorem ac_impl_under {w0 : World} {a0 a1 : Value} {σ : Vw} {R : Value → Vw → Prop} (h : vc_impl_under w0 a0 a1 σ R) : AC Tryz.prog w0 n_impl_under [a0, a1] σ R := by
  refine ac_rule (fn := Tryz.f71) (c := Tryz.f71.body.getD .skip) kp_impl_under esc_impl_under Tryz.func71 (by kernel_rfl) (by kernel_rfl) ?_
  rw [← vc_impl_under_eq]
  exact h

/-- spec.l11Less -/
def kp_spec_l11Less : Nat → Keep
  | 2 => ⟨[0, 1, 4, 5], [], [], .done, []⟩
  | 4 => ⟨[], [], [], .step 0 (.step 1 (.step 2 (.step 3 (.step 4 (.step 5 (.step 6 (.step 7 (.step 8 (.done))))))))), [(2, [0, 1]), (3, [0, 1, 2]), (6, [4, 5]), (7, [4, 5, 6]), (8, [0, 1, 2, 3, 4, 5, 6, 7])]⟩
  | 5 => ⟨[], [], [], .step 0 (.step 1 (.step 2 (.step 3 (.step 4 (.step 5 (.step 6 (.step 7 (.step 8 (.step 9 (.done)))))))))), [(2, [0, 1]), (3, [0, 1, 2]), (6, [4, 5]), (7, [4, 5, 6]), (8, [0, 1, 2, 3, 4, 5, 6, 7]), (9, [0, 1, 2, 3, 4, 5, 6, 7, 8])]⟩
  | _ => ⟨[], [], [], .done, []⟩
def esc_spec_l11Less : Nat → Bool
  | _ => false
def vc_spec_l11Less (w0 : World) (a0 a1 : Value) (σ : Vw) (R : Value → Vw → Prop) : Prop :=
  pLoop (fun l0 K1 s2 => N (G l0 0) fun v3 => B P 3 .lss (G l0 3) v3 fun v4 => Q v4 (N (G l0 1) fun v5 => B P 3 .lss (G l0 3) v5 fun v6 => Q v6 (X 1 (G l0 0) (G l0 3) fun v7 => L w0 1 v7 s2 fun g8 => X 1 (G l0 1) (G l0 3) fun v9 => L w0 1 v9 s2 fun g10 => B P 9 .neq (g8 0) (g10 0) fun v11 => Q v11 (X 1 (G l0 0) (G l0 3) fun v12 => L w0 1 v12 s2 fun g13 => X 1 (G l0 1) (G l0 3) fun v14 => L w0 1 v14 s2 fun g15 => B P 9 .lss (g13 0) (g15 0) fun v16 => K1 .ret [G l0 0, G l0 1, v16, G l0 3] s2) (B P 3 .add (G l0 3) (.int .i64 1) fun v17 => K1 .normal [G l0 0, G l0 1, G l0 2, v17] s2)) (K1 (.exit 0) [G l0 0, G l0 1, G l0 2, G l0 3] s2)) (K1 (.exit 0) [G l0 0, G l0 1, G l0 2, G l0 3] s2)) [a0, a1, .bool false, .int .i64 0] σ fun x18 l19 s20 => match x18 with | .normal => N (G l19 0) (fun v21 => N (G l19 1) fun v22 => B P 3 .lss v21 v22 fun v23 => R v23 s20) | .ret => R (G l19 2) s20 | .exit i24 => (match Nat.beq i24 0 with | true => N (G l19 0) (fun v25 => N (G l19 1) fun v26 => B P 3 .lss v25 v26 fun v27 => R v27 s20) | false => False)
theorem vc_spec_l11Less_eq (w0 : World) (a0 a1 : Value) (σ : Vw) (R : Value → Vw → Prop) : vc_spec_l11Less w0 a0 a1 σ R = den Tryz.prog w0 kp_spec_l11Less esc_spec_l11Less (Tryz.f72.body.getD .skip) (entry Tryz.f72.ntmps [a0, a1]) σ (retK Tryz.prog Tryz.f72.results.toList R) := by kernel_rfl
theorem ac_spec_l11Less {w0 : World} {a0 a1 : Value} {σ : Vw} {R : Value → Vw → Prop} (h : vc_spec_l11Less w0 a0 a1 σ R) : AC Tryz.prog w0 n_spec_l11Less [a0, a1] σ R := by
  refine ac_rule (fn := Tryz.f72) (c := Tryz.f72.body.getD .skip) kp_spec_l11Less esc_spec_l11Less Tryz.func72 (by kernel_rfl) (by kernel_rfl) ?_
  rw [← vc_spec_l11Less_eq]
  exact h

/-- spec.l2Within -/
def kp_spec_l2Within : Nat → Keep
  | 4 => ⟨[0, 1, 4, 5], [], [], .done, []⟩
  | 6 => ⟨[], [], [], .step 0 (.step 1 (.step 2 (.step 3 (.step 4 (.step 5 (.step 6 (.step 7 (.step 8 (.done))))))))), [(2, [0, 1]), (3, [0, 1, 2]), (6, [4, 5]), (7, [4, 5, 6]), (8, [0, 1, 2, 3, 4, 5, 6, 7])]⟩
  | _ => ⟨[], [], [], .done, []⟩
def esc_spec_l2Within : Nat → Bool
  | _ => false
def vc_spec_l2Within (w0 : World) (a0 a1 : Value) (σ : Vw) (R : Value → Vw → Prop) : Prop :=
  N a0 fun v0 => N a1 fun v1 => B P 3 .lss v0 v1 fun v2 => Q v2 (R (.bool false) σ) (pLoop (fun l3 K4 s5 => N (G l3 1) fun v6 => B P 3 .lss (G l3 3) v6 fun v7 => Q v7 (X 1 (G l3 0) (G l3 3) fun v8 => L w0 1 v8 s5 fun g9 => X 1 (G l3 1) (G l3 3) fun v10 => L w0 1 v10 s5 fun g11 => B P 9 .neq (g9 0) (g11 0) fun v12 => Q v12 (K4 .ret [G l3 0, G l3 1, .bool false, G l3 3] s5) (B P 3 .add (G l3 3) (.int .i64 1) fun v13 => K4 .normal [G l3 0, G l3 1, G l3 2, v13] s5)) (K4 (.exit 0) [G l3 0, G l3 1, G l3 2, G l3 3] s5)) [a0, a1, .bool false, .int .i64 0] σ fun x14 l15 s16 => match x14 with | .normal => R (.bool true) s16 | .ret => R (G l15 2) s16 | .exit i17 => (match Nat.beq i17 0 with | true => R (.bool true) s16 | false => False))
theorem vc_spec_l2Within_eq (w0 : World) (a0 a1 : Value) (σ : Vw) (R : Value → Vw → Prop) : vc_spec_l2Within w0 a0 a1 σ R = den Tryz.prog w0 kp_spec_l2Within esc_spec_l2Within (Tryz.f73.body.getD .skip) (entry Tryz.f73.ntmps [a0, a1]) σ (retK Tryz.prog Tryz.f73.results.toList R) := by kernel_rfl
theorem ac_spec_l2Within {w0 : World} {a0 a1 : Value} {σ : Vw} {R : Value → Vw → Prop} (h : vc_spec_l2Within w0 a0 a1 σ R) : AC Tryz.prog w0 n_spec_l2Within [a0, a1] σ R := by
  refine ac_rule (fn := Tryz.f73) (c := Tryz.f73.body.getD .skip) kp_spec_l2Within esc_spec_l2Within Tryz.func73 (by kernel_rfl) (by kernel_rfl) ?_
  rw [← vc_spec_l2Within_eq]
  exact h

/-- spec.l2CallOk -/
def kp_spec_l2CallOk : Nat → Keep
  | _ => ⟨[], [], [], .done, []⟩
def esc_spec_l2CallOk : Nat → Bool
  | _ => false
def cs_spec_l2CallOk_1 (w0 : World) (v900 : Value) (v901 : Value) (s902 : Vw) (R : Value → Vw → Prop) : Prop :=
  Q v900 (AC P w0 n_spec_l2PathOk [C v901 1] s902 fun v500 s501 => Q v500 (AC P w0 n_spec_l1In [C v901 3, .int .i64 0, .int .i64 24] s501 fun v502 s503 => R v502 s503) (R (.bool false) s501)) (B P 3 .eql (C v901 0) (.int .i64 4) fun v504 => Q v504 (AC P w0 n_spec_l2PathOk [C v901 1] s902 fun v505 s506 => R v505 s506) (B P 3 .eql (C v901 0) (.int .i64 5) fun v507 => Q v507 (AC P w0 n_spec_l2PathOk [C v901 1] s902 fun v508 s509 => Q v508 (AC P w0 n_spec_l2PathOk [C v901 2] s509 fun v510 s511 => R v510 s511) (R (.bool false) s509)) (R (.bool false) s902)))
def vc_spec_l2CallOk (w0 : World) (a0 : Value) (σ : Vw) (R : Value → Vw → Prop) : Prop :=
  V true 5 a0 (B P 3 .eql (C a0 0) (.int .i64 1) fun v0 => Q v0 (Q v0 (AC P w0 n_spec_l2PathOk [C a0 1] σ fun v1 s2 => Q v1 (AC P w0 n_spec_l1In [C a0 3, .int .i64 0, .int .i64 7] s2 fun v3 s4 => R v3 s4) (R (.bool false) s2)) (B P 3 .eql (C a0 0) (.int .i64 2) fun v5 => Q v5 (cs_spec_l2CallOk_1 w0 v5 a0 σ R) (B P 3 .eql (C a0 0) (.int .i64 3) fun v18 => cs_spec_l2CallOk_1 w0 v18 a0 σ R))) (B P 3 .eql (C a0 0) (.int .i64 6) fun v31 => Q v31 (AC P w0 n_spec_l2PathOk [C a0 1] σ fun v32 s33 => Q v32 (AC P w0 n_spec_l1In [C a0 3, .int .i64 0, .int .i64 7] s33 fun v34 s35 => R v34 s35) (R (.bool false) s33)) (B P 3 .eql (C a0 0) (.int .i64 2) fun v36 => Q v36 (cs_spec_l2CallOk_1 w0 v36 a0 σ R) (B P 3 .eql (C a0 0) (.int .i64 3) fun v49 => cs_spec_l2CallOk_1 w0 v49 a0 σ R))))

theorem vc_spec_l2CallOk_eq (w0 : World) (a0 : Value) (σ : Vw) (R : Value → Vw → Prop) : vc_spec_l2CallOk w0 a0 σ R = den Tryz.prog w0 kp_spec_l2CallOk esc_spec_l2CallOk (Tryz.f76.body.getD .skip) (entry Tryz.f76.ntmps [a0]) σ (retK Tryz.prog Tryz.f76.results.toList R) := by kernel_rfl
theorem ac_spec_l2CallOk {w0 : World} {a0 : Value} {σ : Vw} {R : Value → Vw → Prop} (h : vc_spec_l2CallOk w0 a0 σ R) : AC Tryz.prog w0 n_spec_l2CallOk [a0] σ R := by
  refine ac_rule (fn := Tryz.f76) (c := Tryz.f76.body.getD .skip) kp_spec_l2CallOk esc_spec_l2CallOk Tryz.func76 (by kernel_rfl) (by kernel_rfl) ?_
  rw [← vc_spec_l2CallOk_eq]
  exact h

/-- spec.l1At -/
def kp_spec_l1At : Nat → Keep
  | 3 => ⟨[], [], [], .step 0 (.step 1 (.step 2 (.step 3 (.step 4 (.step 5 (.done)))))), [(2, [1]), (3, [1, 2]), (4, [0, 1, 2, 3]), (5, [0, 1, 2, 3, 4])]⟩
  | 6 => ⟨[], [], [], .step 0 (.step 1 (.step 2 (.step 3 (.step 4 (.step 5 (.step 6 (.step 7 (.step 8 (.step 9 (.step 10 (.step 11 (.done)))))))))))), [(1, [0]), (3, [0, 1, 2]), (4, [0, 1, 2, 3]), (6, [5]), (7, [0, 1, 2, 3, 4, 5, 6]), (8, [0, 1, 2, 3, 4, 5, 6, 7]), (9, [0, 1, 2, 3, 4, 5, 6, 7]), (10, [0, 1, 2, 3, 4, 5, 6, 7, 8, 9]), (11, [0, 1, 2, 3, 4, 5, 6, 7, 8, 9, 10])]⟩
  | _ => ⟨[], [], [], .done, []⟩
def esc_spec_l1At : Nat → Bool
  | _ => false
def vc_spec_l1At (w0 : World) (a0 a1 : Value) (σ : Vw) (R : Value → Vw → Prop) : Prop :=
  V true 5 a0 (N a1 fun v0 => B P 3 .eql v0 (.int .i64 0) fun v1 => Q v1 (V true 5 (.agg (⟨[C a0 0, C a0 1, C a0 2, C a0 3, C a0 4]⟩)) (R (.tuple (⟨[.agg (⟨[C a0 0, C a0 1, C a0 2, C a0 3, C a0 4]⟩), .bool true]⟩)) σ)) (X 1 a1 (.int .i64 0) fun v2 => L w0 1 v2 σ fun g3 => AC P w0 n_spec_l1Find ([.agg (⟨[C a0 0, C a0 1, C a0 2, C a0 3, C a0 4]⟩), g3 0]) σ fun v4 s5 => B P 3 .lss v4 (.int .i64 0) fun v6 => Q v6 (V true 5 (.agg (⟨[.bool false, .int .i64 0, .string ({ data := #[] }), .slice none 0 0, .slice none 0 0]⟩)) (R (.tuple (⟨[.agg (⟨[.bool false, .int .i64 0, .string ({ data := #[] }), .slice none 0 0, .slice none 0 0]⟩), .bool false]⟩)) s5)) (X 5 (C a0 4) v4 fun v7 => L w0 5 v7 s5 fun g8 => pSlice 1 a1 (some (.int .i64 1)) none fun v9 => AC P w0 n_spec_l1At ([.agg (⟨[g8 0, g8 1, g8 2, g8 3, g8 4]⟩), v9]) s5 fun v10 s11 => E v10 0 fun v12 => E v10 1 fun v13 => V true 5 v12 (R (.tuple (⟨[.agg (⟨[C v12 0, C v12 1, C v12 2, C v12 3, C v12 4]⟩), v13]⟩)) s11))))
theorem vc_spec_l1At_eq (w0 : World) (a0 a1 : Value) (σ : Vw) (R : Value → Vw → Prop) : vc_spec_l1At w0 a0 a1 σ R = den Tryz.prog w0 kp_spec_l1At esc_spec_l1At (Tryz.f77.body.getD .skip) (entry Tryz.f77.ntmps [a0, a1]) σ (retK Tryz.prog Tryz.f77.results.toList R) := by kernel_rfl
theorem ac_spec_l1At {w0 : World} {a0 a1 : Value} {σ : Vw} {R : Value → Vw → Prop} (h : vc_spec_l1At w0 a0 a1 σ R) : AC Tryz.prog w0 n_spec_l1At [a0, a1] σ R := by
  refine ac_rule (fn := Tryz.f77) (c := Tryz.f77.body.getD .skip) kp_spec_l1At esc_spec_l1At Tryz.func77 (by kernel_rfl) (by kernel_rfl) ?_
  rw [← vc_spec_l1At_eq]
  exact h

/-- impl.both -/
def kp_impl_both : Nat → Keep
  | 9 => ⟨[0, 1, 5, 31, 32, 33], [], [], .done, []⟩
  | _ => ⟨[], [], [], .done, []⟩
def esc_impl_both : Nat → Bool
  | _ => false
def cs_impl_both_1 (w0 : World) (v900 : Value) (v901 : Value) (s902 : Vw) (R : Value → Vw → Prop) : Prop :=
  B P 73 .eql v900 (.pointer none) (fun v500 => Q v500 (pNil v901 (L w0 5 v901 s902 fun g501 => AC P w0 n_impl_Tree_paths ([.agg (⟨[g501 0, g501 1, g501 2, g501 3, g501 4]⟩)]) s902 fun v502 s503 => R v502 s503)) (B P 73 .eql v901 (.pointer none) fun v504 => Q v504 (pNil v900 (L w0 5 v900 s902 fun g505 => AC P w0 n_impl_Tree_paths ([.agg (⟨[g505 0, g505 1, g505 2, g505 3, g505 4]⟩)]) s902 fun v506 s507 => R v506 s507)) (AC P w0 n_impl_either [v900, v901] s902 fun v508 s509 => N v508 fun v510 => pLoop (fun l511 K512 s513 => B P 3 .lss (G l511 5) (G l511 4) fun v514 => Q v514 (X 1 (G l511 3) (G l511 5) fun v515 => L w0 1 v515 s513 fun g516 => AC P w0 n_p_impl_Tree_kid [G l511 0, g516 0] s513 fun v517 s518 => AC P w0 n_p_impl_Tree_kid [G l511 1, g516 0] s518 fun v519 s520 => AC P w0 n_impl_both [v517, v519] s520 fun v521 s522 => B P 3 .add (G l511 2) v521 fun v523 => B P 3 .add (G l511 5) (.int .i64 1) fun v524 => K512 .normal [G l511 0, G l511 1, v523, G l511 3, G l511 4, v524] s522) (K512 (.exit 1) [G l511 0, G l511 1, G l511 2, G l511 3, G l511 4, G l511 5] s513)) [v900, v901, .int .i64 1, v508, v510, .int .i64 0] s509 fun x525 l526 s527 => match x525 with | .normal => R (G l526 2) s527 | .ret => False | .exit i528 => (match Nat.beq i528 1 with | true => R (G l526 2) s527 | false => False))))
def vc_impl_both (w0 : World) (a0 a1 : Value) (σ : Vw) (R : Value → Vw → Prop) : Prop :=
  B P 73 .eql a0 (.pointer none) fun v0 => Q v0 (B P 73 .eql a1 (.pointer none) fun v1 => Q v1 (R (.int .i64 0) σ) (cs_impl_both_1 w0 a0 a1 σ R)) (cs_impl_both_1 w0 a0 a1 σ R)

theorem vc_impl_both_eq (w0 : World) (a0 a1 : Value) (σ : Vw) (R : Value → Vw → Prop) : vc_impl_both w0 a0 a1 σ R = den Tryz.prog w0 kp_impl_both esc_impl_both (Tryz.f79.body.getD .skip) (entry Tryz.f79.ntmps [a0, a1]) σ (retK Tryz.prog Tryz.f79.results.toList R) := by kernel_rfl
theorem ac_impl_both {w0 : World} {a0 a1 : Value} {σ : Vw} {R : Value → Vw → Prop} (h : vc_impl_both w0 a0 a1 σ R) : AC Tryz.prog w0 n_impl_both [a0, a1] σ R := by
  refine ac_rule (fn := Tryz.f79) (c := Tryz.f79.body.getD .skip) kp_impl_both esc_impl_both Tryz.func79 (by kernel_rfl) (by kernel_rfl) ?_
  rw [← vc_impl_both_eq]
  exact h

/-- (*impl.Tree).at -/
def kp_p_impl_Tree_at : Nat → Keep
  | 2 => ⟨[0, 4, 7, 8, 9], [], [], .done, []⟩
  | _ => ⟨[], [], [], .done, []⟩
def esc_p_impl_Tree_at : Nat → Bool
  | _ => false
def vc_p_impl_Tree_at (w0 : World) (a0 a1 : Value) (σ : Vw) (R : Value → Vw → Prop) : Prop :=
  N a1 fun v0 => pLoop (fun l1 K2 s3 => B P 3 .lss (G l1 4) (G l1 3) fun v4 => Q v4 (X 1 (G l1 2) (G l1 4) fun v5 => L w0 1 v5 s3 fun g6 => AC P w0 n_p_impl_Tree_kid [G l1 0, g6 0] s3 fun v7 s8 => B P 73 .eql v7 (.pointer none) fun v9 => Q v9 (K2 .ret [v7, .pointer none, G l1 2, G l1 3, G l1 4] s8) (B P 3 .add (G l1 4) (.int .i64 1) fun v10 => K2 .normal [v7, G l1 1, G l1 2, G l1 3, v10] s8)) (K2 (.exit 0) [G l1 0, G l1 1, G l1 2, G l1 3, G l1 4] s3)) [a0, .pointer none, a1, v0, .int .i64 0] σ fun x11 l12 s13 => match x11 with | .normal => R (G l12 0) s13 | .ret => R (G l12 1) s13 | .exit i14 => (match Nat.beq i14 0 with | true => R (G l12 0) s13 | false => False)
theorem vc_p_impl_Tree_at_eq (w0 : World) (a0 a1 : Value) (σ : Vw) (R : Value → Vw → Prop) : vc_p_impl_Tree_at w0 a0 a1 σ R = den Tryz.prog w0 kp_p_impl_Tree_at esc_p_impl_Tree_at (Tryz.f80.body.getD .skip) (entry Tryz.f80.ntmps [a0, a1]) σ (retK Tryz.prog Tryz.f80.results.toList R) := by kernel_rfl
theorem ac_p_impl_Tree_at {w0 : World} {a0 a1 : Value} {σ : Vw} {R : Value → Vw → Prop} (h : vc_p_impl_Tree_at w0 a0 a1 σ R) : AC Tryz.prog w0 n_p_impl_Tree_at [a0, a1] σ R := by
  refine ac_rule (fn := Tryz.f80) (c := Tryz.f80.body.getD .skip) kp_p_impl_Tree_at esc_p_impl_Tree_at Tryz.func80 (by kernel_rfl) (by kernel_rfl) ?_
  rw [← vc_p_impl_Tree_at_eq]
  exact h

/-- spec.l12Union -/
def kp_spec_l12Union : Nat → Keep
  | 4 => ⟨[5, 6, 7], [(2, 5), (3, 5)], [2, 3], .done, []⟩
  | 6 => ⟨[], [], [], .step 0 (.step 1 (.step 2 (.step 3 (.step 4 (.step 9 (.step 5 (.step 6 (.step 7 (.step 8 (.step 10 (.step 11 (.done)))))))))))), [(3, [1, 2]), (4, [1, 2, 3]), (5, [0, 1, 2, 3, 4]), (6, [0, 1, 2, 3, 4, 5]), (7, [0, 1, 2, 3, 4, 5, 6]), (8, [0, 1, 2, 3, 4, 5, 6]), (10, [0, 1, 2, 3, 4, 5, 6, 7, 9]), (11, [0, 1, 2, 3, 4, 5, 6, 7, 8, 9, 10])]⟩
  | 7 => ⟨[], [], [], .step 0 (.step 1 (.step 2 (.step 3 (.step 4 (.step 9 (.step 5 (.step 6 (.step 7 (.step 8 (.step 10 (.step 11 (.done)))))))))))), [(3, [1, 2]), (4, [1, 2, 3]), (5, [0, 1, 2, 3, 4]), (6, [0, 1, 2, 3, 4, 5]), (7, [0, 1, 2, 3, 4, 5, 6]), (8, [0, 1, 2, 3, 4, 5, 6]), (10, [0, 1, 2, 3, 4, 5, 6, 7, 9]), (11, [0, 1, 2, 3, 4, 5, 6, 7, 8, 9, 10])]⟩
  | _ => ⟨[], [], [], .done, []⟩
def esc_spec_l12Union : Nat → Bool
  | _ => false
def vc_spec_l12Union (w0 : World) (a0 a1 : Value) (σ : Vw) (R : Value → Vw → Prop) : Prop :=
  V true 5 a0 (V true 5 a1 (AC P w0 n_spec_l12Names ([.agg (⟨[C a0 0, C a0 1, C a0 2, C a0 3, C a0 4]⟩), .agg (⟨[C a1 0, C a1 1, C a1 2, C a1 3, C a1 4]⟩)]) σ fun v0 s1 => pLoop (fun l2 K3 s4 => N (G l2 1) fun v5 => B P 3 .lss (G l2 2) v5 fun v6 => Q v6 (X 1 (G l2 1) (G l2 2) fun v7 => L w0 1 v7 s4 fun g8 => AC P w0 n_spec_l12Kid ([.agg (⟨[G l2 3, G l2 4, G l2 5, G l2 6, G l2 7]⟩), g8 0]) s4 fun v9 s10 => E v9 0 fun v11 => E v9 1 fun v12 => V true 5 v11 (X 1 (G l2 1) (G l2 2) fun v13 => L w0 1 v13 s10 fun g14 => AC P w0 n_spec_l12Kid ([.agg (⟨[G l2 8, G l2 9, G l2 10, G l2 11, G l2 12]⟩), g14 0]) s10 fun v15 s16 => E v15 0 fun v17 => E v15 1 fun v18 => V true 5 v17 (AC P w0 n_spec_l12Union ([.agg (⟨[C v11 0, C v11 1, C v11 2, C v11 3, C v11 4]⟩), .agg (⟨[C v17 0, C v17 1, C v17 2, C v17 3, C v17 4]⟩)]) s16 fun v19 s20 => B P 3 .add (G l2 0) v19 fun v21 => B P 3 .add (G l2 2) (.int .i64 1) fun v22 => K3 .normal [v21, G l2 1, v22, G l2 3, G l2 4, G l2 5, G l2 6, G l2 7, G l2 8, G l2 9, G l2 10, G l2 11, G l2 12] s20))) (K3 (.exit 0) [G l2 0, G l2 1, G l2 2, G l2 3, G l2 4, G l2 5, G l2 6, G l2 7, G l2 8, G l2 9, G l2 10, G l2 11, G l2 12] s4)) [.int .i64 1, v0, .int .i64 0, C a0 0, C a0 1, C a0 2, C a0 3, C a0 4, C a1 0, C a1 1, C a1 2, C a1 3, C a1 4] s1 fun x23 l24 s25 => match x23 with | .normal => R (G l24 0) s25 | .ret => False | .exit i26 => (match Nat.beq i26 0 with | true => R (G l24 0) s25 | false => False)))
theorem vc_spec_l12Union_eq (w0 : World) (a0 a1 : Value) (σ : Vw) (R : Value → Vw → Prop) : vc_spec_l12Union w0 a0 a1 σ R = den Tryz.prog w0 kp_spec_l12Union esc_spec_l12Union (Tryz.f81.body.getD .skip) (entry Tryz.f81.ntmps [a0, a1]) σ (retK Tryz.prog Tryz.f81.results.toList R) := by kernel_rfl
theorem ac_spec_l12Union {w0 : World} {a0 a1 : Value} {σ : Vw} {R : Value → Vw → Prop} (h : vc_spec_l12Union w0 a0 a1 σ R) : AC Tryz.prog w0 n_spec_l12Union [a0, a1] σ R := by
  refine ac_rule (fn := Tryz.f81) (c := Tryz.f81.body.getD .skip) kp_spec_l12Union esc_spec_l12Union Tryz.func81 (by kernel_rfl) (by kernel_rfl) ?_
  rw [← vc_spec_l12Union_eq]
  exact h

/-- impl.walk -/
def kp_impl_walk : Nat → Keep
  | 5 => ⟨[], [], [], .step 0 (.step 1 (.step 2 (.step 3 (.step 4 (.step 5 (.step 6 (.step 7 (.step 8 (.step 9 (.done)))))))))), [(1, [0]), (2, [0, 1]), (3, [0, 1, 2]), (5, [4]), (6, [4, 5]), (7, [4, 5, 6]), (8, [0, 1, 2, 3, 4, 5, 6, 7]), (9, [0, 1, 2, 3, 4, 5, 6, 7, 8])]⟩
  | 6 => ⟨[], [], [], .step 0 (.step 3 (.step 4 (.step 5 (.step 6 (.step 1 (.both (.step 2 (.step 7 (.step 8 (.step 9 (.done))))) (.step 7 (.step 2 (.step 8 (.step 9 (.done))))))))))), [(1, [0]), (2, [0, 1]), (5, [4]), (6, [4, 5]), (7, [0, 1, 3, 4, 5, 6]), (8, [0, 1, 2, 3, 4, 5, 6, 7]), (9, [0, 1, 2, 3, 4, 5, 6, 7, 8])]⟩
  | 7 => ⟨[], [], [], .step 0 (.step 1 (.step 2 (.step 3 (.step 4 (.step 5 (.step 6 (.step 7 (.step 8 (.done))))))))), [(2, [1]), (3, [1, 2]), (5, [4]), (6, [4, 5]), (7, [0, 1, 2, 3, 4, 5, 6]), (8, [0, 1, 2, 3, 4, 5, 6, 7])]⟩
  | 9 => ⟨[0, 1, 2, 7, 53, 54, 55], [], [], .done, []⟩
  | _ => ⟨[], [], [], .done, []⟩
def esc_impl_walk : Nat → Bool
  | 23 => true
  | 36 => true
  | _ => false
def vc_impl_walk (w0 : World) (a0 a1 a2 : Value) (σ : Vw) (R : Value → Vw → Prop) : Prop :=
  B P 73 .eql a1 (.pointer none) fun v0 => Q v0 (pNil a2 (L w0 5 a2 σ fun g1 => AC P w0 n_impl_fresh ([a0, .agg (⟨[g1 0, g1 1, g1 2, g1 3, g1 4]⟩)]) σ fun v2 s3 => R v2 s3)) (B P 73 .eql a2 (.pointer none) fun v4 => Q v4 (AC P w0 n_impl_gone [a0] σ fun v5 s6 => V true 5 v5 (W w0 80 [C v5 0, C v5 1, C v5 2, C v5 3, C v5 4] s6 fun n7 s8 => R (.slice (some (Addr.mk n7 0 none)) 1 1) s8)) (pNil a1 (F 0 a1 fun v9 => L w0 1 v9 σ fun g10 => pNil a2 (F 0 a2 fun v11 => L w0 1 v11 σ fun g12 => B P 4 .neq (g10 0) (g12 0) fun v13 => Q v13 (pNil a2 (L w0 5 a2 σ fun g14 => AC P w0 n_impl_gone [a0] σ fun v15 s16 => (Stay w0 σ s16 a2 5) ∧ ((V true 5 v15 (W w0 80 [C v15 0, C v15 1, C v15 2, C v15 3, C v15 4] s16 fun n17 s18 => (Stay w0 s16 s18 a2 5) ∧ (AC P w0 n_impl_fresh ([a0, .agg (⟨[g14 0, g14 1, g14 2, g14 3, g14 4]⟩)]) s18 fun v19 s20 => pAppendS w0 80 5 64 (.slice (some (Addr.mk n17 0 none)) 1 1) v19 s20 fun v21 s22 => R v21 s22))) ∧ (AC P w0 n_impl_fresh ([a0, .agg (⟨[g14 0, g14 1, g14 2, g14 3, g14 4]⟩)]) s16 fun v23 s24 => V true 5 v15 (W w0 80 [C v15 0, C v15 1, C v15 2, C v15 3, C v15 4] s24 fun n25 s26 => (Stay w0 s24 s26 a2 5) ∧ (pAppendS w0 80 5 64 (.slice (some (Addr.mk n25 0 none)) 1 1) v23 s26 fun v27 s28 => R v27 s28)))))) (pNil a1 (L w0 5 a1 σ fun g29 => pNil a2 (L w0 5 a2 σ fun g30 => AC P w0 n_impl_changes ([a0, .agg (⟨[g29 0, g29 1, g29 2, g29 3, g29 4]⟩), .agg (⟨[g30 0, g30 1, g30 2, g30 3, g30 4]⟩)]) σ fun v31 s32 => AC P w0 n_impl_either [a1, a2] s32 fun v33 s34 => N v33 fun v35 => pLoop (fun l36 K37 s38 => B P 3 .lss (G l36 6) (G l36 5) fun v39 => Q v39 (X 1 (G l36 4) (G l36 6) fun v40 => L w0 1 v40 s38 fun g41 => AC P w0 n_impl_below [G l36 0, g41 0] s38 fun v42 s43 => AC P w0 n_p_impl_Tree_kid [G l36 1, g41 0] s43 fun v44 s45 => AC P w0 n_p_impl_Tree_kid [G l36 2, g41 0] s45 fun v46 s47 => AC P w0 n_impl_walk [v42, v44, v46] s47 fun v48 s49 => pAppendS w0 80 5 64 (G l36 3) v48 s49 fun v50 s51 => B P 3 .add (G l36 6) (.int .i64 1) fun v52 => K37 .normal [G l36 0, G l36 1, G l36 2, v50, G l36 4, G l36 5, v52] s51) (K37 (.exit 1) [G l36 0, G l36 1, G l36 2, G l36 3, G l36 4, G l36 5, G l36 6] s38)) [a0, a1, a2, v31, v33, v35, .int .i64 0] s34 fun x53 l54 s55 => match x53 with | .normal => R (G l54 3) s55 | .ret => False | .exit i56 => (match Nat.beq i56 1 with | true => R (G l54 3) s55 | false => False))))))))
theorem vc_impl_walk_eq (w0 : World) (a0 a1 a2 : Value) (σ : Vw) (R : Value → Vw → Prop) : vc_impl_walk w0 a0 a1 a2 σ R = den Tryz.prog w0 kp_impl_walk esc_impl_walk (Tryz.f82.body.getD .skip) (entry Tryz.f82.ntmps [a0, a1, a2]) σ (retK Tryz.prog Tryz.f82.results.toList R) := by kernel_rfl
theorem ac_impl_walk {w0 : World} {a0 a1 a2 : Value} {σ : Vw} {R : Value → Vw → Prop} (h : vc_impl_walk w0 a0 a1 a2 σ R) : AC Tryz.prog w0 n_impl_walk [a0, a1, a2] σ R := by
  refine ac_rule (fn := Tryz.f82) (c := Tryz.f82.body.getD .skip) kp_impl_walk esc_impl_walk Tryz.func82 (by kernel_rfl) (by kernel_rfl) ?_
  rw [← vc_impl_walk_eq]
  exact h

/-- (*spec.l1Rd).pick -/
def kp_p_spec_l1Rd_pick : Nat → Keep
  | 7 => ⟨[], [], [], .step 0 (.step 1 (.step 2 (.step 3 (.step 4 (.step 5 (.step 6 (.step 7 (.step 8 (.step 9 (.step 10 (.step 11 (.step 12 (.step 13 (.step 14 (.step 15 (.step 16 (.step 17 (.step 18 (.step 19 (.step 20 (.step 21 (.step 22 (.step 23 (.step 24 (.step 25 (.step 26 (.step 27 (.step 28 (.step 29 (.step 30 (.step 31 (.step 32 (.step 33 (.step 34 (.step 35 (.step 36 (.step 37 (.step 38 (.step 39 (.step 40 (.step 41 (.step 42 (.step 43 (.step 44 (.step 45 (.done)))))))))))))))))))))))))))))))))))))))))))))), [(1, [0]), (2, [0, 1]), (3, [0, 1, 2]), (6, [5]), (7, [5, 6]), (8, [5, 6, 7]), (9, [5, 6, 7, 8]), (10, [4, 5, 6, 7, 8, 9]), (11, [0, 1, 2, 3, 4, 5, 6, 7, 8, 9, 10]), (12, [0, 1, 2, 3, 4, 5, 6, 7, 8, 9, 10, 11]), (13, [0, 1, 2, 3, 4, 5, 6, 7, 8, 9, 10, 11, 12]), (14, [0, 1, 2, 3, 4, 5, 6, 7, 8, 9, 10, 11, 12, 13]), (16, [15]), (17, [15, 16]), (18, [15, 16, 17]), (20, [19]), (21, [19, 20]), (23, [22]), (24, [22, 23]), (25, [22, 23, 24]), (26, [22, 23, 24, 25]), (27, [19, 20, 21, 22, 23, 24, 25, 26]), (28, [15, 16, 17, 18, 19, 20, 21, 22, 23, 24, 25, 26, 27]), (29, [15, 16, 17, 18, 19, 20, 21, 22, 23, 24, 25, 26, 27, 28]), (30, [15, 16, 17, 18, 19, 20, 21, 22, 23, 24, 25, 26, 27, 28, 29]), (31, [15, 16, 17, 18, 19, 20, 21, 22, 23, 24, 25, 26, 27, 28, 29, 30]), (32, [0, 1, 2, 3, 4, 5, 6, 7, 8, 9, 10, 11, 12, 13, 14, 15, 16, 17, 18, 19, 20, 21, 22, 23, 24, 25, 26, 27, 28, 29, 30, 31]), (34, [33]), (35, [0, 1, 2, 3, 4, 5, 6, 7, 8, 9, 10, 11, 12, 13, 14, 15, 16, 17, 18, 19, 20, 21, 22, 23, 24, 25, 26, 27, 28, 29, 30, 31, 32, 33, 34]), (38, [37]), (39, [37, 38]), (40, [37, 38, 39]), (41, [37, 38, 39, 40]), (42, [36, 37, 38, 39, 40, 41]), (43, [36, 37, 38, 39, 40, 41, 42]), (44, [0, 1, 2, 3, 4, 5, 6, 7, 8, 9, 10, 11, 12, 13, 14, 15, 16, 17, 18, 19, 20, 21, 22, 23, 24, 25, 26, 27, 28, 29, 30, 31, 32, 33, 34, 35, 36, 37, 38, 39, 40, 41, 42, 43]), (45, [0, 1, 2, 3, 4, 5, 6, 7, 8, 9, 10, 11, 12, 13, 14, 15, 16, 17, 18, 19, 20, 21, 22, 23, 24, 25, 26, 27, 28, 29, 30, 31, 32, 33, 34, 35, 36, 37, 38, 39, 40, 41, 42, 43, 44])]⟩
  | _ => ⟨[], [], [], .done, []⟩
def esc_p_spec_l1Rd_pick : Nat → Bool
  | _ => false
def vc_p_spec_l1Rd_pick (w0 : World) (a0 a1 : Value) (σ : Vw) (R : Value → Vw → Prop) : Prop :=
  pNil a0 (F 1 a0 fun v0 => L w0 1 v0 σ fun g1 => B P 3 .add (g1 0) (.int .i64 1) fun v2 => pNil a0 (F 1 a0 fun v3 => V false 1 v2 (pStore v3 [v2] σ fun s4 => B P 3 .lss a1 (.int .i64 1) fun v5 => Q v5 (R (.int .i64 0) s4) (pNil a0 (F 0 a0 fun v6 => L w0 1 v6 s4 fun g7 => N (g7 0) fun v8 => B P 3 .eql v8 (.int .i64 0) fun v9 => Q v9 (R (.int .i64 0) s4) (pNil a0 (F 1 a0 fun v10 => L w0 1 v10 s4 fun g11 => B P 3 .sub (g11 0) (.int .i64 1) fun v12 => pNil a0 (F 0 a0 fun v13 => L w0 1 v13 s4 fun g14 => N (g14 0) fun v15 => B P 3 .lss v12 v15 fun v16 => Q v16 (pNil a0 (F 0 a0 fun v17 => L w0 1 v17 s4 fun g18 => X 1 (g18 0) v12 fun v19 => L w0 1 v19 s4 fun g20 => pConvInt .i64 (g20 0) fun v21 => B P 3 .rem v21 a1 fun v22 => R v22 s4)) (pNil a0 (F 0 a0 fun v23 => L w0 1 v23 s4 fun g24 => pNil a0 (F 0 a0 fun v25 => L w0 1 v25 s4 fun g26 => N (g26 0) fun v27 => B P 3 .rem v12 v27 fun v28 => X 1 (g24 0) v28 fun v29 => L w0 1 v29 s4 fun g30 => pConvInt .i64 (g30 0) fun v31 => B P 3 .mul v31 (.int .i64 131) fun v32 => pNil a0 (F 0 a0 fun v33 => L w0 1 v33 s4 fun g34 => B P 3 .mul v12 (.int .i64 7) fun v35 => B P 3 .add v35 (.int .i64 3) fun v36 => pNil a0 (F 0 a0 fun v37 => L w0 1 v37 s4 fun g38 => N (g38 0) fun v39 => B P 3 .rem v36 v39 fun v40 => X 1 (g34 0) v40 fun v41 => L w0 1 v41 s4 fun g42 => pConvInt .i64 (g42 0) fun v43 => B P 3 .mul v43 (.int .i64 1117) fun v44 => B P 3 .add v32 v44 fun v45 => B P 3 .mul v12 (.int .i64 29) fun v46 => B P 3 .add v45 v46 fun v47 => pNil a0 (F 0 a0 fun v48 => L w0 1 v48 s4 fun g49 => N (g49 0) fun v50 => B P 3 .quo v12 v50 fun v51 => B P 3 .mul v51 (.int .i64 53) fun v52 => B P 3 .add v47 v52 fun v53 => B P 3 .quo v53 (.int .i64 64) fun v54 => B P 3 .xor v53 v54 fun v55 => B P 3 .rem v55 a1 fun v56 => R v56 s4))))))))))))))
theorem vc_p_spec_l1Rd_pick_eq (w0 : World) (a0 a1 : Value) (σ : Vw) (R : Value → Vw → Prop) : vc_p_spec_l1Rd_pick w0 a0 a1 σ R = den Tryz.prog w0 kp_p_spec_l1Rd_pick esc_p_spec_l1Rd_pick (Tryz.f83.body.getD .skip) (entry Tryz.f83.ntmps [a0, a1]) σ (retK Tryz.prog Tryz.f83.results.toList R) := by kernel_rfl
theorem ac_p_spec_l1Rd_pick {w0 : World} {a0 a1 : Value} {σ : Vw} {R : Value → Vw → Prop} (h : vc_p_spec_l1Rd_pick w0 a0 a1 σ R) : AC Tryz.prog w0 n_p_spec_l1Rd_pick [a0, a1] σ R := by
  refine ac_rule (fn := Tryz.f83) (c := Tryz.f83.body.getD .skip) kp_p_spec_l1Rd_pick esc_p_spec_l1Rd_pick Tryz.func83 (by kernel_rfl) (by kernel_rfl) ?_
  rw [← vc_p_spec_l1Rd_pick_eq]
  exact h

end Go.Proofs.YtkbhjejalkbogaaGreat
