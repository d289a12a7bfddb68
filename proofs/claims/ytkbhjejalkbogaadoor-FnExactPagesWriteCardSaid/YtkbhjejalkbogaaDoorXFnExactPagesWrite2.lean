/- The law FnExactPagesWrite holds: it returns true, and the input reads as it did. No condition. This is part 2 of 3 of its proof. -/
import Derived.Test.YtkbhjejalkbogaaDoorXFnExactPagesWrite1
import Derived.IntWalk
import Derived.ChangeArms
import Derived.Test.YtkbhjejalkbogaaDoorProg
import Derived.WideShapes
import Derived.ProofKit
import Derived.Below
import Derived.Shelf.Strings.Builder1
import Derived.Shelf.Strings.BuilderF
import Derived.Shelf.Strings.BuilderK
import Derived.Shelf.Strconv.Itoa0
import Derived.Shelf.Strconv.Itoa1
import Derived.Shelf.LaysM
import Derived.Shelf.Strconv.Itoa2
import Derived.Shelf.Strconv.Itoa3
import Derived.Shelf.Strings.BuilderCap
import Derived.Shelf.Slices.Turned
import Derived.Shelf.Strings.BuilderX

/- The plain side, part 1: the operations at known values; loops; what is read in a slice. -/
set_option linter.unusedVariables false
set_option linter.unusedSimpArgs false
namespace Go.Av
open Go Go.RowKit IntWalk

section
variable {P : Program} {w0 : World} {σ σ' : Vw}

/-! ### The operations at known values -/
theorem pIf_b {b : Bool} {A B : Prop} : pIf (.bool b) A B ↔ (b = true → A) ∧ (b = false → B) :=
  ⟨fun ⟨c, h, h1, h2⟩ => by cases h; exact ⟨h1, h2⟩, fun ⟨h1, h2⟩ => ⟨b, rfl, h1, h2⟩⟩
theorem pIf_d {p : Prop} [Decidable p] {A B : Prop} : pIf (.bool (decide p)) A B ↔ (p → A) ∧ (¬ p → B) := by
  rw [pIf_b]; simp
theorem pLen_s {A : Option Addr} {n c : Nat} {K : Value → Prop} : pLen (.slice A n c) K ↔ K (.int .i64 n) :=
  ⟨fun ⟨_, _, _, h, hK⟩ => by cases h; exact hK, fun h => ⟨_, _, _, rfl, h⟩⟩
theorem pLenS_s {s : ByteArray} {K : Value → Prop} : pLenS (.string s) K ↔ K (.int .i64 s.size) :=
  ⟨fun ⟨_, h, hK⟩ => by cases h; exact hK, fun h => ⟨_, rfl, h⟩⟩
theorem pUn_not {b : Bool} {K : Value → Prop} : pUn .not (.bool b) K ↔ K (.bool !b) :=
  ⟨fun ⟨_, h, hK⟩ => by simp only [aun, Option.some.injEq] at h; subst h; exact hK, fun h => ⟨_, rfl, h⟩⟩
theorem pBin_i {T : Nat} {op : BinOp} {k : IntKind} {a b : Int} {v : Value} {K : Value → Prop} (h : aint op k a b = some v) : pBin P T op (.int k a) (.int k b) K ↔ K v := by
  have e : abinT P T op (.int k a) (.int k b) = some v := by unfold abinT; simp only [if_true]; exact h
  exact ⟨fun ⟨_, h, hK⟩ => by rw [e] at h; cases h; exact hK, fun h => ⟨_, e, h⟩⟩
theorem pBin_lt {T : Nat} {k : IntKind} {a b : Int} {K : Value → Prop} : pBin P T .lss (.int k a) (.int k b) K ↔ K (.bool (decide (a < b))) := pBin_i rfl
theorem pBin_le {T : Nat} {k : IntKind} {a b : Int} {K : Value → Prop} : pBin P T .leq (.int k a) (.int k b) K ↔ K (.bool (decide (a ≤ b))) := pBin_i rfl
theorem pBin_gt {T : Nat} {k : IntKind} {a b : Int} {K : Value → Prop} : pBin P T .gtr (.int k a) (.int k b) K ↔ K (.bool (decide (b < a))) := pBin_i rfl
theorem pBin_ge {T : Nat} {k : IntKind} {a b : Int} {K : Value → Prop} : pBin P T .geq (.int k a) (.int k b) K ↔ K (.bool (decide (b ≤ a))) := pBin_i rfl
theorem pBin_eq {T : Nat} {k : IntKind} {a b : Int} {K : Value → Prop} : pBin P T .eql (.int k a) (.int k b) K ↔ K (.bool (decide (a = b))) := pBin_i rfl
theorem pBin_ne {T : Nat} {k : IntKind} {a b : Int} {K : Value → Prop} : pBin P T .neq (.int k a) (.int k b) K ↔ K (.bool (decide (a ≠ b))) :=
  pBin_i (by simp only [aint, bne, Option.some.injEq, Value.bool.injEq]; by_cases h : a = b <;> simp [h])
theorem pBin_add {T : Nat} {a b : Int} {K : Value → Prop} (h : -9223372036854775808 ≤ a + b ∧ a + b ≤ 9223372036854775807) : pBin P T .add (.int .i64 a) (.int .i64 b) K ↔ K (.int .i64 (a + b)) :=
  pBin_i (by simp only [aint, i64_in _ h])
theorem pBin_sub {T : Nat} {a b : Int} {K : Value → Prop} (h : -9223372036854775808 ≤ a - b ∧ a - b ≤ 9223372036854775807) : pBin P T .sub (.int .i64 a) (.int .i64 b) K ↔ K (.int .i64 (a - b)) :=
  pBin_i (by simp only [aint, i64_in _ h])
theorem pBin_mul {T : Nat} {a b : Int} {K : Value → Prop} (h : -9223372036854775808 ≤ a * b ∧ a * b ≤ 9223372036854775807) : pBin P T .mul (.int .i64 a) (.int .i64 b) K ↔ K (.int .i64 (a * b)) :=
  pBin_i (by simp only [aint, i64_in _ h])

theorem bytes_inj {a b : ByteArray} (h : a.toList = b.toList) : a = b := by
  rw [ByteArray.toList_eq, ByteArray.toList_eq] at h
  cases a; cases b
  simp only [ByteArray.mk.injEq]
  exact Array.toList_inj.1 h
theorem toList_eq {a b : ByteArray} : (a.toList == b.toList) = decide (a = b) := by
  have : a.toList = b.toList ↔ a = b := ⟨fun h => Go.Av.bytes_inj h, fun h => by rw [h]⟩
  by_cases h : a = b
  · subst h; simp
  · have h' : ¬ a.toList = b.toList := fun e => h (this.1 e)
    simp [h, h']
theorem pBin_s {T : Nat} {op : BinOp} {a b : ByteArray} {v : Value} {K : Value → Prop} (h : astr op a b = some v) : pBin P T op (.string a) (.string b) K ↔ K v :=
  ⟨fun ⟨_, h', hK⟩ => by rw [show abinT P T op (.string a) (.string b) = some v from h] at h'; cases h'; exact hK, fun hK => ⟨_, h, hK⟩⟩
theorem pBin_seq {T : Nat} {a b : ByteArray} {K : Value → Prop} : pBin P T .eql (.string a) (.string b) K ↔ K (.bool (decide (a = b))) := pBin_s (by simp only [astr, toList_eq])
theorem pBin_sne {T : Nat} {a b : ByteArray} {K : Value → Prop} : pBin P T .neq (.string a) (.string b) K ↔ K (.bool (decide (a ≠ b))) := pBin_s (by simp only [astr, toList_eq]; simp)
theorem pBin_b {T : Nat} {op : BinOp} {a b : Bool} {v : Value} {K : Value → Prop} (hT : P.underlying T = some .bool) (h : (match op with | .eql => some (Value.bool (a == b)) | .neq => some (.bool (!(a == b))) | _ => none) = some v) : pBin P T op (.bool a) (.bool b) K ↔ K v := by
  have e : abinT P T op (.bool a) (.bool b) = some v := by simp only [abinT, hT]; exact h
  exact ⟨fun ⟨_, h', hK⟩ => by rw [e] at h'; cases h'; exact hK, fun hK => ⟨_, e, hK⟩⟩

theorem pVal1 {n : Nat} {v : Value} {A : Prop} (h : v.oneCell' = true) : pVal false n v A ↔ A := ⟨fun h => h.2, fun hA => ⟨h, hA⟩⟩
theorem pValN {n : Nat} {cs : List Value} {A : Prop} (hl : cs.length = n) (h : ∀ c, c ∈ cs → c.oneCell' = true) : pVal true n (.agg ⟨cs⟩) A ↔ A := ⟨fun h => h.2, fun hA => ⟨⟨cs, rfl, hl, h⟩, hA⟩⟩
theorem cellOf_agg {cs : List Value} {i : Nat} : cellOf (.agg ⟨cs⟩) i = cs.getD i undef := rfl
theorem pStr1 {b : Nat} {K : Value → Prop} {n : Int} {c : Nat} (h : Av.get w0 σ ⟨b, 0, none⟩ = some (.int .u8 n)) (hK : K (.string (strOfNums [n]))) : pStr w0 (.slice (some ⟨b, 0, none⟩) 1 c) σ K :=
  .inr ⟨b, 0, 1, c, [n], rfl, rfl, (fun j hj => by
    have e : j = 0 := by omega
    subst e
    exact h), hK⟩

/-! ### Loops -/
theorem loop_rule {B : List Value → (AX → List Value → Vw → Prop) → Vw → Prop} {K : AX → List Value → Vw → Prop} (I : Nat → List Value → Vw → Prop)
    (step : ∀ m vs σ (L : List Value → Vw → Prop), I m vs σ → (∀ vs' σ', ∀ m', m' + 1 = m → I m' vs' σ' → L vs' σ') → B vs (fun e vs' σ' => match e with | .normal => L vs' σ' | .exit i => K (.exit i) vs' σ' | .ret => K .ret vs' σ') σ)
    {m : Nat} {vs : List Value} (h : I m vs σ) : pLoop B vs σ K := by
  refine ⟨m + 1, ?_⟩
  induction m generalizing vs σ with
  | zero => exact step 0 vs σ _ h (fun vs' σ' m' e => by omega)
  | succ m ih =>
    refine step (m + 1) vs σ _ h (fun vs' σ' m' e hI => ?_)
    have e : m' = m := by omega
    subst e
    exact ih hI

/-! ### Reading -/
theorem add_add (a : Addr) (i j : Nat) : (a.add i).add j = a.add (i + j) := by
  unfold Addr.add
  by_cases hi : i = 0
  · simp [hi]
  · by_cases hj : j = 0
    · simp [hj]
    · have : i + j ≠ 0 := by omega
      simp [hi, hj, this, Nat.add_assoc]

/-- A reader that reads no less. -/
def Le (rd rd' : Addr → Option Value) : Prop := ∀ a v, rd a = some v → rd' a = some v
theorem Ext.le (hx : Ext σ σ') : Le (Av.get w0 σ) (Av.get w0 σ') := fun _ _ h => get_ext hx h

/-- What is read behind a slice: xs, each of n cells. -/
def RSl {α : Type} (n : Nat) (R : (Addr → Option Value) → List Value → α → Prop) (rd : Addr → Option Value) (v : Value) (xs : List α) : Prop :=
  ∃ A cap, v = .slice A xs.length cap ∧ (xs.length ≤ cap ∧ cap ≤ 9223372036854775807) ∧ ∀ (j : Nat) (x : α), xs[j]? = some x → ∃ a es, A = some a ∧ es.length = n ∧ (∀ i, i < n → rd (a.add (j * n + i)) = es[i]?) ∧ R rd es x

theorem RSl.mono {α : Type} {n : Nat} {R : (Addr → Option Value) → List Value → α → Prop} {rd rd' : Addr → Option Value} {v : Value} {xs : List α} (h : RSl n R rd v xs) (hx : Le rd rd') (hR : ∀ es x, R rd es x → R rd' es x) : RSl n R rd' v xs := by
  obtain ⟨A, cap, h1, h2, h3⟩ := h
  refine ⟨A, cap, h1, h2, fun j x hj => ?_⟩
  obtain ⟨a, es, h4, h5, h6, h7⟩ := h3 j x hj
  refine ⟨a, es, h4, h5, fun i hi => ?_, hR _ _ h7⟩
  have := h6 i hi
  have hlt : i < es.length := by omega
  rw [List.getElem?_eq_getElem hlt] at this ⊢
  exact hx _ _ this

theorem RSl.len {α : Type} {n : Nat} {R : (Addr → Option Value) → List Value → α → Prop} {rd : Addr → Option Value} {v : Value} {xs : List α} (h : RSl n R rd v xs) {K : Value → Prop} : pLen v K ↔ K (.int .i64 xs.length) := by
  obtain ⟨A, cap, rfl, _⟩ := h
  exact pLen_s

/-- An element is read. -/
theorem RSl.at {α : Type} {n : Nat} {R : (Addr → Option Value) → List Value → α → Prop} {v : Value} {xs : List α} (h : RSl n R (Av.get w0 σ) v xs) {j : Nat} {x : α} (hj : xs[j]? = some x) {K : (Nat → Value) → Prop} (hK : ∀ g : Nat → Value, R (Av.get w0 σ) (expl g 0 n) x → K g) :
    pIndexAddr n v (.int .i64 j) fun p => pLoad w0 n p σ K := by
  obtain ⟨A, cap, rfl, _, h3⟩ := h
  obtain ⟨a, es, rfl, h5, h6, h7⟩ := h3 j x hj
  have hlt : j < xs.length := (List.getElem?_eq_some_iff.1 hj).1
  refine ⟨a, xs.length, cap, .i64, j, rfl, rfl, by omega, by omega, a.add (j * n), fun i => es.getD i undef, rfl, fun i hi => ?_, hK _ ?_⟩
  · have := h6 i hi
    have hlt : i < es.length := by omega
    rw [add_add, this, List.getElem?_eq_getElem hlt]
    simp only [List.getD_eq_getElem?_getD, List.getElem?_eq_getElem hlt, Option.getD_some]
  · have : expl (fun i => es.getD i undef) 0 n = es := by
      apply List.ext_getElem?
      intro i
      by_cases hi : i < n
      · rw [expl_get _ _ _ _ hi, Nat.zero_add, List.getD_eq_getElem?_getD]
        have hlt : i < es.length := by omega
        rw [List.getElem?_eq_getElem hlt]; rfl
      · rw [List.getElem?_eq_none (by rw [length_expl]; omega), List.getElem?_eq_none (by omega)]
    rw [this]; exact h7

end
end Go.Av

/- The plain side, part 2: rows of our own. -/
set_option linter.unusedVariables false
set_option linter.unusedSimpArgs false
namespace Go.Av
open Go Go.RowKit

/-- Every row stays as it is; there may be new ones. -/
def Keeps (σ σ' : Vw) : Prop := ∀ b r, σ b = some r → σ' b = some r
theorem Keeps.refl (σ : Vw) : Keeps σ σ := fun _ _ h => h
theorem Keeps.trans {σ σ' σ'' : Vw} (h : Keeps σ σ') (h' : Keeps σ' σ'') : Keeps σ σ'' := fun b r hb => h' b r (h b r hb)
theorem Keeps.ext {σ σ' : Vw} (h : Keeps σ σ') : Ext σ σ' := fun b r hb => ⟨r, h b r hb, List.prefix_refl _⟩
theorem Keeps.le {w0 : World} {σ σ' : Vw} (h : Keeps σ σ') : Le (Av.get w0 σ) (Av.get w0 σ') := h.ext.le
theorem Keeps.stay {w0 : World} {σ σ' : Vw} {v : Value} {n : Nat} (h : Keeps σ σ') : Stay w0 σ σ' v n := fun a g _ hc j hj => h.le _ _ (hc j hj)
theorem Keeps.put {σ : Vw} {b : Nat} {r : Row} (h : σ b = none) : Keeps σ (σ.put b r) := fun i x hi => by
  have : i ≠ b := fun e => by rw [e, h] at hi; cases hi
  simp [Vw.put, this, hi]
/-- A new row is made, then others, then the first is written. -/
theorem Keeps.fill {σ σ' : Vw} {b : Nat} {r : Row} (h : Keeps σ σ') (hb : σ b = none) : Keeps σ (σ'.put b r) := fun i x hi => by
  have : i ≠ b := fun e => by rw [e, hb] at hi; cases hi
  simp [Vw.put, this, h i x hi]
theorem put_at {σ : Vw} {b : Nat} {r : Row} : σ.put b r b = some r := by simp [Vw.put]
theorem put_put {σ : Vw} {b : Nat} {r r' : Row} : (σ.put b r).put b r' = σ.put b r' := by
  funext i; simp only [Vw.put]; split <;> rfl

theorem get_row {w0 : World} {σ : Vw} {b off : Nat} {r : Row} (hb : w0.heap.size ≤ b) (h : σ b = some r) : Av.get w0 σ ⟨b, off, none⟩ = r.cells[off]? := by
  unfold Av.get
  simp only
  rw [if_neg (by omega), if_pos trivial, h]; rfl

theorem addr_add (b off i : Nat) : (Addr.mk b off none).add i = ⟨b, off + i, none⟩ := by
  unfold Addr.add
  split
  · rename_i h; subst h; rfl
  · rfl

theorem setAt_mid : ∀ (A old new C : List Value), old.length = new.length → setAt (A ++ (old ++ C)) A.length new = A ++ (new ++ C)
  | A, [], [], C, _ => by simp [setAt]
  | A, [], _ :: _, C, h => by simp at h
  | A, _ :: _, [], C, h => by simp at h
  | A, o :: old, n :: new, C, h => by
    simp only [setAt]
    have e : (A ++ (o :: old ++ C)).set A.length n = (A ++ [n]) ++ (old ++ C) := by simp
    rw [e]
    have := setAt_mid (A ++ [n]) old new C (by simpa using h)
    simp only [List.length_append, List.length_singleton] at this
    rw [this]
    simp

section
variable {w0 : World} {σ : Vw}

theorem flat_len {n : Nat} : ∀ (xs : List (List Value)), (∀ c, c ∈ xs → c.length = n) → xs.flatten.length = xs.length * n
  | [], _ => by simp
  | c :: r, h => by
    have := flat_len r (fun d hd => h d (List.mem_cons_of_mem _ hd))
    simp only [List.flatten_cons, List.length_append, List.length_cons, this, h c List.mem_cons_self]
    rw [Nat.add_mul, Nat.one_mul, Nat.add_comm]

theorem flat_get {n : Nat} : ∀ (xs : List (List Value)), (∀ c, c ∈ xs → c.length = n) → ∀ (j : Nat) (c : List Value), xs[j]? = some c → ∀ i, i < n → xs.flatten[j * n + i]? = c[i]?
  | [], _, j, c, hj, i, hi => by simp at hj
  | d :: r, h, 0, c, hj, i, hi => by
    simp at hj; subst hj
    have := h d List.mem_cons_self
    rw [List.flatten_cons, Nat.zero_mul, Nat.zero_add, List.getElem?_append_left (by omega)]
  | d :: r, h, j + 1, c, hj, i, hi => by
    have hd := h d List.mem_cons_self
    rw [List.flatten_cons, Nat.add_mul, Nat.one_mul, List.getElem?_append_right (by omega)]
    have := flat_get r (fun d hd => h d (List.mem_cons_of_mem _ hd)) j c (by simpa using hj) i hi
    rw [← this]
    congr 1
    omega

/-- An element of a row of our own is written. -/
theorem own_store {b cap len : Nat} {j n : Nat} {r : Row} {A old new C : List Value} (hr : σ b = some r) (hc : r.cells = A ++ (old ++ C)) (hA : A.length = j * n) (ho : old.length = new.length) (hn : new.length = n) (hj : j < len) {K : Vw → Prop}
    (hK : K (σ.put b { r with cells := A ++ (new ++ C) })) : pIndexAddr n (.slice (some ⟨b, 0, none⟩) len cap) (.int .i64 j) fun p => pStore p new σ K := by
  refine ⟨_, len, cap, .i64, j, rfl, rfl, by omega, by omega, b, j * n, r, by rw [addr_add]; simp, hr, ?_, ?_⟩
  · rw [hc]; simp only [List.length_append]; omega
  · rw [hc, ← hA, setAt_mid _ _ _ _ ho]; exact hK

theorem RSl.one {α : Type} {n : Nat} {R : (Addr → Option Value) → List Value → α → Prop} {rd : Addr → Option Value} {v : Value} {xs : List α} (h : RSl n R rd v xs) : v.oneCell' = true := by
  obtain ⟨A, cap, rfl, _⟩ := h
  rfl
theorem RSl.le {α : Type} {n : Nat} {R : (Addr → Option Value) → List Value → α → Prop} {rd : Addr → Option Value} {v : Value} {xs : List α} (h : RSl n R rd v xs) : xs.length ≤ 9223372036854775807 := by
  obtain ⟨_, _, _, h2, _⟩ := h; exact Nat.le_trans h2.1 h2.2
theorem pVal_2 {v v' : Value} {A : Prop} (h : v.oneCell' = true) (h' : v'.oneCell' = true) : pVal true 2 (.agg ⟨[v, v']⟩) A ↔ A := pValN rfl (by simp [h, h'])
theorem pVal_3 {v v' v'' : Value} {A : Prop} (h : v.oneCell' = true) (h' : v'.oneCell' = true) (h'' : v''.oneCell' = true) : pVal true 3 (.agg ⟨[v, v', v'']⟩) A ↔ A := pValN rfl (by simp [h, h', h''])

theorem pMake_s {ety n bytes m : Nat} {z : List Value} {K : Value → Vw → Prop} (hm : bytes * m ≤ 140737488355328) (hm2 : m ≤ 9223372036854775807) (hK : ∀ b e, w0.heap.size ≤ b → σ b = none → K (.slice (some ⟨b, 0, none⟩) m m) (σ.put b ⟨e, (List.replicate m z).flatten, m * n, (0, 0)⟩)) :
    pMake w0 ety n bytes z (.int .i64 m) (.int .i64 m) σ K := by
  refine ⟨.i64, m, rfl, rfl, by omega, by omega, ?_, fun b h1 h2 => ?_⟩
  · have : ((bytes * m : Nat) : Int) ≤ 2 ^ 47 := by
      rw [show (2 : Int) ^ 47 = 140737488355328 by decide]; omega
    simpa using this
  · have := hK b ety h1 h2
    simpa using this
end
end Go.Av

/- The lists of structs, whatever their element: their size, their comparison. -/
set_option linter.unusedVariables false
set_option linter.unusedSimpArgs false
namespace Go.Av
open Go Go.RowKit

/-- What is left of n. -/
def left (n : Int) (t : Nat) : Int := if n - t < 0 then -1 else n - t
theorem left_neg {n : Int} {t : Nat} : left n t < 0 ↔ n < t := by unfold left; split <;> omega
theorem left_low {n : Int} {t : Nat} (h : n < t) : left n t = -1 := by unfold left; rw [if_pos (by omega)]
theorem left_in {n : Int} {t : Nat} (h : (t : Int) ≤ n) : left n t = n - t := by unfold left; rw [if_neg (by omega)]

def sumBy {α : Type} (f : α → Nat) : List α → Nat
  | [] => 0
  | s :: r => f s + sumBy f r
theorem sumBy_take {α : Type} {f : α → Nat} {xs : List α} : ∀ {j : Nat} {x : α}, xs[j]? = some x → sumBy f (xs.take (j + 1)) = sumBy f (xs.take j) + f x := by
  induction xs with
  | nil => intro j x h; simp at h
  | cons a r ih =>
    intro j x h
    cases j with
    | zero => simp at h; subst h; simp [sumBy]
    | succ j =>
      simp at h
      have := ih h
      simp only [List.take_succ_cons, sumBy, this]
      omega
theorem sumBy_le {α : Type} {f : α → Nat} {xs : List α} : ∀ (j : Nat), sumBy f (xs.take j) ≤ sumBy f xs := by
  induction xs with
  | nil => intro j; simp [sumBy]
  | cons a r ih =>
    intro j
    cases j with
    | zero => simp [sumBy]
    | succ j => have := ih j; simp only [List.take_succ_cons, sumBy]; omega

section
variable {P : Program} {w0 : World} {σ : Vw} {α : Type}

def VszS (P : Program) (w0 : World) (T n f : Nat) (a0 a1 : Value) (σ : Vw) (R : Value → Vw → Prop) : Prop :=
  pLen a0 (fun v0 => pBin P T .sub a1 v0 (fun v1 => pBin P T .lss v1 (.int .i64 0) (fun v2 => pIf v2 (R (.int .i64 (-1)) σ) (pLoop (fun l3 K4 s5 => pLen (vget l3 0) (fun v6 => pBin P T .lss (vget l3 3) v6 (fun v7 => pIf v7
    (pIndexAddr n (vget l3 0) (vget l3 3) (fun v8 => pLoad w0 n v8 s5 (fun g9 => AC P w0 f [.agg ⟨expl g9 0 n⟩, vget l3 1] s5 (fun v10 s11 => pBin P T .lss v10 (.int .i64 0) (fun v12 => pIf v12 (K4 .ret [vget l3 0, v10, .int .i64 (-1), vget l3 3] s11)
      (pBin P T .add (vget l3 3) (.int .i64 1) (fun v13 => K4 .normal [vget l3 0, v10, vget l3 2, v13] s11))))))) (K4 (.exit 0) [vget l3 0, vget l3 1, vget l3 2, vget l3 3] s5)))) [a0, v1, .int .i64 0, .int .i64 0] σ
    (fun x14 l15 s16 => match x14 with | .normal => R (vget l15 1) s16 | .ret => R (vget l15 2) s16 | .exit i17 => (match Nat.beq i17 0 with | true => R (vget l15 1) s16 | false => False))))))

theorem szS_gen {T n f : Nat} {Rel : (Addr → Option Value) → List Value → α → Prop} {sz : α → Nat} {v : Value} {xs : List α} {m : Int}
    (hf : ∀ x, x ∈ xs → ∀ (es : List Value) (m : Int) (R' : Value → Vw → Prop), Rel (Av.get w0 σ) es x → 0 ≤ m ∧ m ≤ 9223372036854775807 → R' (.int .i64 (left m (sz x))) σ → AC P w0 f [.agg ⟨es⟩, .int .i64 m] σ R')
    (h : RSl n Rel (Av.get w0 σ) v xs) (hn : 0 ≤ m ∧ m ≤ 9223372036854775807) {R : Value → Vw → Prop} (hR : R (.int .i64 (left m (xs.length + sumBy sz xs))) σ) : VszS P w0 T n f v (.int .i64 m) σ R := by
  unfold VszS
  have hl := h.le
  rw [h.len, pBin_sub (by omega), pBin_lt, pIf_d]
  refine ⟨fun hlt => ?_, fun hge => ?_⟩
  · rw [left_low (by omega)] at hR; exact hR
  · refine loop_rule (m := xs.length) (fun k l s => ∃ j, s = σ ∧ k + j = xs.length ∧ 0 ≤ m - xs.length - sumBy sz (xs.take j) ∧ l = [v, .int .i64 (m - xs.length - sumBy sz (xs.take j)), .int .i64 0, .int .i64 (j : Nat)]) ?_ ⟨0, rfl, by omega, by simp [sumBy]; omega, by simp [sumBy]⟩
    rintro k l s L ⟨j, rfl, hm, h0, rfl⟩ hL
    simp only [vget, List.getD_cons_zero, List.getD_cons_succ]
    rw [h.len, pBin_lt, pIf_d]
    refine ⟨fun hj => ?_, fun hj => ?_⟩
    · have hj' : j < xs.length := by omega
      have hx := List.getElem?_eq_getElem hj'
      refine h.at hx fun g hg => ?_
      have ht := sumBy_take (f := sz) hx
      have hle := sumBy_le (f := sz) (xs := xs) (j + 1)
      refine hf _ (List.getElem_mem hj') _ _ _ hg (by omega) ?_
      rw [pBin_lt, pIf_d]
      refine ⟨fun hlt => ?_, fun hge => ?_⟩
      · rw [left_neg] at hlt
        rw [left_low (by omega)] at hR; exact hR
      · rw [left_neg] at hge
        rw [pBin_add (by omega), left_in (by omega)]
        refine hL _ _ (k - 1) (by omega) ⟨j + 1, rfl, by omega, by omega, ?_⟩
        rw [ht]
        congr 2
        · congr 1; omega
    · have hj' : j = xs.length := by omega
      subst hj'
      rw [List.take_length] at h0 ⊢
      rw [left_in (by omega)] at hR
      rw [show m - (xs.length : Int) - (sumBy sz xs : Int) = m - ((xs.length + sumBy sz xs : Nat) : Int) by omega]
      exact hR

def VeqS (P : Program) (w0 : World) (T n f : Nat) (a0 a1 : Value) (σ : Vw) (R : Value → Vw → Prop) : Prop :=
  pLen a0 (fun v0 => pLen a1 (fun v1 => pBin P T .neq v0 v1 (fun v2 => pIf v2 (R (.bool false) σ) (pLoop (fun l3 K4 s5 => pLen (vget l3 0) (fun v6 => pBin P T .lss (vget l3 3) v6 (fun v7 => pIf v7
    (pIndexAddr n (vget l3 0) (vget l3 3) (fun v8 => pLoad w0 n v8 s5 (fun g9 => pIndexAddr n (vget l3 1) (vget l3 3) (fun v10 => pLoad w0 n v10 s5 (fun g11 => AC P w0 f [.agg ⟨expl g9 0 n⟩, .agg ⟨expl g11 0 n⟩] s5 (fun v12 s13 => pUn .not v12 (fun v14 => pIf v14
      (K4 .ret [vget l3 0, vget l3 1, .bool false, vget l3 3] s13) (pBin P T .add (vget l3 3) (.int .i64 1) (fun v15 => K4 .normal [vget l3 0, vget l3 1, vget l3 2, v15] s13))))))))) (K4 (.exit 0) [vget l3 0, vget l3 1, vget l3 2, vget l3 3] s5)))) [a0, a1, .bool false, .int .i64 0] σ
    (fun x16 l17 s18 => match x16 with | .normal => R (.bool true) s18 | .ret => R (vget l17 2) s18 | .exit i19 => (match Nat.beq i19 0 with | true => R (.bool true) s18 | false => False))))))

theorem eqS_gen [DecidableEq α] {T n f : Nat} {Rel : (Addr → Option Value) → List Value → α → Prop} {v v' : Value} {xs ys : List α}
    (hf : ∀ x, x ∈ xs → ∀ (y : α) (es es' : List Value) (R' : Value → Vw → Prop), Rel (Av.get w0 σ) es x → Rel (Av.get w0 σ) es' y → R' (.bool (decide (x = y))) σ → AC P w0 f [.agg ⟨es⟩, .agg ⟨es'⟩] σ R')
    (h : RSl n Rel (Av.get w0 σ) v xs) (h' : RSl n Rel (Av.get w0 σ) v' ys) {R : Value → Vw → Prop} (hR : R (.bool (decide (xs = ys))) σ) : VeqS P w0 T n f v v' σ R := by
  unfold VeqS
  have hl := h.le
  rw [h.len, h'.len, pBin_ne, pIf_d]
  refine ⟨fun hne => ?_, fun heq => ?_⟩
  · have : xs ≠ ys := fun e => hne (by rw [e])
    simpa [this] using hR
  · have hlen : xs.length = ys.length := by omega
    refine loop_rule (m := xs.length) (fun m l s => ∃ j, s = σ ∧ m + j = xs.length ∧ xs.take j = ys.take j ∧ l = [v, v', .bool false, .int .i64 (j : Nat)]) ?_ ⟨0, rfl, by omega, by simp, rfl⟩
    rintro m l s L ⟨j, rfl, hm, ht, rfl⟩ hL
    simp only [vget, List.getD_cons_zero, List.getD_cons_succ]
    rw [h.len, pBin_lt, pIf_d]
    refine ⟨fun hj => ?_, fun hj => ?_⟩
    · have hj' : j < xs.length := by omega
      have hx := List.getElem?_eq_getElem hj'
      have hy := List.getElem?_eq_getElem (show j < ys.length by omega)
      refine h.at hx fun g hg => ?_
      refine h'.at hy fun g' hg' => ?_
      refine hf _ (List.getElem_mem hj') _ _ _ _ hg hg' ?_
      rw [pUn_not, pIf_b]
      by_cases e : xs[j] = ys[j]
      · refine ⟨fun h => by simp [e] at h, fun _ => ?_⟩
        rw [pBin_add (by omega)]
        refine hL _ _ (m - 1) (by omega) ⟨j + 1, rfl, by omega, ?_, rfl⟩
        rw [List.take_add_one, List.take_add_one, hx, hy, ht, e]
      · refine ⟨fun _ => ?_, fun h => by simp [e] at h⟩
        have : xs ≠ ys := fun e' => by subst e'; exact e rfl
        simpa [this] using hR
    · have hj' : j = xs.length := by omega
      subst hj'
      rw [List.take_length, hlen, List.take_length] at ht
      subst ht
      simpa using hR
end
end Go.Av

/- Lists that lie in rows of our own, each part in rows of its own; the copy of a list of structs. -/
set_option linter.unusedVariables false
set_option linter.unusedSimpArgs false
namespace Go.Av
open Go Go.RowKit

section
variable {P : Program} {w0 : World} {σ σ' : Vw} {α : Type}

/-- What a rule for parts in rows of our own must keep. -/
structure OOk (w0 : World) (n : Nat) (Rel : (Addr → Option Value) → List Value → α → Prop) (O : Vw → List Nat → List Value → α → Prop) : Prop where
  rel : ∀ σ F es x, O σ F es x → Rel (Av.get w0 σ) es x
  frame : ∀ σ σ' F es x, O σ F es x → (∀ b, b ∈ F → σ' b = σ b) → O σ' F es x
  dom : ∀ σ F es x, O σ F es x → ∀ b, b ∈ F → w0.heap.size ≤ b ∧ σ b ≠ none
  nodup : ∀ σ F es x, O σ F es x → F.Nodup
  len : ∀ σ F es x, O σ F es x → es.length = n
  one : ∀ σ F es x, O σ F es x → ∀ c, c ∈ es → c.oneCell' = true

/-- A list in a row of our own, the elements' own parts in other rows. -/
def OSl (w0 : World) (n : Nat) (O : Vw → List Nat → List Value → α → Prop) (σ : Vw) (F : List Nat) (v : Value) (xs : List α) : Prop :=
  xs.length ≤ 9223372036854775807 ∧ F.Nodup ∧ ((v = .slice none 0 0 ∧ xs = [] ∧ F = []) ∨
  ∃ (b off cap : Nat) (r : Row) (pre post : List Value) (css : List (List Value)) (Fs : List (List Nat)), v = .slice (some ⟨b, off, none⟩) xs.length cap ∧ (xs.length ≤ cap ∧ cap ≤ 9223372036854775807) ∧ w0.heap.size ≤ b ∧ σ b = some r ∧ r.cells = pre ++ (css.flatten ++ post) ∧ pre.length = off ∧
    css.length = xs.length ∧ Fs.length = xs.length ∧ F = b :: Fs.flatten ∧ ∀ (j : Nat) (c : List Value) (x : α) (f : List Nat), css[j]? = some c → xs[j]? = some x → Fs[j]? = some f → O σ f c x)

theorem mem_flat {l : List (List Nat)} {b : Nat} (h : b ∈ l.flatten) : ∃ (j : Nat) (f : List Nat), l[j]? = some f ∧ b ∈ f := by
  obtain ⟨f, h1, h2⟩ := List.mem_flatten.1 h
  obtain ⟨j, hj⟩ := List.getElem?_of_mem h1
  exact ⟨j, f, hj, h2⟩

theorem OSl.frame {n : Nat} {Rel : (Addr → Option Value) → List Value → α → Prop} {O : Vw → List Nat → List Value → α → Prop} (ok : OOk w0 n Rel O) {F : List Nat} {v : Value} {xs : List α} (h : OSl w0 n O σ F v xs) (hF : ∀ b, b ∈ F → σ' b = σ b) : OSl w0 n O σ' F v xs := by
  obtain ⟨h1, h2, h3 | ⟨b, off, cap, r, pre, post, css, Fs, g1, gc, g2, g3, g4, g5, g6, g7, g8, g9⟩⟩ := h
  · exact ⟨h1, h2, .inl h3⟩
  · refine ⟨h1, h2, .inr ⟨b, off, cap, r, pre, post, css, Fs, g1, gc, g2, ?_, g4, g5, g6, g7, g8, fun j c x f e1 e2 e3 => ?_⟩⟩
    · rw [hF b (by rw [g8]; exact List.mem_cons_self)]; exact g3
    · refine ok.frame _ _ _ _ _ (g9 j c x f e1 e2 e3) fun i hi => hF i ?_
      rw [g8]
      exact List.mem_cons_of_mem _ (List.mem_flatten.2 ⟨f, List.mem_of_getElem? e3, hi⟩)

theorem OSl.dom {n : Nat} {Rel : (Addr → Option Value) → List Value → α → Prop} {O : Vw → List Nat → List Value → α → Prop} (ok : OOk w0 n Rel O) {F : List Nat} {v : Value} {xs : List α} (h : OSl w0 n O σ F v xs) : ∀ b, b ∈ F → w0.heap.size ≤ b ∧ σ b ≠ none := by
  obtain ⟨h1, h2, ⟨_, _, h3⟩ | ⟨b, off, cap, r, pre, post, css, Fs, g1, gc, g2, g3, g4, g5, g6, g7, g8, g9⟩⟩ := h
  · rw [h3]; intro b hb; cases hb
  · rw [g8]
    intro i hi
    rcases List.mem_cons.1 hi with e | e
    · rw [e]; exact ⟨g2, by rw [g3]; simp⟩
    · obtain ⟨j, f, e1, e2⟩ := mem_flat e
      have hj : j < Fs.length := (List.getElem?_eq_some_iff.1 e1).1
      exact ok.dom _ _ _ _ (g9 j _ _ f (List.getElem?_eq_getElem (by omega)) (List.getElem?_eq_getElem (by omega)) e1) i e2

theorem OSl.rel {n : Nat} {Rel : (Addr → Option Value) → List Value → α → Prop} {O : Vw → List Nat → List Value → α → Prop} (ok : OOk w0 n Rel O) {F : List Nat} {v : Value} {xs : List α} (h : OSl w0 n O σ F v xs) : RSl n Rel (Av.get w0 σ) v xs := by
  obtain ⟨h1, h2, ⟨rfl, rfl, _⟩ | ⟨b, off, cap, r, pre, post, css, Fs, rfl, gc, g2, g3, g4, g5, g6, g7, g8, g9⟩⟩ := h
  · exact ⟨none, 0, rfl, by simp, fun j x hj => by simp at hj⟩
  · have each : ∀ (j : Nat) (c : List Value), css[j]? = some c → c.length = n := fun j c hj => by
      have hlt : j < css.length := (List.getElem?_eq_some_iff.1 hj).1
      exact ok.len _ _ _ _ (g9 j c _ _ hj (List.getElem?_eq_getElem (by omega)) (List.getElem?_eq_getElem (by omega)))
    have hn : ∀ c, c ∈ css → c.length = n := fun c hc => by obtain ⟨j, hj⟩ := List.getElem?_of_mem hc; exact each j c hj
    refine ⟨_, cap, rfl, gc, fun j x hj => ?_⟩
    have hlt : j < css.length := by have := (List.getElem?_eq_some_iff.1 hj).1; omega
    have hcj := List.getElem?_eq_getElem hlt
    refine ⟨_, css[j], rfl, each j _ hcj, fun i hi => ?_, ok.rel _ _ _ _ (g9 j _ x _ hcj hj (List.getElem?_eq_getElem (by omega)))⟩
    rw [addr_add, get_row g2 g3, g4, List.getElem?_append_right (by omega)]
    rw [show off + (j * n + i) - pre.length = j * n + i by omega, List.getElem?_append_left, flat_get css hn j _ hcj i hi]
    rw [flat_len css hn]
    calc j * n + i < j * n + n := by omega
      _ = (j + 1) * n := by rw [Nat.add_mul, Nat.one_mul]
      _ ≤ css.length * n := Nat.mul_le_mul_right n hlt

def VtoS (P : Program) (w0 : World) (T ety n bytes f : Nat) (z : List Value) (a0 : Value) (σ : Vw) (R : Value → Vw → Prop) : Prop :=
  pLen a0 (fun v0 => pMake w0 ety n bytes z v0 v0 σ (fun v1 s2 => pLoop (fun l3 K4 s5 => pLen (vget l3 0) (fun v6 => pBin P T .lss (vget l3 2) v6 (fun v7 => pIf v7
    (pIndexAddr n (vget l3 0) (vget l3 2) (fun v8 => pLoad w0 n v8 s5 (fun g9 => AC P w0 f [.agg ⟨expl g9 0 n⟩] s5 (fun v10 s11 => pIndexAddr n (vget l3 1) (vget l3 2) (fun v12 => pVal true n v10 (pStore v12 (spread n v10) s11
      (fun s13 => pBin P T .add (vget l3 2) (.int .i64 1) (fun v14 => K4 .normal [vget l3 0, vget l3 1, v14] s13)))))))) (K4 (.exit 0) [vget l3 0, vget l3 1, vget l3 2] s5)))) [a0, v1, .int .i64 0] s2
    (fun x15 l16 s17 => match x15 with | .normal => R (vget l16 1) s17 | .ret => False | .exit i18 => (match Nat.beq i18 0 with | true => R (vget l16 1) s17 | false => False))))

theorem toS_gen {T ety n bytes f : Nat} {z : List Value} (hz : z.length = n) {Rel : (Addr → Option Value) → List Value → α → Prop} {O : Vw → List Nat → List Value → α → Prop} (ok : OOk w0 n Rel O) (hmono : ∀ rd rd' es x, Le rd rd' → Rel rd es x → Rel rd' es x) {v : Value} {xs : List α}
    (hf : ∀ x, x ∈ xs → ∀ (s : Vw) (es : List Value) (R' : Value → Vw → Prop), Keeps σ s → Rel (Av.get w0 s) es x → (∀ es' F s', Keeps s s' → O s' F es' x → (∀ b, b ∈ F → s b = none) → R' (.agg ⟨es'⟩) s') → AC P w0 f [.agg ⟨es⟩] s R')
    (h : RSl n Rel (Av.get w0 σ) v xs) (hb : bytes * xs.length ≤ 140737488355328) {R : Value → Vw → Prop} (hR : ∀ v' F σ', Keeps σ σ' → OSl w0 n O σ' F v' xs → (∀ b, b ∈ F → σ b = none) → R v' σ') : VtoS P w0 T ety n bytes f z v σ R := by
  unfold VtoS
  have hl := h.le
  rw [h.len]
  refine pMake_s hb hl fun b e h1 h2 => ?_
  refine loop_rule (m := xs.length) (fun m l s => ∃ (j : Nat) (css : List (List Value)) (Fs : List (List Nat)), m + j = xs.length ∧ css.length = j ∧ Fs.length = j ∧ Keeps σ s ∧ s b = some ⟨e, css.flatten ++ (List.replicate m z).flatten, xs.length * n, (0, 0)⟩ ∧
    (∀ c, c ∈ css → c.length = n) ∧ (b :: Fs.flatten).Nodup ∧ (∀ i, i ∈ Fs.flatten → σ i = none ∧ s i ≠ none) ∧ (∀ (i : Nat) (c : List Value) (x : α) (f : List Nat), css[i]? = some c → xs[i]? = some x → Fs[i]? = some f → O s f c x) ∧ l = [v, .slice (some ⟨b, 0, none⟩) xs.length xs.length, .int .i64 (j : Nat)]) ?_
    ⟨0, [], [], by omega, rfl, rfl, Keeps.put h2, by simp [put_at], by simp, by simp, by simp, by simp, rfl⟩
  rintro m l s L ⟨j, css, Fs, hm, hc, hFs, hk, hrow, hcn, hnd, hdom, hO, rfl⟩ hL
  simp only [vget, List.getD_cons_zero, List.getD_cons_succ]
  rw [h.len, pBin_lt, pIf_d]
  refine ⟨fun hj => ?_, fun hj => ?_⟩
  · have hj' : j < xs.length := by omega
    have hx := List.getElem?_eq_getElem hj'
    refine RSl.at (h.mono hk.le fun es x => hmono _ _ _ _ hk.le) hx fun g hg => ?_
    refine hf _ (List.getElem_mem hj') s _ _ hk hg fun es' F s' hk' hO' hFn => ?_
    obtain ⟨m', rfl⟩ : ∃ m', m = m' + 1 := ⟨m - 1, by omega⟩
    have hlen := ok.len _ _ _ _ hO'
    have hsp : spread n (.agg ⟨es'⟩) = es' := by subst hlen; exact spread_agg es'
    have hrow' := hk' _ _ hrow
    have eV : ∀ A : Prop, pVal true n (.agg ⟨es'⟩) A = A := fun A => propext (pValN hlen (ok.one _ _ _ _ hO'))
    simp only [eV, hsp]
    refine own_store (r := ⟨e, css.flatten ++ (List.replicate (m' + 1) z).flatten, xs.length * n, (0, 0)⟩) (A := css.flatten) (old := z) (new := es') (C := (List.replicate m' z).flatten) hrow' (by simp [List.replicate_succ]) (by rw [flat_len css hcn, hc]) (by omega) hlen hj' ?_
    rw [pBin_add (by omega)]
    have hbF : b ∉ F := fun hbF => by rw [hFn b hbF] at hrow; cases hrow
    have hbFs : b ∉ Fs.flatten := (List.nodup_cons.1 hnd).1
    have hdisj : ∀ i, i ∈ Fs.flatten → i ∉ F := fun i hi hiF => (hdom i hi).2 (hFn i hiF)
    have hput : ∀ i, i ≠ b → (s'.put b { (⟨e, css.flatten ++ (List.replicate (m' + 1) z).flatten, xs.length * n, (0, 0)⟩ : Row) with cells := css.flatten ++ (es' ++ (List.replicate m' z).flatten) }) i = s' i := fun i hi => by simp [Vw.put, hi]
    refine hL _ _ m' rfl ⟨j + 1, css ++ [es'], Fs ++ [F], by omega, by simp [hc], by simp [hFs], (hk.trans hk').fill h2, ?_, ?_, ?_, ?_, ?_, rfl⟩
    · rw [put_at]; simp
    · intro c hc'
      rcases List.mem_append.1 hc' with h' | h'
      · exact hcn c h'
      · rw [List.mem_singleton.1 h']; exact hlen
    · have hFnd := ok.nodup _ _ _ _ hO'
      rw [List.flatten_append]
      simp only [List.flatten_cons, List.flatten_nil, List.append_nil]
      rw [List.nodup_cons]
      refine ⟨fun hm' => ?_, List.nodup_append.2 ⟨(List.nodup_cons.1 hnd).2, hFnd, fun a ha b' hb' e' => hdisj a ha (e' ▸ hb')⟩⟩
      rcases List.mem_append.1 hm' with h' | h'
      · exact hbFs h'
      · exact hbF h'
    · intro i hi
      rw [List.flatten_append] at hi
      simp only [List.flatten_cons, List.flatten_nil, List.append_nil] at hi
      rcases List.mem_append.1 hi with h' | h'
      · have hib : i ≠ b := fun e' => hbFs (e' ▸ h')
        refine ⟨(hdom i h').1, ?_⟩
        rw [hput i hib]
        cases hs : s i with
        | none => exact absurd hs (hdom i h').2
        | some r => rw [hk' i r hs]; simp
      · have hib : i ≠ b := fun e' => hbF (e' ▸ h')
        refine ⟨?_, by rw [hput i hib]; exact (ok.dom _ _ _ _ hO' i h').2⟩
        cases hs : σ i with
        | none => rfl
        | some r => have := hk i r hs; rw [hFn i h'] at this; cases this
    · intro i c x f' e1 e2 e3
      by_cases hi : i < j
      · rw [List.getElem?_append_left (by omega)] at e1 e3
        refine ok.frame _ _ _ _ _ (hO i c x f' e1 e2 e3) fun k hk2 => ?_
        have hkF : k ∈ Fs.flatten := List.mem_flatten.2 ⟨f', List.mem_of_getElem? e3, hk2⟩
        rw [hput k fun e' => hbFs (e' ▸ hkF)]
        cases hs : s k with
        | none => exact absurd hs (hdom k hkF).2
        | some r => exact hk' k r hs
      · have hij : i = j := by
          have := (List.getElem?_eq_some_iff.1 e1).1
          simp [hc] at this
          omega
        subst hij
        rw [List.getElem?_append_right (by omega)] at e1 e3
        simp [hc] at e1
        simp [hFs] at e3
        subst e1 e3
        rw [hx] at e2
        cases e2
        exact ok.frame _ _ _ _ _ hO' fun k hk2 => hput k fun e' => hbF (e' ▸ hk2)
  · have hj' : j = xs.length := by omega
    subst hj'
    have hm0 : m = 0 := by omega
    subst hm0
    refine hR _ (b :: Fs.flatten) s hk ⟨hl, hnd, .inr ⟨b, 0, xs.length, _, [], [], css, Fs, rfl, ⟨Nat.le_refl _, hl⟩, h1, hrow, by simp, rfl, hc, hFs, rfl, hO⟩⟩ fun i hi => ?_
    rcases List.mem_cons.1 hi with e' | e'
    · rw [e']; exact h2
    · exact (hdom i e').1
end
end Go.Av

/- What each function owes, reckoned out. MADE BY PROGRAM (emit.py). -/
set_option linter.unusedVariables false
namespace Go.Proofs.YtkbhjejalkbogaaDoor
open Go Go.Av

abbrev t_int : Nat := 3
abbrev t_bool : Nat := 4
abbrev t_string : Nat := 9
abbrev t_s_laws_Page : Nat := 22
abbrev t_s_laws_PageName : Nat := 23
abbrev t_laws_Pages : Nat := 25
abbrev t_impl_PageName : Nat := 40
abbrev t_laws_Page : Nat := 59
abbrev t_laws_PageName : Nat := 61
abbrev t_impl_Page : Nat := 68
abbrev t_a96_bool : Nat := 71
abbrev n_laws_FnExactPagesWrite : Nat := 3
abbrev n_laws_szPages : Nat := 4
abbrev n_spec_PagesWrite : Nat := 5
abbrev n_laws_toPages : Nat := 6
abbrev n_impl_PagesWrite : Nat := 7
abbrev n_laws_eqPages : Nat := 8
abbrev n_laws_szPageS : Nat := 9
abbrev n_laws_szPageNameS : Nat := 10
abbrev n_spec_PagesOk : Nat := 11
abbrev n_spec_l32Text : Nat := 12
abbrev n_spec_l1Dec : Nat := 13
abbrev n_laws_toPageS : Nat := 14
abbrev n_laws_toPageNameS : Nat := 15
abbrev n_impl_PagesOk : Nat := 16
abbrev n_impl_Pages_get : Nat := 17
abbrev n_p_strings_Builder_WriteString : Nat := 18
abbrev n_strconv_Itoa : Nat := 19
abbrev n_p_strings_Builder_String : Nat := 20
abbrev n_laws_eqPageS : Nat := 21
abbrev n_laws_eqPageNameS : Nat := 22
abbrev n_laws_szPage : Nat := 23
abbrev n_laws_szPageName : Nat := 24
abbrev n_spec_l1NameOk : Nat := 25
abbrev n_spec_l1In : Nat := 26
abbrev n_spec_l32Chain : Nat := 27
abbrev n_laws_toPage : Nat := 28
abbrev n_laws_toPageName : Nat := 29
abbrev n_impl_nameOk : Nat := 30
abbrev n_impl_within : Nat := 31
abbrev n_impl_Pages_chain : Nat := 32
abbrev n_impl_Pages_find : Nat := 33
abbrev n_laws_eqPage : Nat := 36
abbrev n_laws_eqPageName : Nat := 37
abbrev n_impl_pieces : Nat := 38
abbrev n_slices_Contains_int_int : Nat := 39
abbrev n_slices_IndexFunc_impl_PageName_impl_PageName : Nat := 40
abbrev n_impl_Pages_find_c1 : Nat := 41
abbrev n_slices_Index_int_int : Nat := 44
theorem is_p_strings_Builder_WriteString : ∃ fn, Tryd.prog.funcs[n_p_strings_Builder_WriteString]? = some fn ∧ (fn.name == "runtime.NumGoroutine") = false ∧ fn.body.isNone = false := ⟨Tryd.f18, Tryd.func18, by kernel_rfl, by kernel_rfl⟩
theorem is_strconv_Itoa : ∃ fn, Tryd.prog.funcs[n_strconv_Itoa]? = some fn ∧ (fn.name == "runtime.NumGoroutine") = false ∧ fn.body.isNone = false := ⟨Tryd.f19, Tryd.func19, by kernel_rfl, by kernel_rfl⟩
theorem is_p_strings_Builder_String : ∃ fn, Tryd.prog.funcs[n_p_strings_Builder_String]? = some fn ∧ (fn.name == "runtime.NumGoroutine") = false ∧ fn.body.isNone = false := ⟨Tryd.f20, Tryd.func20, by kernel_rfl, by kernel_rfl⟩
end Go.Proofs.YtkbhjejalkbogaaDoor

/- What each function owes, reckoned out, part 1. MADE BY PROGRAM (emit.py). -/
set_option linter.unusedVariables false
namespace Go.Proofs.YtkbhjejalkbogaaDoor
open Go.Av renaming vget → G, cellOf → C, pVal → V, pBin → B, pIndexAddr → X, pLoad → L, pField → F, pIf → Q, pExtract → E, pAppend → A, pLen → N, pNew → W
open Go.Proofs.Tryd renaming prog → P
open Go Go.Av

/-- laws.FnExactPagesWrite -/
def kp_laws_FnExactPagesWrite : Nat → Keep
  | 10 => ⟨[], [], [], .step 0 (.step 1 (.step 2 (.step 3 (.step 4 (.done))))), [(2, [1]), (3, [0, 1, 2]), (4, [0, 1, 2, 3])]⟩
  | _ => ⟨[], [], [], .done, []⟩
def esc_laws_FnExactPagesWrite : Nat → Bool
  | _ => false
def vc_laws_FnExactPagesWrite (w0 : World) (a0 : Value) (σ : Vw) (R : Value → Vw → Prop) : Prop :=
  V true 2 a0 (AC P w0 n_laws_szPages ([.agg (⟨[C a0 0, C a0 1]⟩), .int .i64 1048576]) σ fun v0 s1 => B P 3 .lss v0 (.int .i64 0) fun v2 => Q v2 (R (.bool true) s1) (AC P w0 n_laws_toPages ([.agg (⟨[C a0 0, C a0 1]⟩)]) s1 fun v3 s4 => AC P w0 n_spec_PagesWrite [v3] s4 fun v5 s6 => AC P w0 n_laws_toPages ([.agg (⟨[C a0 0, C a0 1]⟩)]) s6 fun v7 s8 => V true 2 v7 (AC P w0 n_impl_PagesWrite ([.agg (⟨[C v7 0, C v7 1]⟩)]) s8 fun v9 s10 => B P 9 .neq v9 v5 fun v11 => Q v11 (R (.bool false) s10) (AC P w0 n_laws_toPages ([.agg (⟨[C a0 0, C a0 1]⟩)]) s10 fun v12 s13 => AC P w0 n_laws_eqPages ([.agg (⟨[C v7 0, C v7 1]⟩), v12]) s13 fun v14 s15 => pUn .not v14 fun v16 => Q v16 (R (.bool false) s15) (R (.bool true) s15)))))
theorem vc_laws_FnExactPagesWrite_eq (w0 : World) (a0 : Value) (σ : Vw) (R : Value → Vw → Prop) : vc_laws_FnExactPagesWrite w0 a0 σ R = den Tryd.prog w0 kp_laws_FnExactPagesWrite esc_laws_FnExactPagesWrite (Tryd.f3.body.getD .skip) (entry Tryd.f3.ntmps [a0]) σ (retK Tryd.prog Tryd.f3.results.toList R) := by kernel_rfl
theorem ac_laws_FnExactPagesWrite {w0 : World} {a0 : Value} {σ : Vw} {R : Value → Vw → Prop} (h : vc_laws_FnExactPagesWrite w0 a0 σ R) : AC Tryd.prog w0 n_laws_FnExactPagesWrite [a0] σ R := by
  refine ac_rule (fn := Tryd.f3) (c := Tryd.f3.body.getD .skip) kp_laws_FnExactPagesWrite esc_laws_FnExactPagesWrite Tryd.func3 (by kernel_rfl) (by kernel_rfl) ?_
  rw [← vc_laws_FnExactPagesWrite_eq]
  exact h

/-- laws.szPages -/
def kp_laws_szPages : Nat → Keep
  | _ => ⟨[], [], [], .done, []⟩
def esc_laws_szPages : Nat → Bool
  | _ => false
def vc_laws_szPages (w0 : World) (a0 a1 : Value) (σ : Vw) (R : Value → Vw → Prop) : Prop :=
  V true 2 a0 (AC P w0 n_laws_szPageS [C a0 0, a1] σ fun v0 s1 => B P 3 .lss v0 (.int .i64 0) fun v2 => Q v2 (R (.int .i64 (-1)) s1) (AC P w0 n_laws_szPageNameS [C a0 1, v0] s1 fun v3 s4 => B P 3 .lss v3 (.int .i64 0) fun v5 => Q v5 (R (.int .i64 (-1)) s4) (R v3 s4)))
theorem vc_laws_szPages_eq (w0 : World) (a0 a1 : Value) (σ : Vw) (R : Value → Vw → Prop) : vc_laws_szPages w0 a0 a1 σ R = den Tryd.prog w0 kp_laws_szPages esc_laws_szPages (Tryd.f4.body.getD .skip) (entry Tryd.f4.ntmps [a0, a1]) σ (retK Tryd.prog Tryd.f4.results.toList R) := by kernel_rfl
theorem ac_laws_szPages {w0 : World} {a0 a1 : Value} {σ : Vw} {R : Value → Vw → Prop} (h : vc_laws_szPages w0 a0 a1 σ R) : AC Tryd.prog w0 n_laws_szPages [a0, a1] σ R := by
  refine ac_rule (fn := Tryd.f4) (c := Tryd.f4.body.getD .skip) kp_laws_szPages esc_laws_szPages Tryd.func4 (by kernel_rfl) (by kernel_rfl) ?_
  rw [← vc_laws_szPages_eq]
  exact h

/-- spec.PagesWrite -/
def kp_spec_PagesWrite : Nat → Keep
  | 5 => ⟨[3, 4], [(1, 2)], [1], .done, []⟩
  | 8 => ⟨[], [], [], .step 0 (.step 1 (.step 2 (.step 3 (.step 4 (.step 5 (.step 6 (.step 7 (.step 8 (.step 9 (.step 10 (.step 14 (.step 11 (.step 12 (.step 13 (.step 15 (.step 16 (.step 17 (.done)))))))))))))))))), [(2, [1]), (4, [1, 2, 3]), (5, [1, 2, 3, 4]), (6, [1, 2, 3, 4, 5]), (7, [0, 1, 2, 3, 4, 5, 6]), (8, [0, 1, 2, 3, 4, 5, 6, 7]), (10, [9]), (11, [9, 10]), (12, [0, 1, 2, 3, 4, 5, 6, 7, 8, 9, 10, 11]), (13, [0, 1, 2, 3, 4, 5, 6, 7, 8, 9, 10, 11, 12]), (15, [0, 1, 2, 3, 4, 5, 6, 7, 8, 9, 10, 11, 12, 13, 14]), (16, [0, 1, 2, 3, 4, 5, 6, 7, 8, 9, 10, 11, 12, 13, 14, 15]), (17, [0, 1, 2, 3, 4, 5, 6, 7, 8, 9, 10, 11, 12, 13, 14, 15, 16])]⟩
  | _ => ⟨[], [], [], .done, []⟩
def esc_spec_PagesWrite : Nat → Bool
  | _ => false
def vc_spec_PagesWrite (w0 : World) (a0 : Value) (σ : Vw) (R : Value → Vw → Prop) : Prop :=
  V true 2 a0 (AC P w0 n_spec_PagesOk ([.agg (⟨[C a0 0, C a0 1]⟩)]) σ fun v0 s1 => pUn .not v0 fun v2 => Q v2 (R (.string ({ data := #[] })) s1) (pLoop (fun l3 K4 s5 => N (G l3 3) fun v6 => B P 3 .lss (G l3 1) v6 fun v7 => Q v7 (AC P w0 n_spec_l32Text ([.agg (⟨[G l3 2, G l3 3]⟩), G l3 1]) s5 fun v8 s9 => X 3 (G l3 3) (G l3 1) fun v10 => F 0 v10 fun v11 => L w0 1 v11 s9 fun g12 => B P 9 .add (G l3 0) (g12 0) fun v13 => B P 9 .add v13 (.string ({ data := #[32] })) fun v14 => pLenS v8 fun v15 => AC P w0 n_spec_l1Dec [v15] s9 fun v16 s17 => (Stay w0 s9 s17 v11 1) ∧ (B P 9 .add v14 v16 fun v18 => B P 9 .add v18 (.string ({ data := #[10] })) fun v19 => B P 9 .add v19 v8 fun v20 => B P 9 .add v20 (.string ({ data := #[10] })) fun v21 => B P 3 .add (G l3 1) (.int .i64 1) fun v22 => K4 .normal [v21, v22, G l3 2, G l3 3] s17)) (K4 (.exit 0) [G l3 0, G l3 1, G l3 2, G l3 3] s5)) ([.string ({ data := #[] }), .int .i64 0, C a0 0, C a0 1]) s1 fun x23 l24 s25 => match x23 with | .normal => B P 9 .add (G l24 0) (.string ({ data := #[101, 110, 100, 10] })) (fun v26 => R v26 s25) | .ret => False | .exit i27 => (match Nat.beq i27 0 with | true => B P 9 .add (G l24 0) (.string ({ data := #[101, 110, 100, 10] })) (fun v28 => R v28 s25) | false => False)))
theorem vc_spec_PagesWrite_eq (w0 : World) (a0 : Value) (σ : Vw) (R : Value → Vw → Prop) : vc_spec_PagesWrite w0 a0 σ R = den Tryd.prog w0 kp_spec_PagesWrite esc_spec_PagesWrite (Tryd.f5.body.getD .skip) (entry Tryd.f5.ntmps [a0]) σ (retK Tryd.prog Tryd.f5.results.toList R) := by kernel_rfl
theorem ac_spec_PagesWrite {w0 : World} {a0 : Value} {σ : Vw} {R : Value → Vw → Prop} (h : vc_spec_PagesWrite w0 a0 σ R) : AC Tryd.prog w0 n_spec_PagesWrite [a0] σ R := by
  refine ac_rule (fn := Tryd.f5) (c := Tryd.f5.body.getD .skip) kp_spec_PagesWrite esc_spec_PagesWrite Tryd.func5 (by kernel_rfl) (by kernel_rfl) ?_
  rw [← vc_spec_PagesWrite_eq]
  exact h

/-- laws.toPages -/
def kp_laws_toPages : Nat → Keep
  | _ => ⟨[], [], [], .done, []⟩
def esc_laws_toPages : Nat → Bool
  | _ => false
def vc_laws_toPages (w0 : World) (a0 : Value) (σ : Vw) (R : Value → Vw → Prop) : Prop :=
  V true 2 a0 (AC P w0 n_laws_toPageS [C a0 0] σ fun v0 s1 => V false 1 v0 (AC P w0 n_laws_toPageNameS [C a0 1] s1 fun v2 s3 => V false 1 v2 (V true 2 (.agg (⟨[v0, v2]⟩)) (R (.agg (⟨[v0, v2]⟩)) s3))))
theorem vc_laws_toPages_eq (w0 : World) (a0 : Value) (σ : Vw) (R : Value → Vw → Prop) : vc_laws_toPages w0 a0 σ R = den Tryd.prog w0 kp_laws_toPages esc_laws_toPages (Tryd.f6.body.getD .skip) (entry Tryd.f6.ntmps [a0]) σ (retK Tryd.prog Tryd.f6.results.toList R) := by kernel_rfl
theorem ac_laws_toPages {w0 : World} {a0 : Value} {σ : Vw} {R : Value → Vw → Prop} (h : vc_laws_toPages w0 a0 σ R) : AC Tryd.prog w0 n_laws_toPages [a0] σ R := by
  refine ac_rule (fn := Tryd.f6) (c := Tryd.f6.body.getD .skip) kp_laws_toPages esc_laws_toPages Tryd.func6 (by kernel_rfl) (by kernel_rfl) ?_
  rw [← vc_laws_toPages_eq]
  exact h

/-- impl.PagesWrite -/
def kp_impl_PagesWrite : Nat → Keep
  | 5 => ⟨[3, 14, 15, 16], [(1, 2)], [1], .done, []⟩
  | 8 => ⟨[], [], [], .step 0 (.step 1 (.step 2 (.step 3 (.step 4 (.step 5 (.step 9 (.step 6 (.step 7 (.step 8 (.step 10 (.step 11 (.step 12 (.done))))))))))))), [(2, [1]), (3, [1, 2]), (5, [4]), (6, [4, 5]), (7, [1, 2, 3, 4, 5, 6]), (8, [1, 2, 3, 4, 5, 6, 7]), (10, [1, 2, 3, 4, 5, 6, 7, 8, 9]), (11, [1, 2, 3, 4, 5, 6, 7, 8, 9, 10]), (12, [0, 1, 2, 3, 4, 5, 6, 7, 8, 9, 10, 11])]⟩
  | _ => ⟨[], [], [], .done, []⟩
def esc_impl_PagesWrite : Nat → Bool
  | 12 => true
  | _ => false
def vc_impl_PagesWrite (w0 : World) (a0 : Value) (σ : Vw) (R : Value → Vw → Prop) : Prop :=
  V true 2 a0 (AC P w0 n_impl_PagesOk ([.agg (⟨[C a0 0, C a0 1]⟩)]) σ fun v0 s1 => pUn .not v0 fun v2 => Q v2 (R (.string ({ data := #[] })) s1) (V true 2 (.agg (⟨[.pointer none, .slice none 0 0]⟩)) (W w0 47 [.pointer none, .slice none 0 0] s1 fun n3 s4 => N (C a0 1) fun v5 => pLoop (fun l6 K7 s8 => B P 3 .lss (G l6 3) (G l6 2) fun v9 => Q v9 (X 3 (G l6 1) (G l6 3) fun v10 => L w0 3 v10 s8 fun g11 => V true 3 (.agg (⟨[g11 0, g11 1, g11 2]⟩)) (AC P w0 n_impl_Pages_get ([.agg (⟨[G l6 4, G l6 5]⟩), g11 0]) s8 fun v12 s13 => E v12 0 fun v14 => E v12 1 fun v15 => B P 9 .add (g11 0) (.string ({ data := #[32] })) fun v16 => AC P w0 n_strconv_Itoa [g11 2] s13 fun v17 s18 => B P 9 .add v16 v17 fun v19 => B P 9 .add v19 (.string ({ data := #[10] })) fun v20 => B P 9 .add v20 v14 fun v21 => B P 9 .add v21 (.string ({ data := #[10] })) fun v22 => AC P w0 n_p_strings_Builder_WriteString [G l6 0, v22] s18 fun v23 s24 => B P 3 .add (G l6 3) (.int .i64 1) fun v25 => K7 .normal [G l6 0, G l6 1, G l6 2, v25, G l6 4, G l6 5] s24)) (K7 (.exit 0) [G l6 0, G l6 1, G l6 2, G l6 3, G l6 4, G l6 5] s8)) [.pointer (some (Addr.mk n3 0 none)), C a0 1, v5, .int .i64 0, C a0 0, C a0 1] s4 fun x26 l27 s28 => match x26 with | .normal => AC P w0 n_p_strings_Builder_String [G l27 0] s28 (fun v29 s30 => B P 9 .add v29 (.string ({ data := #[101, 110, 100, 10] })) fun v31 => R v31 s30) | .ret => False | .exit i32 => (match Nat.beq i32 0 with | true => AC P w0 n_p_strings_Builder_String [G l27 0] s28 (fun v33 s34 => B P 9 .add v33 (.string ({ data := #[101, 110, 100, 10] })) fun v35 => R v35 s34) | false => False))))
theorem vc_impl_PagesWrite_eq (w0 : World) (a0 : Value) (σ : Vw) (R : Value → Vw → Prop) : vc_impl_PagesWrite w0 a0 σ R = den Tryd.prog w0 kp_impl_PagesWrite esc_impl_PagesWrite (Tryd.f7.body.getD .skip) (entry Tryd.f7.ntmps [a0]) σ (retK Tryd.prog Tryd.f7.results.toList R) := by kernel_rfl
theorem ac_impl_PagesWrite {w0 : World} {a0 : Value} {σ : Vw} {R : Value → Vw → Prop} (h : vc_impl_PagesWrite w0 a0 σ R) : AC Tryd.prog w0 n_impl_PagesWrite [a0] σ R := by
  refine ac_rule (fn := Tryd.f7) (c := Tryd.f7.body.getD .skip) kp_impl_PagesWrite esc_impl_PagesWrite Tryd.func7 (by kernel_rfl) (by kernel_rfl) ?_
  rw [← vc_impl_PagesWrite_eq]
  exact h

/-- laws.eqPages -/
def kp_laws_eqPages : Nat → Keep
  | _ => ⟨[], [], [], .done, []⟩
def esc_laws_eqPages : Nat → Bool
  | _ => false
def vc_laws_eqPages (w0 : World) (a0 a1 : Value) (σ : Vw) (R : Value → Vw → Prop) : Prop :=
  V true 2 a0 (V true 2 a1 (AC P w0 n_laws_eqPageS [C a0 0, C a1 0] σ fun v0 s1 => pUn .not v0 fun v2 => Q v2 (R (.bool false) s1) (AC P w0 n_laws_eqPageNameS [C a0 1, C a1 1] s1 fun v3 s4 => pUn .not v3 fun v5 => Q v5 (R (.bool false) s4) (R (.bool true) s4))))
theorem vc_laws_eqPages_eq (w0 : World) (a0 a1 : Value) (σ : Vw) (R : Value → Vw → Prop) : vc_laws_eqPages w0 a0 a1 σ R = den Tryd.prog w0 kp_laws_eqPages esc_laws_eqPages (Tryd.f8.body.getD .skip) (entry Tryd.f8.ntmps [a0, a1]) σ (retK Tryd.prog Tryd.f8.results.toList R) := by kernel_rfl
theorem ac_laws_eqPages {w0 : World} {a0 a1 : Value} {σ : Vw} {R : Value → Vw → Prop} (h : vc_laws_eqPages w0 a0 a1 σ R) : AC Tryd.prog w0 n_laws_eqPages [a0, a1] σ R := by
  refine ac_rule (fn := Tryd.f8) (c := Tryd.f8.body.getD .skip) kp_laws_eqPages esc_laws_eqPages Tryd.func8 (by kernel_rfl) (by kernel_rfl) ?_
  rw [← vc_laws_eqPages_eq]
  exact h

/-- laws.szPageS -/
def kp_laws_szPageS : Nat → Keep
  | 5 => ⟨[0, 1, 4, 5], [], [], .done, []⟩
  | _ => ⟨[], [], [], .done, []⟩
def esc_laws_szPageS : Nat → Bool
  | _ => false
def vc_laws_szPageS (w0 : World) (a0 a1 : Value) (σ : Vw) (R : Value → Vw → Prop) : Prop :=
  N a0 fun v0 => B P 3 .sub a1 v0 fun v1 => B P 3 .lss v1 (.int .i64 0) fun v2 => Q v2 (R (.int .i64 (-1)) σ) (pLoop (fun l3 K4 s5 => N (G l3 0) fun v6 => B P 3 .lss (G l3 3) v6 fun v7 => Q v7 (X 3 (G l3 0) (G l3 3) fun v8 => L w0 3 v8 s5 fun g9 => AC P w0 n_laws_szPage ([.agg (⟨[g9 0, g9 1, g9 2]⟩), G l3 1]) s5 fun v10 s11 => B P 3 .lss v10 (.int .i64 0) fun v12 => Q v12 (K4 .ret [G l3 0, v10, .int .i64 (-1), G l3 3] s11) (B P 3 .add (G l3 3) (.int .i64 1) fun v13 => K4 .normal [G l3 0, v10, G l3 2, v13] s11)) (K4 (.exit 0) [G l3 0, G l3 1, G l3 2, G l3 3] s5)) [a0, v1, .int .i64 0, .int .i64 0] σ fun x14 l15 s16 => match x14 with | .normal => R (G l15 1) s16 | .ret => R (G l15 2) s16 | .exit i17 => (match Nat.beq i17 0 with | true => R (G l15 1) s16 | false => False))
theorem vc_laws_szPageS_eq (w0 : World) (a0 a1 : Value) (σ : Vw) (R : Value → Vw → Prop) : vc_laws_szPageS w0 a0 a1 σ R = den Tryd.prog w0 kp_laws_szPageS esc_laws_szPageS (Tryd.f9.body.getD .skip) (entry Tryd.f9.ntmps [a0, a1]) σ (retK Tryd.prog Tryd.f9.results.toList R) := by kernel_rfl
theorem ac_laws_szPageS {w0 : World} {a0 a1 : Value} {σ : Vw} {R : Value → Vw → Prop} (h : vc_laws_szPageS w0 a0 a1 σ R) : AC Tryd.prog w0 n_laws_szPageS [a0, a1] σ R := by
  refine ac_rule (fn := Tryd.f9) (c := Tryd.f9.body.getD .skip) kp_laws_szPageS esc_laws_szPageS Tryd.func9 (by kernel_rfl) (by kernel_rfl) ?_
  rw [← vc_laws_szPageS_eq]
  exact h

/-- laws.szPageNameS -/
def kp_laws_szPageNameS : Nat → Keep
  | 5 => ⟨[0, 1, 4, 5], [], [], .done, []⟩
  | _ => ⟨[], [], [], .done, []⟩
def esc_laws_szPageNameS : Nat → Bool
  | _ => false
def vc_laws_szPageNameS (w0 : World) (a0 a1 : Value) (σ : Vw) (R : Value → Vw → Prop) : Prop :=
  N a0 fun v0 => B P 3 .sub a1 v0 fun v1 => B P 3 .lss v1 (.int .i64 0) fun v2 => Q v2 (R (.int .i64 (-1)) σ) (pLoop (fun l3 K4 s5 => N (G l3 0) fun v6 => B P 3 .lss (G l3 3) v6 fun v7 => Q v7 (X 3 (G l3 0) (G l3 3) fun v8 => L w0 3 v8 s5 fun g9 => AC P w0 n_laws_szPageName ([.agg (⟨[g9 0, g9 1, g9 2]⟩), G l3 1]) s5 fun v10 s11 => B P 3 .lss v10 (.int .i64 0) fun v12 => Q v12 (K4 .ret [G l3 0, v10, .int .i64 (-1), G l3 3] s11) (B P 3 .add (G l3 3) (.int .i64 1) fun v13 => K4 .normal [G l3 0, v10, G l3 2, v13] s11)) (K4 (.exit 0) [G l3 0, G l3 1, G l3 2, G l3 3] s5)) [a0, v1, .int .i64 0, .int .i64 0] σ fun x14 l15 s16 => match x14 with | .normal => R (G l15 1) s16 | .ret => R (G l15 2) s16 | .exit i17 => (match Nat.beq i17 0 with | true => R (G l15 1) s16 | false => False))
theorem vc_laws_szPageNameS_eq (w0 : World) (a0 a1 : Value) (σ : Vw) (R : Value → Vw → Prop) : vc_laws_szPageNameS w0 a0 a1 σ R = den Tryd.prog w0 kp_laws_szPageNameS esc_laws_szPageNameS (Tryd.f10.body.getD .skip) (entry Tryd.f10.ntmps [a0, a1]) σ (retK Tryd.prog Tryd.f10.results.toList R) := by kernel_rfl
theorem ac_laws_szPageNameS {w0 : World} {a0 a1 : Value} {σ : Vw} {R : Value → Vw → Prop} (h : vc_laws_szPageNameS w0 a0 a1 σ R) : AC Tryd.prog w0 n_laws_szPageNameS [a0, a1] σ R := by
  refine ac_rule (fn := Tryd.f10) (c := Tryd.f10.body.getD .skip) kp_laws_szPageNameS esc_laws_szPageNameS Tryd.func10 (by kernel_rfl) (by kernel_rfl) ?_
  rw [← vc_laws_szPageNameS_eq]
  exact h

/-- spec.PagesOk -/
def kp_spec_PagesOk : Nat → Keep
  | 5 => ⟨[2, 3, 4], [(1, 2)], [1], .done, []⟩
  | 8 => ⟨[], [], [], .step 0 (.step 1 (.step 2 (.step 3 (.step 4 (.step 5 (.step 6 (.step 7 (.step 8 (.step 9 (.step 10 (.step 11 (.step 12 (.step 13 (.step 14 (.step 15 (.step 16 (.step 17 (.step 18 (.step 19 (.step 20 (.step 21 (.step 22 (.step 23 (.step 24 (.step 25 (.step 26 (.step 27 (.step 28 (.step 29 (.step 30 (.done))))))))))))))))))))))))))))))), [(1, [0]), (2, [0, 1]), (3, [0, 1, 2]), (4, [0, 1, 2, 3]), (5, [0, 1, 2, 3, 4]), (6, [0, 1, 2, 3, 4, 5]), (7, [0, 1, 2, 3, 4, 5, 6]), (8, [0, 1, 2, 3, 4, 5, 6, 7]), (9, [0, 1, 2, 3, 4, 5, 6, 7, 8]), (10, [0, 1, 2, 3, 4, 5, 6, 7]), (11, [0, 1, 2, 3, 4, 5, 6, 7, 10]), (12, [0, 1, 2, 3, 4, 5, 6, 7, 8, 9, 10, 11]), (13, [0, 1, 2, 3, 4, 5, 6, 7, 8, 9, 10, 11, 12]), (14, [0, 1, 2, 3, 4, 5, 6, 7, 8, 9, 10, 11, 12, 13]), (15, [0, 1, 2, 3, 4, 5, 6, 7]), (16, [0, 1, 2, 3, 4, 5, 6, 7, 15]), (17, [0, 1, 2, 3, 4, 5, 6, 7, 8, 9, 10, 11, 12, 13, 14, 15, 16]), (18, [0, 1, 2, 3, 4, 5, 6, 7, 8, 9, 10, 11, 12, 13, 14, 15, 16, 17]), (19, [0, 1, 2, 3, 4, 5, 6, 7, 8, 9, 10, 11, 12, 13, 14, 15, 16, 17, 18]), (20, [0, 1, 2, 3, 4, 5, 6, 7, 8, 9, 10, 11, 12, 13, 14, 15, 16, 17, 18, 19]), (21, [0, 1, 2, 3, 4, 5, 6, 7, 8, 9, 10, 11, 12, 13, 14, 15, 16, 17, 18, 19, 20]), (22, [0, 1, 2, 3, 4, 5, 6, 7, 8, 9, 10, 11, 12, 13, 14, 15, 16, 17, 18, 19, 20, 21]), (23, [0, 1, 2, 3, 4, 5, 6, 7, 8, 9, 10, 11, 12, 13, 14, 15, 16, 17, 18, 19, 20, 21, 22]), (24, [0, 1, 2, 3, 4, 5, 6, 7, 8, 9, 10, 11, 12, 13, 14, 15, 16, 17, 18, 19, 20, 21, 22, 23]), (25, [0, 1, 2, 3, 4, 5, 6, 7, 8, 9, 10, 11, 12, 13, 14, 15, 16, 17, 18, 19, 20, 21, 22, 23, 24]), (26, [0, 1, 2, 3, 4, 5, 6, 7, 8, 9, 10, 11, 12, 13, 14, 15, 16, 17, 18, 19, 20, 21, 22, 23, 24, 25]), (27, [0, 1, 2, 3, 4, 5, 6, 7, 8, 9, 10, 11, 12, 13, 14, 15, 16, 17, 18, 19, 20, 21, 22, 23, 24, 25, 26]), (28, [0, 1, 2, 3, 4, 5, 6, 7, 8, 9, 10, 11, 12, 13, 14, 15, 16, 17, 18, 19, 20, 21, 22, 23, 24, 25, 26, 27]), (29, [0, 1, 2, 3, 4, 5, 6, 7, 8, 9, 10, 11, 12, 13, 14, 15, 16, 17, 18, 19, 20, 21, 22, 23, 24, 25, 26, 27, 28]), (30, [0, 1, 2, 3, 4, 5, 6, 7, 8, 9, 10, 11, 12, 13, 14, 15, 16, 17, 18, 19, 20, 21, 22, 23, 24, 25, 26, 27, 28, 29])]⟩
  | 14 => ⟨[2, 3, 4, 6, 8], [(1, 2)], [1], .done, []⟩
  | 20 => ⟨[2, 3, 9], [(1, 2)], [1], .done, []⟩
  | 23 => ⟨[], [], [], .step 0 (.step 1 (.step 2 (.step 3 (.step 4 (.step 5 (.step 6 (.step 7 (.step 8 (.step 9 (.step 10 (.step 11 (.step 12 (.step 13 (.step 14 (.step 15 (.step 16 (.step 17 (.step 18 (.step 19 (.step 20 (.step 21 (.step 22 (.step 23 (.step 24 (.step 25 (.step 26 (.done))))))))))))))))))))))))))), [(1, [0]), (4, [2, 3]), (5, [2, 3, 4]), (6, [0, 1, 2, 3, 4, 5]), (7, [0, 1, 2, 3, 4, 5, 6]), (8, [0, 1, 2, 3, 4, 5, 6, 7]), (9, [0, 1, 2, 3, 4, 5, 6, 7, 8]), (10, [0, 1, 2, 3, 4, 5, 6, 7, 8, 9]), (11, [0, 1, 2, 3, 4, 5, 6, 7, 8, 9, 10]), (12, [0, 1, 2, 3, 4, 5, 6, 7, 8, 9, 10, 11]), (13, [0, 1, 2, 3, 4, 5, 6, 7, 8, 9, 10, 11, 12]), (14, [0, 1, 2, 3, 4, 5, 6, 7, 8, 9, 10, 11, 12, 13]), (15, [0, 1, 2, 3, 4, 5, 6, 7, 8, 9, 10, 11, 12, 13, 14]), (16, [0, 1, 2, 3, 4, 5, 6, 7, 8, 9, 10, 11, 12, 13, 14, 15]), (17, [0, 1, 2, 3, 4, 5, 6, 7, 8, 9, 10, 11, 12, 13, 14, 15, 16]), (18, [0, 1, 2, 3, 4, 5, 6, 7, 8, 9, 10, 11, 12, 13, 14, 15, 16, 17]), (19, [0, 1, 2, 3, 4, 5, 6, 7, 8, 9, 10, 11, 12, 13, 14, 15, 16, 17, 18]), (20, [0, 1, 2, 3, 4, 5, 6, 7, 8, 9, 10, 11, 12, 13, 14, 15, 16, 17, 18, 19]), (21, [0, 1, 2, 3, 4, 5, 6, 7, 8, 9, 10, 11, 12, 13, 14, 15, 16, 17, 18, 19, 20]), (22, [0, 1, 2, 3, 4, 5, 6, 7, 8, 9, 10, 11, 12, 13, 14, 15, 16, 17, 18, 19, 20, 21]), (23, [0, 1, 2, 3, 4, 5, 6, 7, 8, 9, 10, 11, 12, 13, 14, 15, 16, 17, 18, 19, 20, 21, 22]), (24, [0, 1, 2, 3, 4, 5, 6, 7, 8, 9, 10, 11, 12, 13, 14, 15, 16, 17, 18, 19, 20, 21, 22, 23]), (25, [0, 1, 2, 3, 4, 5, 6, 7, 8, 9, 10, 11, 12, 13, 14, 15, 16, 17, 18, 19, 20, 21, 22, 23, 24]), (26, [0, 1, 2, 3, 4, 5, 6, 7, 8, 9, 10, 11, 12, 13, 14, 15, 16, 17, 18, 19, 20, 21, 22, 23, 24, 25])]⟩
  | _ => ⟨[], [], [], .done, []⟩
def esc_spec_PagesOk : Nat → Bool
  | _ => false
def cs_spec_PagesOk_1 (w0 : World) (g900 : Nat → Value) (s901 : Vw) (K902 : AX → List Value → Vw → Prop) (l903 : List Value) (R : Value → Vw → Prop) : Prop :=
  AC P w0 n_spec_l1In [g900 2, .int .i64 0, .int .i64 3000] s901 (fun v500 s501 => pUn .not v500 fun v502 => Q v502 (K902 .ret [.bool false, G l903 1, G l903 2, G l903 3, G l903 4] s501) (B P 3 .lss (g900 1) (.int .i64 (-1)) fun v503 => Q v503 (K902 .ret [.bool false, G l903 1, G l903 2, G l903 3, G l903 4] s501) (AC P w0 n_spec_l32Chain ([.agg (⟨[G l903 3, G l903 4]⟩), .agg (⟨[g900 0, g900 1, g900 2]⟩)]) s501 fun v504 s505 => E v504 0 fun v506 => E v504 1 fun v507 => pUn .not v507 fun v508 => Q v508 (K902 .ret [.bool false, G l903 1, G l903 2, G l903 3, G l903 4] s505) (pLoop (fun l509 K510 s511 => N (G l509 3) fun v512 => B P 3 .lss (G l509 4) v512 fun v513 => Q v513 (X 1 (G l509 3) (G l509 4) fun v514 => L w0 1 v514 s511 fun g515 => X 1 (G l509 1) (g515 0) fun v516 => L w0 1 v516 s511 fun g517 => Q (g517 0) (K510 .ret [.bool false, G l509 1, G l509 2, G l509 3, G l509 4, G l509 5, G l509 6] s511) (X 1 (G l509 3) (G l509 4) fun v518 => L w0 1 v518 s511 fun g519 => X 1 (G l509 1) (g519 0) fun v520 => V false 1 (.bool true) (pStore v520 [.bool true] s511 fun s521 => B P 3 .add (G l509 4) (.int .i64 1) fun v522 => K510 .normal [G l509 0, G l509 1, G l509 2, G l509 3, v522, G l509 5, G l509 6] s521))) (K510 (.exit 2) [G l509 0, G l509 1, G l509 2, G l509 3, G l509 4, G l509 5, G l509 6] s511)) [G l903 0, G l903 1, G l903 2, v506, .int .i64 0, G l903 3, G l903 4] s505 fun x523 l524 s525 => match x523 with | .normal => B P 3 .add (G l524 2) (.int .i64 1) (fun v526 => K902 .normal [G l524 0, G l524 1, v526, G l524 5, G l524 6] s525) | .ret => K902 .ret [G l524 0, G l524 1, G l524 2, G l524 5, G l524 6] s525 | .exit i527 => (match Nat.beq i527 2 with | true => B P 3 .add (G l524 2) (.int .i64 1) (fun v528 => K902 .normal [G l524 0, G l524 1, v528, G l524 5, G l524 6] s525) | false => (match Nat.beq i527 1 with | true => B P 3 .add (G l524 2) (.int .i64 1) (fun v529 => K902 .normal [G l524 0, G l524 1, v529, G l524 5, G l524 6] s525) | false => K902 (.exit i527) [G l524 0, G l524 1, G l524 2, G l524 5, G l524 6] s525))))))
def cs_spec_PagesOk_2 (w0 : World) (l900 : List Value) (s901 : Vw) (K902 : AX → List Value → Vw → Prop) (R : Value → Vw → Prop) : Prop :=
  N (G l900 3) (fun v500 => B P 3 .lss (G l900 2) v500 fun v501 => Q v501 (X 3 (G l900 3) (G l900 2) fun v502 => L w0 3 v502 s901 fun g503 => V true 3 (.agg (⟨[g503 0, g503 1, g503 2]⟩)) (X 1 (G l900 1) (G l900 2) fun v504 => L w0 1 v504 s901 fun g505 => B P 4 .neq (g503 0) (g505 0) fun v506 => Q v506 (K902 .ret [.bool false, G l900 1, G l900 2, G l900 3, G l900 4] s901) (pUn .not (g503 0) fun v507 => Q v507 (B P 9 .neq (g503 1) (.string ({ data := #[] })) fun v508 => Q v508 (K902 .ret [.bool false, G l900 1, G l900 2, G l900 3, G l900 4] s901) (B P 3 .neq (g503 2) (.int .i64 (-1)) fun v509 => Q v509 (K902 .ret [.bool false, G l900 1, G l900 2, G l900 3, G l900 4] s901) (B P 3 .lss (g503 2) (.int .i64 (-1)) fun v510 => Q v510 (K902 .ret [.bool false, G l900 1, G l900 2, G l900 3, G l900 4] s901) (B P 3 .add (G l900 2) (.int .i64 1) fun v511 => K902 .normal [G l900 0, G l900 1, v511, G l900 3, G l900 4] s901)))) (B P 3 .lss (g503 2) (.int .i64 (-1)) fun v512 => Q v512 (K902 .ret [.bool false, G l900 1, G l900 2, G l900 3, G l900 4] s901) (B P 3 .add (G l900 2) (.int .i64 1) fun v513 => K902 .normal [G l900 0, G l900 1, v513, G l900 3, G l900 4] s901))))) (K902 (.exit 4) [G l900 0, G l900 1, G l900 2, G l900 3, G l900 4] s901))
def vc_spec_PagesOk (w0 : World) (a0 : Value) (σ : Vw) (R : Value → Vw → Prop) : Prop :=
  V true 2 a0 (N (C a0 0) fun v0 => B P 3 .neq v0 (.int .i64 96) fun v1 => Q v1 (R (.bool false) σ) (N (C a0 1) fun v2 => B P 3 .gtr v2 (.int .i64 16) fun v3 => Q v3 (R (.bool false) σ) (pMake w0 4 1 1 [.bool false] (.int .i64 96) (.int .i64 96) σ fun v4 s5 => pLoop (fun l6 K7 s8 => N (G l6 4) fun v9 => B P 3 .lss (G l6 2) v9 fun v10 => Q v10 (X 3 (G l6 4) (G l6 2) fun v11 => L w0 3 v11 s8 fun g12 => V true 3 (.agg (⟨[g12 0, g12 1, g12 2]⟩)) (AC P w0 n_spec_l1NameOk [g12 0] s8 fun v13 s14 => pUn .not v13 fun v15 => Q v15 (K7 .ret [.bool false, G l6 1, G l6 2, G l6 3, G l6 4] s14) (B P 3 .gtr (G l6 2) (.int .i64 0) fun v16 => Q v16 (B P 3 .sub (G l6 2) (.int .i64 1) fun v17 => X 3 (G l6 4) v17 fun v18 => F 0 v18 fun v19 => L w0 1 v19 s14 fun g20 => B P 9 .geq (g20 0) (g12 0) fun v21 => Q v21 (K7 .ret [.bool false, G l6 1, G l6 2, G l6 3, G l6 4] s14) (cs_spec_PagesOk_1 w0 g12 s14 K7 l6 R)) (cs_spec_PagesOk_1 w0 g12 s14 K7 l6 R)))) (K7 (.exit 0) [G l6 0, G l6 1, G l6 2, G l6 3, G l6 4] s8)) [.bool false, v4, .int .i64 0, C a0 0, C a0 1] s5 fun x82 l83 s84 => match x82 with | .normal => pLoop (fun l85 K86 s87 => cs_spec_PagesOk_2 w0 l85 s87 K86 R) [G l83 0, G l83 1, .int .i64 0, G l83 3, G l83 4] s84 (fun x102 l103 s104 => match x102 with | .normal => R (.bool true) s104 | .ret => R (G l103 0) s104 | .exit i105 => (match Nat.beq i105 4 with | true => R (.bool true) s104 | false => False)) | .ret => R (G l83 0) s84 | .exit i106 => (match Nat.beq i106 0 with | true => pLoop (fun l107 K108 s109 => cs_spec_PagesOk_2 w0 l107 s109 K108 R) [G l83 0, G l83 1, .int .i64 0, G l83 3, G l83 4] s84 (fun x124 l125 s126 => match x124 with | .normal => R (.bool true) s126 | .ret => R (G l125 0) s126 | .exit i127 => (match Nat.beq i127 4 with | true => R (.bool true) s126 | false => False)) | false => False))))

theorem vc_spec_PagesOk_eq (w0 : World) (a0 : Value) (σ : Vw) (R : Value → Vw → Prop) : vc_spec_PagesOk w0 a0 σ R = den Tryd.prog w0 kp_spec_PagesOk esc_spec_PagesOk (Tryd.f11.body.getD .skip) (entry Tryd.f11.ntmps [a0]) σ (retK Tryd.prog Tryd.f11.results.toList R) := by kernel_rfl
theorem ac_spec_PagesOk {w0 : World} {a0 : Value} {σ : Vw} {R : Value → Vw → Prop} (h : vc_spec_PagesOk w0 a0 σ R) : AC Tryd.prog w0 n_spec_PagesOk [a0] σ R := by
  refine ac_rule (fn := Tryd.f11) (c := Tryd.f11.body.getD .skip) kp_spec_PagesOk esc_spec_PagesOk Tryd.func11 (by kernel_rfl) (by kernel_rfl) ?_
  rw [← vc_spec_PagesOk_eq]
  exact h

/-- spec.l32Text -/
def kp_spec_l32Text : Nat → Keep
  | 1 => ⟨[], [], [], .step 0 (.step 1 (.step 2 (.step 3 (.step 4 (.step 5 (.step 6 (.step 7 (.step 8 (.step 9 (.step 10 (.step 11 (.done)))))))))))), [(2, [1]), (4, [1, 2, 3]), (5, [1, 2, 3, 4]), (6, [0, 1, 2, 3, 4, 5]), (7, [0, 1, 2, 3, 4, 5, 6]), (8, [0, 1, 2, 3, 4, 5, 6, 7]), (9, [0, 1, 2, 3, 4, 5, 6, 7]), (10, [0, 1, 2, 3, 4, 5, 6, 7, 8]), (11, [0, 1, 2, 3, 4, 5, 6, 7, 8, 9, 10])]⟩
  | 4 => ⟨[5, 7, 8], [(2, 2)], [2], .done, []⟩
  | 6 => ⟨[], [], [], .step 0 (.step 1 (.step 2 (.step 3 (.step 4 (.step 5 (.step 6 (.step 7 (.step 8 (.step 9 (.step 10 (.step 11 (.done)))))))))))), [(2, [1]), (5, [3, 4]), (6, [3, 4, 5]), (7, [1, 2, 3, 4, 5, 6]), (8, [1, 2, 3, 4, 5, 6, 7]), (9, [1, 2, 3, 4, 5, 6, 7, 8]), (10, [0, 1, 2, 3, 4, 5, 6, 7, 8, 9]), (11, [0, 1, 2, 3, 4, 5, 6, 7, 8, 9, 10])]⟩
  | _ => ⟨[], [], [], .done, []⟩
def esc_spec_l32Text : Nat → Bool
  | _ => false
def vc_spec_l32Text (w0 : World) (a0 a1 : Value) (σ : Vw) (R : Value → Vw → Prop) : Prop :=
  V true 2 a0 (X 3 (C a0 1) a1 fun v0 => L w0 3 v0 σ fun g1 => AC P w0 n_spec_l32Chain ([.agg (⟨[C a0 0, C a0 1]⟩), .agg (⟨[g1 0, g1 1, g1 2]⟩)]) σ fun v2 s3 => E v2 0 fun v4 => E v2 1 fun v5 => pLoop (fun l6 K7 s8 => N (G l6 0) fun v9 => B P 3 .lss (G l6 2) v9 fun v10 => Q v10 (X 1 (G l6 0) (G l6 2) fun v11 => L w0 1 v11 s8 fun g12 => X 3 (G l6 3) (g12 0) fun v13 => F 1 v13 fun v14 => L w0 1 v14 s8 fun g15 => B P 9 .add (G l6 1) (g15 0) fun v16 => B P 3 .add (G l6 2) (.int .i64 1) fun v17 => K7 .normal [G l6 0, v16, v17, G l6 3, G l6 4] s8) (K7 (.exit 0) [G l6 0, G l6 1, G l6 2, G l6 3, G l6 4] s8)) ([v4, .string ({ data := #[] }), .int .i64 0, C a0 0, C a0 1]) s3 fun x18 l19 s20 => match x18 with | .normal => R (G l19 1) s20 | .ret => False | .exit i21 => (match Nat.beq i21 0 with | true => R (G l19 1) s20 | false => False))
theorem vc_spec_l32Text_eq (w0 : World) (a0 a1 : Value) (σ : Vw) (R : Value → Vw → Prop) : vc_spec_l32Text w0 a0 a1 σ R = den Tryd.prog w0 kp_spec_l32Text esc_spec_l32Text (Tryd.f12.body.getD .skip) (entry Tryd.f12.ntmps [a0, a1]) σ (retK Tryd.prog Tryd.f12.results.toList R) := by kernel_rfl
theorem ac_spec_l32Text {w0 : World} {a0 a1 : Value} {σ : Vw} {R : Value → Vw → Prop} (h : vc_spec_l32Text w0 a0 a1 σ R) : AC Tryd.prog w0 n_spec_l32Text [a0, a1] σ R := by
  refine ac_rule (fn := Tryd.f12) (c := Tryd.f12.body.getD .skip) kp_spec_l32Text esc_spec_l32Text Tryd.func12 (by kernel_rfl) (by kernel_rfl) ?_
  rw [← vc_spec_l32Text_eq]
  exact h

/-- spec.l1Dec -/
def kp_spec_l1Dec : Nat → Keep
  | 7 => ⟨[], [], [], .step 0 (.step 1 (.step 3 (.step 4 (.step 5 (.step 6 (.both (.step 2 (.step 7 (.step 8 (.step 9 (.step 10 (.done)))))) (.step 7 (.step 8 (.step 2 (.step 9 (.step 10 (.done)))))))))))), [(1, [0]), (2, [0, 1]), (4, [3]), (5, [3, 4]), (6, [3, 4, 5]), (7, [3, 4, 5, 6]), (8, [3, 4, 5, 6, 7]), (9, [0, 1, 2, 3, 4, 5, 6, 7, 8]), (10, [0, 1, 2, 3, 4, 5, 6, 7, 8, 9])]⟩
  | _ => ⟨[], [], [], .done, []⟩
def esc_spec_l1Dec : Nat → Bool
  | 16 => true
  | 25 => true
  | _ => false
def vc_spec_l1Dec (w0 : World) (a0 : Value) (σ : Vw) (R : Value → Vw → Prop) : Prop :=
  B P 3 .lss a0 (.int .i64 (-9223372036854775807)) fun v0 => Q v0 (R (.string ({ data := #[45, 57, 50, 50, 51, 51, 55, 50, 48, 51, 54, 56, 53, 52, 55, 55, 53, 56, 48, 56] })) σ) (B P 3 .lss a0 (.int .i64 0) fun v1 => Q v1 (pUn .neg a0 fun v2 => AC P w0 n_spec_l1Dec [v2] σ fun v3 s4 => B P 9 .add (.string ({ data := #[45] })) v3 fun v5 => R v5 s4) (B P 3 .lss a0 (.int .i64 10) fun v6 => Q v6 (B P 3 .add (.int .i64 48) a0 fun v7 => pConvInt .u8 v7 fun v8 => V false 1 v8 (W w0 5 [v8] σ fun n9 s10 => pStr w0 (.slice (some (Addr.mk n9 0 none)) 1 1) s10 fun v11 => R v11 s10)) (B P 3 .quo a0 (.int .i64 10) fun v12 => B P 3 .rem a0 (.int .i64 10) fun v13 => B P 3 .add (.int .i64 48) v13 fun v14 => pConvInt .u8 v14 fun v15 => (AC P w0 n_spec_l1Dec [v12] σ fun v16 s17 => V false 1 v15 (W w0 5 [v15] s17 fun n18 s19 => pStr w0 (.slice (some (Addr.mk n18 0 none)) 1 1) s19 fun v20 => B P 9 .add v16 v20 fun v21 => R v21 s19)) ∧ (V false 1 v15 (W w0 5 [v15] σ fun n22 s23 => pStr w0 (.slice (some (Addr.mk n22 0 none)) 1 1) s23 fun v24 => AC P w0 n_spec_l1Dec [v12] s23 fun v25 s26 => (Ext s23 s26) ∧ (B P 9 .add v25 v24 fun v27 => R v27 s26))))))
theorem vc_spec_l1Dec_eq (w0 : World) (a0 : Value) (σ : Vw) (R : Value → Vw → Prop) : vc_spec_l1Dec w0 a0 σ R = den Tryd.prog w0 kp_spec_l1Dec esc_spec_l1Dec (Tryd.f13.body.getD .skip) (entry Tryd.f13.ntmps [a0]) σ (retK Tryd.prog Tryd.f13.results.toList R) := by kernel_rfl
theorem ac_spec_l1Dec {w0 : World} {a0 : Value} {σ : Vw} {R : Value → Vw → Prop} (h : vc_spec_l1Dec w0 a0 σ R) : AC Tryd.prog w0 n_spec_l1Dec [a0] σ R := by
  refine ac_rule (fn := Tryd.f13) (c := Tryd.f13.body.getD .skip) kp_spec_l1Dec esc_spec_l1Dec Tryd.func13 (by kernel_rfl) (by kernel_rfl) ?_
  rw [← vc_spec_l1Dec_eq]
  exact h

/-- laws.toPageS -/
def kp_laws_toPageS : Nat → Keep
  | 3 => ⟨[0, 3, 4], [], [], .done, []⟩
  | _ => ⟨[], [], [], .done, []⟩
def esc_laws_toPageS : Nat → Bool
  | _ => false
def vc_laws_toPageS (w0 : World) (a0 : Value) (σ : Vw) (R : Value → Vw → Prop) : Prop :=
  N a0 fun v0 => pMake w0 68 3 32 ([.bool false, .string ({ data := #[] }), .int .i64 0]) v0 v0 σ fun v1 s2 => pLoop (fun l3 K4 s5 => N (G l3 0) fun v6 => B P 3 .lss (G l3 2) v6 fun v7 => Q v7 (X 3 (G l3 0) (G l3 2) fun v8 => L w0 3 v8 s5 fun g9 => AC P w0 n_laws_toPage ([.agg (⟨[g9 0, g9 1, g9 2]⟩)]) s5 fun v10 s11 => X 3 (G l3 1) (G l3 2) fun v12 => V true 3 v10 (pStore v12 [C v10 0, C v10 1, C v10 2] s11 fun s13 => B P 3 .add (G l3 2) (.int .i64 1) fun v14 => K4 .normal [G l3 0, G l3 1, v14] s13)) (K4 (.exit 0) [G l3 0, G l3 1, G l3 2] s5)) [a0, v1, .int .i64 0] s2 fun x15 l16 s17 => match x15 with | .normal => R (G l16 1) s17 | .ret => False | .exit i18 => (match Nat.beq i18 0 with | true => R (G l16 1) s17 | false => False)
theorem vc_laws_toPageS_eq (w0 : World) (a0 : Value) (σ : Vw) (R : Value → Vw → Prop) : vc_laws_toPageS w0 a0 σ R = den Tryd.prog w0 kp_laws_toPageS esc_laws_toPageS (Tryd.f14.body.getD .skip) (entry Tryd.f14.ntmps [a0]) σ (retK Tryd.prog Tryd.f14.results.toList R) := by kernel_rfl
theorem ac_laws_toPageS {w0 : World} {a0 : Value} {σ : Vw} {R : Value → Vw → Prop} (h : vc_laws_toPageS w0 a0 σ R) : AC Tryd.prog w0 n_laws_toPageS [a0] σ R := by
  refine ac_rule (fn := Tryd.f14) (c := Tryd.f14.body.getD .skip) kp_laws_toPageS esc_laws_toPageS Tryd.func14 (by kernel_rfl) (by kernel_rfl) ?_
  rw [← vc_laws_toPageS_eq]
  exact h

/-- laws.toPageNameS -/
def kp_laws_toPageNameS : Nat → Keep
  | 3 => ⟨[0, 3, 4], [], [], .done, []⟩
  | _ => ⟨[], [], [], .done, []⟩
def esc_laws_toPageNameS : Nat → Bool
  | _ => false
def vc_laws_toPageNameS (w0 : World) (a0 : Value) (σ : Vw) (R : Value → Vw → Prop) : Prop :=
  N a0 fun v0 => pMake w0 40 3 32 ([.string ({ data := #[] }), .int .i64 0, .int .i64 0]) v0 v0 σ fun v1 s2 => pLoop (fun l3 K4 s5 => N (G l3 0) fun v6 => B P 3 .lss (G l3 2) v6 fun v7 => Q v7 (X 3 (G l3 0) (G l3 2) fun v8 => L w0 3 v8 s5 fun g9 => AC P w0 n_laws_toPageName ([.agg (⟨[g9 0, g9 1, g9 2]⟩)]) s5 fun v10 s11 => X 3 (G l3 1) (G l3 2) fun v12 => V true 3 v10 (pStore v12 [C v10 0, C v10 1, C v10 2] s11 fun s13 => B P 3 .add (G l3 2) (.int .i64 1) fun v14 => K4 .normal [G l3 0, G l3 1, v14] s13)) (K4 (.exit 0) [G l3 0, G l3 1, G l3 2] s5)) [a0, v1, .int .i64 0] s2 fun x15 l16 s17 => match x15 with | .normal => R (G l16 1) s17 | .ret => False | .exit i18 => (match Nat.beq i18 0 with | true => R (G l16 1) s17 | false => False)
theorem vc_laws_toPageNameS_eq (w0 : World) (a0 : Value) (σ : Vw) (R : Value → Vw → Prop) : vc_laws_toPageNameS w0 a0 σ R = den Tryd.prog w0 kp_laws_toPageNameS esc_laws_toPageNameS (Tryd.f15.body.getD .skip) (entry Tryd.f15.ntmps [a0]) σ (retK Tryd.prog Tryd.f15.results.toList R) := by kernel_rfl
theorem ac_laws_toPageNameS {w0 : World} {a0 : Value} {σ : Vw} {R : Value → Vw → Prop} (h : vc_laws_toPageNameS w0 a0 σ R) : AC Tryd.prog w0 n_laws_toPageNameS [a0] σ R := by
  refine ac_rule (fn := Tryd.f15) (c := Tryd.f15.body.getD .skip) kp_laws_toPageNameS esc_laws_toPageNameS Tryd.func15 (by kernel_rfl) (by kernel_rfl) ?_
  rw [← vc_laws_toPageNameS_eq]
  exact h

/-- impl.PagesOk -/
def kp_impl_PagesOk : Nat → Keep
  | 5 => ⟨[2, 3, 24, 25, 26], [(1, 2)], [1], .done, []⟩
  | 7 => ⟨[], [], [], .step 0 (.step 1 (.step 2 (.step 3 (.step 4 (.step 5 (.step 6 (.step 7 (.step 8 (.step 9 (.step 10 (.step 11 (.step 12 (.step 13 (.step 14 (.step 15 (.step 16 (.step 17 (.step 18 (.step 19 (.step 20 (.step 21 (.step 22 (.step 23 (.step 24 (.step 25 (.done)))))))))))))))))))))))))), [(1, [0]), (2, [0, 1]), (3, [0, 1, 2]), (4, [0, 1, 2, 3]), (5, [0, 1, 2, 3, 4]), (6, [0, 1, 2, 3, 4, 5]), (7, [0, 1, 2, 3, 4, 5, 6]), (8, [0, 1, 2, 3, 4, 5, 6, 7]), (9, [0, 1, 2, 3, 4, 5, 6, 7, 8]), (10, [0, 1, 2, 3, 4, 5, 6, 7]), (11, [0, 1, 2, 3, 4, 5, 6, 7, 10]), (12, [0, 1, 2, 3, 4, 5, 6, 7, 8, 9, 10, 11]), (13, [0, 1, 2, 3, 4, 5, 6, 7, 8, 9, 10, 11, 12]), (14, [0, 1, 2, 3, 4, 5, 6, 7, 8, 9, 10, 11, 12, 13]), (15, [0, 1, 2, 3, 4, 5, 6, 7]), (16, [0, 1, 2, 3, 4, 5, 6, 7, 15]), (17, [0, 1, 2, 3, 4, 5, 6, 7, 8, 9, 10, 11, 12, 13, 14, 15, 16]), (18, [0, 1, 2, 3, 4, 5, 6, 7, 8, 9, 10, 11, 12, 13, 14, 15, 16, 17]), (19, [0, 1, 2, 3, 4, 5, 6, 7, 8, 9, 10, 11, 12, 13, 14, 15, 16, 17, 18]), (20, [0, 1, 2, 3, 4, 5, 6, 7, 8, 9, 10, 11, 12, 13, 14, 15, 16, 17, 18, 19]), (21, [0, 1, 2, 3, 4, 5, 6, 7, 8, 9, 10, 11, 12, 13, 14, 15, 16, 17, 18, 19, 20]), (22, [0, 1, 2, 3, 4, 5, 6, 7, 8, 9, 10, 11, 12, 13, 14, 15, 16, 17, 18, 19, 20, 21]), (23, [0, 1, 2, 3, 4, 5, 6, 7, 8, 9, 10, 11, 12, 13, 14, 15, 16, 17, 18, 19, 20, 21, 22]), (24, [0, 1, 2, 3, 4, 5, 6, 7, 8, 9, 10, 11, 12, 13, 14, 15, 16, 17, 18, 19, 20, 21, 22, 23]), (25, [0, 1, 2, 3, 4, 5, 6, 7, 8, 9, 10, 11, 12, 13, 14, 15, 16, 17, 18, 19, 20, 21, 22, 23, 24])]⟩
  | 13 => ⟨[2, 3, 24, 25, 26, 65, 66, 67], [(1, 2)], [1], .done, []⟩
  | 21 => ⟨[2, 3, 79, 80, 81], [], [], .done, []⟩
  | _ => ⟨[], [], [], .done, []⟩
def esc_impl_PagesOk : Nat → Bool
  | 3 => true
  | _ => false
def cs_impl_PagesOk_1 (w0 : World) (g900 : Nat → Value) (s901 : Vw) (K902 : AX → List Value → Vw → Prop) (l903 : List Value) (R : Value → Vw → Prop) : Prop :=
  AC P w0 n_impl_within [g900 2, .int .i64 0, .int .i64 3000] s901 (fun v500 s501 => pUn .not v500 fun v502 => Q v502 (K902 .ret [.bool false, G l903 1, G l903 2, G l903 3, G l903 4, G l903 5, G l903 6] s501) (AC P w0 n_impl_Pages_chain ([.agg (⟨[G l903 5, G l903 6]⟩), .agg (⟨[g900 0, g900 1, g900 2]⟩)]) s501 fun v503 s504 => E v503 0 fun v505 => E v503 1 fun v506 => pUn .not v506 fun v507 => Q v507 (K902 .ret [.bool false, G l903 1, G l903 2, G l903 3, G l903 4, G l903 5, G l903 6] s504) (N v505 fun v508 => pLoop (fun l509 K510 s511 => B P 3 .lss (G l509 7) (G l509 6) fun v512 => Q v512 (X 1 (G l509 5) (G l509 7) fun v513 => L w0 1 v513 s511 fun g514 => pIndexArr 96 1 (G l509 1) (g514 0) fun v515 => L w0 1 v515 s511 fun g516 => Q (g516 0) (K510 .ret [.bool false, G l509 1, G l509 2, G l509 3, G l509 4, G l509 5, G l509 6, G l509 7, G l509 8, G l509 9] s511) (pIndexArr 96 1 (G l509 1) (g514 0) fun v517 => V false 1 (.bool true) (pStore v517 [.bool true] s511 fun s518 => B P 3 .add (G l509 7) (.int .i64 1) fun v519 => K510 .normal [G l509 0, G l509 1, G l509 2, G l509 3, G l509 4, G l509 5, G l509 6, v519, G l509 8, G l509 9] s518))) (K510 (.exit 2) [G l509 0, G l509 1, G l509 2, G l509 3, G l509 4, G l509 5, G l509 6, G l509 7, G l509 8, G l509 9] s511)) [G l903 0, G l903 1, G l903 2, G l903 3, G l903 4, v505, v508, .int .i64 0, G l903 5, G l903 6] s504 fun x520 l521 s522 => match x520 with | .normal => B P 3 .add (G l521 4) (.int .i64 1) (fun v523 => K902 .normal [G l521 0, G l521 1, G l521 2, G l521 3, v523, G l521 8, G l521 9] s522) | .ret => K902 .ret [G l521 0, G l521 1, G l521 2, G l521 3, G l521 4, G l521 8, G l521 9] s522 | .exit i524 => (match Nat.beq i524 2 with | true => B P 3 .add (G l521 4) (.int .i64 1) (fun v525 => K902 .normal [G l521 0, G l521 1, G l521 2, G l521 3, v525, G l521 8, G l521 9] s522) | false => (match Nat.beq i524 1 with | true => B P 3 .add (G l521 4) (.int .i64 1) (fun v526 => K902 .normal [G l521 0, G l521 1, G l521 2, G l521 3, v526, G l521 8, G l521 9] s522) | false => K902 (.exit i524) [G l521 0, G l521 1, G l521 2, G l521 3, G l521 4, G l521 8, G l521 9] s522)))))
def cs_impl_PagesOk_2 (w0 : World) (l900 : List Value) (v901 : Value) (s902 : Vw) (R : Value → Vw → Prop) : Prop :=
  pLoop (fun l500 K501 s502 => B P 3 .lss (G l500 4) (G l500 3) fun v503 => Q v503 (X 3 (G l500 2) (G l500 4) fun v504 => L w0 3 v504 s502 fun g505 => V true 3 (.agg (⟨[g505 0, g505 1, g505 2]⟩)) (pIndexArr 96 1 (G l500 1) (G l500 4) fun v506 => L w0 1 v506 s502 fun g507 => pUn .not (g507 0) fun v508 => Q v508 (Q (g505 0) (K501 .ret [.bool false, G l500 1, G l500 2, G l500 3, G l500 4] s502) (B P 9 .neq (g505 1) (.string ({ data := #[] })) fun v509 => Q v509 (K501 .ret [.bool false, G l500 1, G l500 2, G l500 3, G l500 4] s502) (B P 3 .neq (g505 2) (.int .i64 (-1)) fun v510 => Q v510 (K501 .ret [.bool false, G l500 1, G l500 2, G l500 3, G l500 4] s502) (B P 3 .add (G l500 4) (.int .i64 1) fun v511 => K501 .normal [G l500 0, G l500 1, G l500 2, G l500 3, v511] s502)))) (B P 3 .add (G l500 4) (.int .i64 1) fun v512 => K501 .normal [G l500 0, G l500 1, G l500 2, G l500 3, v512] s502))) (K501 (.exit 4) [G l500 0, G l500 1, G l500 2, G l500 3, G l500 4] s502)) [G l900 0, G l900 1, G l900 5, v901, .int .i64 0] s902 (fun x513 l514 s515 => match x513 with | .normal => R (.bool true) s515 | .ret => R (G l514 0) s515 | .exit i516 => (match Nat.beq i516 4 with | true => R (.bool true) s515 | false => False))
def vc_impl_PagesOk (w0 : World) (a0 : Value) (σ : Vw) (R : Value → Vw → Prop) : Prop :=
  V true 2 a0 (N (C a0 0) fun v0 => B P 3 .neq v0 (.int .i64 96) fun v1 => Q v1 (R (.bool false) σ) (N (C a0 1) fun v2 => B P 3 .gtr v2 (.int .i64 16) fun v3 => Q v3 (R (.bool false) σ) (W w0 71 [.bool false, .bool false, .bool false, .bool false, .bool false, .bool false, .bool false, .bool false, .bool false, .bool false, .bool false, .bool false, .bool false, .bool false, .bool false, .bool false, .bool false, .bool false, .bool false, .bool false, .bool false, .bool false, .bool false, .bool false, .bool false, .bool false, .bool false, .bool false, .bool false, .bool false, .bool false, .bool false, .bool false, .bool false, .bool false, .bool false, .bool false, .bool false, .bool false, .bool false, .bool false, .bool false, .bool false, .bool false, .bool false, .bool false, .bool false, .bool false, .bool false, .bool false, .bool false, .bool false, .bool false, .bool false, .bool false, .bool false, .bool false, .bool false, .bool false, .bool false, .bool false, .bool false, .bool false, .bool false, .bool false, .bool false, .bool false, .bool false, .bool false, .bool false, .bool false, .bool false, .bool false, .bool false, .bool false, .bool false, .bool false, .bool false, .bool false, .bool false, .bool false, .bool false, .bool false, .bool false, .bool false, .bool false, .bool false, .bool false, .bool false, .bool false, .bool false, .bool false, .bool false, .bool false, .bool false, .bool false] σ fun n4 s5 => V true 96 (.agg (⟨[.bool false, .bool false, .bool false, .bool false, .bool false, .bool false, .bool false, .bool false, .bool false, .bool false, .bool false, .bool false, .bool false, .bool false, .bool false, .bool false, .bool false, .bool false, .bool false, .bool false, .bool false, .bool false, .bool false, .bool false, .bool false, .bool false, .bool false, .bool false, .bool false, .bool false, .bool false, .bool false, .bool false, .bool false, .bool false, .bool false, .bool false, .bool false, .bool false, .bool false, .bool false, .bool false, .bool false, .bool false, .bool false, .bool false, .bool false, .bool false, .bool false, .bool false, .bool false, .bool false, .bool false, .bool false, .bool false, .bool false, .bool false, .bool false, .bool false, .bool false, .bool false, .bool false, .bool false, .bool false, .bool false, .bool false, .bool false, .bool false, .bool false, .bool false, .bool false, .bool false, .bool false, .bool false, .bool false, .bool false, .bool false, .bool false, .bool false, .bool false, .bool false, .bool false, .bool false, .bool false, .bool false, .bool false, .bool false, .bool false, .bool false, .bool false, .bool false, .bool false, .bool false, .bool false, .bool false, .bool false]⟩)) (pStore (.pointer (some (Addr.mk n4 0 none))) [.bool false, .bool false, .bool false, .bool false, .bool false, .bool false, .bool false, .bool false, .bool false, .bool false, .bool false, .bool false, .bool false, .bool false, .bool false, .bool false, .bool false, .bool false, .bool false, .bool false, .bool false, .bool false, .bool false, .bool false, .bool false, .bool false, .bool false, .bool false, .bool false, .bool false, .bool false, .bool false, .bool false, .bool false, .bool false, .bool false, .bool false, .bool false, .bool false, .bool false, .bool false, .bool false, .bool false, .bool false, .bool false, .bool false, .bool false, .bool false, .bool false, .bool false, .bool false, .bool false, .bool false, .bool false, .bool false, .bool false, .bool false, .bool false, .bool false, .bool false, .bool false, .bool false, .bool false, .bool false, .bool false, .bool false, .bool false, .bool false, .bool false, .bool false, .bool false, .bool false, .bool false, .bool false, .bool false, .bool false, .bool false, .bool false, .bool false, .bool false, .bool false, .bool false, .bool false, .bool false, .bool false, .bool false, .bool false, .bool false, .bool false, .bool false, .bool false, .bool false, .bool false, .bool false, .bool false, .bool false] s5 fun s6 => N (C a0 1) fun v7 => pLoop (fun l8 K9 s10 => B P 3 .lss (G l8 4) (G l8 3) fun v11 => Q v11 (X 3 (G l8 2) (G l8 4) fun v12 => L w0 3 v12 s10 fun g13 => V true 3 (.agg (⟨[g13 0, g13 1, g13 2]⟩)) (AC P w0 n_impl_nameOk [g13 0] s10 fun v14 s15 => pUn .not v14 fun v16 => Q v16 (K9 .ret [.bool false, G l8 1, G l8 2, G l8 3, G l8 4, G l8 5, G l8 6] s15) (B P 3 .gtr (G l8 4) (.int .i64 0) fun v17 => Q v17 (B P 3 .sub (G l8 4) (.int .i64 1) fun v18 => X 3 (G l8 6) v18 fun v19 => F 0 v19 fun v20 => L w0 1 v20 s15 fun g21 => B P 9 .geq (g21 0) (g13 0) fun v22 => Q v22 (K9 .ret [.bool false, G l8 1, G l8 2, G l8 3, G l8 4, G l8 5, G l8 6] s15) (cs_impl_PagesOk_1 w0 g13 s15 K9 l8 R)) (cs_impl_PagesOk_1 w0 g13 s15 K9 l8 R)))) (K9 (.exit 0) [G l8 0, G l8 1, G l8 2, G l8 3, G l8 4, G l8 5, G l8 6] s10)) [.bool false, .pointer (some (Addr.mk n4 0 none)), C a0 1, v7, .int .i64 0, C a0 0, C a0 1] s6 fun x77 l78 s79 => match x77 with | .normal => N (G l78 5) (fun v80 => cs_impl_PagesOk_2 w0 l78 v80 s79 R) | .ret => R (G l78 0) s79 | .exit i98 => (match Nat.beq i98 0 with | true => N (G l78 5) (fun v99 => cs_impl_PagesOk_2 w0 l78 v99 s79 R) | false => False)))))

theorem vc_impl_PagesOk_eq (w0 : World) (a0 : Value) (σ : Vw) (R : Value → Vw → Prop) : vc_impl_PagesOk w0 a0 σ R = den Tryd.prog w0 kp_impl_PagesOk esc_impl_PagesOk (Tryd.f16.body.getD .skip) (entry Tryd.f16.ntmps [a0]) σ (retK Tryd.prog Tryd.f16.results.toList R) := by kernel_rfl
theorem ac_impl_PagesOk {w0 : World} {a0 : Value} {σ : Vw} {R : Value → Vw → Prop} (h : vc_impl_PagesOk w0 a0 σ R) : AC Tryd.prog w0 n_impl_PagesOk [a0] σ R := by
  refine ac_rule (fn := Tryd.f16) (c := Tryd.f16.body.getD .skip) kp_impl_PagesOk esc_impl_PagesOk Tryd.func16 (by kernel_rfl) (by kernel_rfl) ?_
  rw [← vc_impl_PagesOk_eq]
  exact h

/-- (impl.Pages).get -/
def kp_impl_Pages_get : Nat → Keep
  | 5 => ⟨[], [], [], .step 0 (.step 1 (.step 2 (.step 3 (.step 4 (.step 5 (.step 6 (.step 7 (.step 8 (.step 9 (.step 10 (.step 11 (.done)))))))))))), [(2, [1]), (4, [1, 2, 3]), (5, [1, 2, 3, 4]), (6, [0, 1, 2, 3, 4, 5]), (7, [0, 1, 2, 3, 4, 5, 6]), (8, [0, 1, 2, 3, 4, 5, 6, 7]), (9, [0, 1, 2, 3, 4, 5, 6, 7]), (10, [0, 1, 2, 3, 4, 5, 6, 7, 8]), (11, [0, 1, 2, 3, 4, 5, 6, 7, 8, 9, 10])]⟩
  | 7 => ⟨[7, 27, 28, 29], [(2, 2)], [2], .done, []⟩
  | _ => ⟨[], [], [], .done, []⟩
def esc_impl_Pages_get : Nat → Bool
  | _ => false
def vc_impl_Pages_get (w0 : World) (a0 a1 : Value) (σ : Vw) (R : Value → Vw → Prop) : Prop :=
  V true 2 a0 (AC P w0 n_impl_Pages_find ([.agg (⟨[C a0 0, C a0 1]⟩), a1]) σ fun v0 s1 => B P 3 .lss v0 (.int .i64 0) fun v2 => Q v2 (R (.tuple (⟨[.string ({ data := #[] }), .bool false]⟩)) s1) (X 3 (C a0 1) v0 fun v3 => L w0 3 v3 s1 fun g4 => AC P w0 n_impl_Pages_chain ([.agg (⟨[C a0 0, C a0 1]⟩), .agg (⟨[g4 0, g4 1, g4 2]⟩)]) s1 fun v5 s6 => E v5 0 fun v7 => E v5 1 fun v8 => N v7 fun v9 => pLoop (fun l10 K11 s12 => B P 3 .lss (G l10 3) (G l10 2) fun v13 => Q v13 (X 1 (G l10 1) (G l10 3) fun v14 => L w0 1 v14 s12 fun g15 => X 3 (G l10 4) (g15 0) fun v16 => F 1 v16 fun v17 => L w0 1 v17 s12 fun g18 => B P 9 .add (G l10 0) (g18 0) fun v19 => B P 3 .add (G l10 3) (.int .i64 1) fun v20 => K11 .normal [v19, G l10 1, G l10 2, v20, G l10 4, G l10 5] s12) (K11 (.exit 0) [G l10 0, G l10 1, G l10 2, G l10 3, G l10 4, G l10 5] s12)) ([.string ({ data := #[] }), v7, v9, .int .i64 0, C a0 0, C a0 1]) s6 fun x21 l22 s23 => match x21 with | .normal => R (.tuple (⟨[G l22 0, .bool true]⟩)) s23 | .ret => False | .exit i24 => (match Nat.beq i24 0 with | true => R (.tuple (⟨[G l22 0, .bool true]⟩)) s23 | false => False)))
theorem vc_impl_Pages_get_eq (w0 : World) (a0 a1 : Value) (σ : Vw) (R : Value → Vw → Prop) : vc_impl_Pages_get w0 a0 a1 σ R = den Tryd.prog w0 kp_impl_Pages_get esc_impl_Pages_get (Tryd.f17.body.getD .skip) (entry Tryd.f17.ntmps [a0, a1]) σ (retK Tryd.prog Tryd.f17.results.toList R) := by kernel_rfl
theorem ac_impl_Pages_get {w0 : World} {a0 a1 : Value} {σ : Vw} {R : Value → Vw → Prop} (h : vc_impl_Pages_get w0 a0 a1 σ R) : AC Tryd.prog w0 n_impl_Pages_get [a0, a1] σ R := by
  refine ac_rule (fn := Tryd.f17) (c := Tryd.f17.body.getD .skip) kp_impl_Pages_get esc_impl_Pages_get Tryd.func17 (by kernel_rfl) (by kernel_rfl) ?_
  rw [← vc_impl_Pages_get_eq]
  exact h

/-- laws.eqPageS -/
def kp_laws_eqPageS : Nat → Keep
  | 4 => ⟨[0, 1, 4, 5], [], [], .done, []⟩
  | 6 => ⟨[], [], [], .step 0 (.step 1 (.step 2 (.step 3 (.step 4 (.step 5 (.step 6 (.step 7 (.step 8 (.step 9 (.done)))))))))), [(2, [0, 1]), (3, [0, 1, 2]), (6, [4, 5]), (7, [4, 5, 6]), (8, [0, 1, 2, 3, 4, 5, 6, 7]), (9, [0, 1, 2, 3, 4, 5, 6, 7, 8])]⟩
  | _ => ⟨[], [], [], .done, []⟩
def esc_laws_eqPageS : Nat → Bool
  | _ => false
def vc_laws_eqPageS (w0 : World) (a0 a1 : Value) (σ : Vw) (R : Value → Vw → Prop) : Prop :=
  N a0 fun v0 => N a1 fun v1 => B P 3 .neq v0 v1 fun v2 => Q v2 (R (.bool false) σ) (pLoop (fun l3 K4 s5 => N (G l3 0) fun v6 => B P 3 .lss (G l3 3) v6 fun v7 => Q v7 (X 3 (G l3 0) (G l3 3) fun v8 => L w0 3 v8 s5 fun g9 => X 3 (G l3 1) (G l3 3) fun v10 => L w0 3 v10 s5 fun g11 => AC P w0 n_laws_eqPage ([.agg (⟨[g9 0, g9 1, g9 2]⟩), .agg (⟨[g11 0, g11 1, g11 2]⟩)]) s5 fun v12 s13 => pUn .not v12 fun v14 => Q v14 (K4 .ret [G l3 0, G l3 1, .bool false, G l3 3] s13) (B P 3 .add (G l3 3) (.int .i64 1) fun v15 => K4 .normal [G l3 0, G l3 1, G l3 2, v15] s13)) (K4 (.exit 0) [G l3 0, G l3 1, G l3 2, G l3 3] s5)) [a0, a1, .bool false, .int .i64 0] σ fun x16 l17 s18 => match x16 with | .normal => R (.bool true) s18 | .ret => R (G l17 2) s18 | .exit i19 => (match Nat.beq i19 0 with | true => R (.bool true) s18 | false => False))
theorem vc_laws_eqPageS_eq (w0 : World) (a0 a1 : Value) (σ : Vw) (R : Value → Vw → Prop) : vc_laws_eqPageS w0 a0 a1 σ R = den Tryd.prog w0 kp_laws_eqPageS esc_laws_eqPageS (Tryd.f21.body.getD .skip) (entry Tryd.f21.ntmps [a0, a1]) σ (retK Tryd.prog Tryd.f21.results.toList R) := by kernel_rfl
theorem ac_laws_eqPageS {w0 : World} {a0 a1 : Value} {σ : Vw} {R : Value → Vw → Prop} (h : vc_laws_eqPageS w0 a0 a1 σ R) : AC Tryd.prog w0 n_laws_eqPageS [a0, a1] σ R := by
  refine ac_rule (fn := Tryd.f21) (c := Tryd.f21.body.getD .skip) kp_laws_eqPageS esc_laws_eqPageS Tryd.func21 (by kernel_rfl) (by kernel_rfl) ?_
  rw [← vc_laws_eqPageS_eq]
  exact h

/-- laws.eqPageNameS -/
def kp_laws_eqPageNameS : Nat → Keep
  | 4 => ⟨[0, 1, 4, 5], [], [], .done, []⟩
  | 6 => ⟨[], [], [], .step 0 (.step 1 (.step 2 (.step 3 (.step 4 (.step 5 (.step 6 (.step 7 (.step 8 (.step 9 (.done)))))))))), [(2, [0, 1]), (3, [0, 1, 2]), (6, [4, 5]), (7, [4, 5, 6]), (8, [0, 1, 2, 3, 4, 5, 6, 7]), (9, [0, 1, 2, 3, 4, 5, 6, 7, 8])]⟩
  | _ => ⟨[], [], [], .done, []⟩
def esc_laws_eqPageNameS : Nat → Bool
  | _ => false
def vc_laws_eqPageNameS (w0 : World) (a0 a1 : Value) (σ : Vw) (R : Value → Vw → Prop) : Prop :=
  N a0 fun v0 => N a1 fun v1 => B P 3 .neq v0 v1 fun v2 => Q v2 (R (.bool false) σ) (pLoop (fun l3 K4 s5 => N (G l3 0) fun v6 => B P 3 .lss (G l3 3) v6 fun v7 => Q v7 (X 3 (G l3 0) (G l3 3) fun v8 => L w0 3 v8 s5 fun g9 => X 3 (G l3 1) (G l3 3) fun v10 => L w0 3 v10 s5 fun g11 => AC P w0 n_laws_eqPageName ([.agg (⟨[g9 0, g9 1, g9 2]⟩), .agg (⟨[g11 0, g11 1, g11 2]⟩)]) s5 fun v12 s13 => pUn .not v12 fun v14 => Q v14 (K4 .ret [G l3 0, G l3 1, .bool false, G l3 3] s13) (B P 3 .add (G l3 3) (.int .i64 1) fun v15 => K4 .normal [G l3 0, G l3 1, G l3 2, v15] s13)) (K4 (.exit 0) [G l3 0, G l3 1, G l3 2, G l3 3] s5)) [a0, a1, .bool false, .int .i64 0] σ fun x16 l17 s18 => match x16 with | .normal => R (.bool true) s18 | .ret => R (G l17 2) s18 | .exit i19 => (match Nat.beq i19 0 with | true => R (.bool true) s18 | false => False))
theorem vc_laws_eqPageNameS_eq (w0 : World) (a0 a1 : Value) (σ : Vw) (R : Value → Vw → Prop) : vc_laws_eqPageNameS w0 a0 a1 σ R = den Tryd.prog w0 kp_laws_eqPageNameS esc_laws_eqPageNameS (Tryd.f22.body.getD .skip) (entry Tryd.f22.ntmps [a0, a1]) σ (retK Tryd.prog Tryd.f22.results.toList R) := by kernel_rfl
theorem ac_laws_eqPageNameS {w0 : World} {a0 a1 : Value} {σ : Vw} {R : Value → Vw → Prop} (h : vc_laws_eqPageNameS w0 a0 a1 σ R) : AC Tryd.prog w0 n_laws_eqPageNameS [a0, a1] σ R := by
  refine ac_rule (fn := Tryd.f22) (c := Tryd.f22.body.getD .skip) kp_laws_eqPageNameS esc_laws_eqPageNameS Tryd.func22 (by kernel_rfl) (by kernel_rfl) ?_
  rw [← vc_laws_eqPageNameS_eq]
  exact h

/-- laws.szPage -/
def kp_laws_szPage : Nat → Keep
  | _ => ⟨[], [], [], .done, []⟩
def esc_laws_szPage : Nat → Bool
  | _ => false
def vc_laws_szPage (w0 : World) (a0 a1 : Value) (σ : Vw) (R : Value → Vw → Prop) : Prop :=
  V true 3 a0 (pLenS (C a0 1) fun v0 => B P 3 .sub a1 v0 fun v1 => B P 3 .lss v1 (.int .i64 0) fun v2 => Q v2 (R (.int .i64 (-1)) σ) (R v1 σ))
theorem vc_laws_szPage_eq (w0 : World) (a0 a1 : Value) (σ : Vw) (R : Value → Vw → Prop) : vc_laws_szPage w0 a0 a1 σ R = den Tryd.prog w0 kp_laws_szPage esc_laws_szPage (Tryd.f23.body.getD .skip) (entry Tryd.f23.ntmps [a0, a1]) σ (retK Tryd.prog Tryd.f23.results.toList R) := by kernel_rfl
theorem ac_laws_szPage {w0 : World} {a0 a1 : Value} {σ : Vw} {R : Value → Vw → Prop} (h : vc_laws_szPage w0 a0 a1 σ R) : AC Tryd.prog w0 n_laws_szPage [a0, a1] σ R := by
  refine ac_rule (fn := Tryd.f23) (c := Tryd.f23.body.getD .skip) kp_laws_szPage esc_laws_szPage Tryd.func23 (by kernel_rfl) (by kernel_rfl) ?_
  rw [← vc_laws_szPage_eq]
  exact h

/-- laws.szPageName -/
def kp_laws_szPageName : Nat → Keep
  | _ => ⟨[], [], [], .done, []⟩
def esc_laws_szPageName : Nat → Bool
  | _ => false
def vc_laws_szPageName (w0 : World) (a0 a1 : Value) (σ : Vw) (R : Value → Vw → Prop) : Prop :=
  V true 3 a0 (pLenS (C a0 0) fun v0 => B P 3 .sub a1 v0 fun v1 => B P 3 .lss v1 (.int .i64 0) fun v2 => Q v2 (R (.int .i64 (-1)) σ) (R v1 σ))
theorem vc_laws_szPageName_eq (w0 : World) (a0 a1 : Value) (σ : Vw) (R : Value → Vw → Prop) : vc_laws_szPageName w0 a0 a1 σ R = den Tryd.prog w0 kp_laws_szPageName esc_laws_szPageName (Tryd.f24.body.getD .skip) (entry Tryd.f24.ntmps [a0, a1]) σ (retK Tryd.prog Tryd.f24.results.toList R) := by kernel_rfl
theorem ac_laws_szPageName {w0 : World} {a0 a1 : Value} {σ : Vw} {R : Value → Vw → Prop} (h : vc_laws_szPageName w0 a0 a1 σ R) : AC Tryd.prog w0 n_laws_szPageName [a0, a1] σ R := by
  refine ac_rule (fn := Tryd.f24) (c := Tryd.f24.body.getD .skip) kp_laws_szPageName esc_laws_szPageName Tryd.func24 (by kernel_rfl) (by kernel_rfl) ?_
  rw [← vc_laws_szPageName_eq]
  exact h

/-- spec.l1NameOk -/
def kp_spec_l1NameOk : Nat → Keep
  | 2 => ⟨[0, 2, 3], [], [], .done, []⟩
  | _ => ⟨[], [], [], .done, []⟩
def esc_spec_l1NameOk : Nat → Bool
  | _ => false
def cs_spec_l1NameOk_1 (w0 : World) (l900 : List Value) (K901 : AX → List Value → Vw → Prop) (s902 : Vw) (R : Value → Vw → Prop) : Prop :=
  pIndexStr (G l900 0) (G l900 2) (fun v500 => B P 5 .geq v500 (.int .u8 48) fun v501 => Q v501 (pIndexStr (G l900 0) (G l900 2) fun v502 => B P 5 .leq v502 (.int .u8 57) fun v503 => pUn .not v503 fun v504 => Q v504 (K901 .ret [G l900 0, .bool false, G l900 2] s902) (B P 3 .add (G l900 2) (.int .i64 1) fun v505 => K901 .normal [G l900 0, G l900 1, v505] s902)) (pUn .not (.bool false) fun v506 => Q v506 (K901 .ret [G l900 0, .bool false, G l900 2] s902) (B P 3 .add (G l900 2) (.int .i64 1) fun v507 => K901 .normal [G l900 0, G l900 1, v507] s902)))
def vc_spec_l1NameOk (w0 : World) (a0 : Value) (σ : Vw) (R : Value → Vw → Prop) : Prop :=
  pLoop (fun l0 K1 s2 => pLenS (G l0 0) fun v3 => B P 3 .lss (G l0 2) v3 fun v4 => Q v4 (pIndexStr (G l0 0) (G l0 2) fun v5 => B P 5 .geq v5 (.int .u8 97) fun v6 => Q v6 (pIndexStr (G l0 0) (G l0 2) fun v7 => B P 5 .leq v7 (.int .u8 122) fun v8 => Q v8 (pUn .not (.bool true) fun v9 => Q v9 (K1 .ret [G l0 0, .bool false, G l0 2] s2) (B P 3 .add (G l0 2) (.int .i64 1) fun v10 => K1 .normal [G l0 0, G l0 1, v10] s2)) (cs_spec_l1NameOk_1 w0 l0 K1 s2 R)) (cs_spec_l1NameOk_1 w0 l0 K1 s2 R)) (K1 (.exit 0) [G l0 0, G l0 1, G l0 2] s2)) [a0, .bool false, .int .i64 0] σ fun x27 l28 s29 => match x27 with | .normal => pLenS (G l28 0) (fun v30 => AC P w0 n_spec_l1In [v30, .int .i64 1, .int .i64 5] s29 fun v31 s32 => R v31 s32) | .ret => R (G l28 1) s29 | .exit i33 => (match Nat.beq i33 0 with | true => pLenS (G l28 0) (fun v34 => AC P w0 n_spec_l1In [v34, .int .i64 1, .int .i64 5] s29 fun v35 s36 => R v35 s36) | false => False)

theorem vc_spec_l1NameOk_eq (w0 : World) (a0 : Value) (σ : Vw) (R : Value → Vw → Prop) : vc_spec_l1NameOk w0 a0 σ R = den Tryd.prog w0 kp_spec_l1NameOk esc_spec_l1NameOk (Tryd.f25.body.getD .skip) (entry Tryd.f25.ntmps [a0]) σ (retK Tryd.prog Tryd.f25.results.toList R) := by kernel_rfl
theorem ac_spec_l1NameOk {w0 : World} {a0 : Value} {σ : Vw} {R : Value → Vw → Prop} (h : vc_spec_l1NameOk w0 a0 σ R) : AC Tryd.prog w0 n_spec_l1NameOk [a0] σ R := by
  refine ac_rule (fn := Tryd.f25) (c := Tryd.f25.body.getD .skip) kp_spec_l1NameOk esc_spec_l1NameOk Tryd.func25 (by kernel_rfl) (by kernel_rfl) ?_
  rw [← vc_spec_l1NameOk_eq]
  exact h

/-- spec.l1In -/
def kp_spec_l1In : Nat → Keep
  | _ => ⟨[], [], [], .done, []⟩
def esc_spec_l1In : Nat → Bool
  | _ => false
def vc_spec_l1In (w0 : World) (a0 a1 a2 : Value) (σ : Vw) (R : Value → Vw → Prop) : Prop :=
  B P 3 .geq a0 a1 fun v0 => Q v0 (B P 3 .leq a0 a2 fun v1 => R v1 σ) (R (.bool false) σ)
theorem vc_spec_l1In_eq (w0 : World) (a0 a1 a2 : Value) (σ : Vw) (R : Value → Vw → Prop) : vc_spec_l1In w0 a0 a1 a2 σ R = den Tryd.prog w0 kp_spec_l1In esc_spec_l1In (Tryd.f26.body.getD .skip) (entry Tryd.f26.ntmps [a0, a1, a2]) σ (retK Tryd.prog Tryd.f26.results.toList R) := by kernel_rfl
theorem ac_spec_l1In {w0 : World} {a0 a1 a2 : Value} {σ : Vw} {R : Value → Vw → Prop} (h : vc_spec_l1In w0 a0 a1 a2 σ R) : AC Tryd.prog w0 n_spec_l1In [a0, a1, a2] σ R := by
  refine ac_rule (fn := Tryd.f26) (c := Tryd.f26.body.getD .skip) kp_spec_l1In esc_spec_l1In Tryd.func26 (by kernel_rfl) (by kernel_rfl) ?_
  rw [← vc_spec_l1In_eq]
  exact h

/-- spec.l32Chain -/
def kp_spec_l32Chain : Nat → Keep
  | 4 => ⟨[4, 5, 6, 7, 8], [(2, 2)], [2], .done, []⟩
  | _ => ⟨[], [], [], .done, []⟩
def esc_spec_l32Chain : Nat → Bool
  | 10 => true
  | _ => false
def vc_spec_l32Chain (w0 : World) (a0 a1 : Value) (σ : Vw) (R : Value → Vw → Prop) : Prop :=
  V true 2 a0 (V true 3 a1 (W w0 3 [] σ fun n0 s1 => pLoop (fun l2 K3 s4 => B P 3 .geq (G l2 3) (.int .i64 0) fun v5 => Q v5 (N (G l2 5) fun v6 => B P 3 .geq (G l2 3) v6 fun v7 => Q v7 (K3 .ret [G l2 2, .bool false, G l2 2, G l2 3, G l2 4, G l2 5, G l2 6] s4) (X 3 (G l2 5) (G l2 3) fun v8 => F 0 v8 fun v9 => L w0 1 v9 s4 fun g10 => pUn .not (g10 0) fun v11 => Q v11 (K3 .ret [G l2 2, .bool false, G l2 2, G l2 3, G l2 4, G l2 5, G l2 6] s4) (N (G l2 2) fun v12 => B P 3 .gtr v12 (.int .i64 96) fun v13 => Q v13 (K3 .ret [G l2 2, .bool false, G l2 2, G l2 3, G l2 4, G l2 5, G l2 6] s4) (B P 3 .gtr (G l2 4) (.int .i64 40) fun v14 => Q v14 (X 3 (G l2 5) (G l2 3) fun v15 => F 1 v15 fun v16 => L w0 1 v16 s4 fun g17 => pLenS (g17 0) fun v18 => B P 3 .neq v18 (.int .i64 40) fun v19 => Q v19 (K3 .ret [G l2 2, .bool false, G l2 2, G l2 3, G l2 4, G l2 5, G l2 6] s4) (B P 3 .eql (.int .i64 40) (.int .i64 0) fun v20 => Q v20 (K3 .ret [G l2 2, .bool false, G l2 2, G l2 3, G l2 4, G l2 5, G l2 6] s4) (V false 1 (G l2 3) ((allOne [G l2 3]) ∧ (A w0 3 1 8 (G l2 2) 1 [G l2 3] s4 fun v21 s22 => B P 3 .sub (G l2 4) (.int .i64 40) fun v23 => X 3 (G l2 5) (G l2 3) fun v24 => F 2 v24 fun v25 => L w0 1 v25 s22 fun g26 => K3 .normal [G l2 0, G l2 1, v21, g26 0, v23, G l2 5, G l2 6] s22))))) (X 3 (G l2 5) (G l2 3) fun v27 => F 1 v27 fun v28 => L w0 1 v28 s4 fun g29 => pLenS (g29 0) fun v30 => B P 3 .neq v30 (G l2 4) fun v31 => Q v31 (K3 .ret [G l2 2, .bool false, G l2 2, G l2 3, G l2 4, G l2 5, G l2 6] s4) (B P 3 .eql (G l2 4) (.int .i64 0) fun v32 => Q v32 (K3 .ret [G l2 2, .bool false, G l2 2, G l2 3, G l2 4, G l2 5, G l2 6] s4) (V false 1 (G l2 3) ((allOne [G l2 3]) ∧ (A w0 3 1 8 (G l2 2) 1 [G l2 3] s4 fun v33 s34 => B P 3 .sub (G l2 4) (G l2 4) fun v35 => X 3 (G l2 5) (G l2 3) fun v36 => F 2 v36 fun v37 => L w0 1 v37 s34 fun g38 => K3 .normal [G l2 0, G l2 1, v33, g38 0, v35, G l2 5, G l2 6] s34))))))))) (K3 (.exit 0) [G l2 0, G l2 1, G l2 2, G l2 3, G l2 4, G l2 5, G l2 6] s4)) [.slice none 0 0, .bool false, .slice (some (Addr.mk n0 0 none)) 0 0, C a1 1, C a1 2, C a0 0, C a0 1] s1 fun x39 l40 s41 => match x39 with | .normal => B P 3 .eql (G l40 4) (.int .i64 0) (fun v42 => R (.tuple (⟨[G l40 2, v42]⟩)) s41) | .ret => R (.tuple (⟨[G l40 0, G l40 1]⟩)) s41 | .exit i43 => (match Nat.beq i43 0 with | true => B P 3 .eql (G l40 4) (.int .i64 0) (fun v44 => R (.tuple (⟨[G l40 2, v44]⟩)) s41) | false => False)))
theorem vc_spec_l32Chain_eq (w0 : World) (a0 a1 : Value) (σ : Vw) (R : Value → Vw → Prop) : vc_spec_l32Chain w0 a0 a1 σ R = den Tryd.prog w0 kp_spec_l32Chain esc_spec_l32Chain (Tryd.f27.body.getD .skip) (entry Tryd.f27.ntmps [a0, a1]) σ (retK Tryd.prog Tryd.f27.results.toList R) := by kernel_rfl
theorem ac_spec_l32Chain {w0 : World} {a0 a1 : Value} {σ : Vw} {R : Value → Vw → Prop} (h : vc_spec_l32Chain w0 a0 a1 σ R) : AC Tryd.prog w0 n_spec_l32Chain [a0, a1] σ R := by
  refine ac_rule (fn := Tryd.f27) (c := Tryd.f27.body.getD .skip) kp_spec_l32Chain esc_spec_l32Chain Tryd.func27 (by kernel_rfl) (by kernel_rfl) ?_
  rw [← vc_spec_l32Chain_eq]
  exact h

/-- laws.toPage -/
def kp_laws_toPage : Nat → Keep
  | _ => ⟨[], [], [], .done, []⟩
def esc_laws_toPage : Nat → Bool
  | _ => false
def vc_laws_toPage (w0 : World) (a0 : Value) (σ : Vw) (R : Value → Vw → Prop) : Prop :=
  V true 3 a0 (V false 1 (C a0 0) (V false 1 (C a0 1) (V false 1 (C a0 2) (V true 3 (.agg (⟨[C a0 0, C a0 1, C a0 2]⟩)) (R (.agg (⟨[C a0 0, C a0 1, C a0 2]⟩)) σ)))))
theorem vc_laws_toPage_eq (w0 : World) (a0 : Value) (σ : Vw) (R : Value → Vw → Prop) : vc_laws_toPage w0 a0 σ R = den Tryd.prog w0 kp_laws_toPage esc_laws_toPage (Tryd.f28.body.getD .skip) (entry Tryd.f28.ntmps [a0]) σ (retK Tryd.prog Tryd.f28.results.toList R) := by kernel_rfl
theorem ac_laws_toPage {w0 : World} {a0 : Value} {σ : Vw} {R : Value → Vw → Prop} (h : vc_laws_toPage w0 a0 σ R) : AC Tryd.prog w0 n_laws_toPage [a0] σ R := by
  refine ac_rule (fn := Tryd.f28) (c := Tryd.f28.body.getD .skip) kp_laws_toPage esc_laws_toPage Tryd.func28 (by kernel_rfl) (by kernel_rfl) ?_
  rw [← vc_laws_toPage_eq]
  exact h

/-- laws.toPageName -/
def kp_laws_toPageName : Nat → Keep
  | _ => ⟨[], [], [], .done, []⟩
def esc_laws_toPageName : Nat → Bool
  | _ => false
def vc_laws_toPageName (w0 : World) (a0 : Value) (σ : Vw) (R : Value → Vw → Prop) : Prop :=
  V true 3 a0 (V false 1 (C a0 0) (V false 1 (C a0 1) (V false 1 (C a0 2) (V true 3 (.agg (⟨[C a0 0, C a0 1, C a0 2]⟩)) (R (.agg (⟨[C a0 0, C a0 1, C a0 2]⟩)) σ)))))
theorem vc_laws_toPageName_eq (w0 : World) (a0 : Value) (σ : Vw) (R : Value → Vw → Prop) : vc_laws_toPageName w0 a0 σ R = den Tryd.prog w0 kp_laws_toPageName esc_laws_toPageName (Tryd.f29.body.getD .skip) (entry Tryd.f29.ntmps [a0]) σ (retK Tryd.prog Tryd.f29.results.toList R) := by kernel_rfl
theorem ac_laws_toPageName {w0 : World} {a0 : Value} {σ : Vw} {R : Value → Vw → Prop} (h : vc_laws_toPageName w0 a0 σ R) : AC Tryd.prog w0 n_laws_toPageName [a0] σ R := by
  refine ac_rule (fn := Tryd.f29) (c := Tryd.f29.body.getD .skip) kp_laws_toPageName esc_laws_toPageName Tryd.func29 (by kernel_rfl) (by kernel_rfl) ?_
  rw [← vc_laws_toPageName_eq]
  exact h

/-- impl.nameOk -/
def kp_impl_nameOk : Nat → Keep
  | 2 => ⟨[0, 2, 5, 6], [], [], .done, []⟩
  | _ => ⟨[], [], [], .done, []⟩
def esc_impl_nameOk : Nat → Bool
  | _ => false
def vc_impl_nameOk (w0 : World) (a0 : Value) (σ : Vw) (R : Value → Vw → Prop) : Prop :=
  pLenS a0 fun v0 => pLoop (fun l1 K2 s3 => B P 3 .lss (G l1 3) (G l1 2) fun v4 => Q v4 (pIndexStr (G l1 0) (G l1 3) fun v5 => B P 5 .lss v5 (.int .u8 97) fun v6 => Q v6 (pIndexStr (G l1 0) (G l1 3) fun v7 => B P 5 .lss v7 (.int .u8 48) fun v8 => Q v8 (K2 .ret [G l1 0, .bool false, G l1 2, G l1 3] s3) (pIndexStr (G l1 0) (G l1 3) fun v9 => B P 5 .gtr v9 (.int .u8 57) fun v10 => Q v10 (K2 .ret [G l1 0, .bool false, G l1 2, G l1 3] s3) (B P 3 .add (G l1 3) (.int .i64 1) fun v11 => K2 .normal [G l1 0, G l1 1, G l1 2, v11] s3))) (pIndexStr (G l1 0) (G l1 3) fun v12 => B P 5 .gtr v12 (.int .u8 122) fun v13 => Q v13 (pIndexStr (G l1 0) (G l1 3) fun v14 => B P 5 .lss v14 (.int .u8 48) fun v15 => Q v15 (K2 .ret [G l1 0, .bool false, G l1 2, G l1 3] s3) (pIndexStr (G l1 0) (G l1 3) fun v16 => B P 5 .gtr v16 (.int .u8 57) fun v17 => Q v17 (K2 .ret [G l1 0, .bool false, G l1 2, G l1 3] s3) (B P 3 .add (G l1 3) (.int .i64 1) fun v18 => K2 .normal [G l1 0, G l1 1, G l1 2, v18] s3))) (B P 3 .add (G l1 3) (.int .i64 1) fun v19 => K2 .normal [G l1 0, G l1 1, G l1 2, v19] s3))) (K2 (.exit 0) [G l1 0, G l1 1, G l1 2, G l1 3] s3)) [a0, .bool false, v0, .int .i64 0] σ fun x20 l21 s22 => match x20 with | .normal => pLenS (G l21 0) (fun v23 => AC P w0 n_impl_within [v23, .int .i64 1, .int .i64 5] s22 fun v24 s25 => R v24 s25) | .ret => R (G l21 1) s22 | .exit i26 => (match Nat.beq i26 0 with | true => pLenS (G l21 0) (fun v27 => AC P w0 n_impl_within [v27, .int .i64 1, .int .i64 5] s22 fun v28 s29 => R v28 s29) | false => False)
theorem vc_impl_nameOk_eq (w0 : World) (a0 : Value) (σ : Vw) (R : Value → Vw → Prop) : vc_impl_nameOk w0 a0 σ R = den Tryd.prog w0 kp_impl_nameOk esc_impl_nameOk (Tryd.f30.body.getD .skip) (entry Tryd.f30.ntmps [a0]) σ (retK Tryd.prog Tryd.f30.results.toList R) := by kernel_rfl
theorem ac_impl_nameOk {w0 : World} {a0 : Value} {σ : Vw} {R : Value → Vw → Prop} (h : vc_impl_nameOk w0 a0 σ R) : AC Tryd.prog w0 n_impl_nameOk [a0] σ R := by
  refine ac_rule (fn := Tryd.f30) (c := Tryd.f30.body.getD .skip) kp_impl_nameOk esc_impl_nameOk Tryd.func30 (by kernel_rfl) (by kernel_rfl) ?_
  rw [← vc_impl_nameOk_eq]
  exact h

/-- impl.within -/
def kp_impl_within : Nat → Keep
  | _ => ⟨[], [], [], .done, []⟩
def esc_impl_within : Nat → Bool
  | _ => false
def vc_impl_within (w0 : World) (a0 a1 a2 : Value) (σ : Vw) (R : Value → Vw → Prop) : Prop :=
  B P 3 .geq a0 a1 fun v0 => Q v0 (B P 3 .leq a0 a2 fun v1 => R v1 σ) (R (.bool false) σ)
theorem vc_impl_within_eq (w0 : World) (a0 a1 a2 : Value) (σ : Vw) (R : Value → Vw → Prop) : vc_impl_within w0 a0 a1 a2 σ R = den Tryd.prog w0 kp_impl_within esc_impl_within (Tryd.f31.body.getD .skip) (entry Tryd.f31.ntmps [a0, a1, a2]) σ (retK Tryd.prog Tryd.f31.results.toList R) := by kernel_rfl
theorem ac_impl_within {w0 : World} {a0 a1 a2 : Value} {σ : Vw} {R : Value → Vw → Prop} (h : vc_impl_within w0 a0 a1 a2 σ R) : AC Tryd.prog w0 n_impl_within [a0, a1, a2] σ R := by
  refine ac_rule (fn := Tryd.f31) (c := Tryd.f31.body.getD .skip) kp_impl_within esc_impl_within Tryd.func31 (by kernel_rfl) (by kernel_rfl) ?_
  rw [← vc_impl_within_eq]
  exact h

/-- (impl.Pages).chain -/
def kp_impl_Pages_chain : Nat → Keep
  | 4 => ⟨[4, 5, 6, 7, 15, 16], [(2, 2), (3, 3)], [2, 3], .done, []⟩
  | _ => ⟨[], [], [], .done, []⟩
def esc_impl_Pages_chain : Nat → Bool
  | 10 => true
  | _ => false
def vc_impl_Pages_chain (w0 : World) (a0 a1 : Value) (σ : Vw) (R : Value → Vw → Prop) : Prop :=
  V true 2 a0 (V true 3 a1 (W w0 3 [] σ fun n0 s1 => AC P w0 n_impl_pieces [C a1 2, .int .i64 40] s1 fun v2 s3 => pLoop (fun l4 K5 s6 => B P 3 .lss (G l4 5) (G l4 4) fun v7 => Q v7 (B P 3 .mul (G l4 5) (.int .i64 40) fun v8 => B P 3 .sub (G l4 10) v8 fun v9 => pMin (.int .i64 40) v9 fun v10 => AC P w0 n_impl_within [G l4 3, .int .i64 0, .int .i64 95] s6 fun v11 s12 => pUn .not v11 fun v13 => Q v13 (K5 .ret [.slice none 0 0, .bool false, G l4 2, G l4 3, G l4 4, G l4 5, G l4 6, G l4 7, G l4 8, G l4 9, G l4 10] s12) (AC P w0 n_slices_Contains_int_int [G l4 2, G l4 3] s12 fun v14 s15 => Q v14 (K5 .ret [.slice none 0 0, .bool false, G l4 2, G l4 3, G l4 4, G l4 5, G l4 6, G l4 7, G l4 8, G l4 9, G l4 10] s15) (X 3 (G l4 6) (G l4 3) fun v16 => F 0 v16 fun v17 => L w0 1 v17 s15 fun g18 => pUn .not (g18 0) fun v19 => Q v19 (K5 .ret [.slice none 0 0, .bool false, G l4 2, G l4 3, G l4 4, G l4 5, G l4 6, G l4 7, G l4 8, G l4 9, G l4 10] s15) (X 3 (G l4 6) (G l4 3) fun v20 => F 1 v20 fun v21 => L w0 1 v21 s15 fun g22 => pLenS (g22 0) fun v23 => B P 3 .neq v23 v10 fun v24 => Q v24 (K5 .ret [.slice none 0 0, .bool false, G l4 2, G l4 3, G l4 4, G l4 5, G l4 6, G l4 7, G l4 8, G l4 9, G l4 10] s15) (V false 1 (G l4 3) ((allOne [G l4 3]) ∧ (A w0 3 1 8 (G l4 2) 1 [G l4 3] s15 fun v25 s26 => X 3 (G l4 6) (G l4 3) fun v27 => F 2 v27 fun v28 => L w0 1 v28 s26 fun g29 => B P 3 .add (G l4 5) (.int .i64 1) fun v30 => K5 .normal [G l4 0, G l4 1, v25, g29 0, G l4 4, v30, G l4 6, G l4 7, G l4 8, G l4 9, G l4 10] s26))))))) (K5 (.exit 0) [G l4 0, G l4 1, G l4 2, G l4 3, G l4 4, G l4 5, G l4 6, G l4 7, G l4 8, G l4 9, G l4 10] s6)) [.slice none 0 0, .bool false, .slice (some (Addr.mk n0 0 none)) 0 0, C a1 1, v2, .int .i64 0, C a0 0, C a0 1, C a1 0, C a1 1, C a1 2] s3 fun x31 l32 s33 => match x31 with | .normal => B P 3 .eql (G l32 3) (.int .i64 (-1)) (fun v34 => R (.tuple (⟨[G l32 2, v34]⟩)) s33) | .ret => R (.tuple (⟨[G l32 0, G l32 1]⟩)) s33 | .exit i35 => (match Nat.beq i35 0 with | true => B P 3 .eql (G l32 3) (.int .i64 (-1)) (fun v36 => R (.tuple (⟨[G l32 2, v36]⟩)) s33) | false => False)))
theorem vc_impl_Pages_chain_eq (w0 : World) (a0 a1 : Value) (σ : Vw) (R : Value → Vw → Prop) : vc_impl_Pages_chain w0 a0 a1 σ R = den Tryd.prog w0 kp_impl_Pages_chain esc_impl_Pages_chain (Tryd.f32.body.getD .skip) (entry Tryd.f32.ntmps [a0, a1]) σ (retK Tryd.prog Tryd.f32.results.toList R) := by kernel_rfl
theorem ac_impl_Pages_chain {w0 : World} {a0 a1 : Value} {σ : Vw} {R : Value → Vw → Prop} (h : vc_impl_Pages_chain w0 a0 a1 σ R) : AC Tryd.prog w0 n_impl_Pages_chain [a0, a1] σ R := by
  refine ac_rule (fn := Tryd.f32) (c := Tryd.f32.body.getD .skip) kp_impl_Pages_chain esc_impl_Pages_chain Tryd.func32 (by kernel_rfl) (by kernel_rfl) ?_
  rw [← vc_impl_Pages_chain_eq]
  exact h

/-- (impl.Pages).find -/
def kp_impl_Pages_find : Nat → Keep
  | _ => ⟨[], [], [], .done, []⟩
def esc_impl_Pages_find : Nat → Bool
  | 3 => true
  | _ => false
def vc_impl_Pages_find (w0 : World) (a0 a1 : Value) (σ : Vw) (R : Value → Vw → Prop) : Prop :=
  V true 2 a0 (V false 1 a1 (W w0 9 [a1] σ fun n0 s1 => AC P w0 n_slices_IndexFunc_impl_PageName_impl_PageName ([C a0 1, .func (Fn.func 41) ⟨[]⟩ (⟨[.pointer (some (Addr.mk n0 0 none))]⟩)]) s1 fun v2 s3 => R v2 s3))
theorem vc_impl_Pages_find_eq (w0 : World) (a0 a1 : Value) (σ : Vw) (R : Value → Vw → Prop) : vc_impl_Pages_find w0 a0 a1 σ R = den Tryd.prog w0 kp_impl_Pages_find esc_impl_Pages_find (Tryd.f33.body.getD .skip) (entry Tryd.f33.ntmps [a0, a1]) σ (retK Tryd.prog Tryd.f33.results.toList R) := by kernel_rfl
theorem ac_impl_Pages_find {w0 : World} {a0 a1 : Value} {σ : Vw} {R : Value → Vw → Prop} (h : vc_impl_Pages_find w0 a0 a1 σ R) : AC Tryd.prog w0 n_impl_Pages_find [a0, a1] σ R := by
  refine ac_rule (fn := Tryd.f33) (c := Tryd.f33.body.getD .skip) kp_impl_Pages_find esc_impl_Pages_find Tryd.func33 (by kernel_rfl) (by kernel_rfl) ?_
  rw [← vc_impl_Pages_find_eq]
  exact h

/-- laws.eqPage -/
def kp_laws_eqPage : Nat → Keep
  | _ => ⟨[], [], [], .done, []⟩
def esc_laws_eqPage : Nat → Bool
  | _ => false
def vc_laws_eqPage (w0 : World) (a0 a1 : Value) (σ : Vw) (R : Value → Vw → Prop) : Prop :=
  V true 3 a0 (V true 3 a1 (B P 4 .neq (C a0 0) (C a1 0) fun v0 => Q v0 (R (.bool false) σ) (B P 9 .neq (C a0 1) (C a1 1) fun v1 => Q v1 (R (.bool false) σ) (B P 3 .neq (C a0 2) (C a1 2) fun v2 => Q v2 (R (.bool false) σ) (R (.bool true) σ)))))
theorem vc_laws_eqPage_eq (w0 : World) (a0 a1 : Value) (σ : Vw) (R : Value → Vw → Prop) : vc_laws_eqPage w0 a0 a1 σ R = den Tryd.prog w0 kp_laws_eqPage esc_laws_eqPage (Tryd.f36.body.getD .skip) (entry Tryd.f36.ntmps [a0, a1]) σ (retK Tryd.prog Tryd.f36.results.toList R) := by kernel_rfl
theorem ac_laws_eqPage {w0 : World} {a0 a1 : Value} {σ : Vw} {R : Value → Vw → Prop} (h : vc_laws_eqPage w0 a0 a1 σ R) : AC Tryd.prog w0 n_laws_eqPage [a0, a1] σ R := by
  refine ac_rule (fn := Tryd.f36) (c := Tryd.f36.body.getD .skip) kp_laws_eqPage esc_laws_eqPage Tryd.func36 (by kernel_rfl) (by kernel_rfl) ?_
  rw [← vc_laws_eqPage_eq]
  exact h

/-- laws.eqPageName -/
def kp_laws_eqPageName : Nat → Keep
  | _ => ⟨[], [], [], .done, []⟩
def esc_laws_eqPageName : Nat → Bool
  | _ => false
def vc_laws_eqPageName (w0 : World) (a0 a1 : Value) (σ : Vw) (R : Value → Vw → Prop) : Prop :=
  V true 3 a0 (V true 3 a1 (B P 9 .neq (C a0 0) (C a1 0) fun v0 => Q v0 (R (.bool false) σ) (B P 3 .neq (C a0 1) (C a1 1) fun v1 => Q v1 (R (.bool false) σ) (B P 3 .neq (C a0 2) (C a1 2) fun v2 => Q v2 (R (.bool false) σ) (R (.bool true) σ)))))
theorem vc_laws_eqPageName_eq (w0 : World) (a0 a1 : Value) (σ : Vw) (R : Value → Vw → Prop) : vc_laws_eqPageName w0 a0 a1 σ R = den Tryd.prog w0 kp_laws_eqPageName esc_laws_eqPageName (Tryd.f37.body.getD .skip) (entry Tryd.f37.ntmps [a0, a1]) σ (retK Tryd.prog Tryd.f37.results.toList R) := by kernel_rfl
theorem ac_laws_eqPageName {w0 : World} {a0 a1 : Value} {σ : Vw} {R : Value → Vw → Prop} (h : vc_laws_eqPageName w0 a0 a1 σ R) : AC Tryd.prog w0 n_laws_eqPageName [a0, a1] σ R := by
  refine ac_rule (fn := Tryd.f37) (c := Tryd.f37.body.getD .skip) kp_laws_eqPageName esc_laws_eqPageName Tryd.func37 (by kernel_rfl) (by kernel_rfl) ?_
  rw [← vc_laws_eqPageName_eq]
  exact h

/-- impl.pieces -/
def kp_impl_pieces : Nat → Keep
  | _ => ⟨[], [], [], .done, []⟩
def esc_impl_pieces : Nat → Bool
  | _ => false
def vc_impl_pieces (w0 : World) (a0 a1 : Value) (σ : Vw) (R : Value → Vw → Prop) : Prop :=
  B P 3 .add a0 a1 fun v0 => B P 3 .sub v0 (.int .i64 1) fun v1 => B P 3 .quo v1 a1 fun v2 => R v2 σ
theorem vc_impl_pieces_eq (w0 : World) (a0 a1 : Value) (σ : Vw) (R : Value → Vw → Prop) : vc_impl_pieces w0 a0 a1 σ R = den Tryd.prog w0 kp_impl_pieces esc_impl_pieces (Tryd.f38.body.getD .skip) (entry Tryd.f38.ntmps [a0, a1]) σ (retK Tryd.prog Tryd.f38.results.toList R) := by kernel_rfl
theorem ac_impl_pieces {w0 : World} {a0 a1 : Value} {σ : Vw} {R : Value → Vw → Prop} (h : vc_impl_pieces w0 a0 a1 σ R) : AC Tryd.prog w0 n_impl_pieces [a0, a1] σ R := by
  refine ac_rule (fn := Tryd.f38) (c := Tryd.f38.body.getD .skip) kp_impl_pieces esc_impl_pieces Tryd.func38 (by kernel_rfl) (by kernel_rfl) ?_
  rw [← vc_impl_pieces_eq]
  exact h

/-- slices.Contains[[]int,int] -/
def kp_slices_Contains_int_int : Nat → Keep
  | _ => ⟨[], [], [], .done, []⟩
def esc_slices_Contains_int_int : Nat → Bool
  | _ => false
def vc_slices_Contains_int_int (w0 : World) (a0 a1 : Value) (σ : Vw) (R : Value → Vw → Prop) : Prop :=
  AC P w0 n_slices_Index_int_int [a0, a1] σ fun v0 s1 => B P 3 .geq v0 (.int .i64 0) fun v2 => R v2 s1
theorem vc_slices_Contains_int_int_eq (w0 : World) (a0 a1 : Value) (σ : Vw) (R : Value → Vw → Prop) : vc_slices_Contains_int_int w0 a0 a1 σ R = den Tryd.prog w0 kp_slices_Contains_int_int esc_slices_Contains_int_int (Tryd.f39.body.getD .skip) (entry Tryd.f39.ntmps [a0, a1]) σ (retK Tryd.prog Tryd.f39.results.toList R) := by kernel_rfl
theorem ac_slices_Contains_int_int {w0 : World} {a0 a1 : Value} {σ : Vw} {R : Value → Vw → Prop} (h : vc_slices_Contains_int_int w0 a0 a1 σ R) : AC Tryd.prog w0 n_slices_Contains_int_int [a0, a1] σ R := by
  refine ac_rule (fn := Tryd.f39) (c := Tryd.f39.body.getD .skip) kp_slices_Contains_int_int esc_slices_Contains_int_int Tryd.func39 (by kernel_rfl) (by kernel_rfl) ?_
  rw [← vc_slices_Contains_int_int_eq]
  exact h

/-- slices.IndexFunc[[]impl.PageName,impl.PageName] -/
def kp_slices_IndexFunc_impl_PageName_impl_PageName : Nat → Keep
  | 2 => ⟨[0, 1, 4, 7, 8], [], [], .done, []⟩
  | _ => ⟨[], [], [], .done, []⟩
def esc_slices_IndexFunc_impl_PageName_impl_PageName : Nat → Bool
  | _ => false
def vc_slices_IndexFunc_impl_PageName_impl_PageName (w0 : World) (a0 a1 : Value) (σ : Vw) (R : Value → Vw → Prop) : Prop :=
  N a0 fun v0 => pLoop (fun l1 K2 s3 => B P 3 .lss (G l1 4) (G l1 3) fun v4 => Q v4 (X 3 (G l1 0) (G l1 4) fun v5 => L w0 3 v5 s3 fun g6 => pCallV (fun n7 l8 s9 K10 => AC P w0 n7 l8 s9 K10) (G l1 1) ([.agg (⟨[g6 0, g6 1, g6 2]⟩)]) s3 fun v11 s12 => Q v11 (K2 .ret [G l1 0, G l1 1, G l1 4, G l1 3, G l1 4] s12) (B P 3 .add (G l1 4) (.int .i64 1) fun v13 => K2 .normal [G l1 0, G l1 1, G l1 2, G l1 3, v13] s12)) (K2 (.exit 0) [G l1 0, G l1 1, G l1 2, G l1 3, G l1 4] s3)) [a0, a1, .int .i64 0, v0, .int .i64 0] σ fun x14 l15 s16 => match x14 with | .normal => R (.int .i64 (-1)) s16 | .ret => R (G l15 2) s16 | .exit i17 => (match Nat.beq i17 0 with | true => R (.int .i64 (-1)) s16 | false => False)
theorem vc_slices_IndexFunc_impl_PageName_impl_PageName_eq (w0 : World) (a0 a1 : Value) (σ : Vw) (R : Value → Vw → Prop) : vc_slices_IndexFunc_impl_PageName_impl_PageName w0 a0 a1 σ R = den Tryd.prog w0 kp_slices_IndexFunc_impl_PageName_impl_PageName esc_slices_IndexFunc_impl_PageName_impl_PageName (Tryd.f40.body.getD .skip) (entry Tryd.f40.ntmps [a0, a1]) σ (retK Tryd.prog Tryd.f40.results.toList R) := by kernel_rfl
theorem ac_slices_IndexFunc_impl_PageName_impl_PageName {w0 : World} {a0 a1 : Value} {σ : Vw} {R : Value → Vw → Prop} (h : vc_slices_IndexFunc_impl_PageName_impl_PageName w0 a0 a1 σ R) : AC Tryd.prog w0 n_slices_IndexFunc_impl_PageName_impl_PageName [a0, a1] σ R := by
  refine ac_rule (fn := Tryd.f40) (c := Tryd.f40.body.getD .skip) kp_slices_IndexFunc_impl_PageName_impl_PageName esc_slices_IndexFunc_impl_PageName_impl_PageName Tryd.func40 (by kernel_rfl) (by kernel_rfl) ?_
  rw [← vc_slices_IndexFunc_impl_PageName_impl_PageName_eq]
  exact h

/-- (impl.Pages).find$1 -/
def kp_impl_Pages_find_c1 : Nat → Keep
  | _ => ⟨[], [], [], .done, []⟩
def esc_impl_Pages_find_c1 : Nat → Bool
  | _ => false
def vc_impl_Pages_find_c1 (w0 : World) (a0 a1 : Value) (σ : Vw) (R : Value → Vw → Prop) : Prop :=
  V true 3 a0 (L w0 1 a1 σ fun g0 => B P 9 .eql (C a0 0) (g0 0) fun v1 => R v1 σ)
theorem vc_impl_Pages_find_c1_eq (w0 : World) (a0 a1 : Value) (σ : Vw) (R : Value → Vw → Prop) : vc_impl_Pages_find_c1 w0 a0 a1 σ R = den Tryd.prog w0 kp_impl_Pages_find_c1 esc_impl_Pages_find_c1 (Tryd.f41.body.getD .skip) (entry Tryd.f41.ntmps [a0, a1]) σ (retK Tryd.prog Tryd.f41.results.toList R) := by kernel_rfl
theorem ac_impl_Pages_find_c1 {w0 : World} {a0 a1 : Value} {σ : Vw} {R : Value → Vw → Prop} (h : vc_impl_Pages_find_c1 w0 a0 a1 σ R) : AC Tryd.prog w0 n_impl_Pages_find_c1 [a0, a1] σ R := by
  refine ac_rule (fn := Tryd.f41) (c := Tryd.f41.body.getD .skip) kp_impl_Pages_find_c1 esc_impl_Pages_find_c1 Tryd.func41 (by kernel_rfl) (by kernel_rfl) ?_
  rw [← vc_impl_Pages_find_c1_eq]
  exact h

/-- slices.Index[[]int,int] -/
def kp_slices_Index_int_int : Nat → Keep
  | 2 => ⟨[0, 1, 4, 7, 8], [], [], .done, []⟩
  | _ => ⟨[], [], [], .done, []⟩
def esc_slices_Index_int_int : Nat → Bool
  | _ => false
def vc_slices_Index_int_int (w0 : World) (a0 a1 : Value) (σ : Vw) (R : Value → Vw → Prop) : Prop :=
  N a0 fun v0 => pLoop (fun l1 K2 s3 => B P 3 .lss (G l1 4) (G l1 3) fun v4 => Q v4 (X 1 (G l1 0) (G l1 4) fun v5 => L w0 1 v5 s3 fun g6 => B P 3 .eql (G l1 1) (g6 0) fun v7 => Q v7 (K2 .ret [G l1 0, G l1 1, G l1 4, G l1 3, G l1 4] s3) (B P 3 .add (G l1 4) (.int .i64 1) fun v8 => K2 .normal [G l1 0, G l1 1, G l1 2, G l1 3, v8] s3)) (K2 (.exit 0) [G l1 0, G l1 1, G l1 2, G l1 3, G l1 4] s3)) [a0, a1, .int .i64 0, v0, .int .i64 0] σ fun x9 l10 s11 => match x9 with | .normal => R (.int .i64 (-1)) s11 | .ret => R (G l10 2) s11 | .exit i12 => (match Nat.beq i12 0 with | true => R (.int .i64 (-1)) s11 | false => False)
theorem vc_slices_Index_int_int_eq (w0 : World) (a0 a1 : Value) (σ : Vw) (R : Value → Vw → Prop) : vc_slices_Index_int_int w0 a0 a1 σ R = den Tryd.prog w0 kp_slices_Index_int_int esc_slices_Index_int_int (Tryd.f44.body.getD .skip) (entry Tryd.f44.ntmps [a0, a1]) σ (retK Tryd.prog Tryd.f44.results.toList R) := by kernel_rfl
theorem ac_slices_Index_int_int {w0 : World} {a0 a1 : Value} {σ : Vw} {R : Value → Vw → Prop} (h : vc_slices_Index_int_int w0 a0 a1 σ R) : AC Tryd.prog w0 n_slices_Index_int_int [a0, a1] σ R := by
  refine ac_rule (fn := Tryd.f44) (c := Tryd.f44.body.getD .skip) kp_slices_Index_int_int esc_slices_Index_int_int Tryd.func44 (by kernel_rfl) (by kernel_rfl) ?_
  rw [← vc_slices_Index_int_int_eq]
  exact h

end Go.Proofs.YtkbhjejalkbogaaDoor

/- What each function owes, reckoned out, part 2. MADE BY PROGRAM (emit.py). -/
set_option linter.unusedVariables false
namespace Go.Proofs.YtkbhjejalkbogaaDoor
open Go Go.Av

end Go.Proofs.YtkbhjejalkbogaaDoor

/- What each function owes: all parts. MADE BY PROGRAM (emit.py). -/


/- The lists of texts: their size, their copy, their comparison. -/
set_option linter.unusedVariables false
set_option linter.unusedSimpArgs false
namespace Go.Proofs.YtkbhjejalkbogaaDoor
open Go Go.Av

section
variable {w0 : World} {σ : Vw}

/-- What is left of n. -/
def left (n : Int) (t : Nat) : Int := if n - t < 0 then -1 else n - t

end
end Go.Proofs.YtkbhjejalkbogaaDoor

/- The lists of texts: their copy, their comparison. -/
set_option linter.unusedVariables false
set_option linter.unusedSimpArgs false
namespace Go.Proofs.YtkbhjejalkbogaaDoor
open Go Go.Av

section
variable {w0 : World} {σ : Vw}


end
end Go.Proofs.YtkbhjejalkbogaaDoor

/- The lists of texts in rows of their own; marks (a path and a bool) and their lists: size, copy, comparison. -/
set_option linter.unusedVariables false
set_option linter.unusedSimpArgs false
namespace Go.Proofs.YtkbhjejalkbogaaDoor
open Go Go.Av

section
variable {w0 : World} {σ : Vw}

theorem OSl.one' {α : Type} {n : Nat} {O : Vw → List Nat → List Value → α → Prop} {F : List Nat} {v : Value} {xs : List α} (h : OSl w0 n O σ F v xs) : v.oneCell' = true := by
  obtain ⟨_, _, ⟨rfl, _⟩ | ⟨_, _, _, _, _, _, _, _, rfl, _⟩⟩ := h <;> rfl

end
end Go.Proofs.YtkbhjejalkbogaaDoor

/- Names: their letters and their length. -/
set_option linter.unusedVariables false
set_option linter.unusedSimpArgs false
namespace Go.Proofs.YtkbhjejalkbogaaDoor
open Go Go.Av

theorem pIndexStr_s {s : ByteArray} {j : Nat} {K : Value → Prop} (h : j < s.size) (hK : K (.int .u8 ((s[j]'h).toNat : Int))) : pIndexStr (.string s) (.int .i64 j) K :=
  ⟨s, .i64, j, rfl, rfl, by omega, h, hK⟩

def okB (n : Nat) : Prop := (97 ≤ n ∧ n ≤ 122) ∨ (48 ≤ n ∧ n ≤ 57)
/-- Within two bounds. -/
def inB (n lo hi : Int) : Bool := decide (lo ≤ n ∧ n ≤ hi)
def lettersOk (s : ByteArray) : Prop := ∀ (i : Nat) (h : i < s.size), okB (s[i]'h).toNat
open Classical in
noncomputable def nameOk (s : ByteArray) : Bool := decide (lettersOk s) && inB s.size 1 5

section
variable {w0 : World} {σ : Vw}

theorem spec_In {n lo hi : Int} {R : Value → Vw → Prop} (hR : R (.bool (inB n lo hi)) σ) : AC Tryd.prog w0 n_spec_l1In [.int .i64 n, .int .i64 lo, .int .i64 hi] σ R := by
  refine ac_spec_l1In ?_
  unfold vc_spec_l1In
  rw [pBin_ge, pIf_d]
  refine ⟨fun h => ?_, fun h => ?_⟩
  · rw [pBin_le]
    have : inB n lo hi = decide (n ≤ hi) := by simp [inB, h]
    rw [this] at hR; exact hR
  · have : inB n lo hi = false := by simp [inB, h]
    rw [this] at hR; exact hR
theorem impl_within {n lo hi : Int} {R : Value → Vw → Prop} (hR : R (.bool (inB n lo hi)) σ) : AC Tryd.prog w0 n_impl_within [.int .i64 n, .int .i64 lo, .int .i64 hi] σ R := by
  refine ac_impl_within ?_
  unfold vc_impl_within
  rw [pBin_ge, pIf_d]
  refine ⟨fun h => ?_, fun h => ?_⟩
  · rw [pBin_le]
    have : inB n lo hi = decide (n ≤ hi) := by simp [inB, h]
    rw [this] at hR; exact hR
  · have : inB n lo hi = false := by simp [inB, h]
    rw [this] at hR; exact hR

theorem nameOk_bad {s : ByteArray} {j : Nat} (h : j < s.size) (hb : ¬ okB (s[j]'h).toNat) : nameOk s = false := by
  have : ¬ lettersOk s := fun h' => hb (h' j h)
  simp [nameOk, this]
theorem nameOk_good {s : ByteArray} (h : lettersOk s) : nameOk s = inB s.size 1 5 := by simp [nameOk, h]

theorem spec_nameOk {s : ByteArray} (hs : s.size ≤ 9223372036854775807) {R : Value → Vw → Prop} (hR : R (.bool (nameOk s)) σ) : AC Tryd.prog w0 n_spec_l1NameOk [.string s] σ R := by
  refine ac_spec_l1NameOk ?_
  unfold vc_spec_l1NameOk cs_spec_l1NameOk_1
  refine loop_rule (m := s.size) (fun m l t => ∃ j, t = σ ∧ m + j = s.size ∧ (∀ (i : Nat) (h : i < s.size), i < j → okB (s[i]'h).toNat) ∧ l = [.string s, .bool false, .int .i64 (j : Nat)]) ?_ ⟨0, rfl, by omega, fun i h h' => by omega, rfl⟩
  rintro m l t L ⟨j, rfl, hm, ht, rfl⟩ hL
  simp only [vget, List.getD_cons_zero, List.getD_cons_succ]
  rw [pLenS_s, pBin_lt, pIf_d]
  refine ⟨fun hj => ?_, fun hj => ?_⟩
  · have hj' : j < s.size := by omega
    have bad : ¬ okB (s[j]'hj').toNat → R (.bool false) t := fun h => by rw [nameOk_bad hj' h] at hR; exact hR
    have good : okB (s[j]'hj').toNat → L [.string s, .bool false, .int .i64 ((j + 1 : Nat) : Int)] t := fun h => hL _ _ (m - 1) (by omega) ⟨j + 1, rfl, by omega, fun i hi hij => by
      by_cases e : i = j
      · subst e; exact h
      · exact ht i hi (by omega), rfl⟩
    have add : ∀ K : Value → Prop, pBin Tryd.prog 3 .add (.int .i64 j) (.int .i64 1) K ↔ K (.int .i64 ((j + 1 : Nat) : Int)) := fun K => pBin_add (by omega)
    have idx : ∀ K : Value → Prop, K (.int .u8 ((s[j]'hj').toNat : Int)) → pIndexStr (.string s) (.int .i64 j) K := fun K hK => pIndexStr_s hj' hK
    simp only [add, pUn_not, pIf_b, Bool.not_true, Bool.not_false, forall_const, Bool.false_eq_true, false_imp_iff, true_imp_iff, true_and, and_true, reduceCtorEq]
    refine idx _ ?_
    rw [pBin_ge, pIf_d]
    refine ⟨fun h1 => idx _ ?_, fun h1 => idx _ ?_⟩
    · rw [pBin_le, pIf_d]
      refine ⟨fun h2 => good (.inl ⟨by omega, by omega⟩), fun h2 => idx _ ?_⟩
      rw [pBin_ge, pIf_d]
      refine ⟨fun h3 => idx _ ?_, fun h3 => bad fun h => by unfold okB at h; omega⟩
      rw [pBin_le, pUn_not, pIf_b]
      refine ⟨fun h4 => bad fun h => ?_, fun h4 => good ?_⟩
      · unfold okB at h; simp at h4; omega
      · simp at h4; exact .inr ⟨by omega, by omega⟩
    · rw [pBin_ge, pIf_d]
      refine ⟨fun h3 => idx _ ?_, fun h3 => bad fun h => by unfold okB at h; omega⟩
      rw [pBin_le, pUn_not, pIf_b]
      refine ⟨fun h4 => bad fun h => ?_, fun h4 => good ?_⟩
      · unfold okB at h; simp at h4; omega
      · simp at h4; exact .inr ⟨by omega, by omega⟩
  · have hj' : j = s.size := by omega
    subst hj'
    show pLenS (.string s) _
    rw [pLenS_s]
    refine spec_In ?_
    rw [nameOk_good fun i h => ht i h h] at hR
    exact hR

theorem impl_nameOk {s : ByteArray} (hs : s.size ≤ 9223372036854775807) {R : Value → Vw → Prop} (hR : R (.bool (nameOk s)) σ) : AC Tryd.prog w0 n_impl_nameOk [.string s] σ R := by
  refine ac_impl_nameOk ?_
  unfold vc_impl_nameOk
  rw [pLenS_s]
  refine loop_rule (m := s.size) (fun m l t => ∃ j, t = σ ∧ m + j = s.size ∧ (∀ (i : Nat) (h : i < s.size), i < j → okB (s[i]'h).toNat) ∧ l = [.string s, .bool false, .int .i64 s.size, .int .i64 (j : Nat)]) ?_ ⟨0, rfl, by omega, fun i h h' => by omega, rfl⟩
  rintro m l t L ⟨j, rfl, hm, ht, rfl⟩ hL
  simp only [vget, List.getD_cons_zero, List.getD_cons_succ]
  rw [pBin_lt, pIf_d]
  refine ⟨fun hj => ?_, fun hj => ?_⟩
  · have hj' : j < s.size := by omega
    have bad : ¬ okB (s[j]'hj').toNat → R (.bool false) t := fun h => by rw [nameOk_bad hj' h] at hR; exact hR
    have good : okB (s[j]'hj').toNat → L [.string s, .bool false, .int .i64 s.size, .int .i64 ((j + 1 : Nat) : Int)] t := fun h => hL _ _ (m - 1) (by omega) ⟨j + 1, rfl, by omega, fun i hi hij => by
      by_cases e : i = j
      · subst e; exact h
      · exact ht i hi (by omega), rfl⟩
    have add : ∀ K : Value → Prop, pBin Tryd.prog 3 .add (.int .i64 j) (.int .i64 1) K ↔ K (.int .i64 ((j + 1 : Nat) : Int)) := fun K => pBin_add (by omega)
    have idx : ∀ K : Value → Prop, K (.int .u8 ((s[j]'hj').toNat : Int)) → pIndexStr (.string s) (.int .i64 j) K := fun K hK => pIndexStr_s hj' hK
    simp only [add]
    refine idx _ ?_
    rw [pBin_lt, pIf_d]
    refine ⟨fun h1 => idx _ ?_, fun h1 => idx _ ?_⟩
    · rw [pBin_lt, pIf_d]
      refine ⟨fun h2 => bad fun h => by unfold okB at h; omega, fun h2 => idx _ ?_⟩
      rw [pBin_gt, pIf_d]
      exact ⟨fun h3 => bad fun h => by unfold okB at h; omega, fun h3 => good (.inr ⟨by omega, by omega⟩)⟩
    · rw [pBin_gt, pIf_d]
      refine ⟨fun h2 => idx _ ?_, fun h2 => good (.inl ⟨by omega, by omega⟩)⟩
      rw [pBin_lt, pIf_d]
      refine ⟨fun h2 => bad fun h => by unfold okB at h; omega, fun h2 => idx _ ?_⟩
      rw [pBin_gt, pIf_d]
      exact ⟨fun h3 => bad fun h => by unfold okB at h; omega, fun h3 => good (.inr ⟨by omega, by omega⟩)⟩
  · have hj' : j = s.size := by omega
    subst hj'
    show pLenS (.string s) _
    rw [pLenS_s]
    refine impl_within ?_
    rw [nameOk_good fun i h => ht i h h] at hR
    exact hR
end
end Go.Proofs.YtkbhjejalkbogaaDoor

/- Lists in rows of our own, written element by element: the focus on one element, and the loops that mark and that look at marks. -/
set_option linter.unusedVariables false
set_option linter.unusedSimpArgs false
namespace Go.Av
open Go Go.RowKit

/-- Every row but those of F stays as it is. -/
def KeepsBut (F : List Nat) (σ σ' : Vw) : Prop := ∀ b r, σ b = some r → b ∉ F → σ' b = some r
theorem KeepsBut.refl (F : List Nat) (σ : Vw) : KeepsBut F σ σ := fun _ _ h _ => h
theorem Keeps.but {F : List Nat} {σ σ' : Vw} (h : Keeps σ σ') : KeepsBut F σ σ' := fun b r hb _ => h b r hb
theorem KeepsBut.trans {F : List Nat} {σ σ' σ'' : Vw} (h : KeepsBut F σ σ') (h' : KeepsBut F σ' σ'') : KeepsBut F σ σ'' := fun b r hb hF => h' b r (h b r hb hF) hF
/-- What is older than F stays. -/
theorem KeepsBut.old {F : List Nat} {σ0 σ σ' : Vw} (h : KeepsBut F σ σ') (h0 : Keeps σ0 σ) (hF : ∀ b, b ∈ F → σ0 b = none) : Keeps σ0 σ' := fun b r hb => h b r (h0 b r hb) fun hb' => by rw [hF b hb'] at hb; cases hb
theorem KeepsBut.at {F G : List Nat} {σ σ' : Vw} (h : KeepsBut F σ σ') (hG : ∀ b, b ∈ G → σ b ≠ none) (hd : ∀ b, b ∈ G → b ∉ F) : ∀ b, b ∈ G → σ' b = σ b := fun b hb => by
  cases hs : σ b with
  | none => exact absurd hs (hG b hb)
  | some r => exact h b r hs (hd b hb)
theorem KeepsBut.put {F : List Nat} {σ : Vw} {b : Nat} {r : Row} (hb : b ∈ F) : KeepsBut F σ (σ.put b r) := fun i x hi hF => by
  have : i ≠ b := fun e => hF (e ▸ hb)
  simp [Vw.put, this, hi]

section
variable {P : Program} {w0 : World} {σ σ' : Vw} {α : Type}

theorem nodup_at {l : List (List Nat)} {i j : Nat} {f g : List Nat} (h : l.flatten.Nodup) (hi : l[i]? = some f) (hj : l[j]? = some g) (hij : i ≠ j) : ∀ b, b ∈ f → b ∉ g := by
  induction l generalizing i j with
  | nil => simp at hi
  | cons a r ih =>
    rw [List.flatten_cons, List.nodup_append] at h
    intro b hb hb'
    cases i with
    | zero =>
      cases j with
      | zero => exact hij rfl
      | succ j =>
        simp at hi hj
        subst hi
        exact h.2.2 b hb b (List.mem_flatten.2 ⟨g, List.mem_of_getElem? hj, hb'⟩) rfl
    | succ i =>
      cases j with
      | zero =>
        simp at hi hj
        subst hj
        exact h.2.2 b hb' b (List.mem_flatten.2 ⟨f, List.mem_of_getElem? hi, hb⟩) rfl
      | succ j =>
        simp at hi hj
        exact ih h.2.1 hi hj (fun e => hij (by rw [e])) b hb hb'

theorem split_at {l : List (List Value)} {j : Nat} {c : List Value} (hj : l[j]? = some c) : l.flatten = (l.take j).flatten ++ (c ++ (l.drop (j + 1)).flatten) := by
  have hlt := (List.getElem?_eq_some_iff.1 hj).1
  have e : l = l.take j ++ (c :: l.drop (j + 1)) := by
    have := List.take_append_drop j l
    rw [List.drop_eq_getElem_cons hlt] at this
    have hc : l[j] = c := (List.getElem?_eq_some_iff.1 hj).2
    rw [hc] at this
    exact this.symm
  calc l.flatten = (l.take j ++ (c :: l.drop (j + 1))).flatten := by rw [← e]
    _ = _ := by rw [List.flatten_append, List.flatten_cons]

/-- One element of a list of our own, and how the list is put together again behind a change of it. -/
theorem OSl.focus {n : Nat} {Rel : (Addr → Option Value) → List Value → α → Prop} {O : Vw → List Nat → List Value → α → Prop} (ok : OOk w0 n Rel O) {F : List Nat} {v : Value} {xs : List α} (h : OSl w0 n O σ F v xs) {j : Nat} {x : α} (hj : xs[j]? = some x) :
    ∃ (b o : Nat) (f : List Nat) (c A C : List Value) (r : Row), (∀ K : Value → Prop, K (.pointer (some ⟨b, o, none⟩)) → pIndexAddr n v (.int .i64 j) K) ∧ w0.heap.size ≤ b ∧ σ b = some r ∧ r.cells = A ++ (c ++ C) ∧ A.length = o ∧ O σ f c x ∧ b ∈ F ∧ (∀ i, i ∈ f → i ∈ F ∧ i ≠ b) ∧
      ∀ (σ' : Vw) (c' : List Value) (x' : α) (r' : Row), σ' b = some r' → r'.cells = A ++ (c' ++ C) → O σ' f c' x' → (∀ i, i ∈ F → i ≠ b → i ∉ f → σ' i = σ i) → OSl w0 n O σ' F v (xs.set j x') := by
  obtain ⟨h1, h2, ⟨rfl, rfl, _⟩ | ⟨b, off, cap, r, pre, post, css, Fs, rfl, gc, g2, g3, g4, g5, g6, g7, g8, g9⟩⟩ := h
  · simp at hj
  have hlt : j < xs.length := (List.getElem?_eq_some_iff.1 hj).1
  have hcj := List.getElem?_eq_getElem (show j < css.length by omega)
  have hfj := List.getElem?_eq_getElem (show j < Fs.length by omega)
  generalize hce : css[j]'(by omega) = c at hcj
  generalize hfe : Fs[j]'(by omega) = f at hfj
  have hO := g9 j c x f hcj hj hfj
  have hn : ∀ c, c ∈ css → c.length = n := fun c hc => by
    obtain ⟨i, hi⟩ := List.getElem?_of_mem hc
    have hil : i < css.length := (List.getElem?_eq_some_iff.1 hi).1
    exact ok.len _ _ _ _ (g9 i c _ _ hi (List.getElem?_eq_getElem (by omega)) (List.getElem?_eq_getElem (by omega)))
  have hA : (pre ++ (css.take j).flatten).length = off + j * n := by
    rw [List.length_append, g5, flat_len _ fun c hc => hn c (List.mem_of_mem_take hc), List.length_take]
    congr 2; omega
  rw [g8] at h2
  have hbf : b ∉ f := fun hb => (List.nodup_cons.1 h2).1 (List.mem_flatten.2 ⟨f, List.mem_of_getElem? hfj, hb⟩)
  refine ⟨b, off + j * n, f, c, pre ++ (css.take j).flatten, (css.drop (j + 1)).flatten ++ post, r, fun K hK => ?_, g2, g3, ?_, hA, hO, by rw [g8]; exact List.mem_cons_self, fun i hi => ⟨?_, fun e => hbf (e ▸ hi)⟩, ?_⟩
  · refine ⟨⟨b, off, none⟩, xs.length, cap, .i64, j, rfl, rfl, by omega, by omega, ?_⟩
    rw [addr_add]; exact hK
  · rw [g4, split_at hcj]; simp only [List.append_assoc]
  · rw [g8]; exact List.mem_cons_of_mem _ (List.mem_flatten.2 ⟨f, List.mem_of_getElem? hfj, hi⟩)
  · intro σ' c' x' r' hr' hcells hO' hrest
    have hlen' := ok.len _ _ _ _ hO'
    refine ⟨by rw [List.length_set]; exact h1, by rw [g8]; exact h2, .inr ⟨b, off, cap, r', pre, post, css.set j c', Fs, by rw [List.length_set], by rw [List.length_set]; exact gc, g2, hr', ?_, g5, by rw [List.length_set, List.length_set]; exact g6, by rw [List.length_set]; exact g7, g8, ?_⟩⟩
    · have hcj' : (css.set j c')[j]? = some c' := List.getElem?_set_self (by omega)
      rw [hcells, split_at hcj', List.take_set_of_le (Nat.le_refl j), List.drop_set_of_lt (by omega)]
      simp only [List.append_assoc]
    · intro i ci y fi e1 e2 e3
      by_cases hij : j = i
      · subst hij
        rw [List.getElem?_set_self (by omega)] at e1 e2
        cases e1; cases e2
        rw [hfj] at e3; cases e3
        exact hO'
      · rw [List.getElem?_set_ne hij] at e1 e2
        refine ok.frame _ _ _ _ _ (g9 i ci y fi e1 e2 e3) fun k hk => ?_
        have hkF : k ∈ Fs.flatten := List.mem_flatten.2 ⟨fi, List.mem_of_getElem? e3, hk⟩
        exact hrest k (by rw [g8]; exact List.mem_cons_of_mem _ hkF) (fun e => (List.nodup_cons.1 h2).1 (e ▸ hkF)) (nodup_at (List.nodup_cons.1 h2).2 e3 hfj (fun e => hij e.symm) k hk)

theorem elem_store {b o : Nat} {r : Row} {A C : List Value} {x y : Value} {K : Vw → Prop} (hr : σ b = some r) (hc : r.cells = A ++ ([x] ++ C)) (hA : A.length = o) (hy : y.oneCell' = true)
    (hK : K (σ.put b { r with cells := A ++ ([y] ++ C) })) : pVal false 1 y (pStore (.pointer (some ⟨b, o, none⟩)) [y] σ K) := by
  rw [pVal1 hy]
  refine ⟨b, o, r, rfl, hr, ?_, ?_⟩
  · rw [hc]; simp only [List.length_append, List.length_singleton]; omega
  · have e : setAt r.cells o [y] = A ++ ([y] ++ C) := by
      simp only [setAt]
      rw [hc, List.set_append_right _ _ (by omega), hA, Nat.sub_self]; rfl
    rw [e]; exact hK
/-! ### Marks -/
end
end Go.Av

/- The plain side, part 3: what the statement's reading of an argument says of the cells. -/
set_option linter.unusedVariables false
set_option linter.unusedSimpArgs false
namespace Go.Av
open Go Go.RowKit

def σ0 : Vw := fun _ => none

section
variable {H : Type} {enc : TypeId × Value → H} {P : Program} {W : World} {fuel : Nat} {cs : List Value} {x : DataW H × List MemPlace}

theorem sat0 (W : World) : Sat W σ0 W := ⟨Below.refl _ _, fun b r h => by cases h⟩

theorem get0 {a : Addr} {v : Value} (h : W.cell? a = some v) {σ : Vw} : Av.get W σ a = some v := by
  have hlt : a.block < W.heap.size := by
    rcases Nat.lt_or_ge a.block W.heap.size with h1 | h1
    · exact h1
    · have : W.heap[a.block]? = none := Array.getElem?_eq_none h1
      unfold World.cell? at h
      simp [this] at h
  unfold Av.get
  rw [if_pos hlt]; exact h

theorem listOf {α : Type} (p : Nat → α → Prop) : ∀ (n : Nat), (∀ i, i < n → ∃ x, p i x) → ∃ xs : List α, xs.length = n ∧ ∀ (j : Nat) (x : α), xs[j]? = some x → p j x
  | 0, _ => ⟨[], rfl, fun j x h => by simp at h⟩
  | n + 1, h => by
    obtain ⟨xs, hl, hx⟩ := listOf p n (fun i hi => h i (by omega))
    obtain ⟨y, hy⟩ := h n (by omega)
    refine ⟨xs ++ [y], by simp [hl], fun j x hj => ?_⟩
    by_cases e : j < xs.length
    · rw [List.getElem?_append_left e] at hj; exact hx j x hj
    · rw [List.getElem?_append_right (by omega)] at hj
      have : j - xs.length = 0 := by
        rcases Nat.eq_zero_or_pos (j - xs.length) with h0 | h0
        · exact h0
        · rw [List.getElem?_eq_none (by simp; omega)] at hj; cases hj
      rw [this] at hj
      simp at hj
      subst hj
      have : j = n := by omega
      subst this; exact hy

/-- A slice is opened, its elements by a rule of their own. -/
theorem open_rsl {α : Type} {t e n : Nat} {R : (Addr → Option Value) → List Value → α → Prop} {spare : Nat → Bool} (ht : P.underlying t = some (.slice e)) (hc : P.cellsOf e = n)
    (hR : ∀ (fuel : Nat) (es : List Value) (y : DataW H × List MemPlace), DataW.trod enc P W 0 spare true fuel e es = some y → es.length = n → ∃ x, R (Av.get W σ0) es x) (h : DataW.trod enc P W 0 spare true fuel t cs = some x) : ∃ v xs, cs = [v] ∧ RSl n R (Av.get W σ0) v xs := by
  rcases DataW.trod_slice ht h with ⟨rfl, _⟩ | ⟨a, len, cap, elems, rest, m, _, rfl, _, hb, hl, hm, hlen, hel, _, _⟩
  · exact ⟨_, [], rfl, none, 0, rfl, by simp, fun j x hj => by simp at hj⟩
  · have each : ∀ i, i < len → ∃ x : α, ∃ es : List Value, es.length = n ∧ (∀ k, k < n → Av.get W σ0 (a.add (i * n + k)) = es[k]?) ∧ R (Av.get W σ0) es x := by
      intro i hi
      have h1 := hel i hi
      rw [hc, List.getElem?_eq_getElem (by omega), Option.bind_eq_some_iff] at h1
      obtain ⟨es, h2, h3⟩ := h1
      obtain ⟨_, hes, hcell⟩ := World.cells?_some h2
      obtain ⟨x, hx⟩ := hR m es _ h3 hes
      refine ⟨x, es, hes, fun k hk => ?_, hx⟩
      have := hcell k hk
      rw [add_add] at this
      have hlt : k < es.length := by omega
      rw [List.getElem?_eq_getElem hlt] at this ⊢
      exact get0 this
    obtain ⟨xs, hxl, hxs⟩ := listOf _ len each
    have hmax : cap ≤ 9223372036854775807 := by have : maxLen = 9223372036854775807 := by decide
                                                omega
    refine ⟨_, xs, rfl, some a, cap, by rw [hxl], ⟨by omega, hmax⟩, fun j x hj => ?_⟩
    obtain ⟨es, g1, g2, g3⟩ := hxs j x hj
    exact ⟨a, es, rfl, g1, g2, g3⟩

def fsOf (P : Program) (t : Nat) : Array Field := match P.underlying t with | some (.struct fs) => fs | _ => #[]

/-- From the functions to the statement. -/
theorem AC.calls {f : FuncId} {args : List Value} {R : Value → Vw → Prop} (h : AC P W f args σ0 R) : Calls P f args.toArray W fun e W' => ∃ v σ', e = .returned v ∧ R v σ' ∧ Below W.heap.size W W' :=
  (h.2 W (sat0 W)).mono fun e W' ⟨v, σ', h1, h2, h3⟩ => ⟨v, σ', h1, h2, h3.sat.bel⟩
end
end Go.Av

/- The plain side, part 4: what the statement's reading of an argument says, with the fuel told; numbers, bools, texts. -/
set_option linter.unusedVariables false
set_option linter.unusedSimpArgs false
namespace Go.Av
open Go Go.RowKit

section
variable {H : Type} {enc : TypeId × Value → H} {P : Program} {W : World} {fuel : Nat} {cs : List Value} {x : DataW H × List MemPlace}

theorem open_field' {t : Nat} {spare : Nat → Bool} (ht : P.underlying t = some (.struct (fsOf P t))) (i ft off n : Nat) (hf : (fsOf P t)[i]?.map (fun f => (f.type, f.offset)) = some (ft, off)) (hn : P.cellsOf ft = n) (h : DataW.trod enc P W 0 spare true fuel t cs = some x) :
    ∃ (fuel' : Nat) (y : DataW H × List MemPlace), fuel' < fuel ∧ DataW.trod enc P W 0 spare true fuel' ft ((cs.drop off).take n) = some y := by
  obtain ⟨xs, m, hm, _, _, hl, hall⟩ := DataW.trod_struct ht h
  cases hc : (fsOf P t)[i]? with
  | none => rw [hc] at hf; cases hf
  | some f =>
    rw [hc] at hf
    simp only [Option.map_some, Option.some.injEq, Prod.mk.injEq] at hf
    obtain ⟨rfl, rfl⟩ := hf
    have h1 := hall i f hc
    have hlt : i < xs.length := by rw [hl]; exact (Array.getElem?_eq_some_iff.1 hc).1
    rw [List.getElem?_eq_getElem hlt, hn] at h1
    exact ⟨m, _, by omega, h1⟩

theorem open_int {t : Nat} {spare : Nat → Bool} (ht : P.underlying t = some (.int .i64)) (h : DataW.trod enc P W 0 spare true fuel t cs = some x) : ∃ n : Int, cs = [.int .i64 n] ∧ -9223372036854775808 ≤ n ∧ n ≤ 9223372036854775807 := by
  obtain ⟨n, rfl, _, hw⟩ := DataW.trod_int ht h
  refine ⟨n, rfl, ?_⟩
  have e1 : IntKind.i64.min = -9223372036854775808 := by decide
  have e2 : IntKind.i64.max = 9223372036854775807 := by decide
  simp only [Lit.wf, Bool.and_eq_true, decide_eq_true_eq, e1, e2] at hw
  exact ⟨hw.1, hw.2⟩
theorem open_str {t : Nat} {spare : Nat → Bool} (ht : P.underlying t = some .string) (h : DataW.trod enc P W 0 spare true fuel t cs = some x) : ∃ s : ByteArray, cs = [.string s] ∧ s.size ≤ 9223372036854775807 := by
  obtain ⟨s, rfl, _, hm⟩ := DataW.trod_string ht h
  exact ⟨s, rfl, by have : maxLen = 9223372036854775807 := by decide
                    omega⟩
theorem open_bool {t : Nat} {spare : Nat → Bool} (ht : P.underlying t = some .bool) (h : DataW.trod enc P W 0 spare true fuel t cs = some x) : ∃ b : Bool, cs = [.bool b] := by
  obtain ⟨b, rfl, _⟩ := DataW.trod_bool ht h
  exact ⟨b, rfl⟩
end
end Go.Av

/- The plain side, part 5: more operations at known values. -/
set_option linter.unusedVariables false
set_option linter.unusedSimpArgs false
namespace Go.Av
open Go Go.RowKit IntWalk

section
variable {P : Program} {w0 : World} {σ σ' : Vw}
theorem pConv_s {k k' : IntKind} {n : Int} {K : Value → Prop} : pConvInt k (.int k' n) K ↔ K (.int k (k.wrap n)) :=
  ⟨fun ⟨_, _, h, hK⟩ => by cases h; exact hK, fun h => ⟨_, _, rfl, h⟩⟩
theorem pConv_u8 {k' : IntKind} {n : Int} {K : Value → Prop} (h : 0 ≤ n ∧ n ≤ 255) : pConvInt .u8 (.int k' n) K ↔ K (.int .u8 n) := by rw [pConv_s, u8_in n h]
theorem pBin_rem {T : Nat} {k : IntKind} {a b : Int} {K : Value → Prop} (h : 0 ≤ a ∧ 0 < b) : pBin P T .rem (.int k a) (.int k b) K ↔ K (.int k (a % b)) :=
  pBin_i (by simp only [aint]; rw [if_neg (by omega), Int.tmod_eq_emod_of_nonneg h.1])
theorem pBin_quo {T : Nat} {a b : Int} {K : Value → Prop} (h : 0 ≤ a ∧ a ≤ 9223372036854775807 ∧ 0 < b) : pBin P T .quo (.int .i64 a) (.int .i64 b) K ↔ K (.int .i64 (a / b)) :=
  pBin_i (by simp only [aint]; rw [if_neg (by omega), i64_quo a b (by omega)])
theorem pBin_cat {T : Nat} {a b : ByteArray} {K : Value → Prop} (h : a.size + b.size ≤ 9223372036854775807) : pBin P T .add (.string a) (.string b) K ↔ K (.string (a ++ b)) :=
  pBin_s (by
    have e : IntKind.i64.max = 9223372036854775807 := by decide
    simp only [astr, e]
    rw [if_neg (by omega)])
theorem pMin_s {k : IntKind} {a b : Int} {K : Value → Prop} : pMin (.int k a) (.int k b) K ↔ K (.int k (min a b)) := by
  have e : (if b < a then b else a) = min a b := by split <;> omega
  exact ⟨fun ⟨_, _, _, h1, h2, hK⟩ => by cases h1; cases h2; rw [e] at hK; exact hK, fun hK => ⟨_, _, _, rfl, rfl, by rw [e]; exact hK⟩⟩
theorem pExtract_s {vs : List Value} {i : Nat} {v : Value} {K : Value → Prop} (h : vs[i]? = some v) : pExtract (.tuple ⟨vs⟩) i K ↔ K v := by
  obtain ⟨hl, he⟩ := List.getElem?_eq_some_iff.1 h
  exact ⟨fun ⟨_, e, hl', hK⟩ => by cases e; rw [he] at hK; exact hK, fun hK => ⟨_, rfl, hl, by rw [he]; exact hK⟩⟩
theorem pIndexStr_s {s : ByteArray} {j : Nat} {K : Value → Prop} (h : j < s.size) (hK : K (.int .u8 ((s[j]'h).toNat : Int))) : pIndexStr (.string s) (.int .i64 j) K :=
  ⟨s, .i64, j, rfl, rfl, by omega, h, hK⟩
theorem pLoad_row {b o n : Nat} {r : Row} {A c C : List Value} {K : (Nat → Value) → Prop} (hb : w0.heap.size ≤ b) (hr : σ b = some r) (hc : r.cells = A ++ (c ++ C)) (hA : A.length = o) (hn : c.length = n)
    (hK : ∀ g : Nat → Value, expl g 0 n = c → K g) : pLoad w0 n (.pointer (some ⟨b, o, none⟩)) σ K := by
  refine ⟨_, fun i => c.getD i undef, rfl, fun j hj => ?_, hK _ ?_⟩
  · rw [addr_add, get_row hb hr, hc, List.getElem?_append_right (by omega), List.getElem?_append_left (by omega)]
    rw [show o + j - A.length = j by omega]
    simp only [List.getD_eq_getElem?_getD, List.getElem?_eq_getElem (show j < c.length by omega), Option.getD_some]
  · apply List.ext_getElem?
    intro i
    by_cases hi : i < n
    · rw [expl_get _ _ _ _ hi, Nat.zero_add, List.getD_eq_getElem?_getD, List.getElem?_eq_getElem (by omega)]; rfl
    · rw [List.getElem?_eq_none (by rw [length_expl]; omega), List.getElem?_eq_none (by omega)]
end
end Go.Av

/- Lists that grow by append, in a row of our own; elements that need no row; elements that are read in what is older. -/
set_option linter.unusedVariables false
set_option linter.unusedSimpArgs false
namespace Go.Av
open Go Go.RowKit

section
variable {P : Program} {w0 : World} {σ σ' : Vw} {α : Type}

/-! ### Elements that are read by a reader that is fixed -/
/-- What a rule of reading must keep. -/
structure ROk (n : Nat) (Rel : (Addr → Option Value) → List Value → α → Prop) : Prop where
  mono : ∀ rd rd' es x, Le rd rd' → Rel rd es x → Rel rd' es x
  len : ∀ rd es x, Rel rd es x → es.length = n
  one : ∀ rd es x, Rel rd es x → ∀ c, c ∈ es → c.oneCell' = true
/-! ### Elements that need no row -/
def RFl (enc : α → List Value) (good : α → Prop) (rd : Addr → Option Value) (es : List Value) (x : α) : Prop := es = enc x ∧ good x
def OFl (enc : α → List Value) (good : α → Prop) (σ : Vw) (F : List Nat) (es : List Value) (x : α) : Prop := F = [] ∧ es = enc x ∧ good x
theorem rok_fl {n : Nat} {enc : α → List Value} {good : α → Prop} (hl : ∀ x, (enc x).length = n) (ho : ∀ x c, c ∈ enc x → c.oneCell' = true) : ROk n (RFl enc good) :=
  ⟨fun _ _ _ _ _ h => h, fun _ _ x h => by rw [h.1]; exact hl x, fun _ _ x h => by rw [h.1]; exact ho x⟩
theorem ok_fl {n : Nat} {enc : α → List Value} {good : α → Prop} (hl : ∀ x, (enc x).length = n) (ho : ∀ x c, c ∈ enc x → c.oneCell' = true) (w0 : World) : OOk w0 n (RFl enc good) (OFl enc good) := by
  refine ⟨?_, ?_, ?_, ?_, ?_, ?_⟩
  · rintro σ F es x ⟨_, h⟩; exact h
  · rintro σ σ' F es x h _; exact h
  · rintro σ F es x ⟨rfl, _⟩ b hb; cases hb
  · rintro σ F es x ⟨rfl, _⟩; exact List.nodup_nil
  · rintro σ F es x ⟨_, h, _⟩; rw [h]; exact hl x
  · rintro σ F es x ⟨_, h, _⟩; rw [h]; exact ho x

/-! ### Growing lists -/
def OAcc (w0 : World) (ety n : Nat) (O : Vw → List Nat → List Value → α → Prop) (σ : Vw) (F : List Nat) (v : Value) (xs : List α) : Prop :=
  xs.length ≤ 9223372036854775807 ∧ F.Nodup ∧ ((v = .slice none 0 0 ∧ xs = [] ∧ F = []) ∨
  ∃ (b cap : Nat) (css : List (List Value)) (Fs : List (List Nat)), v = .slice (some ⟨b, 0, none⟩) xs.length cap ∧ (xs.length ≤ cap ∧ cap ≤ 9223372036854775807) ∧ w0.heap.size ≤ b ∧ σ b = some ⟨ety, css.flatten, cap * n, (0, 0)⟩ ∧
    css.length = xs.length ∧ Fs.length = xs.length ∧ F = b :: Fs.flatten ∧ ∀ (j : Nat) (c : List Value) (x : α) (f : List Nat), css[j]? = some c → xs[j]? = some x → Fs[j]? = some f → O σ f c x)

theorem OAcc.osl {ety n : Nat} {O : Vw → List Nat → List Value → α → Prop} {F : List Nat} {v : Value} {xs : List α} (h : OAcc w0 ety n O σ F v xs) : OSl w0 n O σ F v xs := by
  obtain ⟨h1, h2, h3 | ⟨b, cap, css, Fs, g1, g2, g3, g4, g5, g6, g7, g8⟩⟩ := h
  · exact ⟨h1, h2, .inl h3⟩
  · exact ⟨h1, h2, .inr ⟨b, 0, cap, _, [], [], css, Fs, g1, g2, g3, g4, by simp, rfl, g5, g6, g7, g8⟩⟩
theorem OAcc.nil {ety n : Nat} {O : Vw → List Nat → List Value → α → Prop} : OAcc w0 ety n O σ [] (.slice none 0 0) [] := ⟨by simp, by simp, .inl ⟨rfl, rfl, rfl⟩⟩
theorem OAcc.new {ety n b : Nat} {O : Vw → List Nat → List Value → α → Prop} (hb : w0.heap.size ≤ b) : OAcc w0 ety n O (σ.put b ⟨ety, [], 0, (0, 0)⟩) [b] (.slice (some ⟨b, 0, none⟩) 0 0) [] :=
  ⟨by simp, by simp, .inr ⟨b, 0, [], [], rfl, by simp, hb, by rw [put_at]; simp, rfl, rfl, rfl, fun j c x f h => by simp at h⟩⟩

theorem Keeps.but_at {F : List Nat} (h : Keeps σ σ') (hF : ∀ b, b ∈ F → σ b ≠ none) : ∀ b, b ∈ F → σ' b = σ b := fun b hb => by
  cases hs : σ b with
  | none => exact absurd hs (hF b hb)
  | some r => exact h b r hs

/-- Elements are appended, each with rows of its own. -/
theorem OAcc.pushX {ety n bytes m : Nat} {Rel : (Addr → Option Value) → List Value → α → Prop} {O : Vw → List Nat → List Value → α → Prop} (ok : OOk w0 n Rel O) {F : List Nat} {v : Value} {xs ys : List α} {nss : List (List Value)} {Gs : List (List Nat)} {new : List Value}
    (h : OAcc w0 ety n O σ F v xs) (hm : ys.length = m) (hnl : nss.length = m) (hGl : Gs.length = m) (hnew : new = nss.flatten) (hO : ∀ (j : Nat) (c : List Value) (y : α) (g : List Nat), nss[j]? = some c → ys[j]? = some y → Gs[j]? = some g → O σ g c y)
    (hG : Gs.flatten.Nodup) (hGF : ∀ i, i ∈ Gs.flatten → i ∉ F) (hlen : xs.length + m ≤ 1000000000000) (hbytes : bytes ≤ 140) {K : Value → Vw → Prop}
    (hK : ∀ v' F' σ', Ext σ σ' → KeepsBut F σ σ' → OAcc w0 ety n O σ' F' v' (xs ++ ys) → (∀ i, i ∈ F' → i ∈ F ∨ i ∈ Gs.flatten ∨ σ i = none) → K v' σ') : pAppend w0 ety n bytes v m new σ K := by
  have hb47 : (xs.length + m) * bytes ≤ 2 ^ 47 := by
    have h1 : (xs.length + m) * bytes ≤ 1000000000000 * 140 := Nat.mul_le_mul hlen hbytes
    have h2 : (2 : Nat) ^ 47 = 140737488355328 := by decide
    omega
  have hn2 : ∀ c, c ∈ nss → c.length = n := fun c hc => by
    obtain ⟨i, hi⟩ := List.getElem?_of_mem hc
    have hil : i < nss.length := (List.getElem?_eq_some_iff.1 hi).1
    exact ok.len _ _ _ _ (hO i c _ _ hi (List.getElem?_eq_getElem (by omega)) (List.getElem?_eq_getElem (by omega)))
  have hnewl : new.length = m * n := by rw [hnew, flat_len _ hn2, hnl]
  have hGdom : ∀ i, i ∈ Gs.flatten → σ i ≠ none := fun i hi => by
    obtain ⟨j, f, e1, e2⟩ := mem_flat hi
    have hj : j < Gs.length := (List.getElem?_eq_some_iff.1 e1).1
    exact (ok.dom _ _ _ _ (hO j _ _ f (List.getElem?_eq_getElem (by omega)) (List.getElem?_eq_getElem (by omega)) e1) i e2).2
  obtain ⟨h1, h2, ⟨rfl, rfl, rfl⟩ | ⟨b, cap, css, Fs, rfl, g2, g3, g4, g5, g6, g7, g8⟩⟩ := h
  · refine .inr (.inl ⟨0, [], ⟨by simp, .inl ⟨rfl, rfl⟩⟩, hnewl, by simpa using (by omega : m ≤ 9223372036854775807), by simpa using hb47, fun v' σ' hg => ?_⟩)
    rcases hg with ⟨rfl, rfl, _, h0, _⟩ | ⟨b', c', rfl, g1, g2, rfl, g3, g4⟩
    · have : m = 0 := by omega
      subst this
      have hy : ys = [] := List.length_eq_zero_iff.1 hm
      subst hy
      exact hK _ [] _ (Ext.refl _) (KeepsBut.refl _ _) (by simpa using OAcc.nil) (fun i hi => by cases hi)
    · have hb' : σ b' = none := by
        rcases g4 with h | ⟨n0, c0, h⟩
        · exact h
        · cases h
      have hbG : b' ∉ Gs.flatten := fun hi => hGdom b' hi hb'
      refine hK _ (b' :: Gs.flatten) _ (Keeps.put hb').ext (Keeps.put hb').but ?_ fun i hi => ?_
      · refine ⟨by simp; omega, List.nodup_cons.2 ⟨hbG, hG⟩, .inr ⟨b', c', nss, Gs, by simp [hm], by simp [hm]; omega, g3, by rw [put_at]; simp [hnew], by simp [hm, hnl], by simp [hm, hGl], rfl, fun j c x f e1 e2 e3 => ?_⟩⟩
        simp only [List.nil_append] at e2
        refine ok.frame _ _ _ _ _ (hO j c x f e1 e2 e3) fun i hi => ?_
        have : i ≠ b' := fun e => hbG (e ▸ List.mem_flatten.2 ⟨f, List.mem_of_getElem? e3, hi⟩)
        simp [Vw.put, this]
      · rcases List.mem_cons.1 hi with e | e
        · rw [e]; exact .inr (.inr hb')
        · exact .inr (.inl e)
  · have hn1 : ∀ c, c ∈ css → c.length = n := fun c hc => by
      obtain ⟨i, hi⟩ := List.getElem?_of_mem hc
      have hil : i < css.length := (List.getElem?_eq_some_iff.1 hi).1
      exact ok.len _ _ _ _ (g8 i c _ _ hi (List.getElem?_eq_getElem (by omega)) (List.getElem?_eq_getElem (by omega)))
    have g4' := g4
    rw [g7] at h2
    have hbFs : b ∉ Fs.flatten := (List.nodup_cons.1 h2).1
    have hbG : b ∉ Gs.flatten := fun hi => hGF b hi (by rw [g7]; exact List.mem_cons_self)
    have hFsdom : ∀ i, i ∈ Fs.flatten → σ i ≠ none := fun i hi => by
      obtain ⟨j, f, e1, e2⟩ := mem_flat hi
      have hj : j < Fs.length := (List.getElem?_eq_some_iff.1 e1).1
      exact (ok.dom _ _ _ _ (g8 j _ _ f (List.getElem?_eq_getElem (by omega)) (List.getElem?_eq_getElem (by omega)) e1) i e2).2
    refine .inr (.inl ⟨xs.length, css.flatten, ⟨by rw [flat_len _ hn1, g5], .inr ⟨b, cap, rfl, g4, g2.1, g2.2⟩⟩, hnewl, by omega, hb47, fun v' σ' hg => ?_⟩)
    rcases hg with ⟨rfl, rfl, h, _⟩ | ⟨b', c', rfl, k1, k2, rfl, k3, k4⟩
    · cases h
    · have hb' : b' ∉ Fs.flatten ∧ b' ∉ Gs.flatten ∧ (b' = b ∨ σ b' = none) := by
        rcases k4 with h | ⟨n0, c0, h⟩
        · exact ⟨fun hi => hFsdom b' hi h, fun hi => hGdom b' hi h, .inr h⟩
        · cases h; exact ⟨hbFs, hbG, .inl rfl⟩
      refine hK _ (b' :: (Fs ++ Gs).flatten) _ ?_ ?_ ?_ fun i hi => ?_
      · rcases hb'.2.2 with rfl | h
        · intro i r hi
          by_cases e : i = b'
          · subst e
            rw [g4'] at hi; cases hi
            exact ⟨_, put_at, List.prefix_append _ _⟩
          · exact ⟨r, by simp [Vw.put, e, hi], List.prefix_refl _⟩
        · exact (Keeps.put h).ext
      · rcases hb'.2.2 with rfl | h
        · exact KeepsBut.put (by rw [g7]; exact List.mem_cons_self)
        · exact (Keeps.put h).but
      · refine ⟨by simp; omega, ?_, .inr ⟨b', c', css ++ nss, Fs ++ Gs, by simp [hm], by simp [hm]; omega, k3, by rw [put_at, hnew]; simp, by simp [hm, hnl, g5], by simp [hm, hGl, g6], rfl, fun j c x f e1 e2 e3 => ?_⟩⟩
        · rw [List.flatten_append, List.nodup_cons]
          refine ⟨fun hi => ?_, List.nodup_append.2 ⟨(List.nodup_cons.1 h2).2, hG, fun a ha d hd e => hGF d hd (by rw [g7, ← e]; exact List.mem_cons_of_mem _ ha)⟩⟩
          rcases List.mem_append.1 hi with h | h
          · exact hb'.1 h
          · exact hb'.2.1 h
        · have hput : ∀ i, i ≠ b' → (σ.put b' ⟨ety, css.flatten ++ new, c' * n, (0, 0)⟩) i = σ i := fun i hi => by simp [Vw.put, hi]
          by_cases hj : j < xs.length
          · rw [List.getElem?_append_left (by omega)] at e1 e2 e3
            exact ok.frame _ _ _ _ _ (g8 j c x f e1 e2 e3) fun i hi => hput i fun e => hb'.1 (e ▸ List.mem_flatten.2 ⟨f, List.mem_of_getElem? e3, hi⟩)
          · rw [List.getElem?_append_right (by omega)] at e1 e2 e3
            rw [g5] at e1; rw [g6] at e3
            exact ok.frame _ _ _ _ _ (hO _ c x f e1 e2 e3) fun i hi => hput i fun e => hb'.2.1 (e ▸ List.mem_flatten.2 ⟨f, List.mem_of_getElem? e3, hi⟩)
      · rw [g7]
        rcases List.mem_cons.1 hi with e | e
        · rw [e]
          rcases hb'.2.2 with rfl | h
          · exact .inl List.mem_cons_self
          · exact .inr (.inr h)
        · rw [List.flatten_append] at e
          rcases List.mem_append.1 e with h | h
          · exact .inl (List.mem_cons_of_mem _ h)
          · exact .inr (.inl h)

/-- One element is appended. -/
theorem OAcc.oneX {ety n bytes : Nat} {Rel : (Addr → Option Value) → List Value → α → Prop} {O : Vw → List Nat → List Value → α → Prop} (ok : OOk w0 n Rel O) {F f : List Nat} {v : Value} {xs : List α} {y : α} {es : List Value}
    (h : OAcc w0 ety n O σ F v xs) (hy : O σ f es y) (hf : ∀ i, i ∈ f → i ∉ F) (hlen : xs.length + 1 ≤ 1000000000000) (hbytes : bytes ≤ 140) {K : Value → Vw → Prop}
    (hK : ∀ v' F' σ', Ext σ σ' → KeepsBut F σ σ' → OAcc w0 ety n O σ' F' v' (xs ++ [y]) → (∀ i, i ∈ F' → i ∈ F ∨ i ∈ f ∨ σ i = none) → K v' σ') : allOne es ∧ pAppend w0 ety n bytes v 1 es σ K := by
  refine ⟨ok.one _ _ _ _ hy, ?_⟩
  refine h.pushX ok (ys := [y]) (nss := [es]) (Gs := [f]) rfl rfl rfl (by simp) (fun j c z g e1 e2 e3 => ?_) (by simpa using ok.nodup _ _ _ _ hy) (by simpa using hf) hlen hbytes (by simpa using hK)
  cases j with
  | zero => simp at e1 e2 e3; subst e1 e2 e3; exact hy
  | succ j => simp at e1

theorem OAcc.one {ety n bytes : Nat} {Rel : (Addr → Option Value) → List Value → α → Prop} {O : Vw → List Nat → List Value → α → Prop} (ok : OOk w0 n Rel O) {F f : List Nat} {v : Value} {xs : List α} {y : α} {es : List Value}
    (h : OAcc w0 ety n O σ F v xs) (hy : O σ f es y) (hf : ∀ i, i ∈ f → i ∉ F) (hlen : xs.length + 1 ≤ 1000000000000) (hbytes : bytes ≤ 140) {K : Value → Vw → Prop}
    (hK : ∀ v' F' σ', KeepsBut F σ σ' → OAcc w0 ety n O σ' F' v' (xs ++ [y]) → (∀ i, i ∈ F' → i ∈ F ∨ i ∈ f ∨ σ i = none) → K v' σ') : allOne es ∧ pAppend w0 ety n bytes v 1 es σ K :=
  OAcc.oneX ok h hy hf hlen hbytes fun v' F' σ' _ => hK v' F' σ'
end
end Go.Av

/- A part of a list that is read; slices of texts. -/
set_option linter.unusedVariables false
set_option linter.unusedSimpArgs false
namespace Go.Av
open Go Go.RowKit

section
variable {P : Program} {w0 : World} {σ σ' : Vw} {α : Type}

theorem RSl.atfp {n : Nat} {R : (Addr → Option Value) → List Value → α → Prop} {v : Value} {xs : List α} (h : RSl n R (Av.get w0 σ) v xs) {j : Nat} {x : α} (hj : xs[j]? = some x) (o : Nat) (ho : o < n) {K : Value → (Nat → Value) → Prop} (hK : ∀ (q : Value) (es : List Value) (g : Nat → Value), R (Av.get w0 σ) es x → es[o]? = some (g 0) → K q g) :
    pIndexAddr n v (.int .i64 j) fun p => pField o p fun q => pLoad w0 1 q σ (K q) := by
  obtain ⟨A, cap, rfl, _, h3⟩ := h
  obtain ⟨a, es, rfl, h5, h6, h7⟩ := h3 j x hj
  have hlt : j < xs.length := (List.getElem?_eq_some_iff.1 hj).1
  refine ⟨a, xs.length, cap, .i64, j, rfl, rfl, by omega, by omega, a.add (j * n), rfl, (a.add (j * n)).add o, fun _ => es.getD o undef, rfl, fun i hi => ?_, hK _ es _ h7 ?_⟩
  · have e : i = 0 := by omega
    subst e
    have := h6 o ho
    rw [add_add, add_add, Nat.add_zero, this, List.getElem?_eq_getElem (by omega)]
    simp only [List.getD_eq_getElem?_getD, List.getElem?_eq_getElem (show o < es.length by omega), Option.getD_some]
  · simp only [List.getD_eq_getElem?_getD, List.getElem?_eq_getElem (show o < es.length by omega), Option.getD_some]

theorem RSl.atf {n : Nat} {R : (Addr → Option Value) → List Value → α → Prop} {v : Value} {xs : List α} (h : RSl n R (Av.get w0 σ) v xs) {j : Nat} {x : α} (hj : xs[j]? = some x) (o : Nat) (ho : o < n) {K : (Nat → Value) → Prop} (hK : ∀ (es : List Value) (g : Nat → Value), R (Av.get w0 σ) es x → es[o]? = some (g 0) → K g) :
    pIndexAddr n v (.int .i64 j) fun p => pField o p fun q => pLoad w0 1 q σ K :=
  h.atfp hj o ho fun q => hK

/-- A run of rounds over a list. -/
theorem foldl_take {β : Type} {f : β → α → β} {b : β} {xs : List α} {j : Nat} {x : α} (hj : xs[j]? = some x) : (xs.take (j + 1)).foldl f b = f ((xs.take j).foldl f b) x := by
  rw [List.take_add_one, hj, Option.toList_some, List.foldl_append]; rfl
end
end Go.Av

/- Marks of texts. -/
set_option linter.unusedVariables false
set_option linter.unusedSimpArgs false
namespace Go.Proofs.YtkbhjejalkbogaaDoor
open Go Go.Av

section
variable {w0 : World} {σ : Vw}

end
end Go.Proofs.YtkbhjejalkbogaaDoor

/- Pages: what is read of them; the chain of a text, by either reading. -/
set_option linter.unusedVariables false
set_option linter.unusedSimpArgs false
namespace Go.Proofs.YtkbhjejalkbogaaDoor
open Go Go.Av

structure Pg where
  used : Bool
  data : ByteArray
  next : Int
structure Pn where
  name : ByteArray
  first : Int
  size : Int
noncomputable instance : DecidableEq Pg := fun _ _ => Classical.propDecidable _
noncomputable instance : DecidableEq Pn := fun _ _ => Classical.propDecidable _
def rng (n : Int) : Prop := -9223372036854775808 ≤ n ∧ n ≤ 9223372036854775807
def encPg (x : Pg) : List Value := [.bool x.used, .string x.data, .int .i64 x.next]
def goodPg (x : Pg) : Prop := x.data.size ≤ 9223372036854775807 ∧ rng x.next
def encPn (x : Pn) : List Value := [.string x.name, .int .i64 x.first, .int .i64 x.size]
def goodPn (x : Pn) : Prop := x.name.size ≤ 9223372036854775807 ∧ rng x.first ∧ rng x.size
abbrev RPg := RFl encPg goodPg
abbrev OPg := OFl encPg goodPg
abbrev RPn := RFl encPn goodPn
abbrev OPn := OFl encPn goodPn
theorem ok_pg (w0 : World) : OOk w0 3 RPg OPg := ok_fl (n := 3) (enc := encPg) (good := goodPg) (fun _ => rfl) (fun x c h => by simp [encPg] at h; rcases h with rfl | rfl | rfl <;> rfl) w0
theorem rok_pn : ROk 3 RPn := rok_fl (n := 3) (enc := encPn) (good := goodPn) (fun _ => rfl) (fun x c h => by simp [encPn] at h; rcases h with rfl | rfl | rfl <;> rfl)
theorem ok_pn (w0 : World) : OOk w0 3 RPn OPn := ok_fl (n := 3) (enc := encPn) (good := goodPn) (fun _ => rfl) (fun x c h => by simp [encPn] at h; rcases h with rfl | rfl | rfl <;> rfl) w0
/-- Pages and names. -/
abbrev Pgs := List Pg × List Pn
def RPgs (rd : Addr → Option Value) (es : List Value) (x : Pgs) : Prop := ∃ u v, es = [u, v] ∧ RSl 3 RPg rd u x.1 ∧ RSl 3 RPn rd v x.2
def OPgs (w0 : World) (σ : Vw) (F : List Nat) (es : List Value) (x : Pgs) : Prop := ∃ u v F1 F2, es = [u, v] ∧ OSl w0 3 OPg σ F1 u x.1 ∧ OSl w0 3 OPn σ F2 v x.2 ∧ F = F1 ++ F2 ∧ F.Nodup
theorem mono_pgs {rd rd' : Addr → Option Value} {es : List Value} {x : Pgs} (hl : Le rd rd') (h : RPgs rd es x) : RPgs rd' es x := by
  obtain ⟨u, v, h1, h2, h3⟩ := h
  exact ⟨u, v, h1, h2.mono hl fun _ _ h => h, h3.mono hl fun _ _ h => h⟩
/-- Places. -/
def encN (n : Nat) : List Value := [.int .i64 n]
def goodN (n : Nat) : Prop := n ≤ 9223372036854775807
abbrev RN := RFl encN goodN
abbrev ON := OFl encN goodN
theorem ok_n (w0 : World) : OOk w0 1 RN ON := ok_fl (n := 1) (enc := encN) (good := goodN) (fun _ => rfl) (fun x c h => by simp [encN] at h; rw [h]; rfl) w0
/-- Bools. -/
def encB (b : Bool) : List Value := [.bool b]
abbrev RBo := RFl encB fun _ => True
abbrev OBo := OFl encB fun _ => True
theorem ok_bo (w0 : World) : OOk w0 1 RBo OBo := ok_fl (n := 1) (enc := encB) (good := fun _ => True) (fun _ => rfl) (fun x c h => by simp [encB] at h; rw [h]; rfl) w0

/-- A chain of pages from a place on, with so many bytes left; the last says what ends it. -/
def Ch (e : Int → Prop) (ps : List Pg) : List Nat → Int → Int → Prop
  | [], a, l => e a ∧ l = 0
  | i :: r, a, l => a = i ∧ 0 < l ∧ ∃ p, ps[i]? = some p ∧ p.used = true ∧ (p.data.size : Int) = min 40 l ∧ Ch e ps r p.next (l - min 40 l)
theorem Ch.uniq {e : Int → Prop} (he : ∀ a, e a → a < 0) {ps : List Pg} : ∀ {r s : List Nat} {a l : Int}, Ch e ps r a l → Ch e ps s a l → r = s
  | [], [], _, _, _, _ => rfl
  | [], i :: s, a, l, h, h' => by have := h.2; have := h'.2.1; omega
  | i :: r, [], a, l, h, h' => by have := h.2.1; have := h'.2; omega
  | i :: r, j :: s, a, l, h, h' => by
    obtain ⟨h1, h2, p, h3, h4, h5, h6⟩ := h
    obtain ⟨g1, g2, q, g3, g4, g5, g6⟩ := h'
    have : i = j := by omega
    subst this
    rw [h3] at g3; cases g3
    rw [Ch.uniq he h6 g6]

open Classical in
/-- The chain, if there is one that is good. -/
noncomputable def chOf (e : Int → Prop) (g : List Nat → Prop) (ps : List Pg) (a l : Int) : Option (List Nat) := if h : ∃ r, Ch e ps r a l ∧ g r then some (Classical.choose h) else none
theorem chOf_some {e : Int → Prop} (he : ∀ a, e a → a < 0) {g : List Nat → Prop} {ps : List Pg} {a l : Int} {r : List Nat} (h : Ch e ps r a l) (hg : g r) : chOf e g ps a l = some r := by
  have hx : ∃ r, Ch e ps r a l ∧ g r := ⟨r, h, hg⟩
  unfold chOf
  rw [dif_pos hx, Ch.uniq he (Classical.choose_spec hx).1 h]
theorem chOf_none {e : Int → Prop} {g : List Nat → Prop} {ps : List Pg} {a l : Int} (h : ∀ r, Ch e ps r a l → g r → False) : chOf e g ps a l = none := by
  unfold chOf
  rw [dif_neg]
  rintro ⟨r, h1, h2⟩; exact h r h1 h2
theorem chOf_spec {e : Int → Prop} {g : List Nat → Prop} {ps : List Pg} {a l : Int} {r : List Nat} (h : chOf e g ps a l = some r) : Ch e ps r a l ∧ g r := by
  unfold chOf at h
  split at h
  · rename_i hx; cases h; exact Classical.choose_spec hx
  · cases h
noncomputable abbrev chS (ps : List Pg) (n : Pn) : Option (List Nat) := chOf (fun a => a < 0) (fun _ => True) ps n.first n.size
noncomputable abbrev chI (ps : List Pg) (n : Pn) : Option (List Nat) := chOf (fun a => a = -1) (fun r => r.Nodup) ps n.first n.size
/-- Where one stands in a chain. -/
def At (e : Int → Prop) (ps : List Pg) (a0 l0 : Int) (out : List Nat) (a l : Int) : Prop := ∀ r, Ch e ps r a0 l0 ↔ ∃ s, r = out ++ s ∧ Ch e ps s a l
theorem At.start {e : Int → Prop} {ps : List Pg} {a l : Int} : At e ps a l [] a l := fun r => ⟨fun h => ⟨r, rfl, h⟩, fun ⟨s, h, h'⟩ => by rw [h]; exact h'⟩
theorem At.step {e : Int → Prop} (he : ∀ a, e a → a < 0) {ps : List Pg} {a0 l0 a l : Int} {out : List Nat} (h : At e ps a0 l0 out a l) {i : Nat} {p : Pg} (hi : a = i) (hl : 0 < l) (hp : ps[i]? = some p) (hu : p.used = true) (hs : (p.data.size : Int) = min 40 l) : At e ps a0 l0 (out ++ [i]) p.next (l - min 40 l) := fun r => by
  rw [h r]
  constructor
  · rintro ⟨s, rfl, hs'⟩
    cases s with
    | nil => have := he a hs'.1; omega
    | cons j s =>
      obtain ⟨h1, h2, q, h3, h4, h5, h6⟩ := hs'
      have : j = i := by omega
      subst this
      rw [hp] at h3; cases h3
      exact ⟨s, by simp, h6⟩
  · rintro ⟨s, rfl, hs'⟩
    exact ⟨i :: s, by simp, hi, hl, p, hp, hu, hs, hs'⟩
theorem At.fail {e : Int → Prop} {g : List Nat → Prop} {ps : List Pg} {a0 l0 a l : Int} {out : List Nat} (h : At e ps a0 l0 out a l) (hn : ∀ s, Ch e ps s a l → g (out ++ s) → False) : chOf e g ps a0 l0 = none :=
  chOf_none fun r hr hg => by obtain ⟨s, rfl, hs⟩ := (h r).1 hr; exact hn s hs hg
theorem At.done {e : Int → Prop} (he : ∀ a, e a → a < 0) {g : List Nat → Prop} {ps : List Pg} {a0 l0 a : Int} {out : List Nat} (h : At e ps a0 l0 out a 0) (ha : e a) (hg : g out) : chOf e g ps a0 l0 = some out :=
  chOf_some he ((h out).2 ⟨[], by simp, ha, rfl⟩) hg

section
variable {w0 : World} {σ : Vw}

theorem fl_at {α : Type} {n : Nat} {enc : α → List Value} {good : α → Prop} {v : Value} {xs : List α} (h : RSl n (RFl enc good) (Av.get w0 σ) v xs) {j : Nat} {x : α} (hj : xs[j]? = some x) (o : Nat) (ho : o < n) {y : Value} (hy : (enc x)[o]? = some y) {K : (Nat → Value) → Prop} (hK : ∀ g : Nat → Value, g 0 = y → good x → K g) :
    pIndexAddr n v (.int .i64 j) fun p => pField o p fun q => pLoad w0 1 q σ K :=
  h.atf hj o ho fun es g ⟨h1, h2⟩ hg => hK g (by rw [h1, hy] at hg; cases hg; rfl) h2

/-- A part of two slices. -/
theorem RPgs.two {rd : Addr → Option Value} {es : List Value} {x : Pgs} (h : RPgs rd es x) {A : Prop} : pVal true 2 (.agg ⟨es⟩) A ↔ A := by
  obtain ⟨u, v, rfl, h1, h2⟩ := h
  exact pVal_2 h1.one h2.one
theorem pn_three {x : Pn} {A : Prop} : pVal true 3 (.agg ⟨encPn x⟩) A ↔ A := pVal_3 rfl rfl rfl
theorem pg_three {x : Pg} {A : Prop} : pVal true 3 (.agg ⟨encPg x⟩) A ↔ A := pVal_3 rfl rfl rfl

theorem spec_Chain {es : List Value} {x : Pgs} {n : Pn} (h : RPgs (Av.get w0 σ) es x) (hn : goodPn n) (h96 : x.1.length = 96) (hsz : 0 ≤ n.size ∧ n.size ≤ 3000) {R : Value → Vw → Prop}
    (hR : ∀ v F σ', Keeps σ σ' → OSl w0 1 ON σ' F v ((chS x.1 n).getD []) ∨ chS x.1 n = none → (∀ i, i ∈ F → σ i = none) → R (.tuple ⟨[v, .bool (chS x.1 n).isSome]⟩) σ') : AC Tryd.prog w0 n_spec_l32Chain [.agg ⟨es⟩, .agg ⟨encPn n⟩] σ R := by
  refine ac_spec_l32Chain ?_
  unfold vc_spec_l32Chain
  have he : ∀ a : Int, (fun a : Int => a < 0) a → a < 0 := fun a h => h
  rw [h.two, pn_three]
  obtain ⟨u, w, rfl, hu, hw⟩ := h
  simp only [cellOf_agg, List.getD_cons_zero, List.getD_cons_succ, encPn]
  intro b h1 h2
  have ha := OAcc.new (w0 := w0) (σ := σ) (ety := t_int) (n := 1) (O := ON) h1
  have bad : ∀ (v : Value) (F : List Nat) (s : Vw), Keeps σ s → (∀ i, i ∈ F → σ i = none) → chS x.1 n = none → R (.tuple ⟨[v, .bool false]⟩) s := fun v F s hk hF hc => by
    have := hR v F s hk (.inr hc) hF
    rw [hc] at this; exact this
  refine loop_rule (m := n.size.toNat + 1) (fun c l s => ∃ (out : List Nat) (v : Value) (F : List Nat) (a lf : Int) (v0 : Value), 0 ≤ lf ∧ lf < c ∧ lf + 40 * out.length ≤ 3040 ∧ (lf = 0 ∨ lf + 40 * out.length ≤ 3000) ∧ rng a ∧ Keeps σ s ∧ (∀ i, i ∈ F → σ i = none) ∧ OAcc w0 t_int 1 ON s F v out ∧ At (fun a => a < 0) x.1 n.first n.size out a lf ∧ l = [v0, .bool false, v, .int .i64 a, .int .i64 lf, u, w]) ?_
    ⟨[], _, [b], n.first, n.size, _, hsz.1, by omega, by simp; omega, by simp; omega, hn.2.1, Keeps.put h2, fun i hi => by rw [List.mem_singleton.1 hi]; exact h2, ha, At.start, rfl⟩
  rintro c l s L ⟨out, v, F, a, lf, v0, hl0, hlc, hl1, hl2, hra, hk, hF, ho, hat, rfl⟩ hL
  simp only [vget, List.getD_cons_zero, List.getD_cons_succ]
  have hus := hu.mono hk.le fun _ _ h => h
  rw [pBin_ge, pIf_d]
  refine ⟨fun hge => ?_, fun hlt => ?_⟩
  · obtain ⟨i, hi⟩ : ∃ i : Nat, a = i := ⟨a.toNat, by omega⟩
    subst hi
    rw [hus.len, h96, pBin_ge, pIf_d]
    refine ⟨fun hbig => bad v F s hk hF (hat.fail fun r hr _ => ?_), fun hsm => ?_⟩
    · cases r with
      | nil => have := hr.1; omega
      | cons j r =>
        obtain ⟨g1, g2, p, g3, _⟩ := hr
        have := (List.getElem?_eq_some_iff.1 g3).1
        omega
    have hx := List.getElem?_eq_getElem (show i < x.1.length by omega)
    generalize hxi : x.1[i]'(by omega) = p at hx
    have nop : ∀ (P : Prop), (0 < lf → p.used = true → (p.data.size : Int) = min 40 lf → False) → chS x.1 n = none := fun P hP => hat.fail fun r hr _ => by
      cases r with
      | nil => have := hr.1; omega
      | cons j r =>
        obtain ⟨g1, g2, q, g3, g4, g5, _⟩ := hr
        have : i = j := by omega
        subst this
        rw [hx] at g3; cases g3
        exact hP g2 g4 g5
    refine fl_at hus hx 0 (by omega) rfl fun g hg hgood => ?_
    rw [hg, pUn_not, pIf_b]
    refine ⟨fun hb => bad v F s hk hF (nop True fun _ h _ => by rw [h] at hb; cases hb), fun hb => ?_⟩
    have hused : p.used = true := by simpa using hb
    have hov := ho.osl.rel (ok_n w0)
    rw [hov.len, pBin_gt, pIf_d]
    refine ⟨fun h => by omega, fun _ => ?_⟩
    rw [pBin_gt, pIf_d]
    have next : ∀ (sz : Int), sz = min 40 lf → 0 < lf → (p.data.size : Int) = sz → pVal false 1 (Value.int .i64 (i : Nat)) ((allOne [Value.int .i64 (i : Nat)]) ∧ (pAppend w0 3 1 8 v 1 [Value.int .i64 (i : Nat)] s (fun v21 s22 => pBin Tryd.prog 3 .sub (.int .i64 lf) (.int .i64 sz) (fun v23 => pIndexAddr 3 u (.int .i64 (i : Nat)) (fun v24 => pField 2 v24 (fun v25 => pLoad w0 1 v25 s22 (fun g26 => L [v0, .bool false, v21, g26 0, v23, u, w] s22))))))) := by
      rintro sz rfl hpos hds
      rw [pVal1 rfl]
      refine ho.one (ok_n w0) (f := []) (y := i) ⟨rfl, rfl, show i ≤ _ by omega⟩ (by simp) (by omega) (by omega) fun v' F' s' k' o' f' => ?_
      have hk' : Keeps σ s' := k'.old hk hF
      rw [pBin_sub (by omega)]
      refine fl_at (hu.mono hk'.le fun _ _ h => h) hx 2 (by omega) rfl fun g hg hgood => ?_
      rw [hg]
      refine hL _ _ (c - 1) (by omega) ⟨out ++ [i], v', F', p.next, lf - min 40 lf, v0, by omega, by omega, ?_, ?_, hgood.2, hk', fun j hj => ?_, o', hat.step he rfl hpos hx hused hds, rfl⟩
      · simp only [List.length_append, List.length_singleton]; omega
      · simp only [List.length_append, List.length_singleton]; omega
      · rcases f' j hj with h | h | h
        · exact hF j h
        · cases h
        · cases hs : σ j with
          | none => rfl
          | some r => rw [hk j r hs] at h; cases h
    refine ⟨fun h40 => ?_, fun h40 => ?_⟩
    · refine fl_at hus hx 1 (by omega) rfl fun g hg hgood => ?_
      rw [hg, pLenS_s, pBin_ne, pIf_d]
      refine ⟨fun hne => bad v F s hk hF (nop True fun _ _ h => by omega), fun heq => ?_⟩
      rw [pBin_eq, pIf_d]
      refine ⟨fun h => by omega, fun _ => ?_⟩
      exact next 40 (by omega) (by omega) (by omega)
    · refine fl_at hus hx 1 (by omega) rfl fun g hg hgood => ?_
      rw [hg, pLenS_s, pBin_ne, pIf_d]
      refine ⟨fun hne => bad v F s hk hF (nop True fun _ _ h => by omega), fun heq => ?_⟩
      rw [pBin_eq, pIf_d]
      refine ⟨fun h0 => bad v F s hk hF (nop True fun h _ _ => by omega), fun h0 => ?_⟩
      exact next lf (by omega) (by omega) (by omega)
  · show pBin Tryd.prog 3 .eql (.int .i64 lf) (.int .i64 0) _
    rw [pBin_eq]
    by_cases h0 : lf = 0
    · subst h0
      have hc : chS x.1 n = some out := hat.done he (show a < 0 by omega) trivial
      have := hR v F s hk (.inl (by rw [hc]; exact ho.osl)) hF
      rw [hc] at this
      simpa using this
    · have hc : chS x.1 n = none := hat.fail fun r hr _ => by
        cases r with
        | nil => exact h0 hr.2
        | cons j r => have := hr.1; omega
      have := bad v F s hk hF hc
      simpa [h0] using this
end
end Go.Proofs.YtkbhjejalkbogaaDoor

/- Pages: the chain of a text by the program's own reading. -/
set_option linter.unusedVariables false
set_option linter.unusedSimpArgs false
namespace Go.Proofs.YtkbhjejalkbogaaDoor
open Go Go.Av

section
variable {w0 : World} {σ : Vw}

theorem impl_pieces {n s : Int} (h : 0 ≤ n ∧ n ≤ 1000000000000 ∧ 0 < s ∧ s ≤ 1000000) {R : Value → Vw → Prop} (hR : R (.int .i64 ((n + s - 1) / s)) σ) : AC Tryd.prog w0 n_impl_pieces [.int .i64 n, .int .i64 s] σ R := by
  refine ac_impl_pieces ?_
  unfold vc_impl_pieces
  rw [pBin_add (by omega), pBin_sub (by omega), pBin_quo (by omega)]
  exact hR

theorem has_int {v : Value} {xs : List Nat} {a : Int} (h : RSl 1 RN (Av.get w0 σ) v xs) {R : Value → Vw → Prop} (hR : ∀ b : Bool, (b = true ↔ ∃ i : Nat, i ∈ xs ∧ a = i) → R (.bool b) σ) : AC Tryd.prog w0 n_slices_Contains_int_int [v, .int .i64 a] σ R := by
  refine ac_slices_Contains_int_int ?_
  unfold vc_slices_Contains_int_int
  refine ac_slices_Index_int_int ?_
  unfold vc_slices_Index_int_int
  have hl := h.le
  rw [h.len]
  refine loop_rule (m := xs.length) (fun c l s => ∃ j, s = σ ∧ c + j = xs.length ∧ (∀ (i y : Nat), i < j → xs[i]? = some y → a ≠ y) ∧ l = [v, .int .i64 a, .int .i64 0, .int .i64 xs.length, .int .i64 (j : Nat)]) ?_ ⟨0, rfl, by omega, fun i y h => by omega, rfl⟩
  rintro c l s L ⟨j, rfl, hc, ht, rfl⟩ hL
  simp only [vget, List.getD_cons_zero, List.getD_cons_succ]
  rw [pBin_lt, pIf_d]
  refine ⟨fun hj => ?_, fun hj => ?_⟩
  · have hx := List.getElem?_eq_getElem (show j < xs.length by omega)
    generalize hxj : xs[j] = y at hx
    refine h.at hx fun g hg => ?_
    obtain ⟨hg, hs⟩ := hg
    simp only [expl, encN, List.cons.injEq, and_true] at hg
    rw [hg, pBin_eq, pIf_d]
    refine ⟨fun he => ?_, fun hne => ?_⟩
    · rw [pBin_ge]
      have e : decide ((0 : Int) ≤ (j : Nat)) = true := by simp
      rw [e]
      exact hR true ⟨fun _ => ⟨y, List.mem_of_getElem? hx, he⟩, fun _ => rfl⟩
    · rw [pBin_add (by omega)]
      refine hL _ _ (c - 1) (by omega) ⟨j + 1, rfl, by omega, fun i z hi hz => ?_, rfl⟩
      by_cases e : i = j
      · subst e; rw [hx] at hz; cases hz; exact hne
      · exact ht i z (by omega) hz
  · show pBin Tryd.prog 3 .geq (.int .i64 (-1)) (.int .i64 0) _
    rw [pBin_ge]
    have e : decide ((0 : Int) ≤ -1) = false := by decide
    rw [e]
    refine hR false ⟨fun h => (by cases h), fun ⟨i, hi, he⟩ => ?_⟩
    obtain ⟨k, hk⟩ := List.getElem?_of_mem hi
    exact absurd he (ht k i (by have := (List.getElem?_eq_some_iff.1 hk).1; omega) hk)

theorem impl_Chain {es : List Value} {x : Pgs} {n : Pn} (h : RPgs (Av.get w0 σ) es x) (hn : goodPn n) (h96 : x.1.length = 96) (hsz : 0 ≤ n.size ∧ n.size ≤ 3000) {R : Value → Vw → Prop}
    (hR : ∀ v F σ', Keeps σ σ' → OSl w0 1 ON σ' F v ((chI x.1 n).getD []) ∨ chI x.1 n = none → (∀ i, i ∈ F → σ i = none) → R (.tuple ⟨[v, .bool (chI x.1 n).isSome]⟩) σ') : AC Tryd.prog w0 n_impl_Pages_chain [.agg ⟨es⟩, .agg ⟨encPn n⟩] σ R := by
  refine ac_impl_Pages_chain ?_
  unfold vc_impl_Pages_chain
  have he : ∀ a : Int, (fun a : Int => a = -1) a → a < 0 := fun a (h : a = -1) => by omega
  rw [h.two, pn_three]
  obtain ⟨u, w, rfl, hu, hw⟩ := h
  simp only [cellOf_agg, List.getD_cons_zero, List.getD_cons_succ, encPn]
  intro b h1 h2
  have ha := OAcc.new (w0 := w0) (σ := σ) (ety := t_int) (n := 1) (O := ON) h1
  have bad : ∀ (v : Value) (F : List Nat) (s : Vw), Keeps σ s → (∀ i, i ∈ F → σ i = none) → chI x.1 n = none → R (.tuple ⟨[v, .bool false]⟩) s := fun v F s hk hF hc => by
    have := hR v F s hk (.inr hc) hF
    rw [hc] at this; exact this
  refine impl_pieces (by omega) ?_
  obtain ⟨q, hq⟩ : ∃ q : Nat, (n.size + 40 - 1) / 40 = q := ⟨((n.size + 40 - 1) / 40).toNat, by omega⟩
  rw [hq]
  refine loop_rule (m := q) (fun c l s => ∃ (k : Nat) (out : List Nat) (v : Value) (F : List Nat) (a : Int), c + k = q ∧ out.length = k ∧ out.Nodup ∧ rng a ∧ Keeps σ s ∧ (∀ i, i ∈ F → σ i = none) ∧ OAcc w0 t_int 1 ON s F v out ∧ At (fun a => a = -1) x.1 n.first n.size out a (if n.size - k * 40 < 0 then 0 else n.size - k * 40) ∧
      l = [.slice none 0 0, .bool false, v, .int .i64 a, .int .i64 q, .int .i64 (k : Nat), u, w, .string n.name, .int .i64 n.first, .int .i64 n.size]) ?_
    ⟨0, [], _, [b], n.first, by omega, rfl, by simp, hn.2.1, Keeps.put h2, fun i hi => by rw [List.mem_singleton.1 hi]; exact h2, ha, by
      rw [show (if n.size - (0 : Nat) * 40 < 0 then 0 else n.size - (0 : Nat) * 40) = n.size by split <;> omega]; exact At.start, rfl⟩
  rintro c l s L ⟨k, out, v, F, a, hc, hol, hnd, hra, hk, hF, ho, hat, rfl⟩ hL
  simp only [vget, List.getD_cons_zero, List.getD_cons_succ]
  have hus := hu.mono hk.le fun _ _ h => h
  rw [pBin_lt, pIf_d]
  refine ⟨fun hlt => ?_, fun hge => ?_⟩
  · have hpos : 0 < n.size - (k : Int) * 40 := by omega
    rw [if_neg (by omega)] at hat
    rw [pBin_mul (by omega), pBin_sub (by omega), pMin_s]
    refine impl_within ?_
    rw [pUn_not, pIf_b]
    have nop : ∀ (P : Prop), (∀ (i : Nat) (p : Pg), a = i → x.1[i]? = some p → (out ++ [i]).Nodup → p.used = true → (p.data.size : Int) = min 40 (n.size - k * 40) → False) → chI x.1 n = none := fun P hP => hat.fail fun r hr hg => by
      cases r with
      | nil => have := hr.2; omega
      | cons j r =>
        obtain ⟨g1, g2, q, g3, g4, g5, _⟩ := hr
        refine hP j q g1 g3 ?_ g4 g5
        rw [show out ++ j :: r = (out ++ [j]) ++ r by simp] at hg
        exact (List.nodup_append.1 hg).1
    refine ⟨fun hin => bad _ F s hk hF (nop True fun i p h1 h2 _ _ _ => ?_), fun hin => ?_⟩
    · have := (List.getElem?_eq_some_iff.1 h2).1
      simp [inB] at hin; omega
    have hin' : 0 ≤ a ∧ a ≤ 95 := by simpa [inB] using hin
    obtain ⟨i, hi⟩ : ∃ i : Nat, a = i := ⟨a.toNat, by omega⟩
    subst hi
    have hx := List.getElem?_eq_getElem (show i < x.1.length by omega)
    generalize hxi : x.1[i]'(by omega) = p at hx
    refine has_int (ho.osl.rel (ok_n w0)) fun bb hbb => ?_
    rw [pIf_b]
    refine ⟨fun hb => bad _ F s hk hF (nop True fun j q h1 h2 h3 _ _ => ?_), fun hb => ?_⟩
    · obtain ⟨i', hi', he'⟩ := hbb.1 hb
      have : j = i' := by omega
      subst this
      exact (List.nodup_append.1 h3).2.2 j hi' j (by simp) rfl
    have hni : i ∉ out := fun hm => by rw [hbb.2 ⟨i, hm, rfl⟩] at hb; cases hb
    have same : ∀ (j : Nat) (q : Pg), ((i : Nat) : Int) = j → x.1[j]? = some q → q = p := fun j q h1 h2 => by
      have : i = j := by omega
      subst this
      rw [hx] at h2; cases h2; rfl
    refine fl_at hus hx 0 (by omega) rfl fun g hg hgood => ?_
    rw [hg, pUn_not, pIf_b]
    refine ⟨fun hb => bad _ F s hk hF (nop True fun j q h1 h2 _ h4 _ => by rw [same j q h1 h2] at h4; rw [h4] at hb; cases hb), fun hb => ?_⟩
    have hused : p.used = true := by simpa using hb
    refine fl_at hus hx 1 (by omega) rfl fun g hg hgood => ?_
    rw [hg, pLenS_s, pBin_ne, pIf_d]
    refine ⟨fun hne => bad _ F s hk hF (nop True fun j q h1 h2 _ _ h5 => by rw [same j q h1 h2] at h5; exact hne h5), fun heq => ?_⟩
    have hds : (p.data.size : Int) = min 40 (n.size - k * 40) := Decidable.not_not.1 heq
    rw [pVal1 rfl]
    refine ho.one (ok_n w0) (f := []) (y := i) ⟨rfl, rfl, show i ≤ _ by omega⟩ (by simp) (by omega) (by omega) fun v' F' s' k' o' f' => ?_
    have hk' : Keeps σ s' := k'.old hk hF
    refine fl_at (hu.mono hk'.le fun _ _ h => h) hx 2 (by omega) rfl fun g hg hgood => ?_
    rw [hg, pBin_add (by omega)]
    refine hL _ _ (c - 1) (by omega) ⟨k + 1, out ++ [i], v', F', p.next, by omega, by simp [hol], ?_, hgood.2, hk', fun j hj => ?_, o', ?_, rfl⟩
    · exact List.nodup_append.2 ⟨hnd, by simp, fun a ha b hb e => by rw [List.mem_singleton.1 hb] at e; exact hni (e ▸ ha)⟩
    · rcases f' j hj with h | h | h
      · exact hF j h
      · cases h
      · cases hs : σ j with
        | none => rfl
        | some r => rw [hk j r hs] at h; cases h
    · have := hat.step he rfl hpos hx hused hds
      rw [show (if n.size - ((k + 1 : Nat) : Int) * 40 < 0 then 0 else n.size - ((k + 1 : Nat) : Int) * 40) = n.size - k * 40 - min 40 (n.size - k * 40) by split <;> omega]
      exact this
  · have hk0 : n.size - (k : Int) * 40 ≤ 0 := by omega
    have e0 : (if n.size - (k : Int) * 40 < 0 then 0 else n.size - (k : Int) * 40) = 0 := by split <;> omega
    rw [e0] at hat
    show pBin Tryd.prog 3 .eql (.int .i64 a) (.int .i64 (-1)) _
    rw [pBin_eq]
    by_cases h1 : a = -1
    · have hc : chI x.1 n = some out := hat.done he h1 hnd
      have := hR v F s hk (.inl (by rw [hc]; exact ho.osl)) hF
      rw [hc] at this
      simpa [h1] using this
    · have hc : chI x.1 n = none := hat.fail fun r hr _ => by
        cases r with
        | nil => exact h1 hr.1
        | cons j r => have := hr.2.1; omega
      have := bad v F s hk hF hc
      simpa [h1] using this
end
end Go.Proofs.YtkbhjejalkbogaaDoor

/- Paths: their names, their order, what lies within what. -/
set_option linter.unusedVariables false
set_option linter.unusedSimpArgs false
namespace Go.Proofs.YtkbhjejalkbogaaDoor
open Go Go.Av

def strLt (a b : ByteArray) : Bool := Op.bytesLess a.toList b.toList
theorem bl_irrefl : ∀ (a : List UInt8), Op.bytesLess a a = false
  | [] => rfl
  | x :: r => by simp [Op.bytesLess, bl_irrefl r]
theorem strLt_irrefl (a : ByteArray) : strLt a a = false := bl_irrefl _
section
variable {w0 : World} {σ : Vw}

end
end Go.Proofs.YtkbhjejalkbogaaDoor

/- Paths: their order, what lies within what; marks. -/
set_option linter.unusedVariables false
set_option linter.unusedSimpArgs false
namespace Go.Proofs.YtkbhjejalkbogaaDoor
open Go Go.Av

section
variable {w0 : World} {σ : Vw}

end
end Go.Proofs.YtkbhjejalkbogaaDoor

/- Trails: when one is sound; the law 'TrailOk', of the functions alone. -/
set_option linter.unusedVariables false
set_option linter.unusedSimpArgs false
namespace Go.Proofs.YtkbhjejalkbogaaDoor
open Go Go.Av

section
variable {w0 : World} {σ : Vw}

end
end Go.Proofs.YtkbhjejalkbogaaDoor

/- The law 'TrailOk', of the functions alone. -/
set_option linter.unusedVariables false
set_option linter.unusedSimpArgs false
namespace Go.Proofs.YtkbhjejalkbogaaDoor
open Go Go.Av

section
variable {w0 : World} {σ : Vw}

end
end Go.Proofs.YtkbhjejalkbogaaDoor

/- Trees: what is read of one; their size, their copy, their comparison. -/
set_option linter.unusedVariables false
set_option linter.unusedSimpArgs false
namespace Go.Proofs.YtkbhjejalkbogaaDoor
open Go Go.Av

inductive Tr where
  | mk (dir : Bool) (mode : Int) (text : ByteArray) (names : List ByteArray) (kids : List Tr)
noncomputable instance : DecidableEq Tr := fun _ _ => Classical.propDecidable _

section
variable {w0 : World} {σ : Vw}

end
end Go.Proofs.YtkbhjejalkbogaaDoor

/- Trees: their copy, their comparison. -/
set_option linter.unusedVariables false
set_option linter.unusedSimpArgs false
namespace Go.Proofs.YtkbhjejalkbogaaDoor
open Go Go.Av

section
variable {w0 : World}

end
end Go.Proofs.YtkbhjejalkbogaaDoor

/- Trees: when one is sound. -/
set_option linter.unusedVariables false
set_option linter.unusedSimpArgs false
namespace Go.Proofs.YtkbhjejalkbogaaDoor
open Go Go.Av

section
variable {w0 : World} {σ : Vw}

theorem pBin_sge {P : Program} {T : Nat} {a b : ByteArray} {K : Value → Prop} : pBin P T .geq (.string a) (.string b) K ↔ K (.bool (!strLt a b)) := pBin_s rfl

end
end Go.Proofs.YtkbhjejalkbogaaDoor

/- Pages: when they are ok, by either reading, and that both say the same. -/
set_option linter.unusedVariables false
set_option linter.unusedSimpArgs false
namespace Go.Proofs.YtkbhjejalkbogaaDoor
open Go Go.Av

def prevN (ns : List Pn) (j : Nat) (n : Pn) : Bool :=
  match j with
  | 0 => true
  | i + 1 => match ns[i]? with
    | some y => strLt y.name n.name
    | none => true
/-- A name is in its place. -/
def pnAt (ns : List Pn) (j : Nat) (n : Pn) : Prop := nameOk n.name = true ∧ prevN ns j n = true ∧ inB n.size 0 3000 = true
/-- All pages of the first names. -/
noncomputable def lsOf (c : Pn → Option (List Nat)) (ns : List Pn) : List Nat := (ns.map fun n => (c n).getD []).flatten
def OkS (x : Pgs) : Prop := x.1.length = 96 ∧ x.2.length ≤ 16 ∧ (∀ (j : Nat) (n : Pn), x.2[j]? = some n → pnAt x.2 j n ∧ -1 ≤ n.first ∧ (chS x.1 n).isSome = true) ∧ (lsOf (chS x.1) x.2).Nodup ∧
  ∀ (i : Nat) (p : Pg), x.1[i]? = some p → (p.used = true ↔ i ∈ lsOf (chS x.1) x.2) ∧ (p.used = false → p.data = ⟨#[]⟩ ∧ p.next = -1) ∧ -1 ≤ p.next
def OkI (x : Pgs) : Prop := x.1.length = 96 ∧ x.2.length ≤ 16 ∧ (∀ (j : Nat) (n : Pn), x.2[j]? = some n → pnAt x.2 j n ∧ (chI x.1 n).isSome = true) ∧ (lsOf (chI x.1) x.2).Nodup ∧
  ∀ (i : Nat) (p : Pg), x.1[i]? = some p → i ∉ lsOf (chI x.1) x.2 → p.used = false ∧ p.data = ⟨#[]⟩ ∧ p.next = -1
open Classical in
noncomputable def pagesOk (x : Pgs) : Bool := decide (OkS x)

theorem ch_used {e : Int → Prop} {ps : List Pg} : ∀ {r : List Nat} {a l : Int}, Ch e ps r a l → ∀ i, i ∈ r → ∃ p, ps[i]? = some p ∧ p.used = true
  | [], _, _, _, i, hi => by cases hi
  | j :: r, a, l, h, i, hi => by
    obtain ⟨h1, h2, p, h3, h4, h5, h6⟩ := h
    rcases List.mem_cons.1 hi with e | e
    · rw [e]; exact ⟨p, h3, h4⟩
    · exact ch_used h6 i e
/-- What follows in a chain that ends with -1. -/
theorem ch_next {ps : List Pg} : ∀ {r : List Nat} {a l : Int}, Ch (fun a => a = -1) ps r a l → -1 ≤ a ∧ ∀ i, i ∈ r → ∀ p, ps[i]? = some p → -1 ≤ p.next
  | [], a, _, h => ⟨by have : a = -1 := h.1; omega, fun i hi => by cases hi⟩
  | j :: r, a, l, h => by
    obtain ⟨h1, h2, p, h3, h4, h5, h6⟩ := h
    have := ch_next h6
    refine ⟨by omega, fun i hi q hq => ?_⟩
    rcases List.mem_cons.1 hi with e | e
    · rw [e, h3] at hq; cases hq; exact this.1
    · exact this.2 i e q hq
theorem ch_weak {ps : List Pg} : ∀ {r : List Nat} {a l : Int}, Ch (fun a => a = -1) ps r a l → Ch (fun a => a < 0) ps r a l
  | [], a, _, h => ⟨by have : a = -1 := h.1; omega, h.2⟩
  | j :: r, a, l, h => by
    obtain ⟨h1, h2, p, h3, h4, h5, h6⟩ := h
    exact ⟨h1, h2, p, h3, h4, h5, ch_weak h6⟩
theorem ch_strong {ps : List Pg} (hp : ∀ (i : Nat) (p : Pg), ps[i]? = some p → -1 ≤ p.next) : ∀ {r : List Nat} {a l : Int}, -1 ≤ a → Ch (fun a => a < 0) ps r a l → Ch (fun a => a = -1) ps r a l
  | [], a, _, ha, h => ⟨by have : a < 0 := h.1; show a = -1; omega, h.2⟩
  | j :: r, a, l, ha, h => by
    obtain ⟨h1, h2, p, h3, h4, h5, h6⟩ := h
    exact ⟨h1, h2, p, h3, h4, h5, ch_strong hp (hp j p h3) h6⟩

theorem chS_of_chI {ps : List Pg} {n : Pn} {r : List Nat} (h : chI ps n = some r) : chS ps n = some r := by
  obtain ⟨h1, h2⟩ := chOf_spec h
  exact chOf_some (fun a h => h) (ch_weak h1) trivial

theorem lsOf_mem {c : Pn → Option (List Nat)} {ns : List Pn} {i : Nat} : i ∈ lsOf c ns ↔ ∃ n, n ∈ ns ∧ ∃ r, c n = some r ∧ i ∈ r := by
  unfold lsOf
  rw [List.mem_flatten]
  constructor
  · rintro ⟨l, hl, hi⟩
    obtain ⟨n, hn, rfl⟩ := List.mem_map.1 hl
    cases hc : c n with
    | none => rw [hc] at hi; simp at hi
    | some r => rw [hc] at hi; exact ⟨n, hn, r, hc, hi⟩
  · rintro ⟨n, hn, r, hc, hi⟩
    exact ⟨r, List.mem_map.2 ⟨n, hn, by rw [hc]; rfl⟩, hi⟩
theorem lsOf_congr {c d : Pn → Option (List Nat)} {ns : List Pn} (h : ∀ n, n ∈ ns → c n = d n) : lsOf c ns = lsOf d ns := by
  unfold lsOf
  congr 1
  exact List.map_congr_left fun n hn => by rw [h n hn]

theorem ok_same (x : Pgs) : OkS x ↔ OkI x := by
  constructor
  · rintro ⟨h1, h2, h3, h4, h5⟩
    have e : ∀ n, n ∈ x.2 → chI x.1 n = chS x.1 n := fun n hn => by
      obtain ⟨j, hj⟩ := List.getElem?_of_mem hn
      obtain ⟨_, h6, h7⟩ := h3 j n hj
      obtain ⟨r, hr⟩ := Option.isSome_iff_exists.1 h7
      rw [hr]
      refine chOf_some (fun a (h : a = -1) => by omega) (ch_strong (fun i p hp => (h5 i p hp).2.2) h6 (chOf_spec hr).1) ?_
      have hs : List.Sublist ((chS x.1 n).getD []) (lsOf (chS x.1) x.2) := by
        unfold lsOf
        exact List.sublist_flatten_of_mem (List.mem_map.2 ⟨n, hn, rfl⟩)
      rw [hr] at hs
      exact hs.nodup h4
    have el := lsOf_congr e
    refine ⟨h1, h2, fun j n hj => ⟨(h3 j n hj).1, by rw [e n (List.mem_of_getElem? hj)]; exact (h3 j n hj).2.2⟩, by rw [el]; exact h4, fun i p hp hi => ?_⟩
    rw [el] at hi
    obtain ⟨g1, g2, g3⟩ := h5 i p hp
    have hu : p.used = false := by
      cases hc : p.used with
      | false => rfl
      | true => exact absurd (g1.1 hc) hi
    exact ⟨hu, g2 hu⟩
  · rintro ⟨h1, h2, h3, h4, h5⟩
    have e : ∀ n, n ∈ x.2 → chS x.1 n = chI x.1 n := fun n hn => by
      obtain ⟨j, hj⟩ := List.getElem?_of_mem hn
      obtain ⟨r, hr⟩ := Option.isSome_iff_exists.1 (h3 j n hj).2
      rw [chS_of_chI hr, hr]
    have el := lsOf_congr e
    refine ⟨h1, h2, fun j n hj => ?_, by rw [el]; exact h4, fun i p hp => ?_⟩
    · obtain ⟨h6, h7⟩ := h3 j n hj
      obtain ⟨r, hr⟩ := Option.isSome_iff_exists.1 h7
      exact ⟨h6, (ch_next (chOf_spec hr).1).1, by rw [e n (List.mem_of_getElem? hj)]; exact h7⟩
    · rw [el]
      by_cases hi : i ∈ lsOf (chI x.1) x.2
      · obtain ⟨n, hn, r, hr, hir⟩ := lsOf_mem.1 hi
        have hc := (chOf_spec hr).1
        obtain ⟨q, hq, hu⟩ := ch_used hc i hir
        rw [hp] at hq; cases hq
        refine ⟨⟨fun _ => hi, fun _ => hu⟩, fun h => (by rw [hu] at h; cases h), (ch_next hc).2 i hir p hp⟩
      · obtain ⟨g1, g2, g3⟩ := h5 i p hp hi
        exact ⟨⟨fun h => (by rw [g1] at h; cases h), fun h => absurd h hi⟩, fun _ => ⟨g2, g3⟩, by omega⟩

theorem lsOf_take {c : Pn → Option (List Nat)} {ns : List Pn} {j : Nat} {n : Pn} (hj : ns[j]? = some n) : lsOf c (ns.take (j + 1)) = lsOf c (ns.take j) ++ (c n).getD [] := by
  unfold lsOf
  rw [List.take_add_one, hj, Option.toList_some, List.map_append, List.flatten_append]
  simp
theorem lsOf_pre {c : Pn → Option (List Nat)} {ns : List Pn} {j : Nat} (h : (lsOf c ns).Nodup) : (lsOf c (ns.take j)).Nodup := by
  have e : lsOf c ns = lsOf c (ns.take j) ++ lsOf c (ns.drop j) := by
    unfold lsOf
    rw [← List.flatten_append, ← List.map_append, List.take_append_drop]
  rw [e] at h
  exact (List.nodup_append.1 h).1

section
variable {w0 : World} {σ : Vw}

/-- Which places are in a list. -/
def inL (m : Nat) (l : List Nat) : List Bool := (List.range m).map fun i => decide (i ∈ l)
theorem inL_get {m i : Nat} {l : List Nat} (h : i < m) : (inL m l)[i]? = some (decide (i ∈ l)) := by
  unfold inL
  rw [List.getElem?_map, List.getElem?_range h]; rfl
theorem inL_set {m i : Nat} {l : List Nat} (h : i < m) : (inL m l).set i true = inL m (l ++ [i]) := by
  apply List.ext_getElem?
  intro k
  by_cases hk : k < m
  · by_cases e : i = k
    · subst e
      rw [List.getElem?_set_self (by simp [inL, h]), inL_get h]
      simp
    · rw [List.getElem?_set_ne e, inL_get hk, inL_get hk]
      congr 1
      simp only [List.mem_append, List.mem_singleton]
      have : ¬ k = i := fun h => e h.symm
      simp [this]
  · rw [List.getElem?_eq_none (by simp [inL]; omega), List.getElem?_eq_none (by simp [inL]; omega)]

theorem bool_store {F : List Nat} {v : Value} {xs : List Bool} (h : OSl w0 1 OBo σ F v xs) {j : Nat} {x y : Bool} (hj : xs[j]? = some x) {K : Vw → Prop}
    (hK : ∀ σ', KeepsBut F σ σ' → OSl w0 1 OBo σ' F v (xs.set j y) → K σ') : pIndexAddr 1 v (.int .i64 j) fun p => pVal false 1 (.bool y) (pStore p [.bool y] σ K) := by
  obtain ⟨b, o, f, c, A, C, r, hix, hb, hr, hc, hA, hOx, hbF, hf, hput⟩ := h.focus (ok_bo w0) hj
  obtain ⟨rfl, rfl, hsz⟩ := hOx
  refine hix _ ?_
  refine elem_store hr hc hA rfl ?_
  exact hK _ (KeepsBut.put hbF) (hput _ [.bool y] y _ put_at rfl ⟨rfl, rfl, trivial⟩ fun i hi hne _ => by simp [Vw.put, hne])
theorem bool_at {v : Value} {xs : List Bool} (h : RSl 1 RBo (Av.get w0 σ) v xs) {j : Nat} {x : Bool} (hj : xs[j]? = some x) {K : (Nat → Value) → Prop} (hK : ∀ g : Nat → Value, g 0 = .bool x → K g) : pIndexAddr 1 v (.int .i64 j) fun p => pLoad w0 1 p σ K := by
  refine h.at hj fun g hg => ?_
  obtain ⟨hg, _⟩ := hg
  simp only [expl, encB, List.cons.injEq, and_true] at hg
  exact hK g hg
theorem n_at {v : Value} {xs : List Nat} (h : RSl 1 RN (Av.get w0 σ) v xs) {j : Nat} {x : Nat} (hj : xs[j]? = some x) {K : (Nat → Value) → Prop} (hK : ∀ g : Nat → Value, g 0 = .int .i64 x → K g) : pIndexAddr 1 v (.int .i64 j) fun p => pLoad w0 1 p σ K := by
  refine h.at hj fun g hg => ?_
  obtain ⟨hg, _⟩ := hg
  simp only [expl, encN, List.cons.injEq, and_true] at hg
  exact hK g hg
theorem pn_at {v : Value} {xs : List Pn} (h : RSl 3 RPn (Av.get w0 σ) v xs) {j : Nat} {x : Pn} (hj : xs[j]? = some x) {K : (Nat → Value) → Prop} (hK : ∀ g : Nat → Value, g 0 = .string x.name → g 1 = .int .i64 x.first → g 2 = .int .i64 x.size → goodPn x → K g) : pIndexAddr 3 v (.int .i64 j) fun p => pLoad w0 3 p σ K := by
  refine h.at hj fun g hg => ?_
  obtain ⟨hg, hgood⟩ := hg
  simp only [expl, encPn, List.cons.injEq, and_true] at hg
  exact hK g hg.1 hg.2.1 hg.2.2 hgood
theorem pg_at {v : Value} {xs : List Pg} (h : RSl 3 RPg (Av.get w0 σ) v xs) {j : Nat} {x : Pg} (hj : xs[j]? = some x) {K : (Nat → Value) → Prop} (hK : ∀ g : Nat → Value, g 0 = .bool x.used → g 1 = .string x.data → g 2 = .int .i64 x.next → goodPg x → K g) : pIndexAddr 3 v (.int .i64 j) fun p => pLoad w0 3 p σ K := by
  refine h.at hj fun g hg => ?_
  obtain ⟨hg, hgood⟩ := hg
  simp only [expl, encPg, List.cons.injEq, and_true] at hg
  exact hK g hg.1 hg.2.1 hg.2.2 hgood
end
end Go.Proofs.YtkbhjejalkbogaaDoor

/- Pages: 'PagesOk' by the reference. -/
set_option linter.unusedVariables false
set_option linter.unusedSimpArgs false
namespace Go.Proofs.YtkbhjejalkbogaaDoor
open Go Go.Av

section
variable {w0 : World} {σ : Vw}

theorem pagesOk_no {x : Pgs} (h : ¬ OkS x) : pagesOk x = false := by simp [pagesOk, h]
theorem pagesOk_yes {x : Pgs} (h : OkS x) : pagesOk x = true := by simp [pagesOk, h]

theorem ch_lt {e : Int → Prop} {ps : List Pg} {r : List Nat} {a l : Int} (h : Ch e ps r a l) {i : Nat} (hi : i ∈ r) : i < ps.length := by
  obtain ⟨p, hp, _⟩ := ch_used h i hi
  exact (List.getElem?_eq_some_iff.1 hp).1

/-- Bools, all false, in a row that was made. -/
theorem made_bools {b ety : Nat} (hb : w0.heap.size ≤ b) (hn : σ b = none) : OSl w0 1 OBo (σ.put b ⟨ety, (List.replicate 96 [Value.bool false]).flatten, 96, (0, 0)⟩) [b] (.slice (some ⟨b, 0, none⟩) 96 96) (inL 96 []) := by
  have hl : (inL 96 []).length = 96 := by simp [inL]
  refine ⟨by omega, by simp, .inr ⟨b, 0, 96, _, [], [], List.replicate 96 [.bool false], List.replicate 96 [], by rw [hl], by omega, hb, put_at, by simp, rfl, by rw [hl]; simp, by rw [hl]; simp, by simp, ?_⟩⟩
  intro j c x f e1 e2 e3
  have hj : j < 96 := by rw [← hl]; exact (List.getElem?_eq_some_iff.1 e2).1
  rw [inL_get hj] at e2
  rw [List.getElem?_replicate, if_pos hj] at e1 e3
  cases e1; cases e2; cases e3
  exact ⟨rfl, by simp [encB], trivial⟩

theorem spec_PagesOk {es : List Value} {x : Pgs} (h : RPgs (Av.get w0 σ) es x) {R : Value → Vw → Prop} (hR : ∀ σ', Keeps σ σ' → R (.bool (pagesOk x)) σ') : AC Tryd.prog w0 n_spec_PagesOk [.agg ⟨es⟩] σ R := by
  have hh := h
  refine ac_spec_PagesOk ?_
  unfold vc_spec_PagesOk cs_spec_PagesOk_2 cs_spec_PagesOk_1
  rw [h.two]
  obtain ⟨u, w, rfl, hu, hw⟩ := h
  simp only [cellOf_agg, List.getD_cons_zero, List.getD_cons_succ]
  have no : ¬ OkS x → ∀ s, Keeps σ s → R (.bool false) s := fun hn s hk => by have := hR s hk; rw [pagesOk_no hn] at this; exact this
  rw [hu.len, pBin_ne, pIf_d]
  refine ⟨fun hne => no (fun hk => hne (by rw [hk.1]; rfl)) σ (Keeps.refl σ), fun heq => ?_⟩
  have h96 : x.1.length = 96 := by omega
  rw [hw.len, pBin_gt, pIf_d]
  refine ⟨fun hgt => no (fun hk => by have := hk.2.1; omega) σ (Keeps.refl σ), fun hle => ?_⟩
  have h16 : x.2.length ≤ 16 := by omega
  refine pMake_s (m := 96) (by omega) (by omega) fun b ety h1 h2 => ?_
  have o0 := made_bools (ety := ety) h1 h2
  have hF0 : ∀ i, i ∈ [b] → σ i = none := fun i hi => by rw [List.mem_singleton.1 hi]; exact h2
  refine loop_rule (m := x.2.length) (fun c l s => ∃ j : Nat, c + j = x.2.length ∧ Keeps σ s ∧ (∀ (i : Nat) (n : Pn), i < j → x.2[i]? = some n → pnAt x.2 i n ∧ -1 ≤ n.first ∧ (chS x.1 n).isSome = true) ∧ (lsOf (chS x.1) (x.2.take j)).Nodup ∧
    OSl w0 1 OBo s [b] (.slice (some ⟨b, 0, none⟩) 96 96) (inL 96 (lsOf (chS x.1) (x.2.take j))) ∧ l = [.bool false, .slice (some ⟨b, 0, none⟩) 96 96, .int .i64 (j : Nat), u, w]) ?_
    ⟨0, by omega, Keeps.put h2, fun i n h => by omega, by simp [lsOf], by simpa [lsOf] using o0, rfl⟩
  rintro c l s L ⟨j, hc, hk, hdone, hnd, os, rfl⟩ hL
  simp only [vget, List.getD_cons_zero, List.getD_cons_succ]
  have hws := hw.mono hk.le fun _ _ h => h
  rw [hws.len, pBin_lt, pIf_d]
  refine ⟨fun hj => ?_, fun hj => ?_⟩
  · have hx := List.getElem?_eq_getElem (show j < x.2.length by omega)
    generalize hxj : x.2[j]'(by omega) = n at hx
    refine pn_at hws hx fun g hg0 hg1 hg2 hgood => ?_
    rw [hg0, hg1, hg2, pVal_3 rfl rfl rfl]
    refine spec_nameOk hgood.1 ?_
    rw [pUn_not, pIf_b]
    refine ⟨fun hb => no (fun hk => by have := (hk.2.2.1 j n hx).1.1; rw [this] at hb; cases hb) s hk, fun hb => ?_⟩
    have hname : nameOk n.name = true := by simpa using hb
    rw [pBin_gt, pIf_d]
    refine ⟨fun hpos => ?ca, fun h0 => ?cb⟩
    case' ca =>
      obtain ⟨i, hi⟩ : ∃ i, j = i + 1 := ⟨j - 1, by omega⟩
      rw [pBin_sub (by omega), show ((j : Nat) : Int) - 1 = (i : Nat) by omega]
      have hy := List.getElem?_eq_getElem (show i < x.2.length by omega)
      generalize hyi : x.2[i]'(by omega) = y at hy
      refine fl_at hws hy 0 (by omega) rfl fun g2 hg2' hgood2 => ?_
      have hpv : prevN x.2 j n = strLt y.name n.name := by rw [hi]; simp [prevN, hy]
      rw [hg2', pBin_sge, pIf_b]
      refine ⟨fun hb => no (fun hk => by have := (hk.2.2.1 j n hx).1.2.1; rw [hpv] at this; rw [this] at hb; cases hb) s hk, fun hb => ?_⟩
      have hprev : prevN x.2 j n = true := by rw [hpv]; simpa using hb
    case' cb =>
      have hj0 : j = 0 := by omega
      have hprev : prevN x.2 j n = true := by rw [hj0]; rfl
    all_goals
      refine spec_In ?_
      rw [pUn_not, pIf_b]
      refine ⟨fun hb => no (fun hk => by have := (hk.2.2.1 j n hx).1.2.2; rw [this] at hb; cases hb) s hk, fun hb => ?_⟩
      have hin : inB n.size 0 3000 = true := by simpa using hb
      have hin' : 0 ≤ n.size ∧ n.size ≤ 3000 := by simpa [inB] using hin
      rw [pBin_lt, pIf_d]
      refine ⟨fun hb => no (fun hk => by have := (hk.2.2.1 j n hx).2.1; omega) s hk, fun hfirst => ?_⟩
      refine spec_Chain (mono_pgs hk.le hh) hgood h96 hin' fun v F s1 k1 ov fv => ?_
      rw [pExtract_s rfl, pExtract_s rfl, pUn_not, pIf_b]
      refine ⟨fun hb => no (fun hk => by have := (hk.2.2.1 j n hx).2.2; rw [this] at hb; cases hb) s1 (hk.trans k1), fun hb => ?_⟩
      have hsome : (chS x.1 n).isSome = true := by simpa using hb
      obtain ⟨r, hr⟩ := Option.isSome_iff_exists.1 hsome
      have ov' : OSl w0 1 ON s1 F v r := by
        rcases ov with h | h
        · rw [hr] at h; exact h
        · rw [hr] at h; cases h
      have hch := (chOf_spec hr).1
      have hlt := lsOf_take (c := chS x.1) hx
      rw [hr, Option.getD_some] at hlt
      have os1 := os.frame (ok_bo w0) (k1.but_at fun i hi => (os.dom (ok_bo w0) i hi).2)
      have hFb : ∀ i, i ∈ F → i ∉ [b] := fun i hi hi' => (os.dom (ok_bo w0) i hi').2 (fv i hi)
      refine loop_rule (m := r.length) (fun c' l' s' => ∃ k : Nat, c' + k = r.length ∧ KeepsBut [b] s1 s' ∧ (lsOf (chS x.1) (x.2.take j) ++ r.take k).Nodup ∧ OSl w0 1 OBo s' [b] (.slice (some ⟨b, 0, none⟩) 96 96) (inL 96 (lsOf (chS x.1) (x.2.take j) ++ r.take k)) ∧
        l' = [.bool false, .slice (some ⟨b, 0, none⟩) 96 96, .int .i64 (j : Nat), v, .int .i64 (k : Nat), u, w]) ?_ ⟨0, by omega, KeepsBut.refl _ _, by simpa using hnd, by simpa using os1, rfl⟩
      rintro c' l' s' L' ⟨k, hc', kb, hnd', os', rfl⟩ hL'
      simp only [vget, List.getD_cons_zero, List.getD_cons_succ]
      have hks' : Keeps σ s' := kb.old (hk.trans k1) hF0
      have ov2 := ov'.frame (ok_n w0) (kb.at (fun i hi => (ov'.dom (ok_n w0) i hi).2) hFb)
      have rv := ov2.rel (ok_n w0)
      have rl := ov'.1
      rw [rv.len, pBin_lt, pIf_d]
      refine ⟨fun hkl => ?_, fun hkl => ?_⟩
      · have hrk := List.getElem?_eq_getElem (show k < r.length by omega)
        generalize hrki : r[k]'(by omega) = p at hrk
        have hp96 : p < 96 := by rw [← h96]; exact ch_lt hch (List.mem_of_getElem? hrk)
        refine n_at rv hrk fun g hg => ?_
        rw [hg]
        refine bool_at (os'.rel (ok_bo w0)) (inL_get hp96) fun g' hg' => ?_
        rw [hg', pIf_d]
        have htk : r.take (k + 1) = r.take k ++ [p] := by rw [List.take_add_one, hrk]; rfl
        refine ⟨fun hm => no (fun hk => ?_) s' hks', fun hm => ?_⟩
        · have hn2 := lsOf_pre (j := j + 1) hk.2.2.2.1
          rw [hlt] at hn2
          have e : r = r.take (k + 1) ++ r.drop (k + 1) := (List.take_append_drop _ _).symm
          rw [e, htk] at hn2
          rw [show ∀ (A B C D : List Nat), A ++ (B ++ C ++ D) = (A ++ B) ++ (C ++ D) by intros; simp] at hn2
          exact (List.nodup_append.1 hn2).2.2 p hm p (by simp) rfl
        · refine n_at rv hrk fun g hg => ?_
          rw [hg]
          refine bool_store os' (inL_get hp96) fun s2 k2 o2 => ?_
          rw [pBin_add (by omega)]
          rw [inL_set hp96, List.append_assoc, ← htk] at o2
          refine hL' _ _ (c' - 1) (by omega) ⟨k + 1, by omega, kb.trans k2, ?_, o2, rfl⟩
          rw [htk, ← List.append_assoc]
          exact List.nodup_append.2 ⟨hnd', by simp, fun a ha d hd e => by rw [List.mem_singleton.1 hd] at e; exact hm (e ▸ ha)⟩
      · have hkr : k = r.length := by omega
        subst hkr
        rw [List.take_length, ← hlt] at hnd' os'
        show pBin Tryd.prog 3 .add _ _ _
        rw [pBin_add (by omega)]
        refine hL _ _ (c - 1) (by omega) ⟨j + 1, by omega, hks', fun i m hi he => ?_, hnd', os', rfl⟩
        by_cases e : i = j
        · subst e
          rw [hx] at he; cases he
          exact ⟨⟨hname, hprev, hin⟩, by omega, hsome⟩
        · exact hdone i m (by omega) he
  · have hjl : j = x.2.length := by omega
    subst hjl
    rw [List.take_length] at hnd os
    show pLoop _ _ _ _
    have ob := os.rel (ok_bo w0)
    refine loop_rule (m := 96) (fun c' l' s' => ∃ k : Nat, c' + k = 96 ∧ s' = s ∧ (∀ (i : Nat) (p : Pg), i < k → x.1[i]? = some p → (p.used = true ↔ i ∈ lsOf (chS x.1) x.2) ∧ (p.used = false → p.data = ⟨#[]⟩ ∧ p.next = -1) ∧ -1 ≤ p.next) ∧
      l' = [.bool false, .slice (some ⟨b, 0, none⟩) 96 96, .int .i64 (k : Nat), u, w]) ?_ ⟨0, by omega, rfl, fun i p h => by omega, rfl⟩
    rintro c' l' s' L' ⟨k, hc', rfl, hd, rfl⟩ hL'
    simp only [vget, List.getD_cons_zero, List.getD_cons_succ]
    have hus := hu.mono hk.le fun _ _ h => h
    rw [hus.len, h96, pBin_lt, pIf_d]
    refine ⟨fun hk96 => ?_, fun hk96 => ?_⟩
    · have hx := List.getElem?_eq_getElem (show k < x.1.length by omega)
      generalize hxk : x.1[k]'(by omega) = p at hx
      refine pg_at hus hx fun g hg0 hg1 hg2 hgood => ?_
      rw [hg0, hg1, hg2, pVal_3 rfl rfl rfl]
      refine bool_at ob (inL_get (show k < 96 by omega)) fun g' hg' => ?_
      rw [hg', pBin_b (v := .bool (!(p.used == decide (k ∈ lsOf (chS x.1) x.2)))) (by kernel_rfl) rfl, pIf_b]
      refine ⟨fun hb => no (fun hk => ?_) s' (by assumption), fun hb => ?_⟩
      · have := (hk.2.2.2.2 k p hx).1
        cases hu : p.used with
        | true => rw [hu] at this hb; simp [this.1 rfl] at hb
        | false =>
          rw [hu] at this hb
          have hn : k ∉ lsOf (chS x.1) x.2 := fun h => by have := this.2 h; cases this
          simp [hn] at hb
      have hiff : p.used = true ↔ k ∈ lsOf (chS x.1) x.2 := by
        have e : p.used = decide (k ∈ lsOf (chS x.1) x.2) := by simpa using hb
        rw [e]; simp
      have next : (p.used = false → p.data = ⟨#[]⟩ ∧ p.next = -1) → pBin Tryd.prog 3 .lss (.int .i64 p.next) (.int .i64 (-1)) (fun v98 => pIf v98 (R (.bool false) s') (pBin Tryd.prog 3 .add (.int .i64 (k : Nat)) (.int .i64 1) (fun v99 => L' [.bool false, .slice (some ⟨b, 0, none⟩) 96 96, v99, u, w] s'))) := fun hz => by
        rw [pBin_lt, pIf_d]
        refine ⟨fun hlt => no (fun hk => by have := (hk.2.2.2.2 k p hx).2.2; omega) s' (by assumption), fun hge => ?_⟩
        rw [pBin_add (by omega)]
        refine hL' _ _ (c' - 1) (by omega) ⟨k + 1, by omega, rfl, fun i q hi hq => ?_, rfl⟩
        by_cases e : i = k
        · subst e; rw [hx] at hq; cases hq
          exact ⟨hiff, hz, by omega⟩
        · exact hd i q (by omega) hq
      rw [pUn_not, pIf_b]
      refine ⟨fun hb2 => ?_, fun hb2 => next fun h => by rw [h] at hb2; cases hb2⟩
      have hu0 : p.used = false := by simpa using hb2
      rw [pBin_sne, pIf_d]
      refine ⟨fun hne => no (fun hk => hne ((hk.2.2.2.2 k p hx).2.1 hu0).1) s' (by assumption), fun heq => ?_⟩
      rw [pBin_ne, pIf_d]
      refine ⟨fun hne => no (fun hk => hne ((hk.2.2.2.2 k p hx).2.1 hu0).2) s' (by assumption), fun heq2 => ?_⟩
      exact next fun _ => ⟨Decidable.not_not.1 heq, Decidable.not_not.1 heq2⟩
    · have := hR s' (by assumption)
      rw [pagesOk_yes ⟨h96, h16, fun i n he => hdone i n (List.getElem?_eq_some_iff.1 he).1 he, hnd, fun i p hp => hd i p (by have := (List.getElem?_eq_some_iff.1 hp).1; omega) hp⟩] at this
      exact this
end
end Go.Proofs.YtkbhjejalkbogaaDoor

/- Pages: 'PagesOk' by the program's own text; how many are free. -/
set_option linter.unusedVariables false
set_option linter.unusedSimpArgs false
namespace Go.Proofs.YtkbhjejalkbogaaDoor
open Go Go.Av

section
variable {w0 : World} {σ : Vw}

theorem arr_idx {b : Nat} {i : Nat} {K : Value → Prop} (h : pIndexAddr 1 (.slice (some ⟨b, 0, none⟩) 96 96) (.int .i64 i) K) : pIndexArr 96 1 (.pointer (some ⟨b, 0, none⟩)) (.int .i64 i) K := by
  obtain ⟨a, len, cap, k, n, h1, h2, h3, h4, h5⟩ := h
  cases h1; cases h2
  exact ⟨_, _, _, rfl, rfl, h3, h4, h5⟩

theorem impl_PagesOk {es : List Value} {x : Pgs} (h : RPgs (Av.get w0 σ) es x) {R : Value → Vw → Prop} (hR : ∀ σ', Keeps σ σ' → R (.bool (pagesOk x)) σ') : AC Tryd.prog w0 n_impl_PagesOk [.agg ⟨es⟩] σ R := by
  have hh := h
  refine ac_impl_PagesOk ?_
  unfold vc_impl_PagesOk cs_impl_PagesOk_2 cs_impl_PagesOk_1
  rw [h.two]
  obtain ⟨u, w, rfl, hu, hw⟩ := h
  simp only [cellOf_agg, List.getD_cons_zero, List.getD_cons_succ]
  classical
  rw [show pagesOk x = decide (OkI x) by unfold pagesOk; exact decide_eq_decide.2 (ok_same x)] at hR
  have no : ¬ OkI x → ∀ s, Keeps σ s → R (.bool false) s := fun hn s hk => by have := hR s hk; simpa [hn] using this
  rw [hu.len, pBin_ne, pIf_d]
  refine ⟨fun hne => no (fun hk => hne (by rw [hk.1]; rfl)) σ (Keeps.refl σ), fun heq => ?_⟩
  have h96 : x.1.length = 96 := by omega
  rw [hw.len, pBin_gt, pIf_d]
  refine ⟨fun hgt => no (fun hk => by have := hk.2.1; omega) σ (Keeps.refl σ), fun hle => ?_⟩
  have h16 : x.2.length ≤ 16 := by omega
  intro b h1 h2
  show pVal true 96 (.agg ⟨List.replicate 96 (.bool false)⟩) (pStore _ (List.replicate 96 (.bool false)) _ _)
  rw [pValN (by simp) (fun c hc => by rw [List.eq_of_mem_replicate hc]; rfl)]
  refine ⟨b, 0, ⟨t_a96_bool, List.replicate 96 (.bool false), 96, (0, 0)⟩, rfl, put_at, by simp, ?_⟩
  have e1 := setAt_mid [] (List.replicate 96 (Value.bool false)) (List.replicate 96 (Value.bool false)) [] rfl
  simp only [List.nil_append, List.append_nil, List.length_nil] at e1
  have e2 : (σ.put b ⟨t_a96_bool, List.replicate 96 (.bool false), 96, (0, 0)⟩).put b ⟨t_a96_bool, setAt (List.replicate 96 (.bool false)) 0 (List.replicate 96 (.bool false)), 96, (0, 0)⟩ = σ.put b ⟨t_a96_bool, (List.replicate 96 [Value.bool false]).flatten, 96, (0, 0)⟩ := by
    rw [put_put, e1]; rfl
  have o0 := made_bools (ety := t_a96_bool) h1 h2
  rw [← e2] at o0
  have k0 : Keeps σ ((σ.put b ⟨t_a96_bool, List.replicate 96 (.bool false), 96, (0, 0)⟩).put b ⟨t_a96_bool, setAt (List.replicate 96 (.bool false)) 0 (List.replicate 96 (.bool false)), 96, (0, 0)⟩) := by rw [e2]; exact Keeps.put h2
  clear e1 e2
  show pLen w _
  rw [hw.len]
  have hF0 : ∀ i, i ∈ [b] → σ i = none := fun i hi => by rw [List.mem_singleton.1 hi]; exact h2
  refine loop_rule (m := x.2.length) (fun c l s => ∃ j : Nat, c + j = x.2.length ∧ Keeps σ s ∧ (∀ (i : Nat) (n : Pn), i < j → x.2[i]? = some n → pnAt x.2 i n ∧ (chI x.1 n).isSome = true) ∧ (lsOf (chI x.1) (x.2.take j)).Nodup ∧
    OSl w0 1 OBo s [b] (.slice (some ⟨b, 0, none⟩) 96 96) (inL 96 (lsOf (chI x.1) (x.2.take j))) ∧ l = [.bool false, .pointer (some ⟨b, 0, none⟩), w, .int .i64 x.2.length, .int .i64 (j : Nat), u, w]) ?_
    ⟨0, by omega, k0, fun i n h => by omega, by simp [lsOf], by simpa [lsOf] using o0, rfl⟩
  rintro c l s L ⟨j, hc, hk, hdone, hnd, os, rfl⟩ hL
  simp only [vget, List.getD_cons_zero, List.getD_cons_succ]
  have hws := hw.mono hk.le fun _ _ h => h
  rw [pBin_lt, pIf_d]
  refine ⟨fun hj => ?_, fun hj => ?_⟩
  · have hx := List.getElem?_eq_getElem (show j < x.2.length by omega)
    generalize hxj : x.2[j]'(by omega) = n at hx
    refine pn_at hws hx fun g hg0 hg1 hg2 hgood => ?_
    rw [hg0, hg1, hg2, pVal_3 rfl rfl rfl]
    refine impl_nameOk hgood.1 ?_
    rw [pUn_not, pIf_b]
    refine ⟨fun hb => no (fun hk => by have := (hk.2.2.1 j n hx).1.1; rw [this] at hb; cases hb) s hk, fun hb => ?_⟩
    have hname : nameOk n.name = true := by simpa using hb
    rw [pBin_gt, pIf_d]
    refine ⟨fun hpos => ?ca, fun h0 => ?cb⟩
    case' ca =>
      obtain ⟨i, hi⟩ : ∃ i, j = i + 1 := ⟨j - 1, by omega⟩
      rw [pBin_sub (by omega), show ((j : Nat) : Int) - 1 = (i : Nat) by omega]
      have hy := List.getElem?_eq_getElem (show i < x.2.length by omega)
      generalize hyi : x.2[i]'(by omega) = y at hy
      refine fl_at hws hy 0 (by omega) rfl fun g2 hg2' hgood2 => ?_
      have hpv : prevN x.2 j n = strLt y.name n.name := by rw [hi]; simp [prevN, hy]
      rw [hg2', pBin_sge, pIf_b]
      refine ⟨fun hb => no (fun hk => by have := (hk.2.2.1 j n hx).1.2.1; rw [hpv] at this; rw [this] at hb; cases hb) s hk, fun hb => ?_⟩
      have hprev : prevN x.2 j n = true := by rw [hpv]; simpa using hb
    case' cb =>
      have hj0 : j = 0 := by omega
      have hprev : prevN x.2 j n = true := by rw [hj0]; rfl
    all_goals
      refine impl_within ?_
      rw [pUn_not, pIf_b]
      refine ⟨fun hb => no (fun hk => by have := (hk.2.2.1 j n hx).1.2.2; rw [this] at hb; cases hb) s hk, fun hb => ?_⟩
      have hin : inB n.size 0 3000 = true := by simpa using hb
      have hin' : 0 ≤ n.size ∧ n.size ≤ 3000 := by simpa [inB] using hin
      refine impl_Chain (mono_pgs hk.le hh) hgood h96 hin' fun v F s1 k1 ov fv => ?_
      rw [pExtract_s rfl, pExtract_s rfl, pUn_not, pIf_b]
      refine ⟨fun hb => no (fun hk => by have := (hk.2.2.1 j n hx).2; rw [this] at hb; cases hb) s1 (hk.trans k1), fun hb => ?_⟩
      have hsome : (chI x.1 n).isSome = true := by simpa using hb
      obtain ⟨r, hr⟩ := Option.isSome_iff_exists.1 hsome
      have ov' : OSl w0 1 ON s1 F v r := by
        rcases ov with h | h
        · rw [hr] at h; exact h
        · rw [hr] at h; cases h
      have hch := (chOf_spec hr).1
      have hlt := lsOf_take (c := chI x.1) hx
      rw [hr, Option.getD_some] at hlt
      have os1 := os.frame (ok_bo w0) (k1.but_at fun i hi => (os.dom (ok_bo w0) i hi).2)
      have hFb : ∀ i, i ∈ F → i ∉ [b] := fun i hi hi' => (os.dom (ok_bo w0) i hi').2 (fv i hi)
      rw [(ov'.rel (ok_n w0)).len]
      refine loop_rule (m := r.length) (fun c' l' s' => ∃ k : Nat, c' + k = r.length ∧ KeepsBut [b] s1 s' ∧ (lsOf (chI x.1) (x.2.take j) ++ r.take k).Nodup ∧ OSl w0 1 OBo s' [b] (.slice (some ⟨b, 0, none⟩) 96 96) (inL 96 (lsOf (chI x.1) (x.2.take j) ++ r.take k)) ∧
        l' = [.bool false, .pointer (some ⟨b, 0, none⟩), w, .int .i64 x.2.length, .int .i64 (j : Nat), v, .int .i64 r.length, .int .i64 (k : Nat), u, w]) ?_ ⟨0, by omega, KeepsBut.refl _ _, by simpa using hnd, by simpa using os1, rfl⟩
      rintro c' l' s' L' ⟨k, hc', kb, hnd', os', rfl⟩ hL'
      simp only [vget, List.getD_cons_zero, List.getD_cons_succ]
      have hks' : Keeps σ s' := kb.old (hk.trans k1) hF0
      have ov2 := ov'.frame (ok_n w0) (kb.at (fun i hi => (ov'.dom (ok_n w0) i hi).2) hFb)
      have rv := ov2.rel (ok_n w0)
      have rl := ov'.1
      rw [pBin_lt, pIf_d]
      refine ⟨fun hkl => ?_, fun hkl => ?_⟩
      · have hrk := List.getElem?_eq_getElem (show k < r.length by omega)
        generalize hrki : r[k]'(by omega) = p at hrk
        have hp96 : p < 96 := by rw [← h96]; exact ch_lt hch (List.mem_of_getElem? hrk)
        refine n_at rv hrk fun g hg => ?_
        rw [hg]
        refine arr_idx ?_
        refine bool_at (os'.rel (ok_bo w0)) (inL_get hp96) fun g' hg' => ?_
        rw [hg', pIf_d]
        have htk : r.take (k + 1) = r.take k ++ [p] := by rw [List.take_add_one, hrk]; rfl
        refine ⟨fun hm => no (fun hk => ?_) s' hks', fun hm => ?_⟩
        · have hn2 := lsOf_pre (j := j + 1) hk.2.2.2.1
          rw [hlt] at hn2
          have e : r = r.take (k + 1) ++ r.drop (k + 1) := (List.take_append_drop _ _).symm
          rw [e, htk] at hn2
          rw [show ∀ (A B C D : List Nat), A ++ (B ++ C ++ D) = (A ++ B) ++ (C ++ D) by intros; simp] at hn2
          exact (List.nodup_append.1 hn2).2.2 p hm p (by simp) rfl
        · refine arr_idx ?_
          refine bool_store os' (inL_get hp96) fun s2 k2 o2 => ?_
          rw [pBin_add (by omega)]
          rw [inL_set hp96, List.append_assoc, ← htk] at o2
          refine hL' _ _ (c' - 1) (by omega) ⟨k + 1, by omega, kb.trans k2, ?_, o2, rfl⟩
          rw [htk, ← List.append_assoc]
          exact List.nodup_append.2 ⟨hnd', by simp, fun a ha d hd e => by rw [List.mem_singleton.1 hd] at e; exact hm (e ▸ ha)⟩
      · have hkr : k = r.length := by omega
        subst hkr
        rw [List.take_length, ← hlt] at hnd' os'
        show pBin Tryd.prog 3 .add _ _ _
        rw [pBin_add (by omega)]
        refine hL _ _ (c - 1) (by omega) ⟨j + 1, by omega, hks', fun i m hi he => ?_, hnd', os', rfl⟩
        by_cases e : i = j
        · subst e
          rw [hx] at he; cases he
          exact ⟨⟨hname, hprev, hin⟩, hsome⟩
        · exact hdone i m (by omega) he
  · have hjl : j = x.2.length := by omega
    subst hjl
    rw [List.take_length] at hnd os
    show pLen u _
    have hus0 := hu.mono hk.le fun _ _ h => h
    rw [hus0.len, h96]
    have ob := os.rel (ok_bo w0)
    refine loop_rule (m := 96) (fun c' l' s' => ∃ k : Nat, c' + k = 96 ∧ s' = s ∧ (∀ (i : Nat) (p : Pg), i < k → x.1[i]? = some p → i ∉ lsOf (chI x.1) x.2 → p.used = false ∧ p.data = ⟨#[]⟩ ∧ p.next = -1) ∧
      l' = [.bool false, .pointer (some ⟨b, 0, none⟩), u, .int .i64 96, .int .i64 (k : Nat)]) ?_ ⟨0, by omega, rfl, fun i p h => by omega, rfl⟩
    rintro c' l' s' L' ⟨k, hc', rfl, hd, rfl⟩ hL'
    simp only [vget, List.getD_cons_zero, List.getD_cons_succ]
    have hus := hu.mono hk.le fun _ _ h => h
    rw [pBin_lt, pIf_d]
    refine ⟨fun hk96 => ?_, fun hk96 => ?_⟩
    · have hx := List.getElem?_eq_getElem (show k < x.1.length by omega)
      generalize hxk : x.1[k]'(by omega) = p at hx
      refine pg_at hus hx fun g hg0 hg1 hg2 hgood => ?_
      rw [hg0, hg1, hg2, pVal_3 rfl rfl rfl]
      refine arr_idx ?_
      refine bool_at ob (inL_get (show k < 96 by omega)) fun g' hg' => ?_
      have next : (k ∉ lsOf (chI x.1) x.2 → p.used = false ∧ p.data = ⟨#[]⟩ ∧ p.next = -1) → pBin Tryd.prog 3 .add (.int .i64 (k : Nat)) (.int .i64 1) (fun v99 => L' [.bool false, .pointer (some ⟨b, 0, none⟩), u, .int .i64 96, v99] s') := fun hz => by
        rw [pBin_add (by omega)]
        refine hL' _ _ (c' - 1) (by omega) ⟨k + 1, by omega, rfl, fun i q hi hq => ?_, rfl⟩
        by_cases e : i = k
        · subst e; rw [hx] at hq; cases hq
          exact hz
        · exact hd i q (by omega) hq
      rw [hg', pUn_not, pIf_b]
      refine ⟨fun hb => ?_, fun hb => next fun hn => by simp [hn] at hb⟩
      have hni : k ∉ lsOf (chI x.1) x.2 := by simpa using hb
      rw [pIf_b]
      refine ⟨fun hu => no (fun hk => by rw [(hk.2.2.2.2 k p hx hni).1] at hu; cases hu) s' (by assumption), fun hu => ?_⟩
      rw [pBin_sne, pIf_d]
      refine ⟨fun hne => no (fun hk => hne (hk.2.2.2.2 k p hx hni).2.1) s' (by assumption), fun heq => ?_⟩
      rw [pBin_ne, pIf_d]
      refine ⟨fun hne => no (fun hk => hne (hk.2.2.2.2 k p hx hni).2.2) s' (by assumption), fun heq2 => ?_⟩
      exact next fun _ => ⟨hu, Decidable.not_not.1 heq, Decidable.not_not.1 heq2⟩
    · have := hR s' (by assumption)
      have hok : OkI x := ⟨h96, h16, fun i n he => hdone i n (List.getElem?_eq_some_iff.1 he).1 he, hnd, fun i p hp => hd i p (by have := (List.getElem?_eq_some_iff.1 hp).1; omega) hp⟩
      simpa [hok] using this

end
end Go.Proofs.YtkbhjejalkbogaaDoor

/- Pages: size, copy, comparison; the laws 'PagesOk' and 'PagesFree', of the functions alone; how pages are opened. -/
set_option linter.unusedVariables false
set_option linter.unusedSimpArgs false
namespace Go.Proofs.YtkbhjejalkbogaaDoor
open Go Go.Av Go.RowKit

def szPg (x : Pg) : Nat := x.data.size
def szPn (x : Pn) : Nat := x.name.size
def szPgs (x : Pgs) : Nat := (x.1.length + sumBy szPg x.1) + (x.2.length + sumBy szPn x.2)

section
variable {w0 : World} {σ : Vw}

theorem szPage {es : List Value} {x : Pg} {m : Int} {R : Value → Vw → Prop} (h : RPg (Av.get w0 σ) es x) (hm : 0 ≤ m ∧ m ≤ 9223372036854775807) (hR : R (.int .i64 (Av.left m (szPg x))) σ) : AC Tryd.prog w0 n_laws_szPage [.agg ⟨es⟩, .int .i64 m] σ R := by
  obtain ⟨rfl, hg⟩ := h
  refine ac_laws_szPage ?_
  unfold vc_laws_szPage
  rw [pg_three]
  show pLenS (.string x.data) _
  have := hg.1
  unfold szPg at hR
  rw [pLenS_s, pBin_sub (by omega), pBin_lt, pIf_d]
  refine ⟨fun hlt => ?_, fun hge => ?_⟩
  · rw [Av.left_low (by omega)] at hR; exact hR
  · rw [Av.left_in (by omega)] at hR; exact hR
theorem szPageName {es : List Value} {x : Pn} {m : Int} {R : Value → Vw → Prop} (h : RPn (Av.get w0 σ) es x) (hm : 0 ≤ m ∧ m ≤ 9223372036854775807) (hR : R (.int .i64 (Av.left m (szPn x))) σ) : AC Tryd.prog w0 n_laws_szPageName [.agg ⟨es⟩, .int .i64 m] σ R := by
  obtain ⟨rfl, hg⟩ := h
  refine ac_laws_szPageName ?_
  unfold vc_laws_szPageName
  rw [pn_three]
  show pLenS (.string x.name) _
  have := hg.1
  unfold szPn at hR
  rw [pLenS_s, pBin_sub (by omega), pBin_lt, pIf_d]
  refine ⟨fun hlt => ?_, fun hge => ?_⟩
  · rw [Av.left_low (by omega)] at hR; exact hR
  · rw [Av.left_in (by omega)] at hR; exact hR
theorem szPageS {v : Value} {xs : List Pg} {m : Int} (h : RSl 3 RPg (Av.get w0 σ) v xs) (hm : 0 ≤ m ∧ m ≤ 9223372036854775807) {R : Value → Vw → Prop} (hR : R (.int .i64 (Av.left m (xs.length + sumBy szPg xs))) σ) : AC Tryd.prog w0 n_laws_szPageS [v, .int .i64 m] σ R := by
  refine ac_laws_szPageS ?_
  have e : vc_laws_szPageS w0 v (.int .i64 m) σ R = VszS Tryd.prog w0 3 3 n_laws_szPage v (.int .i64 m) σ R := by kernel_rfl
  rw [e]
  exact szS_gen (sz := szPg) (fun x _ es m R' h hm hR => szPage h hm hR) h hm hR
theorem szPageNameS {v : Value} {xs : List Pn} {m : Int} (h : RSl 3 RPn (Av.get w0 σ) v xs) (hm : 0 ≤ m ∧ m ≤ 9223372036854775807) {R : Value → Vw → Prop} (hR : R (.int .i64 (Av.left m (xs.length + sumBy szPn xs))) σ) : AC Tryd.prog w0 n_laws_szPageNameS [v, .int .i64 m] σ R := by
  refine ac_laws_szPageNameS ?_
  have e : vc_laws_szPageNameS w0 v (.int .i64 m) σ R = VszS Tryd.prog w0 3 3 n_laws_szPageName v (.int .i64 m) σ R := by kernel_rfl
  rw [e]
  exact szS_gen (sz := szPn) (fun x _ es m R' h hm hR => szPageName h hm hR) h hm hR
theorem szPages {es : List Value} {x : Pgs} {m : Int} {R : Value → Vw → Prop} (h : RPgs (Av.get w0 σ) es x) (hm : 0 ≤ m ∧ m ≤ 9223372036854775807) (hR : R (.int .i64 (Av.left m (szPgs x))) σ) : AC Tryd.prog w0 n_laws_szPages [.agg ⟨es⟩, .int .i64 m] σ R := by
  refine ac_laws_szPages ?_
  unfold vc_laws_szPages
  rw [h.two]
  obtain ⟨u, w, rfl, hu, hw⟩ := h
  simp only [cellOf_agg, List.getD_cons_zero, List.getD_cons_succ]
  have hsz : szPgs x = (x.1.length + sumBy szPg x.1) + (x.2.length + sumBy szPn x.2) := rfl
  refine szPageS hu hm ?_
  rw [pBin_lt, pIf_d]
  refine ⟨fun hlt => ?_, fun hge => ?_⟩
  · rw [Av.left_neg] at hlt
    rw [Av.left_low (by omega)] at hR; exact hR
  rw [Av.left_neg] at hge
  rw [Av.left_in (by omega)]
  refine szPageNameS hw (by omega) ?_
  rw [pBin_lt, pIf_d]
  refine ⟨fun hlt => ?_, fun hge2 => ?_⟩
  · rw [Av.left_neg] at hlt
    rw [Av.left_low (by omega)] at hR; exact hR
  rw [Av.left_neg] at hge2
  rw [Av.left_in (by omega)]
  rw [Av.left_in (by omega)] at hR
  rw [show m - ((x.1.length + sumBy szPg x.1 : Nat) : Int) - ((x.2.length + sumBy szPn x.2 : Nat) : Int) = m - ((szPgs x : Nat) : Int) by omega]
  exact hR

theorem toPage {es : List Value} {x : Pg} {R : Value → Vw → Prop} (h : RPg (Av.get w0 σ) es x) (hR : ∀ es' F σ', Keeps σ σ' → OPg σ' F es' x → (∀ b, b ∈ F → σ b = none) → R (.agg ⟨es'⟩) σ') : AC Tryd.prog w0 n_laws_toPage [.agg ⟨es⟩] σ R := by
  obtain ⟨rfl, hg⟩ := h
  refine ac_laws_toPage ?_
  unfold vc_laws_toPage
  rw [pg_three]
  simp only [cellOf_agg, encPg, List.getD_cons_zero, List.getD_cons_succ]
  rw [pVal1 rfl, pVal1 rfl, pVal1 rfl, pVal_3 rfl rfl rfl]
  exact hR _ [] σ (Keeps.refl σ) ⟨rfl, rfl, hg⟩ (by simp)
theorem toPageName {es : List Value} {x : Pn} {R : Value → Vw → Prop} (h : RPn (Av.get w0 σ) es x) (hR : ∀ es' F σ', Keeps σ σ' → OPn σ' F es' x → (∀ b, b ∈ F → σ b = none) → R (.agg ⟨es'⟩) σ') : AC Tryd.prog w0 n_laws_toPageName [.agg ⟨es⟩] σ R := by
  obtain ⟨rfl, hg⟩ := h
  refine ac_laws_toPageName ?_
  unfold vc_laws_toPageName
  rw [pn_three]
  simp only [cellOf_agg, encPn, List.getD_cons_zero, List.getD_cons_succ]
  rw [pVal1 rfl, pVal1 rfl, pVal1 rfl, pVal_3 rfl rfl rfl]
  exact hR _ [] σ (Keeps.refl σ) ⟨rfl, rfl, hg⟩ (by simp)
theorem toPageS {v : Value} {xs : List Pg} (h : RSl 3 RPg (Av.get w0 σ) v xs) (hl : xs.length ≤ 1000000000000) {R : Value → Vw → Prop}
    (hR : ∀ v' F σ', Keeps σ σ' → OSl w0 3 OPg σ' F v' xs → (∀ b, b ∈ F → σ b = none) → R v' σ') : AC Tryd.prog w0 n_laws_toPageS [v] σ R := by
  refine ac_laws_toPageS ?_
  have e : vc_laws_toPageS w0 v σ R = VtoS Tryd.prog w0 3 t_impl_Page 3 32 n_laws_toPage [.bool false, .string ⟨#[]⟩, .int .i64 0] v σ R := by kernel_rfl
  rw [e]
  exact toS_gen (n := 3) (Rel := RPg) (bytes := 32) rfl (ok_pg w0) (fun _ _ _ _ hl h => h) (fun x hx s es R' _ h hR => toPage h hR) h (by omega) hR
theorem toPageNameS {v : Value} {xs : List Pn} (h : RSl 3 RPn (Av.get w0 σ) v xs) (hl : xs.length ≤ 1000000000000) {R : Value → Vw → Prop}
    (hR : ∀ v' F σ', Keeps σ σ' → OSl w0 3 OPn σ' F v' xs → (∀ b, b ∈ F → σ b = none) → R v' σ') : AC Tryd.prog w0 n_laws_toPageNameS [v] σ R := by
  refine ac_laws_toPageNameS ?_
  have e : vc_laws_toPageNameS w0 v σ R = VtoS Tryd.prog w0 3 t_impl_PageName 3 32 n_laws_toPageName [.string ⟨#[]⟩, .int .i64 0, .int .i64 0] v σ R := by kernel_rfl
  rw [e]
  exact toS_gen (n := 3) (Rel := RPn) (bytes := 32) rfl (ok_pn w0) (fun _ _ _ _ hl h => h) (fun x hx s es R' _ h hR => toPageName h hR) h (by omega) hR

theorem ok_pgs (w0 : World) : OOk w0 2 RPgs (OPgs w0) := by
  refine ⟨?_, ?_, ?_, ?_, ?_, ?_⟩
  · rintro σ F es x ⟨u, v, F1, F2, h1, h2, h3, h4, h5⟩; exact ⟨u, v, h1, h2.rel (ok_pg w0), h3.rel (ok_pn w0)⟩
  · rintro σ σ' F es x ⟨u, v, F1, F2, h1, h2, h3, rfl, h5⟩ hF
    exact ⟨u, v, F1, F2, h1, h2.frame (ok_pg w0) fun b hb => hF b (List.mem_append_left _ hb), h3.frame (ok_pn w0) fun b hb => hF b (List.mem_append_right _ hb), rfl, h5⟩
  · rintro σ F es x ⟨u, v, F1, F2, h1, h2, h3, rfl, h5⟩ b hb
    rcases List.mem_append.1 hb with h | h
    · exact h2.dom (ok_pg w0) b h
    · exact h3.dom (ok_pn w0) b h
  · rintro σ F es x ⟨u, v, F1, F2, h1, h2, h3, h4, h5⟩; exact h5
  · rintro σ F es x ⟨u, v, F1, F2, rfl, h2, h3, h4, h5⟩; rfl
  · rintro σ F es x ⟨u, v, F1, F2, rfl, h2, h3, h4, h5⟩ c hc
    simp at hc
    rcases hc with rfl | rfl
    · exact OSl.one' h2
    · exact OSl.one' h3

theorem toPages {es : List Value} {x : Pgs} {R : Value → Vw → Prop} (h : RPgs (Av.get w0 σ) es x) (hl : x.1.length ≤ 1000000000000) (hl2 : x.2.length ≤ 1000000000000) (hR : ∀ es' F σ', Keeps σ σ' → OPgs w0 σ' F es' x → (∀ b, b ∈ F → σ b = none) → R (.agg ⟨es'⟩) σ') : AC Tryd.prog w0 n_laws_toPages [.agg ⟨es⟩] σ R := by
  refine ac_laws_toPages ?_
  unfold vc_laws_toPages
  rw [h.two]
  obtain ⟨u, w, rfl, hu, hw⟩ := h
  simp only [cellOf_agg, List.getD_cons_zero, List.getD_cons_succ]
  refine toPageS hu hl fun u' F1 s1 k1 o1 f1 => ?_
  rw [pVal1 (OSl.one' o1)]
  refine toPageNameS (hw.mono k1.le fun _ _ h => h) hl2 fun w' F2 s2 k2 o2 f2 => ?_
  rw [pVal1 (OSl.one' o2), pVal_2 (OSl.one' o1) (OSl.one' o2)]
  have o1' := o1.frame (ok_pg w0) (k2.but_at fun b hb => (o1.dom (ok_pg w0) b hb).2)
  refine hR _ (F1 ++ F2) s2 (k1.trans k2) ⟨u', w', F1, F2, rfl, o1', o2, rfl, ?_⟩ fun b hb => ?_
  · exact List.nodup_append.2 ⟨o1.2.1, o2.2.1, fun a ha b hb e => (o1.dom (ok_pg w0) a ha).2 (f2 a (e ▸ hb))⟩
  · rcases List.mem_append.1 hb with h | h
    · exact f1 b h
    · cases hs : σ b with
      | none => rfl
      | some r => have := f2 b h; rw [k1 b r hs] at this; cases this

theorem eqPage {es es' : List Value} {x y : Pg} {R : Value → Vw → Prop} (h : RPg (Av.get w0 σ) es x) (h' : RPg (Av.get w0 σ) es' y) (hR : R (.bool (decide (x = y))) σ) : AC Tryd.prog w0 n_laws_eqPage [.agg ⟨es⟩, .agg ⟨es'⟩] σ R := by
  obtain ⟨rfl, hg⟩ := h
  obtain ⟨rfl, hg'⟩ := h'
  refine ac_laws_eqPage ?_
  unfold vc_laws_eqPage
  rw [pg_three, pg_three]
  obtain ⟨a, p, q⟩ := x
  obtain ⟨b, p', q'⟩ := y
  simp only [encPg, cellOf_agg, List.getD_cons_zero, List.getD_cons_succ]
  have no : ¬ (a = b ∧ p = p' ∧ q = q') → R (.bool false) σ := fun hn => by
    have : ¬ (Pg.mk a p q = Pg.mk b p' q') := fun e => hn (by cases e; exact ⟨rfl, rfl, rfl⟩)
    simpa [this] using hR
  rw [pBin_b (v := .bool (!(a == b))) (by kernel_rfl) rfl, pIf_b]
  refine ⟨fun h => no fun e => by simp [e.1] at h, fun e1 => ?_⟩
  rw [pBin_sne, pIf_d]
  refine ⟨fun h => no fun e => h e.2.1, fun e2 => ?_⟩
  rw [pBin_ne, pIf_d]
  refine ⟨fun h => no fun e => h e.2.2, fun e3 => ?_⟩
  have h1 : a = b := by simpa using e1
  have h2 := Decidable.not_not.1 e2
  have h3 := Decidable.not_not.1 e3
  subst h1 h2 h3
  simpa using hR
theorem eqPageName {es es' : List Value} {x y : Pn} {R : Value → Vw → Prop} (h : RPn (Av.get w0 σ) es x) (h' : RPn (Av.get w0 σ) es' y) (hR : R (.bool (decide (x = y))) σ) : AC Tryd.prog w0 n_laws_eqPageName [.agg ⟨es⟩, .agg ⟨es'⟩] σ R := by
  obtain ⟨rfl, hg⟩ := h
  obtain ⟨rfl, hg'⟩ := h'
  refine ac_laws_eqPageName ?_
  unfold vc_laws_eqPageName
  rw [pn_three, pn_three]
  obtain ⟨a, p, q⟩ := x
  obtain ⟨b, p', q'⟩ := y
  simp only [encPn, cellOf_agg, List.getD_cons_zero, List.getD_cons_succ]
  have no : ¬ (a = b ∧ p = p' ∧ q = q') → R (.bool false) σ := fun hn => by
    have : ¬ (Pn.mk a p q = Pn.mk b p' q') := fun e => hn (by cases e; exact ⟨rfl, rfl, rfl⟩)
    simpa [this] using hR
  rw [pBin_sne, pIf_d]
  refine ⟨fun h => no fun e => h e.1, fun e1 => ?_⟩
  rw [pBin_ne, pIf_d]
  refine ⟨fun h => no fun e => h e.2.1, fun e2 => ?_⟩
  rw [pBin_ne, pIf_d]
  refine ⟨fun h => no fun e => h e.2.2, fun e3 => ?_⟩
  have h1 := Decidable.not_not.1 e1
  have h2 := Decidable.not_not.1 e2
  have h3 := Decidable.not_not.1 e3
  subst h1 h2 h3
  simpa using hR
theorem eqPageS {v v' : Value} {xs ys : List Pg} (h : RSl 3 RPg (Av.get w0 σ) v xs) (h' : RSl 3 RPg (Av.get w0 σ) v' ys) {R : Value → Vw → Prop} (hR : R (.bool (decide (xs = ys))) σ) : AC Tryd.prog w0 n_laws_eqPageS [v, v'] σ R := by
  refine ac_laws_eqPageS ?_
  have e : vc_laws_eqPageS w0 v v' σ R = VeqS Tryd.prog w0 3 3 n_laws_eqPage v v' σ R := by kernel_rfl
  rw [e]
  exact eqS_gen (fun x _ y es es' R' h h' hR => eqPage h h' hR) h h' hR
theorem eqPageNameS {v v' : Value} {xs ys : List Pn} (h : RSl 3 RPn (Av.get w0 σ) v xs) (h' : RSl 3 RPn (Av.get w0 σ) v' ys) {R : Value → Vw → Prop} (hR : R (.bool (decide (xs = ys))) σ) : AC Tryd.prog w0 n_laws_eqPageNameS [v, v'] σ R := by
  refine ac_laws_eqPageNameS ?_
  have e : vc_laws_eqPageNameS w0 v v' σ R = VeqS Tryd.prog w0 3 3 n_laws_eqPageName v v' σ R := by kernel_rfl
  rw [e]
  exact eqS_gen (fun x _ y es es' R' h h' hR => eqPageName h h' hR) h h' hR
theorem eqPages {es es' : List Value} {x y : Pgs} {R : Value → Vw → Prop} (h : RPgs (Av.get w0 σ) es x) (h' : RPgs (Av.get w0 σ) es' y) (hR : R (.bool (decide (x = y))) σ) : AC Tryd.prog w0 n_laws_eqPages [.agg ⟨es⟩, .agg ⟨es'⟩] σ R := by
  refine ac_laws_eqPages ?_
  unfold vc_laws_eqPages
  rw [h.two, h'.two]
  obtain ⟨u, w, rfl, hu, hw⟩ := h
  obtain ⟨u', w', rfl, hu', hw'⟩ := h'
  simp only [cellOf_agg, List.getD_cons_zero, List.getD_cons_succ]
  obtain ⟨a, b⟩ := x
  obtain ⟨c, d⟩ := y
  refine eqPageS hu hu' ?_
  rw [pUn_not, pIf_b]
  by_cases e1 : a = c
  · subst e1
    refine ⟨fun h => by simp at h, fun _ => ?_⟩
    refine eqPageNameS hw hw' ?_
    rw [pUn_not, pIf_b]
    by_cases e2 : b = d
    · subst e2; simpa using hR
    · simpa [e2] using hR
  · simpa [e1] using hR
end

theorem open_page {H : Type} {enc : TypeId × Value → H} {W : World} {spare : Nat → Bool} (fuel : Nat) (es : List Value) (y : DataW H × List MemPlace) (h : DataW.trod enc Tryd.prog W 0 spare true fuel t_laws_Page es = some y) (hl : es.length = 3) : ∃ x, RPg (Av.get W σ0) es x := by
  have hT : Tryd.prog.underlying t_laws_Page = some (.struct (fsOf Tryd.prog t_laws_Page)) := by kernel_rfl
  obtain ⟨f0, y0, l0, h0⟩ := open_field' hT 0 t_bool 0 1 (by kernel_rfl) (by kernel_rfl) h
  obtain ⟨f1, y1, l1, h1⟩ := open_field' hT 1 t_string 1 1 (by kernel_rfl) (by kernel_rfl) h
  obtain ⟨f2, y2, l2, h2⟩ := open_field' hT 2 t_int 2 1 (by kernel_rfl) (by kernel_rfl) h
  obtain ⟨b, hb⟩ := open_bool (by kernel_rfl) h0
  obtain ⟨t, ht, ht2⟩ := open_str (by kernel_rfl) h1
  obtain ⟨m, hm, hm2⟩ := open_int (by kernel_rfl) h2
  refine ⟨⟨b, t, m⟩, ?_, ht2, hm2⟩
  match es, hl with
  | [p, q, r], _ =>
    simp at hb ht hm
    subst hb ht hm
    rfl
theorem open_pagename {H : Type} {enc : TypeId × Value → H} {W : World} {spare : Nat → Bool} (fuel : Nat) (es : List Value) (y : DataW H × List MemPlace) (h : DataW.trod enc Tryd.prog W 0 spare true fuel t_laws_PageName es = some y) (hl : es.length = 3) : ∃ x, RPn (Av.get W σ0) es x := by
  have hT : Tryd.prog.underlying t_laws_PageName = some (.struct (fsOf Tryd.prog t_laws_PageName)) := by kernel_rfl
  obtain ⟨f0, y0, l0, h0⟩ := open_field' hT 0 t_string 0 1 (by kernel_rfl) (by kernel_rfl) h
  obtain ⟨f1, y1, l1, h1⟩ := open_field' hT 1 t_int 1 1 (by kernel_rfl) (by kernel_rfl) h
  obtain ⟨f2, y2, l2, h2⟩ := open_field' hT 2 t_int 2 1 (by kernel_rfl) (by kernel_rfl) h
  obtain ⟨t, ht, ht2⟩ := open_str (by kernel_rfl) h0
  obtain ⟨m, hm, hm2⟩ := open_int (by kernel_rfl) h1
  obtain ⟨k, hk, hk2⟩ := open_int (by kernel_rfl) h2
  refine ⟨⟨t, m, k⟩, ?_, ht2, hm2, hk2⟩
  match es, hl with
  | [p, q, r], _ =>
    simp at ht hm hk
    subst ht hm hk
    rfl
theorem open_pages {H : Type} {enc : TypeId × Value → H} {W : World} {spare : Nat → Bool} (fuel : Nat) (es : List Value) (y : DataW H × List MemPlace) (h : DataW.trod enc Tryd.prog W 0 spare true fuel t_laws_Pages es = some y) (hl : es.length = 2) : ∃ x, RPgs (Av.get W σ0) es x := by
  have hT : Tryd.prog.underlying t_laws_Pages = some (.struct (fsOf Tryd.prog t_laws_Pages)) := by kernel_rfl
  obtain ⟨f0, y0, l0, h0⟩ := open_field' hT 0 t_s_laws_Page 0 1 (by kernel_rfl) (by kernel_rfl) h
  obtain ⟨f1, y1, l1, h1⟩ := open_field' hT 1 t_s_laws_PageName 1 1 (by kernel_rfl) (by kernel_rfl) h
  obtain ⟨u, ps, hu, hus⟩ := open_rsl (t := t_s_laws_Page) (e := t_laws_Page) (n := 3) (R := RPg) (by kernel_rfl) (by kernel_rfl) open_page h0
  obtain ⟨v, ns, hv, hvs⟩ := open_rsl (t := t_s_laws_PageName) (e := t_laws_PageName) (n := 3) (R := RPn) (by kernel_rfl) (by kernel_rfl) open_pagename h1
  refine ⟨(ps, ns), u, v, ?_, hus, hvs⟩
  match es, hl with
  | [p, q], _ =>
    simp at hu hv
    subst hu hv
    rfl
end Go.Proofs.YtkbhjejalkbogaaDoor

/- The laws 'PagesOk' and 'PagesFree', of the functions alone. -/
set_option linter.unusedVariables false
set_option linter.unusedSimpArgs false
namespace Go.Proofs.YtkbhjejalkbogaaDoor
open Go Go.Av

section
variable {w0 : World} {σ : Vw}

theorem RPgs.pair {rd : Addr → Option Value} {es : List Value} {x : Pgs} (h : RPgs rd es x) : ∃ a b, es = [a, b] := by
  obtain ⟨u, v, rfl, _⟩ := h
  exact ⟨u, v, rfl⟩

end
end Go.Proofs.YtkbhjejalkbogaaDoor

/- The text of a name: 'PagesGet', by either reading. -/
set_option linter.unusedVariables false
set_option linter.unusedSimpArgs false
namespace Go.Proofs.YtkbhjejalkbogaaDoor
open Go Go.Av

def pnIdx : List Pn → ByteArray → Option Nat
  | [], _ => none
  | n :: r, x => if n.name = x then some 0 else (pnIdx r x).map (· + 1)
theorem pnIdx_some {ns : List Pn} {x : ByteArray} : ∀ {j : Nat}, pnIdx ns x = some j → ∃ n, ns[j]? = some n ∧ n.name = x := by
  induction ns with
  | nil => intro j h; simp [pnIdx] at h
  | cons s r ih =>
    intro j h
    unfold pnIdx at h
    split at h
    · rename_i e; cases h; exact ⟨s, rfl, e⟩
    · cases hr : pnIdx r x with
      | none => rw [hr] at h; cases h
      | some i => rw [hr] at h; cases h; simpa using ih hr
theorem pnIdx_at {ns : List Pn} {x : ByteArray} : ∀ {j : Nat} {n : Pn}, ns[j]? = some n → n.name = x → (∀ (i : Nat) (y : Pn), i < j → ns[i]? = some y → y.name ≠ x) → pnIdx ns x = some j := by
  induction ns with
  | nil => intro j n h; simp at h
  | cons s r ih =>
    intro j n h hx hn
    unfold pnIdx
    cases j with
    | zero => simp at h; subst h; rw [if_pos hx]
    | succ j =>
      rw [if_neg (hn 0 s (by omega) rfl), ih (by simpa using h) hx fun i y hi hy => hn (i + 1) y (by omega) (by simpa using hy)]
      rfl
theorem pnIdx_none {ns : List Pn} {x : ByteArray} (h : ∀ (i : Nat) (y : Pn), ns[i]? = some y → y.name ≠ x) : pnIdx ns x = none := by
  induction ns with
  | nil => rfl
  | cons s r ih =>
    unfold pnIdx
    rw [if_neg (h 0 s rfl), ih fun i y hy => h (i + 1) y (by simpa using hy)]
    rfl

/-- A place as a number, -1 for none. -/
def plI : Option Nat → Int
  | some j => j
  | none => -1
/-- What lies in a page. -/
def dataAt (ps : List Pg) (i : Nat) : ByteArray := match ps[i]? with | some p => p.data | none => ⟨#[]⟩
def catD (ps : List Pg) (l : List Nat) : ByteArray := l.foldl (fun s i => s ++ dataAt ps i) ⟨#[]⟩
theorem catD_take {ps : List Pg} {l : List Nat} {j i : Nat} (hj : l[j]? = some i) : catD ps (l.take (j + 1)) = catD ps (l.take j) ++ dataAt ps i := foldl_take hj
theorem ch_size {e : Int → Prop} {ps : List Pg} : ∀ {r : List Nat} {a l : Int}, Ch e ps r a l → ∀ (s : ByteArray), ((r.foldl (fun s i => s ++ dataAt ps i) s).size : Int) = s.size + l
  | [], a, l, h, s => by have := h.2; simp [this]
  | i :: r, a, l, ⟨h1, h2, p, h3, h4, h5, h6⟩, s => by
    rw [List.foldl_cons, ch_size h6, ByteArray.size_append]
    have : dataAt ps i = p.data := by simp [dataAt, h3]
    rw [this]; omega
theorem ch_small {e : Int → Prop} {ps : List Pg} : ∀ {r : List Nat} {a l : Int}, Ch e ps r a l → ∀ i, i ∈ r → (dataAt ps i).size ≤ 40
  | [], a, l, h, i, hi => by cases hi
  | k :: r, a, l, ⟨h1, h2, p, h3, h4, h5, h6⟩, i, hi => by
    rcases List.mem_cons.1 hi with e | e
    · subst e
      have : dataAt ps i = p.data := by simp [dataAt, h3]
      rw [this]; omega
    · exact ch_small h6 i e
theorem catD_le {ps : List Pg} : ∀ {l : List Nat}, (∀ i, i ∈ l → (dataAt ps i).size ≤ 40) → (catD ps l).size ≤ 40 * l.length := by
  intro l
  suffices ∀ s : ByteArray, (∀ i, i ∈ l → (dataAt ps i).size ≤ 40) → (l.foldl (fun s i => s ++ dataAt ps i) s).size ≤ s.size + 40 * l.length by
    intro h
    have h2 := this ⟨#[]⟩ h
    have e : (⟨#[]⟩ : ByteArray).size = 0 := rfl
    rw [e, Nat.zero_add] at h2
    exact h2
  induction l with
  | nil => intro s _; simp
  | cons a r ih =>
    intro s h
    rw [List.foldl_cons]
    have := ih (s ++ dataAt ps a) fun i hi => h i (List.mem_cons_of_mem _ hi)
    rw [ByteArray.size_append] at this
    have h2 := h a List.mem_cons_self
    simp only [List.length_cons]
    omega

theorem chS_chain {ps : List Pg} {n : Pn} {r : List Nat} (h : chS ps n = some r) : Ch (fun a => a < 0) ps r n.first n.size := (chOf_spec h).1
/-- What a name's text is. -/
noncomputable def textOf (x : Pgs) (n : Pn) : ByteArray := catD x.1 ((chS x.1 n).getD [])
noncomputable def getP (x : Pgs) (name : ByteArray) : ByteArray × Bool :=
  if pagesOk x = true then match (pnIdx x.2 name).bind (x.2[·]?) with
    | some n => (textOf x n, true)
    | none => (⟨#[]⟩, false)
  else (⟨#[]⟩, false)

theorem OkS.chI {x : Pgs} (h : OkS x) {j : Nat} {n : Pn} (hj : x.2[j]? = some n) : ∃ r, chI x.1 n = some r ∧ chS x.1 n = some r := by
  have h' := (ok_same x).1 h
  obtain ⟨r, hr⟩ := Option.isSome_iff_exists.1 (h'.2.2.1 j n hj).2
  exact ⟨r, hr, chS_of_chI hr⟩
theorem pagesOk_iff {x : Pgs} : pagesOk x = true ↔ OkS x := by simp [pagesOk]
theorem OkS.size {x : Pgs} (h : OkS x) {j : Nat} {n : Pn} (hj : x.2[j]? = some n) : 0 ≤ n.size ∧ n.size ≤ 3000 := by
  have := ((h.2.2.1 j n hj).1).2.2
  simpa [inB] using this

section
variable {w0 : World} {σ : Vw}

theorem RSl.elem {α : Type} {n : Nat} {R : (Addr → Option Value) → List Value → α → Prop} {rd : Addr → Option Value} {v : Value} {xs : List α} (h : RSl n R rd v xs) {j : Nat} {x : α} (hj : xs[j]? = some x) : ∃ es, R rd es x := by
  obtain ⟨A, cap, _, _, h3⟩ := h
  obtain ⟨a, es, _, _, _, h⟩ := h3 j x hj
  exact ⟨es, h⟩
theorem good_fl {α : Type} {n : Nat} {enc : α → List Value} {good : α → Prop} {rd : Addr → Option Value} {v : Value} {xs : List α} (h : RSl n (RFl enc good) rd v xs) {j : Nat} {x : α} (hj : xs[j]? = some x) : good x := by
  obtain ⟨es, h⟩ := RSl.elem h hj
  exact h.2

theorem impl_find {es : List Value} {x : Pgs} {name : ByteArray} (h : RPgs (Av.get w0 σ) es x) {R : Value → Vw → Prop} (hR : ∀ σ', Keeps σ σ' → R (.int .i64 (plI (pnIdx x.2 name))) σ') : AC Tryd.prog w0 n_impl_Pages_find [.agg ⟨es⟩, .string name] σ R := by
  refine ac_impl_Pages_find ?_
  unfold vc_impl_Pages_find
  rw [RPgs.two h, pVal1 rfl]
  obtain ⟨u, v, rfl, hu, hv⟩ := h
  have hl := hv.le
  simp only [cellOf_agg, List.getD_cons_zero, List.getD_cons_succ]
  intro b h1 h2
  have k1 : Keeps σ (σ.put b ⟨9, [.string name], 1, (0, 0)⟩) := Keeps.put h2
  have hb : (σ.put b ⟨9, [.string name], 1, (0, 0)⟩) b = some ⟨9, [.string name], 1, (0, 0)⟩ := put_at
  have hR := hR _ k1
  have hv := hv.mono k1.le fun _ _ h => h
  show AC _ _ _ _ (σ.put b ⟨9, [.string name], 1, (0, 0)⟩) _
  generalize σ.put b ⟨9, [.string name], 1, (0, 0)⟩ = s1 at *
  refine ac_slices_IndexFunc_impl_PageName_impl_PageName ?_
  unfold vc_slices_IndexFunc_impl_PageName_impl_PageName
  rw [hv.len]
  refine loop_rule (m := x.2.length) (fun c l s => ∃ j, s = s1 ∧ c + j = x.2.length ∧ (∀ (i : Nat) (y : Pn), i < j → x.2[i]? = some y → y.name ≠ name) ∧ l = [v, .func (.func n_impl_Pages_find_c1) ⟨[]⟩ ⟨[.pointer (some ⟨b, 0, none⟩)]⟩, .int .i64 0, .int .i64 x.2.length, .int .i64 (j : Nat)]) ?_ ⟨0, rfl, by omega, fun i y h => by omega, rfl⟩
  rintro c l s L ⟨j, rfl, hc, ht, rfl⟩ hL
  simp only [vget, List.getD_cons_zero, List.getD_cons_succ]
  rw [pBin_lt, pIf_d]
  refine ⟨fun hj => ?_, fun hj => ?_⟩
  · have hx := List.getElem?_eq_getElem (show j < x.2.length by omega)
    generalize hxj : x.2[j]'(by omega) = n at hx
    refine pn_at hv hx fun g g0 g1 g2 hgood => ?_
    rw [g0, g1, g2]
    refine ⟨_, _, _, rfl, ?_⟩
    show AC Tryd.prog w0 n_impl_Pages_find_c1 [.agg ⟨encPn n⟩, .pointer (some ⟨b, 0, none⟩)] s _
    refine ac_impl_Pages_find_c1 ?_
    unfold vc_impl_Pages_find_c1
    rw [pn_three]
    refine pLoad_row (A := []) (c := [.string name]) (C := []) h1 hb rfl rfl rfl fun g hg => ?_
    simp only [expl, List.cons.injEq, and_true] at hg
    show pBin Tryd.prog 9 .eql (.string n.name) _ _
    rw [hg, pBin_seq]
    show pIf (.bool _) _ _
    rw [pIf_d]
    refine ⟨fun he => ?_, fun hne => ?_⟩
    · rw [pnIdx_at hx he ht] at hR
      exact hR
    · rw [pBin_add (by omega)]
      refine hL _ _ (c - 1) (by omega) ⟨j + 1, rfl, by omega, fun i z hi hz => ?_, rfl⟩
      by_cases e : i = j
      · subst e; rw [hx] at hz; cases hz; exact hne
      · exact ht i z (by omega) hz
  · rw [pnIdx_none fun i y hy => ht i y (by have := (List.getElem?_eq_some_iff.1 hy).1; omega) hy] at hR
    exact hR

theorem dataAt_of {ps : List Pg} {i : Nat} {p : Pg} (h : ps[i]? = some p) : dataAt ps i = p.data := by simp [dataAt, h]

theorem spec_l32Text {es : List Value} {x : Pgs} {j : Nat} {n : Pn} (h : RPgs (Av.get w0 σ) es x) (hok : OkS x) (hj : x.2[j]? = some n) {R : Value → Vw → Prop} (hR : ∀ σ', Keeps σ σ' → R (.string (textOf x n)) σ') : AC Tryd.prog w0 n_spec_l32Text [.agg ⟨es⟩, .int .i64 (j : Nat)] σ R := by
  refine ac_spec_l32Text ?_
  unfold vc_spec_l32Text
  rw [RPgs.two h]
  obtain ⟨u, v, rfl, hu, hv⟩ := h
  simp only [cellOf_agg, List.getD_cons_zero, List.getD_cons_succ]
  have hg := good_fl hv hj
  refine pn_at hv hj fun g g0 g1 g2 _ => ?_
  rw [g0, g1, g2]
  refine spec_Chain (n := n) (x := x) ⟨u, v, rfl, hu, hv⟩ hg hok.1 (hok.size hj) fun c F σ' hk ho hF => ?_
  obtain ⟨r, hcI, hcS⟩ := hok.chI hj
  have htx : textOf x n = catD x.1 r := by simp [textOf, hcS]
  rw [htx] at hR
  rw [hcS] at ho ⊢
  have ho : OSl w0 1 ON σ' F c r := by simpa using ho
  have hc := ho.rel (ok_n w0)
  have hlc := hc.le
  rw [pExtract_s rfl, pExtract_s rfl]
  have hch := chS_chain hcS
  have hsm := ch_small hch
  have hlt : ∀ i, i ∈ r → i < x.1.length := fun i hi => ch_lt hch hi
  have hu' := hu.mono hk.le fun _ _ h => h
  have hrl : r.length ≤ 1000000 := by
    have h1 := (ok_same x).1 hok
    have hnd : r.Nodup := by
      have := (chOf_spec hcI).2
      exact this
    have := nodup_len _ _ hnd hlt
    rw [hok.1] at this; omega
  refine loop_rule (m := r.length) (fun k l s => ∃ i, s = σ' ∧ k + i = r.length ∧ l = [c, .string (catD x.1 (r.take i)), .int .i64 (i : Nat), u, v]) ?_ ⟨0, rfl, by omega, rfl⟩
  rintro k l s L ⟨i, rfl, hki, rfl⟩ hL
  simp only [vget, List.getD_cons_zero, List.getD_cons_succ]
  rw [hc.len, pBin_lt, pIf_d]
  refine ⟨fun hi => ?_, fun hi => ?_⟩
  · have hx := List.getElem?_eq_getElem (show i < r.length by omega)
    generalize hxi : r[i]'(by omega) = q at hx
    have hq := hlt q (List.mem_of_getElem? hx)
    have hp := List.getElem?_eq_getElem hq
    generalize hpq : x.1[q] = p at hp
    refine n_at hc hx fun g hg => ?_
    rw [hg]
    refine fl_at hu' hp 1 (by omega) rfl fun g hg hgood => ?_
    have hsz := catD_le (ps := x.1) (l := r.take i) fun y hy => hsm y (List.mem_of_mem_take hy)
    have h40 := hsm q (List.mem_of_getElem? hx)
    rw [dataAt_of hp] at h40
    rw [List.length_take] at hsz
    rw [hg, pBin_cat (by omega), pBin_add (by omega)]
    refine hL _ _ (k - 1) (by omega) ⟨i + 1, rfl, by omega, ?_⟩
    rw [catD_take hx, dataAt_of hp]; simp
  · have e : i = r.length := by omega
    subst e
    rw [List.take_length]
    exact hR _ hk

theorem impl_get {es : List Value} {x : Pgs} {name : ByteArray} (h : RPgs (Av.get w0 σ) es x) (hok : OkS x) {R : Value → Vw → Prop}
    (hR : ∀ σ', Keeps σ σ' → R (.tuple ⟨[.string (getP x name).1, .bool (getP x name).2]⟩) σ') : AC Tryd.prog w0 n_impl_Pages_get [.agg ⟨es⟩, .string name] σ R := by
  refine ac_impl_Pages_get ?_
  unfold vc_impl_Pages_get
  rw [RPgs.two h]
  have h0 := h
  obtain ⟨u, v, rfl, hu, hv⟩ := h
  simp only [cellOf_agg, List.getD_cons_zero, List.getD_cons_succ]
  refine impl_find h0 fun s1 k1 => ?_
  cases hix : pnIdx x.2 name with
  | none =>
    have e : getP x name = (⟨#[]⟩, false) := by simp [getP, pagesOk_iff.2 hok, hix]
    rw [e] at hR
    show pBin Tryd.prog 3 .lss (.int .i64 (-1)) _ _
    rw [pBin_lt, pIf_d]
    exact ⟨fun _ => hR s1 k1, fun h => by omega⟩
  | some j =>
    obtain ⟨n, hj, _⟩ := pnIdx_some hix
    have e : getP x name = (textOf x n, true) := by simp [getP, pagesOk_iff.2 hok, hix, hj]
    rw [e] at hR
    show pBin Tryd.prog 3 .lss (.int .i64 (j : Nat)) _ _
    rw [pBin_lt, pIf_d]
    refine ⟨fun h => by omega, fun _ => ?_⟩
    have hv1 := hv.mono k1.le fun _ _ h => h
    have hu1 := hu.mono k1.le fun _ _ h => h
    have hg := good_fl hv hj
    refine pn_at hv1 hj fun g g0 g1 g2 _ => ?_
    rw [g0, g1, g2]
    refine impl_Chain (n := n) (x := x) ⟨u, v, rfl, hu1, hv1⟩ hg hok.1 (hok.size hj) fun c F σ' hk ho hF => ?_
    obtain ⟨r, hcI, hcS⟩ := hok.chI hj
    have htx : textOf x n = catD x.1 r := by simp [textOf, hcS]
    rw [htx] at hR
    rw [hcI] at ho ⊢
    have ho : OSl w0 1 ON σ' F c r := by simpa using ho
    have hc := ho.rel (ok_n w0)
    have hlc := hc.le
    rw [pExtract_s rfl, pExtract_s rfl, hc.len]
    have hch := chS_chain hcS
    have hsm := ch_small hch
    have hlt : ∀ i, i ∈ r → i < x.1.length := fun i hi => ch_lt hch hi
    have hu' := hu1.mono hk.le fun _ _ h => h
    have hrl : r.length ≤ 1000000 := by
      have hnd : r.Nodup := (chOf_spec hcI).2
      have := nodup_len _ _ hnd hlt
      rw [hok.1] at this; omega
    refine loop_rule (m := r.length) (fun k l s => ∃ i, s = σ' ∧ k + i = r.length ∧ l = [.string (catD x.1 (r.take i)), c, .int .i64 r.length, .int .i64 (i : Nat), u, v]) ?_ ⟨0, rfl, by omega, rfl⟩
    rintro k l s L ⟨i, rfl, hki, rfl⟩ hL
    simp only [vget, List.getD_cons_zero, List.getD_cons_succ]
    rw [pBin_lt, pIf_d]
    refine ⟨fun hi => ?_, fun hi => ?_⟩
    · have hx := List.getElem?_eq_getElem (show i < r.length by omega)
      generalize hxi : r[i]'(by omega) = q at hx
      have hq := hlt q (List.mem_of_getElem? hx)
      have hp := List.getElem?_eq_getElem hq
      generalize hpq : x.1[q] = p at hp
      refine n_at hc hx fun g hg => ?_
      rw [hg]
      refine fl_at hu' hp 1 (by omega) rfl fun g hg hgood => ?_
      have hsz := catD_le (ps := x.1) (l := r.take i) fun y hy => hsm y (List.mem_of_mem_take hy)
      have h40 := hsm q (List.mem_of_getElem? hx)
      rw [dataAt_of hp] at h40
      rw [List.length_take] at hsz
      rw [hg, pBin_cat (by omega), pBin_add (by omega)]
      refine hL _ _ (k - 1) (by omega) ⟨i + 1, rfl, by omega, ?_⟩
      rw [catD_take hx, dataAt_of hp]; simp
    · have e : i = r.length := by omega
      subst e
      rw [List.take_length]
      exact hR _ (k1.trans hk)

end
end Go.Proofs.YtkbhjejalkbogaaDoor

/- Rows of our own: cells stored, an element taken out in place, the copy of two lists in any order. -/
set_option linter.unusedVariables false
set_option linter.unusedSimpArgs false
namespace Go.Av
open Go Go.RowKit

section
variable {P : Program} {w0 : World} {σ σ' : Vw} {α γ : Type}

/-! ### An element is taken out, in place -/
end
end Go.Av

/- Pages that are let go: the marks of pages, and 'PagesDrop' by either reading. -/
set_option linter.unusedVariables false
set_option linter.unusedSimpArgs false
namespace Go.Proofs.YtkbhjejalkbogaaDoor
open Go Go.Av

section
variable {w0 : World} {σ : Vw}

theorem fl_atp {α : Type} {n : Nat} {enc : α → List Value} {good : α → Prop} {v : Value} {xs : List α} (h : RSl n (RFl enc good) (Av.get w0 σ) v xs) {j : Nat} {x : α} (hj : xs[j]? = some x) (o : Nat) (ho : o < n) {y : Value} (hy : (enc x)[o]? = some y) {K : Value → (Nat → Value) → Prop} (hK : ∀ (q : Value) (g : Nat → Value), g 0 = y → good x → K q g) :
    pIndexAddr n v (.int .i64 j) fun p => pField o p fun q => pLoad w0 1 q σ (K q) :=
  h.atfp hj o ho fun q es g ⟨h1, h2⟩ hg => hK q g (by rw [h1, hy] at hg; cases hg; rfl) h2

end
end Go.Proofs.YtkbhjejalkbogaaDoor

/- What holds of pages that are ok: plain. -/
set_option linter.unusedVariables false
set_option linter.unusedSimpArgs false
namespace Go.Proofs.YtkbhjejalkbogaaDoor
open Go Go.Av

theorem ch_len {e : Int → Prop} {ps : List Pg} : ∀ {r : List Nat} {a l : Int}, Ch e ps r a l → (r.length : Int) = (l + 39) / 40
  | [], a, l, h => by have := h.2; subst this; rfl
  | i :: r, a, l, ⟨h1, h2, p, h3, h4, h5, h6⟩ => by
    have := ch_len h6
    simp only [List.length_cons]
    omega

theorem bl_trans : ∀ {a b c : List UInt8}, Op.bytesLess a b = true → Op.bytesLess b c = true → Op.bytesLess a c = true
  | _, [], _, h, _ => by
    rename_i a _
    cases a <;> simp [Op.bytesLess] at h
  | [], b :: bs, [], _, h => by simp [Op.bytesLess] at h
  | [], b :: bs, c :: cs, _, _ => by simp [Op.bytesLess]
  | a :: at', b :: bs, [], _, h => by simp [Op.bytesLess] at h
  | a :: at', b :: bs, c :: cs, h, h' => by
    simp only [Op.bytesLess, Bool.or_eq_true, Bool.and_eq_true, decide_eq_true_eq, beq_iff_eq] at h h' ⊢
    rcases h with h | ⟨rfl, h⟩
    · rcases h' with h' | ⟨rfl, h'⟩
      · exact .inl (UInt8.lt_trans h h')
      · exact .inl h
    · rcases h' with h' | ⟨rfl, h'⟩
      · exact .inl h'
      · exact .inr ⟨rfl, bl_trans h h'⟩
theorem strLt_trans {a b c : ByteArray} (h : strLt a b = true) (h' : strLt b c = true) : strLt a c = true := bl_trans h h'

theorem names_asc {ns : List Pn} (h : ∀ (j : Nat) (n : Pn), ns[j]? = some n → prevN ns j n = true) : ∀ {i j : Nat} {a b : Pn}, i < j → ns[i]? = some a → ns[j]? = some b → strLt a.name b.name = true := by
  intro i j
  induction j with
  | zero => intro a b hij; omega
  | succ j ih =>
    intro a b hij ha hb
    have hlt : j < ns.length := by have := (List.getElem?_eq_some_iff.1 hb).1; omega
    have hc := List.getElem?_eq_getElem hlt
    have hp := h (j + 1) b hb
    simp only [prevN, hc] at hp
    by_cases e : i = j
    · subst e
      rw [hc] at ha; cases ha
      exact hp
    · exact strLt_trans (ih (by omega) ha hc) hp

theorem idx_of_name {x : Pgs} (h : OkS x) {j : Nat} {n : Pn} (hj : x.2[j]? = some n) : pnIdx x.2 n.name = some j := by
  refine pnIdx_at hj rfl fun i y hi hy he => ?_
  have := names_asc (fun j n hj => (h.2.2.1 j n hj).1.2.1) hi hy hj
  rw [he, strLt_irrefl] at this
  cases this

theorem text_size {x : Pgs} (h : OkS x) {j : Nat} {n : Pn} (hj : x.2[j]? = some n) : ((textOf x n).size : Int) = n.size ∧ (((chS x.1 n).getD []).length : Int) = (n.size + 39) / 40 := by
  obtain ⟨r, hI, hS⟩ := h.chI hj
  have hc := chS_chain hS
  rw [hS, Option.getD_some]
  refine ⟨?_, ch_len hc⟩
  have := ch_size hc ⟨#[]⟩
  have e : textOf x n = r.foldl (fun s i => s ++ dataAt x.1 i) ⟨#[]⟩ := by simp [textOf, hS, catD]
  rw [e, this]
  show ((0 : Nat) : Int) + n.size = n.size
  omega
end Go.Proofs.YtkbhjejalkbogaaDoor

/-
  DERIVED: THE SHELF's CONTRACTS AT THIS DUMP, IN PLAIN WORDS (tools/lay-plain.mjs out of 'TrydShelf.lean', which tools/lay-shelf.mjs wrote): THE SAME DECLARATIONS UNDER THE SAME NAMES: 'import', 'namespace', 'open', 'def', 'theorem' AND NOTHING ELSE: no command of the shelf's: FOR A HAND-IN. Each laying: the table of numbers ('.._ren') and one theorem, a field a fact of the dump's own or the kernel's comparison; each contract: ONE APPLICATION.
-/
namespace Go.Proofs
open Go.Shelf
def Tryd.lays169_ren : Go.Shelf.Ren := ⟨fun | 169 => 20 | n => n, fun | 70 => 44 | 9 => 9 | 0 => 0 | 72 => 47 | 37 => 45 | 127 => 74 | 3 => 3 | 5 => 5 | n => n, fun | n => n⟩
theorem Tryd.lays169 : Go.Proofs.Lays.n169 Tryd.prog Tryd.lays169_ren := {
  mixed := by kernel_rfl
  f169 := Tryd.func20.trans (congrArg some (by kernel_rfl))
  t0 := Tryd.underlying0
  a0 := Tryd.isAgg0
  z0 := Tryd.sizeOf0
  v0 := Tryd.zeroValue0
  t3 := Tryd.underlying3
  a3 := Tryd.isAgg3
  z3 := Tryd.sizeOf3
  v3 := Tryd.zeroValue3
  t9 := Tryd.underlying9
  a9 := Tryd.isAgg9
  z9 := Tryd.sizeOf9
  v9 := Tryd.zeroValue9
  t37 := Tryd.underlying45
  a37 := Tryd.isAgg45
  z37 := Tryd.sizeOf45
  v37 := Tryd.zeroValue45
  t70 := Tryd.underlying44
  a70 := Tryd.isAgg44
  z70 := Tryd.sizeOf44
  v70 := Tryd.zeroValue44
  t72 := Tryd.underlying47
  a72 := Tryd.isAgg47
  z72 := Tryd.sizeOf47
  v72 := Tryd.zeroValue47
  t127 := Tryd.underlying74
  a127 := Tryd.isAgg74
  z127 := Tryd.sizeOf74
  v127 := Tryd.zeroValue74 }
theorem Tryd.Builder_Extra_169 : Builder.Extra Tryd.prog Tryd.lays169_ren := {
  sizeBuilder := by kernel_rfl
  liesBuilder := by kernel_rfl
  t5 := Tryd.underlying5
  a5 := Tryd.isAgg5
  z5 := Tryd.sizeOf5
  v5 := Tryd.zeroValue5
  infoByte := by kernel_rfl
  cellsByte := by kernel_rfl
  sizeByte := by kernel_rfl
  neB5 := by decide }
def Tryd.laysM246_ren : Go.Shelf.Ren := ⟨fun | 246 => 43 | 283 => 45 | 284 => 46 | 285 => 47 | 286 => 48 | 129 => 50 | 317 => 49 | 318 => 51 | 319 => 52 | 320 => 53 | 337 => 54 | 338 => 55 | n => n, fun | 2 => 2 | 3 => 3 | 9 => 9 | 4 => 4 | 171 => 85 | 0 => 0 | 53 => 86 | 37 => 45 | 5 => 5 | 173 => 89 | 212 => 93 | 51 => 94 | 20 => 20 | 213 => 95 | 46 => 97 | 232 => 100 | 233 => 101 | n => n, fun | 17 => 0 | 18 => 1 | 19 => 2 | n => n⟩
def Tryd.laysM243_ren : Go.Shelf.Ren := ⟨fun | 243 => 35 | 246 => 43 | 283 => 45 | 284 => 46 | 285 => 47 | 286 => 48 | 129 => 50 | 317 => 49 | 318 => 51 | 319 => 52 | 320 => 53 | 337 => 54 | 338 => 55 | n => n, fun | 3 => 3 | 9 => 9 | 2 => 2 | 4 => 4 | 171 => 85 | 0 => 0 | 53 => 86 | 37 => 45 | 5 => 5 | 173 => 89 | 212 => 93 | 51 => 94 | 20 => 20 | 213 => 95 | 46 => 97 | 232 => 100 | 233 => 101 | n => n, fun | 17 => 0 | 18 => 1 | 19 => 2 | n => n⟩
def Tryd.laysM171_ren : Go.Shelf.Ren := ⟨fun | 171 => 19 | 243 => 35 | 246 => 43 | 283 => 45 | 284 => 46 | 285 => 47 | 286 => 48 | 129 => 50 | 317 => 49 | 318 => 51 | 319 => 52 | 320 => 53 | 337 => 54 | 338 => 55 | n => n, fun | 3 => 3 | 9 => 9 | 2 => 2 | 4 => 4 | 171 => 85 | 0 => 0 | 53 => 86 | 37 => 45 | 5 => 5 | 173 => 89 | 212 => 93 | 51 => 94 | 20 => 20 | 213 => 95 | 46 => 97 | 232 => 100 | 233 => 101 | n => n, fun | 17 => 0 | 18 => 1 | 19 => 2 | n => n⟩
theorem Tryd.laysM171 : Go.Proofs.LaysM.n171 Tryd.prog Tryd.laysM171_ren := {
  mixed := by kernel_rfl
  f129 := Tryd.func50.trans (congrArg some (by kernel_rfl))
  f171 := Tryd.func19.trans (congrArg some (by kernel_rfl))
  f243 := Tryd.func35.trans (congrArg some (by kernel_rfl))
  f246 := Tryd.func43.trans (congrArg some (by kernel_rfl))
  f283 := Tryd.func45.trans (congrArg some (by kernel_rfl))
  f284 := Tryd.func46.trans (congrArg some (by kernel_rfl))
  f285 := Tryd.func47.trans (congrArg some (by kernel_rfl))
  f286 := Tryd.func48.trans (congrArg some (by kernel_rfl))
  f317 := Tryd.func49.trans (congrArg some (by kernel_rfl))
  f318 := Tryd.func51.trans (congrArg some (by kernel_rfl))
  f319 := Tryd.func52.trans (congrArg some (by kernel_rfl))
  f320 := Tryd.func53.trans (congrArg some (by kernel_rfl))
  f337 := Tryd.func54.trans (congrArg some (by kernel_rfl))
  f338 := Tryd.func55.trans (congrArg some (by kernel_rfl))
  t0 := Tryd.underlying0
  a0 := Tryd.isAgg0
  z0 := Tryd.sizeOf0
  v0 := Tryd.zeroValue0
  t2 := Tryd.underlying2
  a2 := Tryd.isAgg2
  z2 := Tryd.sizeOf2
  v2 := Tryd.zeroValue2
  t3 := Tryd.underlying3
  a3 := Tryd.isAgg3
  z3 := Tryd.sizeOf3
  v3 := Tryd.zeroValue3
  t4 := Tryd.underlying4
  a4 := Tryd.isAgg4
  z4 := Tryd.sizeOf4
  v4 := Tryd.zeroValue4
  t5 := Tryd.underlying5
  a5 := Tryd.isAgg5
  z5 := Tryd.sizeOf5
  v5 := Tryd.zeroValue5
  t9 := Tryd.underlying9
  a9 := Tryd.isAgg9
  z9 := Tryd.sizeOf9
  v9 := Tryd.zeroValue9
  t20 := Tryd.underlying20
  a20 := Tryd.isAgg20
  z20 := Tryd.sizeOf20
  v20 := Tryd.zeroValue20
  t37 := Tryd.underlying45
  a37 := Tryd.isAgg45
  z37 := Tryd.sizeOf45
  v37 := Tryd.zeroValue45
  t46 := Tryd.underlying97
  a46 := Tryd.isAgg97
  z46 := Tryd.sizeOf97
  v46 := Tryd.zeroValue97
  t51 := Tryd.underlying94
  a51 := Tryd.isAgg94
  z51 := Tryd.sizeOf94
  v51 := Tryd.zeroValue94
  t53 := Tryd.underlying86
  a53 := Tryd.isAgg86
  z53 := Tryd.sizeOf86
  v53 := Tryd.zeroValue86
  t171 := Tryd.underlying85
  a171 := Tryd.isAgg85
  z171 := Tryd.sizeOf85
  v171 := Tryd.zeroValue85
  t173 := Tryd.underlying89
  a173 := Tryd.isAgg89
  z173 := Tryd.sizeOf89
  v173 := Tryd.zeroValue89
  t212 := Tryd.underlying93
  a212 := Tryd.isAgg93
  z212 := Tryd.sizeOf93
  v212 := Tryd.zeroValue93
  t213 := Tryd.underlying95
  a213 := Tryd.isAgg95
  z213 := Tryd.sizeOf95
  t232 := Tryd.underlying100
  a232 := Tryd.isAgg100
  z232 := Tryd.sizeOf100
  v232 := Tryd.zeroValue100
  t233 := Tryd.underlying101
  a233 := Tryd.isAgg101
  z233 := Tryd.sizeOf101
  v233 := Tryd.zeroValue101
  g17 := by kernel_rfl
  g18 := by kernel_rfl
  g19 := by kernel_rfl
  i0 := by kernel_rfl
  i2 := by kernel_rfl
  i3 := by kernel_rfl
  i4 := by kernel_rfl
  i5 := by kernel_rfl
  i9 := by kernel_rfl
  i20 := by kernel_rfl
  i37 := by kernel_rfl
  i46 := by kernel_rfl
  i51 := by kernel_rfl
  i53 := by kernel_rfl
  i171 := by kernel_rfl
  i173 := by kernel_rfl
  i212 := by kernel_rfl
  i232 := by kernel_rfl
  i233 := by kernel_rfl
  m17 := by kernel_rfl
  m18 := by kernel_rfl
  m19 := by kernel_rfl }
open Go.RowKit Go.Sort Go.Lib in
/-- strconv.Itoa: "Itoa is equivalent to FormatInt(int64(i), 10).": i's DECIMAL NUMERAL ('Lib.itoa': a '-' where i is negative, then the digits), FOR EVERY int. The world behind the call: the world before it, new blocks behind the heap (the library's 'var a [24]byte'), draws. (LAID: no walk: one application.) -/
theorem Tryd.strconv_Itoa (n : Int) (h0 : -9223372036854775808 ≤ n) (h1 : n ≤ 9223372036854775807) (w : World) (htab : Lib.TabIs Tryd.prog w "internal/strconv.uint64pow10" .u64 Lib.pow10Tab) :
    Calls Tryd.prog 19 #[.int .i64 n] w fun e w' => e = .returned (.string ⟨(Lib.itoa n).toArray⟩) ∧ ∃ k os, w' = grow (w.drewN k) os := Any.strconv_Itoa Tryd.laysM171 n h0 h1 w htab
end Go.Proofs

/- strings.Builder's WriteString and copyCheck in this program: what the library's contracts ask of it. -/
namespace Go.Proofs
def Tryd.laysB_ren : Go.Shelf.Ren := ⟨fun | 240 => 34 | 276 => 42 | 166 => 18 | n => n, fun | 70 => 44 | 3 => 3 | 0 => 0 | 4 => 4 | 9 => 9 | 20 => 20 | 72 => 47 | 37 => 45 | 164 => 81 | 5 => 5 | 75 => 51 | 80 => 54 | n => n, fun | n => n⟩
theorem Tryd.laysB240 : Go.Proofs.Lays.n240 Tryd.prog Tryd.laysB_ren := {
  mixed := by kernel_rfl
  f240 := Tryd.func34.trans (congrArg some (by kernel_rfl))
  f276 := Tryd.func42.trans (congrArg some (by kernel_rfl))
  t0 := Tryd.underlying0
  a0 := Tryd.isAgg0
  z0 := Tryd.sizeOf0
  v0 := Tryd.zeroValue0
  t4 := Tryd.underlying4
  a4 := Tryd.isAgg4
  z4 := Tryd.sizeOf4
  v4 := Tryd.zeroValue4
  t9 := Tryd.underlying9
  a9 := Tryd.isAgg9
  z9 := Tryd.sizeOf9
  v9 := Tryd.zeroValue9
  t20 := Tryd.underlying20
  a20 := Tryd.isAgg20
  z20 := Tryd.sizeOf20
  v20 := Tryd.zeroValue20
  t70 := Tryd.underlying44
  a70 := Tryd.isAgg44
  z70 := Tryd.sizeOf44
  v70 := Tryd.zeroValue44
  t72 := Tryd.underlying47
  a72 := Tryd.isAgg47
  z72 := Tryd.sizeOf47
  v72 := Tryd.zeroValue47
  t164 := Tryd.underlying81
  a164 := Tryd.isAgg81
  z164 := Tryd.sizeOf81
  v164 := Tryd.zeroValue81 }
theorem Tryd.laysB166 : Go.Proofs.Lays.n166 Tryd.prog Tryd.laysB_ren := {
  mixed := by kernel_rfl
  f166 := Tryd.func18.trans (congrArg some (by kernel_rfl))
  f240 := Tryd.func34.trans (congrArg some (by kernel_rfl))
  f276 := Tryd.func42.trans (congrArg some (by kernel_rfl))
  t0 := Tryd.underlying0
  a0 := Tryd.isAgg0
  z0 := Tryd.sizeOf0
  v0 := Tryd.zeroValue0
  t3 := Tryd.underlying3
  a3 := Tryd.isAgg3
  z3 := Tryd.sizeOf3
  v3 := Tryd.zeroValue3
  t4 := Tryd.underlying4
  a4 := Tryd.isAgg4
  z4 := Tryd.sizeOf4
  v4 := Tryd.zeroValue4
  t9 := Tryd.underlying9
  a9 := Tryd.isAgg9
  z9 := Tryd.sizeOf9
  v9 := Tryd.zeroValue9
  t20 := Tryd.underlying20
  a20 := Tryd.isAgg20
  z20 := Tryd.sizeOf20
  v20 := Tryd.zeroValue20
  t37 := Tryd.underlying45
  a37 := Tryd.isAgg45
  z37 := Tryd.sizeOf45
  v37 := Tryd.zeroValue45
  t70 := Tryd.underlying44
  a70 := Tryd.isAgg44
  z70 := Tryd.sizeOf44
  v70 := Tryd.zeroValue44
  t72 := Tryd.underlying47
  a72 := Tryd.isAgg47
  z72 := Tryd.sizeOf47
  v72 := Tryd.zeroValue47
  t75 := Tryd.underlying51
  a75 := Tryd.isAgg51
  z75 := Tryd.sizeOf51
  v75 := Tryd.zeroValue51
  t164 := Tryd.underlying81
  a164 := Tryd.isAgg81
  z164 := Tryd.sizeOf81
  v164 := Tryd.zeroValue81 }
theorem Tryd.laysB_extra : Builder.Extra Tryd.prog Tryd.laysB_ren := {
  sizeBuilder := by kernel_rfl
  liesBuilder := by kernel_rfl
  t5 := Tryd.underlying5
  a5 := Tryd.isAgg5
  z5 := Tryd.sizeOf5
  v5 := Tryd.zeroValue5
  infoByte := by kernel_rfl
  cellsByte := by kernel_rfl
  sizeByte := by kernel_rfl
  neB5 := by decide }
end Go.Proofs

/- A contract of the kit's, as one of ours. -/
set_option linter.unusedVariables false
set_option linter.unusedSimpArgs false
namespace Go.Av
open Go Go.RowKit

theorem Aft.below {w0 w w' : World} {σ : Vw} (h : Sat w0 σ w) (k : Below w.heap.size w w') : Aft w0 σ w σ w' := by
  refine ⟨⟨h.bel.trans (k.mono h.bel.size), fun b r hb => ?_⟩, k.size, fun b hb _ => k.block b hb, fun b r hb => .inl (by rw [hb]; simp)⟩
  obtain ⟨h1, cur, hc, h2⟩ := h.row b r hb
  exact ⟨h1, cur, (k.block b (h.lt hb)).trans hc, h2⟩

/-- What a call gives that leaves all that is there as it was. -/
theorem AC.of_calls {P : Program} {w0 : World} {f : FuncId} {args : List Value} {σ : Vw} {R : Value → Vw → Prop} (hf : ∃ fn, P.funcs[f]? = some fn ∧ (fn.name == "runtime.NumGoroutine") = false ∧ fn.body.isNone = false)
    (h : ∀ w, Sat w0 σ w → Calls P f args.toArray w fun e w' => ∃ v, e = .returned v ∧ R v σ ∧ Below w.heap.size w w') : AC P w0 f args σ R :=
  ⟨hf, fun w hw => (h w hw).mono fun e w' ⟨v, he, hR, hk⟩ => ⟨v, σ, he, hR, Aft.below hw hk⟩⟩
end Go.Av
