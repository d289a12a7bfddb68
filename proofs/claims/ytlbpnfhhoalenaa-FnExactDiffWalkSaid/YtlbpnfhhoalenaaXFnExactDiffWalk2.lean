/- The law FnExactDiffWalk holds: it returns true, and the input reads as it did. No condition. This is part 2 of 3 of its proof. -/
import Derived.Test.YtlbpnfhhoalenaaXFnExactDiffWalk1
import Derived.IntWalk
import Derived.ChangeArms
import Derived.Test.YtlbpnfhhoalenaaProg
import Derived.WideShapes
import Derived.ProofKit
import Derived.Below

/- The plain side, part 1: the operations at known values; loops; what is read in a slice. -/
set_option linter.unusedVariables false
set_option linter.unusedSimpArgs false
namespace Go.Av
open Go Go.RowKit IntWalk

section
variable {P : Program} {w0 : World} {σ σ' : Vw}

/-! ### The operations at known values -/
theorem pIf_b {b : Bool} {A B : Prop} : pIf (.bool b) A B ↔ (b = true → A) ∧ (b = false → B) :=
  ⟨fun ⟨c, h, h1, h2⟩ => by cases h; exact ⟨h1, h2⟩, fun ⟨h1, h2⟩ => ⟨b, rfl, h1, h2⟩⟩
theorem pIf_d {p : Prop} [Decidable p] {A B : Prop} : pIf (.bool (decide p)) A B ↔ (p → A) ∧ (¬ p → B) := by
  rw [pIf_b]; simp
theorem pLen_s {A : Option Addr} {n c : Nat} {K : Value → Prop} : pLen (.slice A n c) K ↔ K (.int .i64 n) :=
  ⟨fun ⟨_, _, _, h, hK⟩ => by cases h; exact hK, fun h => ⟨_, _, _, rfl, h⟩⟩
theorem pLenS_s {s : ByteArray} {K : Value → Prop} : pLenS (.string s) K ↔ K (.int .i64 s.size) :=
  ⟨fun ⟨_, h, hK⟩ => by cases h; exact hK, fun h => ⟨_, rfl, h⟩⟩
theorem pNil_s {a : Addr} {K : Prop} : pNil (.pointer (some a)) K ↔ K := ⟨fun ⟨_, _, h⟩ => h, fun h => ⟨a, rfl, h⟩⟩
theorem pField_s {o : Nat} {a : Addr} {K : Value → Prop} : pField o (.pointer (some a)) K ↔ K (.pointer (some (a.add o))) :=
  ⟨fun ⟨_, h, hK⟩ => by cases h; exact hK, fun h => ⟨_, rfl, h⟩⟩
theorem pUn_not {b : Bool} {K : Value → Prop} : pUn .not (.bool b) K ↔ K (.bool !b) :=
  ⟨fun ⟨_, h, hK⟩ => by simp only [aun, Option.some.injEq] at h; subst h; exact hK, fun h => ⟨_, rfl, h⟩⟩
theorem pBin_i {T : Nat} {op : BinOp} {k : IntKind} {a b : Int} {v : Value} {K : Value → Prop} (h : aint op k a b = some v) : pBin P T op (.int k a) (.int k b) K ↔ K v := by
  have e : abinT P T op (.int k a) (.int k b) = some v := by unfold abinT; simp only [if_true]; exact h
  exact ⟨fun ⟨_, h, hK⟩ => by rw [e] at h; cases h; exact hK, fun h => ⟨_, e, h⟩⟩
theorem pBin_lt {T : Nat} {k : IntKind} {a b : Int} {K : Value → Prop} : pBin P T .lss (.int k a) (.int k b) K ↔ K (.bool (decide (a < b))) := pBin_i rfl
theorem pBin_le {T : Nat} {k : IntKind} {a b : Int} {K : Value → Prop} : pBin P T .leq (.int k a) (.int k b) K ↔ K (.bool (decide (a ≤ b))) := pBin_i rfl
theorem pBin_gt {T : Nat} {k : IntKind} {a b : Int} {K : Value → Prop} : pBin P T .gtr (.int k a) (.int k b) K ↔ K (.bool (decide (b < a))) := pBin_i rfl
theorem pBin_ge {T : Nat} {k : IntKind} {a b : Int} {K : Value → Prop} : pBin P T .geq (.int k a) (.int k b) K ↔ K (.bool (decide (b ≤ a))) := pBin_i rfl
theorem pBin_eq {T : Nat} {k : IntKind} {a b : Int} {K : Value → Prop} : pBin P T .eql (.int k a) (.int k b) K ↔ K (.bool (decide (a = b))) := pBin_i rfl
theorem pBin_ne {T : Nat} {k : IntKind} {a b : Int} {K : Value → Prop} : pBin P T .neq (.int k a) (.int k b) K ↔ K (.bool (decide (a ≠ b))) :=
  pBin_i (by simp only [aint, bne, Option.some.injEq, Value.bool.injEq]; by_cases h : a = b <;> simp [h])
theorem pBin_add {T : Nat} {a b : Int} {K : Value → Prop} (h : -9223372036854775808 ≤ a + b ∧ a + b ≤ 9223372036854775807) : pBin P T .add (.int .i64 a) (.int .i64 b) K ↔ K (.int .i64 (a + b)) :=
  pBin_i (by simp only [aint, i64_in _ h])
theorem pBin_sub {T : Nat} {a b : Int} {K : Value → Prop} (h : -9223372036854775808 ≤ a - b ∧ a - b ≤ 9223372036854775807) : pBin P T .sub (.int .i64 a) (.int .i64 b) K ↔ K (.int .i64 (a - b)) :=
  pBin_i (by simp only [aint, i64_in _ h])
theorem bytes_inj {a b : ByteArray} (h : a.toList = b.toList) : a = b := by
  rw [ByteArray.toList_eq, ByteArray.toList_eq] at h
  cases a; cases b
  simp only [ByteArray.mk.injEq]
  exact Array.toList_inj.1 h
theorem toList_eq {a b : ByteArray} : (a.toList == b.toList) = decide (a = b) := by
  have : a.toList = b.toList ↔ a = b := ⟨fun h => Go.Av.bytes_inj h, fun h => by rw [h]⟩
  by_cases h : a = b
  · subst h; simp
  · have h' : ¬ a.toList = b.toList := fun e => h (this.1 e)
    simp [h, h']
theorem pBin_s {T : Nat} {op : BinOp} {a b : ByteArray} {v : Value} {K : Value → Prop} (h : astr op a b = some v) : pBin P T op (.string a) (.string b) K ↔ K v :=
  ⟨fun ⟨_, h', hK⟩ => by rw [show abinT P T op (.string a) (.string b) = some v from h] at h'; cases h'; exact hK, fun hK => ⟨_, h, hK⟩⟩
theorem pBin_seq {T : Nat} {a b : ByteArray} {K : Value → Prop} : pBin P T .eql (.string a) (.string b) K ↔ K (.bool (decide (a = b))) := pBin_s (by simp only [astr, toList_eq])
theorem pBin_sne {T : Nat} {a b : ByteArray} {K : Value → Prop} : pBin P T .neq (.string a) (.string b) K ↔ K (.bool (decide (a ≠ b))) := pBin_s (by simp only [astr, toList_eq]; simp)
theorem pBin_b {T : Nat} {op : BinOp} {a b : Bool} {v : Value} {K : Value → Prop} (hT : P.underlying T = some .bool) (h : (match op with | .eql => some (Value.bool (a == b)) | .neq => some (.bool (!(a == b))) | _ => none) = some v) : pBin P T op (.bool a) (.bool b) K ↔ K v := by
  have e : abinT P T op (.bool a) (.bool b) = some v := by simp only [abinT, hT]; exact h
  exact ⟨fun ⟨_, h', hK⟩ => by rw [e] at h'; cases h'; exact hK, fun hK => ⟨_, e, hK⟩⟩

theorem pVal1 {n : Nat} {v : Value} {A : Prop} (h : v.oneCell' = true) : pVal false n v A ↔ A := ⟨fun h => h.2, fun hA => ⟨h, hA⟩⟩
theorem pValN {n : Nat} {cs : List Value} {A : Prop} (hl : cs.length = n) (h : ∀ c, c ∈ cs → c.oneCell' = true) : pVal true n (.agg ⟨cs⟩) A ↔ A := ⟨fun h => h.2, fun hA => ⟨⟨cs, rfl, hl, h⟩, hA⟩⟩
theorem cellOf_agg {cs : List Value} {i : Nat} : cellOf (.agg ⟨cs⟩) i = cs.getD i undef := rfl
theorem pStr1 {b : Nat} {K : Value → Prop} {n : Int} {c : Nat} (h : Av.get w0 σ ⟨b, 0, none⟩ = some (.int .u8 n)) (hK : K (.string (strOfNums [n]))) : pStr w0 (.slice (some ⟨b, 0, none⟩) 1 c) σ K :=
  .inr ⟨b, 0, 1, c, [n], rfl, rfl, (fun j hj => by
    have e : j = 0 := by omega
    subst e
    exact h), hK⟩

/-! ### Loops -/
theorem loop_rule {B : List Value → (AX → List Value → Vw → Prop) → Vw → Prop} {K : AX → List Value → Vw → Prop} (I : Nat → List Value → Vw → Prop)
    (step : ∀ m vs σ (L : List Value → Vw → Prop), I m vs σ → (∀ vs' σ', ∀ m', m' + 1 = m → I m' vs' σ' → L vs' σ') → B vs (fun e vs' σ' => match e with | .normal => L vs' σ' | .exit i => K (.exit i) vs' σ' | .ret => K .ret vs' σ') σ)
    {m : Nat} {vs : List Value} (h : I m vs σ) : pLoop B vs σ K := by
  refine ⟨m + 1, ?_⟩
  induction m generalizing vs σ with
  | zero => exact step 0 vs σ _ h (fun vs' σ' m' e => by omega)
  | succ m ih =>
    refine step (m + 1) vs σ _ h (fun vs' σ' m' e hI => ?_)
    have e : m' = m := by omega
    subst e
    exact ih hI

/-! ### Reading -/
theorem add_add (a : Addr) (i j : Nat) : (a.add i).add j = a.add (i + j) := by
  unfold Addr.add
  by_cases hi : i = 0
  · simp [hi]
  · by_cases hj : j = 0
    · simp [hj]
    · have : i + j ≠ 0 := by omega
      simp [hi, hj, this, Nat.add_assoc]

/-- A reader that reads no less. -/
def Le (rd rd' : Addr → Option Value) : Prop := ∀ a v, rd a = some v → rd' a = some v
theorem Le.refl (rd : Addr → Option Value) : Le rd rd := fun _ _ h => h
theorem Le.trans {rd rd' rd'' : Addr → Option Value} (h : Le rd rd') (h' : Le rd' rd'') : Le rd rd'' := fun a v ha => h' a v (h a v ha)
theorem Ext.le (hx : Ext σ σ') : Le (Av.get w0 σ) (Av.get w0 σ') := fun _ _ h => get_ext hx h

/-- What is read behind a slice: xs, each of n cells. -/
def RSl {α : Type} (n : Nat) (R : (Addr → Option Value) → List Value → α → Prop) (rd : Addr → Option Value) (v : Value) (xs : List α) : Prop :=
  ∃ A cap, v = .slice A xs.length cap ∧ (xs.length ≤ cap ∧ cap ≤ 9223372036854775807) ∧ ∀ (j : Nat) (x : α), xs[j]? = some x → ∃ a es, A = some a ∧ es.length = n ∧ (∀ i, i < n → rd (a.add (j * n + i)) = es[i]?) ∧ R rd es x

theorem RSl.mono {α : Type} {n : Nat} {R : (Addr → Option Value) → List Value → α → Prop} {rd rd' : Addr → Option Value} {v : Value} {xs : List α} (h : RSl n R rd v xs) (hx : Le rd rd') (hR : ∀ es x, R rd es x → R rd' es x) : RSl n R rd' v xs := by
  obtain ⟨A, cap, h1, h2, h3⟩ := h
  refine ⟨A, cap, h1, h2, fun j x hj => ?_⟩
  obtain ⟨a, es, h4, h5, h6, h7⟩ := h3 j x hj
  refine ⟨a, es, h4, h5, fun i hi => ?_, hR _ _ h7⟩
  have := h6 i hi
  have hlt : i < es.length := by omega
  rw [List.getElem?_eq_getElem hlt] at this ⊢
  exact hx _ _ this

theorem RSl.len {α : Type} {n : Nat} {R : (Addr → Option Value) → List Value → α → Prop} {rd : Addr → Option Value} {v : Value} {xs : List α} (h : RSl n R rd v xs) {K : Value → Prop} : pLen v K ↔ K (.int .i64 xs.length) := by
  obtain ⟨A, cap, rfl, _⟩ := h
  exact pLen_s

/-- An element is read. -/
theorem RSl.at {α : Type} {n : Nat} {R : (Addr → Option Value) → List Value → α → Prop} {v : Value} {xs : List α} (h : RSl n R (Av.get w0 σ) v xs) {j : Nat} {x : α} (hj : xs[j]? = some x) {K : (Nat → Value) → Prop} (hK : ∀ g : Nat → Value, R (Av.get w0 σ) (expl g 0 n) x → K g) :
    pIndexAddr n v (.int .i64 j) fun p => pLoad w0 n p σ K := by
  obtain ⟨A, cap, rfl, _, h3⟩ := h
  obtain ⟨a, es, rfl, h5, h6, h7⟩ := h3 j x hj
  have hlt : j < xs.length := (List.getElem?_eq_some_iff.1 hj).1
  refine ⟨a, xs.length, cap, .i64, j, rfl, rfl, by omega, by omega, a.add (j * n), fun i => es.getD i undef, rfl, fun i hi => ?_, hK _ ?_⟩
  · have := h6 i hi
    have hlt : i < es.length := by omega
    rw [add_add, this, List.getElem?_eq_getElem hlt]
    simp only [List.getD_eq_getElem?_getD, List.getElem?_eq_getElem hlt, Option.getD_some]
  · have : expl (fun i => es.getD i undef) 0 n = es := by
      apply List.ext_getElem?
      intro i
      by_cases hi : i < n
      · rw [expl_get _ _ _ _ hi, Nat.zero_add, List.getD_eq_getElem?_getD]
        have hlt : i < es.length := by omega
        rw [List.getElem?_eq_getElem hlt]; rfl
      · rw [List.getElem?_eq_none (by rw [length_expl]; omega), List.getElem?_eq_none (by omega)]
    rw [this]; exact h7

/-- A text. -/
def RS (rd : Addr → Option Value) (cs : List Value) (s : ByteArray) : Prop := cs = [.string s] ∧ s.size ≤ 9223372036854775807
end
end Go.Av

/- The plain side, part 2: rows of our own. -/
set_option linter.unusedVariables false
set_option linter.unusedSimpArgs false
namespace Go.Av
open Go Go.RowKit

/-- Every row stays as it is; there may be new ones. -/
def Keeps (σ σ' : Vw) : Prop := ∀ b r, σ b = some r → σ' b = some r
theorem Keeps.refl (σ : Vw) : Keeps σ σ := fun _ _ h => h
theorem Keeps.trans {σ σ' σ'' : Vw} (h : Keeps σ σ') (h' : Keeps σ' σ'') : Keeps σ σ'' := fun b r hb => h' b r (h b r hb)
theorem Keeps.ext {σ σ' : Vw} (h : Keeps σ σ') : Ext σ σ' := fun b r hb => ⟨r, h b r hb, List.prefix_refl _⟩
theorem Keeps.le {w0 : World} {σ σ' : Vw} (h : Keeps σ σ') : Le (Av.get w0 σ) (Av.get w0 σ') := h.ext.le
theorem Keeps.stay {w0 : World} {σ σ' : Vw} {v : Value} {n : Nat} (h : Keeps σ σ') : Stay w0 σ σ' v n := fun a g _ hc j hj => h.le _ _ (hc j hj)
theorem Keeps.put {σ : Vw} {b : Nat} {r : Row} (h : σ b = none) : Keeps σ (σ.put b r) := fun i x hi => by
  have : i ≠ b := fun e => by rw [e, h] at hi; cases hi
  simp [Vw.put, this, hi]
/-- A new row is made, then others, then the first is written. -/
theorem Keeps.fill {σ σ' : Vw} {b : Nat} {r : Row} (h : Keeps σ σ') (hb : σ b = none) : Keeps σ (σ'.put b r) := fun i x hi => by
  have : i ≠ b := fun e => by rw [e, hb] at hi; cases hi
  simp [Vw.put, this, h i x hi]
theorem put_at {σ : Vw} {b : Nat} {r : Row} : σ.put b r b = some r := by simp [Vw.put]
theorem put_put {σ : Vw} {b : Nat} {r r' : Row} : (σ.put b r).put b r' = σ.put b r' := by
  funext i; simp only [Vw.put]; split <;> rfl

theorem get_row {w0 : World} {σ : Vw} {b off : Nat} {r : Row} (hb : w0.heap.size ≤ b) (h : σ b = some r) : Av.get w0 σ ⟨b, off, none⟩ = r.cells[off]? := by
  unfold Av.get
  simp only
  rw [if_neg (by omega), if_pos trivial, h]; rfl

theorem addr_add (b off i : Nat) : (Addr.mk b off none).add i = ⟨b, off + i, none⟩ := by
  unfold Addr.add
  split
  · rename_i h; subst h; rfl
  · rfl

theorem setAt_mid : ∀ (A old new C : List Value), old.length = new.length → setAt (A ++ (old ++ C)) A.length new = A ++ (new ++ C)
  | A, [], [], C, _ => by simp [setAt]
  | A, [], _ :: _, C, h => by simp at h
  | A, _ :: _, [], C, h => by simp at h
  | A, o :: old, n :: new, C, h => by
    simp only [setAt]
    have e : (A ++ (o :: old ++ C)).set A.length n = (A ++ [n]) ++ (old ++ C) := by simp
    rw [e]
    have := setAt_mid (A ++ [n]) old new C (by simpa using h)
    simp only [List.length_append, List.length_singleton] at this
    rw [this]
    simp

section
variable {w0 : World} {σ : Vw}

theorem flat_len {n : Nat} : ∀ (xs : List (List Value)), (∀ c, c ∈ xs → c.length = n) → xs.flatten.length = xs.length * n
  | [], _ => by simp
  | c :: r, h => by
    have := flat_len r (fun d hd => h d (List.mem_cons_of_mem _ hd))
    simp only [List.flatten_cons, List.length_append, List.length_cons, this, h c List.mem_cons_self]
    rw [Nat.add_mul, Nat.one_mul, Nat.add_comm]

theorem flat_get {n : Nat} : ∀ (xs : List (List Value)), (∀ c, c ∈ xs → c.length = n) → ∀ (j : Nat) (c : List Value), xs[j]? = some c → ∀ i, i < n → xs.flatten[j * n + i]? = c[i]?
  | [], _, j, c, hj, i, hi => by simp at hj
  | d :: r, h, 0, c, hj, i, hi => by
    simp at hj; subst hj
    have := h d List.mem_cons_self
    rw [List.flatten_cons, Nat.zero_mul, Nat.zero_add, List.getElem?_append_left (by omega)]
  | d :: r, h, j + 1, c, hj, i, hi => by
    have hd := h d List.mem_cons_self
    rw [List.flatten_cons, Nat.add_mul, Nat.one_mul, List.getElem?_append_right (by omega)]
    have := flat_get r (fun d hd => h d (List.mem_cons_of_mem _ hd)) j c (by simpa using hj) i hi
    rw [← this]
    congr 1
    omega

/-- What lies in a row of our own can be read. -/
theorem RSl.own {α : Type} {n : Nat} {R : (Addr → Option Value) → List Value → α → Prop} {b cap : Nat} {r : Row} {xs : List α} {cs : List (List Value)} {tail : List Value} (hb : w0.heap.size ≤ b) (hr : σ b = some r) (hc : r.cells = cs.flatten ++ tail) (hn : ∀ c, c ∈ cs → c.length = n)
    (hl : cs.length = xs.length) (hm : xs.length ≤ cap ∧ cap ≤ 9223372036854775807) (hR : ∀ (j : Nat) (c : List Value) (x : α), cs[j]? = some c → xs[j]? = some x → R (Av.get w0 σ) c x) : RSl n R (Av.get w0 σ) (.slice (some ⟨b, 0, none⟩) xs.length cap) xs := by
  refine ⟨_, cap, rfl, hm, fun j x hj => ?_⟩
  have hlt : j < cs.length := by have := (List.getElem?_eq_some_iff.1 hj).1; omega
  have hcj := List.getElem?_eq_getElem hlt
  refine ⟨_, cs[j], rfl, hn _ (List.getElem_mem hlt), fun i hi => ?_, hR j _ x hcj hj⟩
  rw [addr_add, get_row hb hr, Nat.zero_add, hc, ← flat_get cs hn j _ hcj i hi, List.getElem?_append_left]
  rw [flat_len cs hn]
  calc j * n + i < j * n + n := by omega
    _ = (j + 1) * n := by rw [Nat.add_mul, Nat.one_mul]
    _ ≤ cs.length * n := Nat.mul_le_mul_right n hlt

/-- An element of a row of our own is written. -/
theorem own_store {b cap len : Nat} {j n : Nat} {r : Row} {A old new C : List Value} (hr : σ b = some r) (hc : r.cells = A ++ (old ++ C)) (hA : A.length = j * n) (ho : old.length = new.length) (hn : new.length = n) (hj : j < len) {K : Vw → Prop}
    (hK : K (σ.put b { r with cells := A ++ (new ++ C) })) : pIndexAddr n (.slice (some ⟨b, 0, none⟩) len cap) (.int .i64 j) fun p => pStore p new σ K := by
  refine ⟨_, len, cap, .i64, j, rfl, rfl, by omega, by omega, b, j * n, r, by rw [addr_add]; simp, hr, ?_, ?_⟩
  · rw [hc]; simp only [List.length_append]; omega
  · rw [hc, ← hA, setAt_mid _ _ _ _ ho]; exact hK

theorem RSl.one {α : Type} {n : Nat} {R : (Addr → Option Value) → List Value → α → Prop} {rd : Addr → Option Value} {v : Value} {xs : List α} (h : RSl n R rd v xs) : v.oneCell' = true := by
  obtain ⟨A, cap, rfl, _⟩ := h
  rfl
theorem RSl.le {α : Type} {n : Nat} {R : (Addr → Option Value) → List Value → α → Prop} {rd : Addr → Option Value} {v : Value} {xs : List α} (h : RSl n R rd v xs) : xs.length ≤ 9223372036854775807 := by
  obtain ⟨_, _, _, h2, _⟩ := h; exact Nat.le_trans h2.1 h2.2
theorem pMake_s {ety n bytes m : Nat} {z : List Value} {K : Value → Vw → Prop} (hm : bytes * m ≤ 140737488355328) (hm2 : m ≤ 9223372036854775807) (hK : ∀ b e, w0.heap.size ≤ b → σ b = none → K (.slice (some ⟨b, 0, none⟩) m m) (σ.put b ⟨e, (List.replicate m z).flatten, m * n, (0, 0)⟩)) :
    pMake w0 ety n bytes z (.int .i64 m) (.int .i64 m) σ K := by
  refine ⟨.i64, m, rfl, rfl, by omega, by omega, ?_, fun b h1 h2 => ?_⟩
  · have : ((bytes * m : Nat) : Int) ≤ 2 ^ 47 := by
      rw [show (2 : Int) ^ 47 = 140737488355328 by decide]; omega
    simpa using this
  · have := hK b ety h1 h2
    simpa using this
end
end Go.Av

/- The lists of structs, whatever their element: their size, their comparison. -/
set_option linter.unusedVariables false
set_option linter.unusedSimpArgs false
namespace Go.Av
open Go Go.RowKit

/-- What is left of n. -/
def left (n : Int) (t : Nat) : Int := if n - t < 0 then -1 else n - t
theorem left_neg {n : Int} {t : Nat} : left n t < 0 ↔ n < t := by unfold left; split <;> omega
theorem left_low {n : Int} {t : Nat} (h : n < t) : left n t = -1 := by unfold left; rw [if_pos (by omega)]
theorem left_in {n : Int} {t : Nat} (h : (t : Int) ≤ n) : left n t = n - t := by unfold left; rw [if_neg (by omega)]

def sumBy {α : Type} (f : α → Nat) : List α → Nat
  | [] => 0
  | s :: r => f s + sumBy f r
theorem sumBy_take {α : Type} {f : α → Nat} {xs : List α} : ∀ {j : Nat} {x : α}, xs[j]? = some x → sumBy f (xs.take (j + 1)) = sumBy f (xs.take j) + f x := by
  induction xs with
  | nil => intro j x h; simp at h
  | cons a r ih =>
    intro j x h
    cases j with
    | zero => simp at h; subst h; simp [sumBy]
    | succ j =>
      simp at h
      have := ih h
      simp only [List.take_succ_cons, sumBy, this]
      omega
theorem sumBy_le {α : Type} {f : α → Nat} {xs : List α} : ∀ (j : Nat), sumBy f (xs.take j) ≤ sumBy f xs := by
  induction xs with
  | nil => intro j; simp [sumBy]
  | cons a r ih =>
    intro j
    cases j with
    | zero => simp [sumBy]
    | succ j => have := ih j; simp only [List.take_succ_cons, sumBy]; omega

section
variable {P : Program} {w0 : World} {σ : Vw} {α : Type}

def VszS (P : Program) (w0 : World) (T n f : Nat) (a0 a1 : Value) (σ : Vw) (R : Value → Vw → Prop) : Prop :=
  pLen a0 (fun v0 => pBin P T .sub a1 v0 (fun v1 => pBin P T .lss v1 (.int .i64 0) (fun v2 => pIf v2 (R (.int .i64 (-1)) σ) (pLoop (fun l3 K4 s5 => pLen (vget l3 0) (fun v6 => pBin P T .lss (vget l3 3) v6 (fun v7 => pIf v7
    (pIndexAddr n (vget l3 0) (vget l3 3) (fun v8 => pLoad w0 n v8 s5 (fun g9 => AC P w0 f [.agg ⟨expl g9 0 n⟩, vget l3 1] s5 (fun v10 s11 => pBin P T .lss v10 (.int .i64 0) (fun v12 => pIf v12 (K4 .ret [vget l3 0, v10, .int .i64 (-1), vget l3 3] s11)
      (pBin P T .add (vget l3 3) (.int .i64 1) (fun v13 => K4 .normal [vget l3 0, v10, vget l3 2, v13] s11))))))) (K4 (.exit 0) [vget l3 0, vget l3 1, vget l3 2, vget l3 3] s5)))) [a0, v1, .int .i64 0, .int .i64 0] σ
    (fun x14 l15 s16 => match x14 with | .normal => R (vget l15 1) s16 | .ret => R (vget l15 2) s16 | .exit i17 => (match Nat.beq i17 0 with | true => R (vget l15 1) s16 | false => False))))))

theorem szS_gen {T n f : Nat} {Rel : (Addr → Option Value) → List Value → α → Prop} {sz : α → Nat} {v : Value} {xs : List α} {m : Int}
    (hf : ∀ x, x ∈ xs → ∀ (es : List Value) (m : Int) (R' : Value → Vw → Prop), Rel (Av.get w0 σ) es x → 0 ≤ m ∧ m ≤ 9223372036854775807 → R' (.int .i64 (left m (sz x))) σ → AC P w0 f [.agg ⟨es⟩, .int .i64 m] σ R')
    (h : RSl n Rel (Av.get w0 σ) v xs) (hn : 0 ≤ m ∧ m ≤ 9223372036854775807) {R : Value → Vw → Prop} (hR : R (.int .i64 (left m (xs.length + sumBy sz xs))) σ) : VszS P w0 T n f v (.int .i64 m) σ R := by
  unfold VszS
  have hl := h.le
  rw [h.len, pBin_sub (by omega), pBin_lt, pIf_d]
  refine ⟨fun hlt => ?_, fun hge => ?_⟩
  · rw [left_low (by omega)] at hR; exact hR
  · refine loop_rule (m := xs.length) (fun k l s => ∃ j, s = σ ∧ k + j = xs.length ∧ 0 ≤ m - xs.length - sumBy sz (xs.take j) ∧ l = [v, .int .i64 (m - xs.length - sumBy sz (xs.take j)), .int .i64 0, .int .i64 (j : Nat)]) ?_ ⟨0, rfl, by omega, by simp [sumBy]; omega, by simp [sumBy]⟩
    rintro k l s L ⟨j, rfl, hm, h0, rfl⟩ hL
    simp only [vget, List.getD_cons_zero, List.getD_cons_succ]
    rw [h.len, pBin_lt, pIf_d]
    refine ⟨fun hj => ?_, fun hj => ?_⟩
    · have hj' : j < xs.length := by omega
      have hx := List.getElem?_eq_getElem hj'
      refine h.at hx fun g hg => ?_
      have ht := sumBy_take (f := sz) hx
      have hle := sumBy_le (f := sz) (xs := xs) (j + 1)
      refine hf _ (List.getElem_mem hj') _ _ _ hg (by omega) ?_
      rw [pBin_lt, pIf_d]
      refine ⟨fun hlt => ?_, fun hge => ?_⟩
      · rw [left_neg] at hlt
        rw [left_low (by omega)] at hR; exact hR
      · rw [left_neg] at hge
        rw [pBin_add (by omega), left_in (by omega)]
        refine hL _ _ (k - 1) (by omega) ⟨j + 1, rfl, by omega, by omega, ?_⟩
        rw [ht]
        congr 2
        · congr 1; omega
    · have hj' : j = xs.length := by omega
      subst hj'
      rw [List.take_length] at h0 ⊢
      rw [left_in (by omega)] at hR
      rw [show m - (xs.length : Int) - (sumBy sz xs : Int) = m - ((xs.length + sumBy sz xs : Nat) : Int) by omega]
      exact hR

def VeqS (P : Program) (w0 : World) (T n f : Nat) (a0 a1 : Value) (σ : Vw) (R : Value → Vw → Prop) : Prop :=
  pLen a0 (fun v0 => pLen a1 (fun v1 => pBin P T .neq v0 v1 (fun v2 => pIf v2 (R (.bool false) σ) (pLoop (fun l3 K4 s5 => pLen (vget l3 0) (fun v6 => pBin P T .lss (vget l3 3) v6 (fun v7 => pIf v7
    (pIndexAddr n (vget l3 0) (vget l3 3) (fun v8 => pLoad w0 n v8 s5 (fun g9 => pIndexAddr n (vget l3 1) (vget l3 3) (fun v10 => pLoad w0 n v10 s5 (fun g11 => AC P w0 f [.agg ⟨expl g9 0 n⟩, .agg ⟨expl g11 0 n⟩] s5 (fun v12 s13 => pUn .not v12 (fun v14 => pIf v14
      (K4 .ret [vget l3 0, vget l3 1, .bool false, vget l3 3] s13) (pBin P T .add (vget l3 3) (.int .i64 1) (fun v15 => K4 .normal [vget l3 0, vget l3 1, vget l3 2, v15] s13))))))))) (K4 (.exit 0) [vget l3 0, vget l3 1, vget l3 2, vget l3 3] s5)))) [a0, a1, .bool false, .int .i64 0] σ
    (fun x16 l17 s18 => match x16 with | .normal => R (.bool true) s18 | .ret => R (vget l17 2) s18 | .exit i19 => (match Nat.beq i19 0 with | true => R (.bool true) s18 | false => False))))))

theorem eqS_gen [DecidableEq α] {T n f : Nat} {Rel : (Addr → Option Value) → List Value → α → Prop} {v v' : Value} {xs ys : List α}
    (hf : ∀ x, x ∈ xs → ∀ (y : α) (es es' : List Value) (R' : Value → Vw → Prop), Rel (Av.get w0 σ) es x → Rel (Av.get w0 σ) es' y → R' (.bool (decide (x = y))) σ → AC P w0 f [.agg ⟨es⟩, .agg ⟨es'⟩] σ R')
    (h : RSl n Rel (Av.get w0 σ) v xs) (h' : RSl n Rel (Av.get w0 σ) v' ys) {R : Value → Vw → Prop} (hR : R (.bool (decide (xs = ys))) σ) : VeqS P w0 T n f v v' σ R := by
  unfold VeqS
  have hl := h.le
  rw [h.len, h'.len, pBin_ne, pIf_d]
  refine ⟨fun hne => ?_, fun heq => ?_⟩
  · have : xs ≠ ys := fun e => hne (by rw [e])
    simpa [this] using hR
  · have hlen : xs.length = ys.length := by omega
    refine loop_rule (m := xs.length) (fun m l s => ∃ j, s = σ ∧ m + j = xs.length ∧ xs.take j = ys.take j ∧ l = [v, v', .bool false, .int .i64 (j : Nat)]) ?_ ⟨0, rfl, by omega, by simp, rfl⟩
    rintro m l s L ⟨j, rfl, hm, ht, rfl⟩ hL
    simp only [vget, List.getD_cons_zero, List.getD_cons_succ]
    rw [h.len, pBin_lt, pIf_d]
    refine ⟨fun hj => ?_, fun hj => ?_⟩
    · have hj' : j < xs.length := by omega
      have hx := List.getElem?_eq_getElem hj'
      have hy := List.getElem?_eq_getElem (show j < ys.length by omega)
      refine h.at hx fun g hg => ?_
      refine h'.at hy fun g' hg' => ?_
      refine hf _ (List.getElem_mem hj') _ _ _ _ hg hg' ?_
      rw [pUn_not, pIf_b]
      by_cases e : xs[j] = ys[j]
      · refine ⟨fun h => by simp [e] at h, fun _ => ?_⟩
        rw [pBin_add (by omega)]
        refine hL _ _ (m - 1) (by omega) ⟨j + 1, rfl, by omega, ?_, rfl⟩
        rw [List.take_add_one, List.take_add_one, hx, hy, ht, e]
      · refine ⟨fun _ => ?_, fun h => by simp [e] at h⟩
        have : xs ≠ ys := fun e' => by subst e'; exact e rfl
        simpa [this] using hR
    · have hj' : j = xs.length := by omega
      subst hj'
      rw [List.take_length, hlen, List.take_length] at ht
      subst ht
      simpa using hR
end
end Go.Av

/- Lists that lie in rows of our own, each part in rows of its own; the copy of a list of structs. -/
set_option linter.unusedVariables false
set_option linter.unusedSimpArgs false
namespace Go.Av
open Go Go.RowKit

section
variable {P : Program} {w0 : World} {σ σ' : Vw} {α : Type}

/-- What a rule for parts in rows of our own must keep. -/
structure OOk (w0 : World) (n : Nat) (Rel : (Addr → Option Value) → List Value → α → Prop) (O : Vw → List Nat → List Value → α → Prop) : Prop where
  rel : ∀ σ F es x, O σ F es x → Rel (Av.get w0 σ) es x
  frame : ∀ σ σ' F es x, O σ F es x → (∀ b, b ∈ F → σ' b = σ b) → O σ' F es x
  dom : ∀ σ F es x, O σ F es x → ∀ b, b ∈ F → w0.heap.size ≤ b ∧ σ b ≠ none
  nodup : ∀ σ F es x, O σ F es x → F.Nodup
  len : ∀ σ F es x, O σ F es x → es.length = n
  one : ∀ σ F es x, O σ F es x → ∀ c, c ∈ es → c.oneCell' = true

/-- A list in a row of our own, the elements' own parts in other rows. -/
def OSl (w0 : World) (n : Nat) (O : Vw → List Nat → List Value → α → Prop) (σ : Vw) (F : List Nat) (v : Value) (xs : List α) : Prop :=
  xs.length ≤ 9223372036854775807 ∧ F.Nodup ∧ ((v = .slice none 0 0 ∧ xs = [] ∧ F = []) ∨
  ∃ (b off cap : Nat) (r : Row) (pre post : List Value) (css : List (List Value)) (Fs : List (List Nat)), v = .slice (some ⟨b, off, none⟩) xs.length cap ∧ (xs.length ≤ cap ∧ cap ≤ 9223372036854775807) ∧ w0.heap.size ≤ b ∧ σ b = some r ∧ r.cells = pre ++ (css.flatten ++ post) ∧ pre.length = off ∧
    css.length = xs.length ∧ Fs.length = xs.length ∧ F = b :: Fs.flatten ∧ ∀ (j : Nat) (c : List Value) (x : α) (f : List Nat), css[j]? = some c → xs[j]? = some x → Fs[j]? = some f → O σ f c x)

theorem mem_flat {l : List (List Nat)} {b : Nat} (h : b ∈ l.flatten) : ∃ (j : Nat) (f : List Nat), l[j]? = some f ∧ b ∈ f := by
  obtain ⟨f, h1, h2⟩ := List.mem_flatten.1 h
  obtain ⟨j, hj⟩ := List.getElem?_of_mem h1
  exact ⟨j, f, hj, h2⟩

theorem OSl.frame {n : Nat} {Rel : (Addr → Option Value) → List Value → α → Prop} {O : Vw → List Nat → List Value → α → Prop} (ok : OOk w0 n Rel O) {F : List Nat} {v : Value} {xs : List α} (h : OSl w0 n O σ F v xs) (hF : ∀ b, b ∈ F → σ' b = σ b) : OSl w0 n O σ' F v xs := by
  obtain ⟨h1, h2, h3 | ⟨b, off, cap, r, pre, post, css, Fs, g1, gc, g2, g3, g4, g5, g6, g7, g8, g9⟩⟩ := h
  · exact ⟨h1, h2, .inl h3⟩
  · refine ⟨h1, h2, .inr ⟨b, off, cap, r, pre, post, css, Fs, g1, gc, g2, ?_, g4, g5, g6, g7, g8, fun j c x f e1 e2 e3 => ?_⟩⟩
    · rw [hF b (by rw [g8]; exact List.mem_cons_self)]; exact g3
    · refine ok.frame _ _ _ _ _ (g9 j c x f e1 e2 e3) fun i hi => hF i ?_
      rw [g8]
      exact List.mem_cons_of_mem _ (List.mem_flatten.2 ⟨f, List.mem_of_getElem? e3, hi⟩)

theorem OSl.dom {n : Nat} {Rel : (Addr → Option Value) → List Value → α → Prop} {O : Vw → List Nat → List Value → α → Prop} (ok : OOk w0 n Rel O) {F : List Nat} {v : Value} {xs : List α} (h : OSl w0 n O σ F v xs) : ∀ b, b ∈ F → w0.heap.size ≤ b ∧ σ b ≠ none := by
  obtain ⟨h1, h2, ⟨_, _, h3⟩ | ⟨b, off, cap, r, pre, post, css, Fs, g1, gc, g2, g3, g4, g5, g6, g7, g8, g9⟩⟩ := h
  · rw [h3]; intro b hb; cases hb
  · rw [g8]
    intro i hi
    rcases List.mem_cons.1 hi with e | e
    · rw [e]; exact ⟨g2, by rw [g3]; simp⟩
    · obtain ⟨j, f, e1, e2⟩ := mem_flat e
      have hj : j < Fs.length := (List.getElem?_eq_some_iff.1 e1).1
      exact ok.dom _ _ _ _ (g9 j _ _ f (List.getElem?_eq_getElem (by omega)) (List.getElem?_eq_getElem (by omega)) e1) i e2

theorem OSl.rel {n : Nat} {Rel : (Addr → Option Value) → List Value → α → Prop} {O : Vw → List Nat → List Value → α → Prop} (ok : OOk w0 n Rel O) {F : List Nat} {v : Value} {xs : List α} (h : OSl w0 n O σ F v xs) : RSl n Rel (Av.get w0 σ) v xs := by
  obtain ⟨h1, h2, ⟨rfl, rfl, _⟩ | ⟨b, off, cap, r, pre, post, css, Fs, rfl, gc, g2, g3, g4, g5, g6, g7, g8, g9⟩⟩ := h
  · exact ⟨none, 0, rfl, by simp, fun j x hj => by simp at hj⟩
  · have each : ∀ (j : Nat) (c : List Value), css[j]? = some c → c.length = n := fun j c hj => by
      have hlt : j < css.length := (List.getElem?_eq_some_iff.1 hj).1
      exact ok.len _ _ _ _ (g9 j c _ _ hj (List.getElem?_eq_getElem (by omega)) (List.getElem?_eq_getElem (by omega)))
    have hn : ∀ c, c ∈ css → c.length = n := fun c hc => by obtain ⟨j, hj⟩ := List.getElem?_of_mem hc; exact each j c hj
    refine ⟨_, cap, rfl, gc, fun j x hj => ?_⟩
    have hlt : j < css.length := by have := (List.getElem?_eq_some_iff.1 hj).1; omega
    have hcj := List.getElem?_eq_getElem hlt
    refine ⟨_, css[j], rfl, each j _ hcj, fun i hi => ?_, ok.rel _ _ _ _ (g9 j _ x _ hcj hj (List.getElem?_eq_getElem (by omega)))⟩
    rw [addr_add, get_row g2 g3, g4, List.getElem?_append_right (by omega)]
    rw [show off + (j * n + i) - pre.length = j * n + i by omega, List.getElem?_append_left, flat_get css hn j _ hcj i hi]
    rw [flat_len css hn]
    calc j * n + i < j * n + n := by omega
      _ = (j + 1) * n := by rw [Nat.add_mul, Nat.one_mul]
      _ ≤ css.length * n := Nat.mul_le_mul_right n hlt

def VtoS (P : Program) (w0 : World) (T ety n bytes f : Nat) (z : List Value) (a0 : Value) (σ : Vw) (R : Value → Vw → Prop) : Prop :=
  pLen a0 (fun v0 => pMake w0 ety n bytes z v0 v0 σ (fun v1 s2 => pLoop (fun l3 K4 s5 => pLen (vget l3 0) (fun v6 => pBin P T .lss (vget l3 2) v6 (fun v7 => pIf v7
    (pIndexAddr n (vget l3 0) (vget l3 2) (fun v8 => pLoad w0 n v8 s5 (fun g9 => AC P w0 f [.agg ⟨expl g9 0 n⟩] s5 (fun v10 s11 => pIndexAddr n (vget l3 1) (vget l3 2) (fun v12 => pVal true n v10 (pStore v12 (spread n v10) s11
      (fun s13 => pBin P T .add (vget l3 2) (.int .i64 1) (fun v14 => K4 .normal [vget l3 0, vget l3 1, v14] s13)))))))) (K4 (.exit 0) [vget l3 0, vget l3 1, vget l3 2] s5)))) [a0, v1, .int .i64 0] s2
    (fun x15 l16 s17 => match x15 with | .normal => R (vget l16 1) s17 | .ret => False | .exit i18 => (match Nat.beq i18 0 with | true => R (vget l16 1) s17 | false => False))))

theorem toS_gen {T ety n bytes f : Nat} {z : List Value} (hz : z.length = n) {Rel : (Addr → Option Value) → List Value → α → Prop} {O : Vw → List Nat → List Value → α → Prop} (ok : OOk w0 n Rel O) (hmono : ∀ rd rd' es x, Le rd rd' → Rel rd es x → Rel rd' es x) {v : Value} {xs : List α}
    (hf : ∀ x, x ∈ xs → ∀ (s : Vw) (es : List Value) (R' : Value → Vw → Prop), Keeps σ s → Rel (Av.get w0 s) es x → (∀ es' F s', Keeps s s' → O s' F es' x → (∀ b, b ∈ F → s b = none) → R' (.agg ⟨es'⟩) s') → AC P w0 f [.agg ⟨es⟩] s R')
    (h : RSl n Rel (Av.get w0 σ) v xs) (hb : bytes * xs.length ≤ 140737488355328) {R : Value → Vw → Prop} (hR : ∀ v' F σ', Keeps σ σ' → OSl w0 n O σ' F v' xs → (∀ b, b ∈ F → σ b = none) → R v' σ') : VtoS P w0 T ety n bytes f z v σ R := by
  unfold VtoS
  have hl := h.le
  rw [h.len]
  refine pMake_s hb hl fun b e h1 h2 => ?_
  refine loop_rule (m := xs.length) (fun m l s => ∃ (j : Nat) (css : List (List Value)) (Fs : List (List Nat)), m + j = xs.length ∧ css.length = j ∧ Fs.length = j ∧ Keeps σ s ∧ s b = some ⟨e, css.flatten ++ (List.replicate m z).flatten, xs.length * n, (0, 0)⟩ ∧
    (∀ c, c ∈ css → c.length = n) ∧ (b :: Fs.flatten).Nodup ∧ (∀ i, i ∈ Fs.flatten → σ i = none ∧ s i ≠ none) ∧ (∀ (i : Nat) (c : List Value) (x : α) (f : List Nat), css[i]? = some c → xs[i]? = some x → Fs[i]? = some f → O s f c x) ∧ l = [v, .slice (some ⟨b, 0, none⟩) xs.length xs.length, .int .i64 (j : Nat)]) ?_
    ⟨0, [], [], by omega, rfl, rfl, Keeps.put h2, by simp [put_at], by simp, by simp, by simp, by simp, rfl⟩
  rintro m l s L ⟨j, css, Fs, hm, hc, hFs, hk, hrow, hcn, hnd, hdom, hO, rfl⟩ hL
  simp only [vget, List.getD_cons_zero, List.getD_cons_succ]
  rw [h.len, pBin_lt, pIf_d]
  refine ⟨fun hj => ?_, fun hj => ?_⟩
  · have hj' : j < xs.length := by omega
    have hx := List.getElem?_eq_getElem hj'
    refine RSl.at (h.mono hk.le fun es x => hmono _ _ _ _ hk.le) hx fun g hg => ?_
    refine hf _ (List.getElem_mem hj') s _ _ hk hg fun es' F s' hk' hO' hFn => ?_
    obtain ⟨m', rfl⟩ : ∃ m', m = m' + 1 := ⟨m - 1, by omega⟩
    have hlen := ok.len _ _ _ _ hO'
    have hsp : spread n (.agg ⟨es'⟩) = es' := by subst hlen; exact spread_agg es'
    have hrow' := hk' _ _ hrow
    have eV : ∀ A : Prop, pVal true n (.agg ⟨es'⟩) A = A := fun A => propext (pValN hlen (ok.one _ _ _ _ hO'))
    simp only [eV, hsp]
    refine own_store (r := ⟨e, css.flatten ++ (List.replicate (m' + 1) z).flatten, xs.length * n, (0, 0)⟩) (A := css.flatten) (old := z) (new := es') (C := (List.replicate m' z).flatten) hrow' (by simp [List.replicate_succ]) (by rw [flat_len css hcn, hc]) (by omega) hlen hj' ?_
    rw [pBin_add (by omega)]
    have hbF : b ∉ F := fun hbF => by rw [hFn b hbF] at hrow; cases hrow
    have hbFs : b ∉ Fs.flatten := (List.nodup_cons.1 hnd).1
    have hdisj : ∀ i, i ∈ Fs.flatten → i ∉ F := fun i hi hiF => (hdom i hi).2 (hFn i hiF)
    have hput : ∀ i, i ≠ b → (s'.put b { (⟨e, css.flatten ++ (List.replicate (m' + 1) z).flatten, xs.length * n, (0, 0)⟩ : Row) with cells := css.flatten ++ (es' ++ (List.replicate m' z).flatten) }) i = s' i := fun i hi => by simp [Vw.put, hi]
    refine hL _ _ m' rfl ⟨j + 1, css ++ [es'], Fs ++ [F], by omega, by simp [hc], by simp [hFs], (hk.trans hk').fill h2, ?_, ?_, ?_, ?_, ?_, rfl⟩
    · rw [put_at]; simp
    · intro c hc'
      rcases List.mem_append.1 hc' with h' | h'
      · exact hcn c h'
      · rw [List.mem_singleton.1 h']; exact hlen
    · have hFnd := ok.nodup _ _ _ _ hO'
      rw [List.flatten_append]
      simp only [List.flatten_cons, List.flatten_nil, List.append_nil]
      rw [List.nodup_cons]
      refine ⟨fun hm' => ?_, List.nodup_append.2 ⟨(List.nodup_cons.1 hnd).2, hFnd, fun a ha b' hb' e' => hdisj a ha (e' ▸ hb')⟩⟩
      rcases List.mem_append.1 hm' with h' | h'
      · exact hbFs h'
      · exact hbF h'
    · intro i hi
      rw [List.flatten_append] at hi
      simp only [List.flatten_cons, List.flatten_nil, List.append_nil] at hi
      rcases List.mem_append.1 hi with h' | h'
      · have hib : i ≠ b := fun e' => hbFs (e' ▸ h')
        refine ⟨(hdom i h').1, ?_⟩
        rw [hput i hib]
        cases hs : s i with
        | none => exact absurd hs (hdom i h').2
        | some r => rw [hk' i r hs]; simp
      · have hib : i ≠ b := fun e' => hbF (e' ▸ h')
        refine ⟨?_, by rw [hput i hib]; exact (ok.dom _ _ _ _ hO' i h').2⟩
        cases hs : σ i with
        | none => rfl
        | some r => have := hk i r hs; rw [hFn i h'] at this; cases this
    · intro i c x f' e1 e2 e3
      by_cases hi : i < j
      · rw [List.getElem?_append_left (by omega)] at e1 e3
        refine ok.frame _ _ _ _ _ (hO i c x f' e1 e2 e3) fun k hk2 => ?_
        have hkF : k ∈ Fs.flatten := List.mem_flatten.2 ⟨f', List.mem_of_getElem? e3, hk2⟩
        rw [hput k fun e' => hbFs (e' ▸ hkF)]
        cases hs : s k with
        | none => exact absurd hs (hdom k hkF).2
        | some r => exact hk' k r hs
      · have hij : i = j := by
          have := (List.getElem?_eq_some_iff.1 e1).1
          simp [hc] at this
          omega
        subst hij
        rw [List.getElem?_append_right (by omega)] at e1 e3
        simp [hc] at e1
        simp [hFs] at e3
        subst e1 e3
        rw [hx] at e2
        cases e2
        exact ok.frame _ _ _ _ _ hO' fun k hk2 => hput k fun e' => hbF (e' ▸ hk2)
  · have hj' : j = xs.length := by omega
    subst hj'
    have hm0 : m = 0 := by omega
    subst hm0
    refine hR _ (b :: Fs.flatten) s hk ⟨hl, hnd, .inr ⟨b, 0, xs.length, _, [], [], css, Fs, rfl, ⟨Nat.le_refl _, hl⟩, h1, hrow, by simp, rfl, hc, hFs, rfl, hO⟩⟩ fun i hi => ?_
    rcases List.mem_cons.1 hi with e' | e'
    · rw [e']; exact h2
    · exact (hdom i e').1
end
end Go.Av

/- What each function owes, reckoned out. MADE BY PROGRAM (emit.py). -/
set_option linter.unusedVariables false
namespace Go.Proofs.Ytlbpnfhhoalenaa
open Go Go.Av

abbrev t_int : Nat := 3
abbrev t_bool : Nat := 4
abbrev t_string : Nat := 9
abbrev t_s_string : Nat := 29
abbrev t_s_laws_Tree : Nat := 30
abbrev t_laws_Tree : Nat := 32
abbrev t_impl_Tree : Nat := 37
abbrev t_p_impl_Tree : Nat := 90
abbrev t_impl_Entry : Nat := 112
abbrev n_laws_FnExactDiffWalk : Nat := 8
abbrev n_laws_szTree : Nat := 14
abbrev n_laws_szStringS : Nat := 15
abbrev n_laws_toTree : Nat := 17
abbrev n_laws_toStringS : Nat := 18
abbrev n_laws_eqTree : Nat := 20
abbrev n_laws_eqStringS : Nat := 21
abbrev n_laws_markTree : Nat := 22
abbrev n_laws_markStringS : Nat := 23
abbrev n_spec_TreeOk : Nat := 43
abbrev n_spec_DiffWalk : Nat := 51
abbrev n_impl_DiffWalk : Nat := 52
abbrev n_laws_eqEntryS : Nat := 53
abbrev n_laws_markEntryS : Nat := 54
abbrev n_laws_heldEntryS : Nat := 55
abbrev n_laws_szTreeS : Nat := 60
abbrev n_laws_toTreeS : Nat := 63
abbrev n_impl_TreeOk : Nat := 64
abbrev n_laws_eqTreeS : Nat := 67
abbrev n_laws_markTreeS : Nat := 68
abbrev n_laws_markText : Nat := 69
abbrev n_laws_heldStringS : Nat := 70
abbrev n_impl_Tree_paths : Nat := 79
abbrev n_spec_l1Count : Nat := 80
abbrev n_spec_l1Parts : Nat := 81
abbrev n_spec_l3Walk : Nat := 89
abbrev n_impl_walk : Nat := 90
abbrev n_laws_eqEntry : Nat := 91
abbrev n_impl_Tree_sound : Nat := 99
abbrev n_p_impl_Tree_kid : Nat := 100
abbrev n_spec_l1In : Nat := 102
abbrev n_spec_l1Plain : Nat := 108
abbrev n_spec_l3Gone : Nat := 117
abbrev n_spec_l3New : Nat := 118
abbrev n_spec_l3Part : Nat := 119
abbrev n_spec_l3Path : Nat := 120
abbrev n_impl_fresh : Nat := 121
abbrev n_impl_gone : Nat := 122
abbrev n_impl_changes : Nat := 123
abbrev n_impl_either : Nat := 124
abbrev n_impl_below : Nat := 125
abbrev n_impl_modeOk : Nat := 130
abbrev n_impl_nameOk : Nat := 131
abbrev n_slices_Index_string_string : Nat := 132
abbrev n_spec_l1NameOk : Nat := 133
abbrev n_impl_within : Nat := 134
abbrev n_impl_Tree_each : Nat := 147
abbrev n_impl_fresh_c1 : Nat := 148
abbrev n_slices_Sort_string_string : Nat := 149
abbrev n_slices_Compact_string_string : Nat := 150
theorem is_slices_Sort_string_string : ∃ fn, Try.prog.funcs[n_slices_Sort_string_string]? = some fn ∧ (fn.name == "runtime.NumGoroutine") = false ∧ fn.body.isNone = false := ⟨Try.f149, Try.func149, by kernel_rfl, by kernel_rfl⟩
theorem is_slices_Compact_string_string : ∃ fn, Try.prog.funcs[n_slices_Compact_string_string]? = some fn ∧ (fn.name == "runtime.NumGoroutine") = false ∧ fn.body.isNone = false := ⟨Try.f150, Try.func150, by kernel_rfl, by kernel_rfl⟩
end Go.Proofs.Ytlbpnfhhoalenaa

/- What each function owes, reckoned out, part 1. MADE BY PROGRAM (emit.py). -/
set_option linter.unusedVariables false
namespace Go.Proofs.Ytlbpnfhhoalenaa
open Go Go.Av

/-- laws.FnExactDiffWalk -/
def kp_laws_FnExactDiffWalk : Nat → Keep
  | 8 => ⟨[], [], [], .step 0 (.step 2 (.step 1 (.step 3 (.step 4 (.step 5 (.done)))))), [(1, [0]), (3, [0, 1, 2]), (4, [0, 1, 2, 3]), (5, [0, 1, 2, 3, 4])]⟩
  | 14 => ⟨[], [], [], .step 0 (.step 1 (.step 2 (.step 3 (.step 4 (.done))))), [(2, [1]), (3, [0, 1, 2]), (4, [0, 1, 2, 3])]⟩
  | 16 => ⟨[], [], [], .step 0 (.step 1 (.step 2 (.step 3 (.step 4 (.done))))), [(2, [1]), (3, [0, 1, 2]), (4, [0, 1, 2, 3])]⟩
  | 31 => ⟨[], [], [], .step 0 (.step 2 (.step 1 (.step 3 (.step 4 (.step 5 (.done)))))), [(1, [0]), (3, [0, 1, 2]), (4, [0, 1, 2, 3]), (5, [0, 1, 2, 3, 4])]⟩
  | _ => ⟨[], [], [], .done, []⟩
def esc_laws_FnExactDiffWalk : Nat → Bool
  | _ => false
def vc_laws_FnExactDiffWalk (w0 : World) (a0 a1 : Value) (σ : Vw) (R : Value → Vw → Prop) : Prop :=
  pVal true 5 a0 (pVal true 5 a1 (AC Try.prog w0 n_laws_szTree ([Value.agg (⟨[cellOf a0 0, cellOf a0 1, cellOf a0 2, cellOf a0 3, cellOf a0 4]⟩), Value.int IntKind.i64 1048576]) σ (fun v0 s1 => pBin Try.prog 3 BinOp.lss v0 (Value.int IntKind.i64 0) (fun v2 => pIf v2 (R (Value.bool true) s1) (AC Try.prog w0 n_laws_szTree ([Value.agg (⟨[cellOf a1 0, cellOf a1 1, cellOf a1 2, cellOf a1 3, cellOf a1 4]⟩), v0]) s1 (fun v3 s4 => pBin Try.prog 3 BinOp.lss v3 (Value.int IntKind.i64 0) (fun v5 => pIf v5 (R (Value.bool true) s4) (AC Try.prog w0 n_laws_toTree ([Value.agg (⟨[cellOf a0 0, cellOf a0 1, cellOf a0 2, cellOf a0 3, cellOf a0 4]⟩)]) s4 (fun v6 s7 => AC Try.prog w0 n_laws_toTree ([Value.agg (⟨[cellOf a1 0, cellOf a1 1, cellOf a1 2, cellOf a1 3, cellOf a1 4]⟩)]) s7 (fun v8 s9 => AC Try.prog w0 n_spec_DiffWalk [v6, v8] s9 (fun v10 s11 => AC Try.prog w0 n_laws_toTree ([Value.agg (⟨[cellOf a0 0, cellOf a0 1, cellOf a0 2, cellOf a0 3, cellOf a0 4]⟩)]) s11 (fun v12 s13 => pVal true 5 v12 (AC Try.prog w0 n_laws_toTree ([Value.agg (⟨[cellOf a1 0, cellOf a1 1, cellOf a1 2, cellOf a1 3, cellOf a1 4]⟩)]) s13 (fun v14 s15 => pVal true 5 v14 (AC Try.prog w0 n_impl_DiffWalk ([Value.agg (⟨[cellOf v12 0, cellOf v12 1, cellOf v12 2, cellOf v12 3, cellOf v12 4]⟩), Value.agg (⟨[cellOf v14 0, cellOf v14 1, cellOf v14 2, cellOf v14 3, cellOf v14 4]⟩)]) s15 (fun v16 s17 => AC Try.prog w0 n_laws_eqEntryS [v16, v10] s17 (fun v18 s19 => pUn UnOp.not v18 (fun v20 => pIf v20 (R (Value.bool false) s19) (AC Try.prog w0 n_laws_toTree ([Value.agg (⟨[cellOf a0 0, cellOf a0 1, cellOf a0 2, cellOf a0 3, cellOf a0 4]⟩)]) s19 (fun v21 s22 => AC Try.prog w0 n_laws_eqTree ([Value.agg (⟨[cellOf v12 0, cellOf v12 1, cellOf v12 2, cellOf v12 3, cellOf v12 4]⟩), v21]) s22 (fun v23 s24 => pUn UnOp.not v23 (fun v25 => pIf v25 (R (Value.bool false) s24) (AC Try.prog w0 n_laws_toTree ([Value.agg (⟨[cellOf a1 0, cellOf a1 1, cellOf a1 2, cellOf a1 3, cellOf a1 4]⟩)]) s24 (fun v26 s27 => AC Try.prog w0 n_laws_eqTree ([Value.agg (⟨[cellOf v14 0, cellOf v14 1, cellOf v14 2, cellOf v14 3, cellOf v14 4]⟩), v26]) s27 (fun v28 s29 => pUn UnOp.not v28 (fun v30 => pIf v30 (R (Value.bool false) s29) (AC Try.prog w0 n_laws_markTree ([Value.agg (⟨[cellOf v12 0, cellOf v12 1, cellOf v12 2, cellOf v12 3, cellOf v12 4]⟩), Value.int IntKind.i64 1]) s29 (fun v31 s32 => AC Try.prog w0 n_laws_markTree ([Value.agg (⟨[cellOf v14 0, cellOf v14 1, cellOf v14 2, cellOf v14 3, cellOf v14 4]⟩), v31]) s32 (fun v33 s34 => pBin Try.prog 3 BinOp.lss v33 (Value.int IntKind.i64 0) (fun v35 => pIf v35 (R (Value.bool false) s34) (AC Try.prog w0 n_laws_eqEntryS [v16, v10] s34 (fun v36 s37 => pUn UnOp.not v36 (fun v38 => pIf v38 (R (Value.bool false) s37) (AC Try.prog w0 n_laws_markEntryS [v16, Value.int IntKind.i64 1] s37 (fun v39 s40 => AC Try.prog w0 n_laws_heldEntryS [v16, Value.int IntKind.i64 1] s40 (fun v41 s42 => pBin Try.prog 3 BinOp.lss v41 (Value.int IntKind.i64 0) (fun v43 => pIf v43 (R (Value.bool false) s42) (pBin Try.prog 3 BinOp.neq v41 v39 (fun v44 => pIf v44 (R (Value.bool false) s42) (AC Try.prog w0 n_laws_toTree ([Value.agg (⟨[cellOf a0 0, cellOf a0 1, cellOf a0 2, cellOf a0 3, cellOf a0 4]⟩)]) s42 (fun v45 s46 => AC Try.prog w0 n_laws_toTree ([Value.agg (⟨[cellOf a1 0, cellOf a1 1, cellOf a1 2, cellOf a1 3, cellOf a1 4]⟩)]) s46 (fun v47 s48 => AC Try.prog w0 n_impl_DiffWalk [v45, v47] s48 (fun v49 s50 => AC Try.prog w0 n_laws_eqEntryS [v49, v10] s50 (fun v51 s52 => pUn UnOp.not v51 (fun v53 => pIf v53 (R (Value.bool false) s52) (AC Try.prog w0 n_laws_heldEntryS [v16, Value.int IntKind.i64 1] s52 (fun v54 s55 => pBin Try.prog 3 BinOp.lss v54 (Value.int IntKind.i64 0) (fun v56 => pIf v56 (R (Value.bool false) s55) (pBin Try.prog 3 BinOp.neq v54 v39 (fun v57 => pIf v57 (R (Value.bool false) s55) (R (Value.bool true) s55)))))))))))))))))))))))))))))))))))))))))))))))))))
theorem vc_laws_FnExactDiffWalk_eq (w0 : World) (a0 a1 : Value) (σ : Vw) (R : Value → Vw → Prop) : vc_laws_FnExactDiffWalk w0 a0 a1 σ R = den Try.prog w0 kp_laws_FnExactDiffWalk esc_laws_FnExactDiffWalk (Try.f8.body.getD .skip) (entry Try.f8.ntmps [a0, a1]) σ (retK Try.prog Try.f8.results.toList R) := by kernel_rfl
theorem ac_laws_FnExactDiffWalk {w0 : World} {a0 a1 : Value} {σ : Vw} {R : Value → Vw → Prop} (h : vc_laws_FnExactDiffWalk w0 a0 a1 σ R) : AC Try.prog w0 n_laws_FnExactDiffWalk [a0, a1] σ R := by
  refine ac_rule (fn := Try.f8) (c := Try.f8.body.getD .skip) kp_laws_FnExactDiffWalk esc_laws_FnExactDiffWalk Try.func8 (by kernel_rfl) (by kernel_rfl) ?_
  rw [← vc_laws_FnExactDiffWalk_eq]
  exact h

/-- laws.szTree -/
def kp_laws_szTree : Nat → Keep
  | _ => ⟨[], [], [], .done, []⟩
def esc_laws_szTree : Nat → Bool
  | _ => false
def vc_laws_szTree (w0 : World) (a0 a1 : Value) (σ : Vw) (R : Value → Vw → Prop) : Prop :=
  pVal true 5 a0 (pLenS (cellOf a0 2) (fun v0 => pBin Try.prog 3 BinOp.sub a1 v0 (fun v1 => pBin Try.prog 3 BinOp.lss v1 (Value.int IntKind.i64 0) (fun v2 => pIf v2 (R (Value.int IntKind.i64 (-1)) σ) (AC Try.prog w0 n_laws_szStringS [cellOf a0 3, v1] σ (fun v3 s4 => pBin Try.prog 3 BinOp.lss v3 (Value.int IntKind.i64 0) (fun v5 => pIf v5 (R (Value.int IntKind.i64 (-1)) s4) (AC Try.prog w0 n_laws_szTreeS [cellOf a0 4, v3] s4 (fun v6 s7 => pBin Try.prog 3 BinOp.lss v6 (Value.int IntKind.i64 0) (fun v8 => pIf v8 (R (Value.int IntKind.i64 (-1)) s7) (R v6 s7)))))))))))
theorem vc_laws_szTree_eq (w0 : World) (a0 a1 : Value) (σ : Vw) (R : Value → Vw → Prop) : vc_laws_szTree w0 a0 a1 σ R = den Try.prog w0 kp_laws_szTree esc_laws_szTree (Try.f14.body.getD .skip) (entry Try.f14.ntmps [a0, a1]) σ (retK Try.prog Try.f14.results.toList R) := by kernel_rfl
theorem ac_laws_szTree {w0 : World} {a0 a1 : Value} {σ : Vw} {R : Value → Vw → Prop} (h : vc_laws_szTree w0 a0 a1 σ R) : AC Try.prog w0 n_laws_szTree [a0, a1] σ R := by
  refine ac_rule (fn := Try.f14) (c := Try.f14.body.getD .skip) kp_laws_szTree esc_laws_szTree Try.func14 (by kernel_rfl) (by kernel_rfl) ?_
  rw [← vc_laws_szTree_eq]
  exact h

/-- laws.szStringS -/
def kp_laws_szStringS : Nat → Keep
  | 5 => ⟨[0, 1, 4, 5], [], [], .done, []⟩
  | _ => ⟨[], [], [], .done, []⟩
def esc_laws_szStringS : Nat → Bool
  | _ => false
def vc_laws_szStringS (w0 : World) (a0 a1 : Value) (σ : Vw) (R : Value → Vw → Prop) : Prop :=
  pLen a0 (fun v0 => pBin Try.prog 3 BinOp.sub a1 v0 (fun v1 => pBin Try.prog 3 BinOp.lss v1 (Value.int IntKind.i64 0) (fun v2 => pIf v2 (R (Value.int IntKind.i64 (-1)) σ) (pLoop (fun l3 K4 s5 => pLen (vget l3 0) (fun v6 => pBin Try.prog 3 BinOp.lss (vget l3 3) v6 (fun v7 => pIf v7 (pIndexAddr 1 (vget l3 0) (vget l3 3) (fun v8 => pLoad w0 1 v8 s5 (fun g9 => pLenS (g9 0) (fun v10 => pBin Try.prog 3 BinOp.sub (vget l3 1) v10 (fun v11 => pBin Try.prog 3 BinOp.lss v11 (Value.int IntKind.i64 0) (fun v12 => pIf v12 (K4 AX.ret [vget l3 0, v11, Value.int IntKind.i64 (-1), vget l3 3] s5) (pBin Try.prog 3 BinOp.add (vget l3 3) (Value.int IntKind.i64 1) (fun v13 => K4 AX.normal [vget l3 0, v11, vget l3 2, v13] s5)))))))) (K4 (AX.exit 0) [vget l3 0, vget l3 1, vget l3 2, vget l3 3] s5)))) [a0, v1, Value.int IntKind.i64 0, Value.int IntKind.i64 0] σ (fun x14 l15 s16 => match x14 with | .normal => R (vget l15 1) s16 | .ret => R (vget l15 2) s16 | .exit i17 => (match Nat.beq i17 0 with | true => R (vget l15 1) s16 | false => False))))))
theorem vc_laws_szStringS_eq (w0 : World) (a0 a1 : Value) (σ : Vw) (R : Value → Vw → Prop) : vc_laws_szStringS w0 a0 a1 σ R = den Try.prog w0 kp_laws_szStringS esc_laws_szStringS (Try.f15.body.getD .skip) (entry Try.f15.ntmps [a0, a1]) σ (retK Try.prog Try.f15.results.toList R) := by kernel_rfl
theorem ac_laws_szStringS {w0 : World} {a0 a1 : Value} {σ : Vw} {R : Value → Vw → Prop} (h : vc_laws_szStringS w0 a0 a1 σ R) : AC Try.prog w0 n_laws_szStringS [a0, a1] σ R := by
  refine ac_rule (fn := Try.f15) (c := Try.f15.body.getD .skip) kp_laws_szStringS esc_laws_szStringS Try.func15 (by kernel_rfl) (by kernel_rfl) ?_
  rw [← vc_laws_szStringS_eq]
  exact h

/-- laws.toTree -/
def kp_laws_toTree : Nat → Keep
  | _ => ⟨[], [], [], .done, []⟩
def esc_laws_toTree : Nat → Bool
  | _ => false
def vc_laws_toTree (w0 : World) (a0 : Value) (σ : Vw) (R : Value → Vw → Prop) : Prop :=
  pVal true 5 a0 (pVal false 1 (cellOf a0 0) (pVal false 1 (cellOf a0 1) (pVal false 1 (cellOf a0 2) (AC Try.prog w0 n_laws_toStringS [cellOf a0 3] σ (fun v0 s1 => pVal false 1 v0 (AC Try.prog w0 n_laws_toTreeS [cellOf a0 4] s1 (fun v2 s3 => pVal false 1 v2 (pVal true 5 (Value.agg (⟨[cellOf a0 0, cellOf a0 1, cellOf a0 2, v0, v2]⟩)) (R (Value.agg (⟨[cellOf a0 0, cellOf a0 1, cellOf a0 2, v0, v2]⟩)) s3)))))))))
theorem vc_laws_toTree_eq (w0 : World) (a0 : Value) (σ : Vw) (R : Value → Vw → Prop) : vc_laws_toTree w0 a0 σ R = den Try.prog w0 kp_laws_toTree esc_laws_toTree (Try.f17.body.getD .skip) (entry Try.f17.ntmps [a0]) σ (retK Try.prog Try.f17.results.toList R) := by kernel_rfl
theorem ac_laws_toTree {w0 : World} {a0 : Value} {σ : Vw} {R : Value → Vw → Prop} (h : vc_laws_toTree w0 a0 σ R) : AC Try.prog w0 n_laws_toTree [a0] σ R := by
  refine ac_rule (fn := Try.f17) (c := Try.f17.body.getD .skip) kp_laws_toTree esc_laws_toTree Try.func17 (by kernel_rfl) (by kernel_rfl) ?_
  rw [← vc_laws_toTree_eq]
  exact h

/-- laws.toStringS -/
def kp_laws_toStringS : Nat → Keep
  | 3 => ⟨[0, 3, 4], [], [], .done, []⟩
  | _ => ⟨[], [], [], .done, []⟩
def esc_laws_toStringS : Nat → Bool
  | _ => false
def vc_laws_toStringS (w0 : World) (a0 : Value) (σ : Vw) (R : Value → Vw → Prop) : Prop :=
  pLen a0 (fun v0 => pMake w0 9 1 16 ([Value.string ({ data := #[] })]) v0 v0 σ (fun v1 s2 => pLoop (fun l3 K4 s5 => pLen (vget l3 0) (fun v6 => pBin Try.prog 3 BinOp.lss (vget l3 2) v6 (fun v7 => pIf v7 (pIndexAddr 1 (vget l3 0) (vget l3 2) (fun v8 => pLoad w0 1 v8 s5 (fun g9 => pIndexAddr 1 (vget l3 1) (vget l3 2) (fun v10 => pVal false 1 (g9 0) (pStore v10 [g9 0] s5 (fun s11 => pBin Try.prog 3 BinOp.add (vget l3 2) (Value.int IntKind.i64 1) (fun v12 => K4 AX.normal [vget l3 0, vget l3 1, v12] s11))))))) (K4 (AX.exit 0) [vget l3 0, vget l3 1, vget l3 2] s5)))) [a0, v1, Value.int IntKind.i64 0] s2 (fun x13 l14 s15 => match x13 with | .normal => R (vget l14 1) s15 | .ret => False | .exit i16 => (match Nat.beq i16 0 with | true => R (vget l14 1) s15 | false => False))))
theorem vc_laws_toStringS_eq (w0 : World) (a0 : Value) (σ : Vw) (R : Value → Vw → Prop) : vc_laws_toStringS w0 a0 σ R = den Try.prog w0 kp_laws_toStringS esc_laws_toStringS (Try.f18.body.getD .skip) (entry Try.f18.ntmps [a0]) σ (retK Try.prog Try.f18.results.toList R) := by kernel_rfl
theorem ac_laws_toStringS {w0 : World} {a0 : Value} {σ : Vw} {R : Value → Vw → Prop} (h : vc_laws_toStringS w0 a0 σ R) : AC Try.prog w0 n_laws_toStringS [a0] σ R := by
  refine ac_rule (fn := Try.f18) (c := Try.f18.body.getD .skip) kp_laws_toStringS esc_laws_toStringS Try.func18 (by kernel_rfl) (by kernel_rfl) ?_
  rw [← vc_laws_toStringS_eq]
  exact h

/-- laws.eqTree -/
def kp_laws_eqTree : Nat → Keep
  | _ => ⟨[], [], [], .done, []⟩
def esc_laws_eqTree : Nat → Bool
  | _ => false
def vc_laws_eqTree (w0 : World) (a0 a1 : Value) (σ : Vw) (R : Value → Vw → Prop) : Prop :=
  pVal true 5 a0 (pVal true 5 a1 (pBin Try.prog 4 BinOp.neq (cellOf a0 0) (cellOf a1 0) (fun v0 => pIf v0 (R (Value.bool false) σ) (pBin Try.prog 3 BinOp.neq (cellOf a0 1) (cellOf a1 1) (fun v1 => pIf v1 (R (Value.bool false) σ) (pBin Try.prog 9 BinOp.neq (cellOf a0 2) (cellOf a1 2) (fun v2 => pIf v2 (R (Value.bool false) σ) (AC Try.prog w0 n_laws_eqStringS [cellOf a0 3, cellOf a1 3] σ (fun v3 s4 => pUn UnOp.not v3 (fun v5 => pIf v5 (R (Value.bool false) s4) (AC Try.prog w0 n_laws_eqTreeS [cellOf a0 4, cellOf a1 4] s4 (fun v6 s7 => pUn UnOp.not v6 (fun v8 => pIf v8 (R (Value.bool false) s7) (R (Value.bool true) s7))))))))))))))
theorem vc_laws_eqTree_eq (w0 : World) (a0 a1 : Value) (σ : Vw) (R : Value → Vw → Prop) : vc_laws_eqTree w0 a0 a1 σ R = den Try.prog w0 kp_laws_eqTree esc_laws_eqTree (Try.f20.body.getD .skip) (entry Try.f20.ntmps [a0, a1]) σ (retK Try.prog Try.f20.results.toList R) := by kernel_rfl
theorem ac_laws_eqTree {w0 : World} {a0 a1 : Value} {σ : Vw} {R : Value → Vw → Prop} (h : vc_laws_eqTree w0 a0 a1 σ R) : AC Try.prog w0 n_laws_eqTree [a0, a1] σ R := by
  refine ac_rule (fn := Try.f20) (c := Try.f20.body.getD .skip) kp_laws_eqTree esc_laws_eqTree Try.func20 (by kernel_rfl) (by kernel_rfl) ?_
  rw [← vc_laws_eqTree_eq]
  exact h

/-- laws.eqStringS -/
def kp_laws_eqStringS : Nat → Keep
  | 4 => ⟨[0, 1, 4, 5], [], [], .done, []⟩
  | 6 => ⟨[], [], [], .step 0 (.step 1 (.step 2 (.step 3 (.step 4 (.step 5 (.step 6 (.step 7 (.step 8 (.done))))))))), [(2, [0, 1]), (3, [0, 1, 2]), (6, [4, 5]), (7, [4, 5, 6]), (8, [0, 1, 2, 3, 4, 5, 6, 7])]⟩
  | _ => ⟨[], [], [], .done, []⟩
def esc_laws_eqStringS : Nat → Bool
  | _ => false
def vc_laws_eqStringS (w0 : World) (a0 a1 : Value) (σ : Vw) (R : Value → Vw → Prop) : Prop :=
  pLen a0 (fun v0 => pLen a1 (fun v1 => pBin Try.prog 3 BinOp.neq v0 v1 (fun v2 => pIf v2 (R (Value.bool false) σ) (pLoop (fun l3 K4 s5 => pLen (vget l3 0) (fun v6 => pBin Try.prog 3 BinOp.lss (vget l3 3) v6 (fun v7 => pIf v7 (pIndexAddr 1 (vget l3 0) (vget l3 3) (fun v8 => pLoad w0 1 v8 s5 (fun g9 => pIndexAddr 1 (vget l3 1) (vget l3 3) (fun v10 => pLoad w0 1 v10 s5 (fun g11 => pBin Try.prog 9 BinOp.neq (g9 0) (g11 0) (fun v12 => pIf v12 (K4 AX.ret [vget l3 0, vget l3 1, Value.bool false, vget l3 3] s5) (pBin Try.prog 3 BinOp.add (vget l3 3) (Value.int IntKind.i64 1) (fun v13 => K4 AX.normal [vget l3 0, vget l3 1, vget l3 2, v13] s5)))))))) (K4 (AX.exit 0) [vget l3 0, vget l3 1, vget l3 2, vget l3 3] s5)))) [a0, a1, Value.bool false, Value.int IntKind.i64 0] σ (fun x14 l15 s16 => match x14 with | .normal => R (Value.bool true) s16 | .ret => R (vget l15 2) s16 | .exit i17 => (match Nat.beq i17 0 with | true => R (Value.bool true) s16 | false => False))))))
theorem vc_laws_eqStringS_eq (w0 : World) (a0 a1 : Value) (σ : Vw) (R : Value → Vw → Prop) : vc_laws_eqStringS w0 a0 a1 σ R = den Try.prog w0 kp_laws_eqStringS esc_laws_eqStringS (Try.f21.body.getD .skip) (entry Try.f21.ntmps [a0, a1]) σ (retK Try.prog Try.f21.results.toList R) := by kernel_rfl
theorem ac_laws_eqStringS {w0 : World} {a0 a1 : Value} {σ : Vw} {R : Value → Vw → Prop} (h : vc_laws_eqStringS w0 a0 a1 σ R) : AC Try.prog w0 n_laws_eqStringS [a0, a1] σ R := by
  refine ac_rule (fn := Try.f21) (c := Try.f21.body.getD .skip) kp_laws_eqStringS esc_laws_eqStringS Try.func21 (by kernel_rfl) (by kernel_rfl) ?_
  rw [← vc_laws_eqStringS_eq]
  exact h

/-- laws.markTree -/
def kp_laws_markTree : Nat → Keep
  | _ => ⟨[], [], [], .done, []⟩
def esc_laws_markTree : Nat → Bool
  | _ => false
def vc_laws_markTree (w0 : World) (a0 a1 : Value) (σ : Vw) (R : Value → Vw → Prop) : Prop :=
  pVal true 5 a0 (AC Try.prog w0 n_laws_markStringS [cellOf a0 3, a1] σ (fun v0 s1 => AC Try.prog w0 n_laws_markTreeS [cellOf a0 4, v0] s1 (fun v2 s3 => R v2 s3)))
theorem vc_laws_markTree_eq (w0 : World) (a0 a1 : Value) (σ : Vw) (R : Value → Vw → Prop) : vc_laws_markTree w0 a0 a1 σ R = den Try.prog w0 kp_laws_markTree esc_laws_markTree (Try.f22.body.getD .skip) (entry Try.f22.ntmps [a0, a1]) σ (retK Try.prog Try.f22.results.toList R) := by kernel_rfl
theorem ac_laws_markTree {w0 : World} {a0 a1 : Value} {σ : Vw} {R : Value → Vw → Prop} (h : vc_laws_markTree w0 a0 a1 σ R) : AC Try.prog w0 n_laws_markTree [a0, a1] σ R := by
  refine ac_rule (fn := Try.f22) (c := Try.f22.body.getD .skip) kp_laws_markTree esc_laws_markTree Try.func22 (by kernel_rfl) (by kernel_rfl) ?_
  rw [← vc_laws_markTree_eq]
  exact h

/-- laws.markStringS -/
def kp_laws_markStringS : Nat → Keep
  | 2 => ⟨[0, 1, 5], [], [], .done, []⟩
  | _ => ⟨[], [], [], .done, []⟩
def esc_laws_markStringS : Nat → Bool
  | _ => false
def vc_laws_markStringS (w0 : World) (a0 a1 : Value) (σ : Vw) (R : Value → Vw → Prop) : Prop :=
  pLoop (fun l0 K1 s2 => pLen (vget l0 0) (fun v3 => pBin Try.prog 3 BinOp.lss (vget l0 2) v3 (fun v4 => pIf v4 (AC Try.prog w0 n_laws_markText [vget l0 1] s2 (fun v5 s6 => pIndexAddr 1 (vget l0 0) (vget l0 2) (fun v7 => pVal false 1 v5 (pStore v7 [v5] s6 (fun s8 => pBin Try.prog 3 BinOp.add (vget l0 1) (Value.int IntKind.i64 1) (fun v9 => pBin Try.prog 3 BinOp.add (vget l0 2) (Value.int IntKind.i64 1) (fun v10 => K1 AX.normal [vget l0 0, v9, v10] s8))))))) (K1 (AX.exit 0) [vget l0 0, vget l0 1, vget l0 2] s2)))) [a0, a1, Value.int IntKind.i64 0] σ (fun x11 l12 s13 => match x11 with | .normal => R (vget l12 1) s13 | .ret => False | .exit i14 => (match Nat.beq i14 0 with | true => R (vget l12 1) s13 | false => False))
theorem vc_laws_markStringS_eq (w0 : World) (a0 a1 : Value) (σ : Vw) (R : Value → Vw → Prop) : vc_laws_markStringS w0 a0 a1 σ R = den Try.prog w0 kp_laws_markStringS esc_laws_markStringS (Try.f23.body.getD .skip) (entry Try.f23.ntmps [a0, a1]) σ (retK Try.prog Try.f23.results.toList R) := by kernel_rfl
theorem ac_laws_markStringS {w0 : World} {a0 a1 : Value} {σ : Vw} {R : Value → Vw → Prop} (h : vc_laws_markStringS w0 a0 a1 σ R) : AC Try.prog w0 n_laws_markStringS [a0, a1] σ R := by
  refine ac_rule (fn := Try.f23) (c := Try.f23.body.getD .skip) kp_laws_markStringS esc_laws_markStringS Try.func23 (by kernel_rfl) (by kernel_rfl) ?_
  rw [← vc_laws_markStringS_eq]
  exact h

/-- spec.TreeOk -/
def kp_spec_TreeOk : Nat → Keep
  | _ => ⟨[], [], [], .done, []⟩
def esc_spec_TreeOk : Nat → Bool
  | _ => false
def vc_spec_TreeOk (w0 : World) (a0 : Value) (σ : Vw) (R : Value → Vw → Prop) : Prop :=
  pVal true 5 a0 (pIf (cellOf a0 0) (AC Try.prog w0 n_spec_l1Parts ([Value.agg (⟨[cellOf a0 0, cellOf a0 1, cellOf a0 2, cellOf a0 3, cellOf a0 4]⟩), Value.int IntKind.i64 0]) σ (fun v0 s1 => pIf v0 (AC Try.prog w0 n_spec_l1Count ([Value.agg (⟨[cellOf a0 0, cellOf a0 1, cellOf a0 2, cellOf a0 3, cellOf a0 4]⟩)]) s1 (fun v2 s3 => pBin Try.prog 3 BinOp.leq v2 (Value.int IntKind.i64 30) (fun v4 => R v4 s3))) (R (Value.bool false) s1))) (R (Value.bool false) σ))
theorem vc_spec_TreeOk_eq (w0 : World) (a0 : Value) (σ : Vw) (R : Value → Vw → Prop) : vc_spec_TreeOk w0 a0 σ R = den Try.prog w0 kp_spec_TreeOk esc_spec_TreeOk (Try.f43.body.getD .skip) (entry Try.f43.ntmps [a0]) σ (retK Try.prog Try.f43.results.toList R) := by kernel_rfl
theorem ac_spec_TreeOk {w0 : World} {a0 : Value} {σ : Vw} {R : Value → Vw → Prop} (h : vc_spec_TreeOk w0 a0 σ R) : AC Try.prog w0 n_spec_TreeOk [a0] σ R := by
  refine ac_rule (fn := Try.f43) (c := Try.f43.body.getD .skip) kp_spec_TreeOk esc_spec_TreeOk Try.func43 (by kernel_rfl) (by kernel_rfl) ?_
  rw [← vc_spec_TreeOk_eq]
  exact h

/-- spec.DiffWalk -/
def kp_spec_DiffWalk : Nat → Keep
  | _ => ⟨[], [], [], .done, []⟩
def esc_spec_DiffWalk : Nat → Bool
  | 13 => true
  | 14 => true
  | _ => false
def vc_spec_DiffWalk (w0 : World) (a0 a1 : Value) (σ : Vw) (R : Value → Vw → Prop) : Prop :=
  pVal true 5 a0 (pVal true 5 a1 (AC Try.prog w0 n_spec_TreeOk ([Value.agg (⟨[cellOf a0 0, cellOf a0 1, cellOf a0 2, cellOf a0 3, cellOf a0 4]⟩)]) σ (fun v0 s1 => pUn UnOp.not v0 (fun v2 => pIf v2 (pNew w0 112 [] s1 (fun n3 s4 => R (Value.slice (Option.some (Addr.mk n3 0 Option.none)) 0 0) s4)) (AC Try.prog w0 n_spec_TreeOk ([Value.agg (⟨[cellOf a1 0, cellOf a1 1, cellOf a1 2, cellOf a1 3, cellOf a1 4]⟩)]) s1 (fun v5 s6 => pUn UnOp.not v5 (fun v7 => pIf v7 (pNew w0 112 [] s6 (fun n8 s9 => R (Value.slice (Option.some (Addr.mk n8 0 Option.none)) 0 0) s9)) (pNew w0 9 [] s6 (fun n10 s11 => AC Try.prog w0 n_spec_l3Walk ([Value.slice (Option.some (Addr.mk n10 0 Option.none)) 0 0, Value.agg (⟨[cellOf a0 0, cellOf a0 1, cellOf a0 2, cellOf a0 3, cellOf a0 4]⟩), Value.agg (⟨[cellOf a1 0, cellOf a1 1, cellOf a1 2, cellOf a1 3, cellOf a1 4]⟩)]) s11 (fun v12 s13 => R v12 s13))))))))))
theorem vc_spec_DiffWalk_eq (w0 : World) (a0 a1 : Value) (σ : Vw) (R : Value → Vw → Prop) : vc_spec_DiffWalk w0 a0 a1 σ R = den Try.prog w0 kp_spec_DiffWalk esc_spec_DiffWalk (Try.f51.body.getD .skip) (entry Try.f51.ntmps [a0, a1]) σ (retK Try.prog Try.f51.results.toList R) := by kernel_rfl
theorem ac_spec_DiffWalk {w0 : World} {a0 a1 : Value} {σ : Vw} {R : Value → Vw → Prop} (h : vc_spec_DiffWalk w0 a0 a1 σ R) : AC Try.prog w0 n_spec_DiffWalk [a0, a1] σ R := by
  refine ac_rule (fn := Try.f51) (c := Try.f51.body.getD .skip) kp_spec_DiffWalk esc_spec_DiffWalk Try.func51 (by kernel_rfl) (by kernel_rfl) ?_
  rw [← vc_spec_DiffWalk_eq]
  exact h

/-- impl.DiffWalk -/
def kp_impl_DiffWalk : Nat → Keep
  | _ => ⟨[], [], [], .done, []⟩
def esc_impl_DiffWalk : Nat → Bool
  | 2 => true
  | 3 => true
  | 13 => true
  | _ => false
def vc_impl_DiffWalk (w0 : World) (a0 a1 : Value) (σ : Vw) (R : Value → Vw → Prop) : Prop :=
  pVal true 5 a0 (pNew w0 37 [cellOf a0 0, cellOf a0 1, cellOf a0 2, cellOf a0 3, cellOf a0 4] σ (fun n0 s1 => pVal true 5 a1 (pNew w0 37 [cellOf a1 0, cellOf a1 1, cellOf a1 2, cellOf a1 3, cellOf a1 4] s1 (fun n2 s3 => pLoad w0 5 (Value.pointer (Option.some (Addr.mk n0 0 Option.none))) s3 (fun g4 => AC Try.prog w0 n_impl_TreeOk ([Value.agg (⟨[g4 0, g4 1, g4 2, g4 3, g4 4]⟩)]) s3 (fun v5 s6 => pUn UnOp.not v5 (fun v7 => pIf v7 (pNew w0 112 [] s6 (fun n8 s9 => R (Value.slice (Option.some (Addr.mk n8 0 Option.none)) 0 0) s9)) (pLoad w0 5 (Value.pointer (Option.some (Addr.mk n2 0 Option.none))) s6 (fun g10 => AC Try.prog w0 n_impl_TreeOk ([Value.agg (⟨[g10 0, g10 1, g10 2, g10 3, g10 4]⟩)]) s6 (fun v11 s12 => pUn UnOp.not v11 (fun v13 => pIf v13 (pNew w0 112 [] s12 (fun n14 s15 => R (Value.slice (Option.some (Addr.mk n14 0 Option.none)) 0 0) s15)) (AC Try.prog w0 n_impl_walk [Value.slice Option.none 0 0, Value.pointer (Option.some (Addr.mk n0 0 Option.none)), Value.pointer (Option.some (Addr.mk n2 0 Option.none))] s12 (fun v16 s17 => R v16 s17)))))))))))))
theorem vc_impl_DiffWalk_eq (w0 : World) (a0 a1 : Value) (σ : Vw) (R : Value → Vw → Prop) : vc_impl_DiffWalk w0 a0 a1 σ R = den Try.prog w0 kp_impl_DiffWalk esc_impl_DiffWalk (Try.f52.body.getD .skip) (entry Try.f52.ntmps [a0, a1]) σ (retK Try.prog Try.f52.results.toList R) := by kernel_rfl
theorem ac_impl_DiffWalk {w0 : World} {a0 a1 : Value} {σ : Vw} {R : Value → Vw → Prop} (h : vc_impl_DiffWalk w0 a0 a1 σ R) : AC Try.prog w0 n_impl_DiffWalk [a0, a1] σ R := by
  refine ac_rule (fn := Try.f52) (c := Try.f52.body.getD .skip) kp_impl_DiffWalk esc_impl_DiffWalk Try.func52 (by kernel_rfl) (by kernel_rfl) ?_
  rw [← vc_impl_DiffWalk_eq]
  exact h

/-- laws.eqEntryS -/
def kp_laws_eqEntryS : Nat → Keep
  | 4 => ⟨[0, 1, 4, 5], [], [], .done, []⟩
  | 6 => ⟨[], [], [], .step 0 (.step 1 (.step 2 (.step 3 (.step 4 (.step 5 (.step 6 (.step 7 (.step 8 (.step 9 (.done)))))))))), [(2, [0, 1]), (3, [0, 1, 2]), (6, [4, 5]), (7, [4, 5, 6]), (8, [0, 1, 2, 3, 4, 5, 6, 7]), (9, [0, 1, 2, 3, 4, 5, 6, 7, 8])]⟩
  | _ => ⟨[], [], [], .done, []⟩
def esc_laws_eqEntryS : Nat → Bool
  | _ => false
def vc_laws_eqEntryS (w0 : World) (a0 a1 : Value) (σ : Vw) (R : Value → Vw → Prop) : Prop :=
  pLen a0 (fun v0 => pLen a1 (fun v1 => pBin Try.prog 3 BinOp.neq v0 v1 (fun v2 => pIf v2 (R (Value.bool false) σ) (pLoop (fun l3 K4 s5 => pLen (vget l3 0) (fun v6 => pBin Try.prog 3 BinOp.lss (vget l3 3) v6 (fun v7 => pIf v7 (pIndexAddr 5 (vget l3 0) (vget l3 3) (fun v8 => pLoad w0 5 v8 s5 (fun g9 => pIndexAddr 5 (vget l3 1) (vget l3 3) (fun v10 => pLoad w0 5 v10 s5 (fun g11 => AC Try.prog w0 n_laws_eqEntry ([Value.agg (⟨[g9 0, g9 1, g9 2, g9 3, g9 4]⟩), Value.agg (⟨[g11 0, g11 1, g11 2, g11 3, g11 4]⟩)]) s5 (fun v12 s13 => pUn UnOp.not v12 (fun v14 => pIf v14 (K4 AX.ret [vget l3 0, vget l3 1, Value.bool false, vget l3 3] s13) (pBin Try.prog 3 BinOp.add (vget l3 3) (Value.int IntKind.i64 1) (fun v15 => K4 AX.normal [vget l3 0, vget l3 1, vget l3 2, v15] s13))))))))) (K4 (AX.exit 0) [vget l3 0, vget l3 1, vget l3 2, vget l3 3] s5)))) [a0, a1, Value.bool false, Value.int IntKind.i64 0] σ (fun x16 l17 s18 => match x16 with | .normal => R (Value.bool true) s18 | .ret => R (vget l17 2) s18 | .exit i19 => (match Nat.beq i19 0 with | true => R (Value.bool true) s18 | false => False))))))
theorem vc_laws_eqEntryS_eq (w0 : World) (a0 a1 : Value) (σ : Vw) (R : Value → Vw → Prop) : vc_laws_eqEntryS w0 a0 a1 σ R = den Try.prog w0 kp_laws_eqEntryS esc_laws_eqEntryS (Try.f53.body.getD .skip) (entry Try.f53.ntmps [a0, a1]) σ (retK Try.prog Try.f53.results.toList R) := by kernel_rfl
theorem ac_laws_eqEntryS {w0 : World} {a0 a1 : Value} {σ : Vw} {R : Value → Vw → Prop} (h : vc_laws_eqEntryS w0 a0 a1 σ R) : AC Try.prog w0 n_laws_eqEntryS [a0, a1] σ R := by
  refine ac_rule (fn := Try.f53) (c := Try.f53.body.getD .skip) kp_laws_eqEntryS esc_laws_eqEntryS Try.func53 (by kernel_rfl) (by kernel_rfl) ?_
  rw [← vc_laws_eqEntryS_eq]
  exact h

/-- laws.markEntryS -/
def kp_laws_markEntryS : Nat → Keep
  | 2 => ⟨[0, 1, 5], [], [], .done, []⟩
  | _ => ⟨[], [], [], .done, []⟩
def esc_laws_markEntryS : Nat → Bool
  | _ => false
def vc_laws_markEntryS (w0 : World) (a0 a1 : Value) (σ : Vw) (R : Value → Vw → Prop) : Prop :=
  pLoop (fun l0 K1 s2 => pLen (vget l0 0) (fun v3 => pBin Try.prog 3 BinOp.lss (vget l0 2) v3 (fun v4 => pIf v4 (pIndexAddr 5 (vget l0 0) (vget l0 2) (fun v5 => pField 0 v5 (fun v6 => pLoad w0 1 v6 s2 (fun g7 => AC Try.prog w0 n_laws_markStringS [g7 0, vget l0 1] s2 (fun v8 s9 => pIndexAddr 5 (vget l0 0) (vget l0 2) (fun v10 => pField 1 v10 (fun v11 => pVal false 1 v8 (pStore v11 [v8] s9 (fun s12 => pBin Try.prog 3 BinOp.add v8 (Value.int IntKind.i64 1) (fun v13 => pBin Try.prog 3 BinOp.rem v13 (Value.int IntKind.i64 3) (fun v14 => pBin Try.prog 3 BinOp.eql v14 (Value.int IntKind.i64 0) (fun v15 => pIndexAddr 5 (vget l0 0) (vget l0 2) (fun v16 => pField 2 v16 (fun v17 => pVal false 1 v15 (pStore v17 [v15] s12 (fun s18 => pBin Try.prog 3 BinOp.add v13 (Value.int IntKind.i64 1) (fun v19 => pIndexAddr 5 (vget l0 0) (vget l0 2) (fun v20 => pField 3 v20 (fun v21 => pVal false 1 v19 (pStore v21 [v19] s18 (fun s22 => pBin Try.prog 3 BinOp.add v19 (Value.int IntKind.i64 1) (fun v23 => AC Try.prog w0 n_laws_markText [v23] s22 (fun v24 s25 => pIndexAddr 5 (vget l0 0) (vget l0 2) (fun v26 => pField 4 v26 (fun v27 => pVal false 1 v24 (pStore v27 [v24] s25 (fun s28 => pBin Try.prog 3 BinOp.add v23 (Value.int IntKind.i64 1) (fun v29 => pBin Try.prog 3 BinOp.add (vget l0 2) (Value.int IntKind.i64 1) (fun v30 => K1 AX.normal [vget l0 0, v29, v30] s28))))))))))))))))))))))))))))) (K1 (AX.exit 0) [vget l0 0, vget l0 1, vget l0 2] s2)))) [a0, a1, Value.int IntKind.i64 0] σ (fun x31 l32 s33 => match x31 with | .normal => R (vget l32 1) s33 | .ret => False | .exit i34 => (match Nat.beq i34 0 with | true => R (vget l32 1) s33 | false => False))
theorem vc_laws_markEntryS_eq (w0 : World) (a0 a1 : Value) (σ : Vw) (R : Value → Vw → Prop) : vc_laws_markEntryS w0 a0 a1 σ R = den Try.prog w0 kp_laws_markEntryS esc_laws_markEntryS (Try.f54.body.getD .skip) (entry Try.f54.ntmps [a0, a1]) σ (retK Try.prog Try.f54.results.toList R) := by kernel_rfl
theorem ac_laws_markEntryS {w0 : World} {a0 a1 : Value} {σ : Vw} {R : Value → Vw → Prop} (h : vc_laws_markEntryS w0 a0 a1 σ R) : AC Try.prog w0 n_laws_markEntryS [a0, a1] σ R := by
  refine ac_rule (fn := Try.f54) (c := Try.f54.body.getD .skip) kp_laws_markEntryS esc_laws_markEntryS Try.func54 (by kernel_rfl) (by kernel_rfl) ?_
  rw [← vc_laws_markEntryS_eq]
  exact h

/-- laws.heldEntryS -/
def kp_laws_heldEntryS : Nat → Keep
  | 2 => ⟨[0, 1, 4, 5], [], [], .done, []⟩
  | 16 => ⟨[], [], [], .step 0 (.step 1 (.step 2 (.step 3 (.step 4 (.step 5 (.step 6 (.step 7 (.done)))))))), [(2, [0, 1]), (3, [0, 1, 2]), (4, [0, 1, 2, 3]), (6, [5]), (7, [0, 1, 2, 3, 4, 5, 6])]⟩
  | _ => ⟨[], [], [], .done, []⟩
def esc_laws_heldEntryS : Nat → Bool
  | _ => false
def vc_laws_heldEntryS (w0 : World) (a0 a1 : Value) (σ : Vw) (R : Value → Vw → Prop) : Prop :=
  pLoop (fun l0 K1 s2 => pLen (vget l0 0) (fun v3 => pBin Try.prog 3 BinOp.lss (vget l0 3) v3 (fun v4 => pIf v4 (pIndexAddr 5 (vget l0 0) (vget l0 3) (fun v5 => pField 0 v5 (fun v6 => pLoad w0 1 v6 s2 (fun g7 => AC Try.prog w0 n_laws_heldStringS [g7 0, vget l0 1] s2 (fun v8 s9 => pBin Try.prog 3 BinOp.lss v8 (Value.int IntKind.i64 0) (fun v10 => pIf v10 (K1 AX.ret [vget l0 0, v8, Value.int IntKind.i64 (-1), vget l0 3] s9) (pIndexAddr 5 (vget l0 0) (vget l0 3) (fun v11 => pField 1 v11 (fun v12 => pLoad w0 1 v12 s9 (fun g13 => pBin Try.prog 3 BinOp.neq (g13 0) v8 (fun v14 => pIf v14 (K1 AX.ret [vget l0 0, v8, Value.int IntKind.i64 (-1), vget l0 3] s9) (pBin Try.prog 3 BinOp.add v8 (Value.int IntKind.i64 1) (fun v15 => pIndexAddr 5 (vget l0 0) (vget l0 3) (fun v16 => pField 2 v16 (fun v17 => pLoad w0 1 v17 s9 (fun g18 => pBin Try.prog 3 BinOp.rem v15 (Value.int IntKind.i64 3) (fun v19 => pBin Try.prog 3 BinOp.eql v19 (Value.int IntKind.i64 0) (fun v20 => pBin Try.prog 4 BinOp.neq (g18 0) v20 (fun v21 => pIf v21 (K1 AX.ret [vget l0 0, v15, Value.int IntKind.i64 (-1), vget l0 3] s9) (pBin Try.prog 3 BinOp.add v15 (Value.int IntKind.i64 1) (fun v22 => pIndexAddr 5 (vget l0 0) (vget l0 3) (fun v23 => pField 3 v23 (fun v24 => pLoad w0 1 v24 s9 (fun g25 => pBin Try.prog 3 BinOp.neq (g25 0) v22 (fun v26 => pIf v26 (K1 AX.ret [vget l0 0, v22, Value.int IntKind.i64 (-1), vget l0 3] s9) (pBin Try.prog 3 BinOp.add v22 (Value.int IntKind.i64 1) (fun v27 => pIndexAddr 5 (vget l0 0) (vget l0 3) (fun v28 => pField 4 v28 (fun v29 => pLoad w0 1 v29 s9 (fun g30 => AC Try.prog w0 n_laws_markText [v27] s9 (fun v31 s32 => (Stay w0 s9 s32 v29 1) ∧ (pBin Try.prog 9 BinOp.neq (g30 0) v31 (fun v33 => pIf v33 (K1 AX.ret [vget l0 0, v27, Value.int IntKind.i64 (-1), vget l0 3] s32) (pBin Try.prog 3 BinOp.add v27 (Value.int IntKind.i64 1) (fun v34 => pBin Try.prog 3 BinOp.add (vget l0 3) (Value.int IntKind.i64 1) (fun v35 => K1 AX.normal [vget l0 0, v34, vget l0 2, v35] s32)))))))))))))))))))))))))))))))))))) (K1 (AX.exit 0) [vget l0 0, vget l0 1, vget l0 2, vget l0 3] s2)))) [a0, a1, Value.int IntKind.i64 0, Value.int IntKind.i64 0] σ (fun x36 l37 s38 => match x36 with | .normal => R (vget l37 1) s38 | .ret => R (vget l37 2) s38 | .exit i39 => (match Nat.beq i39 0 with | true => R (vget l37 1) s38 | false => False))
theorem vc_laws_heldEntryS_eq (w0 : World) (a0 a1 : Value) (σ : Vw) (R : Value → Vw → Prop) : vc_laws_heldEntryS w0 a0 a1 σ R = den Try.prog w0 kp_laws_heldEntryS esc_laws_heldEntryS (Try.f55.body.getD .skip) (entry Try.f55.ntmps [a0, a1]) σ (retK Try.prog Try.f55.results.toList R) := by kernel_rfl
theorem ac_laws_heldEntryS {w0 : World} {a0 a1 : Value} {σ : Vw} {R : Value → Vw → Prop} (h : vc_laws_heldEntryS w0 a0 a1 σ R) : AC Try.prog w0 n_laws_heldEntryS [a0, a1] σ R := by
  refine ac_rule (fn := Try.f55) (c := Try.f55.body.getD .skip) kp_laws_heldEntryS esc_laws_heldEntryS Try.func55 (by kernel_rfl) (by kernel_rfl) ?_
  rw [← vc_laws_heldEntryS_eq]
  exact h

/-- laws.szTreeS -/
def kp_laws_szTreeS : Nat → Keep
  | 5 => ⟨[0, 1, 4, 5], [], [], .done, []⟩
  | _ => ⟨[], [], [], .done, []⟩
def esc_laws_szTreeS : Nat → Bool
  | _ => false
def vc_laws_szTreeS (w0 : World) (a0 a1 : Value) (σ : Vw) (R : Value → Vw → Prop) : Prop :=
  pLen a0 (fun v0 => pBin Try.prog 3 BinOp.sub a1 v0 (fun v1 => pBin Try.prog 3 BinOp.lss v1 (Value.int IntKind.i64 0) (fun v2 => pIf v2 (R (Value.int IntKind.i64 (-1)) σ) (pLoop (fun l3 K4 s5 => pLen (vget l3 0) (fun v6 => pBin Try.prog 3 BinOp.lss (vget l3 3) v6 (fun v7 => pIf v7 (pIndexAddr 5 (vget l3 0) (vget l3 3) (fun v8 => pLoad w0 5 v8 s5 (fun g9 => AC Try.prog w0 n_laws_szTree ([Value.agg (⟨[g9 0, g9 1, g9 2, g9 3, g9 4]⟩), vget l3 1]) s5 (fun v10 s11 => pBin Try.prog 3 BinOp.lss v10 (Value.int IntKind.i64 0) (fun v12 => pIf v12 (K4 AX.ret [vget l3 0, v10, Value.int IntKind.i64 (-1), vget l3 3] s11) (pBin Try.prog 3 BinOp.add (vget l3 3) (Value.int IntKind.i64 1) (fun v13 => K4 AX.normal [vget l3 0, v10, vget l3 2, v13] s11))))))) (K4 (AX.exit 0) [vget l3 0, vget l3 1, vget l3 2, vget l3 3] s5)))) [a0, v1, Value.int IntKind.i64 0, Value.int IntKind.i64 0] σ (fun x14 l15 s16 => match x14 with | .normal => R (vget l15 1) s16 | .ret => R (vget l15 2) s16 | .exit i17 => (match Nat.beq i17 0 with | true => R (vget l15 1) s16 | false => False))))))
theorem vc_laws_szTreeS_eq (w0 : World) (a0 a1 : Value) (σ : Vw) (R : Value → Vw → Prop) : vc_laws_szTreeS w0 a0 a1 σ R = den Try.prog w0 kp_laws_szTreeS esc_laws_szTreeS (Try.f60.body.getD .skip) (entry Try.f60.ntmps [a0, a1]) σ (retK Try.prog Try.f60.results.toList R) := by kernel_rfl
theorem ac_laws_szTreeS {w0 : World} {a0 a1 : Value} {σ : Vw} {R : Value → Vw → Prop} (h : vc_laws_szTreeS w0 a0 a1 σ R) : AC Try.prog w0 n_laws_szTreeS [a0, a1] σ R := by
  refine ac_rule (fn := Try.f60) (c := Try.f60.body.getD .skip) kp_laws_szTreeS esc_laws_szTreeS Try.func60 (by kernel_rfl) (by kernel_rfl) ?_
  rw [← vc_laws_szTreeS_eq]
  exact h

/-- laws.toTreeS -/
def kp_laws_toTreeS : Nat → Keep
  | 3 => ⟨[0, 3, 4], [], [], .done, []⟩
  | _ => ⟨[], [], [], .done, []⟩
def esc_laws_toTreeS : Nat → Bool
  | _ => false
def vc_laws_toTreeS (w0 : World) (a0 : Value) (σ : Vw) (R : Value → Vw → Prop) : Prop :=
  pLen a0 (fun v0 => pMake w0 37 5 80 ([Value.bool false, Value.int IntKind.i64 0, Value.string ({ data := #[] }), Value.slice Option.none 0 0, Value.slice Option.none 0 0]) v0 v0 σ (fun v1 s2 => pLoop (fun l3 K4 s5 => pLen (vget l3 0) (fun v6 => pBin Try.prog 3 BinOp.lss (vget l3 2) v6 (fun v7 => pIf v7 (pIndexAddr 5 (vget l3 0) (vget l3 2) (fun v8 => pLoad w0 5 v8 s5 (fun g9 => AC Try.prog w0 n_laws_toTree ([Value.agg (⟨[g9 0, g9 1, g9 2, g9 3, g9 4]⟩)]) s5 (fun v10 s11 => pIndexAddr 5 (vget l3 1) (vget l3 2) (fun v12 => pVal true 5 v10 (pStore v12 [cellOf v10 0, cellOf v10 1, cellOf v10 2, cellOf v10 3, cellOf v10 4] s11 (fun s13 => pBin Try.prog 3 BinOp.add (vget l3 2) (Value.int IntKind.i64 1) (fun v14 => K4 AX.normal [vget l3 0, vget l3 1, v14] s13)))))))) (K4 (AX.exit 0) [vget l3 0, vget l3 1, vget l3 2] s5)))) [a0, v1, Value.int IntKind.i64 0] s2 (fun x15 l16 s17 => match x15 with | .normal => R (vget l16 1) s17 | .ret => False | .exit i18 => (match Nat.beq i18 0 with | true => R (vget l16 1) s17 | false => False))))
theorem vc_laws_toTreeS_eq (w0 : World) (a0 : Value) (σ : Vw) (R : Value → Vw → Prop) : vc_laws_toTreeS w0 a0 σ R = den Try.prog w0 kp_laws_toTreeS esc_laws_toTreeS (Try.f63.body.getD .skip) (entry Try.f63.ntmps [a0]) σ (retK Try.prog Try.f63.results.toList R) := by kernel_rfl
theorem ac_laws_toTreeS {w0 : World} {a0 : Value} {σ : Vw} {R : Value → Vw → Prop} (h : vc_laws_toTreeS w0 a0 σ R) : AC Try.prog w0 n_laws_toTreeS [a0] σ R := by
  refine ac_rule (fn := Try.f63) (c := Try.f63.body.getD .skip) kp_laws_toTreeS esc_laws_toTreeS Try.func63 (by kernel_rfl) (by kernel_rfl) ?_
  rw [← vc_laws_toTreeS_eq]
  exact h

/-- impl.TreeOk -/
def kp_impl_TreeOk : Nat → Keep
  | _ => ⟨[], [], [], .done, []⟩
def esc_impl_TreeOk : Nat → Bool
  | _ => false
def vc_impl_TreeOk (w0 : World) (a0 : Value) (σ : Vw) (R : Value → Vw → Prop) : Prop :=
  pVal true 5 a0 (pIf (cellOf a0 0) (AC Try.prog w0 n_impl_Tree_sound ([Value.agg (⟨[cellOf a0 0, cellOf a0 1, cellOf a0 2, cellOf a0 3, cellOf a0 4]⟩), Value.int IntKind.i64 0]) σ (fun v0 s1 => pIf v0 (AC Try.prog w0 n_impl_Tree_paths ([Value.agg (⟨[cellOf a0 0, cellOf a0 1, cellOf a0 2, cellOf a0 3, cellOf a0 4]⟩)]) s1 (fun v2 s3 => pBin Try.prog 3 BinOp.leq v2 (Value.int IntKind.i64 31) (fun v4 => R v4 s3))) (R (Value.bool false) s1))) (R (Value.bool false) σ))
theorem vc_impl_TreeOk_eq (w0 : World) (a0 : Value) (σ : Vw) (R : Value → Vw → Prop) : vc_impl_TreeOk w0 a0 σ R = den Try.prog w0 kp_impl_TreeOk esc_impl_TreeOk (Try.f64.body.getD .skip) (entry Try.f64.ntmps [a0]) σ (retK Try.prog Try.f64.results.toList R) := by kernel_rfl
theorem ac_impl_TreeOk {w0 : World} {a0 : Value} {σ : Vw} {R : Value → Vw → Prop} (h : vc_impl_TreeOk w0 a0 σ R) : AC Try.prog w0 n_impl_TreeOk [a0] σ R := by
  refine ac_rule (fn := Try.f64) (c := Try.f64.body.getD .skip) kp_impl_TreeOk esc_impl_TreeOk Try.func64 (by kernel_rfl) (by kernel_rfl) ?_
  rw [← vc_impl_TreeOk_eq]
  exact h

/-- laws.eqTreeS -/
def kp_laws_eqTreeS : Nat → Keep
  | 4 => ⟨[0, 1, 4, 5], [], [], .done, []⟩
  | 6 => ⟨[], [], [], .step 0 (.step 1 (.step 2 (.step 3 (.step 4 (.step 5 (.step 6 (.step 7 (.step 8 (.step 9 (.done)))))))))), [(2, [0, 1]), (3, [0, 1, 2]), (6, [4, 5]), (7, [4, 5, 6]), (8, [0, 1, 2, 3, 4, 5, 6, 7]), (9, [0, 1, 2, 3, 4, 5, 6, 7, 8])]⟩
  | _ => ⟨[], [], [], .done, []⟩
def esc_laws_eqTreeS : Nat → Bool
  | _ => false
def vc_laws_eqTreeS (w0 : World) (a0 a1 : Value) (σ : Vw) (R : Value → Vw → Prop) : Prop :=
  pLen a0 (fun v0 => pLen a1 (fun v1 => pBin Try.prog 3 BinOp.neq v0 v1 (fun v2 => pIf v2 (R (Value.bool false) σ) (pLoop (fun l3 K4 s5 => pLen (vget l3 0) (fun v6 => pBin Try.prog 3 BinOp.lss (vget l3 3) v6 (fun v7 => pIf v7 (pIndexAddr 5 (vget l3 0) (vget l3 3) (fun v8 => pLoad w0 5 v8 s5 (fun g9 => pIndexAddr 5 (vget l3 1) (vget l3 3) (fun v10 => pLoad w0 5 v10 s5 (fun g11 => AC Try.prog w0 n_laws_eqTree ([Value.agg (⟨[g9 0, g9 1, g9 2, g9 3, g9 4]⟩), Value.agg (⟨[g11 0, g11 1, g11 2, g11 3, g11 4]⟩)]) s5 (fun v12 s13 => pUn UnOp.not v12 (fun v14 => pIf v14 (K4 AX.ret [vget l3 0, vget l3 1, Value.bool false, vget l3 3] s13) (pBin Try.prog 3 BinOp.add (vget l3 3) (Value.int IntKind.i64 1) (fun v15 => K4 AX.normal [vget l3 0, vget l3 1, vget l3 2, v15] s13))))))))) (K4 (AX.exit 0) [vget l3 0, vget l3 1, vget l3 2, vget l3 3] s5)))) [a0, a1, Value.bool false, Value.int IntKind.i64 0] σ (fun x16 l17 s18 => match x16 with | .normal => R (Value.bool true) s18 | .ret => R (vget l17 2) s18 | .exit i19 => (match Nat.beq i19 0 with | true => R (Value.bool true) s18 | false => False))))))
theorem vc_laws_eqTreeS_eq (w0 : World) (a0 a1 : Value) (σ : Vw) (R : Value → Vw → Prop) : vc_laws_eqTreeS w0 a0 a1 σ R = den Try.prog w0 kp_laws_eqTreeS esc_laws_eqTreeS (Try.f67.body.getD .skip) (entry Try.f67.ntmps [a0, a1]) σ (retK Try.prog Try.f67.results.toList R) := by kernel_rfl
theorem ac_laws_eqTreeS {w0 : World} {a0 a1 : Value} {σ : Vw} {R : Value → Vw → Prop} (h : vc_laws_eqTreeS w0 a0 a1 σ R) : AC Try.prog w0 n_laws_eqTreeS [a0, a1] σ R := by
  refine ac_rule (fn := Try.f67) (c := Try.f67.body.getD .skip) kp_laws_eqTreeS esc_laws_eqTreeS Try.func67 (by kernel_rfl) (by kernel_rfl) ?_
  rw [← vc_laws_eqTreeS_eq]
  exact h

/-- laws.markTreeS -/
def kp_laws_markTreeS : Nat → Keep
  | 2 => ⟨[0, 1, 5], [], [], .done, []⟩
  | _ => ⟨[], [], [], .done, []⟩
def esc_laws_markTreeS : Nat → Bool
  | _ => false
def vc_laws_markTreeS (w0 : World) (a0 a1 : Value) (σ : Vw) (R : Value → Vw → Prop) : Prop :=
  pLoop (fun l0 K1 s2 => pLen (vget l0 0) (fun v3 => pBin Try.prog 3 BinOp.lss (vget l0 2) v3 (fun v4 => pIf v4 (pBin Try.prog 3 BinOp.rem (vget l0 1) (Value.int IntKind.i64 3) (fun v5 => pBin Try.prog 3 BinOp.eql v5 (Value.int IntKind.i64 0) (fun v6 => pIndexAddr 5 (vget l0 0) (vget l0 2) (fun v7 => pField 0 v7 (fun v8 => pVal false 1 v6 (pStore v8 [v6] s2 (fun s9 => pBin Try.prog 3 BinOp.add (vget l0 1) (Value.int IntKind.i64 1) (fun v10 => pIndexAddr 5 (vget l0 0) (vget l0 2) (fun v11 => pField 1 v11 (fun v12 => pVal false 1 v10 (pStore v12 [v10] s9 (fun s13 => pBin Try.prog 3 BinOp.add v10 (Value.int IntKind.i64 1) (fun v14 => AC Try.prog w0 n_laws_markText [v14] s13 (fun v15 s16 => pIndexAddr 5 (vget l0 0) (vget l0 2) (fun v17 => pField 2 v17 (fun v18 => pVal false 1 v15 (pStore v18 [v15] s16 (fun s19 => pBin Try.prog 3 BinOp.add v14 (Value.int IntKind.i64 1) (fun v20 => pIndexAddr 5 (vget l0 0) (vget l0 2) (fun v21 => pField 3 v21 (fun v22 => pLoad w0 1 v22 s19 (fun g23 => AC Try.prog w0 n_laws_markStringS [g23 0, v20] s19 (fun v24 s25 => pIndexAddr 5 (vget l0 0) (vget l0 2) (fun v26 => pField 4 v26 (fun v27 => pLoad w0 1 v27 s25 (fun g28 => AC Try.prog w0 n_laws_markTreeS [g28 0, v24] s25 (fun v29 s30 => pBin Try.prog 3 BinOp.add (vget l0 2) (Value.int IntKind.i64 1) (fun v31 => K1 AX.normal [vget l0 0, v29, v31] s30)))))))))))))))))))))))))))) (K1 (AX.exit 0) [vget l0 0, vget l0 1, vget l0 2] s2)))) [a0, a1, Value.int IntKind.i64 0] σ (fun x32 l33 s34 => match x32 with | .normal => R (vget l33 1) s34 | .ret => False | .exit i35 => (match Nat.beq i35 0 with | true => R (vget l33 1) s34 | false => False))
theorem vc_laws_markTreeS_eq (w0 : World) (a0 a1 : Value) (σ : Vw) (R : Value → Vw → Prop) : vc_laws_markTreeS w0 a0 a1 σ R = den Try.prog w0 kp_laws_markTreeS esc_laws_markTreeS (Try.f68.body.getD .skip) (entry Try.f68.ntmps [a0, a1]) σ (retK Try.prog Try.f68.results.toList R) := by kernel_rfl
theorem ac_laws_markTreeS {w0 : World} {a0 a1 : Value} {σ : Vw} {R : Value → Vw → Prop} (h : vc_laws_markTreeS w0 a0 a1 σ R) : AC Try.prog w0 n_laws_markTreeS [a0, a1] σ R := by
  refine ac_rule (fn := Try.f68) (c := Try.f68.body.getD .skip) kp_laws_markTreeS esc_laws_markTreeS Try.func68 (by kernel_rfl) (by kernel_rfl) ?_
  rw [← vc_laws_markTreeS_eq]
  exact h

/-- laws.markText -/
def kp_laws_markText : Nat → Keep
  | 4 => ⟨[0, 3], [], [], .done, []⟩
  | _ => ⟨[], [], [], .done, []⟩
def esc_laws_markText : Nat → Bool
  | 12 => true
  | _ => false
def vc_laws_markText (w0 : World) (a0 : Value) (σ : Vw) (R : Value → Vw → Prop) : Prop :=
  pBin Try.prog 3 BinOp.leq a0 (Value.int IntKind.i64 0) (fun v0 => pIf v0 (R (Value.string ({ data := #[109, 48] })) σ) (pLoop (fun l1 K2 s3 => pBin Try.prog 3 BinOp.gtr (vget l1 0) (Value.int IntKind.i64 0) (fun v4 => pIf v4 (pBin Try.prog 3 BinOp.rem (vget l1 0) (Value.int IntKind.i64 10) (fun v5 => pBin Try.prog 3 BinOp.add (Value.int IntKind.i64 48) v5 (fun v6 => pConvInt IntKind.u8 v6 (fun v7 => pVal false 1 v7 (pNew w0 5 [v7] s3 (fun n8 s9 => pStr w0 (Value.slice (Option.some (Addr.mk n8 0 Option.none)) 1 1) s9 (fun v10 => pBin Try.prog 9 BinOp.add v10 (vget l1 1) (fun v11 => pBin Try.prog 3 BinOp.quo (vget l1 0) (Value.int IntKind.i64 10) (fun v12 => K2 AX.normal [v12, v11] s9))))))))) (K2 (AX.exit 0) [vget l1 0, vget l1 1] s3))) ([a0, Value.string ({ data := #[] })]) σ (fun x13 l14 s15 => match x13 with | .normal => pBin Try.prog 9 BinOp.add (Value.string ({ data := #[109] })) (vget l14 1) (fun v16 => R v16 s15) | .ret => False | .exit i17 => (match Nat.beq i17 0 with | true => pBin Try.prog 9 BinOp.add (Value.string ({ data := #[109] })) (vget l14 1) (fun v18 => R v18 s15) | false => False))))
theorem vc_laws_markText_eq (w0 : World) (a0 : Value) (σ : Vw) (R : Value → Vw → Prop) : vc_laws_markText w0 a0 σ R = den Try.prog w0 kp_laws_markText esc_laws_markText (Try.f69.body.getD .skip) (entry Try.f69.ntmps [a0]) σ (retK Try.prog Try.f69.results.toList R) := by kernel_rfl
theorem ac_laws_markText {w0 : World} {a0 : Value} {σ : Vw} {R : Value → Vw → Prop} (h : vc_laws_markText w0 a0 σ R) : AC Try.prog w0 n_laws_markText [a0] σ R := by
  refine ac_rule (fn := Try.f69) (c := Try.f69.body.getD .skip) kp_laws_markText esc_laws_markText Try.func69 (by kernel_rfl) (by kernel_rfl) ?_
  rw [← vc_laws_markText_eq]
  exact h

/-- laws.heldStringS -/
def kp_laws_heldStringS : Nat → Keep
  | 2 => ⟨[0, 1, 4, 5], [], [], .done, []⟩
  | 4 => ⟨[], [], [], .step 0 (.step 1 (.step 2 (.step 3 (.step 4 (.step 5 (.step 6 (.done))))))), [(2, [0, 1]), (3, [0, 1, 2]), (5, [4]), (6, [0, 1, 2, 3, 4, 5])]⟩
  | _ => ⟨[], [], [], .done, []⟩
def esc_laws_heldStringS : Nat → Bool
  | _ => false
def vc_laws_heldStringS (w0 : World) (a0 a1 : Value) (σ : Vw) (R : Value → Vw → Prop) : Prop :=
  pLoop (fun l0 K1 s2 => pLen (vget l0 0) (fun v3 => pBin Try.prog 3 BinOp.lss (vget l0 3) v3 (fun v4 => pIf v4 (pIndexAddr 1 (vget l0 0) (vget l0 3) (fun v5 => pLoad w0 1 v5 s2 (fun g6 => AC Try.prog w0 n_laws_markText [vget l0 1] s2 (fun v7 s8 => (Stay w0 s2 s8 v5 1) ∧ (pBin Try.prog 9 BinOp.neq (g6 0) v7 (fun v9 => pIf v9 (K1 AX.ret [vget l0 0, vget l0 1, Value.int IntKind.i64 (-1), vget l0 3] s8) (pBin Try.prog 3 BinOp.add (vget l0 1) (Value.int IntKind.i64 1) (fun v10 => pBin Try.prog 3 BinOp.add (vget l0 3) (Value.int IntKind.i64 1) (fun v11 => K1 AX.normal [vget l0 0, v10, vget l0 2, v11] s8))))))))) (K1 (AX.exit 0) [vget l0 0, vget l0 1, vget l0 2, vget l0 3] s2)))) [a0, a1, Value.int IntKind.i64 0, Value.int IntKind.i64 0] σ (fun x12 l13 s14 => match x12 with | .normal => R (vget l13 1) s14 | .ret => R (vget l13 2) s14 | .exit i15 => (match Nat.beq i15 0 with | true => R (vget l13 1) s14 | false => False))
theorem vc_laws_heldStringS_eq (w0 : World) (a0 a1 : Value) (σ : Vw) (R : Value → Vw → Prop) : vc_laws_heldStringS w0 a0 a1 σ R = den Try.prog w0 kp_laws_heldStringS esc_laws_heldStringS (Try.f70.body.getD .skip) (entry Try.f70.ntmps [a0, a1]) σ (retK Try.prog Try.f70.results.toList R) := by kernel_rfl
theorem ac_laws_heldStringS {w0 : World} {a0 a1 : Value} {σ : Vw} {R : Value → Vw → Prop} (h : vc_laws_heldStringS w0 a0 a1 σ R) : AC Try.prog w0 n_laws_heldStringS [a0, a1] σ R := by
  refine ac_rule (fn := Try.f70) (c := Try.f70.body.getD .skip) kp_laws_heldStringS esc_laws_heldStringS Try.func70 (by kernel_rfl) (by kernel_rfl) ?_
  rw [← vc_laws_heldStringS_eq]
  exact h

end Go.Proofs.Ytlbpnfhhoalenaa

/- What each function owes, reckoned out, part 2. MADE BY PROGRAM (emit.py). -/
set_option linter.unusedVariables false
namespace Go.Proofs.Ytlbpnfhhoalenaa
open Go Go.Av

/-- (impl.Tree).paths -/
def kp_impl_Tree_paths : Nat → Keep
  | 3 => ⟨[3, 7, 8, 9], [], [], .done, []⟩
  | _ => ⟨[], [], [], .done, []⟩
def esc_impl_Tree_paths : Nat → Bool
  | _ => false
def vc_impl_Tree_paths (w0 : World) (a0 : Value) (σ : Vw) (R : Value → Vw → Prop) : Prop :=
  pVal true 5 a0 (pLen (cellOf a0 4) (fun v0 => pLoop (fun l1 K2 s3 => pBin Try.prog 3 BinOp.lss (vget l1 3) (vget l1 2) (fun v4 => pIf v4 (pIndexAddr 5 (vget l1 1) (vget l1 3) (fun v5 => pLoad w0 5 v5 s3 (fun g6 => pVal true 5 (Value.agg (⟨[g6 0, g6 1, g6 2, g6 3, g6 4]⟩)) (AC Try.prog w0 n_impl_Tree_paths ([Value.agg (⟨[g6 0, g6 1, g6 2, g6 3, g6 4]⟩)]) s3 (fun v7 s8 => pBin Try.prog 3 BinOp.add (vget l1 0) v7 (fun v9 => pBin Try.prog 3 BinOp.add (vget l1 3) (Value.int IntKind.i64 1) (fun v10 => K2 AX.normal [v9, vget l1 1, vget l1 2, v10] s8))))))) (K2 (AX.exit 0) [vget l1 0, vget l1 1, vget l1 2, vget l1 3] s3))) [Value.int IntKind.i64 1, cellOf a0 4, v0, Value.int IntKind.i64 0] σ (fun x11 l12 s13 => match x11 with | .normal => R (vget l12 0) s13 | .ret => False | .exit i14 => (match Nat.beq i14 0 with | true => R (vget l12 0) s13 | false => False))))
theorem vc_impl_Tree_paths_eq (w0 : World) (a0 : Value) (σ : Vw) (R : Value → Vw → Prop) : vc_impl_Tree_paths w0 a0 σ R = den Try.prog w0 kp_impl_Tree_paths esc_impl_Tree_paths (Try.f79.body.getD .skip) (entry Try.f79.ntmps [a0]) σ (retK Try.prog Try.f79.results.toList R) := by kernel_rfl
theorem ac_impl_Tree_paths {w0 : World} {a0 : Value} {σ : Vw} {R : Value → Vw → Prop} (h : vc_impl_Tree_paths w0 a0 σ R) : AC Try.prog w0 n_impl_Tree_paths [a0] σ R := by
  refine ac_rule (fn := Try.f79) (c := Try.f79.body.getD .skip) kp_impl_Tree_paths esc_impl_Tree_paths Try.func79 (by kernel_rfl) (by kernel_rfl) ?_
  rw [← vc_impl_Tree_paths_eq]
  exact h

/-- spec.l1Count -/
def kp_spec_l1Count : Nat → Keep
  | 3 => ⟨[3, 4], [(1, 5)], [1], .done, []⟩
  | _ => ⟨[], [], [], .done, []⟩
def esc_spec_l1Count : Nat → Bool
  | _ => false
def vc_spec_l1Count (w0 : World) (a0 : Value) (σ : Vw) (R : Value → Vw → Prop) : Prop :=
  pVal true 5 a0 (pLen (cellOf a0 4) (fun v0 => pLoop (fun l1 K2 s3 => pLen (vget l1 6) (fun v4 => pBin Try.prog 3 BinOp.lss (vget l1 1) v4 (fun v5 => pIf v5 (pIndexAddr 5 (vget l1 6) (vget l1 1) (fun v6 => pLoad w0 5 v6 s3 (fun g7 => AC Try.prog w0 n_spec_l1Count ([Value.agg (⟨[g7 0, g7 1, g7 2, g7 3, g7 4]⟩)]) s3 (fun v8 s9 => pBin Try.prog 3 BinOp.add (vget l1 0) v8 (fun v10 => pBin Try.prog 3 BinOp.add (vget l1 1) (Value.int IntKind.i64 1) (fun v11 => K2 AX.normal [v10, v11, vget l1 2, vget l1 3, vget l1 4, vget l1 5, vget l1 6] s9)))))) (K2 (AX.exit 0) [vget l1 0, vget l1 1, vget l1 2, vget l1 3, vget l1 4, vget l1 5, vget l1 6] s3)))) [v0, Value.int IntKind.i64 0, cellOf a0 0, cellOf a0 1, cellOf a0 2, cellOf a0 3, cellOf a0 4] σ (fun x12 l13 s14 => match x12 with | .normal => R (vget l13 0) s14 | .ret => False | .exit i15 => (match Nat.beq i15 0 with | true => R (vget l13 0) s14 | false => False))))
theorem vc_spec_l1Count_eq (w0 : World) (a0 : Value) (σ : Vw) (R : Value → Vw → Prop) : vc_spec_l1Count w0 a0 σ R = den Try.prog w0 kp_spec_l1Count esc_spec_l1Count (Try.f80.body.getD .skip) (entry Try.f80.ntmps [a0]) σ (retK Try.prog Try.f80.results.toList R) := by kernel_rfl
theorem ac_spec_l1Count {w0 : World} {a0 : Value} {σ : Vw} {R : Value → Vw → Prop} (h : vc_spec_l1Count w0 a0 σ R) : AC Try.prog w0 n_spec_l1Count [a0] σ R := by
  refine ac_rule (fn := Try.f80) (c := Try.f80.body.getD .skip) kp_spec_l1Count esc_spec_l1Count Try.func80 (by kernel_rfl) (by kernel_rfl) ?_
  rw [← vc_spec_l1Count_eq]
  exact h

/-- spec.l1Parts -/
def kp_spec_l1Parts : Nat → Keep
  | 4 => ⟨[1, 4, 5], [(2, 5)], [2], .done, []⟩
  | _ => ⟨[], [], [], .done, []⟩
def esc_spec_l1Parts : Nat → Bool
  | _ => false
def vc_spec_l1Parts (w0 : World) (a0 a1 : Value) (σ : Vw) (R : Value → Vw → Prop) : Prop :=
  pVal true 5 a0 (AC Try.prog w0 n_spec_l1Plain ([Value.agg (⟨[cellOf a0 0, cellOf a0 1, cellOf a0 2, cellOf a0 3, cellOf a0 4]⟩)]) σ (fun v0 s1 => pUn UnOp.not v0 (fun v2 => pIf v2 (R (Value.bool false) s1) (pBin Try.prog 3 BinOp.gtr a1 (Value.int IntKind.i64 4) (fun v3 => pIf v3 (R (Value.bool false) s1) (pLoop (fun l4 K5 s6 => pLen (vget l4 7) (fun v7 => pBin Try.prog 3 BinOp.lss (vget l4 2) v7 (fun v8 => pIf v8 (pIndexAddr 5 (vget l4 7) (vget l4 2) (fun v9 => pLoad w0 5 v9 s6 (fun g10 => pBin Try.prog 3 BinOp.add (vget l4 0) (Value.int IntKind.i64 1) (fun v11 => AC Try.prog w0 n_spec_l1Parts ([Value.agg (⟨[g10 0, g10 1, g10 2, g10 3, g10 4]⟩), v11]) s6 (fun v12 s13 => pUn UnOp.not v12 (fun v14 => pIf v14 (K5 AX.ret [vget l4 0, Value.bool false, vget l4 2, vget l4 3, vget l4 4, vget l4 5, vget l4 6, vget l4 7] s13) (pBin Try.prog 3 BinOp.add (vget l4 2) (Value.int IntKind.i64 1) (fun v15 => K5 AX.normal [vget l4 0, vget l4 1, v15, vget l4 3, vget l4 4, vget l4 5, vget l4 6, vget l4 7] s13)))))))) (K5 (AX.exit 0) [vget l4 0, vget l4 1, vget l4 2, vget l4 3, vget l4 4, vget l4 5, vget l4 6, vget l4 7] s6)))) [a1, Value.bool false, Value.int IntKind.i64 0, cellOf a0 0, cellOf a0 1, cellOf a0 2, cellOf a0 3, cellOf a0 4] s1 (fun x16 l17 s18 => match x16 with | .normal => R (Value.bool true) s18 | .ret => R (vget l17 1) s18 | .exit i19 => (match Nat.beq i19 0 with | true => R (Value.bool true) s18 | false => False))))))))
theorem vc_spec_l1Parts_eq (w0 : World) (a0 a1 : Value) (σ : Vw) (R : Value → Vw → Prop) : vc_spec_l1Parts w0 a0 a1 σ R = den Try.prog w0 kp_spec_l1Parts esc_spec_l1Parts (Try.f81.body.getD .skip) (entry Try.f81.ntmps [a0, a1]) σ (retK Try.prog Try.f81.results.toList R) := by kernel_rfl
theorem ac_spec_l1Parts {w0 : World} {a0 a1 : Value} {σ : Vw} {R : Value → Vw → Prop} (h : vc_spec_l1Parts w0 a0 a1 σ R) : AC Try.prog w0 n_spec_l1Parts [a0, a1] σ R := by
  refine ac_rule (fn := Try.f81) (c := Try.f81.body.getD .skip) kp_spec_l1Parts esc_spec_l1Parts Try.func81 (by kernel_rfl) (by kernel_rfl) ?_
  rw [← vc_spec_l1Parts_eq]
  exact h

/-- spec.l3Walk -/
def kp_spec_l3Walk : Nat → Keep
  | 2 => ⟨[], [], [], .step 0 (.step 2 (.step 3 (.step 1 (.step 4 (.step 5 (.step 6 (.done))))))), [(1, [0]), (4, [0, 1, 2, 3]), (5, [0, 1, 2, 3, 4]), (6, [0, 1, 2, 3, 4, 5])]⟩
  | 6 => ⟨[0, 7, 8, 9], [(4, 5), (5, 5)], [4, 5], .done, []⟩
  | 7 => ⟨[], [], [], .step 0 (.step 1 (.step 2 (.step 3 (.step 4 (.step 5 (.step 6 (.step 8 (.step 9 (.step 10 (.step 11 (.step 12 (.step 13 (.step 14 (.step 15 (.step 16 (.step 17 (.step 7 (.step 18 (.step 19 (.step 20 (.done))))))))))))))))))))), [(3, [2]), (5, [2, 3, 4]), (6, [2, 3, 4, 5]), (7, [1, 2, 3, 4, 5, 6]), (9, [8]), (11, [8, 9, 10]), (12, [8, 9, 10, 11]), (14, [13]), (16, [13, 14, 15]), (17, [13, 14, 15, 16]), (18, [1, 2, 3, 4, 5, 6, 7, 8, 9, 10, 11, 12, 13, 14, 15, 16, 17]), (19, [0, 1, 2, 3, 4, 5, 6, 7, 8, 9, 10, 11, 12, 13, 14, 15, 16, 17, 18]), (20, [0, 1, 2, 3, 4, 5, 6, 7, 8, 9, 10, 11, 12, 13, 14, 15, 16, 17, 18, 19])]⟩
  | 10 => ⟨[], [], [], .step 0 (.step 1 (.step 2 (.step 3 (.step 4 (.step 5 (.step 6 (.step 7 (.step 8 (.step 9 (.step 10 (.step 11 (.step 12 (.step 13 (.step 14 (.step 15 (.step 16 (.step 17 (.step 18 (.step 19 (.step 20 (.step 21 (.step 22 (.step 23 (.step 24 (.step 25 (.done)))))))))))))))))))))))))), [(2, [1]), (3, [1, 2]), (4, [0, 1, 2, 3]), (5, [0, 1, 2, 3, 4]), (6, [0, 1, 2, 3, 4, 5]), (7, [0, 1, 2, 3, 4, 5]), (8, [0, 1, 2, 3, 4, 5, 7]), (9, [0, 1, 2, 3, 4, 5, 7, 8]), (10, [0, 1, 2, 3, 4, 5, 6, 7, 8, 9]), (11, [0, 1, 2, 3, 4, 5, 6, 7, 8, 9, 10]), (12, [0, 1, 2, 3, 4, 5, 6, 7, 8, 9, 10, 11]), (13, [0, 1, 2, 3, 4, 5, 6, 7, 8, 9, 10, 11, 12]), (14, [0, 1, 2, 3, 4, 5, 6, 7, 8, 9, 10, 11]), (15, [0, 1, 2, 3, 4, 5, 6, 7, 8, 9, 10, 11, 12, 13, 14]), (16, [0, 1, 2, 3, 4, 5, 6, 7, 8, 9, 10, 11, 12, 13, 14, 15]), (17, [0, 1, 2, 3, 4, 5, 6, 7, 8, 9, 10, 11]), (18, [0, 1, 2, 3, 4, 5, 6, 7, 8, 9, 10, 11, 17]), (19, [0, 1, 2, 3, 4, 5, 6, 7, 8, 9, 10, 11]), (20, [0, 1, 2, 3, 4, 5, 6, 7, 8, 9, 10, 11, 17, 18, 19]), (21, [0, 1, 2, 3, 4, 5, 6, 7, 8, 9, 10, 11, 17, 18, 19, 20]), (22, [0, 1, 2, 3, 4, 5, 6, 7, 8, 9, 10, 11, 12, 13, 14, 15, 16, 17, 18, 19, 20, 21]), (23, [0, 1, 2, 3, 4, 5, 6, 7, 8, 9, 10, 11, 12, 13, 14, 15, 16, 17, 18, 19, 20, 21, 22]), (24, [0, 1, 2, 3, 4, 5, 6, 7, 8, 9, 10, 11, 12, 13, 14, 15, 16, 17, 18, 19, 20, 21, 22, 23]), (25, [0, 1, 2, 3, 4, 5, 6, 7, 8, 9, 10, 11, 12, 13, 14, 15, 16, 17, 18, 19, 20, 21, 22, 23, 24])]⟩
  | 13 => ⟨[], [], [], .step 0 (.step 1 (.step 2 (.step 3 (.step 4 (.step 5 (.step 6 (.step 7 (.step 8 (.step 9 (.step 10 (.step 11 (.step 12 (.step 13 (.step 14 (.step 15 (.step 16 (.step 17 (.step 18 (.done))))))))))))))))))), [(2, [1]), (3, [1, 2]), (4, [0, 1, 2, 3]), (5, [0, 1, 2, 3, 4]), (6, [0, 1, 2, 3, 4, 5]), (7, [0, 1, 2, 3, 4, 5, 6]), (8, [0, 1, 2, 3, 4, 5]), (9, [0, 1, 2, 3, 4, 5, 6, 7, 8]), (10, [0, 1, 2, 3, 4, 5, 6, 7, 8, 9]), (11, [0, 1, 2, 3, 4, 5]), (12, [0, 1, 2, 3, 4, 5, 11]), (13, [0, 1, 2, 3, 4, 5]), (14, [0, 1, 2, 3, 4, 5, 11, 12, 13]), (15, [0, 1, 2, 3, 4, 5, 11, 12, 13, 14]), (16, [0, 1, 2, 3, 4, 5, 6, 7, 8, 9, 10, 11, 12, 13, 14, 15]), (17, [0, 1, 2, 3, 4, 5, 6, 7, 8, 9, 10, 11, 12, 13, 14, 15, 16]), (18, [0, 1, 2, 3, 4, 5, 6, 7, 8, 9, 10, 11, 12, 13, 14, 15, 16, 17])]⟩
  | 14 => ⟨[], [], [], .step 0 (.step 1 (.step 2 (.step 3 (.step 4 (.step 5 (.step 6 (.step 8 (.step 9 (.step 10 (.step 11 (.step 12 (.step 7 (.step 13 (.step 14 (.step 15 (.done)))))))))))))))), [(3, [2]), (5, [2, 3, 4]), (6, [2, 3, 4, 5]), (7, [1, 2, 3, 4, 5, 6]), (9, [8]), (11, [8, 9, 10]), (12, [8, 9, 10, 11]), (13, [1, 2, 3, 4, 5, 6, 7, 8, 9, 10, 11, 12]), (14, [0, 1, 2, 3, 4, 5, 6, 7, 8, 9, 10, 11, 12, 13]), (15, [0, 1, 2, 3, 4, 5, 6, 7, 8, 9, 10, 11, 12, 13, 14])]⟩
  | _ => ⟨[], [], [], .done, []⟩
def esc_spec_l3Walk : Nat → Bool
  | _ => false
def vc_spec_l3Walk (w0 : World) (a0 a1 a2 : Value) (σ : Vw) (R : Value → Vw → Prop) : Prop :=
  pVal true 5 a1 (pVal true 5 a2 (pBin Try.prog 4 BinOp.neq (cellOf a1 0) (cellOf a2 0) (fun v0 => pIf v0 (AC Try.prog w0 n_spec_l3Gone [a0] σ (fun v1 s2 => AC Try.prog w0 n_spec_l3New ([a0, Value.agg (⟨[cellOf a2 0, cellOf a2 1, cellOf a2 2, cellOf a2 3, cellOf a2 4]⟩)]) s2 (fun v3 s4 => pAppendS w0 112 5 64 v1 v3 s4 (fun v5 s6 => R v5 s6)))) (AC Try.prog w0 n_spec_l3Part ([a0, Value.agg (⟨[cellOf a1 0, cellOf a1 1, cellOf a1 2, cellOf a1 3, cellOf a1 4]⟩), Value.agg (⟨[cellOf a2 0, cellOf a2 1, cellOf a2 2, cellOf a2 3, cellOf a2 4]⟩)]) σ (fun v7 s8 => pLoop (fun l9 K10 s11 => pLen (vget l9 7) (fun v12 => pBin Try.prog 3 BinOp.lss (vget l9 2) v12 (fun v13 => pIf v13 (pLen (vget l9 12) (fun v14 => pBin Try.prog 3 BinOp.geq (vget l9 3) v14 (fun v15 => pIf v15 (pIndexAddr 1 (vget l9 7) (vget l9 2) (fun v16 => pLoad w0 1 v16 s11 (fun g17 => AC Try.prog w0 n_spec_l3Path [vget l9 0, g17 0] s11 (fun v18 s19 => AC Try.prog w0 n_spec_l3Gone [v18] s19 (fun v20 s21 => pAppendS w0 112 5 64 (vget l9 1) v20 s21 (fun v22 s23 => pBin Try.prog 3 BinOp.add (vget l9 2) (Value.int IntKind.i64 1) (fun v24 => K10 AX.normal [vget l9 0, v22, v24, vget l9 3, vget l9 4, vget l9 5, vget l9 6, vget l9 7, vget l9 8, vget l9 9, vget l9 10, vget l9 11, vget l9 12, vget l9 13] s23))))))) (pLen (vget l9 7) (fun v25 => pBin Try.prog 3 BinOp.lss (vget l9 2) v25 (fun v26 => pIf v26 (pIndexAddr 1 (vget l9 7) (vget l9 2) (fun v27 => pLoad w0 1 v27 s11 (fun g28 => pIndexAddr 1 (vget l9 12) (vget l9 3) (fun v29 => pLoad w0 1 v29 s11 (fun g30 => pBin Try.prog 9 BinOp.lss (g28 0) (g30 0) (fun v31 => pIf v31 (pIndexAddr 1 (vget l9 7) (vget l9 2) (fun v32 => pLoad w0 1 v32 s11 (fun g33 => AC Try.prog w0 n_spec_l3Path [vget l9 0, g33 0] s11 (fun v34 s35 => AC Try.prog w0 n_spec_l3Gone [v34] s35 (fun v36 s37 => pAppendS w0 112 5 64 (vget l9 1) v36 s37 (fun v38 s39 => pBin Try.prog 3 BinOp.add (vget l9 2) (Value.int IntKind.i64 1) (fun v40 => K10 AX.normal [vget l9 0, v38, v40, vget l9 3, vget l9 4, vget l9 5, vget l9 6, vget l9 7, vget l9 8, vget l9 9, vget l9 10, vget l9 11, vget l9 12, vget l9 13] s39))))))) (pLen (vget l9 7) (fun v41 => pBin Try.prog 3 BinOp.geq (vget l9 2) v41 (fun v42 => pIf v42 (pIndexAddr 1 (vget l9 12) (vget l9 3) (fun v43 => pLoad w0 1 v43 s11 (fun g44 => pIndexAddr 5 (vget l9 13) (vget l9 3) (fun v45 => pLoad w0 5 v45 s11 (fun g46 => AC Try.prog w0 n_spec_l3Path [vget l9 0, g44 0] s11 (fun v47 s48 => (Stay w0 s11 s48 v45 5) ∧ (AC Try.prog w0 n_spec_l3New ([v47, Value.agg (⟨[g46 0, g46 1, g46 2, g46 3, g46 4]⟩)]) s48 (fun v49 s50 => pAppendS w0 112 5 64 (vget l9 1) v49 s50 (fun v51 s52 => pBin Try.prog 3 BinOp.add (vget l9 3) (Value.int IntKind.i64 1) (fun v53 => K10 AX.normal [vget l9 0, v51, vget l9 2, v53, vget l9 4, vget l9 5, vget l9 6, vget l9 7, vget l9 8, vget l9 9, vget l9 10, vget l9 11, vget l9 12, vget l9 13] s52)))))))))) (pIndexAddr 1 (vget l9 12) (vget l9 3) (fun v54 => pLoad w0 1 v54 s11 (fun g55 => pIndexAddr 1 (vget l9 7) (vget l9 2) (fun v56 => pLoad w0 1 v56 s11 (fun g57 => pBin Try.prog 9 BinOp.lss (g55 0) (g57 0) (fun v58 => pIf v58 (pIndexAddr 1 (vget l9 12) (vget l9 3) (fun v59 => pLoad w0 1 v59 s11 (fun g60 => pIndexAddr 5 (vget l9 13) (vget l9 3) (fun v61 => pLoad w0 5 v61 s11 (fun g62 => AC Try.prog w0 n_spec_l3Path [vget l9 0, g60 0] s11 (fun v63 s64 => (Stay w0 s11 s64 v61 5) ∧ (AC Try.prog w0 n_spec_l3New ([v63, Value.agg (⟨[g62 0, g62 1, g62 2, g62 3, g62 4]⟩)]) s64 (fun v65 s66 => pAppendS w0 112 5 64 (vget l9 1) v65 s66 (fun v67 s68 => pBin Try.prog 3 BinOp.add (vget l9 3) (Value.int IntKind.i64 1) (fun v69 => K10 AX.normal [vget l9 0, v67, vget l9 2, v69, vget l9 4, vget l9 5, vget l9 6, vget l9 7, vget l9 8, vget l9 9, vget l9 10, vget l9 11, vget l9 12, vget l9 13] s68)))))))))) (pIndexAddr 1 (vget l9 7) (vget l9 2) (fun v70 => pLoad w0 1 v70 s11 (fun g71 => pIndexAddr 5 (vget l9 8) (vget l9 2) (fun v72 => pLoad w0 5 v72 s11 (fun g73 => pIndexAddr 5 (vget l9 13) (vget l9 3) (fun v74 => pLoad w0 5 v74 s11 (fun g75 => AC Try.prog w0 n_spec_l3Path [vget l9 0, g71 0] s11 (fun v76 s77 => (Stay w0 s11 s77 v74 5) ∧ ((Stay w0 s11 s77 v72 5) ∧ (AC Try.prog w0 n_spec_l3Walk ([v76, Value.agg (⟨[g73 0, g73 1, g73 2, g73 3, g73 4]⟩), Value.agg (⟨[g75 0, g75 1, g75 2, g75 3, g75 4]⟩)]) s77 (fun v78 s79 => pAppendS w0 112 5 64 (vget l9 1) v78 s79 (fun v80 s81 => pBin Try.prog 3 BinOp.add (vget l9 2) (Value.int IntKind.i64 1) (fun v82 => pBin Try.prog 3 BinOp.add (vget l9 3) (Value.int IntKind.i64 1) (fun v83 => K10 AX.normal [vget l9 0, v80, v82, v83, vget l9 4, vget l9 5, vget l9 6, vget l9 7, vget l9 8, vget l9 9, vget l9 10, vget l9 11, vget l9 12, vget l9 13] s81))))))))))))))))))))))))))))) (pLen (vget l9 7) (fun v84 => pBin Try.prog 3 BinOp.geq (vget l9 2) v84 (fun v85 => pIf v85 (pIndexAddr 1 (vget l9 12) (vget l9 3) (fun v86 => pLoad w0 1 v86 s11 (fun g87 => pIndexAddr 5 (vget l9 13) (vget l9 3) (fun v88 => pLoad w0 5 v88 s11 (fun g89 => AC Try.prog w0 n_spec_l3Path [vget l9 0, g87 0] s11 (fun v90 s91 => (Stay w0 s11 s91 v88 5) ∧ (AC Try.prog w0 n_spec_l3New ([v90, Value.agg (⟨[g89 0, g89 1, g89 2, g89 3, g89 4]⟩)]) s91 (fun v92 s93 => pAppendS w0 112 5 64 (vget l9 1) v92 s93 (fun v94 s95 => pBin Try.prog 3 BinOp.add (vget l9 3) (Value.int IntKind.i64 1) (fun v96 => K10 AX.normal [vget l9 0, v94, vget l9 2, v96, vget l9 4, vget l9 5, vget l9 6, vget l9 7, vget l9 8, vget l9 9, vget l9 10, vget l9 11, vget l9 12, vget l9 13] s95)))))))))) (pIndexAddr 1 (vget l9 12) (vget l9 3) (fun v97 => pLoad w0 1 v97 s11 (fun g98 => pIndexAddr 1 (vget l9 7) (vget l9 2) (fun v99 => pLoad w0 1 v99 s11 (fun g100 => pBin Try.prog 9 BinOp.lss (g98 0) (g100 0) (fun v101 => pIf v101 (pIndexAddr 1 (vget l9 12) (vget l9 3) (fun v102 => pLoad w0 1 v102 s11 (fun g103 => pIndexAddr 5 (vget l9 13) (vget l9 3) (fun v104 => pLoad w0 5 v104 s11 (fun g105 => AC Try.prog w0 n_spec_l3Path [vget l9 0, g103 0] s11 (fun v106 s107 => (Stay w0 s11 s107 v104 5) ∧ (AC Try.prog w0 n_spec_l3New ([v106, Value.agg (⟨[g105 0, g105 1, g105 2, g105 3, g105 4]⟩)]) s107 (fun v108 s109 => pAppendS w0 112 5 64 (vget l9 1) v108 s109 (fun v110 s111 => pBin Try.prog 3 BinOp.add (vget l9 3) (Value.int IntKind.i64 1) (fun v112 => K10 AX.normal [vget l9 0, v110, vget l9 2, v112, vget l9 4, vget l9 5, vget l9 6, vget l9 7, vget l9 8, vget l9 9, vget l9 10, vget l9 11, vget l9 12, vget l9 13] s111)))))))))) (pIndexAddr 1 (vget l9 7) (vget l9 2) (fun v113 => pLoad w0 1 v113 s11 (fun g114 => pIndexAddr 5 (vget l9 8) (vget l9 2) (fun v115 => pLoad w0 5 v115 s11 (fun g116 => pIndexAddr 5 (vget l9 13) (vget l9 3) (fun v117 => pLoad w0 5 v117 s11 (fun g118 => AC Try.prog w0 n_spec_l3Path [vget l9 0, g114 0] s11 (fun v119 s120 => (Stay w0 s11 s120 v117 5) ∧ ((Stay w0 s11 s120 v115 5) ∧ (AC Try.prog w0 n_spec_l3Walk ([v119, Value.agg (⟨[g116 0, g116 1, g116 2, g116 3, g116 4]⟩), Value.agg (⟨[g118 0, g118 1, g118 2, g118 3, g118 4]⟩)]) s120 (fun v121 s122 => pAppendS w0 112 5 64 (vget l9 1) v121 s122 (fun v123 s124 => pBin Try.prog 3 BinOp.add (vget l9 2) (Value.int IntKind.i64 1) (fun v125 => pBin Try.prog 3 BinOp.add (vget l9 3) (Value.int IntKind.i64 1) (fun v126 => K10 AX.normal [vget l9 0, v123, v125, v126, vget l9 4, vget l9 5, vget l9 6, vget l9 7, vget l9 8, vget l9 9, vget l9 10, vget l9 11, vget l9 12, vget l9 13] s124))))))))))))))))))))))))))))) (pLen (vget l9 12) (fun v127 => pBin Try.prog 3 BinOp.lss (vget l9 3) v127 (fun v128 => pIf v128 (pLen (vget l9 12) (fun v129 => pBin Try.prog 3 BinOp.geq (vget l9 3) v129 (fun v130 => pIf v130 (pIndexAddr 1 (vget l9 7) (vget l9 2) (fun v131 => pLoad w0 1 v131 s11 (fun g132 => AC Try.prog w0 n_spec_l3Path [vget l9 0, g132 0] s11 (fun v133 s134 => AC Try.prog w0 n_spec_l3Gone [v133] s134 (fun v135 s136 => pAppendS w0 112 5 64 (vget l9 1) v135 s136 (fun v137 s138 => pBin Try.prog 3 BinOp.add (vget l9 2) (Value.int IntKind.i64 1) (fun v139 => K10 AX.normal [vget l9 0, v137, v139, vget l9 3, vget l9 4, vget l9 5, vget l9 6, vget l9 7, vget l9 8, vget l9 9, vget l9 10, vget l9 11, vget l9 12, vget l9 13] s138))))))) (pLen (vget l9 7) (fun v140 => pBin Try.prog 3 BinOp.lss (vget l9 2) v140 (fun v141 => pIf v141 (pIndexAddr 1 (vget l9 7) (vget l9 2) (fun v142 => pLoad w0 1 v142 s11 (fun g143 => pIndexAddr 1 (vget l9 12) (vget l9 3) (fun v144 => pLoad w0 1 v144 s11 (fun g145 => pBin Try.prog 9 BinOp.lss (g143 0) (g145 0) (fun v146 => pIf v146 (pIndexAddr 1 (vget l9 7) (vget l9 2) (fun v147 => pLoad w0 1 v147 s11 (fun g148 => AC Try.prog w0 n_spec_l3Path [vget l9 0, g148 0] s11 (fun v149 s150 => AC Try.prog w0 n_spec_l3Gone [v149] s150 (fun v151 s152 => pAppendS w0 112 5 64 (vget l9 1) v151 s152 (fun v153 s154 => pBin Try.prog 3 BinOp.add (vget l9 2) (Value.int IntKind.i64 1) (fun v155 => K10 AX.normal [vget l9 0, v153, v155, vget l9 3, vget l9 4, vget l9 5, vget l9 6, vget l9 7, vget l9 8, vget l9 9, vget l9 10, vget l9 11, vget l9 12, vget l9 13] s154))))))) (pLen (vget l9 7) (fun v156 => pBin Try.prog 3 BinOp.geq (vget l9 2) v156 (fun v157 => pIf v157 (pIndexAddr 1 (vget l9 12) (vget l9 3) (fun v158 => pLoad w0 1 v158 s11 (fun g159 => pIndexAddr 5 (vget l9 13) (vget l9 3) (fun v160 => pLoad w0 5 v160 s11 (fun g161 => AC Try.prog w0 n_spec_l3Path [vget l9 0, g159 0] s11 (fun v162 s163 => (Stay w0 s11 s163 v160 5) ∧ (AC Try.prog w0 n_spec_l3New ([v162, Value.agg (⟨[g161 0, g161 1, g161 2, g161 3, g161 4]⟩)]) s163 (fun v164 s165 => pAppendS w0 112 5 64 (vget l9 1) v164 s165 (fun v166 s167 => pBin Try.prog 3 BinOp.add (vget l9 3) (Value.int IntKind.i64 1) (fun v168 => K10 AX.normal [vget l9 0, v166, vget l9 2, v168, vget l9 4, vget l9 5, vget l9 6, vget l9 7, vget l9 8, vget l9 9, vget l9 10, vget l9 11, vget l9 12, vget l9 13] s167)))))))))) (pIndexAddr 1 (vget l9 12) (vget l9 3) (fun v169 => pLoad w0 1 v169 s11 (fun g170 => pIndexAddr 1 (vget l9 7) (vget l9 2) (fun v171 => pLoad w0 1 v171 s11 (fun g172 => pBin Try.prog 9 BinOp.lss (g170 0) (g172 0) (fun v173 => pIf v173 (pIndexAddr 1 (vget l9 12) (vget l9 3) (fun v174 => pLoad w0 1 v174 s11 (fun g175 => pIndexAddr 5 (vget l9 13) (vget l9 3) (fun v176 => pLoad w0 5 v176 s11 (fun g177 => AC Try.prog w0 n_spec_l3Path [vget l9 0, g175 0] s11 (fun v178 s179 => (Stay w0 s11 s179 v176 5) ∧ (AC Try.prog w0 n_spec_l3New ([v178, Value.agg (⟨[g177 0, g177 1, g177 2, g177 3, g177 4]⟩)]) s179 (fun v180 s181 => pAppendS w0 112 5 64 (vget l9 1) v180 s181 (fun v182 s183 => pBin Try.prog 3 BinOp.add (vget l9 3) (Value.int IntKind.i64 1) (fun v184 => K10 AX.normal [vget l9 0, v182, vget l9 2, v184, vget l9 4, vget l9 5, vget l9 6, vget l9 7, vget l9 8, vget l9 9, vget l9 10, vget l9 11, vget l9 12, vget l9 13] s183)))))))))) (pIndexAddr 1 (vget l9 7) (vget l9 2) (fun v185 => pLoad w0 1 v185 s11 (fun g186 => pIndexAddr 5 (vget l9 8) (vget l9 2) (fun v187 => pLoad w0 5 v187 s11 (fun g188 => pIndexAddr 5 (vget l9 13) (vget l9 3) (fun v189 => pLoad w0 5 v189 s11 (fun g190 => AC Try.prog w0 n_spec_l3Path [vget l9 0, g186 0] s11 (fun v191 s192 => (Stay w0 s11 s192 v189 5) ∧ ((Stay w0 s11 s192 v187 5) ∧ (AC Try.prog w0 n_spec_l3Walk ([v191, Value.agg (⟨[g188 0, g188 1, g188 2, g188 3, g188 4]⟩), Value.agg (⟨[g190 0, g190 1, g190 2, g190 3, g190 4]⟩)]) s192 (fun v193 s194 => pAppendS w0 112 5 64 (vget l9 1) v193 s194 (fun v195 s196 => pBin Try.prog 3 BinOp.add (vget l9 2) (Value.int IntKind.i64 1) (fun v197 => pBin Try.prog 3 BinOp.add (vget l9 3) (Value.int IntKind.i64 1) (fun v198 => K10 AX.normal [vget l9 0, v195, v197, v198, vget l9 4, vget l9 5, vget l9 6, vget l9 7, vget l9 8, vget l9 9, vget l9 10, vget l9 11, vget l9 12, vget l9 13] s196))))))))))))))))))))))))))))) (pLen (vget l9 7) (fun v199 => pBin Try.prog 3 BinOp.geq (vget l9 2) v199 (fun v200 => pIf v200 (pIndexAddr 1 (vget l9 12) (vget l9 3) (fun v201 => pLoad w0 1 v201 s11 (fun g202 => pIndexAddr 5 (vget l9 13) (vget l9 3) (fun v203 => pLoad w0 5 v203 s11 (fun g204 => AC Try.prog w0 n_spec_l3Path [vget l9 0, g202 0] s11 (fun v205 s206 => (Stay w0 s11 s206 v203 5) ∧ (AC Try.prog w0 n_spec_l3New ([v205, Value.agg (⟨[g204 0, g204 1, g204 2, g204 3, g204 4]⟩)]) s206 (fun v207 s208 => pAppendS w0 112 5 64 (vget l9 1) v207 s208 (fun v209 s210 => pBin Try.prog 3 BinOp.add (vget l9 3) (Value.int IntKind.i64 1) (fun v211 => K10 AX.normal [vget l9 0, v209, vget l9 2, v211, vget l9 4, vget l9 5, vget l9 6, vget l9 7, vget l9 8, vget l9 9, vget l9 10, vget l9 11, vget l9 12, vget l9 13] s210)))))))))) (pIndexAddr 1 (vget l9 12) (vget l9 3) (fun v212 => pLoad w0 1 v212 s11 (fun g213 => pIndexAddr 1 (vget l9 7) (vget l9 2) (fun v214 => pLoad w0 1 v214 s11 (fun g215 => pBin Try.prog 9 BinOp.lss (g213 0) (g215 0) (fun v216 => pIf v216 (pIndexAddr 1 (vget l9 12) (vget l9 3) (fun v217 => pLoad w0 1 v217 s11 (fun g218 => pIndexAddr 5 (vget l9 13) (vget l9 3) (fun v219 => pLoad w0 5 v219 s11 (fun g220 => AC Try.prog w0 n_spec_l3Path [vget l9 0, g218 0] s11 (fun v221 s222 => (Stay w0 s11 s222 v219 5) ∧ (AC Try.prog w0 n_spec_l3New ([v221, Value.agg (⟨[g220 0, g220 1, g220 2, g220 3, g220 4]⟩)]) s222 (fun v223 s224 => pAppendS w0 112 5 64 (vget l9 1) v223 s224 (fun v225 s226 => pBin Try.prog 3 BinOp.add (vget l9 3) (Value.int IntKind.i64 1) (fun v227 => K10 AX.normal [vget l9 0, v225, vget l9 2, v227, vget l9 4, vget l9 5, vget l9 6, vget l9 7, vget l9 8, vget l9 9, vget l9 10, vget l9 11, vget l9 12, vget l9 13] s226)))))))))) (pIndexAddr 1 (vget l9 7) (vget l9 2) (fun v228 => pLoad w0 1 v228 s11 (fun g229 => pIndexAddr 5 (vget l9 8) (vget l9 2) (fun v230 => pLoad w0 5 v230 s11 (fun g231 => pIndexAddr 5 (vget l9 13) (vget l9 3) (fun v232 => pLoad w0 5 v232 s11 (fun g233 => AC Try.prog w0 n_spec_l3Path [vget l9 0, g229 0] s11 (fun v234 s235 => (Stay w0 s11 s235 v232 5) ∧ ((Stay w0 s11 s235 v230 5) ∧ (AC Try.prog w0 n_spec_l3Walk ([v234, Value.agg (⟨[g231 0, g231 1, g231 2, g231 3, g231 4]⟩), Value.agg (⟨[g233 0, g233 1, g233 2, g233 3, g233 4]⟩)]) s235 (fun v236 s237 => pAppendS w0 112 5 64 (vget l9 1) v236 s237 (fun v238 s239 => pBin Try.prog 3 BinOp.add (vget l9 2) (Value.int IntKind.i64 1) (fun v240 => pBin Try.prog 3 BinOp.add (vget l9 3) (Value.int IntKind.i64 1) (fun v241 => K10 AX.normal [vget l9 0, v238, v240, v241, vget l9 4, vget l9 5, vget l9 6, vget l9 7, vget l9 8, vget l9 9, vget l9 10, vget l9 11, vget l9 12, vget l9 13] s239))))))))))))))))))))))))))))) (K10 (AX.exit 0) [vget l9 0, vget l9 1, vget l9 2, vget l9 3, vget l9 4, vget l9 5, vget l9 6, vget l9 7, vget l9 8, vget l9 9, vget l9 10, vget l9 11, vget l9 12, vget l9 13] s11))))))) [a0, v7, Value.int IntKind.i64 0, Value.int IntKind.i64 0, cellOf a1 0, cellOf a1 1, cellOf a1 2, cellOf a1 3, cellOf a1 4, cellOf a2 0, cellOf a2 1, cellOf a2 2, cellOf a2 3, cellOf a2 4] s8 (fun x242 l243 s244 => match x242 with | .normal => R (vget l243 1) s244 | .ret => False | .exit i245 => (match Nat.beq i245 0 with | true => R (vget l243 1) s244 | false => False)))))))
theorem vc_spec_l3Walk_eq (w0 : World) (a0 a1 a2 : Value) (σ : Vw) (R : Value → Vw → Prop) : vc_spec_l3Walk w0 a0 a1 a2 σ R = den Try.prog w0 kp_spec_l3Walk esc_spec_l3Walk (Try.f89.body.getD .skip) (entry Try.f89.ntmps [a0, a1, a2]) σ (retK Try.prog Try.f89.results.toList R) := by kernel_rfl
theorem ac_spec_l3Walk {w0 : World} {a0 a1 a2 : Value} {σ : Vw} {R : Value → Vw → Prop} (h : vc_spec_l3Walk w0 a0 a1 a2 σ R) : AC Try.prog w0 n_spec_l3Walk [a0, a1, a2] σ R := by
  refine ac_rule (fn := Try.f89) (c := Try.f89.body.getD .skip) kp_spec_l3Walk esc_spec_l3Walk Try.func89 (by kernel_rfl) (by kernel_rfl) ?_
  rw [← vc_spec_l3Walk_eq]
  exact h

/-- impl.walk -/
def kp_impl_walk : Nat → Keep
  | 5 => ⟨[], [], [], .step 0 (.step 1 (.step 2 (.step 3 (.step 4 (.step 5 (.step 6 (.step 7 (.step 8 (.step 9 (.done)))))))))), [(1, [0]), (2, [0, 1]), (3, [0, 1, 2]), (5, [4]), (6, [4, 5]), (7, [4, 5, 6]), (8, [0, 1, 2, 3, 4, 5, 6, 7]), (9, [0, 1, 2, 3, 4, 5, 6, 7, 8])]⟩
  | 6 => ⟨[], [], [], .step 0 (.step 3 (.step 4 (.step 5 (.step 6 (.step 1 (.both (.step 2 (.step 7 (.step 8 (.step 9 (.done))))) (.step 7 (.step 2 (.step 8 (.step 9 (.done))))))))))), [(1, [0]), (2, [0, 1]), (5, [4]), (6, [4, 5]), (7, [0, 1, 3, 4, 5, 6]), (8, [0, 1, 2, 3, 4, 5, 6, 7]), (9, [0, 1, 2, 3, 4, 5, 6, 7, 8])]⟩
  | 7 => ⟨[], [], [], .step 0 (.step 1 (.step 2 (.step 3 (.step 4 (.step 5 (.step 6 (.step 7 (.step 8 (.done))))))))), [(2, [1]), (3, [1, 2]), (5, [4]), (6, [4, 5]), (7, [0, 1, 2, 3, 4, 5, 6]), (8, [0, 1, 2, 3, 4, 5, 6, 7])]⟩
  | 9 => ⟨[0, 1, 2, 7, 53, 54, 55], [], [], .done, []⟩
  | _ => ⟨[], [], [], .done, []⟩
def esc_impl_walk : Nat → Bool
  | 23 => true
  | 36 => true
  | _ => false
def vc_impl_walk (w0 : World) (a0 a1 a2 : Value) (σ : Vw) (R : Value → Vw → Prop) : Prop :=
  pBin Try.prog 90 BinOp.eql a1 (Value.pointer Option.none) (fun v0 => pIf v0 (pNil a2 (pLoad w0 5 a2 σ (fun g1 => AC Try.prog w0 n_impl_fresh ([a0, Value.agg (⟨[g1 0, g1 1, g1 2, g1 3, g1 4]⟩)]) σ (fun v2 s3 => R v2 s3)))) (pBin Try.prog 90 BinOp.eql a2 (Value.pointer Option.none) (fun v4 => pIf v4 (AC Try.prog w0 n_impl_gone [a0] σ (fun v5 s6 => pVal true 5 v5 (pNew w0 112 [cellOf v5 0, cellOf v5 1, cellOf v5 2, cellOf v5 3, cellOf v5 4] s6 (fun n7 s8 => R (Value.slice (Option.some (Addr.mk n7 0 Option.none)) 1 1) s8)))) (pNil a1 (pField 0 a1 (fun v9 => pLoad w0 1 v9 σ (fun g10 => pNil a2 (pField 0 a2 (fun v11 => pLoad w0 1 v11 σ (fun g12 => pBin Try.prog 4 BinOp.neq (g10 0) (g12 0) (fun v13 => pIf v13 (pNil a2 (pLoad w0 5 a2 σ (fun g14 => AC Try.prog w0 n_impl_gone [a0] σ (fun v15 s16 => (Stay w0 σ s16 a2 5) ∧ ((pVal true 5 v15 (pNew w0 112 [cellOf v15 0, cellOf v15 1, cellOf v15 2, cellOf v15 3, cellOf v15 4] s16 (fun n17 s18 => (Stay w0 s16 s18 a2 5) ∧ (AC Try.prog w0 n_impl_fresh ([a0, Value.agg (⟨[g14 0, g14 1, g14 2, g14 3, g14 4]⟩)]) s18 (fun v19 s20 => pAppendS w0 112 5 64 (Value.slice (Option.some (Addr.mk n17 0 Option.none)) 1 1) v19 s20 (fun v21 s22 => R v21 s22)))))) ∧ (AC Try.prog w0 n_impl_fresh ([a0, Value.agg (⟨[g14 0, g14 1, g14 2, g14 3, g14 4]⟩)]) s16 (fun v23 s24 => pVal true 5 v15 (pNew w0 112 [cellOf v15 0, cellOf v15 1, cellOf v15 2, cellOf v15 3, cellOf v15 4] s24 (fun n25 s26 => (Stay w0 s24 s26 a2 5) ∧ (pAppendS w0 112 5 64 (Value.slice (Option.some (Addr.mk n25 0 Option.none)) 1 1) v23 s26 (fun v27 s28 => R v27 s28))))))))))) (pNil a1 (pLoad w0 5 a1 σ (fun g29 => pNil a2 (pLoad w0 5 a2 σ (fun g30 => AC Try.prog w0 n_impl_changes ([a0, Value.agg (⟨[g29 0, g29 1, g29 2, g29 3, g29 4]⟩), Value.agg (⟨[g30 0, g30 1, g30 2, g30 3, g30 4]⟩)]) σ (fun v31 s32 => AC Try.prog w0 n_impl_either [a1, a2] s32 (fun v33 s34 => pLen v33 (fun v35 => pLoop (fun l36 K37 s38 => pBin Try.prog 3 BinOp.lss (vget l36 6) (vget l36 5) (fun v39 => pIf v39 (pIndexAddr 1 (vget l36 4) (vget l36 6) (fun v40 => pLoad w0 1 v40 s38 (fun g41 => AC Try.prog w0 n_impl_below [vget l36 0, g41 0] s38 (fun v42 s43 => AC Try.prog w0 n_p_impl_Tree_kid [vget l36 1, g41 0] s43 (fun v44 s45 => AC Try.prog w0 n_p_impl_Tree_kid [vget l36 2, g41 0] s45 (fun v46 s47 => AC Try.prog w0 n_impl_walk [v42, v44, v46] s47 (fun v48 s49 => pAppendS w0 112 5 64 (vget l36 3) v48 s49 (fun v50 s51 => pBin Try.prog 3 BinOp.add (vget l36 6) (Value.int IntKind.i64 1) (fun v52 => K37 AX.normal [vget l36 0, vget l36 1, vget l36 2, v50, vget l36 4, vget l36 5, v52] s51))))))))) (K37 (AX.exit 1) [vget l36 0, vget l36 1, vget l36 2, vget l36 3, vget l36 4, vget l36 5, vget l36 6] s38))) [a0, a1, a2, v31, v33, v35, Value.int IntKind.i64 0] s34 (fun x53 l54 s55 => match x53 with | .normal => R (vget l54 3) s55 | .ret => False | .exit i56 => (match Nat.beq i56 1 with | true => R (vget l54 3) s55 | false => False)))))))))))))))))))))
theorem vc_impl_walk_eq (w0 : World) (a0 a1 a2 : Value) (σ : Vw) (R : Value → Vw → Prop) : vc_impl_walk w0 a0 a1 a2 σ R = den Try.prog w0 kp_impl_walk esc_impl_walk (Try.f90.body.getD .skip) (entry Try.f90.ntmps [a0, a1, a2]) σ (retK Try.prog Try.f90.results.toList R) := by kernel_rfl
theorem ac_impl_walk {w0 : World} {a0 a1 a2 : Value} {σ : Vw} {R : Value → Vw → Prop} (h : vc_impl_walk w0 a0 a1 a2 σ R) : AC Try.prog w0 n_impl_walk [a0, a1, a2] σ R := by
  refine ac_rule (fn := Try.f90) (c := Try.f90.body.getD .skip) kp_impl_walk esc_impl_walk Try.func90 (by kernel_rfl) (by kernel_rfl) ?_
  rw [← vc_impl_walk_eq]
  exact h

/-- laws.eqEntry -/
def kp_laws_eqEntry : Nat → Keep
  | _ => ⟨[], [], [], .done, []⟩
def esc_laws_eqEntry : Nat → Bool
  | _ => false
def vc_laws_eqEntry (w0 : World) (a0 a1 : Value) (σ : Vw) (R : Value → Vw → Prop) : Prop :=
  pVal true 5 a0 (pVal true 5 a1 (AC Try.prog w0 n_laws_eqStringS [cellOf a0 0, cellOf a1 0] σ (fun v0 s1 => pUn UnOp.not v0 (fun v2 => pIf v2 (R (Value.bool false) s1) (pBin Try.prog 3 BinOp.neq (cellOf a0 1) (cellOf a1 1) (fun v3 => pIf v3 (R (Value.bool false) s1) (pBin Try.prog 4 BinOp.neq (cellOf a0 2) (cellOf a1 2) (fun v4 => pIf v4 (R (Value.bool false) s1) (pBin Try.prog 3 BinOp.neq (cellOf a0 3) (cellOf a1 3) (fun v5 => pIf v5 (R (Value.bool false) s1) (pBin Try.prog 9 BinOp.neq (cellOf a0 4) (cellOf a1 4) (fun v6 => pIf v6 (R (Value.bool false) s1) (R (Value.bool true) s1)))))))))))))
theorem vc_laws_eqEntry_eq (w0 : World) (a0 a1 : Value) (σ : Vw) (R : Value → Vw → Prop) : vc_laws_eqEntry w0 a0 a1 σ R = den Try.prog w0 kp_laws_eqEntry esc_laws_eqEntry (Try.f91.body.getD .skip) (entry Try.f91.ntmps [a0, a1]) σ (retK Try.prog Try.f91.results.toList R) := by kernel_rfl
theorem ac_laws_eqEntry {w0 : World} {a0 a1 : Value} {σ : Vw} {R : Value → Vw → Prop} (h : vc_laws_eqEntry w0 a0 a1 σ R) : AC Try.prog w0 n_laws_eqEntry [a0, a1] σ R := by
  refine ac_rule (fn := Try.f91) (c := Try.f91.body.getD .skip) kp_laws_eqEntry esc_laws_eqEntry Try.func91 (by kernel_rfl) (by kernel_rfl) ?_
  rw [← vc_laws_eqEntry_eq]
  exact h

/-- (impl.Tree).sound -/
def kp_impl_Tree_sound : Nat → Keep
  | 8 => ⟨[1, 4, 41, 42, 43], [(2, 5)], [2], .done, []⟩
  | _ => ⟨[], [], [], .done, []⟩
def esc_impl_Tree_sound : Nat → Bool
  | _ => false
def vc_impl_Tree_sound (w0 : World) (a0 a1 : Value) (σ : Vw) (R : Value → Vw → Prop) : Prop :=
  pVal true 5 a0 (AC Try.prog w0 n_impl_modeOk [cellOf a0 1] σ (fun v0 s1 => pUn UnOp.not v0 (fun v2 => pIf v2 (R (Value.bool false) s1) (pBin Try.prog 3 BinOp.gtr a1 (Value.int IntKind.i64 4) (fun v3 => pIf v3 (R (Value.bool false) s1) (pLen (cellOf a0 3) (fun v4 => pLen (cellOf a0 4) (fun v5 => pBin Try.prog 3 BinOp.neq v4 v5 (fun v6 => pIf v6 (R (Value.bool false) s1) (pUn UnOp.not (cellOf a0 0) (fun v7 => pIf v7 (pLenS (cellOf a0 2) (fun v8 => pBin Try.prog 3 BinOp.leq v8 (Value.int IntKind.i64 24) (fun v9 => pIf v9 (pLen (cellOf a0 3) (fun v10 => pBin Try.prog 3 BinOp.eql v10 (Value.int IntKind.i64 0) (fun v11 => R v11 s1))) (R (Value.bool false) s1)))) (pBin Try.prog 9 BinOp.neq (cellOf a0 2) (Value.string ({ data := #[] })) (fun v12 => pIf v12 (R (Value.bool false) s1) (pLen (cellOf a0 3) (fun v13 => pLoop (fun l14 K15 s16 => pBin Try.prog 3 BinOp.lss (vget l14 4) (vget l14 3) (fun v17 => pIf v17 (pIndexAddr 1 (vget l14 2) (vget l14 4) (fun v18 => pLoad w0 1 v18 s16 (fun g19 => AC Try.prog w0 n_impl_nameOk [g19 0] s16 (fun v20 s21 => pUn UnOp.not v20 (fun v22 => pIf v22 (K15 AX.ret [vget l14 0, Value.bool false, vget l14 2, vget l14 3, vget l14 4, vget l14 5, vget l14 6, vget l14 7, vget l14 8, vget l14 9] s21) (pBin Try.prog 3 BinOp.gtr (vget l14 4) (Value.int IntKind.i64 0) (fun v23 => pIf v23 (pBin Try.prog 3 BinOp.sub (vget l14 4) (Value.int IntKind.i64 1) (fun v24 => pIndexAddr 1 (vget l14 8) v24 (fun v25 => pLoad w0 1 v25 s21 (fun g26 => pBin Try.prog 9 BinOp.geq (g26 0) (g19 0) (fun v27 => pIf v27 (K15 AX.ret [vget l14 0, Value.bool false, vget l14 2, vget l14 3, vget l14 4, vget l14 5, vget l14 6, vget l14 7, vget l14 8, vget l14 9] s21) (pIndexAddr 5 (vget l14 9) (vget l14 4) (fun v28 => pLoad w0 5 v28 s21 (fun g29 => pBin Try.prog 3 BinOp.add (vget l14 0) (Value.int IntKind.i64 1) (fun v30 => AC Try.prog w0 n_impl_Tree_sound ([Value.agg (⟨[g29 0, g29 1, g29 2, g29 3, g29 4]⟩), v30]) s21 (fun v31 s32 => pUn UnOp.not v31 (fun v33 => pIf v33 (K15 AX.ret [vget l14 0, Value.bool false, vget l14 2, vget l14 3, vget l14 4, vget l14 5, vget l14 6, vget l14 7, vget l14 8, vget l14 9] s32) (pBin Try.prog 3 BinOp.add (vget l14 4) (Value.int IntKind.i64 1) (fun v34 => K15 AX.normal [vget l14 0, vget l14 1, vget l14 2, vget l14 3, v34, vget l14 5, vget l14 6, vget l14 7, vget l14 8, vget l14 9] s32))))))))))))) (pIndexAddr 5 (vget l14 9) (vget l14 4) (fun v35 => pLoad w0 5 v35 s21 (fun g36 => pBin Try.prog 3 BinOp.add (vget l14 0) (Value.int IntKind.i64 1) (fun v37 => AC Try.prog w0 n_impl_Tree_sound ([Value.agg (⟨[g36 0, g36 1, g36 2, g36 3, g36 4]⟩), v37]) s21 (fun v38 s39 => pUn UnOp.not v38 (fun v40 => pIf v40 (K15 AX.ret [vget l14 0, Value.bool false, vget l14 2, vget l14 3, vget l14 4, vget l14 5, vget l14 6, vget l14 7, vget l14 8, vget l14 9] s39) (pBin Try.prog 3 BinOp.add (vget l14 4) (Value.int IntKind.i64 1) (fun v41 => K15 AX.normal [vget l14 0, vget l14 1, vget l14 2, vget l14 3, v41, vget l14 5, vget l14 6, vget l14 7, vget l14 8, vget l14 9] s39))))))))))))))) (K15 (AX.exit 0) [vget l14 0, vget l14 1, vget l14 2, vget l14 3, vget l14 4, vget l14 5, vget l14 6, vget l14 7, vget l14 8, vget l14 9] s16))) [a1, Value.bool false, cellOf a0 3, v13, Value.int IntKind.i64 0, cellOf a0 0, cellOf a0 1, cellOf a0 2, cellOf a0 3, cellOf a0 4] s1 (fun x42 l43 s44 => match x42 with | .normal => R (Value.bool true) s44 | .ret => R (vget l43 1) s44 | .exit i45 => (match Nat.beq i45 0 with | true => R (Value.bool true) s44 | false => False)))))))))))))))))
theorem vc_impl_Tree_sound_eq (w0 : World) (a0 a1 : Value) (σ : Vw) (R : Value → Vw → Prop) : vc_impl_Tree_sound w0 a0 a1 σ R = den Try.prog w0 kp_impl_Tree_sound esc_impl_Tree_sound (Try.f99.body.getD .skip) (entry Try.f99.ntmps [a0, a1]) σ (retK Try.prog Try.f99.results.toList R) := by kernel_rfl
theorem ac_impl_Tree_sound {w0 : World} {a0 a1 : Value} {σ : Vw} {R : Value → Vw → Prop} (h : vc_impl_Tree_sound w0 a0 a1 σ R) : AC Try.prog w0 n_impl_Tree_sound [a0, a1] σ R := by
  refine ac_rule (fn := Try.f99) (c := Try.f99.body.getD .skip) kp_impl_Tree_sound esc_impl_Tree_sound Try.func99 (by kernel_rfl) (by kernel_rfl) ?_
  rw [← vc_impl_Tree_sound_eq]
  exact h

/-- (*impl.Tree).kid -/
def kp_p_impl_Tree_kid : Nat → Keep
  | _ => ⟨[], [], [], .done, []⟩
def esc_p_impl_Tree_kid : Nat → Bool
  | _ => false
def vc_p_impl_Tree_kid (w0 : World) (a0 a1 : Value) (σ : Vw) (R : Value → Vw → Prop) : Prop :=
  pNil a0 (pField 3 a0 (fun v0 => pLoad w0 1 v0 σ (fun g1 => AC Try.prog w0 n_slices_Index_string_string [g1 0, a1] σ (fun v2 s3 => pBin Try.prog 3 BinOp.lss v2 (Value.int IntKind.i64 0) (fun v4 => pIf v4 (R (Value.pointer Option.none) s3) (pNil a0 (pField 4 a0 (fun v5 => pLoad w0 1 v5 s3 (fun g6 => pLen (g6 0) (fun v7 => pBin Try.prog 3 BinOp.geq v2 v7 (fun v8 => pIf v8 (R (Value.pointer Option.none) s3) (pNil a0 (pField 4 a0 (fun v9 => pLoad w0 1 v9 s3 (fun g10 => pIndexAddr 5 (g10 0) v2 (fun v11 => R v11 s3))))))))))))))))
theorem vc_p_impl_Tree_kid_eq (w0 : World) (a0 a1 : Value) (σ : Vw) (R : Value → Vw → Prop) : vc_p_impl_Tree_kid w0 a0 a1 σ R = den Try.prog w0 kp_p_impl_Tree_kid esc_p_impl_Tree_kid (Try.f100.body.getD .skip) (entry Try.f100.ntmps [a0, a1]) σ (retK Try.prog Try.f100.results.toList R) := by kernel_rfl
theorem ac_p_impl_Tree_kid {w0 : World} {a0 a1 : Value} {σ : Vw} {R : Value → Vw → Prop} (h : vc_p_impl_Tree_kid w0 a0 a1 σ R) : AC Try.prog w0 n_p_impl_Tree_kid [a0, a1] σ R := by
  refine ac_rule (fn := Try.f100) (c := Try.f100.body.getD .skip) kp_p_impl_Tree_kid esc_p_impl_Tree_kid Try.func100 (by kernel_rfl) (by kernel_rfl) ?_
  rw [← vc_p_impl_Tree_kid_eq]
  exact h

/-- spec.l1In -/
def kp_spec_l1In : Nat → Keep
  | _ => ⟨[], [], [], .done, []⟩
def esc_spec_l1In : Nat → Bool
  | _ => false
def vc_spec_l1In (w0 : World) (a0 a1 a2 : Value) (σ : Vw) (R : Value → Vw → Prop) : Prop :=
  pBin Try.prog 3 BinOp.geq a0 a1 (fun v0 => pIf v0 (pBin Try.prog 3 BinOp.leq a0 a2 (fun v1 => R v1 σ)) (R (Value.bool false) σ))
theorem vc_spec_l1In_eq (w0 : World) (a0 a1 a2 : Value) (σ : Vw) (R : Value → Vw → Prop) : vc_spec_l1In w0 a0 a1 a2 σ R = den Try.prog w0 kp_spec_l1In esc_spec_l1In (Try.f102.body.getD .skip) (entry Try.f102.ntmps [a0, a1, a2]) σ (retK Try.prog Try.f102.results.toList R) := by kernel_rfl
theorem ac_spec_l1In {w0 : World} {a0 a1 a2 : Value} {σ : Vw} {R : Value → Vw → Prop} (h : vc_spec_l1In w0 a0 a1 a2 σ R) : AC Try.prog w0 n_spec_l1In [a0, a1, a2] σ R := by
  refine ac_rule (fn := Try.f102) (c := Try.f102.body.getD .skip) kp_spec_l1In esc_spec_l1In Try.func102 (by kernel_rfl) (by kernel_rfl) ?_
  rw [← vc_spec_l1In_eq]
  exact h

/-- spec.l1Plain -/
def kp_spec_l1Plain : Nat → Keep
  | 6 => ⟨[2, 3], [(1, 5)], [1], .done, []⟩
  | 8 => ⟨[], [], [], .step 0 (.step 1 (.step 2 (.step 3 (.step 4 (.step 5 (.step 6 (.step 7 (.step 8 (.step 9 (.step 10 (.step 11 (.step 12 (.step 13 (.step 14 (.step 15 (.step 16 (.step 17 (.step 18 (.step 19 (.step 20 (.step 21 (.step 22 (.step 23 (.step 24 (.done))))))))))))))))))))))))), [(1, [0]), (3, [0, 1, 2]), (4, [0, 1, 2, 3]), (5, [0, 1, 2, 3, 4]), (6, [0, 1, 2, 3, 4, 5]), (7, [0, 1, 2, 3, 4, 5, 6]), (8, [0, 1, 2, 3, 4, 5, 6, 7]), (9, [0, 1, 2, 3, 4, 5, 6, 7, 8]), (10, [0, 1, 2, 3, 4, 5, 6, 7, 8, 9]), (11, [0, 1, 2, 3, 4, 5, 6, 7, 8, 9, 10]), (12, [0, 1, 2, 3, 4, 5, 6, 7, 8, 9, 10, 11]), (13, [0, 1, 2, 3, 4, 5, 6, 7, 8, 9, 10]), (14, [0, 1, 2, 3, 4, 5, 6, 7, 8, 9, 10, 13]), (15, [0, 1, 2, 3, 4, 5, 6, 7, 8, 9, 10, 11, 12, 13, 14]), (16, [0, 1, 2, 3, 4, 5, 6, 7, 8, 9, 10, 11, 12, 13, 14, 15]), (17, [0, 1, 2, 3, 4, 5, 6, 7, 8, 9, 10]), (18, [0, 1, 2, 3, 4, 5, 6, 7, 8, 9, 10, 17]), (19, [0, 1, 2, 3, 4, 5, 6, 7, 8, 9, 10]), (20, [0, 1, 2, 3, 4, 5, 6, 7, 8, 9, 10, 17, 18, 19]), (21, [0, 1, 2, 3, 4, 5, 6, 7, 8, 9, 10, 17, 18, 19, 20]), (22, [0, 1, 2, 3, 4, 5, 6, 7, 8, 9, 10, 11, 12, 13, 14, 15, 16, 17, 18, 19, 20, 21]), (23, [0, 1, 2, 3, 4, 5, 6, 7, 8, 9, 10, 11, 12, 13, 14, 15, 16, 17, 18, 19, 20, 21, 22]), (24, [0, 1, 2, 3, 4, 5, 6, 7, 8, 9, 10, 11, 12, 13, 14, 15, 16, 17, 18, 19, 20, 21, 22, 23])]⟩
  | _ => ⟨[], [], [], .done, []⟩
def esc_spec_l1Plain : Nat → Bool
  | _ => false
def vc_spec_l1Plain (w0 : World) (a0 : Value) (σ : Vw) (R : Value → Vw → Prop) : Prop :=
  pVal true 5 a0 (AC Try.prog w0 n_spec_l1In [cellOf a0 1, Value.int IntKind.i64 0, Value.int IntKind.i64 7] σ (fun v0 s1 => pUn UnOp.not v0 (fun v2 => pIf v2 (R (Value.bool false) s1) (pLen (cellOf a0 3) (fun v3 => pLen (cellOf a0 4) (fun v4 => pBin Try.prog 3 BinOp.neq v3 v4 (fun v5 => pIf v5 (R (Value.bool false) s1) (pUn UnOp.not (cellOf a0 0) (fun v6 => pIf v6 (pLenS (cellOf a0 2) (fun v7 => pBin Try.prog 3 BinOp.leq v7 (Value.int IntKind.i64 24) (fun v8 => pIf v8 (pLen (cellOf a0 3) (fun v9 => pBin Try.prog 3 BinOp.eql v9 (Value.int IntKind.i64 0) (fun v10 => R v10 s1))) (R (Value.bool false) s1)))) (pLoop (fun l11 K12 s13 => pLen (vget l11 5) (fun v14 => pBin Try.prog 3 BinOp.lss (vget l11 1) v14 (fun v15 => pIf v15 (pIndexAddr 1 (vget l11 5) (vget l11 1) (fun v16 => pLoad w0 1 v16 s13 (fun g17 => AC Try.prog w0 n_spec_l1NameOk [g17 0] s13 (fun v18 s19 => pUn UnOp.not v18 (fun v20 => pIf v20 (K12 AX.ret [Value.bool false, vget l11 1, vget l11 2, vget l11 3, vget l11 4, vget l11 5, vget l11 6] s19) (pBin Try.prog 3 BinOp.gtr (vget l11 1) (Value.int IntKind.i64 0) (fun v21 => pIf v21 (pBin Try.prog 3 BinOp.sub (vget l11 1) (Value.int IntKind.i64 1) (fun v22 => pIndexAddr 1 (vget l11 5) v22 (fun v23 => pLoad w0 1 v23 s19 (fun g24 => pIndexAddr 1 (vget l11 5) (vget l11 1) (fun v25 => pLoad w0 1 v25 s19 (fun g26 => pBin Try.prog 9 BinOp.geq (g24 0) (g26 0) (fun v27 => pIf v27 (K12 AX.ret [Value.bool false, vget l11 1, vget l11 2, vget l11 3, vget l11 4, vget l11 5, vget l11 6] s19) (pBin Try.prog 3 BinOp.add (vget l11 1) (Value.int IntKind.i64 1) (fun v28 => K12 AX.normal [vget l11 0, v28, vget l11 2, vget l11 3, vget l11 4, vget l11 5, vget l11 6] s19))))))))) (pBin Try.prog 3 BinOp.add (vget l11 1) (Value.int IntKind.i64 1) (fun v29 => K12 AX.normal [vget l11 0, v29, vget l11 2, vget l11 3, vget l11 4, vget l11 5, vget l11 6] s19))))))))) (K12 (AX.exit 0) [vget l11 0, vget l11 1, vget l11 2, vget l11 3, vget l11 4, vget l11 5, vget l11 6] s13)))) [Value.bool false, Value.int IntKind.i64 0, cellOf a0 0, cellOf a0 1, cellOf a0 2, cellOf a0 3, cellOf a0 4] s1 (fun x30 l31 s32 => match x30 with | .normal => pBin Try.prog 9 BinOp.eql (vget l31 4) (Value.string ({ data := #[] })) (fun v33 => R v33 s32) | .ret => R (vget l31 0) s32 | .exit i34 => (match Nat.beq i34 0 with | true => pBin Try.prog 9 BinOp.eql (vget l31 4) (Value.string ({ data := #[] })) (fun v35 => R v35 s32) | false => False))))))))))))
theorem vc_spec_l1Plain_eq (w0 : World) (a0 : Value) (σ : Vw) (R : Value → Vw → Prop) : vc_spec_l1Plain w0 a0 σ R = den Try.prog w0 kp_spec_l1Plain esc_spec_l1Plain (Try.f108.body.getD .skip) (entry Try.f108.ntmps [a0]) σ (retK Try.prog Try.f108.results.toList R) := by kernel_rfl
theorem ac_spec_l1Plain {w0 : World} {a0 : Value} {σ : Vw} {R : Value → Vw → Prop} (h : vc_spec_l1Plain w0 a0 σ R) : AC Try.prog w0 n_spec_l1Plain [a0] σ R := by
  refine ac_rule (fn := Try.f108) (c := Try.f108.body.getD .skip) kp_spec_l1Plain esc_spec_l1Plain Try.func108 (by kernel_rfl) (by kernel_rfl) ?_
  rw [← vc_spec_l1Plain_eq]
  exact h

/-- spec.l3Gone -/
def kp_spec_l3Gone : Nat → Keep
  | _ => ⟨[], [], [], .done, []⟩
def esc_spec_l3Gone : Nat → Bool
  | 3 => true
  | 7 => true
  | _ => false
def vc_spec_l3Gone (w0 : World) (a0 : Value) (σ : Vw) (R : Value → Vw → Prop) : Prop :=
  pNew w0 9 [] σ (fun n0 s1 => pAppendS w0 9 1 16 (Value.slice (Option.some (Addr.mk n0 0 Option.none)) 0 0) a0 s1 (fun v2 s3 => pVal false 1 v2 (pVal false 1 (Value.int IntKind.i64 1) (pVal true 5 (Value.agg (⟨[v2, Value.int IntKind.i64 1, Value.bool false, Value.int IntKind.i64 0, Value.string ({ data := #[] })]⟩)) (pNew w0 112 ([v2, Value.int IntKind.i64 1, Value.bool false, Value.int IntKind.i64 0, Value.string ({ data := #[] })]) s3 (fun n4 s5 => R (Value.slice (Option.some (Addr.mk n4 0 Option.none)) 1 1) s5))))))
theorem vc_spec_l3Gone_eq (w0 : World) (a0 : Value) (σ : Vw) (R : Value → Vw → Prop) : vc_spec_l3Gone w0 a0 σ R = den Try.prog w0 kp_spec_l3Gone esc_spec_l3Gone (Try.f117.body.getD .skip) (entry Try.f117.ntmps [a0]) σ (retK Try.prog Try.f117.results.toList R) := by kernel_rfl
theorem ac_spec_l3Gone {w0 : World} {a0 : Value} {σ : Vw} {R : Value → Vw → Prop} (h : vc_spec_l3Gone w0 a0 σ R) : AC Try.prog w0 n_spec_l3Gone [a0] σ R := by
  refine ac_rule (fn := Try.f117) (c := Try.f117.body.getD .skip) kp_spec_l3Gone esc_spec_l3Gone Try.func117 (by kernel_rfl) (by kernel_rfl) ?_
  rw [← vc_spec_l3Gone_eq]
  exact h

/-- spec.l3New -/
def kp_spec_l3New : Nat → Keep
  | 1 => ⟨[], [], [], .step 1 (.step 3 (.step 4 (.step 5 (.step 6 (.step 7 (.step 8 (.step 0 (.step 2 (.step 9 (.step 10 (.step 11 (.done)))))))))))), [(2, [0, 1]), (4, [3]), (6, [5]), (8, [7]), (9, [0, 1, 2, 3, 4, 5, 6, 7, 8]), (10, [0, 1, 2, 3, 4, 5, 6, 7, 8, 9]), (11, [0, 1, 2, 3, 4, 5, 6, 7, 8, 9, 10])]⟩
  | 3 => ⟨[0, 5, 6], [(3, 5)], [3], .done, []⟩
  | 5 => ⟨[], [], [], .step 0 (.step 1 (.step 2 (.step 3 (.step 4 (.step 5 (.step 6 (.step 8 (.step 9 (.step 10 (.step 11 (.step 12 (.step 7 (.step 13 (.step 14 (.step 15 (.done)))))))))))))))), [(3, [2]), (5, [2, 3, 4]), (6, [2, 3, 4, 5]), (7, [1, 2, 3, 4, 5, 6]), (9, [8]), (11, [8, 9, 10]), (12, [8, 9, 10, 11]), (13, [1, 2, 3, 4, 5, 6, 7, 8, 9, 10, 11, 12]), (14, [0, 1, 2, 3, 4, 5, 6, 7, 8, 9, 10, 11, 12, 13]), (15, [0, 1, 2, 3, 4, 5, 6, 7, 8, 9, 10, 11, 12, 13, 14])]⟩
  | _ => ⟨[], [], [], .done, []⟩
def esc_spec_l3New : Nat → Bool
  | 7 => true
  | 17 => true
  | _ => false
def vc_spec_l3New (w0 : World) (a0 a1 : Value) (σ : Vw) (R : Value → Vw → Prop) : Prop :=
  pVal true 5 a1 (pNew w0 9 [] σ (fun n0 s1 => pAppendS w0 9 1 16 (Value.slice (Option.some (Addr.mk n0 0 Option.none)) 0 0) a0 s1 (fun v2 s3 => pVal false 1 v2 (pVal false 1 (Value.int IntKind.i64 2) (pVal false 1 (cellOf a1 0) (pVal false 1 (cellOf a1 1) (pVal false 1 (cellOf a1 2) (pVal true 5 (Value.agg (⟨[v2, Value.int IntKind.i64 2, cellOf a1 0, cellOf a1 1, cellOf a1 2]⟩)) (pNew w0 112 [v2, Value.int IntKind.i64 2, cellOf a1 0, cellOf a1 1, cellOf a1 2] s3 (fun n4 s5 => pLoop (fun l6 K7 s8 => pLen (vget l6 6) (fun v9 => pBin Try.prog 3 BinOp.lss (vget l6 2) v9 (fun v10 => pIf v10 (pIndexAddr 1 (vget l6 6) (vget l6 2) (fun v11 => pLoad w0 1 v11 s8 (fun g12 => pIndexAddr 5 (vget l6 7) (vget l6 2) (fun v13 => pLoad w0 5 v13 s8 (fun g14 => AC Try.prog w0 n_spec_l3Path [vget l6 0, g12 0] s8 (fun v15 s16 => (Stay w0 s8 s16 v13 5) ∧ (AC Try.prog w0 n_spec_l3New ([v15, Value.agg (⟨[g14 0, g14 1, g14 2, g14 3, g14 4]⟩)]) s16 (fun v17 s18 => pAppendS w0 112 5 64 (vget l6 1) v17 s18 (fun v19 s20 => pBin Try.prog 3 BinOp.add (vget l6 2) (Value.int IntKind.i64 1) (fun v21 => K7 AX.normal [vget l6 0, v19, v21, vget l6 3, vget l6 4, vget l6 5, vget l6 6, vget l6 7] s20)))))))))) (K7 (AX.exit 0) [vget l6 0, vget l6 1, vget l6 2, vget l6 3, vget l6 4, vget l6 5, vget l6 6, vget l6 7] s8)))) [a0, Value.slice (Option.some (Addr.mk n4 0 Option.none)) 1 1, Value.int IntKind.i64 0, cellOf a1 0, cellOf a1 1, cellOf a1 2, cellOf a1 3, cellOf a1 4] s5 (fun x22 l23 s24 => match x22 with | .normal => R (vget l23 1) s24 | .ret => False | .exit i25 => (match Nat.beq i25 0 with | true => R (vget l23 1) s24 | false => False))))))))))))
theorem vc_spec_l3New_eq (w0 : World) (a0 a1 : Value) (σ : Vw) (R : Value → Vw → Prop) : vc_spec_l3New w0 a0 a1 σ R = den Try.prog w0 kp_spec_l3New esc_spec_l3New (Try.f118.body.getD .skip) (entry Try.f118.ntmps [a0, a1]) σ (retK Try.prog Try.f118.results.toList R) := by kernel_rfl
theorem ac_spec_l3New {w0 : World} {a0 a1 : Value} {σ : Vw} {R : Value → Vw → Prop} (h : vc_spec_l3New w0 a0 a1 σ R) : AC Try.prog w0 n_spec_l3New [a0, a1] σ R := by
  refine ac_rule (fn := Try.f118) (c := Try.f118.body.getD .skip) kp_spec_l3New esc_spec_l3New Try.func118 (by kernel_rfl) (by kernel_rfl) ?_
  rw [← vc_spec_l3New_eq]
  exact h

end Go.Proofs.Ytlbpnfhhoalenaa

/- What each function owes, reckoned out, part 3. MADE BY PROGRAM (emit.py). -/
set_option linter.unusedVariables false
namespace Go.Proofs.Ytlbpnfhhoalenaa
open Go Go.Av

/-- spec.l3Part -/
def kp_spec_l3Part : Nat → Keep
  | 3 => ⟨[], [], [], .step 0 (.step 2 (.step 4 (.step 5 (.step 1 (.step 3 (.step 6 (.step 7 (.step 8 (.step 9 (.done)))))))))), [(3, [1, 2]), (5, [4]), (6, [1, 2, 3, 4, 5]), (7, [1, 2, 3, 4, 5, 6]), (8, [0, 1, 2, 3, 4, 5, 6, 7]), (9, [0, 1, 2, 3, 4, 5, 6, 7, 8])]⟩
  | 5 => ⟨[], [], [], .step 0 (.step 2 (.step 4 (.step 5 (.step 1 (.step 3 (.step 6 (.step 7 (.step 8 (.step 9 (.done)))))))))), [(3, [1, 2]), (5, [4]), (6, [1, 2, 3, 4, 5]), (7, [1, 2, 3, 4, 5, 6]), (8, [0, 1, 2, 3, 4, 5, 6, 7]), (9, [0, 1, 2, 3, 4, 5, 6, 7, 8])]⟩
  | _ => ⟨[], [], [], .done, []⟩
def esc_spec_l3Part : Nat → Bool
  | 8 => true
  | 15 => true
  | 29 => true
  | _ => false
def vc_spec_l3Part (w0 : World) (a0 a1 a2 : Value) (σ : Vw) (R : Value → Vw → Prop) : Prop :=
  pVal true 5 a1 (pVal true 5 a2 (pNew w0 112 [] σ (fun n0 s1 => pBin Try.prog 3 BinOp.neq (cellOf a1 1) (cellOf a2 1) (fun v2 => pIf v2 (pNew w0 9 [] s1 (fun n3 s4 => pAppendS w0 9 1 16 (Value.slice (Option.some (Addr.mk n3 0 Option.none)) 0 0) a0 s4 (fun v5 s6 => pVal false 1 v5 (pVal false 1 (Value.int IntKind.i64 3) (pVal false 1 (cellOf a2 1) (pVal true 5 (Value.agg (⟨[v5, Value.int IntKind.i64 3, Value.bool false, cellOf a2 1, Value.string ({ data := #[] })]⟩)) ((allOne ([v5, Value.int IntKind.i64 3, Value.bool false, cellOf a2 1, Value.string ({ data := #[] })])) ∧ (pAppend w0 112 5 64 (Value.slice (Option.some (Addr.mk n0 0 Option.none)) 0 0) 1 ([v5, Value.int IntKind.i64 3, Value.bool false, cellOf a2 1, Value.string ({ data := #[] })]) s6 (fun v7 s8 => pBin Try.prog 9 BinOp.neq (cellOf a1 2) (cellOf a2 2) (fun v9 => pIf v9 (pNew w0 9 [] s8 (fun n10 s11 => pAppendS w0 9 1 16 (Value.slice (Option.some (Addr.mk n10 0 Option.none)) 0 0) a0 s11 (fun v12 s13 => pVal false 1 v12 (pVal false 1 (Value.int IntKind.i64 4) (pVal false 1 (cellOf a2 2) (pVal true 5 (Value.agg (⟨[v12, Value.int IntKind.i64 4, Value.bool false, Value.int IntKind.i64 0, cellOf a2 2]⟩)) ((allOne [v12, Value.int IntKind.i64 4, Value.bool false, Value.int IntKind.i64 0, cellOf a2 2]) ∧ (pAppend w0 112 5 64 v7 1 [v12, Value.int IntKind.i64 4, Value.bool false, Value.int IntKind.i64 0, cellOf a2 2] s13 (fun v14 s15 => R v14 s15))))))))) (R v7 s8))))))))))) (pBin Try.prog 9 BinOp.neq (cellOf a1 2) (cellOf a2 2) (fun v16 => pIf v16 (pNew w0 9 [] s1 (fun n17 s18 => pAppendS w0 9 1 16 (Value.slice (Option.some (Addr.mk n17 0 Option.none)) 0 0) a0 s18 (fun v19 s20 => pVal false 1 v19 (pVal false 1 (Value.int IntKind.i64 4) (pVal false 1 (cellOf a2 2) (pVal true 5 (Value.agg (⟨[v19, Value.int IntKind.i64 4, Value.bool false, Value.int IntKind.i64 0, cellOf a2 2]⟩)) ((allOne [v19, Value.int IntKind.i64 4, Value.bool false, Value.int IntKind.i64 0, cellOf a2 2]) ∧ (pAppend w0 112 5 64 (Value.slice (Option.some (Addr.mk n0 0 Option.none)) 0 0) 1 [v19, Value.int IntKind.i64 4, Value.bool false, Value.int IntKind.i64 0, cellOf a2 2] s20 (fun v21 s22 => R v21 s22))))))))) (R (Value.slice (Option.some (Addr.mk n0 0 Option.none)) 0 0) s1)))))))
theorem vc_spec_l3Part_eq (w0 : World) (a0 a1 a2 : Value) (σ : Vw) (R : Value → Vw → Prop) : vc_spec_l3Part w0 a0 a1 a2 σ R = den Try.prog w0 kp_spec_l3Part esc_spec_l3Part (Try.f119.body.getD .skip) (entry Try.f119.ntmps [a0, a1, a2]) σ (retK Try.prog Try.f119.results.toList R) := by kernel_rfl
theorem ac_spec_l3Part {w0 : World} {a0 a1 a2 : Value} {σ : Vw} {R : Value → Vw → Prop} (h : vc_spec_l3Part w0 a0 a1 a2 σ R) : AC Try.prog w0 n_spec_l3Part [a0, a1, a2] σ R := by
  refine ac_rule (fn := Try.f119) (c := Try.f119.body.getD .skip) kp_spec_l3Part esc_spec_l3Part Try.func119 (by kernel_rfl) (by kernel_rfl) ?_
  rw [← vc_spec_l3Part_eq]
  exact h

/-- spec.l3Path -/
def kp_spec_l3Path : Nat → Keep
  | _ => ⟨[], [], [], .done, []⟩
def esc_spec_l3Path : Nat → Bool
  | 5 => true
  | _ => false
def vc_spec_l3Path (w0 : World) (a0 a1 : Value) (σ : Vw) (R : Value → Vw → Prop) : Prop :=
  pNew w0 9 [] σ (fun n0 s1 => pAppendS w0 9 1 16 (Value.slice (Option.some (Addr.mk n0 0 Option.none)) 0 0) a0 s1 (fun v2 s3 => pVal false 1 a1 ((allOne [a1]) ∧ (pAppend w0 9 1 16 v2 1 [a1] s3 (fun v4 s5 => R v4 s5)))))
theorem vc_spec_l3Path_eq (w0 : World) (a0 a1 : Value) (σ : Vw) (R : Value → Vw → Prop) : vc_spec_l3Path w0 a0 a1 σ R = den Try.prog w0 kp_spec_l3Path esc_spec_l3Path (Try.f120.body.getD .skip) (entry Try.f120.ntmps [a0, a1]) σ (retK Try.prog Try.f120.results.toList R) := by kernel_rfl
theorem ac_spec_l3Path {w0 : World} {a0 a1 : Value} {σ : Vw} {R : Value → Vw → Prop} (h : vc_spec_l3Path w0 a0 a1 σ R) : AC Try.prog w0 n_spec_l3Path [a0, a1] σ R := by
  refine ac_rule (fn := Try.f120) (c := Try.f120.body.getD .skip) kp_spec_l3Path esc_spec_l3Path Try.func120 (by kernel_rfl) (by kernel_rfl) ?_
  rw [← vc_spec_l3Path_eq]
  exact h

/-- impl.fresh -/
def kp_impl_fresh : Nat → Keep
  | _ => ⟨[], [], [], .done, []⟩
def esc_impl_fresh : Nat → Bool
  | 5 => true
  | 6 => true
  | _ => false
def vc_impl_fresh (w0 : World) (a0 a1 : Value) (σ : Vw) (R : Value → Vw → Prop) : Prop :=
  pVal true 5 a1 (pNew w0 112 [] σ (fun n0 s1 => pNew w0 79 [Value.slice Option.none 0 0] s1 (fun n2 s3 => pVal false 1 (Value.slice (Option.some (Addr.mk n0 0 Option.none)) 0 0) (pStore (Value.pointer (Option.some (Addr.mk n2 0 Option.none))) [Value.slice (Option.some (Addr.mk n0 0 Option.none)) 0 0] s3 (fun s4 => AC Try.prog w0 n_impl_Tree_each ([Value.agg (⟨[cellOf a1 0, cellOf a1 1, cellOf a1 2, cellOf a1 3, cellOf a1 4]⟩), a0, Value.func (Fn.func 148) ⟨[]⟩ (⟨[Value.pointer (Option.some (Addr.mk n2 0 Option.none))]⟩)]) s4 (fun v5 s6 => pLoad w0 1 (Value.pointer (Option.some (Addr.mk n2 0 Option.none))) s6 (fun g7 => R (g7 0) s6)))))))
theorem vc_impl_fresh_eq (w0 : World) (a0 a1 : Value) (σ : Vw) (R : Value → Vw → Prop) : vc_impl_fresh w0 a0 a1 σ R = den Try.prog w0 kp_impl_fresh esc_impl_fresh (Try.f121.body.getD .skip) (entry Try.f121.ntmps [a0, a1]) σ (retK Try.prog Try.f121.results.toList R) := by kernel_rfl
theorem ac_impl_fresh {w0 : World} {a0 a1 : Value} {σ : Vw} {R : Value → Vw → Prop} (h : vc_impl_fresh w0 a0 a1 σ R) : AC Try.prog w0 n_impl_fresh [a0, a1] σ R := by
  refine ac_rule (fn := Try.f121) (c := Try.f121.body.getD .skip) kp_impl_fresh esc_impl_fresh Try.func121 (by kernel_rfl) (by kernel_rfl) ?_
  rw [← vc_impl_fresh_eq]
  exact h

/-- impl.gone -/
def kp_impl_gone : Nat → Keep
  | _ => ⟨[], [], [], .done, []⟩
def esc_impl_gone : Nat → Bool
  | 3 => true
  | _ => false
def vc_impl_gone (w0 : World) (a0 : Value) (σ : Vw) (R : Value → Vw → Prop) : Prop :=
  pNew w0 9 [] σ (fun n0 s1 => pAppendS w0 9 1 16 (Value.slice (Option.some (Addr.mk n0 0 Option.none)) 0 0) a0 s1 (fun v2 s3 => pVal false 1 v2 (pVal false 1 (Value.int IntKind.i64 1) (pVal true 5 (Value.agg (⟨[v2, Value.int IntKind.i64 1, Value.bool false, Value.int IntKind.i64 0, Value.string ({ data := #[] })]⟩)) (R (Value.agg (⟨[v2, Value.int IntKind.i64 1, Value.bool false, Value.int IntKind.i64 0, Value.string ({ data := #[] })]⟩)) s3)))))
theorem vc_impl_gone_eq (w0 : World) (a0 : Value) (σ : Vw) (R : Value → Vw → Prop) : vc_impl_gone w0 a0 σ R = den Try.prog w0 kp_impl_gone esc_impl_gone (Try.f122.body.getD .skip) (entry Try.f122.ntmps [a0]) σ (retK Try.prog Try.f122.results.toList R) := by kernel_rfl
theorem ac_impl_gone {w0 : World} {a0 : Value} {σ : Vw} {R : Value → Vw → Prop} (h : vc_impl_gone w0 a0 σ R) : AC Try.prog w0 n_impl_gone [a0] σ R := by
  refine ac_rule (fn := Try.f122) (c := Try.f122.body.getD .skip) kp_impl_gone esc_impl_gone Try.func122 (by kernel_rfl) (by kernel_rfl) ?_
  rw [← vc_impl_gone_eq]
  exact h

/-- impl.changes -/
def kp_impl_changes : Nat → Keep
  | 3 => ⟨[], [], [], .step 0 (.step 2 (.step 4 (.step 5 (.step 1 (.step 3 (.step 6 (.step 7 (.step 8 (.step 9 (.done)))))))))), [(3, [1, 2]), (5, [4]), (6, [1, 2, 3, 4, 5]), (7, [1, 2, 3, 4, 5, 6]), (8, [0, 1, 2, 3, 4, 5, 6, 7]), (9, [0, 1, 2, 3, 4, 5, 6, 7, 8])]⟩
  | 5 => ⟨[], [], [], .step 0 (.step 2 (.step 4 (.step 5 (.step 1 (.step 3 (.step 6 (.step 7 (.step 8 (.step 9 (.done)))))))))), [(3, [1, 2]), (5, [4]), (6, [1, 2, 3, 4, 5]), (7, [1, 2, 3, 4, 5, 6]), (8, [0, 1, 2, 3, 4, 5, 6, 7]), (9, [0, 1, 2, 3, 4, 5, 6, 7, 8])]⟩
  | _ => ⟨[], [], [], .done, []⟩
def esc_impl_changes : Nat → Bool
  | 8 => true
  | 15 => true
  | 29 => true
  | _ => false
def vc_impl_changes (w0 : World) (a0 a1 a2 : Value) (σ : Vw) (R : Value → Vw → Prop) : Prop :=
  pVal true 5 a1 (pVal true 5 a2 (pNew w0 112 [] σ (fun n0 s1 => pBin Try.prog 3 BinOp.neq (cellOf a1 1) (cellOf a2 1) (fun v2 => pIf v2 (pNew w0 9 [] s1 (fun n3 s4 => pAppendS w0 9 1 16 (Value.slice (Option.some (Addr.mk n3 0 Option.none)) 0 0) a0 s4 (fun v5 s6 => pVal false 1 v5 (pVal false 1 (Value.int IntKind.i64 3) (pVal false 1 (cellOf a2 1) (pVal true 5 (Value.agg (⟨[v5, Value.int IntKind.i64 3, Value.bool false, cellOf a2 1, Value.string ({ data := #[] })]⟩)) ((allOne ([v5, Value.int IntKind.i64 3, Value.bool false, cellOf a2 1, Value.string ({ data := #[] })])) ∧ (pAppend w0 112 5 64 (Value.slice (Option.some (Addr.mk n0 0 Option.none)) 0 0) 1 ([v5, Value.int IntKind.i64 3, Value.bool false, cellOf a2 1, Value.string ({ data := #[] })]) s6 (fun v7 s8 => pBin Try.prog 9 BinOp.neq (cellOf a1 2) (cellOf a2 2) (fun v9 => pIf v9 (pNew w0 9 [] s8 (fun n10 s11 => pAppendS w0 9 1 16 (Value.slice (Option.some (Addr.mk n10 0 Option.none)) 0 0) a0 s11 (fun v12 s13 => pVal false 1 v12 (pVal false 1 (Value.int IntKind.i64 4) (pVal false 1 (cellOf a2 2) (pVal true 5 (Value.agg (⟨[v12, Value.int IntKind.i64 4, Value.bool false, Value.int IntKind.i64 0, cellOf a2 2]⟩)) ((allOne [v12, Value.int IntKind.i64 4, Value.bool false, Value.int IntKind.i64 0, cellOf a2 2]) ∧ (pAppend w0 112 5 64 v7 1 [v12, Value.int IntKind.i64 4, Value.bool false, Value.int IntKind.i64 0, cellOf a2 2] s13 (fun v14 s15 => R v14 s15))))))))) (R v7 s8))))))))))) (pBin Try.prog 9 BinOp.neq (cellOf a1 2) (cellOf a2 2) (fun v16 => pIf v16 (pNew w0 9 [] s1 (fun n17 s18 => pAppendS w0 9 1 16 (Value.slice (Option.some (Addr.mk n17 0 Option.none)) 0 0) a0 s18 (fun v19 s20 => pVal false 1 v19 (pVal false 1 (Value.int IntKind.i64 4) (pVal false 1 (cellOf a2 2) (pVal true 5 (Value.agg (⟨[v19, Value.int IntKind.i64 4, Value.bool false, Value.int IntKind.i64 0, cellOf a2 2]⟩)) ((allOne [v19, Value.int IntKind.i64 4, Value.bool false, Value.int IntKind.i64 0, cellOf a2 2]) ∧ (pAppend w0 112 5 64 (Value.slice (Option.some (Addr.mk n0 0 Option.none)) 0 0) 1 [v19, Value.int IntKind.i64 4, Value.bool false, Value.int IntKind.i64 0, cellOf a2 2] s20 (fun v21 s22 => R v21 s22))))))))) (R (Value.slice (Option.some (Addr.mk n0 0 Option.none)) 0 0) s1)))))))
theorem vc_impl_changes_eq (w0 : World) (a0 a1 a2 : Value) (σ : Vw) (R : Value → Vw → Prop) : vc_impl_changes w0 a0 a1 a2 σ R = den Try.prog w0 kp_impl_changes esc_impl_changes (Try.f123.body.getD .skip) (entry Try.f123.ntmps [a0, a1, a2]) σ (retK Try.prog Try.f123.results.toList R) := by kernel_rfl
theorem ac_impl_changes {w0 : World} {a0 a1 a2 : Value} {σ : Vw} {R : Value → Vw → Prop} (h : vc_impl_changes w0 a0 a1 a2 σ R) : AC Try.prog w0 n_impl_changes [a0, a1, a2] σ R := by
  refine ac_rule (fn := Try.f123) (c := Try.f123.body.getD .skip) kp_impl_changes esc_impl_changes Try.func123 (by kernel_rfl) (by kernel_rfl) ?_
  rw [← vc_impl_changes_eq]
  exact h

/-- impl.either -/
def kp_impl_either : Nat → Keep
  | 1 => ⟨[], [], [], .step 1 (.step 2 (.step 3 (.step 4 (.step 6 (.step 7 (.step 8 (.step 9 (.step 0 (.step 5 (.step 10 (.step 11 (.done)))))))))))), [(2, [1]), (3, [1, 2]), (4, [1, 2, 3]), (5, [0, 1, 2, 3, 4]), (7, [6]), (8, [6, 7]), (9, [6, 7, 8]), (10, [0, 1, 2, 3, 4, 5, 6, 7, 8, 9]), (11, [0, 1, 2, 3, 4, 5, 6, 7, 8, 9, 10])]⟩
  | _ => ⟨[], [], [], .done, []⟩
def esc_impl_either : Nat → Bool
  | 6 => true
  | _ => false
def vc_impl_either (w0 : World) (a0 a1 : Value) (σ : Vw) (R : Value → Vw → Prop) : Prop :=
  pNil a0 (pField 3 a0 (fun v0 => pLoad w0 1 v0 σ (fun g1 => pNil a1 (pField 3 a1 (fun v2 => pLoad w0 1 v2 σ (fun g3 => pNew w0 9 [] σ (fun n4 s5 => (Stay w0 σ s5 v2 1) ∧ ((Stay w0 σ s5 v0 1) ∧ (pAppendS w0 9 1 16 (Value.slice (Option.some (Addr.mk n4 0 Option.none)) 0 0) (g1 0) s5 (fun v6 s7 => (Stay w0 s5 s7 v2 1) ∧ (pAppendS w0 9 1 16 v6 (g3 0) s7 (fun v8 s9 => AC Try.prog w0 n_slices_Sort_string_string [v8] s9 (fun v10 s11 => AC Try.prog w0 n_slices_Compact_string_string [v8] s11 (fun v12 s13 => R v12 s13))))))))))))))
theorem vc_impl_either_eq (w0 : World) (a0 a1 : Value) (σ : Vw) (R : Value → Vw → Prop) : vc_impl_either w0 a0 a1 σ R = den Try.prog w0 kp_impl_either esc_impl_either (Try.f124.body.getD .skip) (entry Try.f124.ntmps [a0, a1]) σ (retK Try.prog Try.f124.results.toList R) := by kernel_rfl
theorem ac_impl_either {w0 : World} {a0 a1 : Value} {σ : Vw} {R : Value → Vw → Prop} (h : vc_impl_either w0 a0 a1 σ R) : AC Try.prog w0 n_impl_either [a0, a1] σ R := by
  refine ac_rule (fn := Try.f124) (c := Try.f124.body.getD .skip) kp_impl_either esc_impl_either Try.func124 (by kernel_rfl) (by kernel_rfl) ?_
  rw [← vc_impl_either_eq]
  exact h

/-- impl.below -/
def kp_impl_below : Nat → Keep
  | _ => ⟨[], [], [], .done, []⟩
def esc_impl_below : Nat → Bool
  | 5 => true
  | _ => false
def vc_impl_below (w0 : World) (a0 a1 : Value) (σ : Vw) (R : Value → Vw → Prop) : Prop :=
  pNew w0 9 [] σ (fun n0 s1 => pAppendS w0 9 1 16 (Value.slice (Option.some (Addr.mk n0 0 Option.none)) 0 0) a0 s1 (fun v2 s3 => pVal false 1 a1 ((allOne [a1]) ∧ (pAppend w0 9 1 16 v2 1 [a1] s3 (fun v4 s5 => R v4 s5)))))
theorem vc_impl_below_eq (w0 : World) (a0 a1 : Value) (σ : Vw) (R : Value → Vw → Prop) : vc_impl_below w0 a0 a1 σ R = den Try.prog w0 kp_impl_below esc_impl_below (Try.f125.body.getD .skip) (entry Try.f125.ntmps [a0, a1]) σ (retK Try.prog Try.f125.results.toList R) := by kernel_rfl
theorem ac_impl_below {w0 : World} {a0 a1 : Value} {σ : Vw} {R : Value → Vw → Prop} (h : vc_impl_below w0 a0 a1 σ R) : AC Try.prog w0 n_impl_below [a0, a1] σ R := by
  refine ac_rule (fn := Try.f125) (c := Try.f125.body.getD .skip) kp_impl_below esc_impl_below Try.func125 (by kernel_rfl) (by kernel_rfl) ?_
  rw [← vc_impl_below_eq]
  exact h

/-- impl.modeOk -/
def kp_impl_modeOk : Nat → Keep
  | _ => ⟨[], [], [], .done, []⟩
def esc_impl_modeOk : Nat → Bool
  | _ => false
def vc_impl_modeOk (w0 : World) (a0 : Value) (σ : Vw) (R : Value → Vw → Prop) : Prop :=
  AC Try.prog w0 n_impl_within [a0, Value.int IntKind.i64 0, Value.int IntKind.i64 7] σ (fun v0 s1 => R v0 s1)
theorem vc_impl_modeOk_eq (w0 : World) (a0 : Value) (σ : Vw) (R : Value → Vw → Prop) : vc_impl_modeOk w0 a0 σ R = den Try.prog w0 kp_impl_modeOk esc_impl_modeOk (Try.f130.body.getD .skip) (entry Try.f130.ntmps [a0]) σ (retK Try.prog Try.f130.results.toList R) := by kernel_rfl
theorem ac_impl_modeOk {w0 : World} {a0 : Value} {σ : Vw} {R : Value → Vw → Prop} (h : vc_impl_modeOk w0 a0 σ R) : AC Try.prog w0 n_impl_modeOk [a0] σ R := by
  refine ac_rule (fn := Try.f130) (c := Try.f130.body.getD .skip) kp_impl_modeOk esc_impl_modeOk Try.func130 (by kernel_rfl) (by kernel_rfl) ?_
  rw [← vc_impl_modeOk_eq]
  exact h

/-- impl.nameOk -/
def kp_impl_nameOk : Nat → Keep
  | 2 => ⟨[0, 2, 5, 6], [], [], .done, []⟩
  | _ => ⟨[], [], [], .done, []⟩
def esc_impl_nameOk : Nat → Bool
  | _ => false
def vc_impl_nameOk (w0 : World) (a0 : Value) (σ : Vw) (R : Value → Vw → Prop) : Prop :=
  pLenS a0 (fun v0 => pLoop (fun l1 K2 s3 => pBin Try.prog 3 BinOp.lss (vget l1 3) (vget l1 2) (fun v4 => pIf v4 (pIndexStr (vget l1 0) (vget l1 3) (fun v5 => pBin Try.prog 5 BinOp.lss v5 (Value.int IntKind.u8 97) (fun v6 => pIf v6 (pIndexStr (vget l1 0) (vget l1 3) (fun v7 => pBin Try.prog 5 BinOp.lss v7 (Value.int IntKind.u8 48) (fun v8 => pIf v8 (K2 AX.ret [vget l1 0, Value.bool false, vget l1 2, vget l1 3] s3) (pIndexStr (vget l1 0) (vget l1 3) (fun v9 => pBin Try.prog 5 BinOp.gtr v9 (Value.int IntKind.u8 57) (fun v10 => pIf v10 (K2 AX.ret [vget l1 0, Value.bool false, vget l1 2, vget l1 3] s3) (pBin Try.prog 3 BinOp.add (vget l1 3) (Value.int IntKind.i64 1) (fun v11 => K2 AX.normal [vget l1 0, vget l1 1, vget l1 2, v11] s3)))))))) (pIndexStr (vget l1 0) (vget l1 3) (fun v12 => pBin Try.prog 5 BinOp.gtr v12 (Value.int IntKind.u8 122) (fun v13 => pIf v13 (pIndexStr (vget l1 0) (vget l1 3) (fun v14 => pBin Try.prog 5 BinOp.lss v14 (Value.int IntKind.u8 48) (fun v15 => pIf v15 (K2 AX.ret [vget l1 0, Value.bool false, vget l1 2, vget l1 3] s3) (pIndexStr (vget l1 0) (vget l1 3) (fun v16 => pBin Try.prog 5 BinOp.gtr v16 (Value.int IntKind.u8 57) (fun v17 => pIf v17 (K2 AX.ret [vget l1 0, Value.bool false, vget l1 2, vget l1 3] s3) (pBin Try.prog 3 BinOp.add (vget l1 3) (Value.int IntKind.i64 1) (fun v18 => K2 AX.normal [vget l1 0, vget l1 1, vget l1 2, v18] s3)))))))) (pBin Try.prog 3 BinOp.add (vget l1 3) (Value.int IntKind.i64 1) (fun v19 => K2 AX.normal [vget l1 0, vget l1 1, vget l1 2, v19] s3)))))))) (K2 (AX.exit 0) [vget l1 0, vget l1 1, vget l1 2, vget l1 3] s3))) [a0, Value.bool false, v0, Value.int IntKind.i64 0] σ (fun x20 l21 s22 => match x20 with | .normal => pLenS (vget l21 0) (fun v23 => AC Try.prog w0 n_impl_within [v23, Value.int IntKind.i64 1, Value.int IntKind.i64 5] s22 (fun v24 s25 => R v24 s25)) | .ret => R (vget l21 1) s22 | .exit i26 => (match Nat.beq i26 0 with | true => pLenS (vget l21 0) (fun v27 => AC Try.prog w0 n_impl_within [v27, Value.int IntKind.i64 1, Value.int IntKind.i64 5] s22 (fun v28 s29 => R v28 s29)) | false => False)))
theorem vc_impl_nameOk_eq (w0 : World) (a0 : Value) (σ : Vw) (R : Value → Vw → Prop) : vc_impl_nameOk w0 a0 σ R = den Try.prog w0 kp_impl_nameOk esc_impl_nameOk (Try.f131.body.getD .skip) (entry Try.f131.ntmps [a0]) σ (retK Try.prog Try.f131.results.toList R) := by kernel_rfl
theorem ac_impl_nameOk {w0 : World} {a0 : Value} {σ : Vw} {R : Value → Vw → Prop} (h : vc_impl_nameOk w0 a0 σ R) : AC Try.prog w0 n_impl_nameOk [a0] σ R := by
  refine ac_rule (fn := Try.f131) (c := Try.f131.body.getD .skip) kp_impl_nameOk esc_impl_nameOk Try.func131 (by kernel_rfl) (by kernel_rfl) ?_
  rw [← vc_impl_nameOk_eq]
  exact h

/-- slices.Index[[]string,string] -/
def kp_slices_Index_string_string : Nat → Keep
  | 2 => ⟨[0, 1, 4, 7, 8], [], [], .done, []⟩
  | _ => ⟨[], [], [], .done, []⟩
def esc_slices_Index_string_string : Nat → Bool
  | _ => false
def vc_slices_Index_string_string (w0 : World) (a0 a1 : Value) (σ : Vw) (R : Value → Vw → Prop) : Prop :=
  pLen a0 (fun v0 => pLoop (fun l1 K2 s3 => pBin Try.prog 3 BinOp.lss (vget l1 4) (vget l1 3) (fun v4 => pIf v4 (pIndexAddr 1 (vget l1 0) (vget l1 4) (fun v5 => pLoad w0 1 v5 s3 (fun g6 => pBin Try.prog 9 BinOp.eql (vget l1 1) (g6 0) (fun v7 => pIf v7 (K2 AX.ret [vget l1 0, vget l1 1, vget l1 4, vget l1 3, vget l1 4] s3) (pBin Try.prog 3 BinOp.add (vget l1 4) (Value.int IntKind.i64 1) (fun v8 => K2 AX.normal [vget l1 0, vget l1 1, vget l1 2, vget l1 3, v8] s3)))))) (K2 (AX.exit 0) [vget l1 0, vget l1 1, vget l1 2, vget l1 3, vget l1 4] s3))) [a0, a1, Value.int IntKind.i64 0, v0, Value.int IntKind.i64 0] σ (fun x9 l10 s11 => match x9 with | .normal => R (Value.int IntKind.i64 (-1)) s11 | .ret => R (vget l10 2) s11 | .exit i12 => (match Nat.beq i12 0 with | true => R (Value.int IntKind.i64 (-1)) s11 | false => False)))
theorem vc_slices_Index_string_string_eq (w0 : World) (a0 a1 : Value) (σ : Vw) (R : Value → Vw → Prop) : vc_slices_Index_string_string w0 a0 a1 σ R = den Try.prog w0 kp_slices_Index_string_string esc_slices_Index_string_string (Try.f132.body.getD .skip) (entry Try.f132.ntmps [a0, a1]) σ (retK Try.prog Try.f132.results.toList R) := by kernel_rfl
theorem ac_slices_Index_string_string {w0 : World} {a0 a1 : Value} {σ : Vw} {R : Value → Vw → Prop} (h : vc_slices_Index_string_string w0 a0 a1 σ R) : AC Try.prog w0 n_slices_Index_string_string [a0, a1] σ R := by
  refine ac_rule (fn := Try.f132) (c := Try.f132.body.getD .skip) kp_slices_Index_string_string esc_slices_Index_string_string Try.func132 (by kernel_rfl) (by kernel_rfl) ?_
  rw [← vc_slices_Index_string_string_eq]
  exact h

/-- spec.l1NameOk -/
def kp_spec_l1NameOk : Nat → Keep
  | 2 => ⟨[0, 2, 3], [], [], .done, []⟩
  | _ => ⟨[], [], [], .done, []⟩
def esc_spec_l1NameOk : Nat → Bool
  | _ => false
def vc_spec_l1NameOk (w0 : World) (a0 : Value) (σ : Vw) (R : Value → Vw → Prop) : Prop :=
  pLoop (fun l0 K1 s2 => pLenS (vget l0 0) (fun v3 => pBin Try.prog 3 BinOp.lss (vget l0 2) v3 (fun v4 => pIf v4 (pIndexStr (vget l0 0) (vget l0 2) (fun v5 => pBin Try.prog 5 BinOp.geq v5 (Value.int IntKind.u8 97) (fun v6 => pIf v6 (pIndexStr (vget l0 0) (vget l0 2) (fun v7 => pBin Try.prog 5 BinOp.leq v7 (Value.int IntKind.u8 122) (fun v8 => pIf v8 (pUn UnOp.not (Value.bool true) (fun v9 => pIf v9 (K1 AX.ret [vget l0 0, Value.bool false, vget l0 2] s2) (pBin Try.prog 3 BinOp.add (vget l0 2) (Value.int IntKind.i64 1) (fun v10 => K1 AX.normal [vget l0 0, vget l0 1, v10] s2)))) (pIndexStr (vget l0 0) (vget l0 2) (fun v11 => pBin Try.prog 5 BinOp.geq v11 (Value.int IntKind.u8 48) (fun v12 => pIf v12 (pIndexStr (vget l0 0) (vget l0 2) (fun v13 => pBin Try.prog 5 BinOp.leq v13 (Value.int IntKind.u8 57) (fun v14 => pUn UnOp.not v14 (fun v15 => pIf v15 (K1 AX.ret [vget l0 0, Value.bool false, vget l0 2] s2) (pBin Try.prog 3 BinOp.add (vget l0 2) (Value.int IntKind.i64 1) (fun v16 => K1 AX.normal [vget l0 0, vget l0 1, v16] s2)))))) (pUn UnOp.not (Value.bool false) (fun v17 => pIf v17 (K1 AX.ret [vget l0 0, Value.bool false, vget l0 2] s2) (pBin Try.prog 3 BinOp.add (vget l0 2) (Value.int IntKind.i64 1) (fun v18 => K1 AX.normal [vget l0 0, vget l0 1, v18] s2)))))))))) (pIndexStr (vget l0 0) (vget l0 2) (fun v19 => pBin Try.prog 5 BinOp.geq v19 (Value.int IntKind.u8 48) (fun v20 => pIf v20 (pIndexStr (vget l0 0) (vget l0 2) (fun v21 => pBin Try.prog 5 BinOp.leq v21 (Value.int IntKind.u8 57) (fun v22 => pUn UnOp.not v22 (fun v23 => pIf v23 (K1 AX.ret [vget l0 0, Value.bool false, vget l0 2] s2) (pBin Try.prog 3 BinOp.add (vget l0 2) (Value.int IntKind.i64 1) (fun v24 => K1 AX.normal [vget l0 0, vget l0 1, v24] s2)))))) (pUn UnOp.not (Value.bool false) (fun v25 => pIf v25 (K1 AX.ret [vget l0 0, Value.bool false, vget l0 2] s2) (pBin Try.prog 3 BinOp.add (vget l0 2) (Value.int IntKind.i64 1) (fun v26 => K1 AX.normal [vget l0 0, vget l0 1, v26] s2)))))))))) (K1 (AX.exit 0) [vget l0 0, vget l0 1, vget l0 2] s2)))) [a0, Value.bool false, Value.int IntKind.i64 0] σ (fun x27 l28 s29 => match x27 with | .normal => pLenS (vget l28 0) (fun v30 => AC Try.prog w0 n_spec_l1In [v30, Value.int IntKind.i64 1, Value.int IntKind.i64 5] s29 (fun v31 s32 => R v31 s32)) | .ret => R (vget l28 1) s29 | .exit i33 => (match Nat.beq i33 0 with | true => pLenS (vget l28 0) (fun v34 => AC Try.prog w0 n_spec_l1In [v34, Value.int IntKind.i64 1, Value.int IntKind.i64 5] s29 (fun v35 s36 => R v35 s36)) | false => False))
theorem vc_spec_l1NameOk_eq (w0 : World) (a0 : Value) (σ : Vw) (R : Value → Vw → Prop) : vc_spec_l1NameOk w0 a0 σ R = den Try.prog w0 kp_spec_l1NameOk esc_spec_l1NameOk (Try.f133.body.getD .skip) (entry Try.f133.ntmps [a0]) σ (retK Try.prog Try.f133.results.toList R) := by kernel_rfl
theorem ac_spec_l1NameOk {w0 : World} {a0 : Value} {σ : Vw} {R : Value → Vw → Prop} (h : vc_spec_l1NameOk w0 a0 σ R) : AC Try.prog w0 n_spec_l1NameOk [a0] σ R := by
  refine ac_rule (fn := Try.f133) (c := Try.f133.body.getD .skip) kp_spec_l1NameOk esc_spec_l1NameOk Try.func133 (by kernel_rfl) (by kernel_rfl) ?_
  rw [← vc_spec_l1NameOk_eq]
  exact h

/-- impl.within -/
def kp_impl_within : Nat → Keep
  | _ => ⟨[], [], [], .done, []⟩
def esc_impl_within : Nat → Bool
  | _ => false
def vc_impl_within (w0 : World) (a0 a1 a2 : Value) (σ : Vw) (R : Value → Vw → Prop) : Prop :=
  pBin Try.prog 3 BinOp.geq a0 a1 (fun v0 => pIf v0 (pBin Try.prog 3 BinOp.leq a0 a2 (fun v1 => R v1 σ)) (R (Value.bool false) σ))
theorem vc_impl_within_eq (w0 : World) (a0 a1 a2 : Value) (σ : Vw) (R : Value → Vw → Prop) : vc_impl_within w0 a0 a1 a2 σ R = den Try.prog w0 kp_impl_within esc_impl_within (Try.f134.body.getD .skip) (entry Try.f134.ntmps [a0, a1, a2]) σ (retK Try.prog Try.f134.results.toList R) := by kernel_rfl
theorem ac_impl_within {w0 : World} {a0 a1 a2 : Value} {σ : Vw} {R : Value → Vw → Prop} (h : vc_impl_within w0 a0 a1 a2 σ R) : AC Try.prog w0 n_impl_within [a0, a1, a2] σ R := by
  refine ac_rule (fn := Try.f134) (c := Try.f134.body.getD .skip) kp_impl_within esc_impl_within Try.func134 (by kernel_rfl) (by kernel_rfl) ?_
  rw [← vc_impl_within_eq]
  exact h

/-- (impl.Tree).each -/
def kp_impl_Tree_each : Nat → Keep
  | 3 => ⟨[1, 2, 13, 14, 15], [(3, 5)], [3], .done, []⟩
  | 5 => ⟨[], [], [], .step 0 (.step 1 (.step 2 (.step 3 (.step 4 (.step 5 (.step 6 (.step 8 (.step 7 (.step 9 (.done)))))))))), [(1, [0]), (3, [0, 1, 2]), (4, [0, 1, 2, 3]), (7, [5, 6]), (9, [0, 1, 2, 3, 4, 5, 6, 7, 8])]⟩
  | _ => ⟨[], [], [], .done, []⟩
def esc_impl_Tree_each : Nat → Bool
  | _ => false
def vc_impl_Tree_each (w0 : World) (a0 a1 a2 : Value) (σ : Vw) (R : Value → Vw → Prop) : Prop :=
  pVal true 5 a0 (pCallV (fun n0 l1 s2 K3 => AC Try.prog w0 n0 l1 s2 K3) a2 ([a1, Value.agg (⟨[cellOf a0 0, cellOf a0 1, cellOf a0 2, cellOf a0 3, cellOf a0 4]⟩)]) σ (fun v4 s5 => pLen (cellOf a0 3) (fun v6 => pLoop (fun l7 K8 s9 => pBin Try.prog 3 BinOp.lss (vget l7 4) (vget l7 3) (fun v10 => pIf v10 (pIndexAddr 1 (vget l7 2) (vget l7 4) (fun v11 => pLoad w0 1 v11 s9 (fun g12 => pIndexAddr 5 (vget l7 9) (vget l7 4) (fun v13 => pLoad w0 5 v13 s9 (fun g14 => AC Try.prog w0 n_impl_below [vget l7 0, g12 0] s9 (fun v15 s16 => (Stay w0 s9 s16 v13 5) ∧ (AC Try.prog w0 n_impl_Tree_each ([Value.agg (⟨[g14 0, g14 1, g14 2, g14 3, g14 4]⟩), v15, vget l7 1]) s16 (fun v17 s18 => pBin Try.prog 3 BinOp.add (vget l7 4) (Value.int IntKind.i64 1) (fun v19 => K8 AX.normal [vget l7 0, vget l7 1, vget l7 2, vget l7 3, v19, vget l7 5, vget l7 6, vget l7 7, vget l7 8, vget l7 9] s18))))))))) (K8 (AX.exit 0) [vget l7 0, vget l7 1, vget l7 2, vget l7 3, vget l7 4, vget l7 5, vget l7 6, vget l7 7, vget l7 8, vget l7 9] s9))) [a1, a2, cellOf a0 3, v6, Value.int IntKind.i64 0, cellOf a0 0, cellOf a0 1, cellOf a0 2, cellOf a0 3, cellOf a0 4] s5 (fun x20 l21 s22 => match x20 with | .normal => R (Value.tuple ⟨[]⟩) s22 | .ret => R (Value.tuple ⟨[]⟩) s22 | .exit i23 => (match Nat.beq i23 0 with | true => R (Value.tuple ⟨[]⟩) s22 | false => False)))))
theorem vc_impl_Tree_each_eq (w0 : World) (a0 a1 a2 : Value) (σ : Vw) (R : Value → Vw → Prop) : vc_impl_Tree_each w0 a0 a1 a2 σ R = den Try.prog w0 kp_impl_Tree_each esc_impl_Tree_each (Try.f147.body.getD .skip) (entry Try.f147.ntmps [a0, a1, a2]) σ (retK Try.prog Try.f147.results.toList R) := by kernel_rfl
theorem ac_impl_Tree_each {w0 : World} {a0 a1 a2 : Value} {σ : Vw} {R : Value → Vw → Prop} (h : vc_impl_Tree_each w0 a0 a1 a2 σ R) : AC Try.prog w0 n_impl_Tree_each [a0, a1, a2] σ R := by
  refine ac_rule (fn := Try.f147) (c := Try.f147.body.getD .skip) kp_impl_Tree_each esc_impl_Tree_each Try.func147 (by kernel_rfl) (by kernel_rfl) ?_
  rw [← vc_impl_Tree_each_eq]
  exact h

/-- impl.fresh$1 -/
def kp_impl_fresh_c1 : Nat → Keep
  | 1 => ⟨[], [], [], .step 0 (.step 2 (.step 4 (.step 5 (.step 6 (.step 7 (.step 8 (.step 9 (.step 1 (.step 3 (.step 10 (.step 11 (.step 12 (.step 13 (.done)))))))))))))), [(3, [1, 2]), (5, [4]), (7, [6]), (9, [8]), (10, [1, 2, 3, 4, 5, 6, 7, 8, 9]), (11, [1, 2, 3, 4, 5, 6, 7, 8, 9, 10]), (12, [0, 1, 2, 3, 4, 5, 6, 7, 8, 9, 10, 11]), (13, [0, 1, 2, 3, 4, 5, 6, 7, 8, 9, 10, 11, 12])]⟩
  | _ => ⟨[], [], [], .done, []⟩
def esc_impl_fresh_c1 : Nat → Bool
  | 6 => true
  | _ => false
def vc_impl_fresh_c1 (w0 : World) (a0 a1 a2 : Value) (σ : Vw) (R : Value → Vw → Prop) : Prop :=
  pVal true 5 a1 (pLoad w0 1 a2 σ (fun g0 => pNew w0 9 [] σ (fun n1 s2 => (Stay w0 σ s2 a2 1) ∧ (pAppendS w0 9 1 16 (Value.slice (Option.some (Addr.mk n1 0 Option.none)) 0 0) a0 s2 (fun v3 s4 => (Stay w0 s2 s4 a2 1) ∧ (pVal false 1 v3 (pVal false 1 (Value.int IntKind.i64 2) (pVal false 1 (cellOf a1 0) (pVal false 1 (cellOf a1 1) (pVal false 1 (cellOf a1 2) (pVal true 5 (Value.agg (⟨[v3, Value.int IntKind.i64 2, cellOf a1 0, cellOf a1 1, cellOf a1 2]⟩)) ((allOne [v3, Value.int IntKind.i64 2, cellOf a1 0, cellOf a1 1, cellOf a1 2]) ∧ (pAppend w0 112 5 64 (g0 0) 1 [v3, Value.int IntKind.i64 2, cellOf a1 0, cellOf a1 1, cellOf a1 2] s4 (fun v5 s6 => pVal false 1 v5 (pStore a2 [v5] s6 (fun s7 => R (Value.tuple ⟨[]⟩) s7))))))))))))))))
theorem vc_impl_fresh_c1_eq (w0 : World) (a0 a1 a2 : Value) (σ : Vw) (R : Value → Vw → Prop) : vc_impl_fresh_c1 w0 a0 a1 a2 σ R = den Try.prog w0 kp_impl_fresh_c1 esc_impl_fresh_c1 (Try.f148.body.getD .skip) (entry Try.f148.ntmps [a0, a1, a2]) σ (retK Try.prog Try.f148.results.toList R) := by kernel_rfl
theorem ac_impl_fresh_c1 {w0 : World} {a0 a1 a2 : Value} {σ : Vw} {R : Value → Vw → Prop} (h : vc_impl_fresh_c1 w0 a0 a1 a2 σ R) : AC Try.prog w0 n_impl_fresh_c1 [a0, a1, a2] σ R := by
  refine ac_rule (fn := Try.f148) (c := Try.f148.body.getD .skip) kp_impl_fresh_c1 esc_impl_fresh_c1 Try.func148 (by kernel_rfl) (by kernel_rfl) ?_
  rw [← vc_impl_fresh_c1_eq]
  exact h

end Go.Proofs.Ytlbpnfhhoalenaa

/- What each function owes, reckoned out, part 4. MADE BY PROGRAM (emit.py). -/
set_option linter.unusedVariables false
namespace Go.Proofs.Ytlbpnfhhoalenaa
open Go Go.Av

end Go.Proofs.Ytlbpnfhhoalenaa

/- What each function owes, reckoned out, part 5. MADE BY PROGRAM (emit.py). -/
set_option linter.unusedVariables false
namespace Go.Proofs.Ytlbpnfhhoalenaa
open Go Go.Av

end Go.Proofs.Ytlbpnfhhoalenaa

/- What each function owes: all parts. MADE BY PROGRAM (emit.py). -/


/- The lists of texts: their size, their copy, their comparison. -/
set_option linter.unusedVariables false
set_option linter.unusedSimpArgs false
namespace Go.Proofs.Ytlbpnfhhoalenaa
open Go Go.Av

section
variable {w0 : World} {σ : Vw}

def sumS : List ByteArray → Nat
  | [] => 0
  | s :: r => s.size + sumS r
theorem sumS_take {xs : List ByteArray} : ∀ {j : Nat} {x : ByteArray}, xs[j]? = some x → sumS (xs.take (j + 1)) = sumS (xs.take j) + x.size := by
  induction xs with
  | nil => intro j x h; simp at h
  | cons a r ih =>
    intro j x h
    cases j with
    | zero => simp at h; subst h; simp [sumS]
    | succ j =>
      simp at h
      have := ih h
      simp only [List.take_succ_cons, sumS, this]
      omega
theorem sumS_le {xs : List ByteArray} : ∀ (j : Nat), sumS (xs.take j) ≤ sumS xs := by
  induction xs with
  | nil => intro j; simp [sumS]
  | cons a r ih =>
    intro j
    cases j with
    | zero => simp [sumS]
    | succ j => have := ih j; simp only [List.take_succ_cons, sumS]; omega

/-- What is left of n. -/
def left (n : Int) (t : Nat) : Int := if n - t < 0 then -1 else n - t

theorem szStringS {v : Value} {xs : List ByteArray} {n : Int} (h : RSl 1 RS (Av.get w0 σ) v xs) (hn : 0 ≤ n ∧ n ≤ 9223372036854775807) {R : Value → Vw → Prop} (hR : R (.int .i64 (left n (xs.length + sumS xs))) σ) : AC Try.prog w0 n_laws_szStringS [v, .int .i64 n] σ R := by
  refine ac_laws_szStringS ?_
  unfold vc_laws_szStringS
  have hl : xs.length ≤ 9223372036854775807 := by obtain ⟨_, _, _, h2, _⟩ := h; exact Nat.le_trans h2.1 h2.2
  rw [h.len, pBin_sub (by omega), pBin_lt, pIf_d]
  refine ⟨fun hlt => ?_, fun hge => ?_⟩
  · have : left n (xs.length + sumS xs) = -1 := by unfold left; rw [if_pos (by omega)]
    rw [this] at hR; exact hR
  · refine loop_rule (m := xs.length) (fun m l s => ∃ j, s = σ ∧ m + j = xs.length ∧ 0 ≤ n - xs.length - sumS (xs.take j) ∧ l = [v, .int .i64 (n - xs.length - sumS (xs.take j)), .int .i64 0, .int .i64 (j : Nat)]) ?_ ⟨0, rfl, by omega, by simp [sumS]; omega, by simp [sumS]⟩
    rintro m l s L ⟨j, rfl, hm, h0, rfl⟩ hL
    simp only [vget, List.getD_cons_zero, List.getD_cons_succ]
    rw [h.len, pBin_lt, pIf_d]
    refine ⟨fun hj => ?_, fun hj => ?_⟩
    · have hj' : j < xs.length := by omega
      have hx := List.getElem?_eq_getElem hj'
      refine h.at hx fun g hg => ?_
      obtain ⟨hg, hs⟩ := hg
      simp only [expl, List.cons.injEq, and_true] at hg
      have ht := sumS_take hx
      have hle := sumS_le (xs := xs) (j + 1)
      rw [hg, pLenS_s, pBin_sub (by omega), pBin_lt, pIf_d]
      refine ⟨fun hlt => ?_, fun hge => ?_⟩
      · have : left n (xs.length + sumS xs) = -1 := by unfold left; rw [if_pos (by omega)]
        rw [this] at hR; exact hR
      · rw [pBin_add (by omega)]
        refine hL _ _ (m - 1) (by omega) ⟨j + 1, rfl, by omega, by omega, ?_⟩
        rw [ht]
        congr 2
        · congr 1; omega
    · have hj' : j = xs.length := by omega
      subst hj'
      rw [List.take_length] at h0 ⊢
      have : left n (xs.length + sumS xs) = n - xs.length - sumS xs := by unfold left; rw [if_neg (by omega)]; omega
      rw [this] at hR
      exact hR
end
end Go.Proofs.Ytlbpnfhhoalenaa

/- The lists of texts: their copy, their comparison. -/
set_option linter.unusedVariables false
set_option linter.unusedSimpArgs false
namespace Go.Proofs.Ytlbpnfhhoalenaa
open Go Go.Av

section
variable {w0 : World} {σ : Vw}


theorem toStringS {v : Value} {xs : List ByteArray} (h : RSl 1 RS (Av.get w0 σ) v xs) (hb : xs.length ≤ 1000000000000) {R : Value → Vw → Prop}
    (hR : ∀ b ety, w0.heap.size ≤ b → σ b = none → R (.slice (some ⟨b, 0, none⟩) xs.length xs.length) (σ.put b ⟨ety, xs.map .string, xs.length, (0, 0)⟩)) : AC Try.prog w0 n_laws_toStringS [v] σ R := by
  refine ac_laws_toStringS ?_
  unfold vc_laws_toStringS
  rw [h.len]
  refine pMake_s (by omega) (by omega) fun b ety h1 h2 => ?_
  refine loop_rule (m := xs.length) (fun m l s => ∃ j, m + j = xs.length ∧ s = σ.put b ⟨ety, (xs.take j).map .string ++ List.replicate m (.string ⟨#[]⟩), xs.length * 1, (0, 0)⟩ ∧ l = [v, .slice (some ⟨b, 0, none⟩) xs.length xs.length, .int .i64 (j : Nat)]) ?_ ⟨0, by omega, by simp, rfl⟩
  rintro m l s L ⟨j, hm, rfl, rfl⟩ hL
  simp only [vget, List.getD_cons_zero, List.getD_cons_succ]
  rw [h.len, pBin_lt, pIf_d]
  refine ⟨fun hj => ?_, fun hj => ?_⟩
  · have hj' : j < xs.length := by omega
    have hx := List.getElem?_eq_getElem hj'
    refine RSl.at (h.mono (Keeps.put h2).le fun _ _ h => h) hx fun g hg => ?_
    obtain ⟨hg, hs⟩ := hg
    simp only [expl, List.cons.injEq, and_true] at hg
    obtain ⟨m', rfl⟩ : ∃ m', m = m' + 1 := ⟨m - 1, by omega⟩
    rw [hg]
    have e1 : ∀ A : Prop, pVal false 1 (.string xs[j]) A = A := fun A => propext (pVal1 rfl)
    simp only [e1]
    refine own_store (r := ⟨ety, (xs.take j).map .string ++ List.replicate (m' + 1) (.string ⟨#[]⟩), xs.length * 1, (0, 0)⟩) (A := (xs.take j).map .string) (old := [.string ⟨#[]⟩]) (new := [.string xs[j]]) (C := List.replicate m' (.string ⟨#[]⟩)) put_at (by simp [List.replicate_succ]) (by simp; omega) rfl rfl hj' ?_
    rw [pBin_add (by omega)]
    refine hL _ _ m' rfl ⟨j + 1, by omega, ?_, rfl⟩
    rw [put_put, List.take_add_one, hx]
    simp only [Option.toList_some, List.map_append, List.map_cons, List.map_nil, List.append_assoc]
  · have hj' : j = xs.length := by omega
    subst hj'
    have : m = 0 := by omega
    subst this
    have := hR b ety h1 h2
    simpa using this

theorem eqStringS {v v' : Value} {xs ys : List ByteArray} (h : RSl 1 RS (Av.get w0 σ) v xs) (h' : RSl 1 RS (Av.get w0 σ) v' ys) {R : Value → Vw → Prop} (hR : R (.bool (decide (xs = ys))) σ) : AC Try.prog w0 n_laws_eqStringS [v, v'] σ R := by
  refine ac_laws_eqStringS ?_
  unfold vc_laws_eqStringS
  have hl : xs.length ≤ 9223372036854775807 := by obtain ⟨_, _, _, h2, _⟩ := h; exact Nat.le_trans h2.1 h2.2
  rw [h.len, h'.len, pBin_ne, pIf_d]
  refine ⟨fun hne => ?_, fun heq => ?_⟩
  · have : xs ≠ ys := fun e => hne (by rw [e])
    simpa [this] using hR
  · have hlen : xs.length = ys.length := by omega
    refine loop_rule (m := xs.length) (fun m l s => ∃ j, s = σ ∧ m + j = xs.length ∧ xs.take j = ys.take j ∧ l = [v, v', .bool false, .int .i64 (j : Nat)]) ?_ ⟨0, rfl, by omega, by simp, rfl⟩
    rintro m l s L ⟨j, rfl, hm, ht, rfl⟩ hL
    simp only [vget, List.getD_cons_zero, List.getD_cons_succ]
    rw [h.len, pBin_lt, pIf_d]
    refine ⟨fun hj => ?_, fun hj => ?_⟩
    · have hj' : j < xs.length := by omega
      have hx := List.getElem?_eq_getElem hj'
      have hy := List.getElem?_eq_getElem (show j < ys.length by omega)
      refine h.at hx fun g hg => ?_
      obtain ⟨hg, hs⟩ := hg
      simp only [expl, List.cons.injEq, and_true] at hg
      refine h'.at hy fun g' hg' => ?_
      obtain ⟨hg', hs'⟩ := hg'
      simp only [expl, List.cons.injEq, and_true] at hg'
      rw [hg, hg', pBin_sne, pIf_d]
      refine ⟨fun hne => ?_, fun heq => ?_⟩
      · have : xs ≠ ys := fun e => by subst e; exact hne rfl
        simpa [this] using hR
      · rw [pBin_add (by omega)]
        have heq' : xs[j] = ys[j] := Decidable.not_not.1 heq
        refine hL _ _ (m - 1) (by omega) ⟨j + 1, rfl, by omega, ?_, rfl⟩
        rw [List.take_add_one, List.take_add_one, hx, hy, ht, heq']
    · have hj' : j = xs.length := by omega
      subst hj'
      rw [List.take_length, hlen, List.take_length] at ht
      subst ht
      simpa using hR
end
end Go.Proofs.Ytlbpnfhhoalenaa

/- The lists of texts in rows of their own; marks (a path and a bool) and their lists: size, copy, comparison. -/
set_option linter.unusedVariables false
set_option linter.unusedSimpArgs false
namespace Go.Proofs.Ytlbpnfhhoalenaa
open Go Go.Av

/-- A text needs no row. -/
def OStr (σ : Vw) (F : List Nat) (es : List Value) (s : ByteArray) : Prop := F = [] ∧ es = [.string s] ∧ s.size ≤ 9223372036854775807

section
variable {w0 : World} {σ : Vw}

theorem ok_str (w0 : World) : OOk w0 1 RS OStr := by
  refine ⟨?_, ?_, ?_, ?_, ?_, ?_⟩
  · rintro σ F es x ⟨_, h1, h2⟩; exact ⟨h1, h2⟩
  · rintro σ σ' F es x h _; exact h
  · rintro σ F es x ⟨rfl, _, _⟩ b hb; cases hb
  · rintro σ F es x ⟨rfl, _, _⟩; exact List.nodup_nil
  · rintro σ F es x ⟨_, rfl, _⟩; rfl
  · rintro σ F es x ⟨_, rfl, _⟩ c hc; rw [List.mem_singleton.1 hc]; rfl

abbrev OStrs (w0 : World) := OSl w0 1 OStr
theorem mono_rs {rd rd' : Addr → Option Value} {es : List Value} {x : ByteArray} (_ : Le rd rd') (h : RS rd es x) : RS rd' es x := h

theorem strs_le {rd : Addr → Option Value} {v : Value} {xs : List ByteArray} (h : RSl 1 RS rd v xs) : ∀ x, x ∈ xs → x.size ≤ 9223372036854775807 := by
  obtain ⟨A, cap, _, _, h3⟩ := h
  intro x hx
  obtain ⟨j, hj⟩ := List.getElem?_of_mem hx
  obtain ⟨a, es, _, _, _, h4⟩ := h3 j x hj
  exact h4.2

theorem flat_strs (xs : List ByteArray) : xs.map Value.string = (xs.map fun s => [Value.string s]).flatten := by
  induction xs with
  | nil => rfl
  | cons a r ih => simp [ih]

theorem own_strs {b cap : Nat} {r : Row} {xs : List ByteArray} (hb : w0.heap.size ≤ b) (hr : σ b = some r) (hc : r.cells = xs.map .string) (hm : xs.length ≤ cap ∧ cap ≤ 9223372036854775807) (hs : ∀ x, x ∈ xs → x.size ≤ 9223372036854775807) : OStrs w0 σ [b] (.slice (some ⟨b, 0, none⟩) xs.length cap) xs := by
  have hnil : (List.replicate xs.length ([] : List Nat)).flatten = [] := by simp
  refine ⟨Nat.le_trans hm.1 hm.2, by simp, .inr ⟨b, 0, cap, r, [], [], xs.map fun s => [.string s], List.replicate xs.length [], rfl, hm, hb, hr, by rw [hc, flat_strs]; simp, rfl, by simp, by simp, by rw [hnil], fun j c x f e1 e2 e3 => ?_⟩⟩
  rw [List.getElem?_map, e2] at e1
  cases e1
  refine ⟨?_, rfl, hs x (List.mem_of_getElem? e2)⟩
  rw [List.getElem?_replicate] at e3
  split at e3
  · cases e3; rfl
  · cases e3

theorem toStringS' {v : Value} {xs : List ByteArray} (h : RSl 1 RS (Av.get w0 σ) v xs) (hb : xs.length ≤ 1000000000000) {R : Value → Vw → Prop}
    (hR : ∀ v' F σ', Keeps σ σ' → OStrs w0 σ' F v' xs → (∀ b, b ∈ F → σ b = none) → R v' σ') : AC Try.prog w0 n_laws_toStringS [v] σ R :=
  toStringS h hb fun b ety h1 h2 => hR _ [b] _ (Keeps.put h2) (own_strs h1 put_at rfl ⟨Nat.le_refl _, h.le⟩ (strs_le h)) fun i hi => by rw [List.mem_singleton.1 hi]; exact h2

theorem OSl.one' {α : Type} {n : Nat} {O : Vw → List Nat → List Value → α → Prop} {F : List Nat} {v : Value} {xs : List α} (h : OSl w0 n O σ F v xs) : v.oneCell' = true := by
  obtain ⟨_, _, ⟨rfl, _⟩ | ⟨_, _, _, _, _, _, _, _, rfl, _⟩⟩ := h <;> rfl

end
end Go.Proofs.Ytlbpnfhhoalenaa

/- Names: their letters and their length. -/
set_option linter.unusedVariables false
set_option linter.unusedSimpArgs false
namespace Go.Proofs.Ytlbpnfhhoalenaa
open Go Go.Av

theorem pIndexStr_s {s : ByteArray} {j : Nat} {K : Value → Prop} (h : j < s.size) (hK : K (.int .u8 ((s[j]'h).toNat : Int))) : pIndexStr (.string s) (.int .i64 j) K :=
  ⟨s, .i64, j, rfl, rfl, by omega, h, hK⟩

def okB (n : Nat) : Prop := (97 ≤ n ∧ n ≤ 122) ∨ (48 ≤ n ∧ n ≤ 57)
/-- Within two bounds. -/
def inB (n lo hi : Int) : Bool := decide (lo ≤ n ∧ n ≤ hi)
def lettersOk (s : ByteArray) : Prop := ∀ (i : Nat) (h : i < s.size), okB (s[i]'h).toNat
open Classical in
noncomputable def nameOk (s : ByteArray) : Bool := decide (lettersOk s) && inB s.size 1 5

section
variable {w0 : World} {σ : Vw}

theorem spec_In {n lo hi : Int} {R : Value → Vw → Prop} (hR : R (.bool (inB n lo hi)) σ) : AC Try.prog w0 n_spec_l1In [.int .i64 n, .int .i64 lo, .int .i64 hi] σ R := by
  refine ac_spec_l1In ?_
  unfold vc_spec_l1In
  rw [pBin_ge, pIf_d]
  refine ⟨fun h => ?_, fun h => ?_⟩
  · rw [pBin_le]
    have : inB n lo hi = decide (n ≤ hi) := by simp [inB, h]
    rw [this] at hR; exact hR
  · have : inB n lo hi = false := by simp [inB, h]
    rw [this] at hR; exact hR
theorem impl_within {n lo hi : Int} {R : Value → Vw → Prop} (hR : R (.bool (inB n lo hi)) σ) : AC Try.prog w0 n_impl_within [.int .i64 n, .int .i64 lo, .int .i64 hi] σ R := by
  refine ac_impl_within ?_
  unfold vc_impl_within
  rw [pBin_ge, pIf_d]
  refine ⟨fun h => ?_, fun h => ?_⟩
  · rw [pBin_le]
    have : inB n lo hi = decide (n ≤ hi) := by simp [inB, h]
    rw [this] at hR; exact hR
  · have : inB n lo hi = false := by simp [inB, h]
    rw [this] at hR; exact hR

theorem nameOk_bad {s : ByteArray} {j : Nat} (h : j < s.size) (hb : ¬ okB (s[j]'h).toNat) : nameOk s = false := by
  have : ¬ lettersOk s := fun h' => hb (h' j h)
  simp [nameOk, this]
theorem nameOk_good {s : ByteArray} (h : lettersOk s) : nameOk s = inB s.size 1 5 := by simp [nameOk, h]

theorem spec_nameOk {s : ByteArray} (hs : s.size ≤ 9223372036854775807) {R : Value → Vw → Prop} (hR : R (.bool (nameOk s)) σ) : AC Try.prog w0 n_spec_l1NameOk [.string s] σ R := by
  refine ac_spec_l1NameOk ?_
  unfold vc_spec_l1NameOk
  refine loop_rule (m := s.size) (fun m l t => ∃ j, t = σ ∧ m + j = s.size ∧ (∀ (i : Nat) (h : i < s.size), i < j → okB (s[i]'h).toNat) ∧ l = [.string s, .bool false, .int .i64 (j : Nat)]) ?_ ⟨0, rfl, by omega, fun i h h' => by omega, rfl⟩
  rintro m l t L ⟨j, rfl, hm, ht, rfl⟩ hL
  simp only [vget, List.getD_cons_zero, List.getD_cons_succ]
  rw [pLenS_s, pBin_lt, pIf_d]
  refine ⟨fun hj => ?_, fun hj => ?_⟩
  · have hj' : j < s.size := by omega
    have bad : ¬ okB (s[j]'hj').toNat → R (.bool false) t := fun h => by rw [nameOk_bad hj' h] at hR; exact hR
    have good : okB (s[j]'hj').toNat → L [.string s, .bool false, .int .i64 ((j + 1 : Nat) : Int)] t := fun h => hL _ _ (m - 1) (by omega) ⟨j + 1, rfl, by omega, fun i hi hij => by
      by_cases e : i = j
      · subst e; exact h
      · exact ht i hi (by omega), rfl⟩
    have add : ∀ K : Value → Prop, pBin Try.prog 3 .add (.int .i64 j) (.int .i64 1) K ↔ K (.int .i64 ((j + 1 : Nat) : Int)) := fun K => pBin_add (by omega)
    have idx : ∀ K : Value → Prop, K (.int .u8 ((s[j]'hj').toNat : Int)) → pIndexStr (.string s) (.int .i64 j) K := fun K hK => pIndexStr_s hj' hK
    simp only [add, pUn_not, pIf_b, Bool.not_true, Bool.not_false, forall_const, Bool.false_eq_true, false_imp_iff, true_imp_iff, true_and, and_true, reduceCtorEq]
    refine idx _ ?_
    rw [pBin_ge, pIf_d]
    refine ⟨fun h1 => idx _ ?_, fun h1 => idx _ ?_⟩
    · rw [pBin_le, pIf_d]
      refine ⟨fun h2 => good (.inl ⟨by omega, by omega⟩), fun h2 => idx _ ?_⟩
      rw [pBin_ge, pIf_d]
      refine ⟨fun h3 => idx _ ?_, fun h3 => bad fun h => by unfold okB at h; omega⟩
      rw [pBin_le, pUn_not, pIf_b]
      refine ⟨fun h4 => bad fun h => ?_, fun h4 => good ?_⟩
      · unfold okB at h; simp at h4; omega
      · simp at h4; exact .inr ⟨by omega, by omega⟩
    · rw [pBin_ge, pIf_d]
      refine ⟨fun h3 => idx _ ?_, fun h3 => bad fun h => by unfold okB at h; omega⟩
      rw [pBin_le, pUn_not, pIf_b]
      refine ⟨fun h4 => bad fun h => ?_, fun h4 => good ?_⟩
      · unfold okB at h; simp at h4; omega
      · simp at h4; exact .inr ⟨by omega, by omega⟩
  · have hj' : j = s.size := by omega
    subst hj'
    show pLenS (.string s) _
    rw [pLenS_s]
    refine spec_In ?_
    rw [nameOk_good fun i h => ht i h h] at hR
    exact hR

theorem impl_nameOk {s : ByteArray} (hs : s.size ≤ 9223372036854775807) {R : Value → Vw → Prop} (hR : R (.bool (nameOk s)) σ) : AC Try.prog w0 n_impl_nameOk [.string s] σ R := by
  refine ac_impl_nameOk ?_
  unfold vc_impl_nameOk
  rw [pLenS_s]
  refine loop_rule (m := s.size) (fun m l t => ∃ j, t = σ ∧ m + j = s.size ∧ (∀ (i : Nat) (h : i < s.size), i < j → okB (s[i]'h).toNat) ∧ l = [.string s, .bool false, .int .i64 s.size, .int .i64 (j : Nat)]) ?_ ⟨0, rfl, by omega, fun i h h' => by omega, rfl⟩
  rintro m l t L ⟨j, rfl, hm, ht, rfl⟩ hL
  simp only [vget, List.getD_cons_zero, List.getD_cons_succ]
  rw [pBin_lt, pIf_d]
  refine ⟨fun hj => ?_, fun hj => ?_⟩
  · have hj' : j < s.size := by omega
    have bad : ¬ okB (s[j]'hj').toNat → R (.bool false) t := fun h => by rw [nameOk_bad hj' h] at hR; exact hR
    have good : okB (s[j]'hj').toNat → L [.string s, .bool false, .int .i64 s.size, .int .i64 ((j + 1 : Nat) : Int)] t := fun h => hL _ _ (m - 1) (by omega) ⟨j + 1, rfl, by omega, fun i hi hij => by
      by_cases e : i = j
      · subst e; exact h
      · exact ht i hi (by omega), rfl⟩
    have add : ∀ K : Value → Prop, pBin Try.prog 3 .add (.int .i64 j) (.int .i64 1) K ↔ K (.int .i64 ((j + 1 : Nat) : Int)) := fun K => pBin_add (by omega)
    have idx : ∀ K : Value → Prop, K (.int .u8 ((s[j]'hj').toNat : Int)) → pIndexStr (.string s) (.int .i64 j) K := fun K hK => pIndexStr_s hj' hK
    simp only [add]
    refine idx _ ?_
    rw [pBin_lt, pIf_d]
    refine ⟨fun h1 => idx _ ?_, fun h1 => idx _ ?_⟩
    · rw [pBin_lt, pIf_d]
      refine ⟨fun h2 => bad fun h => by unfold okB at h; omega, fun h2 => idx _ ?_⟩
      rw [pBin_gt, pIf_d]
      exact ⟨fun h3 => bad fun h => by unfold okB at h; omega, fun h3 => good (.inr ⟨by omega, by omega⟩)⟩
    · rw [pBin_gt, pIf_d]
      refine ⟨fun h2 => idx _ ?_, fun h2 => good (.inl ⟨by omega, by omega⟩)⟩
      rw [pBin_lt, pIf_d]
      refine ⟨fun h2 => bad fun h => by unfold okB at h; omega, fun h2 => idx _ ?_⟩
      rw [pBin_gt, pIf_d]
      exact ⟨fun h3 => bad fun h => by unfold okB at h; omega, fun h3 => good (.inr ⟨by omega, by omega⟩)⟩
  · have hj' : j = s.size := by omega
    subst hj'
    show pLenS (.string s) _
    rw [pLenS_s]
    refine impl_within ?_
    rw [nameOk_good fun i h => ht i h h] at hR
    exact hR
end
end Go.Proofs.Ytlbpnfhhoalenaa

/- Paths: their names, their order, what lies within what. -/
set_option linter.unusedVariables false
set_option linter.unusedSimpArgs false
namespace Go.Proofs.Ytlbpnfhhoalenaa
open Go Go.Av

def strLt (a b : ByteArray) : Bool := Op.bytesLess a.toList b.toList
theorem bl_irrefl : ∀ (a : List UInt8), Op.bytesLess a a = false
  | [] => rfl
  | x :: r => by simp [Op.bytesLess, bl_irrefl r]
theorem bl_total : ∀ (a b : List UInt8), Op.bytesLess a b = false → Op.bytesLess b a = false → a = b
  | [], [], _, _ => rfl
  | [], _ :: _, h, _ => by simp [Op.bytesLess] at h
  | _ :: _, [], _, h => by simp [Op.bytesLess] at h
  | x :: r, y :: q, h, h' => by
    simp only [Op.bytesLess] at h h'
    by_cases e : x = y
    · subst e
      simp at h h'
      rw [bl_total r q h h']
    · exfalso
      rcases UInt8.lt_or_lt_of_ne e with h1 | h1
      · simp [h1] at h
      · simp [h1] at h'
theorem strLt_irrefl (a : ByteArray) : strLt a a = false := bl_irrefl _
theorem strLt_total {a b : ByteArray} (h : strLt a b = false) (h' : strLt b a = false) : a = b := bytes_inj (bl_total _ _ h h')

/-- The path b lies at or under a. -/
def within (b a : List ByteArray) : Bool := decide (a.length ≤ b.length ∧ b.take a.length = a)


section
variable {w0 : World} {σ : Vw}

theorem pBin_slt {P : Program} {T : Nat} {a b : ByteArray} {K : Value → Prop} : pBin P T .lss (.string a) (.string b) K ↔ K (.bool (strLt a b)) := pBin_s rfl
theorem RSl.at1 {v : Value} {xs : List ByteArray} (h : RSl 1 RS (Av.get w0 σ) v xs) {j : Nat} {x : ByteArray} (hj : xs[j]? = some x) {K : (Nat → Value) → Prop} (hK : ∀ g : Nat → Value, g 0 = .string x → x.size ≤ 9223372036854775807 → K g) :
    pIndexAddr 1 v (.int .i64 j) fun p => pLoad w0 1 p σ K := by
  refine h.at hj fun g hg => ?_
  obtain ⟨hg, hs⟩ := hg
  simp only [expl, List.cons.injEq, and_true] at hg
  exact hK g hg hs

end
end Go.Proofs.Ytlbpnfhhoalenaa

/- Paths: their order, what lies within what; marks. -/
set_option linter.unusedVariables false
set_option linter.unusedSimpArgs false
namespace Go.Proofs.Ytlbpnfhhoalenaa
open Go Go.Av

section
variable {w0 : World} {σ : Vw}

end
end Go.Proofs.Ytlbpnfhhoalenaa

/- Trails: when one is sound; the law 'TrailOk', of the functions alone. -/
set_option linter.unusedVariables false
set_option linter.unusedSimpArgs false
namespace Go.Proofs.Ytlbpnfhhoalenaa
open Go Go.Av

section
variable {w0 : World} {σ : Vw}

theorem RSl.take {α : Type} {n : Nat} {Rl : (Addr → Option Value) → List Value → α → Prop} {v : Value} {xs : List α} (h : RSl n Rl (Av.get w0 σ) v xs) {j : Nat} (hj : j ≤ xs.length) {K : Value → Prop} (hK : ∀ v', RSl n Rl (Av.get w0 σ) v' (xs.take j) → K v') : pSlice n v none (some (.int .i64 j)) K := by
  obtain ⟨A, cap, rfl, hc, h3⟩ := h
  refine ⟨A, xs.length, cap, 0, j, rfl, rfl, rfl, by omega, by omega, by omega, hK _ ?_⟩
  have hl : (xs.take j).length = j := by simp; omega
  refine ⟨if cap = (0 : Int).toNat then A else A.map (·.add ((0 : Int).toNat * n)), cap - (0 : Int).toNat, by rw [hl]; simp, ⟨by rw [hl]; simp; omega, by simp; omega⟩, fun i x hi => ?_⟩
  have hij : i < j := by have := (List.getElem?_eq_some_iff.1 hi).1; rw [hl] at this; exact this
  rw [List.getElem?_take_of_lt hij] at hi
  obtain ⟨a, es, rfl, h5, h6, h7⟩ := h3 i x hi
  refine ⟨a, es, ?_, h5, h6, h7⟩
  split
  · rfl
  · simp [Addr.add]

end
end Go.Proofs.Ytlbpnfhhoalenaa

/- The law 'TrailOk', of the functions alone. -/
set_option linter.unusedVariables false
set_option linter.unusedSimpArgs false
namespace Go.Proofs.Ytlbpnfhhoalenaa
open Go Go.Av

section
variable {w0 : World} {σ : Vw}

theorem sumBy_mem {α : Type} {f : α → Nat} : ∀ {xs : List α} {x : α}, x ∈ xs → f x ≤ sumBy f xs
  | a :: r, x, h => by
    simp only [sumBy]
    rcases List.mem_cons.1 h with e | e
    · subst e; omega
    · have := sumBy_mem (f := f) e; omega

end
end Go.Proofs.Ytlbpnfhhoalenaa

/- Trees: what is read of one; their size, their copy, their comparison. -/
set_option linter.unusedVariables false
set_option linter.unusedSimpArgs false
namespace Go.Proofs.Ytlbpnfhhoalenaa
open Go Go.Av

inductive Tr where
  | mk (dir : Bool) (mode : Int) (text : ByteArray) (names : List ByteArray) (kids : List Tr)
noncomputable instance : DecidableEq Tr := fun _ _ => Classical.propDecidable _

/-- What is read: n bounds the depth. -/
def RT : Nat → (Addr → Option Value) → List Value → Tr → Prop
  | 0, _, _, _ => False
  | n + 1, rd, es, .mk d m t ns ks => ∃ u w, es = [.bool d, .int .i64 m, .string t, u, w] ∧ (-9223372036854775808 ≤ m ∧ m ≤ 9223372036854775807) ∧ t.size ≤ 9223372036854775807 ∧ RSl 1 RS rd u ns ∧ RSl 5 (RT n) rd w ks
def OT (w0 : World) : Nat → Vw → List Nat → List Value → Tr → Prop
  | 0, _, _, _, _ => False
  | n + 1, σ, F, es, .mk d m t ns ks => ∃ u w F1 F2, es = [.bool d, .int .i64 m, .string t, u, w] ∧ (-9223372036854775808 ≤ m ∧ m ≤ 9223372036854775807) ∧ t.size ≤ 9223372036854775807 ∧ OStrs w0 σ F1 u ns ∧ OSl w0 5 (OT w0 n) σ F2 w ks ∧ F = F1 ++ F2 ∧ F.Nodup
def szT : Nat → Tr → Nat
  | 0, _ => 0
  | n + 1, .mk d m t ns ks => t.size + (ns.length + sumS ns) + (ks.length + sumBy (szT n) ks)

theorem mono_rt : ∀ (n : Nat) (rd rd' : Addr → Option Value) (es : List Value) (x : Tr), Le rd rd' → RT n rd es x → RT n rd' es x
  | 0, _, _, _, _, _, h => h
  | n + 1, rd, rd', es, .mk d m t ns ks, hl, h => by
    obtain ⟨u, w, h1, h2, h3, h4, h5⟩ := h
    exact ⟨u, w, h1, h2, h3, h4.mono hl fun _ _ h => h, h5.mono hl fun es x => mono_rt n _ _ es x hl⟩

section
variable {w0 : World} {σ : Vw}

theorem ok_rt (w0 : World) : ∀ n, OOk w0 5 (RT n) (OT w0 n)
  | 0 => ⟨fun _ _ _ _ h => h.elim, fun _ _ _ _ _ h => h.elim, fun _ _ _ _ h => h.elim, fun _ _ _ _ h => h.elim, fun _ _ _ _ h => h.elim, fun _ _ _ _ h => h.elim⟩
  | n + 1 => by
    have ih := ok_rt w0 n
    refine ⟨?_, ?_, ?_, ?_, ?_, ?_⟩
    · rintro σ F es ⟨d, m, t, ns, ks⟩ ⟨u, w, F1, F2, h1, h2, h3, h4, h5, h6, h7⟩
      exact ⟨u, w, h1, h2, h3, h4.rel (ok_str w0), h5.rel ih⟩
    · rintro σ σ' F es ⟨d, m, t, ns, ks⟩ ⟨u, w, F1, F2, h1, h2, h3, h4, h5, h6, h7⟩ hF
      subst h6
      exact ⟨u, w, F1, F2, h1, h2, h3, h4.frame (ok_str w0) fun b hb => hF b (List.mem_append_left _ hb), h5.frame ih fun b hb => hF b (List.mem_append_right _ hb), rfl, h7⟩
    · rintro σ F es ⟨d, m, t, ns, ks⟩ ⟨u, w, F1, F2, h1, h2, h3, h4, h5, h6, h7⟩ b hb
      subst h6
      rcases List.mem_append.1 hb with h | h
      · exact h4.dom (ok_str w0) b h
      · exact h5.dom ih b h
    · rintro σ F es ⟨d, m, t, ns, ks⟩ ⟨u, w, F1, F2, h1, h2, h3, h4, h5, h6, h7⟩; exact h7
    · rintro σ F es ⟨d, m, t, ns, ks⟩ ⟨u, w, F1, F2, rfl, h2, h3, h4, h5, h6, h7⟩; rfl
    · rintro σ F es ⟨d, m, t, ns, ks⟩ ⟨u, w, F1, F2, rfl, h2, h3, h4, h5, h6, h7⟩ c hc
      simp at hc
      rcases hc with rfl | rfl | rfl | rfl | rfl
      · rfl
      · rfl
      · rfl
      · exact OSl.one' h4
      · exact OSl.one' h5

theorem pVal_5 {a b c d e : Value} {A : Prop} (h1 : a.oneCell' = true) (h2 : b.oneCell' = true) (h3 : c.oneCell' = true) (h4 : d.oneCell' = true) (h5 : e.oneCell' = true) : pVal true 5 (.agg ⟨[a, b, c, d, e]⟩) A ↔ A := pValN rfl (by simp [h1, h2, h3, h4, h5])

theorem szTree : ∀ (n : Nat) {es : List Value} {x : Tr} {m : Int} {R : Value → Vw → Prop}, RT n (Av.get w0 σ) es x → (0 ≤ m ∧ m ≤ 9223372036854775807) → R (.int .i64 (Av.left m (szT n x))) σ → AC Try.prog w0 n_laws_szTree [.agg ⟨es⟩, .int .i64 m] σ R
  | 0, _, _, _, _, h, _, _ => h.elim
  | n + 1, es, .mk d md t ns ks, m, R, h, hm, hR => by
    obtain ⟨u, w, rfl, h2, h3, h4, h5⟩ := h
    refine ac_laws_szTree ?_
    unfold vc_laws_szTree
    rw [pVal_5 rfl rfl rfl h4.one h5.one]
    show pLenS (.string t) _
    rw [pLenS_s, pBin_sub (by omega), pBin_lt, pIf_d]
    have low : m < (szT (n + 1) (.mk d md t ns ks) : Nat) → R (.int .i64 (-1)) σ := fun hlt => by rw [Av.left_low hlt] at hR; exact hR
    have hsz : szT (n + 1) (.mk d md t ns ks) = t.size + (ns.length + sumS ns) + (ks.length + sumBy (szT n) ks) := rfl
    refine ⟨fun hlt => low (by omega), fun hge => ?_⟩
    refine szStringS h4 (by omega) ?_
    rw [show left (m - (t.size : Int)) (ns.length + sumS ns) = Av.left (m - (t.size : Int)) (ns.length + sumS ns) from rfl, pBin_lt, pIf_d]
    refine ⟨fun hlt => low (by rw [Av.left_neg] at hlt; omega), fun hge2 => ?_⟩
    rw [Av.left_neg] at hge2
    rw [Av.left_in (by omega)]
    refine ac_laws_szTreeS ?_
    have e : ∀ (v : Value) (m : Int) (R : Value → Vw → Prop), vc_laws_szTreeS w0 v (.int .i64 m) σ R = VszS Try.prog w0 3 5 n_laws_szTree v (.int .i64 m) σ R := fun v m R => by kernel_rfl
    show vc_laws_szTreeS w0 w _ σ _
    rw [e]
    refine szS_gen (sz := szT n) (fun x _ es m R' h hm hR => szTree n h hm hR) h5 (by omega) ?_
    rw [pBin_lt, pIf_d]
    refine ⟨fun hlt => low (by rw [Av.left_neg] at hlt; omega), fun hge3 => ?_⟩
    rw [Av.left_neg] at hge3
    rw [Av.left_in (by omega)]
    rw [Av.left_in (by omega)] at hR
    rw [show m - (t.size : Int) - ((ns.length + sumS ns : Nat) : Int) - ((ks.length + sumBy (szT n) ks : Nat) : Int) = m - ((szT (n + 1) (.mk d md t ns ks) : Nat) : Int) by omega]
    exact hR
end
end Go.Proofs.Ytlbpnfhhoalenaa

/- Lists in rows of our own, written element by element: the focus on one element, and the loops that mark and that look at marks. -/
set_option linter.unusedVariables false
set_option linter.unusedSimpArgs false
namespace Go.Av
open Go Go.RowKit

/-- Every row but those of F stays as it is. -/
def KeepsBut (F : List Nat) (σ σ' : Vw) : Prop := ∀ b r, σ b = some r → b ∉ F → σ' b = some r
theorem KeepsBut.refl (F : List Nat) (σ : Vw) : KeepsBut F σ σ := fun _ _ h _ => h
theorem Keeps.but {F : List Nat} {σ σ' : Vw} (h : Keeps σ σ') : KeepsBut F σ σ' := fun b r hb _ => h b r hb
theorem KeepsBut.trans {F : List Nat} {σ σ' σ'' : Vw} (h : KeepsBut F σ σ') (h' : KeepsBut F σ' σ'') : KeepsBut F σ σ'' := fun b r hb hF => h' b r (h b r hb hF) hF
theorem KeepsBut.mono {F F' : List Nat} {σ σ' : Vw} (h : KeepsBut F σ σ') (hF : ∀ b, b ∈ F → b ∈ F') : KeepsBut F' σ σ' := fun b r hb h' => h b r hb fun hb' => h' (hF b hb')
/-- What is older than F stays. -/
theorem KeepsBut.old {F : List Nat} {σ0 σ σ' : Vw} (h : KeepsBut F σ σ') (h0 : Keeps σ0 σ) (hF : ∀ b, b ∈ F → σ0 b = none) : Keeps σ0 σ' := fun b r hb => h b r (h0 b r hb) fun hb' => by rw [hF b hb'] at hb; cases hb
theorem KeepsBut.at {F G : List Nat} {σ σ' : Vw} (h : KeepsBut F σ σ') (hG : ∀ b, b ∈ G → σ b ≠ none) (hd : ∀ b, b ∈ G → b ∉ F) : ∀ b, b ∈ G → σ' b = σ b := fun b hb => by
  cases hs : σ b with
  | none => exact absurd hs (hG b hb)
  | some r => exact h b r hs (hd b hb)
theorem KeepsBut.put {F : List Nat} {σ : Vw} {b : Nat} {r : Row} (hb : b ∈ F) : KeepsBut F σ (σ.put b r) := fun i x hi hF => by
  have : i ≠ b := fun e => hF (e ▸ hb)
  simp [Vw.put, this, hi]

section
variable {P : Program} {w0 : World} {σ σ' : Vw} {α : Type}

theorem nodup_at {l : List (List Nat)} {i j : Nat} {f g : List Nat} (h : l.flatten.Nodup) (hi : l[i]? = some f) (hj : l[j]? = some g) (hij : i ≠ j) : ∀ b, b ∈ f → b ∉ g := by
  induction l generalizing i j with
  | nil => simp at hi
  | cons a r ih =>
    rw [List.flatten_cons, List.nodup_append] at h
    intro b hb hb'
    cases i with
    | zero =>
      cases j with
      | zero => exact hij rfl
      | succ j =>
        simp at hi hj
        subst hi
        exact h.2.2 b hb b (List.mem_flatten.2 ⟨g, List.mem_of_getElem? hj, hb'⟩) rfl
    | succ i =>
      cases j with
      | zero =>
        simp at hi hj
        subst hj
        exact h.2.2 b hb' b (List.mem_flatten.2 ⟨f, List.mem_of_getElem? hi, hb⟩) rfl
      | succ j =>
        simp at hi hj
        exact ih h.2.1 hi hj (fun e => hij (by rw [e])) b hb hb'

theorem split_at {l : List (List Value)} {j : Nat} {c : List Value} (hj : l[j]? = some c) : l.flatten = (l.take j).flatten ++ (c ++ (l.drop (j + 1)).flatten) := by
  have hlt := (List.getElem?_eq_some_iff.1 hj).1
  have e : l = l.take j ++ (c :: l.drop (j + 1)) := by
    have := List.take_append_drop j l
    rw [List.drop_eq_getElem_cons hlt] at this
    have hc : l[j] = c := (List.getElem?_eq_some_iff.1 hj).2
    rw [hc] at this
    exact this.symm
  calc l.flatten = (l.take j ++ (c :: l.drop (j + 1))).flatten := by rw [← e]
    _ = _ := by rw [List.flatten_append, List.flatten_cons]

/-- One element of a list of our own, and how the list is put together again behind a change of it. -/
theorem OSl.focus {n : Nat} {Rel : (Addr → Option Value) → List Value → α → Prop} {O : Vw → List Nat → List Value → α → Prop} (ok : OOk w0 n Rel O) {F : List Nat} {v : Value} {xs : List α} (h : OSl w0 n O σ F v xs) {j : Nat} {x : α} (hj : xs[j]? = some x) :
    ∃ (b o : Nat) (f : List Nat) (c A C : List Value) (r : Row), (∀ K : Value → Prop, K (.pointer (some ⟨b, o, none⟩)) → pIndexAddr n v (.int .i64 j) K) ∧ w0.heap.size ≤ b ∧ σ b = some r ∧ r.cells = A ++ (c ++ C) ∧ A.length = o ∧ O σ f c x ∧ b ∈ F ∧ (∀ i, i ∈ f → i ∈ F ∧ i ≠ b) ∧
      ∀ (σ' : Vw) (c' : List Value) (x' : α) (r' : Row), σ' b = some r' → r'.cells = A ++ (c' ++ C) → O σ' f c' x' → (∀ i, i ∈ F → i ≠ b → i ∉ f → σ' i = σ i) → OSl w0 n O σ' F v (xs.set j x') := by
  obtain ⟨h1, h2, ⟨rfl, rfl, _⟩ | ⟨b, off, cap, r, pre, post, css, Fs, rfl, gc, g2, g3, g4, g5, g6, g7, g8, g9⟩⟩ := h
  · simp at hj
  have hlt : j < xs.length := (List.getElem?_eq_some_iff.1 hj).1
  have hcj := List.getElem?_eq_getElem (show j < css.length by omega)
  have hfj := List.getElem?_eq_getElem (show j < Fs.length by omega)
  generalize hce : css[j]'(by omega) = c at hcj
  generalize hfe : Fs[j]'(by omega) = f at hfj
  have hO := g9 j c x f hcj hj hfj
  have hn : ∀ c, c ∈ css → c.length = n := fun c hc => by
    obtain ⟨i, hi⟩ := List.getElem?_of_mem hc
    have hil : i < css.length := (List.getElem?_eq_some_iff.1 hi).1
    exact ok.len _ _ _ _ (g9 i c _ _ hi (List.getElem?_eq_getElem (by omega)) (List.getElem?_eq_getElem (by omega)))
  have hA : (pre ++ (css.take j).flatten).length = off + j * n := by
    rw [List.length_append, g5, flat_len _ fun c hc => hn c (List.mem_of_mem_take hc), List.length_take]
    congr 2; omega
  rw [g8] at h2
  have hbf : b ∉ f := fun hb => (List.nodup_cons.1 h2).1 (List.mem_flatten.2 ⟨f, List.mem_of_getElem? hfj, hb⟩)
  refine ⟨b, off + j * n, f, c, pre ++ (css.take j).flatten, (css.drop (j + 1)).flatten ++ post, r, fun K hK => ?_, g2, g3, ?_, hA, hO, by rw [g8]; exact List.mem_cons_self, fun i hi => ⟨?_, fun e => hbf (e ▸ hi)⟩, ?_⟩
  · refine ⟨⟨b, off, none⟩, xs.length, cap, .i64, j, rfl, rfl, by omega, by omega, ?_⟩
    rw [addr_add]; exact hK
  · rw [g4, split_at hcj]; simp only [List.append_assoc]
  · rw [g8]; exact List.mem_cons_of_mem _ (List.mem_flatten.2 ⟨f, List.mem_of_getElem? hfj, hi⟩)
  · intro σ' c' x' r' hr' hcells hO' hrest
    have hlen' := ok.len _ _ _ _ hO'
    refine ⟨by rw [List.length_set]; exact h1, by rw [g8]; exact h2, .inr ⟨b, off, cap, r', pre, post, css.set j c', Fs, by rw [List.length_set], by rw [List.length_set]; exact gc, g2, hr', ?_, g5, by rw [List.length_set, List.length_set]; exact g6, by rw [List.length_set]; exact g7, g8, ?_⟩⟩
    · have hcj' : (css.set j c')[j]? = some c' := List.getElem?_set_self (by omega)
      rw [hcells, split_at hcj', List.take_set_of_le (Nat.le_refl j), List.drop_set_of_lt (by omega)]
      simp only [List.append_assoc]
    · intro i ci y fi e1 e2 e3
      by_cases hij : j = i
      · subst hij
        rw [List.getElem?_set_self (by omega)] at e1 e2
        cases e1; cases e2
        rw [hfj] at e3; cases e3
        exact hO'
      · rw [List.getElem?_set_ne hij] at e1 e2
        refine ok.frame _ _ _ _ _ (g9 i ci y fi e1 e2 e3) fun k hk => ?_
        have hkF : k ∈ Fs.flatten := List.mem_flatten.2 ⟨fi, List.mem_of_getElem? e3, hk⟩
        exact hrest k (by rw [g8]; exact List.mem_cons_of_mem _ hkF) (fun e => (List.nodup_cons.1 h2).1 (e ▸ hkF)) (nodup_at (List.nodup_cons.1 h2).2 e3 hfj (fun e => hij e.symm) k hk)

/-- A field of an element is written. -/
theorem field_store {b o off : Nat} {r : Row} {A c C : List Value} {y : Value} {K : Vw → Prop} (hr : σ b = some r) (hc : r.cells = A ++ (c ++ C)) (hA : A.length = o) (hoff : off < c.length) (hy : y.oneCell' = true)
    (hK : K (σ.put b { r with cells := A ++ (c.set off y ++ C) })) : pField off (.pointer (some ⟨b, o, none⟩)) fun q => pVal false 1 y (pStore q [y] σ K) := by
  rw [pField_s, pVal1 hy, addr_add]
  refine ⟨b, o + off, r, rfl, hr, ?_, ?_⟩
  · rw [hc]; simp only [List.length_append, List.length_singleton]; omega
  · have e : setAt r.cells (o + off) [y] = A ++ (c.set off y ++ C) := by
      simp only [setAt]
      rw [hc, List.set_append_right _ _ (by omega), List.set_append_left _ _ (by omega), hA]
      congr 3; omega
    rw [e]; exact hK
theorem elem_store {b o : Nat} {r : Row} {A C : List Value} {x y : Value} {K : Vw → Prop} (hr : σ b = some r) (hc : r.cells = A ++ ([x] ++ C)) (hA : A.length = o) (hy : y.oneCell' = true)
    (hK : K (σ.put b { r with cells := A ++ ([y] ++ C) })) : pVal false 1 y (pStore (.pointer (some ⟨b, o, none⟩)) [y] σ K) := by
  rw [pVal1 hy]
  refine ⟨b, o, r, rfl, hr, ?_, ?_⟩
  · rw [hc]; simp only [List.length_append, List.length_singleton]; omega
  · have e : setAt r.cells o [y] = A ++ ([y] ++ C) := by
      simp only [setAt]
      rw [hc, List.set_append_right _ _ (by omega), hA, Nat.sub_self]; rfl
    rw [e]; exact hK
/-- A field of an element is read. -/
theorem field_load {b o off : Nat} {r : Row} {A c C : List Value} {y : Value} {K : (Nat → Value) → Prop} (hb : w0.heap.size ≤ b) (hr : σ b = some r) (hc : r.cells = A ++ (c ++ C)) (hA : A.length = o) (hoff : c[off]? = some y)
    (hK : ∀ g : Nat → Value, g 0 = y → K g) : pField off (.pointer (some ⟨b, o, none⟩)) fun q => pLoad w0 1 q σ K := by
  rw [pField_s, addr_add]
  refine ⟨_, fun _ => y, rfl, fun j hj => ?_, hK _ rfl⟩
  have : j = 0 := by omega
  subst this
  have hlt : off < c.length := (List.getElem?_eq_some_iff.1 hoff).1
  rw [addr_add, get_row hb hr, hc, List.getElem?_append_right (by omega), List.getElem?_append_left (by omega)]
  rw [show o + off + 0 - A.length = off by omega]; exact hoff

/-! ### Marks -/
def mkS (mk : Nat → α → α) (cnt : α → Nat) : Nat → List α → List α
  | _, [] => []
  | k, x :: r => mk k x :: mkS mk cnt (k + cnt x) r
theorem mkS_len {mk : Nat → α → α} {cnt : α → Nat} : ∀ {xs : List α} {k : Nat}, (mkS mk cnt k xs).length = xs.length
  | [], _ => rfl
  | x :: r, k => by simp [mkS, mkS_len (xs := r)]
theorem mkS_snoc {mk : Nat → α → α} {cnt : α → Nat} {x : α} : ∀ {xs : List α} {k : Nat}, mkS mk cnt k (xs ++ [x]) = mkS mk cnt k xs ++ [mk (k + sumBy cnt xs) x]
  | [], k => by simp [mkS, sumBy]
  | y :: r, k => by simp [mkS, sumBy, mkS_snoc (xs := r), Nat.add_assoc]
theorem mkS_get {mk : Nat → α → α} {cnt : α → Nat} : ∀ {xs : List α} {k j : Nat} {x : α}, xs[j]? = some x → (mkS mk cnt k xs)[j]? = some (mk (k + sumBy cnt (xs.take j)) x)
  | [], k, j, x, h => by simp at h
  | y :: r, k, 0, x, h => by simp at h; subst h; simp [mkS, sumBy]
  | y :: r, k, j + 1, x, h => by
    have := mkS_get (mk := mk) (cnt := cnt) (k := k + cnt y) (xs := r) (j := j) (by simpa using h)
    simp only [mkS, List.getElem?_cons_succ, this, List.take_succ_cons, sumBy, Nat.add_assoc]

/-- A loop that marks. -/
theorem mark_loop {T n : Nat} {Rel : (Addr → Option Value) → List Value → α → Prop} {O : Vw → List Nat → List Value → α → Prop} (ok : OOk w0 n Rel O) {mk : Nat → α → α} {cnt : α → Nat} {F : List Nat} {v : Value} {xs : List α} {k : Nat} {R : Value → Vw → Prop}
    {BODY : List Value → (AX → List Value → Vw → Prop) → Vw → Prop}
    (h : OSl w0 n O σ F v xs) (hk : k + sumBy cnt xs ≤ 1000000000000)
    (hB : ∀ (j : Nat) (x : α) (k' : Nat) (s : Vw) (ys : List α) (K : AX → List Value → Vw → Prop), j < ys.length → ys.length = xs.length → KeepsBut F σ s → x ∈ xs → k' + cnt x ≤ 1000000000000 → OSl w0 n O s F v ys → ys[j]? = some x →
      (∀ s', KeepsBut F s s' → OSl w0 n O s' F v (ys.set j (mk k' x)) → K .normal [v, .int .i64 ((k' + cnt x : Nat) : Int), .int .i64 ((j : Int) + 1)] s') → BODY [v, .int .i64 (k' : Nat), .int .i64 (j : Nat)] K s)
    (hR : ∀ s', KeepsBut F σ s' → OSl w0 n O s' F v (mkS mk cnt k xs) → R (.int .i64 ((k + sumBy cnt xs : Nat) : Int)) s') :
    pLoop (fun l K s => pLen (vget l 0) (fun v3 => pBin P T .lss (vget l 2) v3 (fun v4 => pIf v4 (BODY l K s) (K (.exit 0) [vget l 0, vget l 1, vget l 2] s)))) [v, .int .i64 (k : Nat), .int .i64 0] σ
      (fun x l s => match x with | .normal => R (vget l 1) s | .ret => False | .exit i => (match Nat.beq i 0 with | true => R (vget l 1) s | false => False)) := by
  have hl : xs.length ≤ 9223372036854775807 := h.1
  refine loop_rule (m := xs.length) (fun c l s => ∃ j, c + j = xs.length ∧ KeepsBut F σ s ∧ OSl w0 n O s F v (mkS mk cnt k (xs.take j) ++ xs.drop j) ∧ l = [v, .int .i64 ((k + sumBy cnt (xs.take j) : Nat) : Int), .int .i64 (j : Nat)]) ?_ ⟨0, by omega, KeepsBut.refl _ _, by simpa [mkS] using h, by simp [sumBy]⟩
  rintro c l s L ⟨j, hc, hkb, hO, rfl⟩ hL
  simp only [vget, List.getD_cons_zero, List.getD_cons_succ]
  have hlen : (mkS mk cnt k (xs.take j) ++ xs.drop j).length = xs.length := by simp [mkS_len]; omega
  have hrel := hO.rel ok
  rw [hrel.len, hlen, pBin_lt, pIf_d]
  refine ⟨fun hj => ?_, fun hj => ?_⟩
  · have hj' : j < xs.length := by omega
    have hx := List.getElem?_eq_getElem hj'
    have ht := sumBy_take (f := cnt) hx
    have hle := sumBy_le (f := cnt) (xs := xs) (j + 1)
    have htl : (mkS mk cnt k (xs.take j)).length = j := by rw [mkS_len, List.length_take]; omega
    refine hB j xs[j] (k + sumBy cnt (xs.take j)) s _ _ (by rw [hlen]; exact hj') hlen hkb (List.getElem_mem hj') (by omega) hO ?_ fun s' hk' hO' => ?_
    · rw [List.getElem?_append_right (by omega), htl, Nat.sub_self, List.getElem?_drop, Nat.add_zero, hx]
    · refine hL _ _ (c - 1) (by omega) ⟨j + 1, by omega, hkb.trans hk', ?_, ?_⟩
      · have e : (mkS mk cnt k (xs.take j) ++ xs.drop j).set j (mk (k + sumBy cnt (xs.take j)) xs[j]) = mkS mk cnt k (xs.take (j + 1)) ++ xs.drop (j + 1) := by
          rw [List.set_append_right _ _ (by omega), htl, Nat.sub_self, List.drop_eq_getElem_cons hj', List.set_cons_zero, List.take_add_one, hx, Option.toList_some, mkS_snoc]
          simp
        rw [e] at hO'; exact hO'
      · rw [ht]
        congr 2
        · congr 1; omega
  · have hj' : j = xs.length := by omega
    subst hj'
    rw [List.take_length] at hO ⊢
    rw [List.drop_length, List.append_nil] at hO
    exact hR s hkb hO

/-- A loop that looks at marks. -/
theorem held_loop {T n : Nat} {Rel : (Addr → Option Value) → List Value → α → Prop} (hmono : ∀ rd rd' es x, Le rd rd' → Rel rd es x → Rel rd' es x) {mk : Nat → α → α} {cnt : α → Nat} {v : Value} {xs : List α} {k : Nat} {R : Value → Vw → Prop}
    {BODY : List Value → (AX → List Value → Vw → Prop) → Vw → Prop}
    (h : RSl n Rel (Av.get w0 σ) v (mkS mk cnt k xs)) (hk : k + sumBy cnt xs ≤ 1000000000000)
    (hB : ∀ (j : Nat) (x : α) (k' : Nat) (s : Vw) (K : AX → List Value → Vw → Prop), j < xs.length → Keeps σ s → x ∈ xs → k' + cnt x ≤ 1000000000000 → RSl n Rel (Av.get w0 s) v (mkS mk cnt k xs) → (mkS mk cnt k xs)[j]? = some (mk k' x) →
      (∀ s', Keeps s s' → K .normal [v, .int .i64 ((k' + cnt x : Nat) : Int), .int .i64 0, .int .i64 ((j : Int) + 1)] s') → BODY [v, .int .i64 (k' : Nat), .int .i64 0, .int .i64 (j : Nat)] K s)
    (hR : ∀ s', Keeps σ s' → R (.int .i64 ((k + sumBy cnt xs : Nat) : Int)) s') :
    pLoop (fun l K s => pLen (vget l 0) (fun v3 => pBin P T .lss (vget l 3) v3 (fun v4 => pIf v4 (BODY l K s) (K (.exit 0) [vget l 0, vget l 1, vget l 2, vget l 3] s)))) [v, .int .i64 (k : Nat), .int .i64 0, .int .i64 0] σ
      (fun x l s => match x with | .normal => R (vget l 1) s | .ret => R (vget l 2) s | .exit i => (match Nat.beq i 0 with | true => R (vget l 1) s | false => False)) := by
  have hl : xs.length ≤ 9223372036854775807 := by have := h.le; rwa [mkS_len] at this
  refine loop_rule (m := xs.length) (fun c l s => ∃ j, c + j = xs.length ∧ Keeps σ s ∧ l = [v, .int .i64 ((k + sumBy cnt (xs.take j) : Nat) : Int), .int .i64 0, .int .i64 (j : Nat)]) ?_ ⟨0, by omega, Keeps.refl _, by simp [sumBy]⟩
  rintro c l s L ⟨j, hc, hkb, rfl⟩ hL
  simp only [vget, List.getD_cons_zero, List.getD_cons_succ]
  have h' := h.mono hkb.le fun es x => hmono _ _ es x hkb.le
  rw [h'.len, mkS_len, pBin_lt, pIf_d]
  refine ⟨fun hj => ?_, fun hj => ?_⟩
  · have hj' : j < xs.length := by omega
    have hx := List.getElem?_eq_getElem hj'
    have ht := sumBy_take (f := cnt) hx
    have hle := sumBy_le (f := cnt) (xs := xs) (j + 1)
    refine hB j xs[j] (k + sumBy cnt (xs.take j)) s _ hj' hkb (List.getElem_mem hj') (by omega) h' (mkS_get hx) fun s' hk' => ?_
    refine hL _ _ (c - 1) (by omega) ⟨j + 1, by omega, hkb.trans hk', ?_⟩
    rw [ht]
    congr 2
    · congr 1; omega
  · have hj' : j = xs.length := by omega
    subst hj'
    rw [List.take_length]
    exact hR s hkb
end
end Go.Av

/- The plain side, part 3: what the statement's reading of an argument says of the cells. -/
set_option linter.unusedVariables false
set_option linter.unusedSimpArgs false
namespace Go.Av
open Go Go.RowKit

def σ0 : Vw := fun _ => none

section
variable {H : Type} {enc : TypeId × Value → H} {P : Program} {W : World} {fuel : Nat} {cs : List Value} {x : DataW H × List MemPlace}

theorem sat0 (W : World) : Sat W σ0 W := ⟨Below.refl _ _, fun b r h => by cases h⟩

theorem get0 {a : Addr} {v : Value} (h : W.cell? a = some v) {σ : Vw} : Av.get W σ a = some v := by
  have hlt : a.block < W.heap.size := by
    rcases Nat.lt_or_ge a.block W.heap.size with h1 | h1
    · exact h1
    · have : W.heap[a.block]? = none := Array.getElem?_eq_none h1
      unfold World.cell? at h
      simp [this] at h
  unfold Av.get
  rw [if_pos hlt]; exact h

theorem listOf {α : Type} (p : Nat → α → Prop) : ∀ (n : Nat), (∀ i, i < n → ∃ x, p i x) → ∃ xs : List α, xs.length = n ∧ ∀ (j : Nat) (x : α), xs[j]? = some x → p j x
  | 0, _ => ⟨[], rfl, fun j x h => by simp at h⟩
  | n + 1, h => by
    obtain ⟨xs, hl, hx⟩ := listOf p n (fun i hi => h i (by omega))
    obtain ⟨y, hy⟩ := h n (by omega)
    refine ⟨xs ++ [y], by simp [hl], fun j x hj => ?_⟩
    by_cases e : j < xs.length
    · rw [List.getElem?_append_left e] at hj; exact hx j x hj
    · rw [List.getElem?_append_right (by omega)] at hj
      have : j - xs.length = 0 := by
        rcases Nat.eq_zero_or_pos (j - xs.length) with h0 | h0
        · exact h0
        · rw [List.getElem?_eq_none (by simp; omega)] at hj; cases hj
      rw [this] at hj
      simp at hj
      subst hj
      have : j = n := by omega
      subst this; exact hy

/-- A slice is opened, its elements by a rule of their own. -/
theorem open_rsl {α : Type} {t e n : Nat} {R : (Addr → Option Value) → List Value → α → Prop} {spare : Nat → Bool} (ht : P.underlying t = some (.slice e)) (hc : P.cellsOf e = n)
    (hR : ∀ (fuel : Nat) (es : List Value) (y : DataW H × List MemPlace), DataW.trod enc P W 0 spare true fuel e es = some y → es.length = n → ∃ x, R (Av.get W σ0) es x) (h : DataW.trod enc P W 0 spare true fuel t cs = some x) : ∃ v xs, cs = [v] ∧ RSl n R (Av.get W σ0) v xs := by
  rcases DataW.trod_slice ht h with ⟨rfl, _⟩ | ⟨a, len, cap, elems, rest, m, _, rfl, _, hb, hl, hm, hlen, hel, _, _⟩
  · exact ⟨_, [], rfl, none, 0, rfl, by simp, fun j x hj => by simp at hj⟩
  · have each : ∀ i, i < len → ∃ x : α, ∃ es : List Value, es.length = n ∧ (∀ k, k < n → Av.get W σ0 (a.add (i * n + k)) = es[k]?) ∧ R (Av.get W σ0) es x := by
      intro i hi
      have h1 := hel i hi
      rw [hc, List.getElem?_eq_getElem (by omega), Option.bind_eq_some_iff] at h1
      obtain ⟨es, h2, h3⟩ := h1
      obtain ⟨_, hes, hcell⟩ := World.cells?_some h2
      obtain ⟨x, hx⟩ := hR m es _ h3 hes
      refine ⟨x, es, hes, fun k hk => ?_, hx⟩
      have := hcell k hk
      rw [add_add] at this
      have hlt : k < es.length := by omega
      rw [List.getElem?_eq_getElem hlt] at this ⊢
      exact get0 this
    obtain ⟨xs, hxl, hxs⟩ := listOf _ len each
    have hmax : cap ≤ 9223372036854775807 := by have : maxLen = 9223372036854775807 := by decide
                                                omega
    refine ⟨_, xs, rfl, some a, cap, by rw [hxl], ⟨by omega, hmax⟩, fun j x hj => ?_⟩
    obtain ⟨es, g1, g2, g3⟩ := hxs j x hj
    exact ⟨a, es, rfl, g1, g2, g3⟩

theorem open_rs {e : Nat} {spare : Nat → Bool} (he : P.underlying e = some .string) : ∀ (fuel : Nat) (es : List Value) (y : DataW H × List MemPlace), DataW.trod enc P W 0 spare true fuel e es = some y → es.length = 1 → ∃ s, RS (Av.get W σ0) es s := by
  intro fuel es y h _
  obtain ⟨s, rfl, _, hm⟩ := DataW.trod_string he h
  exact ⟨s, rfl, by have : maxLen = 9223372036854775807 := by decide
                    omega⟩

def fsOf (P : Program) (t : Nat) : Array Field := match P.underlying t with | some (.struct fs) => fs | _ => #[]

/-- From the functions to the statement. -/
theorem AC.calls {f : FuncId} {args : List Value} {R : Value → Vw → Prop} (h : AC P W f args σ0 R) : Calls P f args.toArray W fun e W' => ∃ v σ', e = .returned v ∧ R v σ' ∧ Below W.heap.size W W' :=
  (h.2 W (sat0 W)).mono fun e W' ⟨v, σ', h1, h2, h3⟩ => ⟨v, σ', h1, h2, h3.sat.bel⟩
end
end Go.Av

/- The plain side, part 4: what the statement's reading of an argument says, with the fuel told; numbers, bools, texts. -/
set_option linter.unusedVariables false
set_option linter.unusedSimpArgs false
namespace Go.Av
open Go Go.RowKit

theorem RSl.imp {α : Type} {n : Nat} {R R' : (Addr → Option Value) → List Value → α → Prop} {rd : Addr → Option Value} {v : Value} {xs : List α} (h : RSl n R rd v xs) (hR : ∀ es x, R rd es x → R' rd es x) : RSl n R' rd v xs := by
  obtain ⟨A, cap, h1, h2, h3⟩ := h
  refine ⟨A, cap, h1, h2, fun j x hj => ?_⟩
  obtain ⟨a, es, h4, h5, h6, h7⟩ := h3 j x hj
  exact ⟨a, es, h4, h5, h6, hR _ _ h7⟩

section
variable {H : Type} {enc : TypeId × Value → H} {P : Program} {W : World} {fuel : Nat} {cs : List Value} {x : DataW H × List MemPlace}

/-- A slice is opened, its elements by a rule of their own, at less fuel. -/
theorem open_rsl' {α : Type} {t e n : Nat} {R : (Addr → Option Value) → List Value → α → Prop} {spare : Nat → Bool} (ht : P.underlying t = some (.slice e)) (hc : P.cellsOf e = n)
    (hR : ∀ (m : Nat) (es : List Value) (y : DataW H × List MemPlace), m < fuel → DataW.trod enc P W 0 spare true m e es = some y → es.length = n → ∃ x, R (Av.get W σ0) es x) (h : DataW.trod enc P W 0 spare true fuel t cs = some x) : ∃ v xs, cs = [v] ∧ RSl n R (Av.get W σ0) v xs := by
  rcases DataW.trod_slice ht h with ⟨rfl, _⟩ | ⟨a, len, cap, elems, rest, m, hm1, rfl, _, hb, hl, hm, hlen, hel, _, _⟩
  · exact ⟨_, [], rfl, none, 0, rfl, by simp, fun j x hj => by simp at hj⟩
  · have each : ∀ i, i < len → ∃ x : α, ∃ es : List Value, es.length = n ∧ (∀ k, k < n → Av.get W σ0 (a.add (i * n + k)) = es[k]?) ∧ R (Av.get W σ0) es x := by
      intro i hi
      have h1 := hel i hi
      rw [hc, List.getElem?_eq_getElem (by omega), Option.bind_eq_some_iff] at h1
      obtain ⟨es, h2, h3⟩ := h1
      obtain ⟨_, hes, hcell⟩ := World.cells?_some h2
      obtain ⟨x, hx⟩ := hR m es _ (by omega) h3 hes
      refine ⟨x, es, hes, fun k hk => ?_, hx⟩
      have := hcell k hk
      rw [add_add] at this
      have hlt : k < es.length := by omega
      rw [List.getElem?_eq_getElem hlt] at this ⊢
      exact get0 this
    obtain ⟨xs, hxl, hxs⟩ := listOf _ len each
    have hmax : cap ≤ 9223372036854775807 := by have : maxLen = 9223372036854775807 := by decide
                                                omega
    refine ⟨_, xs, rfl, some a, cap, by rw [hxl], ⟨by omega, hmax⟩, fun j x hj => ?_⟩
    obtain ⟨es, g1, g2, g3⟩ := hxs j x hj
    exact ⟨a, es, rfl, g1, g2, g3⟩

theorem open_field' {t : Nat} {spare : Nat → Bool} (ht : P.underlying t = some (.struct (fsOf P t))) (i ft off n : Nat) (hf : (fsOf P t)[i]?.map (fun f => (f.type, f.offset)) = some (ft, off)) (hn : P.cellsOf ft = n) (h : DataW.trod enc P W 0 spare true fuel t cs = some x) :
    ∃ (fuel' : Nat) (y : DataW H × List MemPlace), fuel' < fuel ∧ DataW.trod enc P W 0 spare true fuel' ft ((cs.drop off).take n) = some y := by
  obtain ⟨xs, m, hm, _, _, hl, hall⟩ := DataW.trod_struct ht h
  cases hc : (fsOf P t)[i]? with
  | none => rw [hc] at hf; cases hf
  | some f =>
    rw [hc] at hf
    simp only [Option.map_some, Option.some.injEq, Prod.mk.injEq] at hf
    obtain ⟨rfl, rfl⟩ := hf
    have h1 := hall i f hc
    have hlt : i < xs.length := by rw [hl]; exact (Array.getElem?_eq_some_iff.1 hc).1
    rw [List.getElem?_eq_getElem hlt, hn] at h1
    exact ⟨m, _, by omega, h1⟩

theorem open_int {t : Nat} {spare : Nat → Bool} (ht : P.underlying t = some (.int .i64)) (h : DataW.trod enc P W 0 spare true fuel t cs = some x) : ∃ n : Int, cs = [.int .i64 n] ∧ -9223372036854775808 ≤ n ∧ n ≤ 9223372036854775807 := by
  obtain ⟨n, rfl, _, hw⟩ := DataW.trod_int ht h
  refine ⟨n, rfl, ?_⟩
  have e1 : IntKind.i64.min = -9223372036854775808 := by decide
  have e2 : IntKind.i64.max = 9223372036854775807 := by decide
  simp only [Lit.wf, Bool.and_eq_true, decide_eq_true_eq, e1, e2] at hw
  exact ⟨hw.1, hw.2⟩
theorem open_str {t : Nat} {spare : Nat → Bool} (ht : P.underlying t = some .string) (h : DataW.trod enc P W 0 spare true fuel t cs = some x) : ∃ s : ByteArray, cs = [.string s] ∧ s.size ≤ 9223372036854775807 := by
  obtain ⟨s, rfl, _, hm⟩ := DataW.trod_string ht h
  exact ⟨s, rfl, by have : maxLen = 9223372036854775807 := by decide
                    omega⟩
theorem open_bool {t : Nat} {spare : Nat → Bool} (ht : P.underlying t = some .bool) (h : DataW.trod enc P W 0 spare true fuel t cs = some x) : ∃ b : Bool, cs = [.bool b] := by
  obtain ⟨b, rfl, _⟩ := DataW.trod_bool ht h
  exact ⟨b, rfl⟩
end
end Go.Av

/- The plain side, part 5: more operations at known values. -/
set_option linter.unusedVariables false
set_option linter.unusedSimpArgs false
namespace Go.Av
open Go Go.RowKit IntWalk

section
variable {P : Program} {w0 : World} {σ σ' : Vw}
theorem pConv_s {k k' : IntKind} {n : Int} {K : Value → Prop} : pConvInt k (.int k' n) K ↔ K (.int k (k.wrap n)) :=
  ⟨fun ⟨_, _, h, hK⟩ => by cases h; exact hK, fun h => ⟨_, _, rfl, h⟩⟩
theorem pConv_u8 {k' : IntKind} {n : Int} {K : Value → Prop} (h : 0 ≤ n ∧ n ≤ 255) : pConvInt .u8 (.int k' n) K ↔ K (.int .u8 n) := by rw [pConv_s, u8_in n h]
theorem pBin_rem {T : Nat} {k : IntKind} {a b : Int} {K : Value → Prop} (h : 0 ≤ a ∧ 0 < b) : pBin P T .rem (.int k a) (.int k b) K ↔ K (.int k (a % b)) :=
  pBin_i (by simp only [aint]; rw [if_neg (by omega), Int.tmod_eq_emod_of_nonneg h.1])
theorem pBin_quo {T : Nat} {a b : Int} {K : Value → Prop} (h : 0 ≤ a ∧ a ≤ 9223372036854775807 ∧ 0 < b) : pBin P T .quo (.int .i64 a) (.int .i64 b) K ↔ K (.int .i64 (a / b)) :=
  pBin_i (by simp only [aint]; rw [if_neg (by omega), i64_quo a b (by omega)])
theorem pBin_cat {T : Nat} {a b : ByteArray} {K : Value → Prop} (h : a.size + b.size ≤ 9223372036854775807) : pBin P T .add (.string a) (.string b) K ↔ K (.string (a ++ b)) :=
  pBin_s (by
    have e : IntKind.i64.max = 9223372036854775807 := by decide
    simp only [astr, e]
    rw [if_neg (by omega)])
theorem pIndexStr_s {s : ByteArray} {j : Nat} {K : Value → Prop} (h : j < s.size) (hK : K (.int .u8 ((s[j]'h).toNat : Int))) : pIndexStr (.string s) (.int .i64 j) K :=
  ⟨s, .i64, j, rfl, rfl, by omega, h, hK⟩
end
end Go.Av

/- Lists that grow by append, in a row of our own; elements that need no row; elements that are read in what is older. -/
set_option linter.unusedVariables false
set_option linter.unusedSimpArgs false
namespace Go.Av
open Go Go.RowKit

section
variable {P : Program} {w0 : World} {σ σ' : Vw} {α : Type}

/-! ### Elements that are read by a reader that is fixed -/
def RB (Rel : (Addr → Option Value) → List Value → α → Prop) (rd0 : Addr → Option Value) (rd : Addr → Option Value) (es : List Value) (x : α) : Prop := Rel rd0 es x
/-- What a rule of reading must keep. -/
structure ROk (n : Nat) (Rel : (Addr → Option Value) → List Value → α → Prop) : Prop where
  mono : ∀ rd rd' es x, Le rd rd' → Rel rd es x → Rel rd' es x
  len : ∀ rd es x, Rel rd es x → es.length = n
  one : ∀ rd es x, Rel rd es x → ∀ c, c ∈ es → c.oneCell' = true
/-! ### Elements that need no row -/
/-! ### Growing lists -/
def OAcc (w0 : World) (ety n : Nat) (O : Vw → List Nat → List Value → α → Prop) (σ : Vw) (F : List Nat) (v : Value) (xs : List α) : Prop :=
  xs.length ≤ 9223372036854775807 ∧ F.Nodup ∧ ((v = .slice none 0 0 ∧ xs = [] ∧ F = []) ∨
  ∃ (b cap : Nat) (css : List (List Value)) (Fs : List (List Nat)), v = .slice (some ⟨b, 0, none⟩) xs.length cap ∧ (xs.length ≤ cap ∧ cap ≤ 9223372036854775807) ∧ w0.heap.size ≤ b ∧ σ b = some ⟨ety, css.flatten, cap * n, (0, 0)⟩ ∧
    css.length = xs.length ∧ Fs.length = xs.length ∧ F = b :: Fs.flatten ∧ ∀ (j : Nat) (c : List Value) (x : α) (f : List Nat), css[j]? = some c → xs[j]? = some x → Fs[j]? = some f → O σ f c x)

theorem OAcc.osl {ety n : Nat} {O : Vw → List Nat → List Value → α → Prop} {F : List Nat} {v : Value} {xs : List α} (h : OAcc w0 ety n O σ F v xs) : OSl w0 n O σ F v xs := by
  obtain ⟨h1, h2, h3 | ⟨b, cap, css, Fs, g1, g2, g3, g4, g5, g6, g7, g8⟩⟩ := h
  · exact ⟨h1, h2, .inl h3⟩
  · exact ⟨h1, h2, .inr ⟨b, 0, cap, _, [], [], css, Fs, g1, g2, g3, g4, by simp, rfl, g5, g6, g7, g8⟩⟩
theorem OAcc.frame {ety n : Nat} {Rel : (Addr → Option Value) → List Value → α → Prop} {O : Vw → List Nat → List Value → α → Prop} (ok : OOk w0 n Rel O) {F : List Nat} {v : Value} {xs : List α} (h : OAcc w0 ety n O σ F v xs) (hF : ∀ b, b ∈ F → σ' b = σ b) : OAcc w0 ety n O σ' F v xs := by
  obtain ⟨h1, h2, h3 | ⟨b, cap, css, Fs, g1, g2, g3, g4, g5, g6, g7, g8⟩⟩ := h
  · exact ⟨h1, h2, .inl h3⟩
  · refine ⟨h1, h2, .inr ⟨b, cap, css, Fs, g1, g2, g3, by rw [hF b (by rw [g7]; exact List.mem_cons_self)]; exact g4, g5, g6, g7, fun j c x f e1 e2 e3 => ?_⟩⟩
    refine ok.frame _ _ _ _ _ (g8 j c x f e1 e2 e3) fun i hi => hF i ?_
    rw [g7]
    exact List.mem_cons_of_mem _ (List.mem_flatten.2 ⟨f, List.mem_of_getElem? e3, hi⟩)
theorem OAcc.dom {ety n : Nat} {Rel : (Addr → Option Value) → List Value → α → Prop} {O : Vw → List Nat → List Value → α → Prop} (ok : OOk w0 n Rel O) {F : List Nat} {v : Value} {xs : List α} (h : OAcc w0 ety n O σ F v xs) : ∀ b, b ∈ F → w0.heap.size ≤ b ∧ σ b ≠ none := h.osl.dom ok
theorem OAcc.nil {ety n : Nat} {O : Vw → List Nat → List Value → α → Prop} : OAcc w0 ety n O σ [] (.slice none 0 0) [] := ⟨by simp, by simp, .inl ⟨rfl, rfl, rfl⟩⟩
theorem OAcc.new {ety n b : Nat} {O : Vw → List Nat → List Value → α → Prop} (hb : w0.heap.size ≤ b) : OAcc w0 ety n O (σ.put b ⟨ety, [], 0, (0, 0)⟩) [b] (.slice (some ⟨b, 0, none⟩) 0 0) [] :=
  ⟨by simp, by simp, .inr ⟨b, 0, [], [], rfl, by simp, hb, by rw [put_at]; simp, rfl, rfl, rfl, fun j c x f h => by simp at h⟩⟩

theorem Keeps.but_at {F : List Nat} (h : Keeps σ σ') (hF : ∀ b, b ∈ F → σ b ≠ none) : ∀ b, b ∈ F → σ' b = σ b := fun b hb => by
  cases hs : σ b with
  | none => exact absurd hs (hF b hb)
  | some r => exact h b r hs

/-- Elements are appended, each with rows of its own. -/
theorem OAcc.pushX {ety n bytes m : Nat} {Rel : (Addr → Option Value) → List Value → α → Prop} {O : Vw → List Nat → List Value → α → Prop} (ok : OOk w0 n Rel O) {F : List Nat} {v : Value} {xs ys : List α} {nss : List (List Value)} {Gs : List (List Nat)} {new : List Value}
    (h : OAcc w0 ety n O σ F v xs) (hm : ys.length = m) (hnl : nss.length = m) (hGl : Gs.length = m) (hnew : new = nss.flatten) (hO : ∀ (j : Nat) (c : List Value) (y : α) (g : List Nat), nss[j]? = some c → ys[j]? = some y → Gs[j]? = some g → O σ g c y)
    (hG : Gs.flatten.Nodup) (hGF : ∀ i, i ∈ Gs.flatten → i ∉ F) (hlen : xs.length + m ≤ 1000000000000) (hbytes : bytes ≤ 140) {K : Value → Vw → Prop}
    (hK : ∀ v' F' σ', Ext σ σ' → KeepsBut F σ σ' → OAcc w0 ety n O σ' F' v' (xs ++ ys) → (∀ i, i ∈ F' → i ∈ F ∨ i ∈ Gs.flatten ∨ σ i = none) → K v' σ') : pAppend w0 ety n bytes v m new σ K := by
  have hb47 : (xs.length + m) * bytes ≤ 2 ^ 47 := by
    have h1 : (xs.length + m) * bytes ≤ 1000000000000 * 140 := Nat.mul_le_mul hlen hbytes
    have h2 : (2 : Nat) ^ 47 = 140737488355328 := by decide
    omega
  have hn2 : ∀ c, c ∈ nss → c.length = n := fun c hc => by
    obtain ⟨i, hi⟩ := List.getElem?_of_mem hc
    have hil : i < nss.length := (List.getElem?_eq_some_iff.1 hi).1
    exact ok.len _ _ _ _ (hO i c _ _ hi (List.getElem?_eq_getElem (by omega)) (List.getElem?_eq_getElem (by omega)))
  have hnewl : new.length = m * n := by rw [hnew, flat_len _ hn2, hnl]
  have hGdom : ∀ i, i ∈ Gs.flatten → σ i ≠ none := fun i hi => by
    obtain ⟨j, f, e1, e2⟩ := mem_flat hi
    have hj : j < Gs.length := (List.getElem?_eq_some_iff.1 e1).1
    exact (ok.dom _ _ _ _ (hO j _ _ f (List.getElem?_eq_getElem (by omega)) (List.getElem?_eq_getElem (by omega)) e1) i e2).2
  obtain ⟨h1, h2, ⟨rfl, rfl, rfl⟩ | ⟨b, cap, css, Fs, rfl, g2, g3, g4, g5, g6, g7, g8⟩⟩ := h
  · refine .inr ⟨0, [], ⟨by simp, .inl ⟨rfl, rfl⟩⟩, hnewl, by simpa using (by omega : m ≤ 9223372036854775807), by simpa using hb47, fun v' σ' hg => ?_⟩
    rcases hg with ⟨rfl, rfl, _, h0, _⟩ | ⟨b', c', rfl, g1, g2, rfl, g3, g4⟩
    · have : m = 0 := by omega
      subst this
      have hy : ys = [] := List.length_eq_zero_iff.1 hm
      subst hy
      exact hK _ [] _ (Ext.refl _) (KeepsBut.refl _ _) (by simpa using OAcc.nil) (fun i hi => by cases hi)
    · have hb' : σ b' = none := by
        rcases g4 with h | ⟨n0, c0, h⟩
        · exact h
        · cases h
      have hbG : b' ∉ Gs.flatten := fun hi => hGdom b' hi hb'
      refine hK _ (b' :: Gs.flatten) _ (Keeps.put hb').ext (Keeps.put hb').but ?_ fun i hi => ?_
      · refine ⟨by simp; omega, List.nodup_cons.2 ⟨hbG, hG⟩, .inr ⟨b', c', nss, Gs, by simp [hm], by simp [hm]; omega, g3, by rw [put_at]; simp [hnew], by simp [hm, hnl], by simp [hm, hGl], rfl, fun j c x f e1 e2 e3 => ?_⟩⟩
        simp only [List.nil_append] at e2
        refine ok.frame _ _ _ _ _ (hO j c x f e1 e2 e3) fun i hi => ?_
        have : i ≠ b' := fun e => hbG (e ▸ List.mem_flatten.2 ⟨f, List.mem_of_getElem? e3, hi⟩)
        simp [Vw.put, this]
      · rcases List.mem_cons.1 hi with e | e
        · rw [e]; exact .inr (.inr hb')
        · exact .inr (.inl e)
  · have hn1 : ∀ c, c ∈ css → c.length = n := fun c hc => by
      obtain ⟨i, hi⟩ := List.getElem?_of_mem hc
      have hil : i < css.length := (List.getElem?_eq_some_iff.1 hi).1
      exact ok.len _ _ _ _ (g8 i c _ _ hi (List.getElem?_eq_getElem (by omega)) (List.getElem?_eq_getElem (by omega)))
    have g4' := g4
    rw [g7] at h2
    have hbFs : b ∉ Fs.flatten := (List.nodup_cons.1 h2).1
    have hbG : b ∉ Gs.flatten := fun hi => hGF b hi (by rw [g7]; exact List.mem_cons_self)
    have hFsdom : ∀ i, i ∈ Fs.flatten → σ i ≠ none := fun i hi => by
      obtain ⟨j, f, e1, e2⟩ := mem_flat hi
      have hj : j < Fs.length := (List.getElem?_eq_some_iff.1 e1).1
      exact (ok.dom _ _ _ _ (g8 j _ _ f (List.getElem?_eq_getElem (by omega)) (List.getElem?_eq_getElem (by omega)) e1) i e2).2
    refine .inr ⟨xs.length, css.flatten, ⟨by rw [flat_len _ hn1, g5], .inr ⟨b, cap, rfl, g4, g2.1, g2.2⟩⟩, hnewl, by omega, hb47, fun v' σ' hg => ?_⟩
    rcases hg with ⟨rfl, rfl, h, _⟩ | ⟨b', c', rfl, k1, k2, rfl, k3, k4⟩
    · cases h
    · have hb' : b' ∉ Fs.flatten ∧ b' ∉ Gs.flatten ∧ (b' = b ∨ σ b' = none) := by
        rcases k4 with h | ⟨n0, c0, h⟩
        · exact ⟨fun hi => hFsdom b' hi h, fun hi => hGdom b' hi h, .inr h⟩
        · cases h; exact ⟨hbFs, hbG, .inl rfl⟩
      refine hK _ (b' :: (Fs ++ Gs).flatten) _ ?_ ?_ ?_ fun i hi => ?_
      · rcases hb'.2.2 with rfl | h
        · intro i r hi
          by_cases e : i = b'
          · subst e
            rw [g4'] at hi; cases hi
            exact ⟨_, put_at, List.prefix_append _ _⟩
          · exact ⟨r, by simp [Vw.put, e, hi], List.prefix_refl _⟩
        · exact (Keeps.put h).ext
      · rcases hb'.2.2 with rfl | h
        · exact KeepsBut.put (by rw [g7]; exact List.mem_cons_self)
        · exact (Keeps.put h).but
      · refine ⟨by simp; omega, ?_, .inr ⟨b', c', css ++ nss, Fs ++ Gs, by simp [hm], by simp [hm]; omega, k3, by rw [put_at, hnew]; simp, by simp [hm, hnl, g5], by simp [hm, hGl, g6], rfl, fun j c x f e1 e2 e3 => ?_⟩⟩
        · rw [List.flatten_append, List.nodup_cons]
          refine ⟨fun hi => ?_, List.nodup_append.2 ⟨(List.nodup_cons.1 h2).2, hG, fun a ha d hd e => hGF d hd (by rw [g7, ← e]; exact List.mem_cons_of_mem _ ha)⟩⟩
          rcases List.mem_append.1 hi with h | h
          · exact hb'.1 h
          · exact hb'.2.1 h
        · have hput : ∀ i, i ≠ b' → (σ.put b' ⟨ety, css.flatten ++ new, c' * n, (0, 0)⟩) i = σ i := fun i hi => by simp [Vw.put, hi]
          by_cases hj : j < xs.length
          · rw [List.getElem?_append_left (by omega)] at e1 e2 e3
            exact ok.frame _ _ _ _ _ (g8 j c x f e1 e2 e3) fun i hi => hput i fun e => hb'.1 (e ▸ List.mem_flatten.2 ⟨f, List.mem_of_getElem? e3, hi⟩)
          · rw [List.getElem?_append_right (by omega)] at e1 e2 e3
            rw [g5] at e1; rw [g6] at e3
            exact ok.frame _ _ _ _ _ (hO _ c x f e1 e2 e3) fun i hi => hput i fun e => hb'.2.1 (e ▸ List.mem_flatten.2 ⟨f, List.mem_of_getElem? e3, hi⟩)
      · rw [g7]
        rcases List.mem_cons.1 hi with e | e
        · rw [e]
          rcases hb'.2.2 with rfl | h
          · exact .inl List.mem_cons_self
          · exact .inr (.inr h)
        · rw [List.flatten_append] at e
          rcases List.mem_append.1 e with h | h
          · exact .inl (List.mem_cons_of_mem _ h)
          · exact .inr (.inl h)

/-- One element is appended. -/
theorem OAcc.oneX {ety n bytes : Nat} {Rel : (Addr → Option Value) → List Value → α → Prop} {O : Vw → List Nat → List Value → α → Prop} (ok : OOk w0 n Rel O) {F f : List Nat} {v : Value} {xs : List α} {y : α} {es : List Value}
    (h : OAcc w0 ety n O σ F v xs) (hy : O σ f es y) (hf : ∀ i, i ∈ f → i ∉ F) (hlen : xs.length + 1 ≤ 1000000000000) (hbytes : bytes ≤ 140) {K : Value → Vw → Prop}
    (hK : ∀ v' F' σ', Ext σ σ' → KeepsBut F σ σ' → OAcc w0 ety n O σ' F' v' (xs ++ [y]) → (∀ i, i ∈ F' → i ∈ F ∨ i ∈ f ∨ σ i = none) → K v' σ') : allOne es ∧ pAppend w0 ety n bytes v 1 es σ K := by
  refine ⟨ok.one _ _ _ _ hy, ?_⟩
  refine h.pushX ok (ys := [y]) (nss := [es]) (Gs := [f]) rfl rfl rfl (by simp) (fun j c z g e1 e2 e3 => ?_) (by simpa using ok.nodup _ _ _ _ hy) (by simpa using hf) hlen hbytes (by simpa using hK)
  cases j with
  | zero => simp at e1 e2 e3; subst e1 e2 e3; exact hy
  | succ j => simp at e1

/-- All elements of a list that is read are appended; they need no rows of their own. -/
theorem OAcc.allX {ety n bytes : Nat} {Rel Rel0 : (Addr → Option Value) → List Value → α → Prop} {O : Vw → List Nat → List Value → α → Prop} (ok : OOk w0 n Rel O) {rd0 : Addr → Option Value} {F : List Nat} {v s : Value} {xs ys : List α}
    (h : OAcc w0 ety n O σ F v xs) (hs : RSl n Rel0 rd0 s ys) (hle : Le rd0 (Av.get w0 σ)) (hO : ∀ es y, Rel0 rd0 es y → O σ [] es y) (hlen : xs.length + ys.length ≤ 1000000000000) (hbytes : bytes ≤ 140) {K : Value → Vw → Prop}
    (hK : ∀ v' F' σ', Ext σ σ' → KeepsBut F σ σ' → OAcc w0 ety n O σ' F' v' (xs ++ ys) → (∀ i, i ∈ F' → i ∈ F ∨ σ i = none) → K v' σ') : pAppendS w0 ety n bytes v s σ K := by
  obtain ⟨A, cap, rfl, hc, hel⟩ := hs
  obtain ⟨css, hcl, hcs⟩ := listOf (fun i (c : List Value) => ∃ a y, A = some a ∧ ys[i]? = some y ∧ c.length = n ∧ (∀ k, k < n → rd0 (a.add (i * n + k)) = c[k]?) ∧ Rel0 rd0 c y) ys.length (fun i hi => by
    obtain ⟨a, es, h1, h2, h3, h4⟩ := hel i _ (List.getElem?_eq_getElem hi)
    exact ⟨es, a, _, h1, List.getElem?_eq_getElem hi, h2, h3, h4⟩)
  have hn : ∀ c, c ∈ css → c.length = n := fun c hc => by
    obtain ⟨i, hi⟩ := List.getElem?_of_mem hc
    obtain ⟨_, _, _, _, h, _⟩ := hcs i c hi
    exact h
  refine ⟨A, ys.length, cap, css.flatten, rfl, by rw [flat_len _ hn, hcl], ?_, ?_, ?_⟩
  · intro c hc
    obtain ⟨es, he, hce⟩ := List.mem_flatten.1 hc
    obtain ⟨i, hi⟩ := List.getElem?_of_mem he
    obtain ⟨a, y, _, _, _, _, hR⟩ := hcs i es hi
    exact ok.one _ _ _ _ (hO _ _ hR) c hce
  · intro j hj
    rw [flat_len _ hn, hcl] at hj
    have hn0 : 0 < n := by
      rcases Nat.eq_zero_or_pos n with e | e
      · subst e; omega
      · exact e
    have hq : j / n < css.length := by rw [hcl]; exact (Nat.div_lt_iff_lt_mul hn0).2 hj
    obtain ⟨a, y, hA, hy, hl, hk, hR⟩ := hcs (j / n) _ (List.getElem?_eq_getElem hq)
    have hr : j % n < n := Nat.mod_lt _ hn0
    have hdm : j / n * n + j % n = j := by rw [Nat.mul_comm]; exact Nat.div_add_mod j n
    refine ⟨a, hA, ?_⟩
    have e1 := flat_get css hn (j / n) _ (List.getElem?_eq_getElem hq) (j % n) hr
    rw [hdm] at e1
    have e2 := hk (j % n) hr
    rw [hdm, ← e1] at e2
    have hj' : j < css.flatten.length := by rw [flat_len _ hn, hcl]; exact hj
    rw [List.getElem?_eq_getElem hj'] at e2
    exact hle _ _ e2
  · refine h.pushX ok (ys := ys) (nss := css) (Gs := List.replicate ys.length []) rfl hcl (by simp) rfl (fun j c y g e1 e2 e3 => ?_) (by simp) (by simp) hlen hbytes (by simpa using hK)
    obtain ⟨a, y', _, hy, _, _, hR⟩ := hcs j c e1
    rw [e2] at hy; cases hy
    rw [List.getElem?_replicate] at e3
    split at e3
    · cases e3; exact hO _ _ hR
    · cases e3

/-- All elements of a list of our own are appended, with their rows. -/
theorem OAcc.allOwnX {ety n bytes : Nat} {Rel : (Addr → Option Value) → List Value → α → Prop} {O : Vw → List Nat → List Value → α → Prop} (ok : OOk w0 n Rel O) {F G : List Nat} {v s : Value} {xs ys : List α}
    (h : OAcc w0 ety n O σ F v xs) (hs : OSl w0 n O σ G s ys) (hGF : ∀ i, i ∈ G → i ∉ F) (hlen : xs.length + ys.length ≤ 1000000000000) (hbytes : bytes ≤ 140) {K : Value → Vw → Prop}
    (hK : ∀ v' F' σ', Ext σ σ' → KeepsBut F σ σ' → OAcc w0 ety n O σ' F' v' (xs ++ ys) → (∀ i, i ∈ F' → i ∈ F ∨ i ∈ G ∨ σ i = none) → K v' σ') : pAppendS w0 ety n bytes v s σ K := by
  obtain ⟨s1, s2, ⟨rfl, rfl, rfl⟩ | ⟨b, off, cap, r, pre, post, css, Gs, rfl, gc, g2, g3, g4, g5, g6, g7, g8, g9⟩⟩ := hs
  · refine ⟨none, 0, 0, [], rfl, by simp, by simp, fun j hj => by simp at hj, ?_⟩
    exact h.pushX ok (ys := []) (nss := []) (Gs := []) rfl rfl rfl rfl (fun j c y g e1 => by simp at e1) (by simp) (by simp) (by simpa using hlen) hbytes (by simpa using hK)
  · have hn : ∀ c, c ∈ css → c.length = n := fun c hc => by
      obtain ⟨i, hi⟩ := List.getElem?_of_mem hc
      have hil : i < css.length := (List.getElem?_eq_some_iff.1 hi).1
      exact ok.len _ _ _ _ (g9 i c _ _ hi (List.getElem?_eq_getElem (by omega)) (List.getElem?_eq_getElem (by omega)))
    rw [g8] at s2
    refine ⟨_, ys.length, cap, css.flatten, rfl, by rw [flat_len _ hn, g6], ?_, ?_, ?_⟩
    · intro c hc
      obtain ⟨es, he, hce⟩ := List.mem_flatten.1 hc
      obtain ⟨i, hi⟩ := List.getElem?_of_mem he
      have hil : i < css.length := (List.getElem?_eq_some_iff.1 hi).1
      exact ok.one _ _ _ _ (g9 i es _ _ hi (List.getElem?_eq_getElem (by omega)) (List.getElem?_eq_getElem (by omega))) c hce
    · intro j hj
      refine ⟨_, rfl, ?_⟩
      rw [addr_add, get_row g2 g3, g4, List.getElem?_append_right (by omega), List.getElem?_append_left (by omega), ← List.getElem?_eq_getElem hj]
      congr 1; omega
    · refine h.pushX ok (ys := ys) (nss := css) (Gs := Gs) rfl g6 g7 rfl g9 (List.nodup_cons.1 s2).2 (fun i hi => hGF i (by rw [g8]; exact List.mem_cons_of_mem _ hi)) hlen hbytes fun v' F' σ' k0 k1 k2 k3 => hK v' F' σ' k0 k1 k2 fun i hi => ?_
      rcases k3 i hi with h | h | h
      · exact .inl h
      · exact .inr (.inl (by rw [g8]; exact List.mem_cons_of_mem _ h))
      · exact .inr (.inr h)
theorem OAcc.push {ety n bytes m : Nat} {Rel : (Addr → Option Value) → List Value → α → Prop} {O : Vw → List Nat → List Value → α → Prop} (ok : OOk w0 n Rel O) {F : List Nat} {v : Value} {xs ys : List α} {nss : List (List Value)} {Gs : List (List Nat)} {new : List Value}
    (h : OAcc w0 ety n O σ F v xs) (hm : ys.length = m) (hnl : nss.length = m) (hGl : Gs.length = m) (hnew : new = nss.flatten) (hO : ∀ (j : Nat) (c : List Value) (y : α) (g : List Nat), nss[j]? = some c → ys[j]? = some y → Gs[j]? = some g → O σ g c y)
    (hG : Gs.flatten.Nodup) (hGF : ∀ i, i ∈ Gs.flatten → i ∉ F) (hlen : xs.length + m ≤ 1000000000000) (hbytes : bytes ≤ 140) {K : Value → Vw → Prop}
    (hK : ∀ v' F' σ', KeepsBut F σ σ' → OAcc w0 ety n O σ' F' v' (xs ++ ys) → (∀ i, i ∈ F' → i ∈ F ∨ i ∈ Gs.flatten ∨ σ i = none) → K v' σ') : pAppend w0 ety n bytes v m new σ K :=
  OAcc.pushX ok h hm hnl hGl hnew hO hG hGF hlen hbytes fun v' F' σ' _ => hK v' F' σ'
theorem OAcc.one {ety n bytes : Nat} {Rel : (Addr → Option Value) → List Value → α → Prop} {O : Vw → List Nat → List Value → α → Prop} (ok : OOk w0 n Rel O) {F f : List Nat} {v : Value} {xs : List α} {y : α} {es : List Value}
    (h : OAcc w0 ety n O σ F v xs) (hy : O σ f es y) (hf : ∀ i, i ∈ f → i ∉ F) (hlen : xs.length + 1 ≤ 1000000000000) (hbytes : bytes ≤ 140) {K : Value → Vw → Prop}
    (hK : ∀ v' F' σ', KeepsBut F σ σ' → OAcc w0 ety n O σ' F' v' (xs ++ [y]) → (∀ i, i ∈ F' → i ∈ F ∨ i ∈ f ∨ σ i = none) → K v' σ') : allOne es ∧ pAppend w0 ety n bytes v 1 es σ K :=
  OAcc.oneX ok h hy hf hlen hbytes fun v' F' σ' _ => hK v' F' σ'
theorem OAcc.all {ety n bytes : Nat} {Rel Rel0 : (Addr → Option Value) → List Value → α → Prop} {O : Vw → List Nat → List Value → α → Prop} (ok : OOk w0 n Rel O) {rd0 : Addr → Option Value} {F : List Nat} {v s : Value} {xs ys : List α}
    (h : OAcc w0 ety n O σ F v xs) (hs : RSl n Rel0 rd0 s ys) (hle : Le rd0 (Av.get w0 σ)) (hO : ∀ es y, Rel0 rd0 es y → O σ [] es y) (hlen : xs.length + ys.length ≤ 1000000000000) (hbytes : bytes ≤ 140) {K : Value → Vw → Prop}
    (hK : ∀ v' F' σ', KeepsBut F σ σ' → OAcc w0 ety n O σ' F' v' (xs ++ ys) → (∀ i, i ∈ F' → i ∈ F ∨ σ i = none) → K v' σ') : pAppendS w0 ety n bytes v s σ K :=
  OAcc.allX ok h hs hle hO hlen hbytes fun v' F' σ' _ => hK v' F' σ'
theorem OAcc.allOwn {ety n bytes : Nat} {Rel : (Addr → Option Value) → List Value → α → Prop} {O : Vw → List Nat → List Value → α → Prop} (ok : OOk w0 n Rel O) {F G : List Nat} {v s : Value} {xs ys : List α}
    (h : OAcc w0 ety n O σ F v xs) (hs : OSl w0 n O σ G s ys) (hGF : ∀ i, i ∈ G → i ∉ F) (hlen : xs.length + ys.length ≤ 1000000000000) (hbytes : bytes ≤ 140) {K : Value → Vw → Prop}
    (hK : ∀ v' F' σ', KeepsBut F σ σ' → OAcc w0 ety n O σ' F' v' (xs ++ ys) → (∀ i, i ∈ F' → i ∈ F ∨ i ∈ G ∨ σ i = none) → K v' σ') : pAppendS w0 ety n bytes v s σ K :=
  OAcc.allOwnX ok h hs hGF hlen hbytes fun v' F' σ' _ => hK v' F' σ'
end
end Go.Av

/- A part of a list that is read; slices of texts. -/
set_option linter.unusedVariables false
set_option linter.unusedSimpArgs false
namespace Go.Av
open Go Go.RowKit

section
variable {P : Program} {w0 : World} {σ σ' : Vw} {α : Type}

theorem RSl.slice {n : Nat} {R : (Addr → Option Value) → List Value → α → Prop} {rd : Addr → Option Value} {v : Value} {xs : List α} (h : RSl n R rd v xs) {lo hi : Option Value} {l u : Nat} (hl : boundOf 0 lo = some (l : Int)) (hu : boundOf xs.length hi = some (u : Int)) (hlu : l ≤ u) (hux : u ≤ xs.length) {K : Value → Prop}
    (hK : ∀ v', RSl n R rd v' ((xs.take u).drop l) → K v') : pSlice n v lo hi K := by
  obtain ⟨A, cap, rfl, h2, h3⟩ := h
  refine ⟨A, xs.length, cap, l, u, rfl, hl, hu, by omega, by omega, by omega, hK _ ?_⟩
  have hlen : ((xs.take u).drop l).length = u - l := by rw [List.length_drop, List.length_take]; omega
  simp only [Int.toNat_natCast]
  refine ⟨if cap = l then A else Option.map (fun x => x.add (l * n)) A, cap - l, by rw [hlen], by rw [hlen]; omega, fun j x hj => ?_⟩
  rw [List.getElem?_drop] at hj
  have hlt : l + j < u := by
    rcases Nat.lt_or_ge (l + j) u with h | h
    · exact h
    · rw [List.getElem?_eq_none (by rw [List.length_take]; omega)] at hj; cases hj
  rw [List.getElem?_take_of_lt hlt] at hj
  obtain ⟨a, es, rfl, g1, g2, g3⟩ := h3 _ x hj
  refine ⟨a.add (l * n), es, ?_, g1, fun i hi => ?_, g3⟩
  · rw [if_neg (by omega)]; rfl
  · rw [add_add, ← g2 i hi]
    congr 2
    rw [Nat.add_mul]; omega

/-- A field of an element is read. -/
theorem RSl.atp {n : Nat} {R : (Addr → Option Value) → List Value → α → Prop} {v : Value} {xs : List α} (h : RSl n R (Av.get w0 σ) v xs) {j : Nat} {x : α} (hj : xs[j]? = some x) {K : Value → (Nat → Value) → Prop} (hK : ∀ (p : Value) (g : Nat → Value), R (Av.get w0 σ) (expl g 0 n) x → K p g) :
    pIndexAddr n v (.int .i64 j) fun p => pLoad w0 n p σ (K p) := by
  have h' := h
  obtain ⟨A, cap, rfl, _, h3⟩ := h
  obtain ⟨a, es, rfl, h5, h6, h7⟩ := h3 j x hj
  have hlt : j < xs.length := (List.getElem?_eq_some_iff.1 hj).1
  refine ⟨a, xs.length, cap, .i64, j, rfl, rfl, by omega, by omega, a.add (j * n), fun i => es.getD i undef, rfl, fun i hi => ?_, hK _ _ ?_⟩
  · have := h6 i hi
    have hlt : i < es.length := by omega
    rw [add_add]
    show Av.get w0 σ (a.add (j * n + i)) = _
    rw [this, List.getElem?_eq_getElem hlt]
    simp only [List.getD_eq_getElem?_getD, List.getElem?_eq_getElem hlt, Option.getD_some]
  · have : expl (fun i => es.getD i undef) 0 n = es := by
      apply List.ext_getElem?
      intro i
      by_cases hi : i < n
      · rw [expl_get _ _ _ _ hi, Nat.zero_add, List.getD_eq_getElem?_getD]
        have hlt : i < es.length := by omega
        rw [List.getElem?_eq_getElem hlt]; rfl
      · rw [List.getElem?_eq_none (by rw [length_expl]; omega), List.getElem?_eq_none (by omega)]
    rw [this]; exact h7
theorem RSl.atfp {n : Nat} {R : (Addr → Option Value) → List Value → α → Prop} {v : Value} {xs : List α} (h : RSl n R (Av.get w0 σ) v xs) {j : Nat} {x : α} (hj : xs[j]? = some x) (o : Nat) (ho : o < n) {K : Value → (Nat → Value) → Prop} (hK : ∀ (q : Value) (es : List Value) (g : Nat → Value), R (Av.get w0 σ) es x → es[o]? = some (g 0) → K q g) :
    pIndexAddr n v (.int .i64 j) fun p => pField o p fun q => pLoad w0 1 q σ (K q) := by
  obtain ⟨A, cap, rfl, _, h3⟩ := h
  obtain ⟨a, es, rfl, h5, h6, h7⟩ := h3 j x hj
  have hlt : j < xs.length := (List.getElem?_eq_some_iff.1 hj).1
  refine ⟨a, xs.length, cap, .i64, j, rfl, rfl, by omega, by omega, a.add (j * n), rfl, (a.add (j * n)).add o, fun _ => es.getD o undef, rfl, fun i hi => ?_, hK _ es _ h7 ?_⟩
  · have e : i = 0 := by omega
    subst e
    have := h6 o ho
    rw [add_add, add_add, Nat.add_zero, this, List.getElem?_eq_getElem (by omega)]
    simp only [List.getD_eq_getElem?_getD, List.getElem?_eq_getElem (show o < es.length by omega), Option.getD_some]
  · simp only [List.getD_eq_getElem?_getD, List.getElem?_eq_getElem (show o < es.length by omega), Option.getD_some]

theorem RSl.atf {n : Nat} {R : (Addr → Option Value) → List Value → α → Prop} {v : Value} {xs : List α} (h : RSl n R (Av.get w0 σ) v xs) {j : Nat} {x : α} (hj : xs[j]? = some x) (o : Nat) (ho : o < n) {K : (Nat → Value) → Prop} (hK : ∀ (es : List Value) (g : Nat → Value), R (Av.get w0 σ) es x → es[o]? = some (g 0) → K g) :
    pIndexAddr n v (.int .i64 j) fun p => pField o p fun q => pLoad w0 1 q σ K :=
  h.atfp hj o ho fun q => hK

end
end Go.Av

/- Marks of texts. -/
set_option linter.unusedVariables false
set_option linter.unusedSimpArgs false
namespace Go.Proofs.Ytlbpnfhhoalenaa
open Go Go.Av

/-- How many figures a number has. -/
def figs (k : Nat) : Nat := if h : k = 0 then 0 else figs (k / 10) + 1
termination_by k
theorem figs_le (k : Nat) : figs k ≤ k := by
  induction k using Nat.strongRecOn with
  | _ k ih =>
    rw [figs]
    by_cases h : k = 0
    · simp [h]
    · rw [dif_neg h]
      have := ih (k / 10) (by omega)
      omega
def digit (n : Nat) : ByteArray := strOfNums [((48 + n % 10 : Nat) : Int)]
theorem size_strOfNums (xs : List Int) : (strOfNums xs).size = xs.length := by
  simp [strOfNums, ByteArray.size]
/-- The figures of a number, ahead of a text. -/
def mtxt (k : Nat) (out : ByteArray) : ByteArray := if h : k = 0 then out else mtxt (k / 10) (digit k ++ out)
termination_by k
theorem mtxt_size (k : Nat) : ∀ out, (mtxt k out).size = out.size + figs k := by
  induction k using Nat.strongRecOn with
  | _ k ih =>
    intro out
    rw [mtxt, figs]
    by_cases h : k = 0
    · simp [h]
    · rw [dif_neg h, dif_neg h, ih (k / 10) (by omega), ByteArray.size_append, digit, size_strOfNums]
      simp; omega
/-- What marks the number k. -/
def mtext (k : Nat) : ByteArray := if k = 0 then ⟨#[109, 48]⟩ else ⟨#[109]⟩ ++ mtxt k ⟨#[]⟩
theorem mtext_size {k : Nat} (h : k ≤ 1000000000000) : (mtext k).size ≤ 9223372036854775807 := by
  unfold mtext
  split
  · show 2 ≤ _; omega
  · rw [ByteArray.size_append, mtxt_size]
    have := figs_le k
    show 1 + (0 + _) ≤ _
    omega

section
variable {w0 : World} {σ : Vw}

theorem markText {k : Nat} (hk : k ≤ 1000000000000) {R : Value → Vw → Prop} (hR : ∀ σ', Keeps σ σ' → R (.string (mtext k)) σ') : AC Try.prog w0 n_laws_markText [.int .i64 (k : Nat)] σ R := by
  refine ac_laws_markText ?_
  unfold vc_laws_markText
  rw [pBin_le, pIf_d]
  refine ⟨fun h => ?_, fun h => ?_⟩
  · have : k = 0 := by omega
    subst this
    exact hR σ (Keeps.refl σ)
  · have hk0 : k ≠ 0 := by omega
    have e : mtext k = ⟨#[109]⟩ ++ mtxt k ⟨#[]⟩ := by rw [mtext, if_neg hk0]
    rw [e] at hR
    have hf := figs_le k
    refine loop_rule (m := figs k) (fun m l s => ∃ (n : Nat) (out : ByteArray), m = figs n ∧ n ≤ k ∧ out.size + figs n ≤ 1000000000000 ∧ mtxt n out = mtxt k ⟨#[]⟩ ∧ Keeps σ s ∧ l = [.int .i64 (n : Nat), .string out]) ?_ ⟨k, ⟨#[]⟩, rfl, Nat.le_refl _, by show 0 + _ ≤ _; omega, rfl, Keeps.refl σ, rfl⟩
    rintro m l s L ⟨n, out, rfl, hn, hsz, hm, hkp, rfl⟩ hL
    simp only [vget, List.getD_cons_zero, List.getD_cons_succ]
    rw [pBin_gt, pIf_d]
    refine ⟨fun hpos => ?_, fun h0 => ?_⟩
    · have hn0 : n ≠ 0 := by omega
      have hfig : figs n = figs (n / 10) + 1 := by rw [figs, dif_neg hn0]
      rw [pBin_rem (by omega), pBin_add (by omega)]
      show pConvInt .u8 _ _
      rw [pConv_u8 (by omega), show (48 + ((n : Int) % 10)) = ((48 + n % 10 : Nat) : Int) by omega, pVal1 rfl]
      intro b h1 h2
      refine pStr1 (by rw [get_row h1 put_at]; rfl) ?_
      show pBin Try.prog 9 .add (.string (digit n)) _ _
      have hd : (digit n).size = 1 := by rw [digit, size_strOfNums]; rfl
      rw [pBin_cat (by omega)]
      rw [pBin_quo (by omega), show ((n : Int) / 10) = ((n / 10 : Nat) : Int) by omega]
      refine hL _ _ (figs (n / 10)) hfig.symm ⟨n / 10, digit n ++ out, rfl, by omega, by rw [ByteArray.size_append, hd]; omega, ?_, hkp.trans (Keeps.put h2), rfl⟩
      rw [← hm]; conv => rhs; rw [mtxt, dif_neg hn0]
    · have hn0 : n = 0 := by omega
      subst hn0
      rw [mtxt, dif_pos rfl] at hm
      subst hm
      have hs := mtxt_size k ⟨#[]⟩
      show pBin Try.prog 9 .add (.string ⟨#[109]⟩) _ _
      rw [pBin_cat (by rw [hs]; show 1 + (0 + _) ≤ _; omega)]
      exact hR s hkp

abbrev mkTexts (k : Nat) (xs : List ByteArray) : List ByteArray := mkS (fun k _ => mtext k) (fun _ => 1) k xs
theorem sum_one {α : Type} (xs : List α) : sumBy (fun _ => 1) xs = xs.length := by
  induction xs with
  | nil => rfl
  | cons a r ih => simp only [sumBy, ih, List.length_cons]; omega

theorem markStringS {F : List Nat} {v : Value} {xs : List ByteArray} {k : Nat} (h : OStrs w0 σ F v xs) (hk : k + xs.length ≤ 1000000000000) {R : Value → Vw → Prop}
    (hR : ∀ σ', KeepsBut F σ σ' → OStrs w0 σ' F v (mkTexts k xs) → R (.int .i64 ((k + xs.length : Nat) : Int)) σ') : AC Try.prog w0 n_laws_markStringS [v, .int .i64 (k : Nat)] σ R := by
  refine ac_laws_markStringS ?_
  unfold vc_laws_markStringS
  have e := sum_one xs
  rw [← e] at hk hR
  refine mark_loop (ok_str w0) (mk := fun k _ => mtext k) (cnt := fun _ => 1) h hk ?_ hR
  intro j x k' s ys K hj hlen hkb hx hk' hO hyj hK
  simp only [vget, List.getD_cons_zero, List.getD_cons_succ]
  refine markText (by omega) fun s1 k1 => ?_
  have hO1 := hO.frame (ok_str w0) (σ' := s1) (fun b hb => by
    cases hs : s b with
    | none => exact absurd hs (hO.dom (ok_str w0) b hb).2
    | some r => exact k1 b r hs)
  obtain ⟨b, o, f, c, A, C, r, hix, hb, hr, hc, hA, hOx, hbF, hf, hput⟩ := hO1.focus (ok_str w0) hyj
  obtain ⟨rfl, rfl, hsz⟩ := hOx
  refine hix _ ?_
  refine elem_store hr hc hA rfl ?_
  rw [pBin_add (by omega)]
  rw [pBin_add (by have := h.1; omega)]
  have hO2 := hput (s1.put b { r with cells := A ++ ([.string (mtext k')] ++ C) }) [.string (mtext k')] (mtext k') _ put_at rfl ⟨rfl, rfl, mtext_size (by omega)⟩ (fun i hi hne _ => by simp [Vw.put, hne])
  have := hK _ (k1.but.trans (KeepsBut.put hbF)) hO2
  simpa using this

theorem heldStringS {v : Value} {xs : List ByteArray} {k : Nat} (h : RSl 1 RS (Av.get w0 σ) v (mkTexts k xs)) (hk : k + xs.length ≤ 1000000000000) {R : Value → Vw → Prop}
    (hR : ∀ σ', Keeps σ σ' → R (.int .i64 ((k + xs.length : Nat) : Int)) σ') : AC Try.prog w0 n_laws_heldStringS [v, .int .i64 (k : Nat)] σ R := by
  refine ac_laws_heldStringS ?_
  unfold vc_laws_heldStringS
  have e := sum_one xs
  rw [← e] at hk hR
  refine held_loop (n := 1) (Rel := RS) (fun _ _ _ _ hl h => mono_rs hl h) (mk := fun k _ => mtext k) (cnt := fun _ => 1) h hk ?_ hR
  intro j x k' s K hj hkb hx hk' hrd hyj hK
  simp only [vget, List.getD_cons_zero, List.getD_cons_succ]
  have hl := h.le
  rw [mkS_len] at hl
  refine RSl.atp hrd hyj fun p g hg => ?_
  obtain ⟨hg, hs⟩ := hg
  simp only [expl, List.cons.injEq, and_true] at hg
  refine markText (by omega) fun s1 k1 => ⟨k1.stay, ?_⟩
  rw [hg, pBin_sne, pIf_d]
  refine ⟨fun h => absurd rfl h, fun _ => ?_⟩
  rw [pBin_add (by omega)]
  rw [pBin_add (by omega)]
  have := hK _ k1
  simpa using this
end
end Go.Proofs.Ytlbpnfhhoalenaa

/- Rows of our own: cells stored, an element taken out in place, the copy of two lists in any order. -/
set_option linter.unusedVariables false
set_option linter.unusedSimpArgs false
namespace Go.Av
open Go Go.RowKit

section
variable {P : Program} {w0 : World} {σ σ' : Vw} {α γ : Type}

theorem cell_store {b o : Nat} {r : Row} {A c C new : List Value} {K : Vw → Prop} (hr : σ b = some r) (hc : r.cells = A ++ (c ++ C)) (hA : A.length = o) (hl : c.length = new.length)
    (hK : K (σ.put b { r with cells := A ++ (new ++ C) })) : pStore (.pointer (some ⟨b, o, none⟩)) new σ K := by
  refine ⟨b, o, r, rfl, hr, by rw [hc]; simp only [List.length_append]; omega, ?_⟩
  rw [hc, ← hA, setAt_mid A c new C hl]
  exact hK

/-- An element of a list of our own is written, all its cells. -/
theorem OSl.store {n : Nat} {Rel : (Addr → Option Value) → List Value → α → Prop} {O : Vw → List Nat → List Value → α → Prop} (ok : OOk w0 n Rel O) {F : List Nat} {v : Value} {xs : List α} (h : OSl w0 n O σ F v xs) {j : Nat} {x y : α} {new : List Value} (hj : xs[j]? = some x)
    (hO : ∀ f c σ', O σ f c x → O σ' f new y) (hn : new.length = n) {K : Vw → Prop}
    (hK : ∀ σ', KeepsBut F σ σ' → OSl w0 n O σ' F v (xs.set j y) → K σ') : pIndexAddr n v (.int .i64 j) fun p => pStore p new σ K := by
  obtain ⟨b, o, f, c, A, C, r, hix, hb, hr, hc, hA, hOx, hbF, hf, hput⟩ := h.focus ok hj
  refine hix _ ?_
  have hcl := ok.len _ _ _ _ hOx
  refine cell_store hr hc hA (by rw [hcl, hn]) ?_
  exact hK _ (KeepsBut.put hbF) (hput _ new y _ put_at rfl (hO _ _ _ hOx) fun i hi hne _ => by simp [Vw.put, hne])

theorem fresh_in {F F' : List Nat} {σ s : Vw} (k : Keeps σ s) (hF : ∀ i, i ∈ F → σ i = none) (h : ∀ i, i ∈ F' → i ∈ F ∨ s i = none) : ∀ i, i ∈ F' → σ i = none := fun i hi => by
  rcases h i hi with e | e
  · exact hF i e
  · cases hs : σ i with
    | none => rfl
    | some r => rw [k i r hs] at e; cases e
theorem KeepsBut.dom {F : List Nat} {σ σ' : Vw} (k : KeepsBut F σ σ') {i : Nat} (h : σ i ≠ none) (hF : i ∉ F) : σ' i ≠ none := by
  cases hs : σ i with
  | none => exact absurd hs h
  | some r => rw [k i r hs hF]; simp

/-! ### An element is taken out, in place -/
end
end Go.Av

/- Trees: their copy, their comparison. -/
set_option linter.unusedVariables false
set_option linter.unusedSimpArgs false
namespace Go.Proofs.Ytlbpnfhhoalenaa
open Go Go.Av

section
variable {w0 : World}

/-- No list in it is too long. -/
def fitT : Nat → Tr → Prop
  | 0, _ => True
  | n + 1, .mk d m t ns ks => ns.length ≤ 1000000000000 ∧ ks.length ≤ 1000000000000 ∧ ∀ k, k ∈ ks → fitT n k
theorem fit_of : ∀ (n : Nat) (x : Tr), szT n x ≤ 1000000000000 → fitT n x
  | 0, _, _ => trivial
  | n + 1, .mk d m t ns ks, h => by
    simp only [szT] at h
    refine ⟨by omega, by omega, fun k hk => fit_of n k ?_⟩
    have := sumBy_mem (f := szT n) hk
    omega

theorem toTree : ∀ (n : Nat) {σ : Vw} {es : List Value} {x : Tr} {R : Value → Vw → Prop}, RT n (Av.get w0 σ) es x → fitT n x → (∀ es' F σ', Keeps σ σ' → OT w0 n σ' F es' x → (∀ b, b ∈ F → σ b = none) → R (.agg ⟨es'⟩) σ') → AC Try.prog w0 n_laws_toTree [.agg ⟨es⟩] σ R
  | 0, _, _, _, _, h, _, _ => h.elim
  | n + 1, σ, es, .mk d md t ns ks, R, h, hf, hR => by
    obtain ⟨u, w, rfl, h2, h3, h4, h5⟩ := h
    obtain ⟨f1, f2, f3⟩ := hf
    refine ac_laws_toTree ?_
    unfold vc_laws_toTree
    rw [pVal_5 rfl rfl rfl h4.one h5.one]
    simp only [cellOf_agg, List.getD_cons_zero, List.getD_cons_succ]
    rw [pVal1 rfl, pVal1 rfl, pVal1 rfl]
    refine toStringS' h4 f1 fun u' F1 s1 k1 o1 n1 => ?_
    rw [pVal1 (OSl.one' o1)]
    refine ac_laws_toTreeS ?_
    have e : ∀ (v : Value) (s : Vw) (R : Value → Vw → Prop), vc_laws_toTreeS w0 v s R = VtoS Try.prog w0 3 t_impl_Tree 5 80 n_laws_toTree [.bool false, .int .i64 0, .string ⟨#[]⟩, .slice none 0 0, .slice none 0 0] v s R := fun v s R => by kernel_rfl
    rw [e]
    refine toS_gen (n := 5) (Rel := RT n) (bytes := 80) rfl (ok_rt w0 n) (fun _ _ _ _ hl h => mono_rt n _ _ _ _ hl h) (fun x hx s es R' _ h hR => toTree n h (f3 x hx) hR) (h5.mono k1.le fun es x => mono_rt n _ _ es x k1.le) (by omega) fun w' F2 s2 k2 o2 n2 => ?_
    rw [pVal1 (OSl.one' o2), pVal_5 rfl rfl rfl (OSl.one' o1) (OSl.one' o2)]
    have o1' := o1.frame (ok_str w0) (σ' := s2) fun b hb => by
      cases hs : s1 b with
      | none => exact absurd hs (o1.dom (ok_str w0) b hb).2
      | some r => exact k2 b r hs
    refine hR _ (F1 ++ F2) s2 (k1.trans k2) ⟨u', w', F1, F2, rfl, h2, h3, o1', o2, rfl, ?_⟩ fun b hb => ?_
    · refine List.nodup_append.2 ⟨o1.2.1, o2.2.1, fun a ha b hb hab => ?_⟩
      subst hab
      exact (o1.dom (ok_str w0) a ha).2 (n2 a hb)
    · rcases List.mem_append.1 hb with h | h
      · exact n1 b h
      · have := n2 b h
        cases hs : σ b with
        | none => rfl
        | some r => rw [k1 b r hs] at this; cases this

theorem eqTree : ∀ (n : Nat) {σ : Vw} {es es' : List Value} {x y : Tr} {R : Value → Vw → Prop}, RT n (Av.get w0 σ) es x → RT n (Av.get w0 σ) es' y → R (.bool (decide (x = y))) σ → AC Try.prog w0 n_laws_eqTree [.agg ⟨es⟩, .agg ⟨es'⟩] σ R
  | 0, _, _, _, _, _, _, h, _, _ => h.elim
  | n + 1, σ, es, es', .mk d md t ns ks, .mk d' md' t' ns' ks', R, h, h', hR => by
    obtain ⟨u, w, rfl, h2, h3, h4, h5⟩ := h
    obtain ⟨u', w', rfl, h2', h3', h4', h5'⟩ := h'
    refine ac_laws_eqTree ?_
    unfold vc_laws_eqTree
    rw [pVal_5 rfl rfl rfl h4.one h5.one, pVal_5 rfl rfl rfl h4'.one h5'.one]
    simp only [cellOf_agg, List.getD_cons_zero, List.getD_cons_succ]
    have no : ¬ (d = d' ∧ md = md' ∧ t = t' ∧ ns = ns' ∧ ks = ks') → R (.bool false) σ := fun hn => by
      have : ¬ (Tr.mk d md t ns ks = Tr.mk d' md' t' ns' ks') := fun e => hn (by cases e; exact ⟨rfl, rfl, rfl, rfl, rfl⟩)
      simpa [this] using hR
    have eb : ∀ K : Value → Prop, pBin Try.prog 4 .neq (.bool d) (.bool d') K ↔ K (.bool !(d == d')) := fun K => pBin_b (by kernel_rfl) rfl
    rw [eb, pIf_b]
    refine ⟨fun h => no fun hh => by simp [hh.1] at h, fun e1 => ?_⟩
    rw [pBin_ne, pIf_d]
    refine ⟨fun h => no fun hh => h hh.2.1, fun e2 => ?_⟩
    rw [pBin_sne, pIf_d]
    refine ⟨fun h => no fun hh => h hh.2.2.1, fun e3 => ?_⟩
    refine eqStringS h4 h4' ?_
    rw [pUn_not, pIf_b]
    refine ⟨fun h => no fun hh => by simp [hh.2.2.2.1] at h, fun e4 => ?_⟩
    refine ac_laws_eqTreeS ?_
    have e : ∀ (v v' : Value) (R : Value → Vw → Prop), vc_laws_eqTreeS w0 v v' σ R = VeqS Try.prog w0 3 5 n_laws_eqTree v v' σ R := fun v v' R => by kernel_rfl
    rw [e]
    refine eqS_gen (fun x _ y es es' R' h h' hR => eqTree n h h' hR) h5 h5' ?_
    rw [pUn_not, pIf_b]
    refine ⟨fun h => no fun hh => by simp [hh.2.2.2.2] at h, fun e5 => ?_⟩
    have : Tr.mk d md t ns ks = Tr.mk d' md' t' ns' ks' := by
      simp at e1 e2 e3 e4 e5
      rw [e1, e2, e3, e4, e5]
    simpa [this] using hR
end
end Go.Proofs.Ytlbpnfhhoalenaa

/- Trees: when one is sound. -/
set_option linter.unusedVariables false
set_option linter.unusedSimpArgs false
namespace Go.Proofs.Ytlbpnfhhoalenaa
open Go Go.Av

def prevLt (ns : List ByteArray) (j : Nat) (x : ByteArray) : Bool :=
  match j with
  | 0 => true
  | i + 1 => match ns[i]? with
    | some y => strLt y x
    | none => true
noncomputable def nameAt (ns : List ByteArray) (j : Nat) (x : ByteArray) : Bool := nameOk x && prevLt ns j x
def namesP (ns : List ByteArray) : Prop := ∀ (j : Nat) (x : ByteArray), ns[j]? = some x → nameAt ns j x = true
open Classical in
noncomputable def plainB : Tr → Bool
  | .mk d m t ns ks => inB m 0 7 && (decide (ns.length = ks.length) && (if d = true then decide (namesP ns) && decide (t = ⟨#[]⟩) else decide (t.size ≤ 24) && decide (ns.length = 0)))
def allB {α : Type} (p : α → Bool) : List α → Bool
  | [] => true
  | a :: r => p a && allB p r
theorem allB_iff {α : Type} {p : α → Bool} {xs : List α} : allB p xs = true ↔ ∀ (j : Nat) (x : α), xs[j]? = some x → p x = true := by
  induction xs with
  | nil => simp [allB]
  | cons a r ih =>
    simp only [allB, Bool.and_eq_true, ih]
    constructor
    · rintro ⟨h1, h2⟩ j x hj
      cases j with
      | zero => simp at hj; subst hj; exact h1
      | succ j => exact h2 j x (by simpa using hj)
    · intro h
      exact ⟨h 0 a rfl, fun j x hj => h (j + 1) x (by simpa using hj)⟩
theorem allB_bad {α : Type} {p : α → Bool} {xs : List α} {j : Nat} {x : α} (hj : xs[j]? = some x) (h : p x = false) : allB p xs = false := by
  cases hc : allB p xs with
  | false => rfl
  | true => have := allB_iff.1 hc j x hj; rw [h] at this; cases this
noncomputable def soundB : Nat → Tr → Int → Bool
  | 0, _, _ => false
  | n + 1, .mk d m t ns ks, k => plainB (.mk d m t ns ks) && (decide (k ≤ 4) && allB (fun x => soundB n x (k + 1)) ks)

section
variable {w0 : World} {σ : Vw}

theorem pBin_sge {P : Program} {T : Nat} {a b : ByteArray} {K : Value → Prop} : pBin P T .geq (.string a) (.string b) K ↔ K (.bool (!strLt a b)) := pBin_s rfl

theorem spec_Plain {n : Nat} {es : List Value} {x : Tr} {R : Value → Vw → Prop} (h : RT n (Av.get w0 σ) es x) (hR : R (.bool (plainB x)) σ) : AC Try.prog w0 n_spec_l1Plain [.agg ⟨es⟩] σ R := by
  obtain _ | n := n
  · exact h.elim
  obtain ⟨d, m, t, ns, ks⟩ := x
  obtain ⟨u, w, rfl, h2, h3, h4, h5⟩ := h
  refine ac_spec_l1Plain ?_
  unfold vc_spec_l1Plain
  have hl := h4.le
  rw [pVal_5 rfl rfl rfl h4.one h5.one]
  simp only [cellOf_agg, List.getD_cons_zero, List.getD_cons_succ]
  refine spec_In ?_
  rw [pUn_not, pIf_b]
  refine ⟨fun hb => ?_, fun hm => ?_⟩
  · have : plainB (.mk d m t ns ks) = false := by simp at hb; simp [plainB, hb]
    rw [this] at hR; exact hR
  have hm' : inB m 0 7 = true := by simpa using hm
  rw [h4.len, h5.len, pBin_ne, pIf_d]
  refine ⟨fun hne => ?_, fun heq => ?_⟩
  · have : plainB (.mk d m t ns ks) = false := by
      have : ¬ ns.length = ks.length := by omega
      simp [plainB, this]
    rw [this] at hR; exact hR
  have heq' : ns.length = ks.length := by omega
  rw [pUn_not, pIf_b]
  refine ⟨fun hd => ?_, fun hd => ?_⟩
  · have hd' : d = false := by simpa using hd
    subst hd'
    have hp : plainB (.mk false m t ns ks) = (decide (t.size ≤ 24) && decide (ns.length = 0)) := by simp [plainB, hm', heq']
    rw [hp] at hR
    rw [pLenS_s, pBin_le, pIf_d]
    refine ⟨fun ht => ?_, fun ht => ?_⟩
    · rw [h4.len, pBin_eq]
      have e1 : decide (t.size ≤ 24) = true := by simp; omega
      have e2 : decide (ns.length = 0) = decide ((ns.length : Int) = 0) := by congr 1; apply propext; omega
      rw [e1, e2] at hR; exact hR
    · have e1 : decide (t.size ≤ 24) = false := by simp; omega
      rw [e1] at hR; exact hR
  · have hd' : d = true := by simpa using hd
    subst hd'
    have hp : ∀ b, b = plainB (.mk true m t ns ks) → R (.bool b) σ := fun b e => e ▸ hR
    refine loop_rule (m := ns.length) (fun k l s => ∃ j, s = σ ∧ k + j = ns.length ∧ (∀ (i : Nat) (x : ByteArray), i < j → ns[i]? = some x → nameAt ns i x = true) ∧ l = [.bool false, .int .i64 (j : Nat), .bool true, .int .i64 m, .string t, u, w]) ?_ ⟨0, rfl, by omega, fun i x h => by omega, rfl⟩
    rintro k l s L ⟨j, rfl, hk, ht, rfl⟩ hL
    simp only [vget, List.getD_cons_zero, List.getD_cons_succ]
    rw [h4.len, pBin_lt, pIf_d]
    refine ⟨fun hj => ?_, fun hj => ?_⟩
    · have hx := List.getElem?_eq_getElem (show j < ns.length by omega)
      generalize hxj : ns[j] = x at hx
      have bad : nameAt ns j x = false → R (.bool false) s := fun hb => hp false (by
        have : ¬ namesP ns := fun hh => by rw [hh j x hx] at hb; cases hb
        simp [plainB, this])
      have next : nameAt ns j x = true → L [.bool false, .int .i64 ((j : Int) + 1), .bool true, .int .i64 m, .string t, u, w] s := fun hg => hL _ _ (k - 1) (by omega) ⟨j + 1, rfl, by omega, fun i y hi he => by
        by_cases e : i = j
        · subst e; rw [hx] at he; cases he; exact hg
        · exact ht i y (by omega) he, rfl⟩
      refine RSl.at1 h4 hx fun g hg hs => ?_
      rw [hg]
      refine spec_nameOk hs ?_
      rw [pUn_not, pIf_b]
      refine ⟨fun hb => bad (by simp at hb; simp [nameAt, hb]), fun hg => ?_⟩
      have hg' : nameOk x = true := by simpa using hg
      rw [pBin_gt, pIf_d]
      refine ⟨fun hpos => ?_, fun h0 => ?_⟩
      · obtain ⟨i, rfl⟩ : ∃ i, j = i + 1 := ⟨j - 1, by omega⟩
        rw [pBin_sub (by omega)]
        have hy := List.getElem?_eq_getElem (show i < ns.length by omega)
        generalize hyi : ns[i] = y at hy
        rw [show ((i + 1 : Nat) : Int) - 1 = (i : Nat) by omega]
        refine RSl.at1 h4 hy fun g2 hg2 hs2 => ?_
        refine RSl.at1 h4 hx fun g3 hg3 hs3 => ?_
        have hpl : prevLt ns (i + 1) x = strLt y x := by simp [prevLt, hy]
        rw [hg2, hg3, pBin_sge, pIf_b]
        refine ⟨fun hb => bad (by simp at hb; simp [nameAt, hpl, hb]), fun hb => ?_⟩
        rw [pBin_add (by omega)]
        exact next (by simp at hb; simp [nameAt, hg', hpl, hb])
      · have : j = 0 := by omega
        subst this
        rw [pBin_add (by omega)]
        exact next (by simp [nameAt, hg', prevLt])
    · have hj' : j = ns.length := by omega
      subst hj'
      show pBin Try.prog 9 .eql (.string t) (.string ⟨#[]⟩) _
      rw [pBin_seq]
      refine hp _ ?_
      have : namesP ns := fun i x he => ht i x (List.getElem?_eq_some_iff.1 he).1 he
      simp [plainB, hm', heq', this]
end
end Go.Proofs.Ytlbpnfhhoalenaa
