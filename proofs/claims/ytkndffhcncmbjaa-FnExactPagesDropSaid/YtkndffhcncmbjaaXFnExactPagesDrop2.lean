/- The law FnExactPagesDrop holds: it returns true, and the input reads as it did. No condition. This is part 2 of 4 of its proof. -/
import Derived.Test.YtkndffhcncmbjaaXFnExactPagesDrop1
import Derived.IntWalk
import Derived.ChangeArms
import Derived.Test.YtkndffhcncmbjaaProg

/- The plain side, part 1: the operations at known values; loops; what is read in a slice. -/
set_option linter.unusedVariables false
set_option linter.unusedSimpArgs false
namespace Go.Av
open Go Go.RowKit IntWalk

section
variable {P : Program} {w0 : World} {σ σ' : Vw}

/-! ### The operations at known values -/
theorem pIf_b {b : Bool} {A B : Prop} : pIf (.bool b) A B ↔ (b = true → A) ∧ (b = false → B) :=
  ⟨fun ⟨c, h, h1, h2⟩ => by cases h; exact ⟨h1, h2⟩, fun ⟨h1, h2⟩ => ⟨b, rfl, h1, h2⟩⟩
theorem pIf_d {p : Prop} [Decidable p] {A B : Prop} : pIf (.bool (decide p)) A B ↔ (p → A) ∧ (¬ p → B) := by
  rw [pIf_b]; simp
theorem pLen_s {A : Option Addr} {n c : Nat} {K : Value → Prop} : pLen (.slice A n c) K ↔ K (.int .i64 n) :=
  ⟨fun ⟨_, _, _, h, hK⟩ => by cases h; exact hK, fun h => ⟨_, _, _, rfl, h⟩⟩
theorem pLenS_s {s : ByteArray} {K : Value → Prop} : pLenS (.string s) K ↔ K (.int .i64 s.size) :=
  ⟨fun ⟨_, h, hK⟩ => by cases h; exact hK, fun h => ⟨_, rfl, h⟩⟩
theorem pNil_s {a : Addr} {K : Prop} : pNil (.pointer (some a)) K ↔ K := ⟨fun ⟨_, _, h⟩ => h, fun h => ⟨a, rfl, h⟩⟩
theorem pField_s {o : Nat} {a : Addr} {K : Value → Prop} : pField o (.pointer (some a)) K ↔ K (.pointer (some (a.add o))) :=
  ⟨fun ⟨_, h, hK⟩ => by cases h; exact hK, fun h => ⟨_, rfl, h⟩⟩
theorem pUn_not {b : Bool} {K : Value → Prop} : pUn .not (.bool b) K ↔ K (.bool !b) :=
  ⟨fun ⟨_, h, hK⟩ => by simp only [aun, Option.some.injEq] at h; subst h; exact hK, fun h => ⟨_, rfl, h⟩⟩
theorem pBin_i {T : Nat} {op : BinOp} {k : IntKind} {a b : Int} {v : Value} {K : Value → Prop} (h : aint op k a b = some v) : pBin P T op (.int k a) (.int k b) K ↔ K v := by
  have e : abinT P T op (.int k a) (.int k b) = some v := by unfold abinT; simp only [if_true]; exact h
  exact ⟨fun ⟨_, h, hK⟩ => by rw [e] at h; cases h; exact hK, fun h => ⟨_, e, h⟩⟩
theorem pBin_lt {T : Nat} {k : IntKind} {a b : Int} {K : Value → Prop} : pBin P T .lss (.int k a) (.int k b) K ↔ K (.bool (decide (a < b))) := pBin_i rfl
theorem pBin_le {T : Nat} {k : IntKind} {a b : Int} {K : Value → Prop} : pBin P T .leq (.int k a) (.int k b) K ↔ K (.bool (decide (a ≤ b))) := pBin_i rfl
theorem pBin_gt {T : Nat} {k : IntKind} {a b : Int} {K : Value → Prop} : pBin P T .gtr (.int k a) (.int k b) K ↔ K (.bool (decide (b < a))) := pBin_i rfl
theorem pBin_ge {T : Nat} {k : IntKind} {a b : Int} {K : Value → Prop} : pBin P T .geq (.int k a) (.int k b) K ↔ K (.bool (decide (b ≤ a))) := pBin_i rfl
theorem pBin_eq {T : Nat} {k : IntKind} {a b : Int} {K : Value → Prop} : pBin P T .eql (.int k a) (.int k b) K ↔ K (.bool (decide (a = b))) := pBin_i rfl
theorem pBin_ne {T : Nat} {k : IntKind} {a b : Int} {K : Value → Prop} : pBin P T .neq (.int k a) (.int k b) K ↔ K (.bool (decide (a ≠ b))) :=
  pBin_i (by simp only [aint, bne, Option.some.injEq, Value.bool.injEq]; by_cases h : a = b <;> simp [h])
theorem pBin_add {T : Nat} {a b : Int} {K : Value → Prop} (h : -9223372036854775808 ≤ a + b ∧ a + b ≤ 9223372036854775807) : pBin P T .add (.int .i64 a) (.int .i64 b) K ↔ K (.int .i64 (a + b)) :=
  pBin_i (by simp only [aint, i64_in _ h])
theorem pBin_sub {T : Nat} {a b : Int} {K : Value → Prop} (h : -9223372036854775808 ≤ a - b ∧ a - b ≤ 9223372036854775807) : pBin P T .sub (.int .i64 a) (.int .i64 b) K ↔ K (.int .i64 (a - b)) :=
  pBin_i (by simp only [aint, i64_in _ h])
theorem pBin_mul {T : Nat} {a b : Int} {K : Value → Prop} (h : -9223372036854775808 ≤ a * b ∧ a * b ≤ 9223372036854775807) : pBin P T .mul (.int .i64 a) (.int .i64 b) K ↔ K (.int .i64 (a * b)) :=
  pBin_i (by simp only [aint, i64_in _ h])

theorem bytes_inj {a b : ByteArray} (h : a.toList = b.toList) : a = b := by
  rw [ByteArray.toList_eq, ByteArray.toList_eq] at h
  cases a; cases b
  simp only [ByteArray.mk.injEq]
  exact Array.toList_inj.1 h
theorem toList_eq {a b : ByteArray} : (a.toList == b.toList) = decide (a = b) := by
  have : a.toList = b.toList ↔ a = b := ⟨fun h => Go.Av.bytes_inj h, fun h => by rw [h]⟩
  by_cases h : a = b
  · subst h; simp
  · have h' : ¬ a.toList = b.toList := fun e => h (this.1 e)
    simp [h, h']
theorem pBin_s {T : Nat} {op : BinOp} {a b : ByteArray} {v : Value} {K : Value → Prop} (h : astr op a b = some v) : pBin P T op (.string a) (.string b) K ↔ K v :=
  ⟨fun ⟨_, h', hK⟩ => by rw [show abinT P T op (.string a) (.string b) = some v from h] at h'; cases h'; exact hK, fun hK => ⟨_, h, hK⟩⟩
theorem pBin_seq {T : Nat} {a b : ByteArray} {K : Value → Prop} : pBin P T .eql (.string a) (.string b) K ↔ K (.bool (decide (a = b))) := pBin_s (by simp only [astr, toList_eq])
theorem pBin_sne {T : Nat} {a b : ByteArray} {K : Value → Prop} : pBin P T .neq (.string a) (.string b) K ↔ K (.bool (decide (a ≠ b))) := pBin_s (by simp only [astr, toList_eq]; simp)
theorem pBin_b {T : Nat} {op : BinOp} {a b : Bool} {v : Value} {K : Value → Prop} (hT : P.underlying T = some .bool) (h : (match op with | .eql => some (Value.bool (a == b)) | .neq => some (.bool (!(a == b))) | _ => none) = some v) : pBin P T op (.bool a) (.bool b) K ↔ K v := by
  have e : abinT P T op (.bool a) (.bool b) = some v := by simp only [abinT, hT]; exact h
  exact ⟨fun ⟨_, h', hK⟩ => by rw [e] at h'; cases h'; exact hK, fun hK => ⟨_, e, hK⟩⟩

theorem pVal1 {n : Nat} {v : Value} {A : Prop} (h : v.oneCell' = true) : pVal false n v A ↔ A := ⟨fun h => h.2, fun hA => ⟨h, hA⟩⟩
theorem pValN {n : Nat} {cs : List Value} {A : Prop} (hl : cs.length = n) (h : ∀ c, c ∈ cs → c.oneCell' = true) : pVal true n (.agg ⟨cs⟩) A ↔ A := ⟨fun h => h.2, fun hA => ⟨⟨cs, rfl, hl, h⟩, hA⟩⟩
theorem cellOf_agg {cs : List Value} {i : Nat} : cellOf (.agg ⟨cs⟩) i = cs.getD i undef := rfl
theorem pStr1 {b : Nat} {K : Value → Prop} {n : Int} {c : Nat} (h : Av.get w0 σ ⟨b, 0, none⟩ = some (.int .u8 n)) (hK : K (.string (strOfNums [n]))) : pStr w0 (.slice (some ⟨b, 0, none⟩) 1 c) σ K :=
  .inr ⟨b, 0, 1, c, [n], rfl, rfl, (fun j hj => by
    have e : j = 0 := by omega
    subst e
    exact h), hK⟩

/-! ### Loops -/
theorem loop_rule {B : List Value → (AX → List Value → Vw → Prop) → Vw → Prop} {K : AX → List Value → Vw → Prop} (I : Nat → List Value → Vw → Prop)
    (step : ∀ m vs σ (L : List Value → Vw → Prop), I m vs σ → (∀ vs' σ', ∀ m', m' + 1 = m → I m' vs' σ' → L vs' σ') → B vs (fun e vs' σ' => match e with | .normal => L vs' σ' | .exit i => K (.exit i) vs' σ' | .ret => K .ret vs' σ') σ)
    {m : Nat} {vs : List Value} (h : I m vs σ) : pLoop B vs σ K := by
  refine ⟨m + 1, ?_⟩
  induction m generalizing vs σ with
  | zero => exact step 0 vs σ _ h (fun vs' σ' m' e => by omega)
  | succ m ih =>
    refine step (m + 1) vs σ _ h (fun vs' σ' m' e hI => ?_)
    have e : m' = m := by omega
    subst e
    exact ih hI

/-! ### Reading -/
theorem add_add (a : Addr) (i j : Nat) : (a.add i).add j = a.add (i + j) := by
  unfold Addr.add
  by_cases hi : i = 0
  · simp [hi]
  · by_cases hj : j = 0
    · simp [hj]
    · have : i + j ≠ 0 := by omega
      simp [hi, hj, this, Nat.add_assoc]

/-- A reader that reads no less. -/
def Le (rd rd' : Addr → Option Value) : Prop := ∀ a v, rd a = some v → rd' a = some v
theorem Le.refl (rd : Addr → Option Value) : Le rd rd := fun _ _ h => h
theorem Le.trans {rd rd' rd'' : Addr → Option Value} (h : Le rd rd') (h' : Le rd' rd'') : Le rd rd'' := fun a v ha => h' a v (h a v ha)
theorem Ext.le (hx : Ext σ σ') : Le (Av.get w0 σ) (Av.get w0 σ') := fun _ _ h => get_ext hx h

/-- What is read behind a slice: xs, each of n cells. -/
def RSl {α : Type} (n : Nat) (R : (Addr → Option Value) → List Value → α → Prop) (rd : Addr → Option Value) (v : Value) (xs : List α) : Prop :=
  ∃ A cap, v = .slice A xs.length cap ∧ (xs.length ≤ cap ∧ cap ≤ 9223372036854775807) ∧ ∀ (j : Nat) (x : α), xs[j]? = some x → ∃ a es, A = some a ∧ es.length = n ∧ (∀ i, i < n → rd (a.add (j * n + i)) = es[i]?) ∧ R rd es x

theorem RSl.mono {α : Type} {n : Nat} {R : (Addr → Option Value) → List Value → α → Prop} {rd rd' : Addr → Option Value} {v : Value} {xs : List α} (h : RSl n R rd v xs) (hx : Le rd rd') (hR : ∀ es x, R rd es x → R rd' es x) : RSl n R rd' v xs := by
  obtain ⟨A, cap, h1, h2, h3⟩ := h
  refine ⟨A, cap, h1, h2, fun j x hj => ?_⟩
  obtain ⟨a, es, h4, h5, h6, h7⟩ := h3 j x hj
  refine ⟨a, es, h4, h5, fun i hi => ?_, hR _ _ h7⟩
  have := h6 i hi
  have hlt : i < es.length := by omega
  rw [List.getElem?_eq_getElem hlt] at this ⊢
  exact hx _ _ this

theorem RSl.len {α : Type} {n : Nat} {R : (Addr → Option Value) → List Value → α → Prop} {rd : Addr → Option Value} {v : Value} {xs : List α} (h : RSl n R rd v xs) {K : Value → Prop} : pLen v K ↔ K (.int .i64 xs.length) := by
  obtain ⟨A, cap, rfl, _⟩ := h
  exact pLen_s

/-- An element is read. -/
theorem RSl.at {α : Type} {n : Nat} {R : (Addr → Option Value) → List Value → α → Prop} {v : Value} {xs : List α} (h : RSl n R (Av.get w0 σ) v xs) {j : Nat} {x : α} (hj : xs[j]? = some x) {K : (Nat → Value) → Prop} (hK : ∀ g : Nat → Value, R (Av.get w0 σ) (expl g 0 n) x → K g) :
    pIndexAddr n v (.int .i64 j) fun p => pLoad w0 n p σ K := by
  obtain ⟨A, cap, rfl, _, h3⟩ := h
  obtain ⟨a, es, rfl, h5, h6, h7⟩ := h3 j x hj
  have hlt : j < xs.length := (List.getElem?_eq_some_iff.1 hj).1
  refine ⟨a, xs.length, cap, .i64, j, rfl, rfl, by omega, by omega, a.add (j * n), fun i => es.getD i undef, rfl, fun i hi => ?_, hK _ ?_⟩
  · have := h6 i hi
    have hlt : i < es.length := by omega
    rw [add_add, this, List.getElem?_eq_getElem hlt]
    simp only [List.getD_eq_getElem?_getD, List.getElem?_eq_getElem hlt, Option.getD_some]
  · have : expl (fun i => es.getD i undef) 0 n = es := by
      apply List.ext_getElem?
      intro i
      by_cases hi : i < n
      · rw [expl_get _ _ _ _ hi, Nat.zero_add, List.getD_eq_getElem?_getD]
        have hlt : i < es.length := by omega
        rw [List.getElem?_eq_getElem hlt]; rfl
      · rw [List.getElem?_eq_none (by rw [length_expl]; omega), List.getElem?_eq_none (by omega)]
    rw [this]; exact h7

/-- A text. -/
def RS (rd : Addr → Option Value) (cs : List Value) (s : ByteArray) : Prop := cs = [.string s] ∧ s.size ≤ 9223372036854775807
/-- A number. -/
def RI (rd : Addr → Option Value) (cs : List Value) (n : Int) : Prop := cs = [.int .i64 n] ∧ -9223372036854775808 ≤ n ∧ n ≤ 9223372036854775807
end
end Go.Av

/- The plain side, part 2: rows of our own. -/
set_option linter.unusedVariables false
set_option linter.unusedSimpArgs false
namespace Go.Av
open Go Go.RowKit

/-- Every row stays as it is; there may be new ones. -/
def Keeps (σ σ' : Vw) : Prop := ∀ b r, σ b = some r → σ' b = some r
theorem Keeps.refl (σ : Vw) : Keeps σ σ := fun _ _ h => h
theorem Keeps.trans {σ σ' σ'' : Vw} (h : Keeps σ σ') (h' : Keeps σ' σ'') : Keeps σ σ'' := fun b r hb => h' b r (h b r hb)
theorem Keeps.ext {σ σ' : Vw} (h : Keeps σ σ') : Ext σ σ' := fun b r hb => ⟨r, h b r hb, List.prefix_refl _⟩
theorem Keeps.le {w0 : World} {σ σ' : Vw} (h : Keeps σ σ') : Le (Av.get w0 σ) (Av.get w0 σ') := h.ext.le
theorem Keeps.stay {w0 : World} {σ σ' : Vw} {v : Value} {n : Nat} (h : Keeps σ σ') : Stay w0 σ σ' v n := fun a g _ hc j hj => h.le _ _ (hc j hj)
theorem Keeps.put {σ : Vw} {b : Nat} {r : Row} (h : σ b = none) : Keeps σ (σ.put b r) := fun i x hi => by
  have : i ≠ b := fun e => by rw [e, h] at hi; cases hi
  simp [Vw.put, this, hi]
/-- A new row is made, then others, then the first is written. -/
theorem Keeps.fill {σ σ' : Vw} {b : Nat} {r : Row} (h : Keeps σ σ') (hb : σ b = none) : Keeps σ (σ'.put b r) := fun i x hi => by
  have : i ≠ b := fun e => by rw [e, hb] at hi; cases hi
  simp [Vw.put, this, h i x hi]
theorem put_at {σ : Vw} {b : Nat} {r : Row} : σ.put b r b = some r := by simp [Vw.put]
theorem put_put {σ : Vw} {b : Nat} {r r' : Row} : (σ.put b r).put b r' = σ.put b r' := by
  funext i; simp only [Vw.put]; split <;> rfl

theorem get_row {w0 : World} {σ : Vw} {b off : Nat} {r : Row} (hb : w0.heap.size ≤ b) (h : σ b = some r) : Av.get w0 σ ⟨b, off, none⟩ = r.cells[off]? := by
  unfold Av.get
  simp only
  rw [if_neg (by omega), if_pos trivial, h]; rfl

theorem addr_add (b off i : Nat) : (Addr.mk b off none).add i = ⟨b, off + i, none⟩ := by
  unfold Addr.add
  split
  · rename_i h; subst h; rfl
  · rfl

theorem setAt_mid : ∀ (A old new C : List Value), old.length = new.length → setAt (A ++ (old ++ C)) A.length new = A ++ (new ++ C)
  | A, [], [], C, _ => by simp [setAt]
  | A, [], _ :: _, C, h => by simp at h
  | A, _ :: _, [], C, h => by simp at h
  | A, o :: old, n :: new, C, h => by
    simp only [setAt]
    have e : (A ++ (o :: old ++ C)).set A.length n = (A ++ [n]) ++ (old ++ C) := by simp
    rw [e]
    have := setAt_mid (A ++ [n]) old new C (by simpa using h)
    simp only [List.length_append, List.length_singleton] at this
    rw [this]
    simp

section
variable {w0 : World} {σ : Vw}

theorem flat_len {n : Nat} : ∀ (xs : List (List Value)), (∀ c, c ∈ xs → c.length = n) → xs.flatten.length = xs.length * n
  | [], _ => by simp
  | c :: r, h => by
    have := flat_len r (fun d hd => h d (List.mem_cons_of_mem _ hd))
    simp only [List.flatten_cons, List.length_append, List.length_cons, this, h c List.mem_cons_self]
    rw [Nat.add_mul, Nat.one_mul, Nat.add_comm]

theorem flat_get {n : Nat} : ∀ (xs : List (List Value)), (∀ c, c ∈ xs → c.length = n) → ∀ (j : Nat) (c : List Value), xs[j]? = some c → ∀ i, i < n → xs.flatten[j * n + i]? = c[i]?
  | [], _, j, c, hj, i, hi => by simp at hj
  | d :: r, h, 0, c, hj, i, hi => by
    simp at hj; subst hj
    have := h d List.mem_cons_self
    rw [List.flatten_cons, Nat.zero_mul, Nat.zero_add, List.getElem?_append_left (by omega)]
  | d :: r, h, j + 1, c, hj, i, hi => by
    have hd := h d List.mem_cons_self
    rw [List.flatten_cons, Nat.add_mul, Nat.one_mul, List.getElem?_append_right (by omega)]
    have := flat_get r (fun d hd => h d (List.mem_cons_of_mem _ hd)) j c (by simpa using hj) i hi
    rw [← this]
    congr 1
    omega

/-- What lies in a row of our own can be read. -/
theorem RSl.own {α : Type} {n : Nat} {R : (Addr → Option Value) → List Value → α → Prop} {b cap : Nat} {r : Row} {xs : List α} {cs : List (List Value)} {tail : List Value} (hb : w0.heap.size ≤ b) (hr : σ b = some r) (hc : r.cells = cs.flatten ++ tail) (hn : ∀ c, c ∈ cs → c.length = n)
    (hl : cs.length = xs.length) (hm : xs.length ≤ cap ∧ cap ≤ 9223372036854775807) (hR : ∀ (j : Nat) (c : List Value) (x : α), cs[j]? = some c → xs[j]? = some x → R (Av.get w0 σ) c x) : RSl n R (Av.get w0 σ) (.slice (some ⟨b, 0, none⟩) xs.length cap) xs := by
  refine ⟨_, cap, rfl, hm, fun j x hj => ?_⟩
  have hlt : j < cs.length := by have := (List.getElem?_eq_some_iff.1 hj).1; omega
  have hcj := List.getElem?_eq_getElem hlt
  refine ⟨_, cs[j], rfl, hn _ (List.getElem_mem hlt), fun i hi => ?_, hR j _ x hcj hj⟩
  rw [addr_add, get_row hb hr, Nat.zero_add, hc, ← flat_get cs hn j _ hcj i hi, List.getElem?_append_left]
  rw [flat_len cs hn]
  calc j * n + i < j * n + n := by omega
    _ = (j + 1) * n := by rw [Nat.add_mul, Nat.one_mul]
    _ ≤ cs.length * n := Nat.mul_le_mul_right n hlt

/-- An element of a row of our own is written. -/
theorem own_store {b cap len : Nat} {j n : Nat} {r : Row} {A old new C : List Value} (hr : σ b = some r) (hc : r.cells = A ++ (old ++ C)) (hA : A.length = j * n) (ho : old.length = new.length) (hn : new.length = n) (hj : j < len) {K : Vw → Prop}
    (hK : K (σ.put b { r with cells := A ++ (new ++ C) })) : pIndexAddr n (.slice (some ⟨b, 0, none⟩) len cap) (.int .i64 j) fun p => pStore p new σ K := by
  refine ⟨_, len, cap, .i64, j, rfl, rfl, by omega, by omega, b, j * n, r, by rw [addr_add]; simp, hr, ?_, ?_⟩
  · rw [hc]; simp only [List.length_append]; omega
  · rw [hc, ← hA, setAt_mid _ _ _ _ ho]; exact hK

theorem RSl.one {α : Type} {n : Nat} {R : (Addr → Option Value) → List Value → α → Prop} {rd : Addr → Option Value} {v : Value} {xs : List α} (h : RSl n R rd v xs) : v.oneCell' = true := by
  obtain ⟨A, cap, rfl, _⟩ := h
  rfl
theorem RSl.le {α : Type} {n : Nat} {R : (Addr → Option Value) → List Value → α → Prop} {rd : Addr → Option Value} {v : Value} {xs : List α} (h : RSl n R rd v xs) : xs.length ≤ 9223372036854775807 := by
  obtain ⟨_, _, _, h2, _⟩ := h; exact Nat.le_trans h2.1 h2.2
theorem pVal_1 {v : Value} {A : Prop} (h : v.oneCell' = true) : pVal true 1 (.agg ⟨[v]⟩) A ↔ A := pValN rfl (by simpa using h)
theorem pVal_2 {v v' : Value} {A : Prop} (h : v.oneCell' = true) (h' : v'.oneCell' = true) : pVal true 2 (.agg ⟨[v, v']⟩) A ↔ A := pValN rfl (by simp [h, h'])
theorem pVal_3 {v v' v'' : Value} {A : Prop} (h : v.oneCell' = true) (h' : v'.oneCell' = true) (h'' : v''.oneCell' = true) : pVal true 3 (.agg ⟨[v, v', v'']⟩) A ↔ A := pValN rfl (by simp [h, h', h''])

theorem pMake_s {ety n bytes m : Nat} {z : List Value} {K : Value → Vw → Prop} (hm : bytes * m ≤ 140737488355328) (hm2 : m ≤ 9223372036854775807) (hK : ∀ b e, w0.heap.size ≤ b → σ b = none → K (.slice (some ⟨b, 0, none⟩) m m) (σ.put b ⟨e, (List.replicate m z).flatten, m * n, (0, 0)⟩)) :
    pMake w0 ety n bytes z (.int .i64 m) (.int .i64 m) σ K := by
  refine ⟨.i64, m, rfl, rfl, by omega, by omega, ?_, fun b h1 h2 => ?_⟩
  · have : ((bytes * m : Nat) : Int) ≤ 2 ^ 47 := by
      rw [show (2 : Int) ^ 47 = 140737488355328 by decide]; omega
    simpa using this
  · have := hK b ety h1 h2
    simpa using this
end
end Go.Av

/- The lists of structs, whatever their element: their size, their comparison. -/
set_option linter.unusedVariables false
set_option linter.unusedSimpArgs false
namespace Go.Av
open Go Go.RowKit

/-- What is left of n. -/
def left (n : Int) (t : Nat) : Int := if n - t < 0 then -1 else n - t
theorem left_neg {n : Int} {t : Nat} : left n t < 0 ↔ n < t := by unfold left; split <;> omega
theorem left_low {n : Int} {t : Nat} (h : n < t) : left n t = -1 := by unfold left; rw [if_pos (by omega)]
theorem left_in {n : Int} {t : Nat} (h : (t : Int) ≤ n) : left n t = n - t := by unfold left; rw [if_neg (by omega)]

def sumBy {α : Type} (f : α → Nat) : List α → Nat
  | [] => 0
  | s :: r => f s + sumBy f r
theorem sumBy_take {α : Type} {f : α → Nat} {xs : List α} : ∀ {j : Nat} {x : α}, xs[j]? = some x → sumBy f (xs.take (j + 1)) = sumBy f (xs.take j) + f x := by
  induction xs with
  | nil => intro j x h; simp at h
  | cons a r ih =>
    intro j x h
    cases j with
    | zero => simp at h; subst h; simp [sumBy]
    | succ j =>
      simp at h
      have := ih h
      simp only [List.take_succ_cons, sumBy, this]
      omega
theorem sumBy_le {α : Type} {f : α → Nat} {xs : List α} : ∀ (j : Nat), sumBy f (xs.take j) ≤ sumBy f xs := by
  induction xs with
  | nil => intro j; simp [sumBy]
  | cons a r ih =>
    intro j
    cases j with
    | zero => simp [sumBy]
    | succ j => have := ih j; simp only [List.take_succ_cons, sumBy]; omega

section
variable {P : Program} {w0 : World} {σ : Vw} {α : Type}

def VszS (P : Program) (w0 : World) (T n f : Nat) (a0 a1 : Value) (σ : Vw) (R : Value → Vw → Prop) : Prop :=
  pLen a0 (fun v0 => pBin P T .sub a1 v0 (fun v1 => pBin P T .lss v1 (.int .i64 0) (fun v2 => pIf v2 (R (.int .i64 (-1)) σ) (pLoop (fun l3 K4 s5 => pLen (vget l3 0) (fun v6 => pBin P T .lss (vget l3 3) v6 (fun v7 => pIf v7
    (pIndexAddr n (vget l3 0) (vget l3 3) (fun v8 => pLoad w0 n v8 s5 (fun g9 => AC P w0 f [.agg ⟨expl g9 0 n⟩, vget l3 1] s5 (fun v10 s11 => pBin P T .lss v10 (.int .i64 0) (fun v12 => pIf v12 (K4 .ret [vget l3 0, v10, .int .i64 (-1), vget l3 3] s11)
      (pBin P T .add (vget l3 3) (.int .i64 1) (fun v13 => K4 .normal [vget l3 0, v10, vget l3 2, v13] s11))))))) (K4 (.exit 0) [vget l3 0, vget l3 1, vget l3 2, vget l3 3] s5)))) [a0, v1, .int .i64 0, .int .i64 0] σ
    (fun x14 l15 s16 => match x14 with | .normal => R (vget l15 1) s16 | .ret => R (vget l15 2) s16 | .exit i17 => (match Nat.beq i17 0 with | true => R (vget l15 1) s16 | false => False))))))

theorem szS_gen {T n f : Nat} {Rel : (Addr → Option Value) → List Value → α → Prop} {sz : α → Nat} {v : Value} {xs : List α} {m : Int}
    (hf : ∀ x, x ∈ xs → ∀ (es : List Value) (m : Int) (R' : Value → Vw → Prop), Rel (Av.get w0 σ) es x → 0 ≤ m ∧ m ≤ 9223372036854775807 → R' (.int .i64 (left m (sz x))) σ → AC P w0 f [.agg ⟨es⟩, .int .i64 m] σ R')
    (h : RSl n Rel (Av.get w0 σ) v xs) (hn : 0 ≤ m ∧ m ≤ 9223372036854775807) {R : Value → Vw → Prop} (hR : R (.int .i64 (left m (xs.length + sumBy sz xs))) σ) : VszS P w0 T n f v (.int .i64 m) σ R := by
  unfold VszS
  have hl := h.le
  rw [h.len, pBin_sub (by omega), pBin_lt, pIf_d]
  refine ⟨fun hlt => ?_, fun hge => ?_⟩
  · rw [left_low (by omega)] at hR; exact hR
  · refine loop_rule (m := xs.length) (fun k l s => ∃ j, s = σ ∧ k + j = xs.length ∧ 0 ≤ m - xs.length - sumBy sz (xs.take j) ∧ l = [v, .int .i64 (m - xs.length - sumBy sz (xs.take j)), .int .i64 0, .int .i64 (j : Nat)]) ?_ ⟨0, rfl, by omega, by simp [sumBy]; omega, by simp [sumBy]⟩
    rintro k l s L ⟨j, rfl, hm, h0, rfl⟩ hL
    simp only [vget, List.getD_cons_zero, List.getD_cons_succ]
    rw [h.len, pBin_lt, pIf_d]
    refine ⟨fun hj => ?_, fun hj => ?_⟩
    · have hj' : j < xs.length := by omega
      have hx := List.getElem?_eq_getElem hj'
      refine h.at hx fun g hg => ?_
      have ht := sumBy_take (f := sz) hx
      have hle := sumBy_le (f := sz) (xs := xs) (j + 1)
      refine hf _ (List.getElem_mem hj') _ _ _ hg (by omega) ?_
      rw [pBin_lt, pIf_d]
      refine ⟨fun hlt => ?_, fun hge => ?_⟩
      · rw [left_neg] at hlt
        rw [left_low (by omega)] at hR; exact hR
      · rw [left_neg] at hge
        rw [pBin_add (by omega), left_in (by omega)]
        refine hL _ _ (k - 1) (by omega) ⟨j + 1, rfl, by omega, by omega, ?_⟩
        rw [ht]
        congr 2
        · congr 1; omega
    · have hj' : j = xs.length := by omega
      subst hj'
      rw [List.take_length] at h0 ⊢
      rw [left_in (by omega)] at hR
      rw [show m - (xs.length : Int) - (sumBy sz xs : Int) = m - ((xs.length + sumBy sz xs : Nat) : Int) by omega]
      exact hR

def VeqS (P : Program) (w0 : World) (T n f : Nat) (a0 a1 : Value) (σ : Vw) (R : Value → Vw → Prop) : Prop :=
  pLen a0 (fun v0 => pLen a1 (fun v1 => pBin P T .neq v0 v1 (fun v2 => pIf v2 (R (.bool false) σ) (pLoop (fun l3 K4 s5 => pLen (vget l3 0) (fun v6 => pBin P T .lss (vget l3 3) v6 (fun v7 => pIf v7
    (pIndexAddr n (vget l3 0) (vget l3 3) (fun v8 => pLoad w0 n v8 s5 (fun g9 => pIndexAddr n (vget l3 1) (vget l3 3) (fun v10 => pLoad w0 n v10 s5 (fun g11 => AC P w0 f [.agg ⟨expl g9 0 n⟩, .agg ⟨expl g11 0 n⟩] s5 (fun v12 s13 => pUn .not v12 (fun v14 => pIf v14
      (K4 .ret [vget l3 0, vget l3 1, .bool false, vget l3 3] s13) (pBin P T .add (vget l3 3) (.int .i64 1) (fun v15 => K4 .normal [vget l3 0, vget l3 1, vget l3 2, v15] s13))))))))) (K4 (.exit 0) [vget l3 0, vget l3 1, vget l3 2, vget l3 3] s5)))) [a0, a1, .bool false, .int .i64 0] σ
    (fun x16 l17 s18 => match x16 with | .normal => R (.bool true) s18 | .ret => R (vget l17 2) s18 | .exit i19 => (match Nat.beq i19 0 with | true => R (.bool true) s18 | false => False))))))

theorem eqS_gen [DecidableEq α] {T n f : Nat} {Rel : (Addr → Option Value) → List Value → α → Prop} {v v' : Value} {xs ys : List α}
    (hf : ∀ x, x ∈ xs → ∀ (y : α) (es es' : List Value) (R' : Value → Vw → Prop), Rel (Av.get w0 σ) es x → Rel (Av.get w0 σ) es' y → R' (.bool (decide (x = y))) σ → AC P w0 f [.agg ⟨es⟩, .agg ⟨es'⟩] σ R')
    (h : RSl n Rel (Av.get w0 σ) v xs) (h' : RSl n Rel (Av.get w0 σ) v' ys) {R : Value → Vw → Prop} (hR : R (.bool (decide (xs = ys))) σ) : VeqS P w0 T n f v v' σ R := by
  unfold VeqS
  have hl := h.le
  rw [h.len, h'.len, pBin_ne, pIf_d]
  refine ⟨fun hne => ?_, fun heq => ?_⟩
  · have : xs ≠ ys := fun e => hne (by rw [e])
    simpa [this] using hR
  · have hlen : xs.length = ys.length := by omega
    refine loop_rule (m := xs.length) (fun m l s => ∃ j, s = σ ∧ m + j = xs.length ∧ xs.take j = ys.take j ∧ l = [v, v', .bool false, .int .i64 (j : Nat)]) ?_ ⟨0, rfl, by omega, by simp, rfl⟩
    rintro m l s L ⟨j, rfl, hm, ht, rfl⟩ hL
    simp only [vget, List.getD_cons_zero, List.getD_cons_succ]
    rw [h.len, pBin_lt, pIf_d]
    refine ⟨fun hj => ?_, fun hj => ?_⟩
    · have hj' : j < xs.length := by omega
      have hx := List.getElem?_eq_getElem hj'
      have hy := List.getElem?_eq_getElem (show j < ys.length by omega)
      refine h.at hx fun g hg => ?_
      refine h'.at hy fun g' hg' => ?_
      refine hf _ (List.getElem_mem hj') _ _ _ _ hg hg' ?_
      rw [pUn_not, pIf_b]
      by_cases e : xs[j] = ys[j]
      · refine ⟨fun h => by simp [e] at h, fun _ => ?_⟩
        rw [pBin_add (by omega)]
        refine hL _ _ (m - 1) (by omega) ⟨j + 1, rfl, by omega, ?_, rfl⟩
        rw [List.take_add_one, List.take_add_one, hx, hy, ht, e]
      · refine ⟨fun _ => ?_, fun h => by simp [e] at h⟩
        have : xs ≠ ys := fun e' => by subst e'; exact e rfl
        simpa [this] using hR
    · have hj' : j = xs.length := by omega
      subst hj'
      rw [List.take_length, hlen, List.take_length] at ht
      subst ht
      simpa using hR
end
end Go.Av

/- Lists that lie in rows of our own, each part in rows of its own; the copy of a list of structs. -/
set_option linter.unusedVariables false
set_option linter.unusedSimpArgs false
namespace Go.Av
open Go Go.RowKit

section
variable {P : Program} {w0 : World} {σ σ' : Vw} {α : Type}

/-- What a rule for parts in rows of our own must keep. -/
structure OOk (w0 : World) (n : Nat) (Rel : (Addr → Option Value) → List Value → α → Prop) (O : Vw → List Nat → List Value → α → Prop) : Prop where
  rel : ∀ σ F es x, O σ F es x → Rel (Av.get w0 σ) es x
  frame : ∀ σ σ' F es x, O σ F es x → (∀ b, b ∈ F → σ' b = σ b) → O σ' F es x
  dom : ∀ σ F es x, O σ F es x → ∀ b, b ∈ F → w0.heap.size ≤ b ∧ σ b ≠ none
  nodup : ∀ σ F es x, O σ F es x → F.Nodup
  len : ∀ σ F es x, O σ F es x → es.length = n
  one : ∀ σ F es x, O σ F es x → ∀ c, c ∈ es → c.oneCell' = true

/-- A list in a row of our own, the elements' own parts in other rows. -/
def OSl (w0 : World) (n : Nat) (O : Vw → List Nat → List Value → α → Prop) (σ : Vw) (F : List Nat) (v : Value) (xs : List α) : Prop :=
  xs.length ≤ 9223372036854775807 ∧ F.Nodup ∧ ((v = .slice none 0 0 ∧ xs = [] ∧ F = []) ∨
  ∃ (b off cap : Nat) (r : Row) (pre post : List Value) (css : List (List Value)) (Fs : List (List Nat)), v = .slice (some ⟨b, off, none⟩) xs.length cap ∧ (xs.length ≤ cap ∧ cap ≤ 9223372036854775807) ∧ w0.heap.size ≤ b ∧ σ b = some r ∧ r.cells = pre ++ (css.flatten ++ post) ∧ pre.length = off ∧
    css.length = xs.length ∧ Fs.length = xs.length ∧ F = b :: Fs.flatten ∧ ∀ (j : Nat) (c : List Value) (x : α) (f : List Nat), css[j]? = some c → xs[j]? = some x → Fs[j]? = some f → O σ f c x)

theorem mem_flat {l : List (List Nat)} {b : Nat} (h : b ∈ l.flatten) : ∃ (j : Nat) (f : List Nat), l[j]? = some f ∧ b ∈ f := by
  obtain ⟨f, h1, h2⟩ := List.mem_flatten.1 h
  obtain ⟨j, hj⟩ := List.getElem?_of_mem h1
  exact ⟨j, f, hj, h2⟩

theorem OSl.frame {n : Nat} {Rel : (Addr → Option Value) → List Value → α → Prop} {O : Vw → List Nat → List Value → α → Prop} (ok : OOk w0 n Rel O) {F : List Nat} {v : Value} {xs : List α} (h : OSl w0 n O σ F v xs) (hF : ∀ b, b ∈ F → σ' b = σ b) : OSl w0 n O σ' F v xs := by
  obtain ⟨h1, h2, h3 | ⟨b, off, cap, r, pre, post, css, Fs, g1, gc, g2, g3, g4, g5, g6, g7, g8, g9⟩⟩ := h
  · exact ⟨h1, h2, .inl h3⟩
  · refine ⟨h1, h2, .inr ⟨b, off, cap, r, pre, post, css, Fs, g1, gc, g2, ?_, g4, g5, g6, g7, g8, fun j c x f e1 e2 e3 => ?_⟩⟩
    · rw [hF b (by rw [g8]; exact List.mem_cons_self)]; exact g3
    · refine ok.frame _ _ _ _ _ (g9 j c x f e1 e2 e3) fun i hi => hF i ?_
      rw [g8]
      exact List.mem_cons_of_mem _ (List.mem_flatten.2 ⟨f, List.mem_of_getElem? e3, hi⟩)

theorem OSl.dom {n : Nat} {Rel : (Addr → Option Value) → List Value → α → Prop} {O : Vw → List Nat → List Value → α → Prop} (ok : OOk w0 n Rel O) {F : List Nat} {v : Value} {xs : List α} (h : OSl w0 n O σ F v xs) : ∀ b, b ∈ F → w0.heap.size ≤ b ∧ σ b ≠ none := by
  obtain ⟨h1, h2, ⟨_, _, h3⟩ | ⟨b, off, cap, r, pre, post, css, Fs, g1, gc, g2, g3, g4, g5, g6, g7, g8, g9⟩⟩ := h
  · rw [h3]; intro b hb; cases hb
  · rw [g8]
    intro i hi
    rcases List.mem_cons.1 hi with e | e
    · rw [e]; exact ⟨g2, by rw [g3]; simp⟩
    · obtain ⟨j, f, e1, e2⟩ := mem_flat e
      have hj : j < Fs.length := (List.getElem?_eq_some_iff.1 e1).1
      exact ok.dom _ _ _ _ (g9 j _ _ f (List.getElem?_eq_getElem (by omega)) (List.getElem?_eq_getElem (by omega)) e1) i e2

theorem OSl.rel {n : Nat} {Rel : (Addr → Option Value) → List Value → α → Prop} {O : Vw → List Nat → List Value → α → Prop} (ok : OOk w0 n Rel O) {F : List Nat} {v : Value} {xs : List α} (h : OSl w0 n O σ F v xs) : RSl n Rel (Av.get w0 σ) v xs := by
  obtain ⟨h1, h2, ⟨rfl, rfl, _⟩ | ⟨b, off, cap, r, pre, post, css, Fs, rfl, gc, g2, g3, g4, g5, g6, g7, g8, g9⟩⟩ := h
  · exact ⟨none, 0, rfl, by simp, fun j x hj => by simp at hj⟩
  · have each : ∀ (j : Nat) (c : List Value), css[j]? = some c → c.length = n := fun j c hj => by
      have hlt : j < css.length := (List.getElem?_eq_some_iff.1 hj).1
      exact ok.len _ _ _ _ (g9 j c _ _ hj (List.getElem?_eq_getElem (by omega)) (List.getElem?_eq_getElem (by omega)))
    have hn : ∀ c, c ∈ css → c.length = n := fun c hc => by obtain ⟨j, hj⟩ := List.getElem?_of_mem hc; exact each j c hj
    refine ⟨_, cap, rfl, gc, fun j x hj => ?_⟩
    have hlt : j < css.length := by have := (List.getElem?_eq_some_iff.1 hj).1; omega
    have hcj := List.getElem?_eq_getElem hlt
    refine ⟨_, css[j], rfl, each j _ hcj, fun i hi => ?_, ok.rel _ _ _ _ (g9 j _ x _ hcj hj (List.getElem?_eq_getElem (by omega)))⟩
    rw [addr_add, get_row g2 g3, g4, List.getElem?_append_right (by omega)]
    rw [show off + (j * n + i) - pre.length = j * n + i by omega, List.getElem?_append_left, flat_get css hn j _ hcj i hi]
    rw [flat_len css hn]
    calc j * n + i < j * n + n := by omega
      _ = (j + 1) * n := by rw [Nat.add_mul, Nat.one_mul]
      _ ≤ css.length * n := Nat.mul_le_mul_right n hlt

def VtoS (P : Program) (w0 : World) (T ety n bytes f : Nat) (z : List Value) (a0 : Value) (σ : Vw) (R : Value → Vw → Prop) : Prop :=
  pLen a0 (fun v0 => pMake w0 ety n bytes z v0 v0 σ (fun v1 s2 => pLoop (fun l3 K4 s5 => pLen (vget l3 0) (fun v6 => pBin P T .lss (vget l3 2) v6 (fun v7 => pIf v7
    (pIndexAddr n (vget l3 0) (vget l3 2) (fun v8 => pLoad w0 n v8 s5 (fun g9 => AC P w0 f [.agg ⟨expl g9 0 n⟩] s5 (fun v10 s11 => pIndexAddr n (vget l3 1) (vget l3 2) (fun v12 => pVal true n v10 (pStore v12 (spread n v10) s11
      (fun s13 => pBin P T .add (vget l3 2) (.int .i64 1) (fun v14 => K4 .normal [vget l3 0, vget l3 1, v14] s13)))))))) (K4 (.exit 0) [vget l3 0, vget l3 1, vget l3 2] s5)))) [a0, v1, .int .i64 0] s2
    (fun x15 l16 s17 => match x15 with | .normal => R (vget l16 1) s17 | .ret => False | .exit i18 => (match Nat.beq i18 0 with | true => R (vget l16 1) s17 | false => False))))

theorem toS_gen {T ety n bytes f : Nat} {z : List Value} (hz : z.length = n) {Rel : (Addr → Option Value) → List Value → α → Prop} {O : Vw → List Nat → List Value → α → Prop} (ok : OOk w0 n Rel O) (hmono : ∀ rd rd' es x, Le rd rd' → Rel rd es x → Rel rd' es x) {v : Value} {xs : List α}
    (hf : ∀ x, x ∈ xs → ∀ (s : Vw) (es : List Value) (R' : Value → Vw → Prop), Keeps σ s → Rel (Av.get w0 s) es x → (∀ es' F s', Keeps s s' → O s' F es' x → (∀ b, b ∈ F → s b = none) → R' (.agg ⟨es'⟩) s') → AC P w0 f [.agg ⟨es⟩] s R')
    (h : RSl n Rel (Av.get w0 σ) v xs) (hb : bytes * xs.length ≤ 140737488355328) {R : Value → Vw → Prop} (hR : ∀ v' F σ', Keeps σ σ' → OSl w0 n O σ' F v' xs → (∀ b, b ∈ F → σ b = none) → R v' σ') : VtoS P w0 T ety n bytes f z v σ R := by
  unfold VtoS
  have hl := h.le
  rw [h.len]
  refine pMake_s hb hl fun b e h1 h2 => ?_
  refine loop_rule (m := xs.length) (fun m l s => ∃ (j : Nat) (css : List (List Value)) (Fs : List (List Nat)), m + j = xs.length ∧ css.length = j ∧ Fs.length = j ∧ Keeps σ s ∧ s b = some ⟨e, css.flatten ++ (List.replicate m z).flatten, xs.length * n, (0, 0)⟩ ∧
    (∀ c, c ∈ css → c.length = n) ∧ (b :: Fs.flatten).Nodup ∧ (∀ i, i ∈ Fs.flatten → σ i = none ∧ s i ≠ none) ∧ (∀ (i : Nat) (c : List Value) (x : α) (f : List Nat), css[i]? = some c → xs[i]? = some x → Fs[i]? = some f → O s f c x) ∧ l = [v, .slice (some ⟨b, 0, none⟩) xs.length xs.length, .int .i64 (j : Nat)]) ?_
    ⟨0, [], [], by omega, rfl, rfl, Keeps.put h2, by simp [put_at], by simp, by simp, by simp, by simp, rfl⟩
  rintro m l s L ⟨j, css, Fs, hm, hc, hFs, hk, hrow, hcn, hnd, hdom, hO, rfl⟩ hL
  simp only [vget, List.getD_cons_zero, List.getD_cons_succ]
  rw [h.len, pBin_lt, pIf_d]
  refine ⟨fun hj => ?_, fun hj => ?_⟩
  · have hj' : j < xs.length := by omega
    have hx := List.getElem?_eq_getElem hj'
    refine RSl.at (h.mono hk.le fun es x => hmono _ _ _ _ hk.le) hx fun g hg => ?_
    refine hf _ (List.getElem_mem hj') s _ _ hk hg fun es' F s' hk' hO' hFn => ?_
    obtain ⟨m', rfl⟩ : ∃ m', m = m' + 1 := ⟨m - 1, by omega⟩
    have hlen := ok.len _ _ _ _ hO'
    have hsp : spread n (.agg ⟨es'⟩) = es' := by subst hlen; exact spread_agg es'
    have hrow' := hk' _ _ hrow
    have eV : ∀ A : Prop, pVal true n (.agg ⟨es'⟩) A = A := fun A => propext (pValN hlen (ok.one _ _ _ _ hO'))
    simp only [eV, hsp]
    refine own_store (r := ⟨e, css.flatten ++ (List.replicate (m' + 1) z).flatten, xs.length * n, (0, 0)⟩) (A := css.flatten) (old := z) (new := es') (C := (List.replicate m' z).flatten) hrow' (by simp [List.replicate_succ]) (by rw [flat_len css hcn, hc]) (by omega) hlen hj' ?_
    rw [pBin_add (by omega)]
    have hbF : b ∉ F := fun hbF => by rw [hFn b hbF] at hrow; cases hrow
    have hbFs : b ∉ Fs.flatten := (List.nodup_cons.1 hnd).1
    have hdisj : ∀ i, i ∈ Fs.flatten → i ∉ F := fun i hi hiF => (hdom i hi).2 (hFn i hiF)
    have hput : ∀ i, i ≠ b → (s'.put b { (⟨e, css.flatten ++ (List.replicate (m' + 1) z).flatten, xs.length * n, (0, 0)⟩ : Row) with cells := css.flatten ++ (es' ++ (List.replicate m' z).flatten) }) i = s' i := fun i hi => by simp [Vw.put, hi]
    refine hL _ _ m' rfl ⟨j + 1, css ++ [es'], Fs ++ [F], by omega, by simp [hc], by simp [hFs], (hk.trans hk').fill h2, ?_, ?_, ?_, ?_, ?_, rfl⟩
    · rw [put_at]; simp
    · intro c hc'
      rcases List.mem_append.1 hc' with h' | h'
      · exact hcn c h'
      · rw [List.mem_singleton.1 h']; exact hlen
    · have hFnd := ok.nodup _ _ _ _ hO'
      rw [List.flatten_append]
      simp only [List.flatten_cons, List.flatten_nil, List.append_nil]
      rw [List.nodup_cons]
      refine ⟨fun hm' => ?_, List.nodup_append.2 ⟨(List.nodup_cons.1 hnd).2, hFnd, fun a ha b' hb' e' => hdisj a ha (e' ▸ hb')⟩⟩
      rcases List.mem_append.1 hm' with h' | h'
      · exact hbFs h'
      · exact hbF h'
    · intro i hi
      rw [List.flatten_append] at hi
      simp only [List.flatten_cons, List.flatten_nil, List.append_nil] at hi
      rcases List.mem_append.1 hi with h' | h'
      · have hib : i ≠ b := fun e' => hbFs (e' ▸ h')
        refine ⟨(hdom i h').1, ?_⟩
        rw [hput i hib]
        cases hs : s i with
        | none => exact absurd hs (hdom i h').2
        | some r => rw [hk' i r hs]; simp
      · have hib : i ≠ b := fun e' => hbF (e' ▸ h')
        refine ⟨?_, by rw [hput i hib]; exact (ok.dom _ _ _ _ hO' i h').2⟩
        cases hs : σ i with
        | none => rfl
        | some r => have := hk i r hs; rw [hFn i h'] at this; cases this
    · intro i c x f' e1 e2 e3
      by_cases hi : i < j
      · rw [List.getElem?_append_left (by omega)] at e1 e3
        refine ok.frame _ _ _ _ _ (hO i c x f' e1 e2 e3) fun k hk2 => ?_
        have hkF : k ∈ Fs.flatten := List.mem_flatten.2 ⟨f', List.mem_of_getElem? e3, hk2⟩
        rw [hput k fun e' => hbFs (e' ▸ hkF)]
        cases hs : s k with
        | none => exact absurd hs (hdom k hkF).2
        | some r => exact hk' k r hs
      · have hij : i = j := by
          have := (List.getElem?_eq_some_iff.1 e1).1
          simp [hc] at this
          omega
        subst hij
        rw [List.getElem?_append_right (by omega)] at e1 e3
        simp [hc] at e1
        simp [hFs] at e3
        subst e1 e3
        rw [hx] at e2
        cases e2
        exact ok.frame _ _ _ _ _ hO' fun k hk2 => hput k fun e' => hbF (e' ▸ hk2)
  · have hj' : j = xs.length := by omega
    subst hj'
    have hm0 : m = 0 := by omega
    subst hm0
    refine hR _ (b :: Fs.flatten) s hk ⟨hl, hnd, .inr ⟨b, 0, xs.length, _, [], [], css, Fs, rfl, ⟨Nat.le_refl _, hl⟩, h1, hrow, by simp, rfl, hc, hFs, rfl, hO⟩⟩ fun i hi => ?_
    rcases List.mem_cons.1 hi with e' | e'
    · rw [e']; exact h2
    · exact (hdom i e').1
end
end Go.Av

/- What each function owes, reckoned out. MADE BY PROGRAM (emit.py). -/
set_option linter.unusedVariables false
namespace Go.Proofs.Ytkndffhcncmbjaa
open Go Go.Av

abbrev t_int64 : Nat := 2
abbrev t_int : Nat := 3
abbrev t_bool : Nat := 4
abbrev t_uint8 : Nat := 5
abbrev t_abi_BoundsErrorCode : Nat := 6
abbrev t_runtime_boundsError : Nat := 8
abbrev t_string : Nat := 9
abbrev t_runtime_errorString : Nat := 10
abbrev t_runtime_plainError : Nat := 11
abbrev t_uintptr : Nat := 12
abbrev t_runtime_errorAddressString : Nat := 14
abbrev t_p_runtime_TypeAssertionError : Nat := 15
abbrev t_p_runtime_PanicNilError : Nat := 16
abbrev t_p_abi_Type : Nat := 17
abbrev t_maps_unhashableTypeError : Nat := 19
abbrev t_int32 : Nat := 21
abbrev t_s_laws_Page : Nat := 22
abbrev t_s_laws_PageName : Nat := 23
abbrev t_laws_Pages : Nat := 25
abbrev t_s_impl_Page : Nat := 29
abbrev t_s_impl_PageName : Nat := 30
abbrev t_impl_Pages : Nat := 32
abbrev t_s_uint8 : Nat := 39
abbrev t_impl_PageName : Nat := 44
abbrev t_s_string : Nat := 49
abbrev t_impl_Disk : Nat := 51
abbrev t_s_impl_Raw : Nat := 52
abbrev t_impl_Raw : Nat := 58
abbrev t_p_spec_l1Rd : Nat := 75
abbrev t_s_bool : Nat := 78
abbrev t_s_int : Nat := 81
abbrev t_impl_Page : Nat := 85
abbrev t_a96_bool : Nat := 87
abbrev t_laws_Page : Nat := 95
abbrev t_laws_PageName : Nat := 97
abbrev t_spec_l1Rd : Nat := 109
abbrev t_impl_Store : Nat := 118
abbrev t_s_impl_Step : Nat := 121
abbrev t_impl_Step : Nat := 127
abbrev t_runtime_TypeAssertionError : Nat := 148
abbrev t_a0_p_runtime_PanicNilError : Nat := 149
abbrev t_runtime_PanicNilError : Nat := 151
abbrev t_uint32 : Nat := 152
abbrev t_abi_TFlag : Nat := 153
abbrev t_abi_Kind : Nat := 154
abbrev t_p_uint8 : Nat := 156
abbrev t_abi_NameOff : Nat := 157
abbrev t_abi_TypeOff : Nat := 158
abbrev t_abi_Type : Nat := 160
abbrev t_unsafe_Pointer : Nat := 161
abbrev n_laws_FnExactPagesGet : Nat := 3
abbrev n_laws_FnExactPagesDrop : Nat := 4
abbrev n_laws_FnPagesLeak : Nat := 5
abbrev n_laws_FnPagesDrop : Nat := 6
abbrev n_laws_FnDiskTwo : Nat := 7
abbrev n_laws_FnDiskWrite : Nat := 8
abbrev n_laws_szPages : Nat := 9
abbrev n_spec_PagesGet : Nat := 10
abbrev n_laws_toPages : Nat := 11
abbrev n_impl_PagesGet : Nat := 12
abbrev n_laws_eqPages : Nat := 13
abbrev n_spec_PagesDrop : Nat := 14
abbrev n_impl_PagesDrop : Nat := 15
abbrev n_laws_markPages : Nat := 16
abbrev n_laws_heldPages : Nat := 17
abbrev n_spec_DrawPagesFree : Nat := 18
abbrev n_impl_PagesFree : Nat := 19
abbrev n_spec_PagesFree : Nat := 20
abbrev n_spec_PagesOk : Nat := 21
abbrev n_impl_PagesNeed : Nat := 22
abbrev n_spec_DrawPagesDrop : Nat := 23
abbrev n_laws_wxPages : Nat := 24
abbrev n_impl_PagesOk : Nat := 25
abbrev n_spec_DrawDiskWrite : Nat := 26
abbrev n_impl_DiskWrite : Nat := 27
abbrev n_laws_wdTexts : Nat := 28
abbrev n_spec_DiskWrite : Nat := 29
abbrev n_spec_DiskOk : Nat := 30
abbrev n_impl_DiskOk : Nat := 31
abbrev n_laws_szPageS : Nat := 32
abbrev n_laws_szPageNameS : Nat := 33
abbrev n_spec_l32At : Nat := 34
abbrev n_spec_l32Text : Nat := 35
abbrev n_laws_toPageS : Nat := 36
abbrev n_laws_toPageNameS : Nat := 37
abbrev n_impl_Pages_get : Nat := 38
abbrev n_laws_eqPageS : Nat := 39
abbrev n_laws_eqPageNameS : Nat := 40
abbrev n_spec_l32Copy : Nat := 41
abbrev n_spec_l32Drop : Nat := 42
abbrev n_impl_Pages_find : Nat := 43
abbrev n_impl_clonePages : Nat := 44
abbrev n_impl_Pages_dropped : Nat := 45
abbrev n_laws_markPageS : Nat := 46
abbrev n_laws_markPageNameS : Nat := 47
abbrev n_laws_heldPageS : Nat := 48
abbrev n_laws_heldPageNameS : Nat := 49
abbrev n_spec_l61AnyPages : Nat := 50
abbrev n_spec_l1Open : Nat := 51
abbrev n_impl_Pages_free : Nat := 52
abbrev n_spec_l32Free : Nat := 53
abbrev n_spec_l1NameOk : Nat := 54
abbrev n_spec_l1In : Nat := 55
abbrev n_spec_l32Chain : Nat := 56
abbrev n_impl_pieces : Nat := 57
abbrev n_spec_DrawPagesGet : Nat := 58
abbrev n_impl_nameOk : Nat := 59
abbrev n_impl_within : Nat := 60
abbrev n_impl_Pages_chain : Nat := 61
abbrev n_spec_l24Any : Nat := 62
abbrev n_p_spec_l1Rd_pick : Nat := 63
abbrev n_spec_l1Many : Nat := 64
abbrev n_impl_cloneDisk : Nat := 65
abbrev n_spec_l21Copy : Nat := 66
abbrev n_spec_l21RawOk : Nat := 67
abbrev n_laws_szPage : Nat := 68
abbrev n_laws_szPageName : Nat := 69
abbrev n_laws_toPage : Nat := 70
abbrev n_laws_toPageName : Nat := 71
abbrev n_laws_eqPage : Nat := 72
abbrev n_laws_eqPageName : Nat := 73
abbrev n_slices_IndexFunc_impl_PageName_impl_PageName : Nat := 74
abbrev n_impl_Pages_find_c1 : Nat := 75
abbrev n_slices_Delete_impl_PageName_impl_PageName : Nat := 76
abbrev n_laws_markText : Nat := 77
abbrev n_spec_l61Pages : Nat := 78
abbrev n_spec_l61Spoil : Nat := 79
abbrev n_spec_PagesPut : Nat := 80
abbrev n_spec_l1Dec : Nat := 81
abbrev n_p_spec_l1Rd_of : Nat := 82
abbrev n_slices_Contains_int_int : Nat := 83
abbrev n_spec_l24Disk : Nat := 84
abbrev n_spec_l24Spoil : Nat := 85
abbrev n_spec_l21In : Nat := 86
abbrev n_spec_PagesNew : Nat := 87
abbrev n_spec_l61Text : Nat := 88
abbrev n_spec_PagesNeed : Nat := 89
abbrev n_spec_l32Keep : Nat := 90
abbrev n_slices_Index_int_int : Nat := 91
abbrev n_spec_StorePlay : Nat := 92
abbrev n_spec_l24New : Nat := 93
abbrev n_spec_l24Steps : Nat := 94
abbrev n_spec_StoreOpen : Nat := 95
abbrev n_spec_l23Step : Nat := 96
abbrev n_spec_l22Copy : Nat := 97
abbrev n_spec_StoreNew : Nat := 98
abbrev n_spec_l24Blank : Nat := 99
abbrev n_spec_l24Group : Nat := 100
abbrev n_spec_l24Text : Nat := 101
abbrev n_spec_l22Found : Nat := 102
abbrev n_spec_l22Text : Nat := 103
abbrev n_spec_l22Area : Nat := 104
abbrev n_spec_l22Group : Nat := 105
abbrev n_spec_l22Clean : Nat := 106
abbrev n_spec_StoreAppend : Nat := 107
abbrev n_spec_StoreSave : Nat := 108
abbrev n_spec_l22TextOk : Nat := 109
abbrev n_spec_l22Saved : Nat := 110
abbrev n_spec_l22Cut : Nat := 111
abbrev n_spec_l22Num : Nat := 112
abbrev n_spec_l22Ok : Nat := 113
abbrev n_spec_l22Blocks : Nat := 114
abbrev n_spec_l22Piece : Nat := 115
abbrev n_spec_l22Dec : Nat := 116
abbrev n_spec_l22Many : Nat := 117
abbrev n_spec_l22Head : Nat := 118
abbrev n_runtime_boundsError_Error : Nat := 119
abbrev n_runtime_boundsError_RuntimeError : Nat := 120
abbrev n_runtime_errorString_Error : Nat := 121
abbrev n_runtime_errorString_RuntimeError : Nat := 122
abbrev n_runtime_plainError_Error : Nat := 123
abbrev n_runtime_plainError_RuntimeError : Nat := 124
abbrev n_runtime_errorAddressString_Error : Nat := 125
abbrev n_runtime_errorAddressString_RuntimeError : Nat := 126
abbrev n_p_runtime_TypeAssertionError_Error : Nat := 127
abbrev n_p_runtime_TypeAssertionError_RuntimeError : Nat := 128
abbrev n_p_runtime_PanicNilError_Error : Nat := 129
abbrev n_p_runtime_PanicNilError_RuntimeError : Nat := 130
abbrev n_p_internal_abi_Type_Align : Nat := 131
abbrev n_internal_runtime_maps_unhashableTypeError_Error : Nat := 132
abbrev n_internal_runtime_maps_unhashableTypeError_RuntimeError : Nat := 133
abbrev n_internal_abi_Kind_String : Nat := 134
end Go.Proofs.Ytkndffhcncmbjaa

/- What each function owes, reckoned out, part 1. MADE BY PROGRAM (emit.py). -/
set_option linter.unusedVariables false
namespace Go.Proofs.Ytkndffhcncmbjaa
open Go Go.Av

/-- laws.FnExactPagesGet -/
def kp_laws_FnExactPagesGet : Nat → Keep
  | 12 => ⟨[], [], [], .step 0 (.step 1 (.step 2 (.step 3 (.step 4 (.done))))), [(2, [1]), (3, [0, 1, 2]), (4, [0, 1, 2, 3])]⟩
  | _ => ⟨[], [], [], .done, []⟩
def esc_laws_FnExactPagesGet : Nat → Bool
  | _ => false
def vc_laws_FnExactPagesGet (w0 : World) (a0 a1 : Value) (σ : Vw) (R : Value → Vw → Prop) : Prop :=
  pVal true 2 a0 (pLenS a1 (fun v0 => pBin Try.prog 3 BinOp.gtr v0 (Value.int IntKind.i64 1048576) (fun v1 => pIf v1 (R (Value.bool true) σ) (AC Try.prog w0 n_laws_szPages ([Value.agg (⟨[cellOf a0 0, cellOf a0 1]⟩), Value.int IntKind.i64 1048576]) σ (fun v2 s3 => pBin Try.prog 3 BinOp.lss v2 (Value.int IntKind.i64 0) (fun v4 => pIf v4 (R (Value.bool true) s3) (AC Try.prog w0 n_laws_toPages ([Value.agg (⟨[cellOf a0 0, cellOf a0 1]⟩)]) s3 (fun v5 s6 => AC Try.prog w0 n_spec_PagesGet [v5, a1] s6 (fun v7 s8 => pExtract v7 0 (fun v9 => pExtract v7 1 (fun v10 => AC Try.prog w0 n_laws_toPages ([Value.agg (⟨[cellOf a0 0, cellOf a0 1]⟩)]) s8 (fun v11 s12 => pVal true 2 v11 (AC Try.prog w0 n_impl_PagesGet ([Value.agg (⟨[cellOf v11 0, cellOf v11 1]⟩), a1]) s12 (fun v13 s14 => pExtract v13 0 (fun v15 => pExtract v13 1 (fun v16 => pBin Try.prog 9 BinOp.neq v15 v9 (fun v17 => pIf v17 (R (Value.bool false) s14) (pBin Try.prog 4 BinOp.neq v16 v10 (fun v18 => pIf v18 (R (Value.bool false) s14) (AC Try.prog w0 n_laws_toPages ([Value.agg (⟨[cellOf a0 0, cellOf a0 1]⟩)]) s14 (fun v19 s20 => AC Try.prog w0 n_laws_eqPages ([Value.agg (⟨[cellOf v11 0, cellOf v11 1]⟩), v19]) s20 (fun v21 s22 => pUn UnOp.not v21 (fun v23 => pIf v23 (R (Value.bool false) s22) (R (Value.bool true) s22))))))))))))))))))))))))
theorem vc_laws_FnExactPagesGet_eq (w0 : World) (a0 a1 : Value) (σ : Vw) (R : Value → Vw → Prop) : vc_laws_FnExactPagesGet w0 a0 a1 σ R = den Try.prog w0 kp_laws_FnExactPagesGet esc_laws_FnExactPagesGet (Try.f3.body.getD .skip) (entry Try.f3.ntmps [a0, a1]) σ (retK Try.prog Try.f3.results.toList R) := by kernel_rfl
theorem ac_laws_FnExactPagesGet {w0 : World} {a0 a1 : Value} {σ : Vw} {R : Value → Vw → Prop} (h : vc_laws_FnExactPagesGet w0 a0 a1 σ R) : AC Try.prog w0 n_laws_FnExactPagesGet [a0, a1] σ R := by
  refine ac_rule (fn := Try.f3) (c := Try.f3.body.getD .skip) kp_laws_FnExactPagesGet esc_laws_FnExactPagesGet Try.func3 (by kernel_rfl) (by kernel_rfl) ?_
  rw [← vc_laws_FnExactPagesGet_eq]
  exact h

/-- laws.FnExactPagesDrop -/
def kp_laws_FnExactPagesDrop : Nat → Keep
  | 12 => ⟨[], [], [], .step 0 (.step 1 (.step 2 (.step 3 (.step 4 (.done))))), [(2, [1]), (3, [0, 1, 2]), (4, [0, 1, 2, 3])]⟩
  | _ => ⟨[], [], [], .done, []⟩
def esc_laws_FnExactPagesDrop : Nat → Bool
  | _ => false
def vc_laws_FnExactPagesDrop (w0 : World) (a0 a1 : Value) (σ : Vw) (R : Value → Vw → Prop) : Prop :=
  pVal true 2 a0 (pLenS a1 (fun v0 => pBin Try.prog 3 BinOp.gtr v0 (Value.int IntKind.i64 1048576) (fun v1 => pIf v1 (R (Value.bool true) σ) (AC Try.prog w0 n_laws_szPages ([Value.agg (⟨[cellOf a0 0, cellOf a0 1]⟩), Value.int IntKind.i64 1048576]) σ (fun v2 s3 => pBin Try.prog 3 BinOp.lss v2 (Value.int IntKind.i64 0) (fun v4 => pIf v4 (R (Value.bool true) s3) (AC Try.prog w0 n_laws_toPages ([Value.agg (⟨[cellOf a0 0, cellOf a0 1]⟩)]) s3 (fun v5 s6 => AC Try.prog w0 n_spec_PagesDrop [v5, a1] s6 (fun v7 s8 => pExtract v7 0 (fun v9 => pExtract v7 1 (fun v10 => pVal true 2 v9 (AC Try.prog w0 n_laws_toPages ([Value.agg (⟨[cellOf a0 0, cellOf a0 1]⟩)]) s8 (fun v11 s12 => pVal true 2 v11 (AC Try.prog w0 n_impl_PagesDrop ([Value.agg (⟨[cellOf v11 0, cellOf v11 1]⟩), a1]) s12 (fun v13 s14 => pExtract v13 0 (fun v15 => pExtract v13 1 (fun v16 => pVal true 2 v15 (AC Try.prog w0 n_laws_eqPages ([Value.agg (⟨[cellOf v15 0, cellOf v15 1]⟩), Value.agg (⟨[cellOf v9 0, cellOf v9 1]⟩)]) s14 (fun v17 s18 => pUn UnOp.not v17 (fun v19 => pIf v19 (R (Value.bool false) s18) (pBin Try.prog 3 BinOp.neq v16 v10 (fun v20 => pIf v20 (R (Value.bool false) s18) (AC Try.prog w0 n_laws_toPages ([Value.agg (⟨[cellOf a0 0, cellOf a0 1]⟩)]) s18 (fun v21 s22 => AC Try.prog w0 n_laws_eqPages ([Value.agg (⟨[cellOf v11 0, cellOf v11 1]⟩), v21]) s22 (fun v23 s24 => pUn UnOp.not v23 (fun v25 => pIf v25 (R (Value.bool false) s24) (AC Try.prog w0 n_laws_markPages ([Value.agg (⟨[cellOf v11 0, cellOf v11 1]⟩), Value.int IntKind.i64 1]) s24 (fun v26 s27 => pBin Try.prog 3 BinOp.lss v26 (Value.int IntKind.i64 0) (fun v28 => pIf v28 (R (Value.bool false) s27) (AC Try.prog w0 n_laws_eqPages ([Value.agg (⟨[cellOf v15 0, cellOf v15 1]⟩), Value.agg (⟨[cellOf v9 0, cellOf v9 1]⟩)]) s27 (fun v29 s30 => pUn UnOp.not v29 (fun v31 => pIf v31 (R (Value.bool false) s30) (pBin Try.prog 3 BinOp.neq v16 v10 (fun v32 => pIf v32 (R (Value.bool false) s30) (AC Try.prog w0 n_laws_markPages ([Value.agg (⟨[cellOf v15 0, cellOf v15 1]⟩), Value.int IntKind.i64 1]) s30 (fun v33 s34 => AC Try.prog w0 n_laws_heldPages ([Value.agg (⟨[cellOf v15 0, cellOf v15 1]⟩), Value.int IntKind.i64 1]) s34 (fun v35 s36 => pBin Try.prog 3 BinOp.lss v35 (Value.int IntKind.i64 0) (fun v37 => pIf v37 (R (Value.bool false) s36) (pBin Try.prog 3 BinOp.neq v35 v33 (fun v38 => pIf v38 (R (Value.bool false) s36) (AC Try.prog w0 n_laws_toPages ([Value.agg (⟨[cellOf a0 0, cellOf a0 1]⟩)]) s36 (fun v39 s40 => AC Try.prog w0 n_impl_PagesDrop [v39, a1] s40 (fun v41 s42 => pExtract v41 0 (fun v43 => pExtract v41 1 (fun v44 => pVal true 2 v43 (AC Try.prog w0 n_laws_eqPages ([Value.agg (⟨[cellOf v43 0, cellOf v43 1]⟩), Value.agg (⟨[cellOf v9 0, cellOf v9 1]⟩)]) s42 (fun v45 s46 => pUn UnOp.not v45 (fun v47 => pIf v47 (R (Value.bool false) s46) (pBin Try.prog 3 BinOp.neq v44 v10 (fun v48 => pIf v48 (R (Value.bool false) s46) (AC Try.prog w0 n_laws_heldPages ([Value.agg (⟨[cellOf v15 0, cellOf v15 1]⟩), Value.int IntKind.i64 1]) s46 (fun v49 s50 => pBin Try.prog 3 BinOp.lss v49 (Value.int IntKind.i64 0) (fun v51 => pIf v51 (R (Value.bool false) s50) (pBin Try.prog 3 BinOp.neq v49 v33 (fun v52 => pIf v52 (R (Value.bool false) s50) (R (Value.bool true) s50))))))))))))))))))))))))))))))))))))))))))))))))))))))))
theorem vc_laws_FnExactPagesDrop_eq (w0 : World) (a0 a1 : Value) (σ : Vw) (R : Value → Vw → Prop) : vc_laws_FnExactPagesDrop w0 a0 a1 σ R = den Try.prog w0 kp_laws_FnExactPagesDrop esc_laws_FnExactPagesDrop (Try.f4.body.getD .skip) (entry Try.f4.ntmps [a0, a1]) σ (retK Try.prog Try.f4.results.toList R) := by kernel_rfl
theorem ac_laws_FnExactPagesDrop {w0 : World} {a0 a1 : Value} {σ : Vw} {R : Value → Vw → Prop} (h : vc_laws_FnExactPagesDrop w0 a0 a1 σ R) : AC Try.prog w0 n_laws_FnExactPagesDrop [a0, a1] σ R := by
  refine ac_rule (fn := Try.f4) (c := Try.f4.body.getD .skip) kp_laws_FnExactPagesDrop esc_laws_FnExactPagesDrop Try.func4 (by kernel_rfl) (by kernel_rfl) ?_
  rw [← vc_laws_FnExactPagesDrop_eq]
  exact h

/-- laws.FnPagesLeak -/
def kp_laws_FnPagesLeak : Nat → Keep
  | 10 => ⟨[2, 4, 5], [(3, 2)], [3], .done, []⟩
  | 12 => ⟨[], [], [], .step 0 (.step 1 (.step 2 (.step 3 (.step 4 (.step 5 (.step 6 (.step 7 (.step 8 (.step 9 (.step 10 (.step 11 (.step 12 (.done))))))))))))), [(2, [1]), (4, [1, 2, 3]), (5, [1, 2, 3, 4]), (6, [1, 2, 3, 4, 5]), (7, [0, 1, 2, 3, 4, 5, 6]), (8, [0, 1, 2, 3, 4, 5, 6, 7]), (9, [0, 1, 2, 3, 4, 5, 6, 7, 8]), (10, [0, 1, 2, 3, 4, 5, 6, 7, 8]), (11, [0, 1, 2, 3, 4, 5, 6, 7, 8, 9]), (12, [0, 1, 2, 3, 4, 5, 6, 7, 8, 9, 10, 11])]⟩
  | _ => ⟨[], [], [], .done, []⟩
def esc_laws_FnPagesLeak : Nat → Bool
  | _ => false
def vc_laws_FnPagesLeak (w0 : World) (a0 : Value) (σ : Vw) (R : Value → Vw → Prop) : Prop :=
  pLen a0 (fun v0 => pBin Try.prog 3 BinOp.gtr v0 (Value.int IntKind.i64 1048576) (fun v1 => pIf v1 (R (Value.bool true) σ) (AC Try.prog w0 n_spec_DrawPagesFree [a0] σ (fun v2 s3 => pVal true 2 v2 (AC Try.prog w0 n_impl_PagesFree ([Value.agg (⟨[cellOf v2 0, cellOf v2 1]⟩)]) s3 (fun v4 s5 => AC Try.prog w0 n_spec_PagesFree ([Value.agg (⟨[cellOf v2 0, cellOf v2 1]⟩)]) s5 (fun v6 s7 => pBin Try.prog 3 BinOp.neq v4 v6 (fun v8 => pIf v8 (R (Value.bool false) s7) (AC Try.prog w0 n_spec_PagesOk ([Value.agg (⟨[cellOf v2 0, cellOf v2 1]⟩)]) s7 (fun v9 s10 => pUn UnOp.not v9 (fun v11 => pIf v11 (pBin Try.prog 3 BinOp.eql v4 (Value.int IntKind.i64 0) (fun v12 => R v12 s10)) (pLoop (fun l13 K14 s15 => pLen (vget l13 4) (fun v16 => pBin Try.prog 3 BinOp.lss (vget l13 2) v16 (fun v17 => pIf v17 (pIndexAddr 3 (vget l13 4) (vget l13 2) (fun v18 => pField 0 v18 (fun v19 => pLoad w0 1 v19 s15 (fun g20 => AC Try.prog w0 n_impl_PagesGet ([Value.agg (⟨[vget l13 3, vget l13 4]⟩), g20 0]) s15 (fun v21 s22 => pExtract v21 0 (fun v23 => pExtract v21 1 (fun v24 => pUn UnOp.not v24 (fun v25 => pIf v25 (K14 AX.ret [Value.bool false, vget l13 1, vget l13 2, vget l13 3, vget l13 4] s22) (pLenS v23 (fun v26 => pIndexAddr 3 (vget l13 4) (vget l13 2) (fun v27 => pField 2 v27 (fun v28 => pLoad w0 1 v28 s22 (fun g29 => pBin Try.prog 3 BinOp.neq v26 (g29 0) (fun v30 => pIf v30 (K14 AX.ret [Value.bool false, vget l13 1, vget l13 2, vget l13 3, vget l13 4] s22) (AC Try.prog w0 n_impl_PagesNeed [v23] s22 (fun v31 s32 => pBin Try.prog 3 BinOp.add (vget l13 1) v31 (fun v33 => pBin Try.prog 3 BinOp.add (vget l13 2) (Value.int IntKind.i64 1) (fun v34 => K14 AX.normal [vget l13 0, v33, v34, vget l13 3, vget l13 4] s32)))))))))))))))))) (K14 (AX.exit 0) [vget l13 0, vget l13 1, vget l13 2, vget l13 3, vget l13 4] s15)))) [Value.bool false, v4, Value.int IntKind.i64 0, cellOf v2 0, cellOf v2 1] s10 (fun x35 l36 s37 => match x35 with | .normal => pBin Try.prog 3 BinOp.eql (vget l36 1) (Value.int IntKind.i64 96) (fun v38 => R v38 s37) | .ret => R (vget l36 0) s37 | .exit i39 => (match Nat.beq i39 0 with | true => pBin Try.prog 3 BinOp.eql (vget l36 1) (Value.int IntKind.i64 96) (fun v40 => R v40 s37) | false => False))))))))))))))
theorem vc_laws_FnPagesLeak_eq (w0 : World) (a0 : Value) (σ : Vw) (R : Value → Vw → Prop) : vc_laws_FnPagesLeak w0 a0 σ R = den Try.prog w0 kp_laws_FnPagesLeak esc_laws_FnPagesLeak (Try.f5.body.getD .skip) (entry Try.f5.ntmps [a0]) σ (retK Try.prog Try.f5.results.toList R) := by kernel_rfl
theorem ac_laws_FnPagesLeak {w0 : World} {a0 : Value} {σ : Vw} {R : Value → Vw → Prop} (h : vc_laws_FnPagesLeak w0 a0 σ R) : AC Try.prog w0 n_laws_FnPagesLeak [a0] σ R := by
  refine ac_rule (fn := Try.f5) (c := Try.f5.body.getD .skip) kp_laws_FnPagesLeak esc_laws_FnPagesLeak Try.func5 (by kernel_rfl) (by kernel_rfl) ?_
  rw [← vc_laws_FnPagesLeak_eq]
  exact h

/-- laws.FnPagesDrop -/
def kp_laws_FnPagesDrop : Nat → Keep
  | 12 => ⟨[], [], [], .step 0 (.step 1 (.step 2 (.step 3 (.step 4 (.step 5 (.step 6 (.step 8 (.step 10 (.step 7 (.step 9 (.step 11 (.step 12 (.step 13 (.step 14 (.step 15 (.step 16 (.step 17 (.step 18 (.step 19 (.done)))))))))))))))))))), [(1, [0]), (2, [0, 1]), (3, [0, 1, 2]), (4, [0, 1, 2, 3]), (5, [0, 1, 2, 3, 4]), (6, [0, 1, 2, 3, 4, 5]), (7, [0, 1, 2, 3, 4, 5, 6]), (8, [0, 1, 2, 3, 4, 5]), (9, [0, 1, 2, 3, 4, 5, 6, 7, 8]), (10, [0, 1, 2, 3, 4, 5]), (11, [0, 1, 2, 3, 4, 5, 6, 7, 8, 9, 10]), (12, [0, 1, 2, 3, 4, 5, 6, 7, 8, 9, 10, 11]), (13, [0, 1, 2, 3, 4, 5, 6, 7, 8, 9, 10, 11, 12]), (14, [0, 1, 2, 3, 4, 5, 6, 7, 8, 9, 10, 11, 12, 13]), (15, [0, 1, 2, 3, 4, 5, 6, 7, 8, 9, 10, 11, 12, 13, 14]), (16, [0, 1, 2, 3, 4, 5, 6, 7, 8, 9, 10, 11, 12, 13, 14, 15]), (17, [0, 1, 2, 3, 4, 5, 6, 7, 8, 9, 10, 11, 12, 13, 14, 15, 16]), (18, [0, 1, 2, 3, 4, 5, 6, 7, 8, 9, 10, 11, 12, 13, 14, 15, 16, 17]), (19, [0, 1, 2, 3, 4, 5, 6, 7, 8, 9, 10, 11, 12, 13, 14, 15, 16, 17, 18])]⟩
  | _ => ⟨[], [], [], .done, []⟩
def esc_laws_FnPagesDrop : Nat → Bool
  | _ => false
def vc_laws_FnPagesDrop (w0 : World) (a0 : Value) (σ : Vw) (R : Value → Vw → Prop) : Prop :=
  pLen a0 (fun v0 => pBin Try.prog 3 BinOp.gtr v0 (Value.int IntKind.i64 1048576) (fun v1 => pIf v1 (R (Value.bool true) σ) (AC Try.prog w0 n_spec_DrawPagesDrop [a0] σ (fun v2 s3 => pExtract v2 0 (fun v4 => pExtract v2 1 (fun v5 => pVal true 2 v4 (AC Try.prog w0 n_impl_PagesDrop ([Value.agg (⟨[cellOf v4 0, cellOf v4 1]⟩), v5]) s3 (fun v6 s7 => pExtract v6 0 (fun v8 => pExtract v6 1 (fun v9 => pVal true 2 v8 (AC Try.prog w0 n_spec_PagesDrop ([Value.agg (⟨[cellOf v4 0, cellOf v4 1]⟩), v5]) s7 (fun v10 s11 => pExtract v10 0 (fun v12 => pExtract v10 1 (fun v13 => pVal true 2 v12 (AC Try.prog w0 n_impl_PagesGet ([Value.agg (⟨[cellOf v4 0, cellOf v4 1]⟩), v5]) s11 (fun v14 s15 => pExtract v14 0 (fun v16 => pExtract v14 1 (fun v17 => pBin Try.prog 3 BinOp.neq v9 v13 (fun v18 => pIf v18 (R (Value.bool false) s15) (AC Try.prog w0 n_laws_wxPages ([Value.agg (⟨[cellOf v8 0, cellOf v8 1]⟩), Value.agg (⟨[cellOf v12 0, cellOf v12 1]⟩)]) s15 (fun v19 s20 => pUn UnOp.not v19 (fun v21 => pIf v21 (R (Value.bool false) s20) (pBin Try.prog 3 BinOp.neq v9 (Value.int IntKind.i64 0) (fun v22 => pIf v22 (pUn UnOp.not v17 (fun v23 => pIf v23 (pBin Try.prog 3 BinOp.eql v9 (Value.int IntKind.i64 1) (fun v24 => pIf v24 (R (Value.bool true) s20) (AC Try.prog w0 n_laws_wxPages ([Value.agg (⟨[cellOf v8 0, cellOf v8 1]⟩), Value.agg (⟨[cellOf v4 0, cellOf v4 1]⟩)]) s20 (fun v25 s26 => R v25 s26)))) (R (Value.bool false) s20))) (AC Try.prog w0 n_impl_PagesGet ([Value.agg (⟨[cellOf v8 0, cellOf v8 1]⟩), v5]) s20 (fun v27 s28 => pExtract v27 0 (fun v29 => pExtract v27 1 (fun v30 => pIf v17 (pUn UnOp.not v30 (fun v31 => pIf v31 (AC Try.prog w0 n_impl_PagesFree ([Value.agg (⟨[cellOf v8 0, cellOf v8 1]⟩)]) s28 (fun v32 s33 => AC Try.prog w0 n_impl_PagesFree ([Value.agg (⟨[cellOf v4 0, cellOf v4 1]⟩)]) s33 (fun v34 s35 => AC Try.prog w0 n_impl_PagesNeed [v16] s35 (fun v36 s37 => pBin Try.prog 3 BinOp.add v34 v36 (fun v38 => pBin Try.prog 3 BinOp.eql v32 v38 (fun v39 => pIf v39 (AC Try.prog w0 n_impl_PagesOk ([Value.agg (⟨[cellOf v8 0, cellOf v8 1]⟩)]) s37 (fun v40 s41 => R v40 s41)) (R (Value.bool false) s37))))))) (R (Value.bool false) s28))) (R (Value.bool false) s28)))))))))))))))))))))))))))))
theorem vc_laws_FnPagesDrop_eq (w0 : World) (a0 : Value) (σ : Vw) (R : Value → Vw → Prop) : vc_laws_FnPagesDrop w0 a0 σ R = den Try.prog w0 kp_laws_FnPagesDrop esc_laws_FnPagesDrop (Try.f6.body.getD .skip) (entry Try.f6.ntmps [a0]) σ (retK Try.prog Try.f6.results.toList R) := by kernel_rfl
theorem ac_laws_FnPagesDrop {w0 : World} {a0 : Value} {σ : Vw} {R : Value → Vw → Prop} (h : vc_laws_FnPagesDrop w0 a0 σ R) : AC Try.prog w0 n_laws_FnPagesDrop [a0] σ R := by
  refine ac_rule (fn := Try.f6) (c := Try.f6.body.getD .skip) kp_laws_FnPagesDrop esc_laws_FnPagesDrop Try.func6 (by kernel_rfl) (by kernel_rfl) ?_
  rw [← vc_laws_FnPagesDrop_eq]
  exact h

/-- laws.FnDiskTwo -/
def kp_laws_FnDiskTwo : Nat → Keep
  | 5 => ⟨[], [], [], .step 0 (.step 1 (.step 2 (.step 3 (.step 4 (.step 5 (.step 6 (.step 7 (.step 8 (.step 9 (.done)))))))))), [(1, [0]), (5, [4]), (6, [2, 3, 4, 5]), (7, [2, 3, 4, 5, 6]), (8, [0, 1, 2, 3, 4, 5, 6, 7]), (9, [0, 1, 2, 3, 4, 5, 6, 7, 8])]⟩
  | 9 => ⟨[2, 4, 7, 8], [(3, 1), (6, 1)], [3, 6], .done, []⟩
  | 12 => ⟨[2, 4, 7, 8, 9], [(3, 1), (6, 1)], [3, 6], .done, []⟩
  | 14 => ⟨[], [], [], .step 0 (.step 1 (.step 2 (.step 3 (.step 4 (.step 5 (.step 6 (.step 7 (.step 8 (.step 9 (.step 10 (.done))))))))))), [(2, [0, 1]), (3, [0, 1, 2]), (4, [0, 1, 2, 3]), (7, [5, 6]), (8, [5, 6, 7]), (9, [5, 6, 7, 8]), (10, [0, 1, 2, 3, 4, 5, 6, 7, 8, 9])]⟩
  | 17 => ⟨[], [], [], .step 0 (.step 1 (.step 2 (.step 3 (.step 6 (.step 7 (.step 4 (.step 5 (.step 8 (.step 9 (.done)))))))))), [(3, [2]), (4, [0, 1, 2, 3]), (5, [0, 1, 2, 3, 4]), (7, [6]), (8, [0, 1, 2, 3, 4, 5, 6, 7]), (9, [0, 1, 2, 3, 4, 5, 6, 7, 8])]⟩
  | _ => ⟨[], [], [], .done, []⟩
def esc_laws_FnDiskTwo : Nat → Bool
  | 34 => true
  | _ => false
def vc_laws_FnDiskTwo (w0 : World) (a0 : Value) (σ : Vw) (R : Value → Vw → Prop) : Prop :=
  pLen a0 (fun v0 => pBin Try.prog 3 BinOp.gtr v0 (Value.int IntKind.i64 1048576) (fun v1 => pIf v1 (R (Value.bool true) σ) (AC Try.prog w0 n_spec_DrawDiskWrite [a0] σ (fun v2 s3 => pExtract v2 0 (fun v4 => pExtract v2 1 (fun v5 => pExtract v2 2 (fun v6 => pVal true 1 v4 (pLen v5 (fun v7 => AC Try.prog w0 n_impl_DiskWrite ([Value.agg (⟨[cellOf v4 0]⟩), v5, v7]) s3 (fun v8 s9 => pVal true 1 v8 (pLen v5 (fun v10 => AC Try.prog w0 n_spec_DiskWrite ([Value.agg (⟨[cellOf v4 0]⟩), v5, v10]) s9 (fun v11 s12 => pVal true 1 v11 (AC Try.prog w0 n_laws_wdTexts [cellOf v8 0, cellOf v11 0] s12 (fun v13 s14 => pUn UnOp.not v13 (fun v15 => pIf v15 (R (Value.bool false) s14) (pNew w0 58 [] s14 (fun n16 s17 => pLen v5 (fun v18 => pBin Try.prog 3 BinOp.sub v18 (Value.int IntKind.i64 1) (fun v19 => pLoop (fun l20 K21 s22 => pBin Try.prog 3 BinOp.geq (vget l20 3) (Value.int IntKind.i64 0) (fun v23 => pIf v23 (pLoop (fun l24 K25 s26 => pBin Try.prog 3 BinOp.lss (vget l24 4) (vget l24 3) (fun v27 => pIf v27 (pIndexAddr 2 (vget l24 1) (vget l24 4) (fun v28 => pField 0 v28 (fun v29 => pLoad w0 1 v29 s26 (fun g30 => pIndexAddr 2 (vget l24 1) (vget l24 3) (fun v31 => pField 0 v31 (fun v32 => pLoad w0 1 v32 s26 (fun g33 => pBin Try.prog 3 BinOp.eql (g30 0) (g33 0) (fun v34 => pIf v34 (K25 AX.ret [Value.bool true, vget l24 1, vget l24 2, vget l24 3, vget l24 4, vget l24 5, vget l24 6] s26) (pBin Try.prog 3 BinOp.add (vget l24 4) (Value.int IntKind.i64 1) (fun v35 => K25 AX.normal [vget l24 0, vget l24 1, vget l24 2, vget l24 3, v35, vget l24 5, vget l24 6] s26)))))))))) (K25 (AX.exit 2) [vget l24 0, vget l24 1, vget l24 2, vget l24 3, vget l24 4, vget l24 5, vget l24 6] s26))) [vget l20 0, vget l20 1, vget l20 2, vget l20 3, Value.int IntKind.i64 0, vget l20 4, vget l20 5] s22 (fun x36 l37 s38 => match x36 with | .normal => pIndexAddr 2 (vget l37 1) (vget l37 3) (fun v39 => pLoad w0 2 v39 s38 (fun g40 => pVal true 2 (Value.agg (⟨[g40 0, g40 1]⟩)) ((allOne [g40 0, g40 1]) ∧ (pAppend w0 58 2 24 (vget l37 2) 1 [g40 0, g40 1] s38 (fun v41 s42 => pBin Try.prog 3 BinOp.sub (vget l37 3) (Value.int IntKind.i64 1) (fun v43 => K21 AX.normal [vget l37 0, vget l37 1, v41, v43, vget l37 5, vget l37 6] s42)))))) | .ret => K21 AX.ret [vget l37 0, vget l37 1, vget l37 2, vget l37 3, vget l37 5, vget l37 6] s38 | .exit i44 => (match Nat.beq i44 2 with | true => pIndexAddr 2 (vget l37 1) (vget l37 3) (fun v45 => pLoad w0 2 v45 s38 (fun g46 => pVal true 2 (Value.agg (⟨[g46 0, g46 1]⟩)) ((allOne [g46 0, g46 1]) ∧ (pAppend w0 58 2 24 (vget l37 2) 1 [g46 0, g46 1] s38 (fun v47 s48 => pBin Try.prog 3 BinOp.sub (vget l37 3) (Value.int IntKind.i64 1) (fun v49 => K21 AX.normal [vget l37 0, vget l37 1, v47, v49, vget l37 5, vget l37 6] s48)))))) | false => (match Nat.beq i44 1 with | true => pBin Try.prog 3 BinOp.sub (vget l37 3) (Value.int IntKind.i64 1) (fun v50 => K21 AX.normal [vget l37 0, vget l37 1, vget l37 2, v50, vget l37 5, vget l37 6] s38) | false => K21 (AX.exit i44) [vget l37 0, vget l37 1, vget l37 2, vget l37 3, vget l37 5, vget l37 6] s38)))) (K21 (AX.exit 0) [vget l20 0, vget l20 1, vget l20 2, vget l20 3, vget l20 4, vget l20 5] s22))) [Value.bool false, v5, Value.slice (Option.some (Addr.mk n16 0 Option.none)) 0 0, v19, cellOf v4 0, cellOf v8 0] s17 (fun x51 l52 s53 => match x51 with | .normal => pLen (vget l52 2) (fun v54 => AC Try.prog w0 n_impl_DiskWrite ([Value.agg (⟨[vget l52 4]⟩), vget l52 2, v54]) s53 (fun v55 s56 => pVal true 1 v55 (AC Try.prog w0 n_laws_wdTexts [cellOf v55 0, vget l52 5] s56 (fun v57 s58 => R v57 s58)))) | .ret => R (vget l52 0) s53 | .exit i59 => (match Nat.beq i59 0 with | true => pLen (vget l52 2) (fun v60 => AC Try.prog w0 n_impl_DiskWrite ([Value.agg (⟨[vget l52 4]⟩), vget l52 2, v60]) s53 (fun v61 s62 => pVal true 1 v61 (AC Try.prog w0 n_laws_wdTexts [cellOf v61 0, vget l52 5] s62 (fun v63 s64 => R v63 s64)))) | false => False))))))))))))))))))))))
theorem vc_laws_FnDiskTwo_eq (w0 : World) (a0 : Value) (σ : Vw) (R : Value → Vw → Prop) : vc_laws_FnDiskTwo w0 a0 σ R = den Try.prog w0 kp_laws_FnDiskTwo esc_laws_FnDiskTwo (Try.f7.body.getD .skip) (entry Try.f7.ntmps [a0]) σ (retK Try.prog Try.f7.results.toList R) := by kernel_rfl
theorem ac_laws_FnDiskTwo {w0 : World} {a0 : Value} {σ : Vw} {R : Value → Vw → Prop} (h : vc_laws_FnDiskTwo w0 a0 σ R) : AC Try.prog w0 n_laws_FnDiskTwo [a0] σ R := by
  refine ac_rule (fn := Try.f7) (c := Try.f7.body.getD .skip) kp_laws_FnDiskTwo esc_laws_FnDiskTwo Try.func7 (by kernel_rfl) (by kernel_rfl) ?_
  rw [← vc_laws_FnDiskTwo_eq]
  exact h

/-- laws.FnDiskWrite -/
def kp_laws_FnDiskWrite : Nat → Keep
  | 5 => ⟨[], [], [], .step 0 (.step 1 (.step 2 (.step 3 (.step 4 (.step 5 (.step 6 (.step 7 (.step 8 (.done))))))))), [(1, [0]), (5, [2, 3, 4]), (6, [2, 3, 4, 5]), (7, [0, 1, 2, 3, 4, 5, 6]), (8, [0, 1, 2, 3, 4, 5, 6, 7])]⟩
  | 14 => ⟨[], [], [], .step 0 (.step 1 (.step 2 (.step 3 (.step 4 (.step 5 (.step 6 (.step 7 (.step 8 (.step 11 (.step 12 (.step 9 (.step 10 (.step 13 (.step 14 (.step 15 (.done)))))))))))))))), [(1, [0]), (2, [0, 1]), (3, [0, 1, 2]), (4, [0, 1, 2]), (5, [0, 1, 2]), (6, [0, 1, 2, 4, 5]), (7, [0, 1, 2]), (8, [0, 1, 2, 7]), (9, [0, 1, 2, 3, 4, 5, 6, 7, 8]), (10, [0, 1, 2, 3, 4, 5, 6, 7, 8, 9]), (11, [0, 1, 2]), (12, [0, 1, 2, 11]), (13, [0, 1, 2, 3, 4, 5, 6, 7, 8, 9, 10, 11, 12]), (14, [0, 1, 2, 3, 4, 5, 6, 7, 8, 9, 10, 11, 12, 13]), (15, [0, 1, 2, 3, 4, 5, 6, 7, 8, 9, 10, 11, 12, 13, 14])]⟩
  | _ => ⟨[], [], [], .done, []⟩
def esc_laws_FnDiskWrite : Nat → Bool
  | _ => false
def vc_laws_FnDiskWrite (w0 : World) (a0 : Value) (σ : Vw) (R : Value → Vw → Prop) : Prop :=
  pLen a0 (fun v0 => pBin Try.prog 3 BinOp.gtr v0 (Value.int IntKind.i64 1048576) (fun v1 => pIf v1 (R (Value.bool true) σ) (AC Try.prog w0 n_spec_DrawDiskWrite [a0] σ (fun v2 s3 => pExtract v2 0 (fun v4 => pExtract v2 1 (fun v5 => pExtract v2 2 (fun v6 => pVal true 1 v4 (AC Try.prog w0 n_impl_DiskWrite ([Value.agg (⟨[cellOf v4 0]⟩), v5, v6]) s3 (fun v7 s8 => pVal true 1 v7 (AC Try.prog w0 n_spec_DiskWrite ([Value.agg (⟨[cellOf v4 0]⟩), v5, v6]) s8 (fun v9 s10 => pVal true 1 v9 (AC Try.prog w0 n_laws_wdTexts [cellOf v7 0, cellOf v9 0] s10 (fun v11 s12 => pUn UnOp.not v11 (fun v13 => pIf v13 (R (Value.bool false) s12) (AC Try.prog w0 n_spec_DiskOk ([Value.agg (⟨[cellOf v4 0]⟩)]) s12 (fun v14 s15 => pUn UnOp.not v14 (fun v16 => pIf v16 (pLen (cellOf v7 0) (fun v17 => pBin Try.prog 3 BinOp.eql v17 (Value.int IntKind.i64 0) (fun v18 => R v18 s15))) (pBin Try.prog 3 BinOp.lss v6 (Value.int IntKind.i64 0) (fun v19 => pIf v19 (pLen v5 (fun v20 => pBin Try.prog 3 BinOp.gtr (Value.int IntKind.i64 0) v20 (fun v21 => pIf v21 (pLen v5 (fun v22 => AC Try.prog w0 n_impl_DiskOk ([Value.agg (⟨[cellOf v7 0]⟩)]) s15 (fun v23 s24 => pIf v23 (pSlice 2 v5 Option.none (Option.some v22) (fun v25 => pLen v5 (fun v26 => AC Try.prog w0 n_impl_DiskWrite ([Value.agg (⟨[cellOf v4 0]⟩), v25, v26]) s24 (fun v27 s28 => pVal true 1 v27 (AC Try.prog w0 n_laws_wdTexts [cellOf v27 0, cellOf v7 0] s28 (fun v29 s30 => R v29 s30)))))) (R (Value.bool false) s24)))) (AC Try.prog w0 n_impl_DiskOk ([Value.agg (⟨[cellOf v7 0]⟩)]) s15 (fun v31 s32 => pIf v31 (pSlice 2 v5 Option.none (Option.some (Value.int IntKind.i64 0)) (fun v33 => pLen v5 (fun v34 => AC Try.prog w0 n_impl_DiskWrite ([Value.agg (⟨[cellOf v4 0]⟩), v33, v34]) s32 (fun v35 s36 => pVal true 1 v35 (AC Try.prog w0 n_laws_wdTexts [cellOf v35 0, cellOf v7 0] s36 (fun v37 s38 => R v37 s38)))))) (R (Value.bool false) s32)))))) (pLen v5 (fun v39 => pBin Try.prog 3 BinOp.gtr v6 v39 (fun v40 => pIf v40 (pLen v5 (fun v41 => AC Try.prog w0 n_impl_DiskOk ([Value.agg (⟨[cellOf v7 0]⟩)]) s15 (fun v42 s43 => pIf v42 (pSlice 2 v5 Option.none (Option.some v41) (fun v44 => pLen v5 (fun v45 => AC Try.prog w0 n_impl_DiskWrite ([Value.agg (⟨[cellOf v4 0]⟩), v44, v45]) s43 (fun v46 s47 => pVal true 1 v46 (AC Try.prog w0 n_laws_wdTexts [cellOf v46 0, cellOf v7 0] s47 (fun v48 s49 => R v48 s49)))))) (R (Value.bool false) s43)))) (AC Try.prog w0 n_impl_DiskOk ([Value.agg (⟨[cellOf v7 0]⟩)]) s15 (fun v50 s51 => pIf v50 (pSlice 2 v5 Option.none (Option.some v6) (fun v52 => pLen v5 (fun v53 => AC Try.prog w0 n_impl_DiskWrite ([Value.agg (⟨[cellOf v4 0]⟩), v52, v53]) s51 (fun v54 s55 => pVal true 1 v54 (AC Try.prog w0 n_laws_wdTexts [cellOf v54 0, cellOf v7 0] s55 (fun v56 s57 => R v56 s57)))))) (R (Value.bool false) s51)))))))))))))))))))))))))
theorem vc_laws_FnDiskWrite_eq (w0 : World) (a0 : Value) (σ : Vw) (R : Value → Vw → Prop) : vc_laws_FnDiskWrite w0 a0 σ R = den Try.prog w0 kp_laws_FnDiskWrite esc_laws_FnDiskWrite (Try.f8.body.getD .skip) (entry Try.f8.ntmps [a0]) σ (retK Try.prog Try.f8.results.toList R) := by kernel_rfl
theorem ac_laws_FnDiskWrite {w0 : World} {a0 : Value} {σ : Vw} {R : Value → Vw → Prop} (h : vc_laws_FnDiskWrite w0 a0 σ R) : AC Try.prog w0 n_laws_FnDiskWrite [a0] σ R := by
  refine ac_rule (fn := Try.f8) (c := Try.f8.body.getD .skip) kp_laws_FnDiskWrite esc_laws_FnDiskWrite Try.func8 (by kernel_rfl) (by kernel_rfl) ?_
  rw [← vc_laws_FnDiskWrite_eq]
  exact h

/-- laws.szPages -/
def kp_laws_szPages : Nat → Keep
  | _ => ⟨[], [], [], .done, []⟩
def esc_laws_szPages : Nat → Bool
  | _ => false
def vc_laws_szPages (w0 : World) (a0 a1 : Value) (σ : Vw) (R : Value → Vw → Prop) : Prop :=
  pVal true 2 a0 (AC Try.prog w0 n_laws_szPageS [cellOf a0 0, a1] σ (fun v0 s1 => pBin Try.prog 3 BinOp.lss v0 (Value.int IntKind.i64 0) (fun v2 => pIf v2 (R (Value.int IntKind.i64 (-1)) s1) (AC Try.prog w0 n_laws_szPageNameS [cellOf a0 1, v0] s1 (fun v3 s4 => pBin Try.prog 3 BinOp.lss v3 (Value.int IntKind.i64 0) (fun v5 => pIf v5 (R (Value.int IntKind.i64 (-1)) s4) (R v3 s4)))))))
theorem vc_laws_szPages_eq (w0 : World) (a0 a1 : Value) (σ : Vw) (R : Value → Vw → Prop) : vc_laws_szPages w0 a0 a1 σ R = den Try.prog w0 kp_laws_szPages esc_laws_szPages (Try.f9.body.getD .skip) (entry Try.f9.ntmps [a0, a1]) σ (retK Try.prog Try.f9.results.toList R) := by kernel_rfl
theorem ac_laws_szPages {w0 : World} {a0 a1 : Value} {σ : Vw} {R : Value → Vw → Prop} (h : vc_laws_szPages w0 a0 a1 σ R) : AC Try.prog w0 n_laws_szPages [a0, a1] σ R := by
  refine ac_rule (fn := Try.f9) (c := Try.f9.body.getD .skip) kp_laws_szPages esc_laws_szPages Try.func9 (by kernel_rfl) (by kernel_rfl) ?_
  rw [← vc_laws_szPages_eq]
  exact h

/-- spec.PagesGet -/
def kp_spec_PagesGet : Nat → Keep
  | 3 => ⟨[], [], [], .step 0 (.step 1 (.step 2 (.step 3 (.step 4 (.step 5 (.step 6 (.done))))))), [(3, [1, 2]), (4, [0, 1, 2, 3]), (5, [0, 1, 2, 3, 4]), (6, [0, 1, 2, 3, 4, 5])]⟩
  | _ => ⟨[], [], [], .done, []⟩
def esc_spec_PagesGet : Nat → Bool
  | _ => false
def vc_spec_PagesGet (w0 : World) (a0 a1 : Value) (σ : Vw) (R : Value → Vw → Prop) : Prop :=
  pVal true 2 a0 (AC Try.prog w0 n_spec_PagesOk ([Value.agg (⟨[cellOf a0 0, cellOf a0 1]⟩)]) σ (fun v0 s1 => pUn UnOp.not v0 (fun v2 => pIf v2 (R (Value.tuple (⟨[Value.string ({ data := #[] }), Value.bool false]⟩)) s1) (AC Try.prog w0 n_spec_l32At ([Value.agg (⟨[cellOf a0 0, cellOf a0 1]⟩), a1]) s1 (fun v3 s4 => pBin Try.prog 3 BinOp.lss v3 (Value.int IntKind.i64 0) (fun v5 => pIf v5 (R (Value.tuple (⟨[Value.string ({ data := #[] }), Value.bool false]⟩)) s4) (AC Try.prog w0 n_spec_l32At ([Value.agg (⟨[cellOf a0 0, cellOf a0 1]⟩), a1]) s4 (fun v6 s7 => AC Try.prog w0 n_spec_l32Text ([Value.agg (⟨[cellOf a0 0, cellOf a0 1]⟩), v6]) s7 (fun v8 s9 => R (Value.tuple (⟨[v8, Value.bool true]⟩)) s9)))))))))
theorem vc_spec_PagesGet_eq (w0 : World) (a0 a1 : Value) (σ : Vw) (R : Value → Vw → Prop) : vc_spec_PagesGet w0 a0 a1 σ R = den Try.prog w0 kp_spec_PagesGet esc_spec_PagesGet (Try.f10.body.getD .skip) (entry Try.f10.ntmps [a0, a1]) σ (retK Try.prog Try.f10.results.toList R) := by kernel_rfl
theorem ac_spec_PagesGet {w0 : World} {a0 a1 : Value} {σ : Vw} {R : Value → Vw → Prop} (h : vc_spec_PagesGet w0 a0 a1 σ R) : AC Try.prog w0 n_spec_PagesGet [a0, a1] σ R := by
  refine ac_rule (fn := Try.f10) (c := Try.f10.body.getD .skip) kp_spec_PagesGet esc_spec_PagesGet Try.func10 (by kernel_rfl) (by kernel_rfl) ?_
  rw [← vc_spec_PagesGet_eq]
  exact h

/-- laws.toPages -/
def kp_laws_toPages : Nat → Keep
  | _ => ⟨[], [], [], .done, []⟩
def esc_laws_toPages : Nat → Bool
  | _ => false
def vc_laws_toPages (w0 : World) (a0 : Value) (σ : Vw) (R : Value → Vw → Prop) : Prop :=
  pVal true 2 a0 (AC Try.prog w0 n_laws_toPageS [cellOf a0 0] σ (fun v0 s1 => pVal false 1 v0 (AC Try.prog w0 n_laws_toPageNameS [cellOf a0 1] s1 (fun v2 s3 => pVal false 1 v2 (pVal true 2 (Value.agg (⟨[v0, v2]⟩)) (R (Value.agg (⟨[v0, v2]⟩)) s3))))))
theorem vc_laws_toPages_eq (w0 : World) (a0 : Value) (σ : Vw) (R : Value → Vw → Prop) : vc_laws_toPages w0 a0 σ R = den Try.prog w0 kp_laws_toPages esc_laws_toPages (Try.f11.body.getD .skip) (entry Try.f11.ntmps [a0]) σ (retK Try.prog Try.f11.results.toList R) := by kernel_rfl
theorem ac_laws_toPages {w0 : World} {a0 : Value} {σ : Vw} {R : Value → Vw → Prop} (h : vc_laws_toPages w0 a0 σ R) : AC Try.prog w0 n_laws_toPages [a0] σ R := by
  refine ac_rule (fn := Try.f11) (c := Try.f11.body.getD .skip) kp_laws_toPages esc_laws_toPages Try.func11 (by kernel_rfl) (by kernel_rfl) ?_
  rw [← vc_laws_toPages_eq]
  exact h

/-- impl.PagesGet -/
def kp_impl_PagesGet : Nat → Keep
  | _ => ⟨[], [], [], .done, []⟩
def esc_impl_PagesGet : Nat → Bool
  | _ => false
def vc_impl_PagesGet (w0 : World) (a0 a1 : Value) (σ : Vw) (R : Value → Vw → Prop) : Prop :=
  pVal true 2 a0 (AC Try.prog w0 n_impl_PagesOk ([Value.agg (⟨[cellOf a0 0, cellOf a0 1]⟩)]) σ (fun v0 s1 => pUn UnOp.not v0 (fun v2 => pIf v2 (R (Value.tuple (⟨[Value.string ({ data := #[] }), Value.bool false]⟩)) s1) (AC Try.prog w0 n_impl_Pages_get ([Value.agg (⟨[cellOf a0 0, cellOf a0 1]⟩), a1]) s1 (fun v3 s4 => pExtract v3 0 (fun v5 => pExtract v3 1 (fun v6 => R (Value.tuple (⟨[v5, v6]⟩)) s4)))))))
theorem vc_impl_PagesGet_eq (w0 : World) (a0 a1 : Value) (σ : Vw) (R : Value → Vw → Prop) : vc_impl_PagesGet w0 a0 a1 σ R = den Try.prog w0 kp_impl_PagesGet esc_impl_PagesGet (Try.f12.body.getD .skip) (entry Try.f12.ntmps [a0, a1]) σ (retK Try.prog Try.f12.results.toList R) := by kernel_rfl
theorem ac_impl_PagesGet {w0 : World} {a0 a1 : Value} {σ : Vw} {R : Value → Vw → Prop} (h : vc_impl_PagesGet w0 a0 a1 σ R) : AC Try.prog w0 n_impl_PagesGet [a0, a1] σ R := by
  refine ac_rule (fn := Try.f12) (c := Try.f12.body.getD .skip) kp_impl_PagesGet esc_impl_PagesGet Try.func12 (by kernel_rfl) (by kernel_rfl) ?_
  rw [← vc_impl_PagesGet_eq]
  exact h

/-- laws.eqPages -/
def kp_laws_eqPages : Nat → Keep
  | _ => ⟨[], [], [], .done, []⟩
def esc_laws_eqPages : Nat → Bool
  | _ => false
def vc_laws_eqPages (w0 : World) (a0 a1 : Value) (σ : Vw) (R : Value → Vw → Prop) : Prop :=
  pVal true 2 a0 (pVal true 2 a1 (AC Try.prog w0 n_laws_eqPageS [cellOf a0 0, cellOf a1 0] σ (fun v0 s1 => pUn UnOp.not v0 (fun v2 => pIf v2 (R (Value.bool false) s1) (AC Try.prog w0 n_laws_eqPageNameS [cellOf a0 1, cellOf a1 1] s1 (fun v3 s4 => pUn UnOp.not v3 (fun v5 => pIf v5 (R (Value.bool false) s4) (R (Value.bool true) s4))))))))
theorem vc_laws_eqPages_eq (w0 : World) (a0 a1 : Value) (σ : Vw) (R : Value → Vw → Prop) : vc_laws_eqPages w0 a0 a1 σ R = den Try.prog w0 kp_laws_eqPages esc_laws_eqPages (Try.f13.body.getD .skip) (entry Try.f13.ntmps [a0, a1]) σ (retK Try.prog Try.f13.results.toList R) := by kernel_rfl
theorem ac_laws_eqPages {w0 : World} {a0 a1 : Value} {σ : Vw} {R : Value → Vw → Prop} (h : vc_laws_eqPages w0 a0 a1 σ R) : AC Try.prog w0 n_laws_eqPages [a0, a1] σ R := by
  refine ac_rule (fn := Try.f13) (c := Try.f13.body.getD .skip) kp_laws_eqPages esc_laws_eqPages Try.func13 (by kernel_rfl) (by kernel_rfl) ?_
  rw [← vc_laws_eqPages_eq]
  exact h

/-- spec.PagesDrop -/
def kp_spec_PagesDrop : Nat → Keep
  | _ => ⟨[], [], [], .done, []⟩
def esc_spec_PagesDrop : Nat → Bool
  | _ => false
def vc_spec_PagesDrop (w0 : World) (a0 a1 : Value) (σ : Vw) (R : Value → Vw → Prop) : Prop :=
  pVal true 2 a0 (AC Try.prog w0 n_spec_PagesOk ([Value.agg (⟨[cellOf a0 0, cellOf a0 1]⟩)]) σ (fun v0 s1 => pUn UnOp.not v0 (fun v2 => pIf v2 (pVal true 2 (Value.agg (⟨[Value.slice Option.none 0 0, Value.slice Option.none 0 0]⟩)) (R (Value.tuple (⟨[Value.agg (⟨[Value.slice Option.none 0 0, Value.slice Option.none 0 0]⟩), Value.int IntKind.i64 1]⟩)) s1)) (AC Try.prog w0 n_spec_l32Copy ([Value.agg (⟨[cellOf a0 0, cellOf a0 1]⟩)]) s1 (fun v3 s4 => pVal true 2 v3 (AC Try.prog w0 n_spec_l32At ([Value.agg (⟨[cellOf v3 0, cellOf v3 1]⟩), a1]) s4 (fun v5 s6 => pBin Try.prog 3 BinOp.lss v5 (Value.int IntKind.i64 0) (fun v7 => pIf v7 (pVal true 2 (Value.agg (⟨[cellOf v3 0, cellOf v3 1]⟩)) (R (Value.tuple (⟨[Value.agg (⟨[cellOf v3 0, cellOf v3 1]⟩), Value.int IntKind.i64 3]⟩)) s6)) (AC Try.prog w0 n_spec_l32Drop ([Value.agg (⟨[cellOf v3 0, cellOf v3 1]⟩), v5]) s6 (fun v8 s9 => AC Try.prog w0 n_spec_l32Copy [v8] s9 (fun v10 s11 => pVal true 2 v10 (R (Value.tuple (⟨[Value.agg (⟨[cellOf v10 0, cellOf v10 1]⟩), Value.int IntKind.i64 0]⟩)) s11))))))))))))
theorem vc_spec_PagesDrop_eq (w0 : World) (a0 a1 : Value) (σ : Vw) (R : Value → Vw → Prop) : vc_spec_PagesDrop w0 a0 a1 σ R = den Try.prog w0 kp_spec_PagesDrop esc_spec_PagesDrop (Try.f14.body.getD .skip) (entry Try.f14.ntmps [a0, a1]) σ (retK Try.prog Try.f14.results.toList R) := by kernel_rfl
theorem ac_spec_PagesDrop {w0 : World} {a0 a1 : Value} {σ : Vw} {R : Value → Vw → Prop} (h : vc_spec_PagesDrop w0 a0 a1 σ R) : AC Try.prog w0 n_spec_PagesDrop [a0, a1] σ R := by
  refine ac_rule (fn := Try.f14) (c := Try.f14.body.getD .skip) kp_spec_PagesDrop esc_spec_PagesDrop Try.func14 (by kernel_rfl) (by kernel_rfl) ?_
  rw [← vc_spec_PagesDrop_eq]
  exact h

/-- impl.PagesDrop -/
def kp_impl_PagesDrop : Nat → Keep
  | _ => ⟨[], [], [], .done, []⟩
def esc_impl_PagesDrop : Nat → Bool
  | _ => false
def vc_impl_PagesDrop (w0 : World) (a0 a1 : Value) (σ : Vw) (R : Value → Vw → Prop) : Prop :=
  pVal true 2 a0 (AC Try.prog w0 n_impl_PagesOk ([Value.agg (⟨[cellOf a0 0, cellOf a0 1]⟩)]) σ (fun v0 s1 => pUn UnOp.not v0 (fun v2 => pIf v2 (pVal true 2 (Value.agg (⟨[Value.slice Option.none 0 0, Value.slice Option.none 0 0]⟩)) (R (Value.tuple (⟨[Value.agg (⟨[Value.slice Option.none 0 0, Value.slice Option.none 0 0]⟩), Value.int IntKind.i64 1]⟩)) s1)) (AC Try.prog w0 n_impl_Pages_find ([Value.agg (⟨[cellOf a0 0, cellOf a0 1]⟩), a1]) s1 (fun v3 s4 => pBin Try.prog 3 BinOp.lss v3 (Value.int IntKind.i64 0) (fun v5 => pIf v5 (AC Try.prog w0 n_impl_clonePages ([Value.agg (⟨[cellOf a0 0, cellOf a0 1]⟩)]) s4 (fun v6 s7 => pVal true 2 v6 (R (Value.tuple (⟨[Value.agg (⟨[cellOf v6 0, cellOf v6 1]⟩), Value.int IntKind.i64 3]⟩)) s7))) (AC Try.prog w0 n_impl_Pages_dropped ([Value.agg (⟨[cellOf a0 0, cellOf a0 1]⟩), a1]) s4 (fun v8 s9 => pVal true 2 v8 (R (Value.tuple (⟨[Value.agg (⟨[cellOf v8 0, cellOf v8 1]⟩), Value.int IntKind.i64 0]⟩)) s9)))))))))
theorem vc_impl_PagesDrop_eq (w0 : World) (a0 a1 : Value) (σ : Vw) (R : Value → Vw → Prop) : vc_impl_PagesDrop w0 a0 a1 σ R = den Try.prog w0 kp_impl_PagesDrop esc_impl_PagesDrop (Try.f15.body.getD .skip) (entry Try.f15.ntmps [a0, a1]) σ (retK Try.prog Try.f15.results.toList R) := by kernel_rfl
theorem ac_impl_PagesDrop {w0 : World} {a0 a1 : Value} {σ : Vw} {R : Value → Vw → Prop} (h : vc_impl_PagesDrop w0 a0 a1 σ R) : AC Try.prog w0 n_impl_PagesDrop [a0, a1] σ R := by
  refine ac_rule (fn := Try.f15) (c := Try.f15.body.getD .skip) kp_impl_PagesDrop esc_impl_PagesDrop Try.func15 (by kernel_rfl) (by kernel_rfl) ?_
  rw [← vc_impl_PagesDrop_eq]
  exact h

/-- laws.markPages -/
def kp_laws_markPages : Nat → Keep
  | _ => ⟨[], [], [], .done, []⟩
def esc_laws_markPages : Nat → Bool
  | _ => false
def vc_laws_markPages (w0 : World) (a0 a1 : Value) (σ : Vw) (R : Value → Vw → Prop) : Prop :=
  pVal true 2 a0 (AC Try.prog w0 n_laws_markPageS [cellOf a0 0, a1] σ (fun v0 s1 => AC Try.prog w0 n_laws_markPageNameS [cellOf a0 1, v0] s1 (fun v2 s3 => R v2 s3)))
theorem vc_laws_markPages_eq (w0 : World) (a0 a1 : Value) (σ : Vw) (R : Value → Vw → Prop) : vc_laws_markPages w0 a0 a1 σ R = den Try.prog w0 kp_laws_markPages esc_laws_markPages (Try.f16.body.getD .skip) (entry Try.f16.ntmps [a0, a1]) σ (retK Try.prog Try.f16.results.toList R) := by kernel_rfl
theorem ac_laws_markPages {w0 : World} {a0 a1 : Value} {σ : Vw} {R : Value → Vw → Prop} (h : vc_laws_markPages w0 a0 a1 σ R) : AC Try.prog w0 n_laws_markPages [a0, a1] σ R := by
  refine ac_rule (fn := Try.f16) (c := Try.f16.body.getD .skip) kp_laws_markPages esc_laws_markPages Try.func16 (by kernel_rfl) (by kernel_rfl) ?_
  rw [← vc_laws_markPages_eq]
  exact h

/-- laws.heldPages -/
def kp_laws_heldPages : Nat → Keep
  | _ => ⟨[], [], [], .done, []⟩
def esc_laws_heldPages : Nat → Bool
  | _ => false
def vc_laws_heldPages (w0 : World) (a0 a1 : Value) (σ : Vw) (R : Value → Vw → Prop) : Prop :=
  pVal true 2 a0 (AC Try.prog w0 n_laws_heldPageS [cellOf a0 0, a1] σ (fun v0 s1 => pBin Try.prog 3 BinOp.lss v0 (Value.int IntKind.i64 0) (fun v2 => pIf v2 (R (Value.int IntKind.i64 (-1)) s1) (AC Try.prog w0 n_laws_heldPageNameS [cellOf a0 1, v0] s1 (fun v3 s4 => pBin Try.prog 3 BinOp.lss v3 (Value.int IntKind.i64 0) (fun v5 => pIf v5 (R (Value.int IntKind.i64 (-1)) s4) (R v3 s4)))))))
theorem vc_laws_heldPages_eq (w0 : World) (a0 a1 : Value) (σ : Vw) (R : Value → Vw → Prop) : vc_laws_heldPages w0 a0 a1 σ R = den Try.prog w0 kp_laws_heldPages esc_laws_heldPages (Try.f17.body.getD .skip) (entry Try.f17.ntmps [a0, a1]) σ (retK Try.prog Try.f17.results.toList R) := by kernel_rfl
theorem ac_laws_heldPages {w0 : World} {a0 a1 : Value} {σ : Vw} {R : Value → Vw → Prop} (h : vc_laws_heldPages w0 a0 a1 σ R) : AC Try.prog w0 n_laws_heldPages [a0, a1] σ R := by
  refine ac_rule (fn := Try.f17) (c := Try.f17.body.getD .skip) kp_laws_heldPages esc_laws_heldPages Try.func17 (by kernel_rfl) (by kernel_rfl) ?_
  rw [← vc_laws_heldPages_eq]
  exact h

/-- spec.DrawPagesFree -/
def kp_spec_DrawPagesFree : Nat → Keep
  | _ => ⟨[], [], [], .done, []⟩
def esc_spec_DrawPagesFree : Nat → Bool
  | _ => false
def vc_spec_DrawPagesFree (w0 : World) (a0 : Value) (σ : Vw) (R : Value → Vw → Prop) : Prop :=
  AC Try.prog w0 n_spec_l1Open [a0] σ (fun v0 s1 => AC Try.prog w0 n_spec_l61AnyPages [v0] s1 (fun v2 s3 => pVal true 2 v2 (R (Value.agg (⟨[cellOf v2 0, cellOf v2 1]⟩)) s3)))
theorem vc_spec_DrawPagesFree_eq (w0 : World) (a0 : Value) (σ : Vw) (R : Value → Vw → Prop) : vc_spec_DrawPagesFree w0 a0 σ R = den Try.prog w0 kp_spec_DrawPagesFree esc_spec_DrawPagesFree (Try.f18.body.getD .skip) (entry Try.f18.ntmps [a0]) σ (retK Try.prog Try.f18.results.toList R) := by kernel_rfl
theorem ac_spec_DrawPagesFree {w0 : World} {a0 : Value} {σ : Vw} {R : Value → Vw → Prop} (h : vc_spec_DrawPagesFree w0 a0 σ R) : AC Try.prog w0 n_spec_DrawPagesFree [a0] σ R := by
  refine ac_rule (fn := Try.f18) (c := Try.f18.body.getD .skip) kp_spec_DrawPagesFree esc_spec_DrawPagesFree Try.func18 (by kernel_rfl) (by kernel_rfl) ?_
  rw [← vc_spec_DrawPagesFree_eq]
  exact h

/-- impl.PagesFree -/
def kp_impl_PagesFree : Nat → Keep
  | _ => ⟨[], [], [], .done, []⟩
def esc_impl_PagesFree : Nat → Bool
  | _ => false
def vc_impl_PagesFree (w0 : World) (a0 : Value) (σ : Vw) (R : Value → Vw → Prop) : Prop :=
  pVal true 2 a0 (AC Try.prog w0 n_impl_PagesOk ([Value.agg (⟨[cellOf a0 0, cellOf a0 1]⟩)]) σ (fun v0 s1 => pUn UnOp.not v0 (fun v2 => pIf v2 (R (Value.int IntKind.i64 0) s1) (AC Try.prog w0 n_impl_Pages_free ([Value.agg (⟨[cellOf a0 0, cellOf a0 1]⟩)]) s1 (fun v3 s4 => R v3 s4)))))
theorem vc_impl_PagesFree_eq (w0 : World) (a0 : Value) (σ : Vw) (R : Value → Vw → Prop) : vc_impl_PagesFree w0 a0 σ R = den Try.prog w0 kp_impl_PagesFree esc_impl_PagesFree (Try.f19.body.getD .skip) (entry Try.f19.ntmps [a0]) σ (retK Try.prog Try.f19.results.toList R) := by kernel_rfl
theorem ac_impl_PagesFree {w0 : World} {a0 : Value} {σ : Vw} {R : Value → Vw → Prop} (h : vc_impl_PagesFree w0 a0 σ R) : AC Try.prog w0 n_impl_PagesFree [a0] σ R := by
  refine ac_rule (fn := Try.f19) (c := Try.f19.body.getD .skip) kp_impl_PagesFree esc_impl_PagesFree Try.func19 (by kernel_rfl) (by kernel_rfl) ?_
  rw [← vc_impl_PagesFree_eq]
  exact h

/-- spec.PagesFree -/
def kp_spec_PagesFree : Nat → Keep
  | _ => ⟨[], [], [], .done, []⟩
def esc_spec_PagesFree : Nat → Bool
  | _ => false
def vc_spec_PagesFree (w0 : World) (a0 : Value) (σ : Vw) (R : Value → Vw → Prop) : Prop :=
  pVal true 2 a0 (AC Try.prog w0 n_spec_PagesOk ([Value.agg (⟨[cellOf a0 0, cellOf a0 1]⟩)]) σ (fun v0 s1 => pUn UnOp.not v0 (fun v2 => pIf v2 (R (Value.int IntKind.i64 0) s1) (AC Try.prog w0 n_spec_l32Free ([Value.agg (⟨[cellOf a0 0, cellOf a0 1]⟩)]) s1 (fun v3 s4 => R v3 s4)))))
theorem vc_spec_PagesFree_eq (w0 : World) (a0 : Value) (σ : Vw) (R : Value → Vw → Prop) : vc_spec_PagesFree w0 a0 σ R = den Try.prog w0 kp_spec_PagesFree esc_spec_PagesFree (Try.f20.body.getD .skip) (entry Try.f20.ntmps [a0]) σ (retK Try.prog Try.f20.results.toList R) := by kernel_rfl
theorem ac_spec_PagesFree {w0 : World} {a0 : Value} {σ : Vw} {R : Value → Vw → Prop} (h : vc_spec_PagesFree w0 a0 σ R) : AC Try.prog w0 n_spec_PagesFree [a0] σ R := by
  refine ac_rule (fn := Try.f20) (c := Try.f20.body.getD .skip) kp_spec_PagesFree esc_spec_PagesFree Try.func20 (by kernel_rfl) (by kernel_rfl) ?_
  rw [← vc_spec_PagesFree_eq]
  exact h

/-- spec.PagesOk -/
def kp_spec_PagesOk : Nat → Keep
  | 5 => ⟨[2, 3, 4], [(1, 2)], [1], .done, []⟩
  | 8 => ⟨[], [], [], .step 0 (.step 1 (.step 2 (.step 3 (.step 4 (.step 5 (.step 6 (.step 7 (.step 8 (.step 9 (.step 10 (.step 11 (.step 12 (.step 13 (.step 14 (.step 15 (.step 16 (.step 17 (.step 18 (.step 19 (.step 20 (.step 21 (.step 22 (.step 23 (.step 24 (.step 25 (.step 26 (.step 27 (.step 28 (.step 29 (.step 30 (.done))))))))))))))))))))))))))))))), [(1, [0]), (2, [0, 1]), (3, [0, 1, 2]), (4, [0, 1, 2, 3]), (5, [0, 1, 2, 3, 4]), (6, [0, 1, 2, 3, 4, 5]), (7, [0, 1, 2, 3, 4, 5, 6]), (8, [0, 1, 2, 3, 4, 5, 6, 7]), (9, [0, 1, 2, 3, 4, 5, 6, 7, 8]), (10, [0, 1, 2, 3, 4, 5, 6, 7]), (11, [0, 1, 2, 3, 4, 5, 6, 7, 10]), (12, [0, 1, 2, 3, 4, 5, 6, 7, 8, 9, 10, 11]), (13, [0, 1, 2, 3, 4, 5, 6, 7, 8, 9, 10, 11, 12]), (14, [0, 1, 2, 3, 4, 5, 6, 7, 8, 9, 10, 11, 12, 13]), (15, [0, 1, 2, 3, 4, 5, 6, 7]), (16, [0, 1, 2, 3, 4, 5, 6, 7, 15]), (17, [0, 1, 2, 3, 4, 5, 6, 7, 8, 9, 10, 11, 12, 13, 14, 15, 16]), (18, [0, 1, 2, 3, 4, 5, 6, 7, 8, 9, 10, 11, 12, 13, 14, 15, 16, 17]), (19, [0, 1, 2, 3, 4, 5, 6, 7, 8, 9, 10, 11, 12, 13, 14, 15, 16, 17, 18]), (20, [0, 1, 2, 3, 4, 5, 6, 7, 8, 9, 10, 11, 12, 13, 14, 15, 16, 17, 18, 19]), (21, [0, 1, 2, 3, 4, 5, 6, 7, 8, 9, 10, 11, 12, 13, 14, 15, 16, 17, 18, 19, 20]), (22, [0, 1, 2, 3, 4, 5, 6, 7, 8, 9, 10, 11, 12, 13, 14, 15, 16, 17, 18, 19, 20, 21]), (23, [0, 1, 2, 3, 4, 5, 6, 7, 8, 9, 10, 11, 12, 13, 14, 15, 16, 17, 18, 19, 20, 21, 22]), (24, [0, 1, 2, 3, 4, 5, 6, 7, 8, 9, 10, 11, 12, 13, 14, 15, 16, 17, 18, 19, 20, 21, 22, 23]), (25, [0, 1, 2, 3, 4, 5, 6, 7, 8, 9, 10, 11, 12, 13, 14, 15, 16, 17, 18, 19, 20, 21, 22, 23, 24]), (26, [0, 1, 2, 3, 4, 5, 6, 7, 8, 9, 10, 11, 12, 13, 14, 15, 16, 17, 18, 19, 20, 21, 22, 23, 24, 25]), (27, [0, 1, 2, 3, 4, 5, 6, 7, 8, 9, 10, 11, 12, 13, 14, 15, 16, 17, 18, 19, 20, 21, 22, 23, 24, 25, 26]), (28, [0, 1, 2, 3, 4, 5, 6, 7, 8, 9, 10, 11, 12, 13, 14, 15, 16, 17, 18, 19, 20, 21, 22, 23, 24, 25, 26, 27]), (29, [0, 1, 2, 3, 4, 5, 6, 7, 8, 9, 10, 11, 12, 13, 14, 15, 16, 17, 18, 19, 20, 21, 22, 23, 24, 25, 26, 27, 28]), (30, [0, 1, 2, 3, 4, 5, 6, 7, 8, 9, 10, 11, 12, 13, 14, 15, 16, 17, 18, 19, 20, 21, 22, 23, 24, 25, 26, 27, 28, 29])]⟩
  | 14 => ⟨[2, 3, 4, 6, 8], [(1, 2)], [1], .done, []⟩
  | 20 => ⟨[2, 3, 9], [(1, 2)], [1], .done, []⟩
  | 23 => ⟨[], [], [], .step 0 (.step 1 (.step 2 (.step 3 (.step 4 (.step 5 (.step 6 (.step 7 (.step 8 (.step 9 (.step 10 (.step 11 (.step 12 (.step 13 (.step 14 (.step 15 (.step 16 (.step 17 (.step 18 (.step 19 (.step 20 (.step 21 (.step 22 (.step 23 (.step 24 (.step 25 (.step 26 (.done))))))))))))))))))))))))))), [(1, [0]), (4, [2, 3]), (5, [2, 3, 4]), (6, [0, 1, 2, 3, 4, 5]), (7, [0, 1, 2, 3, 4, 5, 6]), (8, [0, 1, 2, 3, 4, 5, 6, 7]), (9, [0, 1, 2, 3, 4, 5, 6, 7, 8]), (10, [0, 1, 2, 3, 4, 5, 6, 7, 8, 9]), (11, [0, 1, 2, 3, 4, 5, 6, 7, 8, 9, 10]), (12, [0, 1, 2, 3, 4, 5, 6, 7, 8, 9, 10, 11]), (13, [0, 1, 2, 3, 4, 5, 6, 7, 8, 9, 10, 11, 12]), (14, [0, 1, 2, 3, 4, 5, 6, 7, 8, 9, 10, 11, 12, 13]), (15, [0, 1, 2, 3, 4, 5, 6, 7, 8, 9, 10, 11, 12, 13, 14]), (16, [0, 1, 2, 3, 4, 5, 6, 7, 8, 9, 10, 11, 12, 13, 14, 15]), (17, [0, 1, 2, 3, 4, 5, 6, 7, 8, 9, 10, 11, 12, 13, 14, 15, 16]), (18, [0, 1, 2, 3, 4, 5, 6, 7, 8, 9, 10, 11, 12, 13, 14, 15, 16, 17]), (19, [0, 1, 2, 3, 4, 5, 6, 7, 8, 9, 10, 11, 12, 13, 14, 15, 16, 17, 18]), (20, [0, 1, 2, 3, 4, 5, 6, 7, 8, 9, 10, 11, 12, 13, 14, 15, 16, 17, 18, 19]), (21, [0, 1, 2, 3, 4, 5, 6, 7, 8, 9, 10, 11, 12, 13, 14, 15, 16, 17, 18, 19, 20]), (22, [0, 1, 2, 3, 4, 5, 6, 7, 8, 9, 10, 11, 12, 13, 14, 15, 16, 17, 18, 19, 20, 21]), (23, [0, 1, 2, 3, 4, 5, 6, 7, 8, 9, 10, 11, 12, 13, 14, 15, 16, 17, 18, 19, 20, 21, 22]), (24, [0, 1, 2, 3, 4, 5, 6, 7, 8, 9, 10, 11, 12, 13, 14, 15, 16, 17, 18, 19, 20, 21, 22, 23]), (25, [0, 1, 2, 3, 4, 5, 6, 7, 8, 9, 10, 11, 12, 13, 14, 15, 16, 17, 18, 19, 20, 21, 22, 23, 24]), (26, [0, 1, 2, 3, 4, 5, 6, 7, 8, 9, 10, 11, 12, 13, 14, 15, 16, 17, 18, 19, 20, 21, 22, 23, 24, 25])]⟩
  | _ => ⟨[], [], [], .done, []⟩
def esc_spec_PagesOk : Nat → Bool
  | _ => false
def vc_spec_PagesOk (w0 : World) (a0 : Value) (σ : Vw) (R : Value → Vw → Prop) : Prop :=
  pVal true 2 a0 (pLen (cellOf a0 0) (fun v0 => pBin Try.prog 3 BinOp.neq v0 (Value.int IntKind.i64 96) (fun v1 => pIf v1 (R (Value.bool false) σ) (pLen (cellOf a0 1) (fun v2 => pBin Try.prog 3 BinOp.gtr v2 (Value.int IntKind.i64 16) (fun v3 => pIf v3 (R (Value.bool false) σ) (pMake w0 4 1 1 [Value.bool false] (Value.int IntKind.i64 96) (Value.int IntKind.i64 96) σ (fun v4 s5 => pLoop (fun l6 K7 s8 => pLen (vget l6 4) (fun v9 => pBin Try.prog 3 BinOp.lss (vget l6 2) v9 (fun v10 => pIf v10 (pIndexAddr 3 (vget l6 4) (vget l6 2) (fun v11 => pLoad w0 3 v11 s8 (fun g12 => pVal true 3 (Value.agg (⟨[g12 0, g12 1, g12 2]⟩)) (AC Try.prog w0 n_spec_l1NameOk [g12 0] s8 (fun v13 s14 => pUn UnOp.not v13 (fun v15 => pIf v15 (K7 AX.ret [Value.bool false, vget l6 1, vget l6 2, vget l6 3, vget l6 4] s14) (pBin Try.prog 3 BinOp.gtr (vget l6 2) (Value.int IntKind.i64 0) (fun v16 => pIf v16 (pBin Try.prog 3 BinOp.sub (vget l6 2) (Value.int IntKind.i64 1) (fun v17 => pIndexAddr 3 (vget l6 4) v17 (fun v18 => pField 0 v18 (fun v19 => pLoad w0 1 v19 s14 (fun g20 => pBin Try.prog 9 BinOp.geq (g20 0) (g12 0) (fun v21 => pIf v21 (K7 AX.ret [Value.bool false, vget l6 1, vget l6 2, vget l6 3, vget l6 4] s14) (AC Try.prog w0 n_spec_l1In [g12 2, Value.int IntKind.i64 0, Value.int IntKind.i64 3000] s14 (fun v22 s23 => pUn UnOp.not v22 (fun v24 => pIf v24 (K7 AX.ret [Value.bool false, vget l6 1, vget l6 2, vget l6 3, vget l6 4] s23) (pBin Try.prog 3 BinOp.lss (g12 1) (Value.int IntKind.i64 (-1)) (fun v25 => pIf v25 (K7 AX.ret [Value.bool false, vget l6 1, vget l6 2, vget l6 3, vget l6 4] s23) (AC Try.prog w0 n_spec_l32Chain ([Value.agg (⟨[vget l6 3, vget l6 4]⟩), Value.agg (⟨[g12 0, g12 1, g12 2]⟩)]) s23 (fun v26 s27 => pExtract v26 0 (fun v28 => pExtract v26 1 (fun v29 => pUn UnOp.not v29 (fun v30 => pIf v30 (K7 AX.ret [Value.bool false, vget l6 1, vget l6 2, vget l6 3, vget l6 4] s27) (pLoop (fun l31 K32 s33 => pLen (vget l31 3) (fun v34 => pBin Try.prog 3 BinOp.lss (vget l31 4) v34 (fun v35 => pIf v35 (pIndexAddr 1 (vget l31 3) (vget l31 4) (fun v36 => pLoad w0 1 v36 s33 (fun g37 => pIndexAddr 1 (vget l31 1) (g37 0) (fun v38 => pLoad w0 1 v38 s33 (fun g39 => pIf (g39 0) (K32 AX.ret [Value.bool false, vget l31 1, vget l31 2, vget l31 3, vget l31 4, vget l31 5, vget l31 6] s33) (pIndexAddr 1 (vget l31 3) (vget l31 4) (fun v40 => pLoad w0 1 v40 s33 (fun g41 => pIndexAddr 1 (vget l31 1) (g41 0) (fun v42 => pVal false 1 (Value.bool true) (pStore v42 [Value.bool true] s33 (fun s43 => pBin Try.prog 3 BinOp.add (vget l31 4) (Value.int IntKind.i64 1) (fun v44 => K32 AX.normal [vget l31 0, vget l31 1, vget l31 2, vget l31 3, v44, vget l31 5, vget l31 6] s43)))))))))))) (K32 (AX.exit 2) [vget l31 0, vget l31 1, vget l31 2, vget l31 3, vget l31 4, vget l31 5, vget l31 6] s33)))) [vget l6 0, vget l6 1, vget l6 2, v28, Value.int IntKind.i64 0, vget l6 3, vget l6 4] s27 (fun x45 l46 s47 => match x45 with | .normal => pBin Try.prog 3 BinOp.add (vget l46 2) (Value.int IntKind.i64 1) (fun v48 => K7 AX.normal [vget l46 0, vget l46 1, v48, vget l46 5, vget l46 6] s47) | .ret => K7 AX.ret [vget l46 0, vget l46 1, vget l46 2, vget l46 5, vget l46 6] s47 | .exit i49 => (match Nat.beq i49 2 with | true => pBin Try.prog 3 BinOp.add (vget l46 2) (Value.int IntKind.i64 1) (fun v50 => K7 AX.normal [vget l46 0, vget l46 1, v50, vget l46 5, vget l46 6] s47) | false => (match Nat.beq i49 1 with | true => pBin Try.prog 3 BinOp.add (vget l46 2) (Value.int IntKind.i64 1) (fun v51 => K7 AX.normal [vget l46 0, vget l46 1, v51, vget l46 5, vget l46 6] s47) | false => K7 (AX.exit i49) [vget l46 0, vget l46 1, vget l46 2, vget l46 5, vget l46 6] s47)))))))))))))))))))) (AC Try.prog w0 n_spec_l1In [g12 2, Value.int IntKind.i64 0, Value.int IntKind.i64 3000] s14 (fun v52 s53 => pUn UnOp.not v52 (fun v54 => pIf v54 (K7 AX.ret [Value.bool false, vget l6 1, vget l6 2, vget l6 3, vget l6 4] s53) (pBin Try.prog 3 BinOp.lss (g12 1) (Value.int IntKind.i64 (-1)) (fun v55 => pIf v55 (K7 AX.ret [Value.bool false, vget l6 1, vget l6 2, vget l6 3, vget l6 4] s53) (AC Try.prog w0 n_spec_l32Chain ([Value.agg (⟨[vget l6 3, vget l6 4]⟩), Value.agg (⟨[g12 0, g12 1, g12 2]⟩)]) s53 (fun v56 s57 => pExtract v56 0 (fun v58 => pExtract v56 1 (fun v59 => pUn UnOp.not v59 (fun v60 => pIf v60 (K7 AX.ret [Value.bool false, vget l6 1, vget l6 2, vget l6 3, vget l6 4] s57) (pLoop (fun l61 K62 s63 => pLen (vget l61 3) (fun v64 => pBin Try.prog 3 BinOp.lss (vget l61 4) v64 (fun v65 => pIf v65 (pIndexAddr 1 (vget l61 3) (vget l61 4) (fun v66 => pLoad w0 1 v66 s63 (fun g67 => pIndexAddr 1 (vget l61 1) (g67 0) (fun v68 => pLoad w0 1 v68 s63 (fun g69 => pIf (g69 0) (K62 AX.ret [Value.bool false, vget l61 1, vget l61 2, vget l61 3, vget l61 4, vget l61 5, vget l61 6] s63) (pIndexAddr 1 (vget l61 3) (vget l61 4) (fun v70 => pLoad w0 1 v70 s63 (fun g71 => pIndexAddr 1 (vget l61 1) (g71 0) (fun v72 => pVal false 1 (Value.bool true) (pStore v72 [Value.bool true] s63 (fun s73 => pBin Try.prog 3 BinOp.add (vget l61 4) (Value.int IntKind.i64 1) (fun v74 => K62 AX.normal [vget l61 0, vget l61 1, vget l61 2, vget l61 3, v74, vget l61 5, vget l61 6] s73)))))))))))) (K62 (AX.exit 2) [vget l61 0, vget l61 1, vget l61 2, vget l61 3, vget l61 4, vget l61 5, vget l61 6] s63)))) [vget l6 0, vget l6 1, vget l6 2, v58, Value.int IntKind.i64 0, vget l6 3, vget l6 4] s57 (fun x75 l76 s77 => match x75 with | .normal => pBin Try.prog 3 BinOp.add (vget l76 2) (Value.int IntKind.i64 1) (fun v78 => K7 AX.normal [vget l76 0, vget l76 1, v78, vget l76 5, vget l76 6] s77) | .ret => K7 AX.ret [vget l76 0, vget l76 1, vget l76 2, vget l76 5, vget l76 6] s77 | .exit i79 => (match Nat.beq i79 2 with | true => pBin Try.prog 3 BinOp.add (vget l76 2) (Value.int IntKind.i64 1) (fun v80 => K7 AX.normal [vget l76 0, vget l76 1, v80, vget l76 5, vget l76 6] s77) | false => (match Nat.beq i79 1 with | true => pBin Try.prog 3 BinOp.add (vget l76 2) (Value.int IntKind.i64 1) (fun v81 => K7 AX.normal [vget l76 0, vget l76 1, v81, vget l76 5, vget l76 6] s77) | false => K7 (AX.exit i79) [vget l76 0, vget l76 1, vget l76 2, vget l76 5, vget l76 6] s77)))))))))))))))))))))) (K7 (AX.exit 0) [vget l6 0, vget l6 1, vget l6 2, vget l6 3, vget l6 4] s8)))) [Value.bool false, v4, Value.int IntKind.i64 0, cellOf a0 0, cellOf a0 1] s5 (fun x82 l83 s84 => match x82 with | .normal => pLoop (fun l85 K86 s87 => pLen (vget l85 3) (fun v88 => pBin Try.prog 3 BinOp.lss (vget l85 2) v88 (fun v89 => pIf v89 (pIndexAddr 3 (vget l85 3) (vget l85 2) (fun v90 => pLoad w0 3 v90 s87 (fun g91 => pVal true 3 (Value.agg (⟨[g91 0, g91 1, g91 2]⟩)) (pIndexAddr 1 (vget l85 1) (vget l85 2) (fun v92 => pLoad w0 1 v92 s87 (fun g93 => pBin Try.prog 4 BinOp.neq (g91 0) (g93 0) (fun v94 => pIf v94 (K86 AX.ret [Value.bool false, vget l85 1, vget l85 2, vget l85 3, vget l85 4] s87) (pUn UnOp.not (g91 0) (fun v95 => pIf v95 (pBin Try.prog 9 BinOp.neq (g91 1) (Value.string ({ data := #[] })) (fun v96 => pIf v96 (K86 AX.ret [Value.bool false, vget l85 1, vget l85 2, vget l85 3, vget l85 4] s87) (pBin Try.prog 3 BinOp.neq (g91 2) (Value.int IntKind.i64 (-1)) (fun v97 => pIf v97 (K86 AX.ret [Value.bool false, vget l85 1, vget l85 2, vget l85 3, vget l85 4] s87) (pBin Try.prog 3 BinOp.lss (g91 2) (Value.int IntKind.i64 (-1)) (fun v98 => pIf v98 (K86 AX.ret [Value.bool false, vget l85 1, vget l85 2, vget l85 3, vget l85 4] s87) (pBin Try.prog 3 BinOp.add (vget l85 2) (Value.int IntKind.i64 1) (fun v99 => K86 AX.normal [vget l85 0, vget l85 1, v99, vget l85 3, vget l85 4] s87)))))))) (pBin Try.prog 3 BinOp.lss (g91 2) (Value.int IntKind.i64 (-1)) (fun v100 => pIf v100 (K86 AX.ret [Value.bool false, vget l85 1, vget l85 2, vget l85 3, vget l85 4] s87) (pBin Try.prog 3 BinOp.add (vget l85 2) (Value.int IntKind.i64 1) (fun v101 => K86 AX.normal [vget l85 0, vget l85 1, v101, vget l85 3, vget l85 4] s87))))))))))))) (K86 (AX.exit 4) [vget l85 0, vget l85 1, vget l85 2, vget l85 3, vget l85 4] s87)))) [vget l83 0, vget l83 1, Value.int IntKind.i64 0, vget l83 3, vget l83 4] s84 (fun x102 l103 s104 => match x102 with | .normal => R (Value.bool true) s104 | .ret => R (vget l103 0) s104 | .exit i105 => (match Nat.beq i105 4 with | true => R (Value.bool true) s104 | false => False)) | .ret => R (vget l83 0) s84 | .exit i106 => (match Nat.beq i106 0 with | true => pLoop (fun l107 K108 s109 => pLen (vget l107 3) (fun v110 => pBin Try.prog 3 BinOp.lss (vget l107 2) v110 (fun v111 => pIf v111 (pIndexAddr 3 (vget l107 3) (vget l107 2) (fun v112 => pLoad w0 3 v112 s109 (fun g113 => pVal true 3 (Value.agg (⟨[g113 0, g113 1, g113 2]⟩)) (pIndexAddr 1 (vget l107 1) (vget l107 2) (fun v114 => pLoad w0 1 v114 s109 (fun g115 => pBin Try.prog 4 BinOp.neq (g113 0) (g115 0) (fun v116 => pIf v116 (K108 AX.ret [Value.bool false, vget l107 1, vget l107 2, vget l107 3, vget l107 4] s109) (pUn UnOp.not (g113 0) (fun v117 => pIf v117 (pBin Try.prog 9 BinOp.neq (g113 1) (Value.string ({ data := #[] })) (fun v118 => pIf v118 (K108 AX.ret [Value.bool false, vget l107 1, vget l107 2, vget l107 3, vget l107 4] s109) (pBin Try.prog 3 BinOp.neq (g113 2) (Value.int IntKind.i64 (-1)) (fun v119 => pIf v119 (K108 AX.ret [Value.bool false, vget l107 1, vget l107 2, vget l107 3, vget l107 4] s109) (pBin Try.prog 3 BinOp.lss (g113 2) (Value.int IntKind.i64 (-1)) (fun v120 => pIf v120 (K108 AX.ret [Value.bool false, vget l107 1, vget l107 2, vget l107 3, vget l107 4] s109) (pBin Try.prog 3 BinOp.add (vget l107 2) (Value.int IntKind.i64 1) (fun v121 => K108 AX.normal [vget l107 0, vget l107 1, v121, vget l107 3, vget l107 4] s109)))))))) (pBin Try.prog 3 BinOp.lss (g113 2) (Value.int IntKind.i64 (-1)) (fun v122 => pIf v122 (K108 AX.ret [Value.bool false, vget l107 1, vget l107 2, vget l107 3, vget l107 4] s109) (pBin Try.prog 3 BinOp.add (vget l107 2) (Value.int IntKind.i64 1) (fun v123 => K108 AX.normal [vget l107 0, vget l107 1, v123, vget l107 3, vget l107 4] s109))))))))))))) (K108 (AX.exit 4) [vget l107 0, vget l107 1, vget l107 2, vget l107 3, vget l107 4] s109)))) [vget l83 0, vget l83 1, Value.int IntKind.i64 0, vget l83 3, vget l83 4] s84 (fun x124 l125 s126 => match x124 with | .normal => R (Value.bool true) s126 | .ret => R (vget l125 0) s126 | .exit i127 => (match Nat.beq i127 4 with | true => R (Value.bool true) s126 | false => False)) | false => False))))))))))
theorem vc_spec_PagesOk_eq (w0 : World) (a0 : Value) (σ : Vw) (R : Value → Vw → Prop) : vc_spec_PagesOk w0 a0 σ R = den Try.prog w0 kp_spec_PagesOk esc_spec_PagesOk (Try.f21.body.getD .skip) (entry Try.f21.ntmps [a0]) σ (retK Try.prog Try.f21.results.toList R) := by kernel_rfl
theorem ac_spec_PagesOk {w0 : World} {a0 : Value} {σ : Vw} {R : Value → Vw → Prop} (h : vc_spec_PagesOk w0 a0 σ R) : AC Try.prog w0 n_spec_PagesOk [a0] σ R := by
  refine ac_rule (fn := Try.f21) (c := Try.f21.body.getD .skip) kp_spec_PagesOk esc_spec_PagesOk Try.func21 (by kernel_rfl) (by kernel_rfl) ?_
  rw [← vc_spec_PagesOk_eq]
  exact h

/-- impl.PagesNeed -/
def kp_impl_PagesNeed : Nat → Keep
  | _ => ⟨[], [], [], .done, []⟩
def esc_impl_PagesNeed : Nat → Bool
  | _ => false
def vc_impl_PagesNeed (w0 : World) (a0 : Value) (σ : Vw) (R : Value → Vw → Prop) : Prop :=
  pLenS a0 (fun v0 => AC Try.prog w0 n_impl_pieces [v0, Value.int IntKind.i64 40] σ (fun v1 s2 => R v1 s2))
theorem vc_impl_PagesNeed_eq (w0 : World) (a0 : Value) (σ : Vw) (R : Value → Vw → Prop) : vc_impl_PagesNeed w0 a0 σ R = den Try.prog w0 kp_impl_PagesNeed esc_impl_PagesNeed (Try.f22.body.getD .skip) (entry Try.f22.ntmps [a0]) σ (retK Try.prog Try.f22.results.toList R) := by kernel_rfl
theorem ac_impl_PagesNeed {w0 : World} {a0 : Value} {σ : Vw} {R : Value → Vw → Prop} (h : vc_impl_PagesNeed w0 a0 σ R) : AC Try.prog w0 n_impl_PagesNeed [a0] σ R := by
  refine ac_rule (fn := Try.f22) (c := Try.f22.body.getD .skip) kp_impl_PagesNeed esc_impl_PagesNeed Try.func22 (by kernel_rfl) (by kernel_rfl) ?_
  rw [← vc_impl_PagesNeed_eq]
  exact h

/-- spec.DrawPagesDrop -/
def kp_spec_DrawPagesDrop : Nat → Keep
  | _ => ⟨[], [], [], .done, []⟩
def esc_spec_DrawPagesDrop : Nat → Bool
  | _ => false
def vc_spec_DrawPagesDrop (w0 : World) (a0 : Value) (σ : Vw) (R : Value → Vw → Prop) : Prop :=
  AC Try.prog w0 n_spec_DrawPagesGet [a0] σ (fun v0 s1 => pExtract v0 0 (fun v2 => pExtract v0 1 (fun v3 => pVal true 2 v2 (R (Value.tuple (⟨[Value.agg (⟨[cellOf v2 0, cellOf v2 1]⟩), v3]⟩)) s1))))
theorem vc_spec_DrawPagesDrop_eq (w0 : World) (a0 : Value) (σ : Vw) (R : Value → Vw → Prop) : vc_spec_DrawPagesDrop w0 a0 σ R = den Try.prog w0 kp_spec_DrawPagesDrop esc_spec_DrawPagesDrop (Try.f23.body.getD .skip) (entry Try.f23.ntmps [a0]) σ (retK Try.prog Try.f23.results.toList R) := by kernel_rfl
theorem ac_spec_DrawPagesDrop {w0 : World} {a0 : Value} {σ : Vw} {R : Value → Vw → Prop} (h : vc_spec_DrawPagesDrop w0 a0 σ R) : AC Try.prog w0 n_spec_DrawPagesDrop [a0] σ R := by
  refine ac_rule (fn := Try.f23) (c := Try.f23.body.getD .skip) kp_spec_DrawPagesDrop esc_spec_DrawPagesDrop Try.func23 (by kernel_rfl) (by kernel_rfl) ?_
  rw [← vc_spec_DrawPagesDrop_eq]
  exact h

/-- laws.wxPages -/
def kp_laws_wxPages : Nat → Keep
  | 4 => ⟨[4, 5], [(2, 2), (3, 2)], [2, 3], .done, []⟩
  | 6 => ⟨[], [], [], .step 0 (.step 1 (.step 2 (.step 3 (.step 4 (.step 5 (.step 6 (.step 7 (.step 8 (.step 9 (.step 10 (.done))))))))))), [(1, [0]), (3, [0, 1, 2]), (4, [0, 1, 2, 3]), (6, [5]), (8, [5, 6, 7]), (9, [5, 6, 7, 8]), (10, [0, 1, 2, 3, 4, 5, 6, 7, 8, 9])]⟩
  | 9 => ⟨[4, 6], [(2, 2), (3, 2)], [2, 3], .done, []⟩
  | 11 => ⟨[], [], [], .step 0 (.step 1 (.step 2 (.step 3 (.step 4 (.step 5 (.step 6 (.step 7 (.step 8 (.step 9 (.step 10 (.done))))))))))), [(1, [0]), (3, [0, 1, 2]), (4, [0, 1, 2, 3]), (6, [5]), (8, [5, 6, 7]), (9, [5, 6, 7, 8]), (10, [0, 1, 2, 3, 4, 5, 6, 7, 8, 9])]⟩
  | _ => ⟨[], [], [], .done, []⟩
def esc_laws_wxPages : Nat → Bool
  | _ => false
def vc_laws_wxPages (w0 : World) (a0 a1 : Value) (σ : Vw) (R : Value → Vw → Prop) : Prop :=
  pVal true 2 a0 (pVal true 2 a1 (pLen (cellOf a0 0) (fun v0 => pLen (cellOf a1 0) (fun v1 => pBin Try.prog 3 BinOp.neq v0 v1 (fun v2 => pIf v2 (R (Value.bool false) σ) (pLen (cellOf a0 1) (fun v3 => pLen (cellOf a1 1) (fun v4 => pBin Try.prog 3 BinOp.neq v3 v4 (fun v5 => pIf v5 (R (Value.bool false) σ) (pLoop (fun l6 K7 s8 => pLen (vget l6 2) (fun v9 => pBin Try.prog 3 BinOp.lss (vget l6 1) v9 (fun v10 => pIf v10 (pIndexAddr 3 (vget l6 2) (vget l6 1) (fun v11 => pLoad w0 3 v11 s8 (fun g12 => pIndexAddr 3 (vget l6 4) (vget l6 1) (fun v13 => pLoad w0 3 v13 s8 (fun g14 => pBin Try.prog 85 BinOp.neq (Value.agg (⟨[g12 0, g12 1, g12 2]⟩)) (Value.agg (⟨[g14 0, g14 1, g14 2]⟩)) (fun v15 => pIf v15 (K7 AX.ret [Value.bool false, vget l6 1, vget l6 2, vget l6 3, vget l6 4, vget l6 5] s8) (pBin Try.prog 3 BinOp.add (vget l6 1) (Value.int IntKind.i64 1) (fun v16 => K7 AX.normal [vget l6 0, v16, vget l6 2, vget l6 3, vget l6 4, vget l6 5] s8)))))))) (K7 (AX.exit 0) [vget l6 0, vget l6 1, vget l6 2, vget l6 3, vget l6 4, vget l6 5] s8)))) [Value.bool false, Value.int IntKind.i64 0, cellOf a0 0, cellOf a0 1, cellOf a1 0, cellOf a1 1] σ (fun x17 l18 s19 => match x17 with | .normal => pLoop (fun l20 K21 s22 => pLen (vget l20 3) (fun v23 => pBin Try.prog 3 BinOp.lss (vget l20 1) v23 (fun v24 => pIf v24 (pIndexAddr 3 (vget l20 3) (vget l20 1) (fun v25 => pLoad w0 3 v25 s22 (fun g26 => pIndexAddr 3 (vget l20 5) (vget l20 1) (fun v27 => pLoad w0 3 v27 s22 (fun g28 => pBin Try.prog 44 BinOp.neq (Value.agg (⟨[g26 0, g26 1, g26 2]⟩)) (Value.agg (⟨[g28 0, g28 1, g28 2]⟩)) (fun v29 => pIf v29 (K21 AX.ret [Value.bool false, vget l20 1, vget l20 2, vget l20 3, vget l20 4, vget l20 5] s22) (pBin Try.prog 3 BinOp.add (vget l20 1) (Value.int IntKind.i64 1) (fun v30 => K21 AX.normal [vget l20 0, v30, vget l20 2, vget l20 3, vget l20 4, vget l20 5] s22)))))))) (K21 (AX.exit 2) [vget l20 0, vget l20 1, vget l20 2, vget l20 3, vget l20 4, vget l20 5] s22)))) [vget l18 0, Value.int IntKind.i64 0, vget l18 2, vget l18 3, vget l18 4, vget l18 5] s19 (fun x31 l32 s33 => match x31 with | .normal => R (Value.bool true) s33 | .ret => R (vget l32 0) s33 | .exit i34 => (match Nat.beq i34 2 with | true => R (Value.bool true) s33 | false => False)) | .ret => R (vget l18 0) s19 | .exit i35 => (match Nat.beq i35 0 with | true => pLoop (fun l36 K37 s38 => pLen (vget l36 3) (fun v39 => pBin Try.prog 3 BinOp.lss (vget l36 1) v39 (fun v40 => pIf v40 (pIndexAddr 3 (vget l36 3) (vget l36 1) (fun v41 => pLoad w0 3 v41 s38 (fun g42 => pIndexAddr 3 (vget l36 5) (vget l36 1) (fun v43 => pLoad w0 3 v43 s38 (fun g44 => pBin Try.prog 44 BinOp.neq (Value.agg (⟨[g42 0, g42 1, g42 2]⟩)) (Value.agg (⟨[g44 0, g44 1, g44 2]⟩)) (fun v45 => pIf v45 (K37 AX.ret [Value.bool false, vget l36 1, vget l36 2, vget l36 3, vget l36 4, vget l36 5] s38) (pBin Try.prog 3 BinOp.add (vget l36 1) (Value.int IntKind.i64 1) (fun v46 => K37 AX.normal [vget l36 0, v46, vget l36 2, vget l36 3, vget l36 4, vget l36 5] s38)))))))) (K37 (AX.exit 2) [vget l36 0, vget l36 1, vget l36 2, vget l36 3, vget l36 4, vget l36 5] s38)))) [vget l18 0, Value.int IntKind.i64 0, vget l18 2, vget l18 3, vget l18 4, vget l18 5] s19 (fun x47 l48 s49 => match x47 with | .normal => R (Value.bool true) s49 | .ret => R (vget l48 0) s49 | .exit i50 => (match Nat.beq i50 2 with | true => R (Value.bool true) s49 | false => False)) | false => False))))))))))))
theorem vc_laws_wxPages_eq (w0 : World) (a0 a1 : Value) (σ : Vw) (R : Value → Vw → Prop) : vc_laws_wxPages w0 a0 a1 σ R = den Try.prog w0 kp_laws_wxPages esc_laws_wxPages (Try.f24.body.getD .skip) (entry Try.f24.ntmps [a0, a1]) σ (retK Try.prog Try.f24.results.toList R) := by kernel_rfl
theorem ac_laws_wxPages {w0 : World} {a0 a1 : Value} {σ : Vw} {R : Value → Vw → Prop} (h : vc_laws_wxPages w0 a0 a1 σ R) : AC Try.prog w0 n_laws_wxPages [a0, a1] σ R := by
  refine ac_rule (fn := Try.f24) (c := Try.f24.body.getD .skip) kp_laws_wxPages esc_laws_wxPages Try.func24 (by kernel_rfl) (by kernel_rfl) ?_
  rw [← vc_laws_wxPages_eq]
  exact h

/-- impl.PagesOk -/
def kp_impl_PagesOk : Nat → Keep
  | 5 => ⟨[2, 3, 24, 25, 26], [(1, 2)], [1], .done, []⟩
  | 7 => ⟨[], [], [], .step 0 (.step 1 (.step 2 (.step 3 (.step 4 (.step 5 (.step 6 (.step 7 (.step 8 (.step 9 (.step 10 (.step 11 (.step 12 (.step 13 (.step 14 (.step 15 (.step 16 (.step 17 (.step 18 (.step 19 (.step 20 (.step 21 (.step 22 (.step 23 (.step 24 (.step 25 (.done)))))))))))))))))))))))))), [(1, [0]), (2, [0, 1]), (3, [0, 1, 2]), (4, [0, 1, 2, 3]), (5, [0, 1, 2, 3, 4]), (6, [0, 1, 2, 3, 4, 5]), (7, [0, 1, 2, 3, 4, 5, 6]), (8, [0, 1, 2, 3, 4, 5, 6, 7]), (9, [0, 1, 2, 3, 4, 5, 6, 7, 8]), (10, [0, 1, 2, 3, 4, 5, 6, 7]), (11, [0, 1, 2, 3, 4, 5, 6, 7, 10]), (12, [0, 1, 2, 3, 4, 5, 6, 7, 8, 9, 10, 11]), (13, [0, 1, 2, 3, 4, 5, 6, 7, 8, 9, 10, 11, 12]), (14, [0, 1, 2, 3, 4, 5, 6, 7, 8, 9, 10, 11, 12, 13]), (15, [0, 1, 2, 3, 4, 5, 6, 7]), (16, [0, 1, 2, 3, 4, 5, 6, 7, 15]), (17, [0, 1, 2, 3, 4, 5, 6, 7, 8, 9, 10, 11, 12, 13, 14, 15, 16]), (18, [0, 1, 2, 3, 4, 5, 6, 7, 8, 9, 10, 11, 12, 13, 14, 15, 16, 17]), (19, [0, 1, 2, 3, 4, 5, 6, 7, 8, 9, 10, 11, 12, 13, 14, 15, 16, 17, 18]), (20, [0, 1, 2, 3, 4, 5, 6, 7, 8, 9, 10, 11, 12, 13, 14, 15, 16, 17, 18, 19]), (21, [0, 1, 2, 3, 4, 5, 6, 7, 8, 9, 10, 11, 12, 13, 14, 15, 16, 17, 18, 19, 20]), (22, [0, 1, 2, 3, 4, 5, 6, 7, 8, 9, 10, 11, 12, 13, 14, 15, 16, 17, 18, 19, 20, 21]), (23, [0, 1, 2, 3, 4, 5, 6, 7, 8, 9, 10, 11, 12, 13, 14, 15, 16, 17, 18, 19, 20, 21, 22]), (24, [0, 1, 2, 3, 4, 5, 6, 7, 8, 9, 10, 11, 12, 13, 14, 15, 16, 17, 18, 19, 20, 21, 22, 23]), (25, [0, 1, 2, 3, 4, 5, 6, 7, 8, 9, 10, 11, 12, 13, 14, 15, 16, 17, 18, 19, 20, 21, 22, 23, 24])]⟩
  | 13 => ⟨[2, 3, 24, 25, 26, 65, 66, 67], [(1, 2)], [1], .done, []⟩
  | 21 => ⟨[2, 3, 79, 80, 81], [], [], .done, []⟩
  | _ => ⟨[], [], [], .done, []⟩
def esc_impl_PagesOk : Nat → Bool
  | 3 => true
  | _ => false
def vc_impl_PagesOk (w0 : World) (a0 : Value) (σ : Vw) (R : Value → Vw → Prop) : Prop :=
  pVal true 2 a0 (pLen (cellOf a0 0) (fun v0 => pBin Try.prog 3 BinOp.neq v0 (Value.int IntKind.i64 96) (fun v1 => pIf v1 (R (Value.bool false) σ) (pLen (cellOf a0 1) (fun v2 => pBin Try.prog 3 BinOp.gtr v2 (Value.int IntKind.i64 16) (fun v3 => pIf v3 (R (Value.bool false) σ) (pNew w0 87 [Value.bool false, Value.bool false, Value.bool false, Value.bool false, Value.bool false, Value.bool false, Value.bool false, Value.bool false, Value.bool false, Value.bool false, Value.bool false, Value.bool false, Value.bool false, Value.bool false, Value.bool false, Value.bool false, Value.bool false, Value.bool false, Value.bool false, Value.bool false, Value.bool false, Value.bool false, Value.bool false, Value.bool false, Value.bool false, Value.bool false, Value.bool false, Value.bool false, Value.bool false, Value.bool false, Value.bool false, Value.bool false, Value.bool false, Value.bool false, Value.bool false, Value.bool false, Value.bool false, Value.bool false, Value.bool false, Value.bool false, Value.bool false, Value.bool false, Value.bool false, Value.bool false, Value.bool false, Value.bool false, Value.bool false, Value.bool false, Value.bool false, Value.bool false, Value.bool false, Value.bool false, Value.bool false, Value.bool false, Value.bool false, Value.bool false, Value.bool false, Value.bool false, Value.bool false, Value.bool false, Value.bool false, Value.bool false, Value.bool false, Value.bool false, Value.bool false, Value.bool false, Value.bool false, Value.bool false, Value.bool false, Value.bool false, Value.bool false, Value.bool false, Value.bool false, Value.bool false, Value.bool false, Value.bool false, Value.bool false, Value.bool false, Value.bool false, Value.bool false, Value.bool false, Value.bool false, Value.bool false, Value.bool false, Value.bool false, Value.bool false, Value.bool false, Value.bool false, Value.bool false, Value.bool false, Value.bool false, Value.bool false, Value.bool false, Value.bool false, Value.bool false, Value.bool false] σ (fun n4 s5 => pVal true 96 (Value.agg (⟨[Value.bool false, Value.bool false, Value.bool false, Value.bool false, Value.bool false, Value.bool false, Value.bool false, Value.bool false, Value.bool false, Value.bool false, Value.bool false, Value.bool false, Value.bool false, Value.bool false, Value.bool false, Value.bool false, Value.bool false, Value.bool false, Value.bool false, Value.bool false, Value.bool false, Value.bool false, Value.bool false, Value.bool false, Value.bool false, Value.bool false, Value.bool false, Value.bool false, Value.bool false, Value.bool false, Value.bool false, Value.bool false, Value.bool false, Value.bool false, Value.bool false, Value.bool false, Value.bool false, Value.bool false, Value.bool false, Value.bool false, Value.bool false, Value.bool false, Value.bool false, Value.bool false, Value.bool false, Value.bool false, Value.bool false, Value.bool false, Value.bool false, Value.bool false, Value.bool false, Value.bool false, Value.bool false, Value.bool false, Value.bool false, Value.bool false, Value.bool false, Value.bool false, Value.bool false, Value.bool false, Value.bool false, Value.bool false, Value.bool false, Value.bool false, Value.bool false, Value.bool false, Value.bool false, Value.bool false, Value.bool false, Value.bool false, Value.bool false, Value.bool false, Value.bool false, Value.bool false, Value.bool false, Value.bool false, Value.bool false, Value.bool false, Value.bool false, Value.bool false, Value.bool false, Value.bool false, Value.bool false, Value.bool false, Value.bool false, Value.bool false, Value.bool false, Value.bool false, Value.bool false, Value.bool false, Value.bool false, Value.bool false, Value.bool false, Value.bool false, Value.bool false, Value.bool false]⟩)) (pStore (Value.pointer (Option.some (Addr.mk n4 0 Option.none))) [Value.bool false, Value.bool false, Value.bool false, Value.bool false, Value.bool false, Value.bool false, Value.bool false, Value.bool false, Value.bool false, Value.bool false, Value.bool false, Value.bool false, Value.bool false, Value.bool false, Value.bool false, Value.bool false, Value.bool false, Value.bool false, Value.bool false, Value.bool false, Value.bool false, Value.bool false, Value.bool false, Value.bool false, Value.bool false, Value.bool false, Value.bool false, Value.bool false, Value.bool false, Value.bool false, Value.bool false, Value.bool false, Value.bool false, Value.bool false, Value.bool false, Value.bool false, Value.bool false, Value.bool false, Value.bool false, Value.bool false, Value.bool false, Value.bool false, Value.bool false, Value.bool false, Value.bool false, Value.bool false, Value.bool false, Value.bool false, Value.bool false, Value.bool false, Value.bool false, Value.bool false, Value.bool false, Value.bool false, Value.bool false, Value.bool false, Value.bool false, Value.bool false, Value.bool false, Value.bool false, Value.bool false, Value.bool false, Value.bool false, Value.bool false, Value.bool false, Value.bool false, Value.bool false, Value.bool false, Value.bool false, Value.bool false, Value.bool false, Value.bool false, Value.bool false, Value.bool false, Value.bool false, Value.bool false, Value.bool false, Value.bool false, Value.bool false, Value.bool false, Value.bool false, Value.bool false, Value.bool false, Value.bool false, Value.bool false, Value.bool false, Value.bool false, Value.bool false, Value.bool false, Value.bool false, Value.bool false, Value.bool false, Value.bool false, Value.bool false, Value.bool false, Value.bool false] s5 (fun s6 => pLen (cellOf a0 1) (fun v7 => pLoop (fun l8 K9 s10 => pBin Try.prog 3 BinOp.lss (vget l8 4) (vget l8 3) (fun v11 => pIf v11 (pIndexAddr 3 (vget l8 2) (vget l8 4) (fun v12 => pLoad w0 3 v12 s10 (fun g13 => pVal true 3 (Value.agg (⟨[g13 0, g13 1, g13 2]⟩)) (AC Try.prog w0 n_impl_nameOk [g13 0] s10 (fun v14 s15 => pUn UnOp.not v14 (fun v16 => pIf v16 (K9 AX.ret [Value.bool false, vget l8 1, vget l8 2, vget l8 3, vget l8 4, vget l8 5, vget l8 6] s15) (pBin Try.prog 3 BinOp.gtr (vget l8 4) (Value.int IntKind.i64 0) (fun v17 => pIf v17 (pBin Try.prog 3 BinOp.sub (vget l8 4) (Value.int IntKind.i64 1) (fun v18 => pIndexAddr 3 (vget l8 6) v18 (fun v19 => pField 0 v19 (fun v20 => pLoad w0 1 v20 s15 (fun g21 => pBin Try.prog 9 BinOp.geq (g21 0) (g13 0) (fun v22 => pIf v22 (K9 AX.ret [Value.bool false, vget l8 1, vget l8 2, vget l8 3, vget l8 4, vget l8 5, vget l8 6] s15) (AC Try.prog w0 n_impl_within [g13 2, Value.int IntKind.i64 0, Value.int IntKind.i64 3000] s15 (fun v23 s24 => pUn UnOp.not v23 (fun v25 => pIf v25 (K9 AX.ret [Value.bool false, vget l8 1, vget l8 2, vget l8 3, vget l8 4, vget l8 5, vget l8 6] s24) (AC Try.prog w0 n_impl_Pages_chain ([Value.agg (⟨[vget l8 5, vget l8 6]⟩), Value.agg (⟨[g13 0, g13 1, g13 2]⟩)]) s24 (fun v26 s27 => pExtract v26 0 (fun v28 => pExtract v26 1 (fun v29 => pUn UnOp.not v29 (fun v30 => pIf v30 (K9 AX.ret [Value.bool false, vget l8 1, vget l8 2, vget l8 3, vget l8 4, vget l8 5, vget l8 6] s27) (pLen v28 (fun v31 => pLoop (fun l32 K33 s34 => pBin Try.prog 3 BinOp.lss (vget l32 7) (vget l32 6) (fun v35 => pIf v35 (pIndexAddr 1 (vget l32 5) (vget l32 7) (fun v36 => pLoad w0 1 v36 s34 (fun g37 => pIndexArr 96 1 (vget l32 1) (g37 0) (fun v38 => pLoad w0 1 v38 s34 (fun g39 => pIf (g39 0) (K33 AX.ret [Value.bool false, vget l32 1, vget l32 2, vget l32 3, vget l32 4, vget l32 5, vget l32 6, vget l32 7, vget l32 8, vget l32 9] s34) (pIndexArr 96 1 (vget l32 1) (g37 0) (fun v40 => pVal false 1 (Value.bool true) (pStore v40 [Value.bool true] s34 (fun s41 => pBin Try.prog 3 BinOp.add (vget l32 7) (Value.int IntKind.i64 1) (fun v42 => K33 AX.normal [vget l32 0, vget l32 1, vget l32 2, vget l32 3, vget l32 4, vget l32 5, vget l32 6, v42, vget l32 8, vget l32 9] s41)))))))))) (K33 (AX.exit 2) [vget l32 0, vget l32 1, vget l32 2, vget l32 3, vget l32 4, vget l32 5, vget l32 6, vget l32 7, vget l32 8, vget l32 9] s34))) [vget l8 0, vget l8 1, vget l8 2, vget l8 3, vget l8 4, v28, v31, Value.int IntKind.i64 0, vget l8 5, vget l8 6] s27 (fun x43 l44 s45 => match x43 with | .normal => pBin Try.prog 3 BinOp.add (vget l44 4) (Value.int IntKind.i64 1) (fun v46 => K9 AX.normal [vget l44 0, vget l44 1, vget l44 2, vget l44 3, v46, vget l44 8, vget l44 9] s45) | .ret => K9 AX.ret [vget l44 0, vget l44 1, vget l44 2, vget l44 3, vget l44 4, vget l44 8, vget l44 9] s45 | .exit i47 => (match Nat.beq i47 2 with | true => pBin Try.prog 3 BinOp.add (vget l44 4) (Value.int IntKind.i64 1) (fun v48 => K9 AX.normal [vget l44 0, vget l44 1, vget l44 2, vget l44 3, v48, vget l44 8, vget l44 9] s45) | false => (match Nat.beq i47 1 with | true => pBin Try.prog 3 BinOp.add (vget l44 4) (Value.int IntKind.i64 1) (fun v49 => K9 AX.normal [vget l44 0, vget l44 1, vget l44 2, vget l44 3, v49, vget l44 8, vget l44 9] s45) | false => K9 (AX.exit i47) [vget l44 0, vget l44 1, vget l44 2, vget l44 3, vget l44 4, vget l44 8, vget l44 9] s45))))))))))))))))))) (AC Try.prog w0 n_impl_within [g13 2, Value.int IntKind.i64 0, Value.int IntKind.i64 3000] s15 (fun v50 s51 => pUn UnOp.not v50 (fun v52 => pIf v52 (K9 AX.ret [Value.bool false, vget l8 1, vget l8 2, vget l8 3, vget l8 4, vget l8 5, vget l8 6] s51) (AC Try.prog w0 n_impl_Pages_chain ([Value.agg (⟨[vget l8 5, vget l8 6]⟩), Value.agg (⟨[g13 0, g13 1, g13 2]⟩)]) s51 (fun v53 s54 => pExtract v53 0 (fun v55 => pExtract v53 1 (fun v56 => pUn UnOp.not v56 (fun v57 => pIf v57 (K9 AX.ret [Value.bool false, vget l8 1, vget l8 2, vget l8 3, vget l8 4, vget l8 5, vget l8 6] s54) (pLen v55 (fun v58 => pLoop (fun l59 K60 s61 => pBin Try.prog 3 BinOp.lss (vget l59 7) (vget l59 6) (fun v62 => pIf v62 (pIndexAddr 1 (vget l59 5) (vget l59 7) (fun v63 => pLoad w0 1 v63 s61 (fun g64 => pIndexArr 96 1 (vget l59 1) (g64 0) (fun v65 => pLoad w0 1 v65 s61 (fun g66 => pIf (g66 0) (K60 AX.ret [Value.bool false, vget l59 1, vget l59 2, vget l59 3, vget l59 4, vget l59 5, vget l59 6, vget l59 7, vget l59 8, vget l59 9] s61) (pIndexArr 96 1 (vget l59 1) (g64 0) (fun v67 => pVal false 1 (Value.bool true) (pStore v67 [Value.bool true] s61 (fun s68 => pBin Try.prog 3 BinOp.add (vget l59 7) (Value.int IntKind.i64 1) (fun v69 => K60 AX.normal [vget l59 0, vget l59 1, vget l59 2, vget l59 3, vget l59 4, vget l59 5, vget l59 6, v69, vget l59 8, vget l59 9] s68)))))))))) (K60 (AX.exit 2) [vget l59 0, vget l59 1, vget l59 2, vget l59 3, vget l59 4, vget l59 5, vget l59 6, vget l59 7, vget l59 8, vget l59 9] s61))) [vget l8 0, vget l8 1, vget l8 2, vget l8 3, vget l8 4, v55, v58, Value.int IntKind.i64 0, vget l8 5, vget l8 6] s54 (fun x70 l71 s72 => match x70 with | .normal => pBin Try.prog 3 BinOp.add (vget l71 4) (Value.int IntKind.i64 1) (fun v73 => K9 AX.normal [vget l71 0, vget l71 1, vget l71 2, vget l71 3, v73, vget l71 8, vget l71 9] s72) | .ret => K9 AX.ret [vget l71 0, vget l71 1, vget l71 2, vget l71 3, vget l71 4, vget l71 8, vget l71 9] s72 | .exit i74 => (match Nat.beq i74 2 with | true => pBin Try.prog 3 BinOp.add (vget l71 4) (Value.int IntKind.i64 1) (fun v75 => K9 AX.normal [vget l71 0, vget l71 1, vget l71 2, vget l71 3, v75, vget l71 8, vget l71 9] s72) | false => (match Nat.beq i74 1 with | true => pBin Try.prog 3 BinOp.add (vget l71 4) (Value.int IntKind.i64 1) (fun v76 => K9 AX.normal [vget l71 0, vget l71 1, vget l71 2, vget l71 3, v76, vget l71 8, vget l71 9] s72) | false => K9 (AX.exit i74) [vget l71 0, vget l71 1, vget l71 2, vget l71 3, vget l71 4, vget l71 8, vget l71 9] s72))))))))))))))))))))) (K9 (AX.exit 0) [vget l8 0, vget l8 1, vget l8 2, vget l8 3, vget l8 4, vget l8 5, vget l8 6] s10))) [Value.bool false, Value.pointer (Option.some (Addr.mk n4 0 Option.none)), cellOf a0 1, v7, Value.int IntKind.i64 0, cellOf a0 0, cellOf a0 1] s6 (fun x77 l78 s79 => match x77 with | .normal => pLen (vget l78 5) (fun v80 => pLoop (fun l81 K82 s83 => pBin Try.prog 3 BinOp.lss (vget l81 4) (vget l81 3) (fun v84 => pIf v84 (pIndexAddr 3 (vget l81 2) (vget l81 4) (fun v85 => pLoad w0 3 v85 s83 (fun g86 => pVal true 3 (Value.agg (⟨[g86 0, g86 1, g86 2]⟩)) (pIndexArr 96 1 (vget l81 1) (vget l81 4) (fun v87 => pLoad w0 1 v87 s83 (fun g88 => pUn UnOp.not (g88 0) (fun v89 => pIf v89 (pIf (g86 0) (K82 AX.ret [Value.bool false, vget l81 1, vget l81 2, vget l81 3, vget l81 4] s83) (pBin Try.prog 9 BinOp.neq (g86 1) (Value.string ({ data := #[] })) (fun v90 => pIf v90 (K82 AX.ret [Value.bool false, vget l81 1, vget l81 2, vget l81 3, vget l81 4] s83) (pBin Try.prog 3 BinOp.neq (g86 2) (Value.int IntKind.i64 (-1)) (fun v91 => pIf v91 (K82 AX.ret [Value.bool false, vget l81 1, vget l81 2, vget l81 3, vget l81 4] s83) (pBin Try.prog 3 BinOp.add (vget l81 4) (Value.int IntKind.i64 1) (fun v92 => K82 AX.normal [vget l81 0, vget l81 1, vget l81 2, vget l81 3, v92] s83))))))) (pBin Try.prog 3 BinOp.add (vget l81 4) (Value.int IntKind.i64 1) (fun v93 => K82 AX.normal [vget l81 0, vget l81 1, vget l81 2, vget l81 3, v93] s83))))))))) (K82 (AX.exit 4) [vget l81 0, vget l81 1, vget l81 2, vget l81 3, vget l81 4] s83))) [vget l78 0, vget l78 1, vget l78 5, v80, Value.int IntKind.i64 0] s79 (fun x94 l95 s96 => match x94 with | .normal => R (Value.bool true) s96 | .ret => R (vget l95 0) s96 | .exit i97 => (match Nat.beq i97 4 with | true => R (Value.bool true) s96 | false => False))) | .ret => R (vget l78 0) s79 | .exit i98 => (match Nat.beq i98 0 with | true => pLen (vget l78 5) (fun v99 => pLoop (fun l100 K101 s102 => pBin Try.prog 3 BinOp.lss (vget l100 4) (vget l100 3) (fun v103 => pIf v103 (pIndexAddr 3 (vget l100 2) (vget l100 4) (fun v104 => pLoad w0 3 v104 s102 (fun g105 => pVal true 3 (Value.agg (⟨[g105 0, g105 1, g105 2]⟩)) (pIndexArr 96 1 (vget l100 1) (vget l100 4) (fun v106 => pLoad w0 1 v106 s102 (fun g107 => pUn UnOp.not (g107 0) (fun v108 => pIf v108 (pIf (g105 0) (K101 AX.ret [Value.bool false, vget l100 1, vget l100 2, vget l100 3, vget l100 4] s102) (pBin Try.prog 9 BinOp.neq (g105 1) (Value.string ({ data := #[] })) (fun v109 => pIf v109 (K101 AX.ret [Value.bool false, vget l100 1, vget l100 2, vget l100 3, vget l100 4] s102) (pBin Try.prog 3 BinOp.neq (g105 2) (Value.int IntKind.i64 (-1)) (fun v110 => pIf v110 (K101 AX.ret [Value.bool false, vget l100 1, vget l100 2, vget l100 3, vget l100 4] s102) (pBin Try.prog 3 BinOp.add (vget l100 4) (Value.int IntKind.i64 1) (fun v111 => K101 AX.normal [vget l100 0, vget l100 1, vget l100 2, vget l100 3, v111] s102))))))) (pBin Try.prog 3 BinOp.add (vget l100 4) (Value.int IntKind.i64 1) (fun v112 => K101 AX.normal [vget l100 0, vget l100 1, vget l100 2, vget l100 3, v112] s102))))))))) (K101 (AX.exit 4) [vget l100 0, vget l100 1, vget l100 2, vget l100 3, vget l100 4] s102))) [vget l78 0, vget l78 1, vget l78 5, v99, Value.int IntKind.i64 0] s79 (fun x113 l114 s115 => match x113 with | .normal => R (Value.bool true) s115 | .ret => R (vget l114 0) s115 | .exit i116 => (match Nat.beq i116 4 with | true => R (Value.bool true) s115 | false => False))) | false => False)))))))))))))
theorem vc_impl_PagesOk_eq (w0 : World) (a0 : Value) (σ : Vw) (R : Value → Vw → Prop) : vc_impl_PagesOk w0 a0 σ R = den Try.prog w0 kp_impl_PagesOk esc_impl_PagesOk (Try.f25.body.getD .skip) (entry Try.f25.ntmps [a0]) σ (retK Try.prog Try.f25.results.toList R) := by kernel_rfl
theorem ac_impl_PagesOk {w0 : World} {a0 : Value} {σ : Vw} {R : Value → Vw → Prop} (h : vc_impl_PagesOk w0 a0 σ R) : AC Try.prog w0 n_impl_PagesOk [a0] σ R := by
  refine ac_rule (fn := Try.f25) (c := Try.f25.body.getD .skip) kp_impl_PagesOk esc_impl_PagesOk Try.func25 (by kernel_rfl) (by kernel_rfl) ?_
  rw [← vc_impl_PagesOk_eq]
  exact h

/-- spec.DrawDiskWrite -/
def kp_spec_DrawDiskWrite : Nat → Keep
  | 5 => ⟨[5, 7, 8], [(2, 1), (6, 1)], [2, 6], .done, []⟩
  | 7 => ⟨[], [], [], .step 0 (.step 1 (.step 4 (.step 8 (.step 2 (.both (.step 3 (.step 5 (.step 6 (.step 7 (.step 9 (.step 10 (.step 11 (.step 12 (.step 13 (.step 14 (.done))))))))))) (.step 5 (.both (.step 3 (.step 6 (.step 7 (.step 9 (.step 10 (.step 11 (.step 12 (.step 13 (.step 14 (.done)))))))))) (.step 9 (.both (.step 3 (.step 6 (.step 7 (.step 10 (.step 11 (.step 12 (.step 13 (.step 14 (.done))))))))) (.step 10 (.step 3 (.step 6 (.step 7 (.step 11 (.step 12 (.step 13 (.step 14 (.done)))))))))))))))))), [(2, [1]), (3, [1, 2]), (5, [1, 2, 4]), (6, [1, 2, 3, 4, 5]), (7, [1, 2, 3, 4, 5, 6]), (9, [1, 2, 4, 5, 8]), (10, [1, 2, 4, 5, 8, 9]), (11, [1, 2, 3, 4, 5, 6, 7, 8, 9, 10]), (12, [1, 2, 3, 4, 5, 6, 7, 8, 9, 10, 11]), (13, [0, 1, 2, 3, 4, 5, 6, 7, 8, 9, 10, 11, 12]), (14, [0, 1, 2, 3, 4, 5, 6, 7, 8, 9, 10, 11, 12, 13])]⟩
  | 8 => ⟨[], [], [], .step 0 (.step 1 (.step 2 (.step 3 (.step 4 (.step 5 (.step 6 (.step 7 (.done)))))))), [(3, [2]), (4, [2, 3]), (5, [0, 2, 3]), (6, [0, 1, 2, 3, 5]), (7, [0, 1, 2, 3, 4, 5, 6])]⟩
  | _ => ⟨[], [], [], .done, []⟩
def esc_spec_DrawDiskWrite : Nat → Bool
  | 13 => true
  | 23 => true
  | _ => false
def vc_spec_DrawDiskWrite (w0 : World) (a0 : Value) (σ : Vw) (R : Value → Vw → Prop) : Prop :=
  AC Try.prog w0 n_spec_l1Open [a0] σ (fun v0 s1 => AC Try.prog w0 n_spec_l24Any [v0] s1 (fun v2 s3 => pVal true 1 v2 (pNew w0 58 [] s3 (fun n4 s5 => AC Try.prog w0 n_p_spec_l1Rd_pick [v0, Value.int IntKind.i64 9] s5 (fun v6 s7 => pLoop (fun l8 K9 s10 => pBin Try.prog 3 BinOp.gtr (vget l8 2) (Value.int IntKind.i64 0) (fun v11 => pIf v11 (AC Try.prog w0 n_p_spec_l1Rd_pick [vget l8 0, Value.int IntKind.i64 194] s10 (fun v12 s13 => (pVal false 1 v12 (pVal false 1 (Value.int IntKind.i64 (-1)) (pVal false 1 (Value.int IntKind.i64 194) (pNew w0 3 [v12, Value.int IntKind.i64 (-1), Value.int IntKind.i64 194] s13 (fun n14 s15 => AC Try.prog w0 n_p_spec_l1Rd_pick [vget l8 0, Value.int IntKind.i64 3] s15 (fun v16 s17 => pIndexAddr 1 (Value.slice (Option.some (Addr.mk n14 0 Option.none)) 3 3) v16 (fun v18 => pLoad w0 1 v18 s17 (fun g19 => AC Try.prog w0 n_p_spec_l1Rd_pick [vget l8 0, Value.int IntKind.i64 66] s17 (fun v20 s21 => (Stay w0 s17 s21 v18 1) ∧ (AC Try.prog w0 n_spec_l1Many ([Value.string ({ data := #[119] }), v20]) s21 (fun v22 s23 => (Stay w0 s21 s23 v18 1) ∧ (pVal false 1 (g19 0) (pVal false 1 v22 (pVal true 2 (Value.agg (⟨[g19 0, v22]⟩)) ((allOne [g19 0, v22]) ∧ (pAppend w0 58 2 24 (vget l8 1) 1 [g19 0, v22] s23 (fun v24 s25 => pBin Try.prog 3 BinOp.sub (vget l8 2) (Value.int IntKind.i64 1) (fun v26 => K9 AX.normal [vget l8 0, v24, v26, vget l8 3, vget l8 4] s25)))))))))))))))))) ∧ (AC Try.prog w0 n_p_spec_l1Rd_pick [vget l8 0, Value.int IntKind.i64 3] s13 (fun v27 s28 => (pVal false 1 v12 (pVal false 1 (Value.int IntKind.i64 (-1)) (pVal false 1 (Value.int IntKind.i64 194) (pNew w0 3 [v12, Value.int IntKind.i64 (-1), Value.int IntKind.i64 194] s28 (fun n29 s30 => pIndexAddr 1 (Value.slice (Option.some (Addr.mk n29 0 Option.none)) 3 3) v27 (fun v31 => pLoad w0 1 v31 s30 (fun g32 => AC Try.prog w0 n_p_spec_l1Rd_pick [vget l8 0, Value.int IntKind.i64 66] s30 (fun v33 s34 => (Stay w0 s30 s34 v31 1) ∧ (AC Try.prog w0 n_spec_l1Many ([Value.string ({ data := #[119] }), v33]) s34 (fun v35 s36 => (Stay w0 s34 s36 v31 1) ∧ (pVal false 1 (g32 0) (pVal false 1 v35 (pVal true 2 (Value.agg (⟨[g32 0, v35]⟩)) ((allOne [g32 0, v35]) ∧ (pAppend w0 58 2 24 (vget l8 1) 1 [g32 0, v35] s36 (fun v37 s38 => pBin Try.prog 3 BinOp.sub (vget l8 2) (Value.int IntKind.i64 1) (fun v39 => K9 AX.normal [vget l8 0, v37, v39, vget l8 3, vget l8 4] s38))))))))))))))))) ∧ (AC Try.prog w0 n_p_spec_l1Rd_pick [vget l8 0, Value.int IntKind.i64 66] s28 (fun v40 s41 => (pVal false 1 v12 (pVal false 1 (Value.int IntKind.i64 (-1)) (pVal false 1 (Value.int IntKind.i64 194) (pNew w0 3 [v12, Value.int IntKind.i64 (-1), Value.int IntKind.i64 194] s41 (fun n42 s43 => pIndexAddr 1 (Value.slice (Option.some (Addr.mk n42 0 Option.none)) 3 3) v27 (fun v44 => pLoad w0 1 v44 s43 (fun g45 => AC Try.prog w0 n_spec_l1Many ([Value.string ({ data := #[119] }), v40]) s43 (fun v46 s47 => (Stay w0 s43 s47 v44 1) ∧ (pVal false 1 (g45 0) (pVal false 1 v46 (pVal true 2 (Value.agg (⟨[g45 0, v46]⟩)) ((allOne [g45 0, v46]) ∧ (pAppend w0 58 2 24 (vget l8 1) 1 [g45 0, v46] s47 (fun v48 s49 => pBin Try.prog 3 BinOp.sub (vget l8 2) (Value.int IntKind.i64 1) (fun v50 => K9 AX.normal [vget l8 0, v48, v50, vget l8 3, vget l8 4] s49))))))))))))))) ∧ (AC Try.prog w0 n_spec_l1Many ([Value.string ({ data := #[119] }), v40]) s41 (fun v51 s52 => pVal false 1 v12 (pVal false 1 (Value.int IntKind.i64 (-1)) (pVal false 1 (Value.int IntKind.i64 194) (pNew w0 3 [v12, Value.int IntKind.i64 (-1), Value.int IntKind.i64 194] s52 (fun n53 s54 => pIndexAddr 1 (Value.slice (Option.some (Addr.mk n53 0 Option.none)) 3 3) v27 (fun v55 => pLoad w0 1 v55 s54 (fun g56 => pVal false 1 (g56 0) (pVal false 1 v51 (pVal true 2 (Value.agg (⟨[g56 0, v51]⟩)) ((allOne [g56 0, v51]) ∧ (pAppend w0 58 2 24 (vget l8 1) 1 [g56 0, v51] s54 (fun v57 s58 => pBin Try.prog 3 BinOp.sub (vget l8 2) (Value.int IntKind.i64 1) (fun v59 => K9 AX.normal [vget l8 0, v57, v59, vget l8 3, vget l8 4] s58)))))))))))))))))))) (K9 (AX.exit 0) [vget l8 0, vget l8 1, vget l8 2, vget l8 3, vget l8 4] s10))) [v0, Value.slice (Option.some (Addr.mk n4 0 Option.none)) 0 0, v6, Value.slice Option.none 0 0, cellOf v2 0] s7 (fun x60 l61 s62 => match x60 with | .normal => AC Try.prog w0 n_p_spec_l1Rd_pick [vget l61 0, Value.int IntKind.i64 11] s62 (fun v63 s64 => pBin Try.prog 3 BinOp.sub v63 (Value.int IntKind.i64 1) (fun v65 => pVal true 1 (Value.agg (⟨[vget l61 4]⟩)) (R (Value.tuple (⟨[Value.agg (⟨[vget l61 4]⟩), vget l61 1, v65]⟩)) s64))) | .ret => False | .exit i66 => (match Nat.beq i66 0 with | true => AC Try.prog w0 n_p_spec_l1Rd_pick [vget l61 0, Value.int IntKind.i64 11] s62 (fun v67 s68 => pBin Try.prog 3 BinOp.sub v67 (Value.int IntKind.i64 1) (fun v69 => pVal true 1 (Value.agg (⟨[vget l61 4]⟩)) (R (Value.tuple (⟨[Value.agg (⟨[vget l61 4]⟩), vget l61 1, v69]⟩)) s68))) | false => False)))))))
theorem vc_spec_DrawDiskWrite_eq (w0 : World) (a0 : Value) (σ : Vw) (R : Value → Vw → Prop) : vc_spec_DrawDiskWrite w0 a0 σ R = den Try.prog w0 kp_spec_DrawDiskWrite esc_spec_DrawDiskWrite (Try.f26.body.getD .skip) (entry Try.f26.ntmps [a0]) σ (retK Try.prog Try.f26.results.toList R) := by kernel_rfl
theorem ac_spec_DrawDiskWrite {w0 : World} {a0 : Value} {σ : Vw} {R : Value → Vw → Prop} (h : vc_spec_DrawDiskWrite w0 a0 σ R) : AC Try.prog w0 n_spec_DrawDiskWrite [a0] σ R := by
  refine ac_rule (fn := Try.f26) (c := Try.f26.body.getD .skip) kp_spec_DrawDiskWrite esc_spec_DrawDiskWrite Try.func26 (by kernel_rfl) (by kernel_rfl) ?_
  rw [← vc_spec_DrawDiskWrite_eq]
  exact h

/-- impl.DiskWrite -/
def kp_impl_DiskWrite : Nat → Keep
  | 5 => ⟨[22, 23, 24], [(6, 1), (7, 1)], [6, 7], .done, []⟩
  | _ => ⟨[], [], [], .done, []⟩
def esc_impl_DiskWrite : Nat → Bool
  | _ => false
def vc_impl_DiskWrite (w0 : World) (a0 a1 a2 : Value) (σ : Vw) (R : Value → Vw → Prop) : Prop :=
  pVal true 1 a0 (AC Try.prog w0 n_impl_DiskOk ([Value.agg (⟨[cellOf a0 0]⟩)]) σ (fun v0 s1 => pUn UnOp.not v0 (fun v2 => pIf v2 (pVal true 1 (Value.agg (⟨[Value.slice Option.none 0 0]⟩)) (R (Value.agg (⟨[Value.slice Option.none 0 0]⟩)) s1)) (AC Try.prog w0 n_impl_cloneDisk ([Value.agg (⟨[cellOf a0 0]⟩)]) s1 (fun v3 s4 => pVal true 1 v3 (pMax a2 (Value.int IntKind.i64 0) (fun v5 => pLen a1 (fun v6 => pMin v5 v6 (fun v7 => pSlice 2 a1 Option.none (Option.some v7) (fun v8 => pLen v8 (fun v9 => pLoop (fun l10 K11 s12 => pBin Try.prog 3 BinOp.lss (vget l10 2) (vget l10 1) (fun v13 => pIf v13 (pIndexAddr 2 (vget l10 0) (vget l10 2) (fun v14 => pLoad w0 2 v14 s12 (fun g15 => pVal true 2 (Value.agg (⟨[g15 0, g15 1]⟩)) (AC Try.prog w0 n_impl_within [g15 0, Value.int IntKind.i64 0, Value.int IntKind.i64 193] s12 (fun v16 s17 => pIf v16 (pLenS (g15 1) (fun v18 => pBin Try.prog 3 BinOp.leq v18 (Value.int IntKind.i64 64) (fun v19 => pIf v19 (pIndexAddr 1 (vget l10 4) (g15 0) (fun v20 => pVal false 1 (g15 1) (pStore v20 [g15 1] s17 (fun s21 => pBin Try.prog 3 BinOp.add (vget l10 2) (Value.int IntKind.i64 1) (fun v22 => K11 AX.normal [vget l10 0, vget l10 1, v22, vget l10 3, vget l10 4] s21))))) (pBin Try.prog 3 BinOp.add (vget l10 2) (Value.int IntKind.i64 1) (fun v23 => K11 AX.normal [vget l10 0, vget l10 1, v23, vget l10 3, vget l10 4] s17))))) (pBin Try.prog 3 BinOp.add (vget l10 2) (Value.int IntKind.i64 1) (fun v24 => K11 AX.normal [vget l10 0, vget l10 1, v24, vget l10 3, vget l10 4] s17))))))) (K11 (AX.exit 0) [vget l10 0, vget l10 1, vget l10 2, vget l10 3, vget l10 4] s12))) [v8, v9, Value.int IntKind.i64 0, Value.slice Option.none 0 0, cellOf v3 0] s4 (fun x25 l26 s27 => match x25 with | .normal => pVal true 1 (Value.agg (⟨[vget l26 4]⟩)) (R (Value.agg (⟨[vget l26 4]⟩)) s27) | .ret => R (Value.agg (⟨[vget l26 3]⟩)) s27 | .exit i28 => (match Nat.beq i28 0 with | true => pVal true 1 (Value.agg (⟨[vget l26 4]⟩)) (R (Value.agg (⟨[vget l26 4]⟩)) s27) | false => False)))))))))))))
theorem vc_impl_DiskWrite_eq (w0 : World) (a0 a1 a2 : Value) (σ : Vw) (R : Value → Vw → Prop) : vc_impl_DiskWrite w0 a0 a1 a2 σ R = den Try.prog w0 kp_impl_DiskWrite esc_impl_DiskWrite (Try.f27.body.getD .skip) (entry Try.f27.ntmps [a0, a1, a2]) σ (retK Try.prog Try.f27.results.toList R) := by kernel_rfl
theorem ac_impl_DiskWrite {w0 : World} {a0 a1 a2 : Value} {σ : Vw} {R : Value → Vw → Prop} (h : vc_impl_DiskWrite w0 a0 a1 a2 σ R) : AC Try.prog w0 n_impl_DiskWrite [a0, a1, a2] σ R := by
  refine ac_rule (fn := Try.f27) (c := Try.f27.body.getD .skip) kp_impl_DiskWrite esc_impl_DiskWrite Try.func27 (by kernel_rfl) (by kernel_rfl) ?_
  rw [← vc_impl_DiskWrite_eq]
  exact h

/-- laws.wdTexts -/
def kp_laws_wdTexts : Nat → Keep
  | 4 => ⟨[0, 1, 4, 5], [], [], .done, []⟩
  | 6 => ⟨[], [], [], .step 0 (.step 1 (.step 2 (.step 3 (.step 4 (.step 5 (.step 6 (.step 7 (.step 8 (.done))))))))), [(2, [0, 1]), (3, [0, 1, 2]), (6, [4, 5]), (7, [4, 5, 6]), (8, [0, 1, 2, 3, 4, 5, 6, 7])]⟩
  | _ => ⟨[], [], [], .done, []⟩
def esc_laws_wdTexts : Nat → Bool
  | _ => false
def vc_laws_wdTexts (w0 : World) (a0 a1 : Value) (σ : Vw) (R : Value → Vw → Prop) : Prop :=
  pLen a0 (fun v0 => pLen a1 (fun v1 => pBin Try.prog 3 BinOp.neq v0 v1 (fun v2 => pIf v2 (R (Value.bool false) σ) (pLoop (fun l3 K4 s5 => pLen (vget l3 0) (fun v6 => pBin Try.prog 3 BinOp.lss (vget l3 3) v6 (fun v7 => pIf v7 (pIndexAddr 1 (vget l3 0) (vget l3 3) (fun v8 => pLoad w0 1 v8 s5 (fun g9 => pIndexAddr 1 (vget l3 1) (vget l3 3) (fun v10 => pLoad w0 1 v10 s5 (fun g11 => pBin Try.prog 9 BinOp.neq (g9 0) (g11 0) (fun v12 => pIf v12 (K4 AX.ret [vget l3 0, vget l3 1, Value.bool false, vget l3 3] s5) (pBin Try.prog 3 BinOp.add (vget l3 3) (Value.int IntKind.i64 1) (fun v13 => K4 AX.normal [vget l3 0, vget l3 1, vget l3 2, v13] s5)))))))) (K4 (AX.exit 0) [vget l3 0, vget l3 1, vget l3 2, vget l3 3] s5)))) [a0, a1, Value.bool false, Value.int IntKind.i64 0] σ (fun x14 l15 s16 => match x14 with | .normal => R (Value.bool true) s16 | .ret => R (vget l15 2) s16 | .exit i17 => (match Nat.beq i17 0 with | true => R (Value.bool true) s16 | false => False))))))
theorem vc_laws_wdTexts_eq (w0 : World) (a0 a1 : Value) (σ : Vw) (R : Value → Vw → Prop) : vc_laws_wdTexts w0 a0 a1 σ R = den Try.prog w0 kp_laws_wdTexts esc_laws_wdTexts (Try.f28.body.getD .skip) (entry Try.f28.ntmps [a0, a1]) σ (retK Try.prog Try.f28.results.toList R) := by kernel_rfl
theorem ac_laws_wdTexts {w0 : World} {a0 a1 : Value} {σ : Vw} {R : Value → Vw → Prop} (h : vc_laws_wdTexts w0 a0 a1 σ R) : AC Try.prog w0 n_laws_wdTexts [a0, a1] σ R := by
  refine ac_rule (fn := Try.f28) (c := Try.f28.body.getD .skip) kp_laws_wdTexts esc_laws_wdTexts Try.func28 (by kernel_rfl) (by kernel_rfl) ?_
  rw [← vc_laws_wdTexts_eq]
  exact h

/-- spec.DiskWrite -/
def kp_spec_DiskWrite : Nat → Keep
  | 5 => ⟨[1, 2, 8], [(6, 1), (7, 1)], [6, 7], .done, []⟩
  | 8 => ⟨[], [], [], .step 0 (.step 1 (.step 2 (.step 3 (.step 4 (.step 5 (.step 6 (.step 7 (.step 8 (.step 9 (.step 10 (.step 11 (.step 12 (.step 13 (.done)))))))))))))), [(1, [0]), (4, [2, 3]), (5, [2, 3, 4]), (6, [2, 3, 4, 5]), (9, [7, 8]), (10, [7, 8, 9]), (11, [7, 8, 9, 10]), (12, [0, 1, 2, 3, 4, 5, 6, 7, 8, 9, 10, 11]), (13, [0, 1, 2, 3, 4, 5, 6, 7, 8, 9, 10, 11, 12])]⟩
  | _ => ⟨[], [], [], .done, []⟩
def esc_spec_DiskWrite : Nat → Bool
  | _ => false
def vc_spec_DiskWrite (w0 : World) (a0 a1 a2 : Value) (σ : Vw) (R : Value → Vw → Prop) : Prop :=
  pVal true 1 a0 (AC Try.prog w0 n_spec_DiskOk ([Value.agg (⟨[cellOf a0 0]⟩)]) σ (fun v0 s1 => pUn UnOp.not v0 (fun v2 => pIf v2 (pVal true 1 (Value.agg (⟨[Value.slice Option.none 0 0]⟩)) (R (Value.agg (⟨[Value.slice Option.none 0 0]⟩)) s1)) (AC Try.prog w0 n_spec_l21Copy ([Value.agg (⟨[cellOf a0 0]⟩)]) s1 (fun v3 s4 => pVal true 1 v3 (pLoop (fun l5 K6 s7 => pLen (vget l5 0) (fun v8 => pBin Try.prog 3 BinOp.lss (vget l5 2) v8 (fun v9 => pIf v9 (pBin Try.prog 3 BinOp.lss (vget l5 2) (vget l5 1) (fun v10 => pIf v10 (pIndexAddr 2 (vget l5 0) (vget l5 2) (fun v11 => pLoad w0 2 v11 s7 (fun g12 => AC Try.prog w0 n_spec_l21RawOk ([Value.agg (⟨[g12 0, g12 1]⟩)]) s7 (fun v13 s14 => pIf v13 (pIndexAddr 2 (vget l5 0) (vget l5 2) (fun v15 => pField 0 v15 (fun v16 => pLoad w0 1 v16 s14 (fun g17 => pIndexAddr 2 (vget l5 0) (vget l5 2) (fun v18 => pField 1 v18 (fun v19 => pLoad w0 1 v19 s14 (fun g20 => pIndexAddr 1 (vget l5 4) (g17 0) (fun v21 => pVal false 1 (g20 0) (pStore v21 [g20 0] s14 (fun s22 => pBin Try.prog 3 BinOp.add (vget l5 2) (Value.int IntKind.i64 1) (fun v23 => K6 AX.normal [vget l5 0, vget l5 1, v23, vget l5 3, vget l5 4] s22))))))))))) (pBin Try.prog 3 BinOp.add (vget l5 2) (Value.int IntKind.i64 1) (fun v24 => K6 AX.normal [vget l5 0, vget l5 1, v24, vget l5 3, vget l5 4] s14)))))) (K6 (AX.exit 0) [vget l5 0, vget l5 1, vget l5 2, vget l5 3, vget l5 4] s7))) (K6 (AX.exit 0) [vget l5 0, vget l5 1, vget l5 2, vget l5 3, vget l5 4] s7)))) [a1, a2, Value.int IntKind.i64 0, Value.slice Option.none 0 0, cellOf v3 0] s4 (fun x25 l26 s27 => match x25 with | .normal => pVal true 1 (Value.agg (⟨[vget l26 4]⟩)) (R (Value.agg (⟨[vget l26 4]⟩)) s27) | .ret => R (Value.agg (⟨[vget l26 3]⟩)) s27 | .exit i28 => (match Nat.beq i28 0 with | true => pVal true 1 (Value.agg (⟨[vget l26 4]⟩)) (R (Value.agg (⟨[vget l26 4]⟩)) s27) | false => False))))))))
theorem vc_spec_DiskWrite_eq (w0 : World) (a0 a1 a2 : Value) (σ : Vw) (R : Value → Vw → Prop) : vc_spec_DiskWrite w0 a0 a1 a2 σ R = den Try.prog w0 kp_spec_DiskWrite esc_spec_DiskWrite (Try.f29.body.getD .skip) (entry Try.f29.ntmps [a0, a1, a2]) σ (retK Try.prog Try.f29.results.toList R) := by kernel_rfl
theorem ac_spec_DiskWrite {w0 : World} {a0 a1 a2 : Value} {σ : Vw} {R : Value → Vw → Prop} (h : vc_spec_DiskWrite w0 a0 a1 a2 σ R) : AC Try.prog w0 n_spec_DiskWrite [a0, a1, a2] σ R := by
  refine ac_rule (fn := Try.f29) (c := Try.f29.body.getD .skip) kp_spec_DiskWrite esc_spec_DiskWrite Try.func29 (by kernel_rfl) (by kernel_rfl) ?_
  rw [← vc_spec_DiskWrite_eq]
  exact h

/-- spec.DiskOk -/
def kp_spec_DiskOk : Nat → Keep
  | 2 => ⟨[2, 3], [(1, 1)], [1], .done, []⟩
  | _ => ⟨[], [], [], .done, []⟩
def esc_spec_DiskOk : Nat → Bool
  | _ => false
def vc_spec_DiskOk (w0 : World) (a0 : Value) (σ : Vw) (R : Value → Vw → Prop) : Prop :=
  pVal true 1 a0 (pLoop (fun l0 K1 s2 => pLen (vget l0 2) (fun v3 => pBin Try.prog 3 BinOp.lss (vget l0 1) v3 (fun v4 => pIf v4 (pIndexAddr 1 (vget l0 2) (vget l0 1) (fun v5 => pLoad w0 1 v5 s2 (fun g6 => pLenS (g6 0) (fun v7 => pBin Try.prog 3 BinOp.gtr v7 (Value.int IntKind.i64 64) (fun v8 => pIf v8 (K1 AX.ret [Value.bool false, vget l0 1, vget l0 2] s2) (pBin Try.prog 3 BinOp.add (vget l0 1) (Value.int IntKind.i64 1) (fun v9 => K1 AX.normal [vget l0 0, v9, vget l0 2] s2))))))) (K1 (AX.exit 0) [vget l0 0, vget l0 1, vget l0 2] s2)))) [Value.bool false, Value.int IntKind.i64 0, cellOf a0 0] σ (fun x10 l11 s12 => match x10 with | .normal => pLen (vget l11 2) (fun v13 => pBin Try.prog 3 BinOp.eql v13 (Value.int IntKind.i64 194) (fun v14 => R v14 s12)) | .ret => R (vget l11 0) s12 | .exit i15 => (match Nat.beq i15 0 with | true => pLen (vget l11 2) (fun v16 => pBin Try.prog 3 BinOp.eql v16 (Value.int IntKind.i64 194) (fun v17 => R v17 s12)) | false => False)))
theorem vc_spec_DiskOk_eq (w0 : World) (a0 : Value) (σ : Vw) (R : Value → Vw → Prop) : vc_spec_DiskOk w0 a0 σ R = den Try.prog w0 kp_spec_DiskOk esc_spec_DiskOk (Try.f30.body.getD .skip) (entry Try.f30.ntmps [a0]) σ (retK Try.prog Try.f30.results.toList R) := by kernel_rfl
theorem ac_spec_DiskOk {w0 : World} {a0 : Value} {σ : Vw} {R : Value → Vw → Prop} (h : vc_spec_DiskOk w0 a0 σ R) : AC Try.prog w0 n_spec_DiskOk [a0] σ R := by
  refine ac_rule (fn := Try.f30) (c := Try.f30.body.getD .skip) kp_spec_DiskOk esc_spec_DiskOk Try.func30 (by kernel_rfl) (by kernel_rfl) ?_
  rw [← vc_spec_DiskOk_eq]
  exact h

/-- impl.DiskOk -/
def kp_impl_DiskOk : Nat → Keep
  | 2 => ⟨[2, 6, 7, 8], [(1, 1)], [1], .done, []⟩
  | _ => ⟨[], [], [], .done, []⟩
def esc_impl_DiskOk : Nat → Bool
  | _ => false
def vc_impl_DiskOk (w0 : World) (a0 : Value) (σ : Vw) (R : Value → Vw → Prop) : Prop :=
  pVal true 1 a0 (pLen (cellOf a0 0) (fun v0 => pLoop (fun l1 K2 s3 => pBin Try.prog 3 BinOp.lss (vget l1 3) (vget l1 2) (fun v4 => pIf v4 (pIndexAddr 1 (vget l1 1) (vget l1 3) (fun v5 => pLoad w0 1 v5 s3 (fun g6 => pLenS (g6 0) (fun v7 => pBin Try.prog 3 BinOp.gtr v7 (Value.int IntKind.i64 64) (fun v8 => pIf v8 (K2 AX.ret [Value.bool false, vget l1 1, vget l1 2, vget l1 3, vget l1 4] s3) (pBin Try.prog 3 BinOp.add (vget l1 3) (Value.int IntKind.i64 1) (fun v9 => K2 AX.normal [vget l1 0, vget l1 1, vget l1 2, v9, vget l1 4] s3))))))) (K2 (AX.exit 0) [vget l1 0, vget l1 1, vget l1 2, vget l1 3, vget l1 4] s3))) [Value.bool false, cellOf a0 0, v0, Value.int IntKind.i64 0, cellOf a0 0] σ (fun x10 l11 s12 => match x10 with | .normal => pLen (vget l11 4) (fun v13 => pBin Try.prog 3 BinOp.eql v13 (Value.int IntKind.i64 194) (fun v14 => R v14 s12)) | .ret => R (vget l11 0) s12 | .exit i15 => (match Nat.beq i15 0 with | true => pLen (vget l11 4) (fun v16 => pBin Try.prog 3 BinOp.eql v16 (Value.int IntKind.i64 194) (fun v17 => R v17 s12)) | false => False))))
theorem vc_impl_DiskOk_eq (w0 : World) (a0 : Value) (σ : Vw) (R : Value → Vw → Prop) : vc_impl_DiskOk w0 a0 σ R = den Try.prog w0 kp_impl_DiskOk esc_impl_DiskOk (Try.f31.body.getD .skip) (entry Try.f31.ntmps [a0]) σ (retK Try.prog Try.f31.results.toList R) := by kernel_rfl
theorem ac_impl_DiskOk {w0 : World} {a0 : Value} {σ : Vw} {R : Value → Vw → Prop} (h : vc_impl_DiskOk w0 a0 σ R) : AC Try.prog w0 n_impl_DiskOk [a0] σ R := by
  refine ac_rule (fn := Try.f31) (c := Try.f31.body.getD .skip) kp_impl_DiskOk esc_impl_DiskOk Try.func31 (by kernel_rfl) (by kernel_rfl) ?_
  rw [← vc_impl_DiskOk_eq]
  exact h

/-- laws.szPageS -/
def kp_laws_szPageS : Nat → Keep
  | 5 => ⟨[0, 1, 4, 5], [], [], .done, []⟩
  | _ => ⟨[], [], [], .done, []⟩
def esc_laws_szPageS : Nat → Bool
  | _ => false
def vc_laws_szPageS (w0 : World) (a0 a1 : Value) (σ : Vw) (R : Value → Vw → Prop) : Prop :=
  pLen a0 (fun v0 => pBin Try.prog 3 BinOp.sub a1 v0 (fun v1 => pBin Try.prog 3 BinOp.lss v1 (Value.int IntKind.i64 0) (fun v2 => pIf v2 (R (Value.int IntKind.i64 (-1)) σ) (pLoop (fun l3 K4 s5 => pLen (vget l3 0) (fun v6 => pBin Try.prog 3 BinOp.lss (vget l3 3) v6 (fun v7 => pIf v7 (pIndexAddr 3 (vget l3 0) (vget l3 3) (fun v8 => pLoad w0 3 v8 s5 (fun g9 => AC Try.prog w0 n_laws_szPage ([Value.agg (⟨[g9 0, g9 1, g9 2]⟩), vget l3 1]) s5 (fun v10 s11 => pBin Try.prog 3 BinOp.lss v10 (Value.int IntKind.i64 0) (fun v12 => pIf v12 (K4 AX.ret [vget l3 0, v10, Value.int IntKind.i64 (-1), vget l3 3] s11) (pBin Try.prog 3 BinOp.add (vget l3 3) (Value.int IntKind.i64 1) (fun v13 => K4 AX.normal [vget l3 0, v10, vget l3 2, v13] s11))))))) (K4 (AX.exit 0) [vget l3 0, vget l3 1, vget l3 2, vget l3 3] s5)))) [a0, v1, Value.int IntKind.i64 0, Value.int IntKind.i64 0] σ (fun x14 l15 s16 => match x14 with | .normal => R (vget l15 1) s16 | .ret => R (vget l15 2) s16 | .exit i17 => (match Nat.beq i17 0 with | true => R (vget l15 1) s16 | false => False))))))
theorem vc_laws_szPageS_eq (w0 : World) (a0 a1 : Value) (σ : Vw) (R : Value → Vw → Prop) : vc_laws_szPageS w0 a0 a1 σ R = den Try.prog w0 kp_laws_szPageS esc_laws_szPageS (Try.f32.body.getD .skip) (entry Try.f32.ntmps [a0, a1]) σ (retK Try.prog Try.f32.results.toList R) := by kernel_rfl
theorem ac_laws_szPageS {w0 : World} {a0 a1 : Value} {σ : Vw} {R : Value → Vw → Prop} (h : vc_laws_szPageS w0 a0 a1 σ R) : AC Try.prog w0 n_laws_szPageS [a0, a1] σ R := by
  refine ac_rule (fn := Try.f32) (c := Try.f32.body.getD .skip) kp_laws_szPageS esc_laws_szPageS Try.func32 (by kernel_rfl) (by kernel_rfl) ?_
  rw [← vc_laws_szPageS_eq]
  exact h

/-- laws.szPageNameS -/
def kp_laws_szPageNameS : Nat → Keep
  | 5 => ⟨[0, 1, 4, 5], [], [], .done, []⟩
  | _ => ⟨[], [], [], .done, []⟩
def esc_laws_szPageNameS : Nat → Bool
  | _ => false
def vc_laws_szPageNameS (w0 : World) (a0 a1 : Value) (σ : Vw) (R : Value → Vw → Prop) : Prop :=
  pLen a0 (fun v0 => pBin Try.prog 3 BinOp.sub a1 v0 (fun v1 => pBin Try.prog 3 BinOp.lss v1 (Value.int IntKind.i64 0) (fun v2 => pIf v2 (R (Value.int IntKind.i64 (-1)) σ) (pLoop (fun l3 K4 s5 => pLen (vget l3 0) (fun v6 => pBin Try.prog 3 BinOp.lss (vget l3 3) v6 (fun v7 => pIf v7 (pIndexAddr 3 (vget l3 0) (vget l3 3) (fun v8 => pLoad w0 3 v8 s5 (fun g9 => AC Try.prog w0 n_laws_szPageName ([Value.agg (⟨[g9 0, g9 1, g9 2]⟩), vget l3 1]) s5 (fun v10 s11 => pBin Try.prog 3 BinOp.lss v10 (Value.int IntKind.i64 0) (fun v12 => pIf v12 (K4 AX.ret [vget l3 0, v10, Value.int IntKind.i64 (-1), vget l3 3] s11) (pBin Try.prog 3 BinOp.add (vget l3 3) (Value.int IntKind.i64 1) (fun v13 => K4 AX.normal [vget l3 0, v10, vget l3 2, v13] s11))))))) (K4 (AX.exit 0) [vget l3 0, vget l3 1, vget l3 2, vget l3 3] s5)))) [a0, v1, Value.int IntKind.i64 0, Value.int IntKind.i64 0] σ (fun x14 l15 s16 => match x14 with | .normal => R (vget l15 1) s16 | .ret => R (vget l15 2) s16 | .exit i17 => (match Nat.beq i17 0 with | true => R (vget l15 1) s16 | false => False))))))
theorem vc_laws_szPageNameS_eq (w0 : World) (a0 a1 : Value) (σ : Vw) (R : Value → Vw → Prop) : vc_laws_szPageNameS w0 a0 a1 σ R = den Try.prog w0 kp_laws_szPageNameS esc_laws_szPageNameS (Try.f33.body.getD .skip) (entry Try.f33.ntmps [a0, a1]) σ (retK Try.prog Try.f33.results.toList R) := by kernel_rfl
theorem ac_laws_szPageNameS {w0 : World} {a0 a1 : Value} {σ : Vw} {R : Value → Vw → Prop} (h : vc_laws_szPageNameS w0 a0 a1 σ R) : AC Try.prog w0 n_laws_szPageNameS [a0, a1] σ R := by
  refine ac_rule (fn := Try.f33) (c := Try.f33.body.getD .skip) kp_laws_szPageNameS esc_laws_szPageNameS Try.func33 (by kernel_rfl) (by kernel_rfl) ?_
  rw [← vc_laws_szPageNameS_eq]
  exact h

/-- spec.l32At -/
def kp_spec_l32At : Nat → Keep
  | 2 => ⟨[1, 4, 5], [(2, 2)], [2], .done, []⟩
  | _ => ⟨[], [], [], .done, []⟩
def esc_spec_l32At : Nat → Bool
  | _ => false
def vc_spec_l32At (w0 : World) (a0 a1 : Value) (σ : Vw) (R : Value → Vw → Prop) : Prop :=
  pVal true 2 a0 (pLoop (fun l0 K1 s2 => pLen (vget l0 4) (fun v3 => pBin Try.prog 3 BinOp.lss (vget l0 2) v3 (fun v4 => pIf v4 (pIndexAddr 3 (vget l0 4) (vget l0 2) (fun v5 => pField 0 v5 (fun v6 => pLoad w0 1 v6 s2 (fun g7 => pBin Try.prog 9 BinOp.eql (g7 0) (vget l0 0) (fun v8 => pIf v8 (K1 AX.ret [vget l0 0, vget l0 2, vget l0 2, vget l0 3, vget l0 4] s2) (pBin Try.prog 3 BinOp.add (vget l0 2) (Value.int IntKind.i64 1) (fun v9 => K1 AX.normal [vget l0 0, vget l0 1, v9, vget l0 3, vget l0 4] s2))))))) (K1 (AX.exit 0) [vget l0 0, vget l0 1, vget l0 2, vget l0 3, vget l0 4] s2)))) [a1, Value.int IntKind.i64 0, Value.int IntKind.i64 0, cellOf a0 0, cellOf a0 1] σ (fun x10 l11 s12 => match x10 with | .normal => R (Value.int IntKind.i64 (-1)) s12 | .ret => R (vget l11 1) s12 | .exit i13 => (match Nat.beq i13 0 with | true => R (Value.int IntKind.i64 (-1)) s12 | false => False)))
theorem vc_spec_l32At_eq (w0 : World) (a0 a1 : Value) (σ : Vw) (R : Value → Vw → Prop) : vc_spec_l32At w0 a0 a1 σ R = den Try.prog w0 kp_spec_l32At esc_spec_l32At (Try.f34.body.getD .skip) (entry Try.f34.ntmps [a0, a1]) σ (retK Try.prog Try.f34.results.toList R) := by kernel_rfl
theorem ac_spec_l32At {w0 : World} {a0 a1 : Value} {σ : Vw} {R : Value → Vw → Prop} (h : vc_spec_l32At w0 a0 a1 σ R) : AC Try.prog w0 n_spec_l32At [a0, a1] σ R := by
  refine ac_rule (fn := Try.f34) (c := Try.f34.body.getD .skip) kp_spec_l32At esc_spec_l32At Try.func34 (by kernel_rfl) (by kernel_rfl) ?_
  rw [← vc_spec_l32At_eq]
  exact h

/-- spec.l32Text -/
def kp_spec_l32Text : Nat → Keep
  | 1 => ⟨[], [], [], .step 0 (.step 1 (.step 2 (.step 3 (.step 4 (.step 5 (.step 6 (.step 7 (.step 8 (.step 9 (.step 10 (.step 11 (.done)))))))))))), [(2, [1]), (4, [1, 2, 3]), (5, [1, 2, 3, 4]), (6, [0, 1, 2, 3, 4, 5]), (7, [0, 1, 2, 3, 4, 5, 6]), (8, [0, 1, 2, 3, 4, 5, 6, 7]), (9, [0, 1, 2, 3, 4, 5, 6, 7]), (10, [0, 1, 2, 3, 4, 5, 6, 7, 8]), (11, [0, 1, 2, 3, 4, 5, 6, 7, 8, 9, 10])]⟩
  | 4 => ⟨[5, 7, 8], [(2, 2)], [2], .done, []⟩
  | 6 => ⟨[], [], [], .step 0 (.step 1 (.step 2 (.step 3 (.step 4 (.step 5 (.step 6 (.step 7 (.step 8 (.step 9 (.step 10 (.step 11 (.done)))))))))))), [(2, [1]), (5, [3, 4]), (6, [3, 4, 5]), (7, [1, 2, 3, 4, 5, 6]), (8, [1, 2, 3, 4, 5, 6, 7]), (9, [1, 2, 3, 4, 5, 6, 7, 8]), (10, [0, 1, 2, 3, 4, 5, 6, 7, 8, 9]), (11, [0, 1, 2, 3, 4, 5, 6, 7, 8, 9, 10])]⟩
  | _ => ⟨[], [], [], .done, []⟩
def esc_spec_l32Text : Nat → Bool
  | _ => false
def vc_spec_l32Text (w0 : World) (a0 a1 : Value) (σ : Vw) (R : Value → Vw → Prop) : Prop :=
  pVal true 2 a0 (pIndexAddr 3 (cellOf a0 1) a1 (fun v0 => pLoad w0 3 v0 σ (fun g1 => AC Try.prog w0 n_spec_l32Chain ([Value.agg (⟨[cellOf a0 0, cellOf a0 1]⟩), Value.agg (⟨[g1 0, g1 1, g1 2]⟩)]) σ (fun v2 s3 => pExtract v2 0 (fun v4 => pExtract v2 1 (fun v5 => pLoop (fun l6 K7 s8 => pLen (vget l6 0) (fun v9 => pBin Try.prog 3 BinOp.lss (vget l6 2) v9 (fun v10 => pIf v10 (pIndexAddr 1 (vget l6 0) (vget l6 2) (fun v11 => pLoad w0 1 v11 s8 (fun g12 => pIndexAddr 3 (vget l6 3) (g12 0) (fun v13 => pField 1 v13 (fun v14 => pLoad w0 1 v14 s8 (fun g15 => pBin Try.prog 9 BinOp.add (vget l6 1) (g15 0) (fun v16 => pBin Try.prog 3 BinOp.add (vget l6 2) (Value.int IntKind.i64 1) (fun v17 => K7 AX.normal [vget l6 0, v16, v17, vget l6 3, vget l6 4] s8)))))))) (K7 (AX.exit 0) [vget l6 0, vget l6 1, vget l6 2, vget l6 3, vget l6 4] s8)))) ([v4, Value.string ({ data := #[] }), Value.int IntKind.i64 0, cellOf a0 0, cellOf a0 1]) s3 (fun x18 l19 s20 => match x18 with | .normal => R (vget l19 1) s20 | .ret => False | .exit i21 => (match Nat.beq i21 0 with | true => R (vget l19 1) s20 | false => False))))))))
theorem vc_spec_l32Text_eq (w0 : World) (a0 a1 : Value) (σ : Vw) (R : Value → Vw → Prop) : vc_spec_l32Text w0 a0 a1 σ R = den Try.prog w0 kp_spec_l32Text esc_spec_l32Text (Try.f35.body.getD .skip) (entry Try.f35.ntmps [a0, a1]) σ (retK Try.prog Try.f35.results.toList R) := by kernel_rfl
theorem ac_spec_l32Text {w0 : World} {a0 a1 : Value} {σ : Vw} {R : Value → Vw → Prop} (h : vc_spec_l32Text w0 a0 a1 σ R) : AC Try.prog w0 n_spec_l32Text [a0, a1] σ R := by
  refine ac_rule (fn := Try.f35) (c := Try.f35.body.getD .skip) kp_spec_l32Text esc_spec_l32Text Try.func35 (by kernel_rfl) (by kernel_rfl) ?_
  rw [← vc_spec_l32Text_eq]
  exact h

/-- laws.toPageS -/
def kp_laws_toPageS : Nat → Keep
  | 3 => ⟨[0, 3, 4], [], [], .done, []⟩
  | _ => ⟨[], [], [], .done, []⟩
def esc_laws_toPageS : Nat → Bool
  | _ => false
def vc_laws_toPageS (w0 : World) (a0 : Value) (σ : Vw) (R : Value → Vw → Prop) : Prop :=
  pLen a0 (fun v0 => pMake w0 85 3 32 ([Value.bool false, Value.string ({ data := #[] }), Value.int IntKind.i64 0]) v0 v0 σ (fun v1 s2 => pLoop (fun l3 K4 s5 => pLen (vget l3 0) (fun v6 => pBin Try.prog 3 BinOp.lss (vget l3 2) v6 (fun v7 => pIf v7 (pIndexAddr 3 (vget l3 0) (vget l3 2) (fun v8 => pLoad w0 3 v8 s5 (fun g9 => AC Try.prog w0 n_laws_toPage ([Value.agg (⟨[g9 0, g9 1, g9 2]⟩)]) s5 (fun v10 s11 => pIndexAddr 3 (vget l3 1) (vget l3 2) (fun v12 => pVal true 3 v10 (pStore v12 [cellOf v10 0, cellOf v10 1, cellOf v10 2] s11 (fun s13 => pBin Try.prog 3 BinOp.add (vget l3 2) (Value.int IntKind.i64 1) (fun v14 => K4 AX.normal [vget l3 0, vget l3 1, v14] s13)))))))) (K4 (AX.exit 0) [vget l3 0, vget l3 1, vget l3 2] s5)))) [a0, v1, Value.int IntKind.i64 0] s2 (fun x15 l16 s17 => match x15 with | .normal => R (vget l16 1) s17 | .ret => False | .exit i18 => (match Nat.beq i18 0 with | true => R (vget l16 1) s17 | false => False))))
theorem vc_laws_toPageS_eq (w0 : World) (a0 : Value) (σ : Vw) (R : Value → Vw → Prop) : vc_laws_toPageS w0 a0 σ R = den Try.prog w0 kp_laws_toPageS esc_laws_toPageS (Try.f36.body.getD .skip) (entry Try.f36.ntmps [a0]) σ (retK Try.prog Try.f36.results.toList R) := by kernel_rfl
theorem ac_laws_toPageS {w0 : World} {a0 : Value} {σ : Vw} {R : Value → Vw → Prop} (h : vc_laws_toPageS w0 a0 σ R) : AC Try.prog w0 n_laws_toPageS [a0] σ R := by
  refine ac_rule (fn := Try.f36) (c := Try.f36.body.getD .skip) kp_laws_toPageS esc_laws_toPageS Try.func36 (by kernel_rfl) (by kernel_rfl) ?_
  rw [← vc_laws_toPageS_eq]
  exact h

/-- laws.toPageNameS -/
def kp_laws_toPageNameS : Nat → Keep
  | 3 => ⟨[0, 3, 4], [], [], .done, []⟩
  | _ => ⟨[], [], [], .done, []⟩
def esc_laws_toPageNameS : Nat → Bool
  | _ => false
def vc_laws_toPageNameS (w0 : World) (a0 : Value) (σ : Vw) (R : Value → Vw → Prop) : Prop :=
  pLen a0 (fun v0 => pMake w0 44 3 32 ([Value.string ({ data := #[] }), Value.int IntKind.i64 0, Value.int IntKind.i64 0]) v0 v0 σ (fun v1 s2 => pLoop (fun l3 K4 s5 => pLen (vget l3 0) (fun v6 => pBin Try.prog 3 BinOp.lss (vget l3 2) v6 (fun v7 => pIf v7 (pIndexAddr 3 (vget l3 0) (vget l3 2) (fun v8 => pLoad w0 3 v8 s5 (fun g9 => AC Try.prog w0 n_laws_toPageName ([Value.agg (⟨[g9 0, g9 1, g9 2]⟩)]) s5 (fun v10 s11 => pIndexAddr 3 (vget l3 1) (vget l3 2) (fun v12 => pVal true 3 v10 (pStore v12 [cellOf v10 0, cellOf v10 1, cellOf v10 2] s11 (fun s13 => pBin Try.prog 3 BinOp.add (vget l3 2) (Value.int IntKind.i64 1) (fun v14 => K4 AX.normal [vget l3 0, vget l3 1, v14] s13)))))))) (K4 (AX.exit 0) [vget l3 0, vget l3 1, vget l3 2] s5)))) [a0, v1, Value.int IntKind.i64 0] s2 (fun x15 l16 s17 => match x15 with | .normal => R (vget l16 1) s17 | .ret => False | .exit i18 => (match Nat.beq i18 0 with | true => R (vget l16 1) s17 | false => False))))
theorem vc_laws_toPageNameS_eq (w0 : World) (a0 : Value) (σ : Vw) (R : Value → Vw → Prop) : vc_laws_toPageNameS w0 a0 σ R = den Try.prog w0 kp_laws_toPageNameS esc_laws_toPageNameS (Try.f37.body.getD .skip) (entry Try.f37.ntmps [a0]) σ (retK Try.prog Try.f37.results.toList R) := by kernel_rfl
theorem ac_laws_toPageNameS {w0 : World} {a0 : Value} {σ : Vw} {R : Value → Vw → Prop} (h : vc_laws_toPageNameS w0 a0 σ R) : AC Try.prog w0 n_laws_toPageNameS [a0] σ R := by
  refine ac_rule (fn := Try.f37) (c := Try.f37.body.getD .skip) kp_laws_toPageNameS esc_laws_toPageNameS Try.func37 (by kernel_rfl) (by kernel_rfl) ?_
  rw [← vc_laws_toPageNameS_eq]
  exact h

/-- (impl.Pages).get -/
def kp_impl_Pages_get : Nat → Keep
  | 5 => ⟨[], [], [], .step 0 (.step 1 (.step 2 (.step 3 (.step 4 (.step 5 (.step 6 (.step 7 (.step 8 (.step 9 (.step 10 (.step 11 (.done)))))))))))), [(2, [1]), (4, [1, 2, 3]), (5, [1, 2, 3, 4]), (6, [0, 1, 2, 3, 4, 5]), (7, [0, 1, 2, 3, 4, 5, 6]), (8, [0, 1, 2, 3, 4, 5, 6, 7]), (9, [0, 1, 2, 3, 4, 5, 6, 7]), (10, [0, 1, 2, 3, 4, 5, 6, 7, 8]), (11, [0, 1, 2, 3, 4, 5, 6, 7, 8, 9, 10])]⟩
  | 7 => ⟨[7, 27, 28, 29], [(2, 2)], [2], .done, []⟩
  | _ => ⟨[], [], [], .done, []⟩
def esc_impl_Pages_get : Nat → Bool
  | _ => false
def vc_impl_Pages_get (w0 : World) (a0 a1 : Value) (σ : Vw) (R : Value → Vw → Prop) : Prop :=
  pVal true 2 a0 (AC Try.prog w0 n_impl_Pages_find ([Value.agg (⟨[cellOf a0 0, cellOf a0 1]⟩), a1]) σ (fun v0 s1 => pBin Try.prog 3 BinOp.lss v0 (Value.int IntKind.i64 0) (fun v2 => pIf v2 (R (Value.tuple (⟨[Value.string ({ data := #[] }), Value.bool false]⟩)) s1) (pIndexAddr 3 (cellOf a0 1) v0 (fun v3 => pLoad w0 3 v3 s1 (fun g4 => AC Try.prog w0 n_impl_Pages_chain ([Value.agg (⟨[cellOf a0 0, cellOf a0 1]⟩), Value.agg (⟨[g4 0, g4 1, g4 2]⟩)]) s1 (fun v5 s6 => pExtract v5 0 (fun v7 => pExtract v5 1 (fun v8 => pLen v7 (fun v9 => pLoop (fun l10 K11 s12 => pBin Try.prog 3 BinOp.lss (vget l10 3) (vget l10 2) (fun v13 => pIf v13 (pIndexAddr 1 (vget l10 1) (vget l10 3) (fun v14 => pLoad w0 1 v14 s12 (fun g15 => pIndexAddr 3 (vget l10 4) (g15 0) (fun v16 => pField 1 v16 (fun v17 => pLoad w0 1 v17 s12 (fun g18 => pBin Try.prog 9 BinOp.add (vget l10 0) (g18 0) (fun v19 => pBin Try.prog 3 BinOp.add (vget l10 3) (Value.int IntKind.i64 1) (fun v20 => K11 AX.normal [v19, vget l10 1, vget l10 2, v20, vget l10 4, vget l10 5] s12)))))))) (K11 (AX.exit 0) [vget l10 0, vget l10 1, vget l10 2, vget l10 3, vget l10 4, vget l10 5] s12))) ([Value.string ({ data := #[] }), v7, v9, Value.int IntKind.i64 0, cellOf a0 0, cellOf a0 1]) s6 (fun x21 l22 s23 => match x21 with | .normal => R (Value.tuple (⟨[vget l22 0, Value.bool true]⟩)) s23 | .ret => False | .exit i24 => (match Nat.beq i24 0 with | true => R (Value.tuple (⟨[vget l22 0, Value.bool true]⟩)) s23 | false => False))))))))))))
theorem vc_impl_Pages_get_eq (w0 : World) (a0 a1 : Value) (σ : Vw) (R : Value → Vw → Prop) : vc_impl_Pages_get w0 a0 a1 σ R = den Try.prog w0 kp_impl_Pages_get esc_impl_Pages_get (Try.f38.body.getD .skip) (entry Try.f38.ntmps [a0, a1]) σ (retK Try.prog Try.f38.results.toList R) := by kernel_rfl
theorem ac_impl_Pages_get {w0 : World} {a0 a1 : Value} {σ : Vw} {R : Value → Vw → Prop} (h : vc_impl_Pages_get w0 a0 a1 σ R) : AC Try.prog w0 n_impl_Pages_get [a0, a1] σ R := by
  refine ac_rule (fn := Try.f38) (c := Try.f38.body.getD .skip) kp_impl_Pages_get esc_impl_Pages_get Try.func38 (by kernel_rfl) (by kernel_rfl) ?_
  rw [← vc_impl_Pages_get_eq]
  exact h

/-- laws.eqPageS -/
def kp_laws_eqPageS : Nat → Keep
  | 4 => ⟨[0, 1, 4, 5], [], [], .done, []⟩
  | 6 => ⟨[], [], [], .step 0 (.step 1 (.step 2 (.step 3 (.step 4 (.step 5 (.step 6 (.step 7 (.step 8 (.step 9 (.done)))))))))), [(2, [0, 1]), (3, [0, 1, 2]), (6, [4, 5]), (7, [4, 5, 6]), (8, [0, 1, 2, 3, 4, 5, 6, 7]), (9, [0, 1, 2, 3, 4, 5, 6, 7, 8])]⟩
  | _ => ⟨[], [], [], .done, []⟩
def esc_laws_eqPageS : Nat → Bool
  | _ => false
def vc_laws_eqPageS (w0 : World) (a0 a1 : Value) (σ : Vw) (R : Value → Vw → Prop) : Prop :=
  pLen a0 (fun v0 => pLen a1 (fun v1 => pBin Try.prog 3 BinOp.neq v0 v1 (fun v2 => pIf v2 (R (Value.bool false) σ) (pLoop (fun l3 K4 s5 => pLen (vget l3 0) (fun v6 => pBin Try.prog 3 BinOp.lss (vget l3 3) v6 (fun v7 => pIf v7 (pIndexAddr 3 (vget l3 0) (vget l3 3) (fun v8 => pLoad w0 3 v8 s5 (fun g9 => pIndexAddr 3 (vget l3 1) (vget l3 3) (fun v10 => pLoad w0 3 v10 s5 (fun g11 => AC Try.prog w0 n_laws_eqPage ([Value.agg (⟨[g9 0, g9 1, g9 2]⟩), Value.agg (⟨[g11 0, g11 1, g11 2]⟩)]) s5 (fun v12 s13 => pUn UnOp.not v12 (fun v14 => pIf v14 (K4 AX.ret [vget l3 0, vget l3 1, Value.bool false, vget l3 3] s13) (pBin Try.prog 3 BinOp.add (vget l3 3) (Value.int IntKind.i64 1) (fun v15 => K4 AX.normal [vget l3 0, vget l3 1, vget l3 2, v15] s13))))))))) (K4 (AX.exit 0) [vget l3 0, vget l3 1, vget l3 2, vget l3 3] s5)))) [a0, a1, Value.bool false, Value.int IntKind.i64 0] σ (fun x16 l17 s18 => match x16 with | .normal => R (Value.bool true) s18 | .ret => R (vget l17 2) s18 | .exit i19 => (match Nat.beq i19 0 with | true => R (Value.bool true) s18 | false => False))))))
theorem vc_laws_eqPageS_eq (w0 : World) (a0 a1 : Value) (σ : Vw) (R : Value → Vw → Prop) : vc_laws_eqPageS w0 a0 a1 σ R = den Try.prog w0 kp_laws_eqPageS esc_laws_eqPageS (Try.f39.body.getD .skip) (entry Try.f39.ntmps [a0, a1]) σ (retK Try.prog Try.f39.results.toList R) := by kernel_rfl
theorem ac_laws_eqPageS {w0 : World} {a0 a1 : Value} {σ : Vw} {R : Value → Vw → Prop} (h : vc_laws_eqPageS w0 a0 a1 σ R) : AC Try.prog w0 n_laws_eqPageS [a0, a1] σ R := by
  refine ac_rule (fn := Try.f39) (c := Try.f39.body.getD .skip) kp_laws_eqPageS esc_laws_eqPageS Try.func39 (by kernel_rfl) (by kernel_rfl) ?_
  rw [← vc_laws_eqPageS_eq]
  exact h

/-- laws.eqPageNameS -/
def kp_laws_eqPageNameS : Nat → Keep
  | 4 => ⟨[0, 1, 4, 5], [], [], .done, []⟩
  | 6 => ⟨[], [], [], .step 0 (.step 1 (.step 2 (.step 3 (.step 4 (.step 5 (.step 6 (.step 7 (.step 8 (.step 9 (.done)))))))))), [(2, [0, 1]), (3, [0, 1, 2]), (6, [4, 5]), (7, [4, 5, 6]), (8, [0, 1, 2, 3, 4, 5, 6, 7]), (9, [0, 1, 2, 3, 4, 5, 6, 7, 8])]⟩
  | _ => ⟨[], [], [], .done, []⟩
def esc_laws_eqPageNameS : Nat → Bool
  | _ => false
def vc_laws_eqPageNameS (w0 : World) (a0 a1 : Value) (σ : Vw) (R : Value → Vw → Prop) : Prop :=
  pLen a0 (fun v0 => pLen a1 (fun v1 => pBin Try.prog 3 BinOp.neq v0 v1 (fun v2 => pIf v2 (R (Value.bool false) σ) (pLoop (fun l3 K4 s5 => pLen (vget l3 0) (fun v6 => pBin Try.prog 3 BinOp.lss (vget l3 3) v6 (fun v7 => pIf v7 (pIndexAddr 3 (vget l3 0) (vget l3 3) (fun v8 => pLoad w0 3 v8 s5 (fun g9 => pIndexAddr 3 (vget l3 1) (vget l3 3) (fun v10 => pLoad w0 3 v10 s5 (fun g11 => AC Try.prog w0 n_laws_eqPageName ([Value.agg (⟨[g9 0, g9 1, g9 2]⟩), Value.agg (⟨[g11 0, g11 1, g11 2]⟩)]) s5 (fun v12 s13 => pUn UnOp.not v12 (fun v14 => pIf v14 (K4 AX.ret [vget l3 0, vget l3 1, Value.bool false, vget l3 3] s13) (pBin Try.prog 3 BinOp.add (vget l3 3) (Value.int IntKind.i64 1) (fun v15 => K4 AX.normal [vget l3 0, vget l3 1, vget l3 2, v15] s13))))))))) (K4 (AX.exit 0) [vget l3 0, vget l3 1, vget l3 2, vget l3 3] s5)))) [a0, a1, Value.bool false, Value.int IntKind.i64 0] σ (fun x16 l17 s18 => match x16 with | .normal => R (Value.bool true) s18 | .ret => R (vget l17 2) s18 | .exit i19 => (match Nat.beq i19 0 with | true => R (Value.bool true) s18 | false => False))))))
theorem vc_laws_eqPageNameS_eq (w0 : World) (a0 a1 : Value) (σ : Vw) (R : Value → Vw → Prop) : vc_laws_eqPageNameS w0 a0 a1 σ R = den Try.prog w0 kp_laws_eqPageNameS esc_laws_eqPageNameS (Try.f40.body.getD .skip) (entry Try.f40.ntmps [a0, a1]) σ (retK Try.prog Try.f40.results.toList R) := by kernel_rfl
theorem ac_laws_eqPageNameS {w0 : World} {a0 a1 : Value} {σ : Vw} {R : Value → Vw → Prop} (h : vc_laws_eqPageNameS w0 a0 a1 σ R) : AC Try.prog w0 n_laws_eqPageNameS [a0, a1] σ R := by
  refine ac_rule (fn := Try.f40) (c := Try.f40.body.getD .skip) kp_laws_eqPageNameS esc_laws_eqPageNameS Try.func40 (by kernel_rfl) (by kernel_rfl) ?_
  rw [← vc_laws_eqPageNameS_eq]
  exact h

/-- spec.l32Copy -/
def kp_spec_l32Copy : Nat → Keep
  | 1 => ⟨[], [], [], .step 1 (.step 2 (.step 5 (.step 6 (.both (.step 0 (.both (.step 3 (.step 4 (.step 7 (.step 8 (.step 9 (.done)))))) (.step 4 (.step 3 (.step 7 (.step 8 (.step 9 (.done)))))))) (.step 4 (.step 0 (.step 3 (.step 7 (.step 8 (.step 9 (.done))))))))))), [(2, [1]), (3, [0, 1, 2]), (6, [5]), (7, [0, 1, 2, 3, 4, 5, 6]), (8, [0, 1, 2, 3, 4, 5, 6, 7]), (9, [0, 1, 2, 3, 4, 5, 6, 7, 8])]⟩
  | _ => ⟨[], [], [], .done, []⟩
def esc_spec_l32Copy : Nat → Bool
  | 3 => true
  | 7 => true
  | _ => false
def vc_spec_l32Copy (w0 : World) (a0 : Value) (σ : Vw) (R : Value → Vw → Prop) : Prop :=
  pVal true 2 a0 ((pNew w0 85 [] σ (fun n0 s1 => (pAppendS w0 85 3 32 (Value.slice (Option.some (Addr.mk n0 0 Option.none)) 0 0) (cellOf a0 0) s1 (fun v2 s3 => pNew w0 44 [] s3 (fun n4 s5 => pAppendS w0 44 3 32 (Value.slice (Option.some (Addr.mk n4 0 Option.none)) 0 0) (cellOf a0 1) s5 (fun v6 s7 => pVal false 1 v2 (pVal false 1 v6 (pVal true 2 (Value.agg (⟨[v2, v6]⟩)) (R (Value.agg (⟨[v2, v6]⟩)) s7))))))) ∧ (pNew w0 44 [] s1 (fun n8 s9 => pAppendS w0 85 3 32 (Value.slice (Option.some (Addr.mk n0 0 Option.none)) 0 0) (cellOf a0 0) s9 (fun v10 s11 => pAppendS w0 44 3 32 (Value.slice (Option.some (Addr.mk n8 0 Option.none)) 0 0) (cellOf a0 1) s11 (fun v12 s13 => pVal false 1 v10 (pVal false 1 v12 (pVal true 2 (Value.agg (⟨[v10, v12]⟩)) (R (Value.agg (⟨[v10, v12]⟩)) s13))))))))) ∧ (pNew w0 44 [] σ (fun n14 s15 => pNew w0 85 [] s15 (fun n16 s17 => pAppendS w0 85 3 32 (Value.slice (Option.some (Addr.mk n16 0 Option.none)) 0 0) (cellOf a0 0) s17 (fun v18 s19 => pAppendS w0 44 3 32 (Value.slice (Option.some (Addr.mk n14 0 Option.none)) 0 0) (cellOf a0 1) s19 (fun v20 s21 => pVal false 1 v18 (pVal false 1 v20 (pVal true 2 (Value.agg (⟨[v18, v20]⟩)) (R (Value.agg (⟨[v18, v20]⟩)) s21)))))))))
theorem vc_spec_l32Copy_eq (w0 : World) (a0 : Value) (σ : Vw) (R : Value → Vw → Prop) : vc_spec_l32Copy w0 a0 σ R = den Try.prog w0 kp_spec_l32Copy esc_spec_l32Copy (Try.f41.body.getD .skip) (entry Try.f41.ntmps [a0]) σ (retK Try.prog Try.f41.results.toList R) := by kernel_rfl
theorem ac_spec_l32Copy {w0 : World} {a0 : Value} {σ : Vw} {R : Value → Vw → Prop} (h : vc_spec_l32Copy w0 a0 σ R) : AC Try.prog w0 n_spec_l32Copy [a0] σ R := by
  refine ac_rule (fn := Try.f41) (c := Try.f41.body.getD .skip) kp_spec_l32Copy esc_spec_l32Copy Try.func41 (by kernel_rfl) (by kernel_rfl) ?_
  rw [← vc_spec_l32Copy_eq]
  exact h

/-- spec.l32Drop -/
def kp_spec_l32Drop : Nat → Keep
  | 1 => ⟨[], [], [], .step 0 (.step 1 (.step 2 (.step 3 (.step 4 (.step 5 (.step 6 (.step 7 (.step 8 (.step 9 (.step 10 (.step 11 (.done)))))))))))), [(2, [1]), (4, [1, 2, 3]), (5, [1, 2, 3, 4]), (6, [0, 1, 2, 3, 4, 5]), (7, [0, 1, 2, 3, 4, 5, 6]), (8, [0, 1, 2, 3, 4, 5, 6, 7]), (9, [0, 1, 2, 3, 4, 5, 6, 7]), (10, [0, 1, 2, 3, 4, 5, 6, 7, 8]), (11, [0, 1, 2, 3, 4, 5, 6, 7, 8, 9, 10])]⟩
  | 3 => ⟨[1, 5, 7], [(2, 2), (4, 2)], [2, 4], .done, []⟩
  | 5 => ⟨[], [], [], .step 0 (.step 1 (.step 2 (.step 3 (.step 4 (.step 5 (.step 6 (.step 7 (.step 8 (.done))))))))), [(1, [0]), (4, [2, 3]), (5, [2, 3, 4]), (7, [0, 1, 2, 3, 4, 5, 6]), (8, [0, 1, 2, 3, 4, 5, 6, 7])]⟩
  | 6 => ⟨[], [], [], .step 1 (.step 2 (.step 3 (.step 4 (.step 6 (.step 7 (.step 8 (.step 9 (.step 10 (.step 0 (.step 5 (.step 11 (.step 12 (.step 13 (.done)))))))))))))), [(2, [1]), (4, [1, 2, 3]), (5, [0, 1, 2, 3, 4]), (7, [6]), (9, [8]), (10, [6, 7, 8, 9]), (11, [0, 1, 2, 3, 4, 5, 6, 7, 8, 9, 10]), (12, [0, 1, 2, 3, 4, 5, 6, 7, 8, 9, 10, 11]), (13, [0, 1, 2, 3, 4, 5, 6, 7, 8, 9, 10, 11, 12])]⟩
  | _ => ⟨[], [], [], .done, []⟩
def esc_spec_l32Drop : Nat → Bool
  | 32 => true
  | _ => false
def vc_spec_l32Drop (w0 : World) (a0 a1 : Value) (σ : Vw) (R : Value → Vw → Prop) : Prop :=
  pVal true 2 a0 (pIndexAddr 3 (cellOf a0 1) a1 (fun v0 => pLoad w0 3 v0 σ (fun g1 => AC Try.prog w0 n_spec_l32Chain ([Value.agg (⟨[cellOf a0 0, cellOf a0 1]⟩), Value.agg (⟨[g1 0, g1 1, g1 2]⟩)]) σ (fun v2 s3 => pExtract v2 0 (fun v4 => pExtract v2 1 (fun v5 => pLoop (fun l6 K7 s8 => pLen (vget l6 1) (fun v9 => pBin Try.prog 3 BinOp.lss (vget l6 2) v9 (fun v10 => pIf v10 (pIndexAddr 1 (vget l6 1) (vget l6 2) (fun v11 => pLoad w0 1 v11 s8 (fun g12 => pVal false 1 (Value.int IntKind.i64 (-1)) (pIndexAddr 3 (vget l6 3) (g12 0) (fun v13 => pVal true 3 (Value.agg (⟨[Value.bool false, Value.string ({ data := #[] }), Value.int IntKind.i64 (-1)]⟩)) (pStore v13 ([Value.bool false, Value.string ({ data := #[] }), Value.int IntKind.i64 (-1)]) s8 (fun s14 => pBin Try.prog 3 BinOp.add (vget l6 2) (Value.int IntKind.i64 1) (fun v15 => K7 AX.normal [vget l6 0, vget l6 1, v15, vget l6 3, vget l6 4, vget l6 5, vget l6 6] s14)))))))) (K7 (AX.exit 0) [vget l6 0, vget l6 1, vget l6 2, vget l6 3, vget l6 4, vget l6 5, vget l6 6] s8)))) [a1, v4, Value.int IntKind.i64 0, cellOf a0 0, cellOf a0 1, Value.slice Option.none 0 0, Value.slice Option.none 0 0] s3 (fun x16 l17 s18 => match x16 with | .normal => pSlice 3 (vget l17 4) Option.none (Option.some (vget l17 0)) (fun v19 => pBin Try.prog 3 BinOp.add (vget l17 0) (Value.int IntKind.i64 1) (fun v20 => pSlice 3 (vget l17 4) (Option.some v20) Option.none (fun v21 => pNew w0 44 [] s18 (fun n22 s23 => pAppendS w0 44 3 32 (Value.slice (Option.some (Addr.mk n22 0 Option.none)) 0 0) v19 s23 (fun v24 s25 => pAppendS w0 44 3 32 v24 v21 s25 (fun v26 s27 => pVal false 1 v26 (pVal true 2 (Value.agg (⟨[vget l17 3, v26]⟩)) (R (Value.agg (⟨[vget l17 3, v26]⟩)) s27)))))))) | .ret => R (Value.agg (⟨[vget l17 5, vget l17 6]⟩)) s18 | .exit i28 => (match Nat.beq i28 0 with | true => pSlice 3 (vget l17 4) Option.none (Option.some (vget l17 0)) (fun v29 => pBin Try.prog 3 BinOp.add (vget l17 0) (Value.int IntKind.i64 1) (fun v30 => pSlice 3 (vget l17 4) (Option.some v30) Option.none (fun v31 => pNew w0 44 [] s18 (fun n32 s33 => pAppendS w0 44 3 32 (Value.slice (Option.some (Addr.mk n32 0 Option.none)) 0 0) v29 s33 (fun v34 s35 => pAppendS w0 44 3 32 v34 v31 s35 (fun v36 s37 => pVal false 1 v36 (pVal true 2 (Value.agg (⟨[vget l17 3, v36]⟩)) (R (Value.agg (⟨[vget l17 3, v36]⟩)) s37)))))))) | false => False))))))))
theorem vc_spec_l32Drop_eq (w0 : World) (a0 a1 : Value) (σ : Vw) (R : Value → Vw → Prop) : vc_spec_l32Drop w0 a0 a1 σ R = den Try.prog w0 kp_spec_l32Drop esc_spec_l32Drop (Try.f42.body.getD .skip) (entry Try.f42.ntmps [a0, a1]) σ (retK Try.prog Try.f42.results.toList R) := by kernel_rfl
theorem ac_spec_l32Drop {w0 : World} {a0 a1 : Value} {σ : Vw} {R : Value → Vw → Prop} (h : vc_spec_l32Drop w0 a0 a1 σ R) : AC Try.prog w0 n_spec_l32Drop [a0, a1] σ R := by
  refine ac_rule (fn := Try.f42) (c := Try.f42.body.getD .skip) kp_spec_l32Drop esc_spec_l32Drop Try.func42 (by kernel_rfl) (by kernel_rfl) ?_
  rw [← vc_spec_l32Drop_eq]
  exact h

/-- (impl.Pages).find -/
def kp_impl_Pages_find : Nat → Keep
  | _ => ⟨[], [], [], .done, []⟩
def esc_impl_Pages_find : Nat → Bool
  | 3 => true
  | _ => false
def vc_impl_Pages_find (w0 : World) (a0 a1 : Value) (σ : Vw) (R : Value → Vw → Prop) : Prop :=
  pVal true 2 a0 (pVal false 1 a1 (pNew w0 9 [a1] σ (fun n0 s1 => AC Try.prog w0 n_slices_IndexFunc_impl_PageName_impl_PageName ([cellOf a0 1, Value.func (Fn.func 75) ⟨[]⟩ (⟨[Value.pointer (Option.some (Addr.mk n0 0 Option.none))]⟩)]) s1 (fun v2 s3 => R v2 s3))))
theorem vc_impl_Pages_find_eq (w0 : World) (a0 a1 : Value) (σ : Vw) (R : Value → Vw → Prop) : vc_impl_Pages_find w0 a0 a1 σ R = den Try.prog w0 kp_impl_Pages_find esc_impl_Pages_find (Try.f43.body.getD .skip) (entry Try.f43.ntmps [a0, a1]) σ (retK Try.prog Try.f43.results.toList R) := by kernel_rfl
theorem ac_impl_Pages_find {w0 : World} {a0 a1 : Value} {σ : Vw} {R : Value → Vw → Prop} (h : vc_impl_Pages_find w0 a0 a1 σ R) : AC Try.prog w0 n_impl_Pages_find [a0, a1] σ R := by
  refine ac_rule (fn := Try.f43) (c := Try.f43.body.getD .skip) kp_impl_Pages_find esc_impl_Pages_find Try.func43 (by kernel_rfl) (by kernel_rfl) ?_
  rw [← vc_impl_Pages_find_eq]
  exact h

/-- impl.clonePages -/
def kp_impl_clonePages : Nat → Keep
  | 1 => ⟨[], [], [], .step 1 (.step 2 (.step 5 (.step 6 (.both (.step 0 (.both (.step 3 (.step 4 (.step 7 (.step 8 (.step 9 (.done)))))) (.step 4 (.step 3 (.step 7 (.step 8 (.step 9 (.done)))))))) (.step 4 (.step 0 (.step 3 (.step 7 (.step 8 (.step 9 (.done))))))))))), [(2, [1]), (3, [0, 1, 2]), (6, [5]), (7, [0, 1, 2, 3, 4, 5, 6]), (8, [0, 1, 2, 3, 4, 5, 6, 7]), (9, [0, 1, 2, 3, 4, 5, 6, 7, 8])]⟩
  | _ => ⟨[], [], [], .done, []⟩
def esc_impl_clonePages : Nat → Bool
  | 3 => true
  | 7 => true
  | _ => false
def vc_impl_clonePages (w0 : World) (a0 : Value) (σ : Vw) (R : Value → Vw → Prop) : Prop :=
  pVal true 2 a0 ((pNew w0 85 [] σ (fun n0 s1 => (pAppendS w0 85 3 32 (Value.slice (Option.some (Addr.mk n0 0 Option.none)) 0 0) (cellOf a0 0) s1 (fun v2 s3 => pNew w0 44 [] s3 (fun n4 s5 => pAppendS w0 44 3 32 (Value.slice (Option.some (Addr.mk n4 0 Option.none)) 0 0) (cellOf a0 1) s5 (fun v6 s7 => pVal false 1 v2 (pVal false 1 v6 (pVal true 2 (Value.agg (⟨[v2, v6]⟩)) (R (Value.agg (⟨[v2, v6]⟩)) s7))))))) ∧ (pNew w0 44 [] s1 (fun n8 s9 => pAppendS w0 85 3 32 (Value.slice (Option.some (Addr.mk n0 0 Option.none)) 0 0) (cellOf a0 0) s9 (fun v10 s11 => pAppendS w0 44 3 32 (Value.slice (Option.some (Addr.mk n8 0 Option.none)) 0 0) (cellOf a0 1) s11 (fun v12 s13 => pVal false 1 v10 (pVal false 1 v12 (pVal true 2 (Value.agg (⟨[v10, v12]⟩)) (R (Value.agg (⟨[v10, v12]⟩)) s13))))))))) ∧ (pNew w0 44 [] σ (fun n14 s15 => pNew w0 85 [] s15 (fun n16 s17 => pAppendS w0 85 3 32 (Value.slice (Option.some (Addr.mk n16 0 Option.none)) 0 0) (cellOf a0 0) s17 (fun v18 s19 => pAppendS w0 44 3 32 (Value.slice (Option.some (Addr.mk n14 0 Option.none)) 0 0) (cellOf a0 1) s19 (fun v20 s21 => pVal false 1 v18 (pVal false 1 v20 (pVal true 2 (Value.agg (⟨[v18, v20]⟩)) (R (Value.agg (⟨[v18, v20]⟩)) s21)))))))))
theorem vc_impl_clonePages_eq (w0 : World) (a0 : Value) (σ : Vw) (R : Value → Vw → Prop) : vc_impl_clonePages w0 a0 σ R = den Try.prog w0 kp_impl_clonePages esc_impl_clonePages (Try.f44.body.getD .skip) (entry Try.f44.ntmps [a0]) σ (retK Try.prog Try.f44.results.toList R) := by kernel_rfl
theorem ac_impl_clonePages {w0 : World} {a0 : Value} {σ : Vw} {R : Value → Vw → Prop} (h : vc_impl_clonePages w0 a0 σ R) : AC Try.prog w0 n_impl_clonePages [a0] σ R := by
  refine ac_rule (fn := Try.f44) (c := Try.f44.body.getD .skip) kp_impl_clonePages esc_impl_clonePages Try.func44 (by kernel_rfl) (by kernel_rfl) ?_
  rw [← vc_impl_clonePages_eq]
  exact h

/-- (impl.Pages).dropped -/
def kp_impl_Pages_dropped : Nat → Keep
  | 5 => ⟨[], [], [], .step 0 (.step 1 (.step 2 (.step 3 (.step 4 (.step 5 (.step 6 (.step 7 (.step 8 (.step 9 (.step 10 (.step 11 (.done)))))))))))), [(2, [1]), (4, [1, 2, 3]), (5, [1, 2, 3, 4]), (6, [0, 1, 2, 3, 4, 5]), (7, [0, 1, 2, 3, 4, 5, 6]), (8, [0, 1, 2, 3, 4, 5, 6, 7]), (9, [0, 1, 2, 3, 4, 5, 6, 7]), (10, [0, 1, 2, 3, 4, 5, 6, 7, 8]), (11, [0, 1, 2, 3, 4, 5, 6, 7, 8, 9, 10])]⟩
  | 7 => ⟨[6, 29, 30, 31], [(4, 2), (5, 2)], [4, 5], .done, []⟩
  | _ => ⟨[], [], [], .done, []⟩
def esc_impl_Pages_dropped : Nat → Bool
  | 41 => true
  | _ => false
def vc_impl_Pages_dropped (w0 : World) (a0 a1 : Value) (σ : Vw) (R : Value → Vw → Prop) : Prop :=
  pVal true 2 a0 (AC Try.prog w0 n_impl_clonePages ([Value.agg (⟨[cellOf a0 0, cellOf a0 1]⟩)]) σ (fun v0 s1 => pVal true 2 v0 (AC Try.prog w0 n_impl_Pages_find ([Value.agg (⟨[cellOf a0 0, cellOf a0 1]⟩), a1]) s1 (fun v2 s3 => pBin Try.prog 3 BinOp.lss v2 (Value.int IntKind.i64 0) (fun v4 => pIf v4 (pVal true 2 (Value.agg (⟨[cellOf v0 0, cellOf v0 1]⟩)) (R (Value.agg (⟨[cellOf v0 0, cellOf v0 1]⟩)) s3)) (pIndexAddr 3 (cellOf a0 1) v2 (fun v5 => pLoad w0 3 v5 s3 (fun g6 => AC Try.prog w0 n_impl_Pages_chain ([Value.agg (⟨[cellOf a0 0, cellOf a0 1]⟩), Value.agg (⟨[g6 0, g6 1, g6 2]⟩)]) s3 (fun v7 s8 => pExtract v7 0 (fun v9 => pExtract v7 1 (fun v10 => pLen v9 (fun v11 => pLoop (fun l12 K13 s14 => pBin Try.prog 3 BinOp.lss (vget l12 3) (vget l12 2) (fun v15 => pIf v15 (pIndexAddr 1 (vget l12 1) (vget l12 3) (fun v16 => pLoad w0 1 v16 s14 (fun g17 => pVal false 1 (Value.int IntKind.i64 (-1)) (pIndexAddr 3 (vget l12 6) (g17 0) (fun v18 => pVal true 3 (Value.agg (⟨[Value.bool false, Value.string ({ data := #[] }), Value.int IntKind.i64 (-1)]⟩)) (pStore v18 ([Value.bool false, Value.string ({ data := #[] }), Value.int IntKind.i64 (-1)]) s14 (fun s19 => pBin Try.prog 3 BinOp.add (vget l12 3) (Value.int IntKind.i64 1) (fun v20 => K13 AX.normal [vget l12 0, vget l12 1, vget l12 2, v20, vget l12 4, vget l12 5, vget l12 6, vget l12 7] s19)))))))) (K13 (AX.exit 0) [vget l12 0, vget l12 1, vget l12 2, vget l12 3, vget l12 4, vget l12 5, vget l12 6, vget l12 7] s14))) [v2, v9, v11, Value.int IntKind.i64 0, Value.slice Option.none 0 0, Value.slice Option.none 0 0, cellOf v0 0, cellOf v0 1] s8 (fun x21 l22 s23 => match x21 with | .normal => pNew w0 44 [] s23 (fun n24 s25 => pBin Try.prog 3 BinOp.add (vget l22 0) (Value.int IntKind.i64 1) (fun v26 => AC Try.prog w0 n_slices_Delete_impl_PageName_impl_PageName [vget l22 7, vget l22 0, v26] s25 (fun v27 s28 => pAppendS w0 44 3 32 (Value.slice (Option.some (Addr.mk n24 0 Option.none)) 0 0) v27 s28 (fun v29 s30 => pVal false 1 v29 (pVal true 2 (Value.agg (⟨[vget l22 6, v29]⟩)) (R (Value.agg (⟨[vget l22 6, v29]⟩)) s30)))))) | .ret => R (Value.agg (⟨[vget l22 4, vget l22 5]⟩)) s23 | .exit i31 => (match Nat.beq i31 0 with | true => pNew w0 44 [] s23 (fun n32 s33 => pBin Try.prog 3 BinOp.add (vget l22 0) (Value.int IntKind.i64 1) (fun v34 => AC Try.prog w0 n_slices_Delete_impl_PageName_impl_PageName [vget l22 7, vget l22 0, v34] s33 (fun v35 s36 => pAppendS w0 44 3 32 (Value.slice (Option.some (Addr.mk n32 0 Option.none)) 0 0) v35 s36 (fun v37 s38 => pVal false 1 v37 (pVal true 2 (Value.agg (⟨[vget l22 6, v37]⟩)) (R (Value.agg (⟨[vget l22 6, v37]⟩)) s38)))))) | false => False))))))))))))))
theorem vc_impl_Pages_dropped_eq (w0 : World) (a0 a1 : Value) (σ : Vw) (R : Value → Vw → Prop) : vc_impl_Pages_dropped w0 a0 a1 σ R = den Try.prog w0 kp_impl_Pages_dropped esc_impl_Pages_dropped (Try.f45.body.getD .skip) (entry Try.f45.ntmps [a0, a1]) σ (retK Try.prog Try.f45.results.toList R) := by kernel_rfl
theorem ac_impl_Pages_dropped {w0 : World} {a0 a1 : Value} {σ : Vw} {R : Value → Vw → Prop} (h : vc_impl_Pages_dropped w0 a0 a1 σ R) : AC Try.prog w0 n_impl_Pages_dropped [a0, a1] σ R := by
  refine ac_rule (fn := Try.f45) (c := Try.f45.body.getD .skip) kp_impl_Pages_dropped esc_impl_Pages_dropped Try.func45 (by kernel_rfl) (by kernel_rfl) ?_
  rw [← vc_impl_Pages_dropped_eq]
  exact h

/-- laws.markPageS -/
def kp_laws_markPageS : Nat → Keep
  | 2 => ⟨[0, 1, 5], [], [], .done, []⟩
  | _ => ⟨[], [], [], .done, []⟩
def esc_laws_markPageS : Nat → Bool
  | _ => false
def vc_laws_markPageS (w0 : World) (a0 a1 : Value) (σ : Vw) (R : Value → Vw → Prop) : Prop :=
  pLoop (fun l0 K1 s2 => pLen (vget l0 0) (fun v3 => pBin Try.prog 3 BinOp.lss (vget l0 2) v3 (fun v4 => pIf v4 (pBin Try.prog 3 BinOp.rem (vget l0 1) (Value.int IntKind.i64 3) (fun v5 => pBin Try.prog 3 BinOp.eql v5 (Value.int IntKind.i64 0) (fun v6 => pIndexAddr 3 (vget l0 0) (vget l0 2) (fun v7 => pField 0 v7 (fun v8 => pVal false 1 v6 (pStore v8 [v6] s2 (fun s9 => pBin Try.prog 3 BinOp.add (vget l0 1) (Value.int IntKind.i64 1) (fun v10 => AC Try.prog w0 n_laws_markText [v10] s9 (fun v11 s12 => pIndexAddr 3 (vget l0 0) (vget l0 2) (fun v13 => pField 1 v13 (fun v14 => pVal false 1 v11 (pStore v14 [v11] s12 (fun s15 => pBin Try.prog 3 BinOp.add v10 (Value.int IntKind.i64 1) (fun v16 => pIndexAddr 3 (vget l0 0) (vget l0 2) (fun v17 => pField 2 v17 (fun v18 => pVal false 1 v16 (pStore v18 [v16] s15 (fun s19 => pBin Try.prog 3 BinOp.add v16 (Value.int IntKind.i64 1) (fun v20 => pBin Try.prog 3 BinOp.add (vget l0 2) (Value.int IntKind.i64 1) (fun v21 => K1 AX.normal [vget l0 0, v20, v21] s19)))))))))))))))))))) (K1 (AX.exit 0) [vget l0 0, vget l0 1, vget l0 2] s2)))) [a0, a1, Value.int IntKind.i64 0] σ (fun x22 l23 s24 => match x22 with | .normal => R (vget l23 1) s24 | .ret => False | .exit i25 => (match Nat.beq i25 0 with | true => R (vget l23 1) s24 | false => False))
theorem vc_laws_markPageS_eq (w0 : World) (a0 a1 : Value) (σ : Vw) (R : Value → Vw → Prop) : vc_laws_markPageS w0 a0 a1 σ R = den Try.prog w0 kp_laws_markPageS esc_laws_markPageS (Try.f46.body.getD .skip) (entry Try.f46.ntmps [a0, a1]) σ (retK Try.prog Try.f46.results.toList R) := by kernel_rfl
theorem ac_laws_markPageS {w0 : World} {a0 a1 : Value} {σ : Vw} {R : Value → Vw → Prop} (h : vc_laws_markPageS w0 a0 a1 σ R) : AC Try.prog w0 n_laws_markPageS [a0, a1] σ R := by
  refine ac_rule (fn := Try.f46) (c := Try.f46.body.getD .skip) kp_laws_markPageS esc_laws_markPageS Try.func46 (by kernel_rfl) (by kernel_rfl) ?_
  rw [← vc_laws_markPageS_eq]
  exact h

/-- laws.markPageNameS -/
def kp_laws_markPageNameS : Nat → Keep
  | 2 => ⟨[0, 1, 5], [], [], .done, []⟩
  | _ => ⟨[], [], [], .done, []⟩
def esc_laws_markPageNameS : Nat → Bool
  | _ => false
def vc_laws_markPageNameS (w0 : World) (a0 a1 : Value) (σ : Vw) (R : Value → Vw → Prop) : Prop :=
  pLoop (fun l0 K1 s2 => pLen (vget l0 0) (fun v3 => pBin Try.prog 3 BinOp.lss (vget l0 2) v3 (fun v4 => pIf v4 (AC Try.prog w0 n_laws_markText [vget l0 1] s2 (fun v5 s6 => pIndexAddr 3 (vget l0 0) (vget l0 2) (fun v7 => pField 0 v7 (fun v8 => pVal false 1 v5 (pStore v8 [v5] s6 (fun s9 => pBin Try.prog 3 BinOp.add (vget l0 1) (Value.int IntKind.i64 1) (fun v10 => pIndexAddr 3 (vget l0 0) (vget l0 2) (fun v11 => pField 1 v11 (fun v12 => pVal false 1 v10 (pStore v12 [v10] s9 (fun s13 => pBin Try.prog 3 BinOp.add v10 (Value.int IntKind.i64 1) (fun v14 => pIndexAddr 3 (vget l0 0) (vget l0 2) (fun v15 => pField 2 v15 (fun v16 => pVal false 1 v14 (pStore v16 [v14] s13 (fun s17 => pBin Try.prog 3 BinOp.add v14 (Value.int IntKind.i64 1) (fun v18 => pBin Try.prog 3 BinOp.add (vget l0 2) (Value.int IntKind.i64 1) (fun v19 => K1 AX.normal [vget l0 0, v18, v19] s17)))))))))))))))))) (K1 (AX.exit 0) [vget l0 0, vget l0 1, vget l0 2] s2)))) [a0, a1, Value.int IntKind.i64 0] σ (fun x20 l21 s22 => match x20 with | .normal => R (vget l21 1) s22 | .ret => False | .exit i23 => (match Nat.beq i23 0 with | true => R (vget l21 1) s22 | false => False))
theorem vc_laws_markPageNameS_eq (w0 : World) (a0 a1 : Value) (σ : Vw) (R : Value → Vw → Prop) : vc_laws_markPageNameS w0 a0 a1 σ R = den Try.prog w0 kp_laws_markPageNameS esc_laws_markPageNameS (Try.f47.body.getD .skip) (entry Try.f47.ntmps [a0, a1]) σ (retK Try.prog Try.f47.results.toList R) := by kernel_rfl
theorem ac_laws_markPageNameS {w0 : World} {a0 a1 : Value} {σ : Vw} {R : Value → Vw → Prop} (h : vc_laws_markPageNameS w0 a0 a1 σ R) : AC Try.prog w0 n_laws_markPageNameS [a0, a1] σ R := by
  refine ac_rule (fn := Try.f47) (c := Try.f47.body.getD .skip) kp_laws_markPageNameS esc_laws_markPageNameS Try.func47 (by kernel_rfl) (by kernel_rfl) ?_
  rw [← vc_laws_markPageNameS_eq]
  exact h

/-- laws.heldPageS -/
def kp_laws_heldPageS : Nat → Keep
  | 2 => ⟨[0, 1, 4, 5], [], [], .done, []⟩
  | 7 => ⟨[], [], [], .step 0 (.step 1 (.step 2 (.step 3 (.step 4 (.step 5 (.step 6 (.step 7 (.done)))))))), [(2, [0, 1]), (3, [0, 1, 2]), (4, [0, 1, 2, 3]), (6, [5]), (7, [0, 1, 2, 3, 4, 5, 6])]⟩
  | _ => ⟨[], [], [], .done, []⟩
def esc_laws_heldPageS : Nat → Bool
  | _ => false
def vc_laws_heldPageS (w0 : World) (a0 a1 : Value) (σ : Vw) (R : Value → Vw → Prop) : Prop :=
  pLoop (fun l0 K1 s2 => pLen (vget l0 0) (fun v3 => pBin Try.prog 3 BinOp.lss (vget l0 3) v3 (fun v4 => pIf v4 (pIndexAddr 3 (vget l0 0) (vget l0 3) (fun v5 => pField 0 v5 (fun v6 => pLoad w0 1 v6 s2 (fun g7 => pBin Try.prog 3 BinOp.rem (vget l0 1) (Value.int IntKind.i64 3) (fun v8 => pBin Try.prog 3 BinOp.eql v8 (Value.int IntKind.i64 0) (fun v9 => pBin Try.prog 4 BinOp.neq (g7 0) v9 (fun v10 => pIf v10 (K1 AX.ret [vget l0 0, vget l0 1, Value.int IntKind.i64 (-1), vget l0 3] s2) (pBin Try.prog 3 BinOp.add (vget l0 1) (Value.int IntKind.i64 1) (fun v11 => pIndexAddr 3 (vget l0 0) (vget l0 3) (fun v12 => pField 1 v12 (fun v13 => pLoad w0 1 v13 s2 (fun g14 => AC Try.prog w0 n_laws_markText [v11] s2 (fun v15 s16 => (Stay w0 s2 s16 v13 1) ∧ (pBin Try.prog 9 BinOp.neq (g14 0) v15 (fun v17 => pIf v17 (K1 AX.ret [vget l0 0, v11, Value.int IntKind.i64 (-1), vget l0 3] s16) (pBin Try.prog 3 BinOp.add v11 (Value.int IntKind.i64 1) (fun v18 => pIndexAddr 3 (vget l0 0) (vget l0 3) (fun v19 => pField 2 v19 (fun v20 => pLoad w0 1 v20 s16 (fun g21 => pBin Try.prog 3 BinOp.neq (g21 0) v18 (fun v22 => pIf v22 (K1 AX.ret [vget l0 0, v18, Value.int IntKind.i64 (-1), vget l0 3] s16) (pBin Try.prog 3 BinOp.add v18 (Value.int IntKind.i64 1) (fun v23 => pBin Try.prog 3 BinOp.add (vget l0 3) (Value.int IntKind.i64 1) (fun v24 => K1 AX.normal [vget l0 0, v23, vget l0 2, v24] s16)))))))))))))))))))))))) (K1 (AX.exit 0) [vget l0 0, vget l0 1, vget l0 2, vget l0 3] s2)))) [a0, a1, Value.int IntKind.i64 0, Value.int IntKind.i64 0] σ (fun x25 l26 s27 => match x25 with | .normal => R (vget l26 1) s27 | .ret => R (vget l26 2) s27 | .exit i28 => (match Nat.beq i28 0 with | true => R (vget l26 1) s27 | false => False))
theorem vc_laws_heldPageS_eq (w0 : World) (a0 a1 : Value) (σ : Vw) (R : Value → Vw → Prop) : vc_laws_heldPageS w0 a0 a1 σ R = den Try.prog w0 kp_laws_heldPageS esc_laws_heldPageS (Try.f48.body.getD .skip) (entry Try.f48.ntmps [a0, a1]) σ (retK Try.prog Try.f48.results.toList R) := by kernel_rfl
theorem ac_laws_heldPageS {w0 : World} {a0 a1 : Value} {σ : Vw} {R : Value → Vw → Prop} (h : vc_laws_heldPageS w0 a0 a1 σ R) : AC Try.prog w0 n_laws_heldPageS [a0, a1] σ R := by
  refine ac_rule (fn := Try.f48) (c := Try.f48.body.getD .skip) kp_laws_heldPageS esc_laws_heldPageS Try.func48 (by kernel_rfl) (by kernel_rfl) ?_
  rw [← vc_laws_heldPageS_eq]
  exact h

/-- laws.heldPageNameS -/
def kp_laws_heldPageNameS : Nat → Keep
  | 2 => ⟨[0, 1, 4, 5], [], [], .done, []⟩
  | 4 => ⟨[], [], [], .step 0 (.step 1 (.step 2 (.step 3 (.step 4 (.step 5 (.step 6 (.step 7 (.done)))))))), [(2, [0, 1]), (3, [0, 1, 2]), (4, [0, 1, 2, 3]), (6, [5]), (7, [0, 1, 2, 3, 4, 5, 6])]⟩
  | _ => ⟨[], [], [], .done, []⟩
def esc_laws_heldPageNameS : Nat → Bool
  | _ => false
def vc_laws_heldPageNameS (w0 : World) (a0 a1 : Value) (σ : Vw) (R : Value → Vw → Prop) : Prop :=
  pLoop (fun l0 K1 s2 => pLen (vget l0 0) (fun v3 => pBin Try.prog 3 BinOp.lss (vget l0 3) v3 (fun v4 => pIf v4 (pIndexAddr 3 (vget l0 0) (vget l0 3) (fun v5 => pField 0 v5 (fun v6 => pLoad w0 1 v6 s2 (fun g7 => AC Try.prog w0 n_laws_markText [vget l0 1] s2 (fun v8 s9 => (Stay w0 s2 s9 v6 1) ∧ (pBin Try.prog 9 BinOp.neq (g7 0) v8 (fun v10 => pIf v10 (K1 AX.ret [vget l0 0, vget l0 1, Value.int IntKind.i64 (-1), vget l0 3] s9) (pBin Try.prog 3 BinOp.add (vget l0 1) (Value.int IntKind.i64 1) (fun v11 => pIndexAddr 3 (vget l0 0) (vget l0 3) (fun v12 => pField 1 v12 (fun v13 => pLoad w0 1 v13 s9 (fun g14 => pBin Try.prog 3 BinOp.neq (g14 0) v11 (fun v15 => pIf v15 (K1 AX.ret [vget l0 0, v11, Value.int IntKind.i64 (-1), vget l0 3] s9) (pBin Try.prog 3 BinOp.add v11 (Value.int IntKind.i64 1) (fun v16 => pIndexAddr 3 (vget l0 0) (vget l0 3) (fun v17 => pField 2 v17 (fun v18 => pLoad w0 1 v18 s9 (fun g19 => pBin Try.prog 3 BinOp.neq (g19 0) v16 (fun v20 => pIf v20 (K1 AX.ret [vget l0 0, v16, Value.int IntKind.i64 (-1), vget l0 3] s9) (pBin Try.prog 3 BinOp.add v16 (Value.int IntKind.i64 1) (fun v21 => pBin Try.prog 3 BinOp.add (vget l0 3) (Value.int IntKind.i64 1) (fun v22 => K1 AX.normal [vget l0 0, v21, vget l0 2, v22] s9)))))))))))))))))))))) (K1 (AX.exit 0) [vget l0 0, vget l0 1, vget l0 2, vget l0 3] s2)))) [a0, a1, Value.int IntKind.i64 0, Value.int IntKind.i64 0] σ (fun x23 l24 s25 => match x23 with | .normal => R (vget l24 1) s25 | .ret => R (vget l24 2) s25 | .exit i26 => (match Nat.beq i26 0 with | true => R (vget l24 1) s25 | false => False))
theorem vc_laws_heldPageNameS_eq (w0 : World) (a0 a1 : Value) (σ : Vw) (R : Value → Vw → Prop) : vc_laws_heldPageNameS w0 a0 a1 σ R = den Try.prog w0 kp_laws_heldPageNameS esc_laws_heldPageNameS (Try.f49.body.getD .skip) (entry Try.f49.ntmps [a0, a1]) σ (retK Try.prog Try.f49.results.toList R) := by kernel_rfl
theorem ac_laws_heldPageNameS {w0 : World} {a0 a1 : Value} {σ : Vw} {R : Value → Vw → Prop} (h : vc_laws_heldPageNameS w0 a0 a1 σ R) : AC Try.prog w0 n_laws_heldPageNameS [a0, a1] σ R := by
  refine ac_rule (fn := Try.f49) (c := Try.f49.body.getD .skip) kp_laws_heldPageNameS esc_laws_heldPageNameS Try.func49 (by kernel_rfl) (by kernel_rfl) ?_
  rw [← vc_laws_heldPageNameS_eq]
  exact h

/-- spec.l61AnyPages -/
def kp_spec_l61AnyPages : Nat → Keep
  | 7 => ⟨[4], [(2, 2), (3, 2)], [2, 3], .done, []⟩
  | 9 => ⟨[], [], [], .step 0 (.step 1 (.step 2 (.step 3 (.step 4 (.step 5 (.step 6 (.step 7 (.step 8 (.done))))))))), [(2, [1]), (3, [1, 2]), (4, [0, 1, 2, 3]), (5, [0, 1, 2, 3, 4]), (6, [0, 1, 2, 3, 4, 5]), (7, [0, 1, 2, 3, 4, 5]), (8, [0, 1, 2, 3, 4, 5, 6])]⟩
  | 11 => ⟨[], [], [], .step 0 (.step 1 (.step 2 (.step 3 (.step 4 (.step 5 (.step 6 (.done))))))), [(2, [0, 1]), (3, [0, 1, 2]), (4, [0, 1, 2, 3]), (5, [0, 1, 2, 3]), (6, [0, 1, 2, 3, 4])]⟩
  | _ => ⟨[], [], [], .done, []⟩
def esc_spec_l61AnyPages : Nat → Bool
  | _ => false
def vc_spec_l61AnyPages (w0 : World) (a0 : Value) (σ : Vw) (R : Value → Vw → Prop) : Prop :=
  AC Try.prog w0 n_spec_l61Pages [a0] σ (fun v0 s1 => pVal true 2 v0 (AC Try.prog w0 n_p_spec_l1Rd_pick [a0, Value.int IntKind.i64 20] s1 (fun v2 s3 => pBin Try.prog 3 BinOp.eql v2 (Value.int IntKind.i64 0) (fun v4 => pIf v4 (AC Try.prog w0 n_spec_l61Spoil ([a0, Value.agg (⟨[cellOf v0 0, cellOf v0 1]⟩)]) s3 (fun v5 s6 => pVal true 2 v5 (R (Value.agg (⟨[cellOf v5 0, cellOf v5 1]⟩)) s6))) (pBin Try.prog 3 BinOp.eql v2 (Value.int IntKind.i64 1) (fun v7 => pIf v7 (pLoop (fun l8 K9 s10 => pLen (vget l8 4) (fun v11 => pBin Try.prog 3 BinOp.lss v11 (Value.int IntKind.i64 16) (fun v12 => pIf v12 (pBin Try.prog 3 BinOp.lss (vget l8 0) (Value.int IntKind.i64 20) (fun v13 => pIf v13 (AC Try.prog w0 n_spec_l1Dec [vget l8 0] s10 (fun v14 s15 => pBin Try.prog 9 BinOp.add (Value.string ({ data := #[110] })) v14 (fun v16 => AC Try.prog w0 n_spec_PagesPut ([Value.agg (⟨[vget l8 3, vget l8 4]⟩), v16, Value.string ({ data := #[] })]) s15 (fun v17 s18 => pExtract v17 0 (fun v19 => pExtract v17 1 (fun v20 => pVal true 2 v19 (pBin Try.prog 3 BinOp.add (vget l8 0) (Value.int IntKind.i64 1) (fun v21 => K9 AX.normal [v21, vget l8 1, vget l8 2, cellOf v19 0, cellOf v19 1] s18)))))))) (K9 (AX.exit 1) [vget l8 0, vget l8 1, vget l8 2, vget l8 3, vget l8 4] s10))) (K9 (AX.exit 1) [vget l8 0, vget l8 1, vget l8 2, vget l8 3, vget l8 4] s10)))) [Value.int IntKind.i64 0, Value.slice Option.none 0 0, Value.slice Option.none 0 0, cellOf v0 0, cellOf v0 1] s3 (fun x22 l23 s24 => match x22 with | .normal => pVal true 2 (Value.agg (⟨[vget l23 3, vget l23 4]⟩)) (R (Value.agg (⟨[vget l23 3, vget l23 4]⟩)) s24) | .ret => R (Value.agg (⟨[vget l23 1, vget l23 2]⟩)) s24 | .exit i25 => (match Nat.beq i25 1 with | true => pVal true 2 (Value.agg (⟨[vget l23 3, vget l23 4]⟩)) (R (Value.agg (⟨[vget l23 3, vget l23 4]⟩)) s24) | false => (match Nat.beq i25 0 with | true => pVal true 2 (Value.agg (⟨[vget l23 3, vget l23 4]⟩)) (R (Value.agg (⟨[vget l23 3, vget l23 4]⟩)) s24) | false => False)))) (pBin Try.prog 3 BinOp.eql v2 (Value.int IntKind.i64 2) (fun v26 => pIf v26 (AC Try.prog w0 n_spec_l1Many ([Value.string ({ data := #[98] }), Value.int IntKind.i64 3000]) s3 (fun v27 s28 => AC Try.prog w0 n_spec_PagesPut ([Value.agg (⟨[cellOf v0 0, cellOf v0 1]⟩), Value.string ({ data := #[98, 105, 103] }), v27]) s28 (fun v29 s30 => pExtract v29 0 (fun v31 => pExtract v29 1 (fun v32 => pVal true 2 v31 (pVal true 2 (Value.agg (⟨[cellOf v31 0, cellOf v31 1]⟩)) (R (Value.agg (⟨[cellOf v31 0, cellOf v31 1]⟩)) s30))))))) (pVal true 2 (Value.agg (⟨[cellOf v0 0, cellOf v0 1]⟩)) (R (Value.agg (⟨[cellOf v0 0, cellOf v0 1]⟩)) s3))))))))))
theorem vc_spec_l61AnyPages_eq (w0 : World) (a0 : Value) (σ : Vw) (R : Value → Vw → Prop) : vc_spec_l61AnyPages w0 a0 σ R = den Try.prog w0 kp_spec_l61AnyPages esc_spec_l61AnyPages (Try.f50.body.getD .skip) (entry Try.f50.ntmps [a0]) σ (retK Try.prog Try.f50.results.toList R) := by kernel_rfl
theorem ac_spec_l61AnyPages {w0 : World} {a0 : Value} {σ : Vw} {R : Value → Vw → Prop} (h : vc_spec_l61AnyPages w0 a0 σ R) : AC Try.prog w0 n_spec_l61AnyPages [a0] σ R := by
  refine ac_rule (fn := Try.f50) (c := Try.f50.body.getD .skip) kp_spec_l61AnyPages esc_spec_l61AnyPages Try.func50 (by kernel_rfl) (by kernel_rfl) ?_
  rw [← vc_spec_l61AnyPages_eq]
  exact h

/-- spec.l1Open -/
def kp_spec_l1Open : Nat → Keep
  | _ => ⟨[], [], [], .done, []⟩
def esc_spec_l1Open : Nat → Bool
  | 10 => true
  | _ => false
def vc_spec_l1Open (w0 : World) (a0 : Value) (σ : Vw) (R : Value → Vw → Prop) : Prop :=
  pLen a0 (fun v0 => pBin Try.prog 3 BinOp.gtr v0 (Value.int IntKind.i64 2000) (fun v1 => pIf v1 (pSlice 1 a0 Option.none (Option.some (Value.int IntKind.i64 2000)) (fun v2 => pVal false 1 v2 (pVal true 2 (Value.agg (⟨[v2, Value.int IntKind.i64 0]⟩)) (pNew w0 109 [v2, Value.int IntKind.i64 0] σ (fun n3 s4 => R (Value.pointer (Option.some (Addr.mk n3 0 Option.none))) s4))))) (pVal false 1 a0 (pVal true 2 (Value.agg (⟨[a0, Value.int IntKind.i64 0]⟩)) (pNew w0 109 [a0, Value.int IntKind.i64 0] σ (fun n5 s6 => R (Value.pointer (Option.some (Addr.mk n5 0 Option.none))) s6))))))
theorem vc_spec_l1Open_eq (w0 : World) (a0 : Value) (σ : Vw) (R : Value → Vw → Prop) : vc_spec_l1Open w0 a0 σ R = den Try.prog w0 kp_spec_l1Open esc_spec_l1Open (Try.f51.body.getD .skip) (entry Try.f51.ntmps [a0]) σ (retK Try.prog Try.f51.results.toList R) := by kernel_rfl
theorem ac_spec_l1Open {w0 : World} {a0 : Value} {σ : Vw} {R : Value → Vw → Prop} (h : vc_spec_l1Open w0 a0 σ R) : AC Try.prog w0 n_spec_l1Open [a0] σ R := by
  refine ac_rule (fn := Try.f51) (c := Try.f51.body.getD .skip) kp_spec_l1Open esc_spec_l1Open Try.func51 (by kernel_rfl) (by kernel_rfl) ?_
  rw [← vc_spec_l1Open_eq]
  exact h

/-- (impl.Pages).free -/
def kp_impl_Pages_free : Nat → Keep
  | 3 => ⟨[3, 7, 8, 9], [], [], .done, []⟩
  | _ => ⟨[], [], [], .done, []⟩
def esc_impl_Pages_free : Nat → Bool
  | _ => false
def vc_impl_Pages_free (w0 : World) (a0 : Value) (σ : Vw) (R : Value → Vw → Prop) : Prop :=
  pVal true 2 a0 (pLen (cellOf a0 0) (fun v0 => pLoop (fun l1 K2 s3 => pBin Try.prog 3 BinOp.lss (vget l1 3) (vget l1 2) (fun v4 => pIf v4 (pIndexAddr 3 (vget l1 1) (vget l1 3) (fun v5 => pLoad w0 3 v5 s3 (fun g6 => pVal true 3 (Value.agg (⟨[g6 0, g6 1, g6 2]⟩)) (pUn UnOp.not (g6 0) (fun v7 => pIf v7 (pBin Try.prog 3 BinOp.add (vget l1 0) (Value.int IntKind.i64 1) (fun v8 => pBin Try.prog 3 BinOp.add (vget l1 3) (Value.int IntKind.i64 1) (fun v9 => K2 AX.normal [v8, vget l1 1, vget l1 2, v9] s3))) (pBin Try.prog 3 BinOp.add (vget l1 3) (Value.int IntKind.i64 1) (fun v10 => K2 AX.normal [vget l1 0, vget l1 1, vget l1 2, v10] s3))))))) (K2 (AX.exit 0) [vget l1 0, vget l1 1, vget l1 2, vget l1 3] s3))) [Value.int IntKind.i64 0, cellOf a0 0, v0, Value.int IntKind.i64 0] σ (fun x11 l12 s13 => match x11 with | .normal => R (vget l12 0) s13 | .ret => False | .exit i14 => (match Nat.beq i14 0 with | true => R (vget l12 0) s13 | false => False))))
theorem vc_impl_Pages_free_eq (w0 : World) (a0 : Value) (σ : Vw) (R : Value → Vw → Prop) : vc_impl_Pages_free w0 a0 σ R = den Try.prog w0 kp_impl_Pages_free esc_impl_Pages_free (Try.f52.body.getD .skip) (entry Try.f52.ntmps [a0]) σ (retK Try.prog Try.f52.results.toList R) := by kernel_rfl
theorem ac_impl_Pages_free {w0 : World} {a0 : Value} {σ : Vw} {R : Value → Vw → Prop} (h : vc_impl_Pages_free w0 a0 σ R) : AC Try.prog w0 n_impl_Pages_free [a0] σ R := by
  refine ac_rule (fn := Try.f52) (c := Try.f52.body.getD .skip) kp_impl_Pages_free esc_impl_Pages_free Try.func52 (by kernel_rfl) (by kernel_rfl) ?_
  rw [← vc_impl_Pages_free_eq]
  exact h

/-- spec.l32Free -/
def kp_spec_l32Free : Nat → Keep
  | 3 => ⟨[3, 4], [(1, 2)], [1], .done, []⟩
  | _ => ⟨[], [], [], .done, []⟩
def esc_spec_l32Free : Nat → Bool
  | _ => false
def vc_spec_l32Free (w0 : World) (a0 : Value) (σ : Vw) (R : Value → Vw → Prop) : Prop :=
  pVal true 2 a0 (pLoop (fun l0 K1 s2 => pLen (vget l0 2) (fun v3 => pBin Try.prog 3 BinOp.lss (vget l0 1) v3 (fun v4 => pIf v4 (pIndexAddr 3 (vget l0 2) (vget l0 1) (fun v5 => pField 0 v5 (fun v6 => pLoad w0 1 v6 s2 (fun g7 => pUn UnOp.not (g7 0) (fun v8 => pIf v8 (pBin Try.prog 3 BinOp.add (vget l0 0) (Value.int IntKind.i64 1) (fun v9 => pBin Try.prog 3 BinOp.add (vget l0 1) (Value.int IntKind.i64 1) (fun v10 => K1 AX.normal [v9, v10, vget l0 2, vget l0 3] s2))) (pBin Try.prog 3 BinOp.add (vget l0 1) (Value.int IntKind.i64 1) (fun v11 => K1 AX.normal [vget l0 0, v11, vget l0 2, vget l0 3] s2))))))) (K1 (AX.exit 0) [vget l0 0, vget l0 1, vget l0 2, vget l0 3] s2)))) [Value.int IntKind.i64 0, Value.int IntKind.i64 0, cellOf a0 0, cellOf a0 1] σ (fun x12 l13 s14 => match x12 with | .normal => R (vget l13 0) s14 | .ret => False | .exit i15 => (match Nat.beq i15 0 with | true => R (vget l13 0) s14 | false => False)))
theorem vc_spec_l32Free_eq (w0 : World) (a0 : Value) (σ : Vw) (R : Value → Vw → Prop) : vc_spec_l32Free w0 a0 σ R = den Try.prog w0 kp_spec_l32Free esc_spec_l32Free (Try.f53.body.getD .skip) (entry Try.f53.ntmps [a0]) σ (retK Try.prog Try.f53.results.toList R) := by kernel_rfl
theorem ac_spec_l32Free {w0 : World} {a0 : Value} {σ : Vw} {R : Value → Vw → Prop} (h : vc_spec_l32Free w0 a0 σ R) : AC Try.prog w0 n_spec_l32Free [a0] σ R := by
  refine ac_rule (fn := Try.f53) (c := Try.f53.body.getD .skip) kp_spec_l32Free esc_spec_l32Free Try.func53 (by kernel_rfl) (by kernel_rfl) ?_
  rw [← vc_spec_l32Free_eq]
  exact h

/-- spec.l1NameOk -/
def kp_spec_l1NameOk : Nat → Keep
  | 2 => ⟨[0, 2, 3], [], [], .done, []⟩
  | _ => ⟨[], [], [], .done, []⟩
def esc_spec_l1NameOk : Nat → Bool
  | _ => false
def vc_spec_l1NameOk (w0 : World) (a0 : Value) (σ : Vw) (R : Value → Vw → Prop) : Prop :=
  pLoop (fun l0 K1 s2 => pLenS (vget l0 0) (fun v3 => pBin Try.prog 3 BinOp.lss (vget l0 2) v3 (fun v4 => pIf v4 (pIndexStr (vget l0 0) (vget l0 2) (fun v5 => pBin Try.prog 5 BinOp.geq v5 (Value.int IntKind.u8 97) (fun v6 => pIf v6 (pIndexStr (vget l0 0) (vget l0 2) (fun v7 => pBin Try.prog 5 BinOp.leq v7 (Value.int IntKind.u8 122) (fun v8 => pIf v8 (pUn UnOp.not (Value.bool true) (fun v9 => pIf v9 (K1 AX.ret [vget l0 0, Value.bool false, vget l0 2] s2) (pBin Try.prog 3 BinOp.add (vget l0 2) (Value.int IntKind.i64 1) (fun v10 => K1 AX.normal [vget l0 0, vget l0 1, v10] s2)))) (pIndexStr (vget l0 0) (vget l0 2) (fun v11 => pBin Try.prog 5 BinOp.geq v11 (Value.int IntKind.u8 48) (fun v12 => pIf v12 (pIndexStr (vget l0 0) (vget l0 2) (fun v13 => pBin Try.prog 5 BinOp.leq v13 (Value.int IntKind.u8 57) (fun v14 => pUn UnOp.not v14 (fun v15 => pIf v15 (K1 AX.ret [vget l0 0, Value.bool false, vget l0 2] s2) (pBin Try.prog 3 BinOp.add (vget l0 2) (Value.int IntKind.i64 1) (fun v16 => K1 AX.normal [vget l0 0, vget l0 1, v16] s2)))))) (pUn UnOp.not (Value.bool false) (fun v17 => pIf v17 (K1 AX.ret [vget l0 0, Value.bool false, vget l0 2] s2) (pBin Try.prog 3 BinOp.add (vget l0 2) (Value.int IntKind.i64 1) (fun v18 => K1 AX.normal [vget l0 0, vget l0 1, v18] s2)))))))))) (pIndexStr (vget l0 0) (vget l0 2) (fun v19 => pBin Try.prog 5 BinOp.geq v19 (Value.int IntKind.u8 48) (fun v20 => pIf v20 (pIndexStr (vget l0 0) (vget l0 2) (fun v21 => pBin Try.prog 5 BinOp.leq v21 (Value.int IntKind.u8 57) (fun v22 => pUn UnOp.not v22 (fun v23 => pIf v23 (K1 AX.ret [vget l0 0, Value.bool false, vget l0 2] s2) (pBin Try.prog 3 BinOp.add (vget l0 2) (Value.int IntKind.i64 1) (fun v24 => K1 AX.normal [vget l0 0, vget l0 1, v24] s2)))))) (pUn UnOp.not (Value.bool false) (fun v25 => pIf v25 (K1 AX.ret [vget l0 0, Value.bool false, vget l0 2] s2) (pBin Try.prog 3 BinOp.add (vget l0 2) (Value.int IntKind.i64 1) (fun v26 => K1 AX.normal [vget l0 0, vget l0 1, v26] s2)))))))))) (K1 (AX.exit 0) [vget l0 0, vget l0 1, vget l0 2] s2)))) [a0, Value.bool false, Value.int IntKind.i64 0] σ (fun x27 l28 s29 => match x27 with | .normal => pLenS (vget l28 0) (fun v30 => AC Try.prog w0 n_spec_l1In [v30, Value.int IntKind.i64 1, Value.int IntKind.i64 5] s29 (fun v31 s32 => R v31 s32)) | .ret => R (vget l28 1) s29 | .exit i33 => (match Nat.beq i33 0 with | true => pLenS (vget l28 0) (fun v34 => AC Try.prog w0 n_spec_l1In [v34, Value.int IntKind.i64 1, Value.int IntKind.i64 5] s29 (fun v35 s36 => R v35 s36)) | false => False))
theorem vc_spec_l1NameOk_eq (w0 : World) (a0 : Value) (σ : Vw) (R : Value → Vw → Prop) : vc_spec_l1NameOk w0 a0 σ R = den Try.prog w0 kp_spec_l1NameOk esc_spec_l1NameOk (Try.f54.body.getD .skip) (entry Try.f54.ntmps [a0]) σ (retK Try.prog Try.f54.results.toList R) := by kernel_rfl
theorem ac_spec_l1NameOk {w0 : World} {a0 : Value} {σ : Vw} {R : Value → Vw → Prop} (h : vc_spec_l1NameOk w0 a0 σ R) : AC Try.prog w0 n_spec_l1NameOk [a0] σ R := by
  refine ac_rule (fn := Try.f54) (c := Try.f54.body.getD .skip) kp_spec_l1NameOk esc_spec_l1NameOk Try.func54 (by kernel_rfl) (by kernel_rfl) ?_
  rw [← vc_spec_l1NameOk_eq]
  exact h

/-- spec.l1In -/
def kp_spec_l1In : Nat → Keep
  | _ => ⟨[], [], [], .done, []⟩
def esc_spec_l1In : Nat → Bool
  | _ => false
def vc_spec_l1In (w0 : World) (a0 a1 a2 : Value) (σ : Vw) (R : Value → Vw → Prop) : Prop :=
  pBin Try.prog 3 BinOp.geq a0 a1 (fun v0 => pIf v0 (pBin Try.prog 3 BinOp.leq a0 a2 (fun v1 => R v1 σ)) (R (Value.bool false) σ))
theorem vc_spec_l1In_eq (w0 : World) (a0 a1 a2 : Value) (σ : Vw) (R : Value → Vw → Prop) : vc_spec_l1In w0 a0 a1 a2 σ R = den Try.prog w0 kp_spec_l1In esc_spec_l1In (Try.f55.body.getD .skip) (entry Try.f55.ntmps [a0, a1, a2]) σ (retK Try.prog Try.f55.results.toList R) := by kernel_rfl
theorem ac_spec_l1In {w0 : World} {a0 a1 a2 : Value} {σ : Vw} {R : Value → Vw → Prop} (h : vc_spec_l1In w0 a0 a1 a2 σ R) : AC Try.prog w0 n_spec_l1In [a0, a1, a2] σ R := by
  refine ac_rule (fn := Try.f55) (c := Try.f55.body.getD .skip) kp_spec_l1In esc_spec_l1In Try.func55 (by kernel_rfl) (by kernel_rfl) ?_
  rw [← vc_spec_l1In_eq]
  exact h

/-- spec.l32Chain -/
def kp_spec_l32Chain : Nat → Keep
  | 4 => ⟨[4, 5, 6, 7, 8], [(2, 2)], [2], .done, []⟩
  | _ => ⟨[], [], [], .done, []⟩
def esc_spec_l32Chain : Nat → Bool
  | 10 => true
  | _ => false
def vc_spec_l32Chain (w0 : World) (a0 a1 : Value) (σ : Vw) (R : Value → Vw → Prop) : Prop :=
  pVal true 2 a0 (pVal true 3 a1 (pNew w0 3 [] σ (fun n0 s1 => pLoop (fun l2 K3 s4 => pBin Try.prog 3 BinOp.geq (vget l2 3) (Value.int IntKind.i64 0) (fun v5 => pIf v5 (pLen (vget l2 5) (fun v6 => pBin Try.prog 3 BinOp.geq (vget l2 3) v6 (fun v7 => pIf v7 (K3 AX.ret [vget l2 2, Value.bool false, vget l2 2, vget l2 3, vget l2 4, vget l2 5, vget l2 6] s4) (pIndexAddr 3 (vget l2 5) (vget l2 3) (fun v8 => pField 0 v8 (fun v9 => pLoad w0 1 v9 s4 (fun g10 => pUn UnOp.not (g10 0) (fun v11 => pIf v11 (K3 AX.ret [vget l2 2, Value.bool false, vget l2 2, vget l2 3, vget l2 4, vget l2 5, vget l2 6] s4) (pLen (vget l2 2) (fun v12 => pBin Try.prog 3 BinOp.gtr v12 (Value.int IntKind.i64 96) (fun v13 => pIf v13 (K3 AX.ret [vget l2 2, Value.bool false, vget l2 2, vget l2 3, vget l2 4, vget l2 5, vget l2 6] s4) (pBin Try.prog 3 BinOp.gtr (vget l2 4) (Value.int IntKind.i64 40) (fun v14 => pIf v14 (pIndexAddr 3 (vget l2 5) (vget l2 3) (fun v15 => pField 1 v15 (fun v16 => pLoad w0 1 v16 s4 (fun g17 => pLenS (g17 0) (fun v18 => pBin Try.prog 3 BinOp.neq v18 (Value.int IntKind.i64 40) (fun v19 => pIf v19 (K3 AX.ret [vget l2 2, Value.bool false, vget l2 2, vget l2 3, vget l2 4, vget l2 5, vget l2 6] s4) (pBin Try.prog 3 BinOp.eql (Value.int IntKind.i64 40) (Value.int IntKind.i64 0) (fun v20 => pIf v20 (K3 AX.ret [vget l2 2, Value.bool false, vget l2 2, vget l2 3, vget l2 4, vget l2 5, vget l2 6] s4) (pVal false 1 (vget l2 3) ((allOne [vget l2 3]) ∧ (pAppend w0 3 1 8 (vget l2 2) 1 [vget l2 3] s4 (fun v21 s22 => pBin Try.prog 3 BinOp.sub (vget l2 4) (Value.int IntKind.i64 40) (fun v23 => pIndexAddr 3 (vget l2 5) (vget l2 3) (fun v24 => pField 2 v24 (fun v25 => pLoad w0 1 v25 s22 (fun g26 => K3 AX.normal [vget l2 0, vget l2 1, v21, g26 0, v23, vget l2 5, vget l2 6] s22)))))))))))))))) (pIndexAddr 3 (vget l2 5) (vget l2 3) (fun v27 => pField 1 v27 (fun v28 => pLoad w0 1 v28 s4 (fun g29 => pLenS (g29 0) (fun v30 => pBin Try.prog 3 BinOp.neq v30 (vget l2 4) (fun v31 => pIf v31 (K3 AX.ret [vget l2 2, Value.bool false, vget l2 2, vget l2 3, vget l2 4, vget l2 5, vget l2 6] s4) (pBin Try.prog 3 BinOp.eql (vget l2 4) (Value.int IntKind.i64 0) (fun v32 => pIf v32 (K3 AX.ret [vget l2 2, Value.bool false, vget l2 2, vget l2 3, vget l2 4, vget l2 5, vget l2 6] s4) (pVal false 1 (vget l2 3) ((allOne [vget l2 3]) ∧ (pAppend w0 3 1 8 (vget l2 2) 1 [vget l2 3] s4 (fun v33 s34 => pBin Try.prog 3 BinOp.sub (vget l2 4) (vget l2 4) (fun v35 => pIndexAddr 3 (vget l2 5) (vget l2 3) (fun v36 => pField 2 v36 (fun v37 => pLoad w0 1 v37 s34 (fun g38 => K3 AX.normal [vget l2 0, vget l2 1, v33, g38 0, v35, vget l2 5, vget l2 6] s34))))))))))))))))))))))))))))) (K3 (AX.exit 0) [vget l2 0, vget l2 1, vget l2 2, vget l2 3, vget l2 4, vget l2 5, vget l2 6] s4))) [Value.slice Option.none 0 0, Value.bool false, Value.slice (Option.some (Addr.mk n0 0 Option.none)) 0 0, cellOf a1 1, cellOf a1 2, cellOf a0 0, cellOf a0 1] s1 (fun x39 l40 s41 => match x39 with | .normal => pBin Try.prog 3 BinOp.eql (vget l40 4) (Value.int IntKind.i64 0) (fun v42 => R (Value.tuple (⟨[vget l40 2, v42]⟩)) s41) | .ret => R (Value.tuple (⟨[vget l40 0, vget l40 1]⟩)) s41 | .exit i43 => (match Nat.beq i43 0 with | true => pBin Try.prog 3 BinOp.eql (vget l40 4) (Value.int IntKind.i64 0) (fun v44 => R (Value.tuple (⟨[vget l40 2, v44]⟩)) s41) | false => False)))))
theorem vc_spec_l32Chain_eq (w0 : World) (a0 a1 : Value) (σ : Vw) (R : Value → Vw → Prop) : vc_spec_l32Chain w0 a0 a1 σ R = den Try.prog w0 kp_spec_l32Chain esc_spec_l32Chain (Try.f56.body.getD .skip) (entry Try.f56.ntmps [a0, a1]) σ (retK Try.prog Try.f56.results.toList R) := by kernel_rfl
theorem ac_spec_l32Chain {w0 : World} {a0 a1 : Value} {σ : Vw} {R : Value → Vw → Prop} (h : vc_spec_l32Chain w0 a0 a1 σ R) : AC Try.prog w0 n_spec_l32Chain [a0, a1] σ R := by
  refine ac_rule (fn := Try.f56) (c := Try.f56.body.getD .skip) kp_spec_l32Chain esc_spec_l32Chain Try.func56 (by kernel_rfl) (by kernel_rfl) ?_
  rw [← vc_spec_l32Chain_eq]
  exact h

/-- impl.pieces -/
def kp_impl_pieces : Nat → Keep
  | _ => ⟨[], [], [], .done, []⟩
def esc_impl_pieces : Nat → Bool
  | _ => false
def vc_impl_pieces (w0 : World) (a0 a1 : Value) (σ : Vw) (R : Value → Vw → Prop) : Prop :=
  pBin Try.prog 3 BinOp.add a0 a1 (fun v0 => pBin Try.prog 3 BinOp.sub v0 (Value.int IntKind.i64 1) (fun v1 => pBin Try.prog 3 BinOp.quo v1 a1 (fun v2 => R v2 σ)))
theorem vc_impl_pieces_eq (w0 : World) (a0 a1 : Value) (σ : Vw) (R : Value → Vw → Prop) : vc_impl_pieces w0 a0 a1 σ R = den Try.prog w0 kp_impl_pieces esc_impl_pieces (Try.f57.body.getD .skip) (entry Try.f57.ntmps [a0, a1]) σ (retK Try.prog Try.f57.results.toList R) := by kernel_rfl
theorem ac_impl_pieces {w0 : World} {a0 a1 : Value} {σ : Vw} {R : Value → Vw → Prop} (h : vc_impl_pieces w0 a0 a1 σ R) : AC Try.prog w0 n_impl_pieces [a0, a1] σ R := by
  refine ac_rule (fn := Try.f57) (c := Try.f57.body.getD .skip) kp_impl_pieces esc_impl_pieces Try.func57 (by kernel_rfl) (by kernel_rfl) ?_
  rw [← vc_impl_pieces_eq]
  exact h

/-- spec.DrawPagesGet -/
def kp_spec_DrawPagesGet : Nat → Keep
  | _ => ⟨[], [], [], .done, []⟩
def esc_spec_DrawPagesGet : Nat → Bool
  | 10 => true
  | _ => false
def vc_spec_DrawPagesGet (w0 : World) (a0 : Value) (σ : Vw) (R : Value → Vw → Prop) : Prop :=
  AC Try.prog w0 n_spec_l1Open [a0] σ (fun v0 s1 => AC Try.prog w0 n_spec_l61AnyPages [v0] s1 (fun v2 s3 => pVal false 1 (Value.string ({ data := #[97] })) (pVal false 1 (Value.string ({ data := #[98] })) (pVal false 1 (Value.string ({ data := #[99] })) (pVal false 1 (Value.string ({ data := #[101] })) (pVal false 1 (Value.string ({ data := #[122, 122] })) (pNew w0 9 ([Value.string ({ data := #[97] }), Value.string ({ data := #[98] }), Value.string ({ data := #[99] }), Value.string ({ data := #[101] }), Value.string ({ data := #[122, 122] })]) s3 (fun n4 s5 => AC Try.prog w0 n_p_spec_l1Rd_of [v0, Value.slice (Option.some (Addr.mk n4 0 Option.none)) 5 5] s5 (fun v6 s7 => pVal true 2 v2 (R (Value.tuple (⟨[Value.agg (⟨[cellOf v2 0, cellOf v2 1]⟩), v6]⟩)) s7))))))))))
theorem vc_spec_DrawPagesGet_eq (w0 : World) (a0 : Value) (σ : Vw) (R : Value → Vw → Prop) : vc_spec_DrawPagesGet w0 a0 σ R = den Try.prog w0 kp_spec_DrawPagesGet esc_spec_DrawPagesGet (Try.f58.body.getD .skip) (entry Try.f58.ntmps [a0]) σ (retK Try.prog Try.f58.results.toList R) := by kernel_rfl
theorem ac_spec_DrawPagesGet {w0 : World} {a0 : Value} {σ : Vw} {R : Value → Vw → Prop} (h : vc_spec_DrawPagesGet w0 a0 σ R) : AC Try.prog w0 n_spec_DrawPagesGet [a0] σ R := by
  refine ac_rule (fn := Try.f58) (c := Try.f58.body.getD .skip) kp_spec_DrawPagesGet esc_spec_DrawPagesGet Try.func58 (by kernel_rfl) (by kernel_rfl) ?_
  rw [← vc_spec_DrawPagesGet_eq]
  exact h

/-- impl.nameOk -/
def kp_impl_nameOk : Nat → Keep
  | 2 => ⟨[0, 2, 5, 6], [], [], .done, []⟩
  | _ => ⟨[], [], [], .done, []⟩
def esc_impl_nameOk : Nat → Bool
  | _ => false
def vc_impl_nameOk (w0 : World) (a0 : Value) (σ : Vw) (R : Value → Vw → Prop) : Prop :=
  pLenS a0 (fun v0 => pLoop (fun l1 K2 s3 => pBin Try.prog 3 BinOp.lss (vget l1 3) (vget l1 2) (fun v4 => pIf v4 (pIndexStr (vget l1 0) (vget l1 3) (fun v5 => pBin Try.prog 5 BinOp.lss v5 (Value.int IntKind.u8 97) (fun v6 => pIf v6 (pIndexStr (vget l1 0) (vget l1 3) (fun v7 => pBin Try.prog 5 BinOp.lss v7 (Value.int IntKind.u8 48) (fun v8 => pIf v8 (K2 AX.ret [vget l1 0, Value.bool false, vget l1 2, vget l1 3] s3) (pIndexStr (vget l1 0) (vget l1 3) (fun v9 => pBin Try.prog 5 BinOp.gtr v9 (Value.int IntKind.u8 57) (fun v10 => pIf v10 (K2 AX.ret [vget l1 0, Value.bool false, vget l1 2, vget l1 3] s3) (pBin Try.prog 3 BinOp.add (vget l1 3) (Value.int IntKind.i64 1) (fun v11 => K2 AX.normal [vget l1 0, vget l1 1, vget l1 2, v11] s3)))))))) (pIndexStr (vget l1 0) (vget l1 3) (fun v12 => pBin Try.prog 5 BinOp.gtr v12 (Value.int IntKind.u8 122) (fun v13 => pIf v13 (pIndexStr (vget l1 0) (vget l1 3) (fun v14 => pBin Try.prog 5 BinOp.lss v14 (Value.int IntKind.u8 48) (fun v15 => pIf v15 (K2 AX.ret [vget l1 0, Value.bool false, vget l1 2, vget l1 3] s3) (pIndexStr (vget l1 0) (vget l1 3) (fun v16 => pBin Try.prog 5 BinOp.gtr v16 (Value.int IntKind.u8 57) (fun v17 => pIf v17 (K2 AX.ret [vget l1 0, Value.bool false, vget l1 2, vget l1 3] s3) (pBin Try.prog 3 BinOp.add (vget l1 3) (Value.int IntKind.i64 1) (fun v18 => K2 AX.normal [vget l1 0, vget l1 1, vget l1 2, v18] s3)))))))) (pBin Try.prog 3 BinOp.add (vget l1 3) (Value.int IntKind.i64 1) (fun v19 => K2 AX.normal [vget l1 0, vget l1 1, vget l1 2, v19] s3)))))))) (K2 (AX.exit 0) [vget l1 0, vget l1 1, vget l1 2, vget l1 3] s3))) [a0, Value.bool false, v0, Value.int IntKind.i64 0] σ (fun x20 l21 s22 => match x20 with | .normal => pLenS (vget l21 0) (fun v23 => AC Try.prog w0 n_impl_within [v23, Value.int IntKind.i64 1, Value.int IntKind.i64 5] s22 (fun v24 s25 => R v24 s25)) | .ret => R (vget l21 1) s22 | .exit i26 => (match Nat.beq i26 0 with | true => pLenS (vget l21 0) (fun v27 => AC Try.prog w0 n_impl_within [v27, Value.int IntKind.i64 1, Value.int IntKind.i64 5] s22 (fun v28 s29 => R v28 s29)) | false => False)))
theorem vc_impl_nameOk_eq (w0 : World) (a0 : Value) (σ : Vw) (R : Value → Vw → Prop) : vc_impl_nameOk w0 a0 σ R = den Try.prog w0 kp_impl_nameOk esc_impl_nameOk (Try.f59.body.getD .skip) (entry Try.f59.ntmps [a0]) σ (retK Try.prog Try.f59.results.toList R) := by kernel_rfl
theorem ac_impl_nameOk {w0 : World} {a0 : Value} {σ : Vw} {R : Value → Vw → Prop} (h : vc_impl_nameOk w0 a0 σ R) : AC Try.prog w0 n_impl_nameOk [a0] σ R := by
  refine ac_rule (fn := Try.f59) (c := Try.f59.body.getD .skip) kp_impl_nameOk esc_impl_nameOk Try.func59 (by kernel_rfl) (by kernel_rfl) ?_
  rw [← vc_impl_nameOk_eq]
  exact h

/-- impl.within -/
def kp_impl_within : Nat → Keep
  | _ => ⟨[], [], [], .done, []⟩
def esc_impl_within : Nat → Bool
  | _ => false
def vc_impl_within (w0 : World) (a0 a1 a2 : Value) (σ : Vw) (R : Value → Vw → Prop) : Prop :=
  pBin Try.prog 3 BinOp.geq a0 a1 (fun v0 => pIf v0 (pBin Try.prog 3 BinOp.leq a0 a2 (fun v1 => R v1 σ)) (R (Value.bool false) σ))
theorem vc_impl_within_eq (w0 : World) (a0 a1 a2 : Value) (σ : Vw) (R : Value → Vw → Prop) : vc_impl_within w0 a0 a1 a2 σ R = den Try.prog w0 kp_impl_within esc_impl_within (Try.f60.body.getD .skip) (entry Try.f60.ntmps [a0, a1, a2]) σ (retK Try.prog Try.f60.results.toList R) := by kernel_rfl
theorem ac_impl_within {w0 : World} {a0 a1 a2 : Value} {σ : Vw} {R : Value → Vw → Prop} (h : vc_impl_within w0 a0 a1 a2 σ R) : AC Try.prog w0 n_impl_within [a0, a1, a2] σ R := by
  refine ac_rule (fn := Try.f60) (c := Try.f60.body.getD .skip) kp_impl_within esc_impl_within Try.func60 (by kernel_rfl) (by kernel_rfl) ?_
  rw [← vc_impl_within_eq]
  exact h

/-- (impl.Pages).chain -/
def kp_impl_Pages_chain : Nat → Keep
  | 4 => ⟨[4, 5, 6, 7, 15, 16], [(2, 2), (3, 3)], [2, 3], .done, []⟩
  | _ => ⟨[], [], [], .done, []⟩
def esc_impl_Pages_chain : Nat → Bool
  | 10 => true
  | _ => false
def vc_impl_Pages_chain (w0 : World) (a0 a1 : Value) (σ : Vw) (R : Value → Vw → Prop) : Prop :=
  pVal true 2 a0 (pVal true 3 a1 (pNew w0 3 [] σ (fun n0 s1 => AC Try.prog w0 n_impl_pieces [cellOf a1 2, Value.int IntKind.i64 40] s1 (fun v2 s3 => pLoop (fun l4 K5 s6 => pBin Try.prog 3 BinOp.lss (vget l4 5) (vget l4 4) (fun v7 => pIf v7 (pBin Try.prog 3 BinOp.mul (vget l4 5) (Value.int IntKind.i64 40) (fun v8 => pBin Try.prog 3 BinOp.sub (vget l4 10) v8 (fun v9 => pMin (Value.int IntKind.i64 40) v9 (fun v10 => AC Try.prog w0 n_impl_within [vget l4 3, Value.int IntKind.i64 0, Value.int IntKind.i64 95] s6 (fun v11 s12 => pUn UnOp.not v11 (fun v13 => pIf v13 (K5 AX.ret [Value.slice Option.none 0 0, Value.bool false, vget l4 2, vget l4 3, vget l4 4, vget l4 5, vget l4 6, vget l4 7, vget l4 8, vget l4 9, vget l4 10] s12) (AC Try.prog w0 n_slices_Contains_int_int [vget l4 2, vget l4 3] s12 (fun v14 s15 => pIf v14 (K5 AX.ret [Value.slice Option.none 0 0, Value.bool false, vget l4 2, vget l4 3, vget l4 4, vget l4 5, vget l4 6, vget l4 7, vget l4 8, vget l4 9, vget l4 10] s15) (pIndexAddr 3 (vget l4 6) (vget l4 3) (fun v16 => pField 0 v16 (fun v17 => pLoad w0 1 v17 s15 (fun g18 => pUn UnOp.not (g18 0) (fun v19 => pIf v19 (K5 AX.ret [Value.slice Option.none 0 0, Value.bool false, vget l4 2, vget l4 3, vget l4 4, vget l4 5, vget l4 6, vget l4 7, vget l4 8, vget l4 9, vget l4 10] s15) (pIndexAddr 3 (vget l4 6) (vget l4 3) (fun v20 => pField 1 v20 (fun v21 => pLoad w0 1 v21 s15 (fun g22 => pLenS (g22 0) (fun v23 => pBin Try.prog 3 BinOp.neq v23 v10 (fun v24 => pIf v24 (K5 AX.ret [Value.slice Option.none 0 0, Value.bool false, vget l4 2, vget l4 3, vget l4 4, vget l4 5, vget l4 6, vget l4 7, vget l4 8, vget l4 9, vget l4 10] s15) (pVal false 1 (vget l4 3) ((allOne [vget l4 3]) ∧ (pAppend w0 3 1 8 (vget l4 2) 1 [vget l4 3] s15 (fun v25 s26 => pIndexAddr 3 (vget l4 6) (vget l4 3) (fun v27 => pField 2 v27 (fun v28 => pLoad w0 1 v28 s26 (fun g29 => pBin Try.prog 3 BinOp.add (vget l4 5) (Value.int IntKind.i64 1) (fun v30 => K5 AX.normal [vget l4 0, vget l4 1, v25, g29 0, vget l4 4, v30, vget l4 6, vget l4 7, vget l4 8, vget l4 9, vget l4 10] s26))))))))))))))))))))))))))) (K5 (AX.exit 0) [vget l4 0, vget l4 1, vget l4 2, vget l4 3, vget l4 4, vget l4 5, vget l4 6, vget l4 7, vget l4 8, vget l4 9, vget l4 10] s6))) [Value.slice Option.none 0 0, Value.bool false, Value.slice (Option.some (Addr.mk n0 0 Option.none)) 0 0, cellOf a1 1, v2, Value.int IntKind.i64 0, cellOf a0 0, cellOf a0 1, cellOf a1 0, cellOf a1 1, cellOf a1 2] s3 (fun x31 l32 s33 => match x31 with | .normal => pBin Try.prog 3 BinOp.eql (vget l32 3) (Value.int IntKind.i64 (-1)) (fun v34 => R (Value.tuple (⟨[vget l32 2, v34]⟩)) s33) | .ret => R (Value.tuple (⟨[vget l32 0, vget l32 1]⟩)) s33 | .exit i35 => (match Nat.beq i35 0 with | true => pBin Try.prog 3 BinOp.eql (vget l32 3) (Value.int IntKind.i64 (-1)) (fun v36 => R (Value.tuple (⟨[vget l32 2, v36]⟩)) s33) | false => False))))))
theorem vc_impl_Pages_chain_eq (w0 : World) (a0 a1 : Value) (σ : Vw) (R : Value → Vw → Prop) : vc_impl_Pages_chain w0 a0 a1 σ R = den Try.prog w0 kp_impl_Pages_chain esc_impl_Pages_chain (Try.f61.body.getD .skip) (entry Try.f61.ntmps [a0, a1]) σ (retK Try.prog Try.f61.results.toList R) := by kernel_rfl
theorem ac_impl_Pages_chain {w0 : World} {a0 a1 : Value} {σ : Vw} {R : Value → Vw → Prop} (h : vc_impl_Pages_chain w0 a0 a1 σ R) : AC Try.prog w0 n_impl_Pages_chain [a0, a1] σ R := by
  refine ac_rule (fn := Try.f61) (c := Try.f61.body.getD .skip) kp_impl_Pages_chain esc_impl_Pages_chain Try.func61 (by kernel_rfl) (by kernel_rfl) ?_
  rw [← vc_impl_Pages_chain_eq]
  exact h

/-- spec.l24Any -/
def kp_spec_l24Any : Nat → Keep
  | _ => ⟨[], [], [], .done, []⟩
def esc_spec_l24Any : Nat → Bool
  | _ => false
def vc_spec_l24Any (w0 : World) (a0 : Value) (σ : Vw) (R : Value → Vw → Prop) : Prop :=
  AC Try.prog w0 n_spec_l24Disk [a0] σ (fun v0 s1 => pVal true 1 v0 (AC Try.prog w0 n_p_spec_l1Rd_pick [a0, Value.int IntKind.i64 6] s1 (fun v2 s3 => pBin Try.prog 3 BinOp.eql v2 (Value.int IntKind.i64 0) (fun v4 => pIf v4 (AC Try.prog w0 n_spec_l24Spoil ([a0, Value.agg (⟨[cellOf v0 0]⟩)]) s3 (fun v5 s6 => pVal true 1 v5 (R (Value.agg (⟨[cellOf v5 0]⟩)) s6))) (pVal true 1 (Value.agg (⟨[cellOf v0 0]⟩)) (R (Value.agg (⟨[cellOf v0 0]⟩)) s3))))))
theorem vc_spec_l24Any_eq (w0 : World) (a0 : Value) (σ : Vw) (R : Value → Vw → Prop) : vc_spec_l24Any w0 a0 σ R = den Try.prog w0 kp_spec_l24Any esc_spec_l24Any (Try.f62.body.getD .skip) (entry Try.f62.ntmps [a0]) σ (retK Try.prog Try.f62.results.toList R) := by kernel_rfl
theorem ac_spec_l24Any {w0 : World} {a0 : Value} {σ : Vw} {R : Value → Vw → Prop} (h : vc_spec_l24Any w0 a0 σ R) : AC Try.prog w0 n_spec_l24Any [a0] σ R := by
  refine ac_rule (fn := Try.f62) (c := Try.f62.body.getD .skip) kp_spec_l24Any esc_spec_l24Any Try.func62 (by kernel_rfl) (by kernel_rfl) ?_
  rw [← vc_spec_l24Any_eq]
  exact h

end Go.Proofs.Ytkndffhcncmbjaa
