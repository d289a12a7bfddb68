/- The law FnExactTrailOf holds: it returns true, and the input reads as it did. No condition. This is part 2 of 6 of its proof. -/
import Derived.Test.YtkblkdnnncklgaaXFnExactTrailOf1
import Derived.IntWalk
import Derived.ChangeArms
import Derived.Test.YtkblkdnnncklgaaProg

/- The plain side, part 1: the operations at known values; loops; what is read in a slice. -/
set_option linter.unusedVariables false
set_option linter.unusedSimpArgs false
namespace Go.Av
open Go Go.RowKit IntWalk

section
variable {P : Program} {w0 : World} {σ σ' : Vw}

/-! ### The operations at known values -/
theorem pIf_b {b : Bool} {A B : Prop} : pIf (.bool b) A B ↔ (b = true → A) ∧ (b = false → B) :=
  ⟨fun ⟨c, h, h1, h2⟩ => by cases h; exact ⟨h1, h2⟩, fun ⟨h1, h2⟩ => ⟨b, rfl, h1, h2⟩⟩
theorem pIf_d {p : Prop} [Decidable p] {A B : Prop} : pIf (.bool (decide p)) A B ↔ (p → A) ∧ (¬ p → B) := by
  rw [pIf_b]; simp
theorem pLen_s {A : Option Addr} {n c : Nat} {K : Value → Prop} : pLen (.slice A n c) K ↔ K (.int .i64 n) :=
  ⟨fun ⟨_, _, _, h, hK⟩ => by cases h; exact hK, fun h => ⟨_, _, _, rfl, h⟩⟩
theorem pLenS_s {s : ByteArray} {K : Value → Prop} : pLenS (.string s) K ↔ K (.int .i64 s.size) :=
  ⟨fun ⟨_, h, hK⟩ => by cases h; exact hK, fun h => ⟨_, rfl, h⟩⟩
theorem pNil_s {a : Addr} {K : Prop} : pNil (.pointer (some a)) K ↔ K := ⟨fun ⟨_, _, h⟩ => h, fun h => ⟨a, rfl, h⟩⟩
theorem pField_s {o : Nat} {a : Addr} {K : Value → Prop} : pField o (.pointer (some a)) K ↔ K (.pointer (some (a.add o))) :=
  ⟨fun ⟨_, h, hK⟩ => by cases h; exact hK, fun h => ⟨_, rfl, h⟩⟩
theorem pUn_not {b : Bool} {K : Value → Prop} : pUn .not (.bool b) K ↔ K (.bool !b) :=
  ⟨fun ⟨_, h, hK⟩ => by simp only [aun, Option.some.injEq] at h; subst h; exact hK, fun h => ⟨_, rfl, h⟩⟩
theorem pBin_i {T : Nat} {op : BinOp} {k : IntKind} {a b : Int} {v : Value} {K : Value → Prop} (h : aint op k a b = some v) : pBin P T op (.int k a) (.int k b) K ↔ K v := by
  have e : abinT P T op (.int k a) (.int k b) = some v := by unfold abinT; simp only [if_true]; exact h
  exact ⟨fun ⟨_, h, hK⟩ => by rw [e] at h; cases h; exact hK, fun h => ⟨_, e, h⟩⟩
theorem pBin_lt {T : Nat} {k : IntKind} {a b : Int} {K : Value → Prop} : pBin P T .lss (.int k a) (.int k b) K ↔ K (.bool (decide (a < b))) := pBin_i rfl
theorem pBin_le {T : Nat} {k : IntKind} {a b : Int} {K : Value → Prop} : pBin P T .leq (.int k a) (.int k b) K ↔ K (.bool (decide (a ≤ b))) := pBin_i rfl
theorem pBin_gt {T : Nat} {k : IntKind} {a b : Int} {K : Value → Prop} : pBin P T .gtr (.int k a) (.int k b) K ↔ K (.bool (decide (b < a))) := pBin_i rfl
theorem pBin_ge {T : Nat} {k : IntKind} {a b : Int} {K : Value → Prop} : pBin P T .geq (.int k a) (.int k b) K ↔ K (.bool (decide (b ≤ a))) := pBin_i rfl
theorem pBin_eq {T : Nat} {k : IntKind} {a b : Int} {K : Value → Prop} : pBin P T .eql (.int k a) (.int k b) K ↔ K (.bool (decide (a = b))) := pBin_i rfl
theorem pBin_ne {T : Nat} {k : IntKind} {a b : Int} {K : Value → Prop} : pBin P T .neq (.int k a) (.int k b) K ↔ K (.bool (decide (a ≠ b))) :=
  pBin_i (by simp only [aint, bne, Option.some.injEq, Value.bool.injEq]; by_cases h : a = b <;> simp [h])
theorem pBin_add {T : Nat} {a b : Int} {K : Value → Prop} (h : -9223372036854775808 ≤ a + b ∧ a + b ≤ 9223372036854775807) : pBin P T .add (.int .i64 a) (.int .i64 b) K ↔ K (.int .i64 (a + b)) :=
  pBin_i (by simp only [aint, i64_in _ h])
theorem pBin_sub {T : Nat} {a b : Int} {K : Value → Prop} (h : -9223372036854775808 ≤ a - b ∧ a - b ≤ 9223372036854775807) : pBin P T .sub (.int .i64 a) (.int .i64 b) K ↔ K (.int .i64 (a - b)) :=
  pBin_i (by simp only [aint, i64_in _ h])
theorem pBin_mul {T : Nat} {a b : Int} {K : Value → Prop} (h : -9223372036854775808 ≤ a * b ∧ a * b ≤ 9223372036854775807) : pBin P T .mul (.int .i64 a) (.int .i64 b) K ↔ K (.int .i64 (a * b)) :=
  pBin_i (by simp only [aint, i64_in _ h])

theorem bytes_inj {a b : ByteArray} (h : a.toList = b.toList) : a = b := by
  rw [ByteArray.toList_eq, ByteArray.toList_eq] at h
  cases a; cases b
  simp only [ByteArray.mk.injEq]
  exact Array.toList_inj.1 h
theorem toList_eq {a b : ByteArray} : (a.toList == b.toList) = decide (a = b) := by
  have : a.toList = b.toList ↔ a = b := ⟨fun h => Go.Av.bytes_inj h, fun h => by rw [h]⟩
  by_cases h : a = b
  · subst h; simp
  · have h' : ¬ a.toList = b.toList := fun e => h (this.1 e)
    simp [h, h']
theorem pBin_s {T : Nat} {op : BinOp} {a b : ByteArray} {v : Value} {K : Value → Prop} (h : astr op a b = some v) : pBin P T op (.string a) (.string b) K ↔ K v :=
  ⟨fun ⟨_, h', hK⟩ => by rw [show abinT P T op (.string a) (.string b) = some v from h] at h'; cases h'; exact hK, fun hK => ⟨_, h, hK⟩⟩
theorem pBin_seq {T : Nat} {a b : ByteArray} {K : Value → Prop} : pBin P T .eql (.string a) (.string b) K ↔ K (.bool (decide (a = b))) := pBin_s (by simp only [astr, toList_eq])
theorem pBin_sne {T : Nat} {a b : ByteArray} {K : Value → Prop} : pBin P T .neq (.string a) (.string b) K ↔ K (.bool (decide (a ≠ b))) := pBin_s (by simp only [astr, toList_eq]; simp)
theorem pBin_b {T : Nat} {op : BinOp} {a b : Bool} {v : Value} {K : Value → Prop} (hT : P.underlying T = some .bool) (h : (match op with | .eql => some (Value.bool (a == b)) | .neq => some (.bool (!(a == b))) | _ => none) = some v) : pBin P T op (.bool a) (.bool b) K ↔ K v := by
  have e : abinT P T op (.bool a) (.bool b) = some v := by simp only [abinT, hT]; exact h
  exact ⟨fun ⟨_, h', hK⟩ => by rw [e] at h'; cases h'; exact hK, fun hK => ⟨_, e, hK⟩⟩

theorem pVal1 {n : Nat} {v : Value} {A : Prop} (h : v.oneCell' = true) : pVal false n v A ↔ A := ⟨fun h => h.2, fun hA => ⟨h, hA⟩⟩
theorem pValN {n : Nat} {cs : List Value} {A : Prop} (hl : cs.length = n) (h : ∀ c, c ∈ cs → c.oneCell' = true) : pVal true n (.agg ⟨cs⟩) A ↔ A := ⟨fun h => h.2, fun hA => ⟨⟨cs, rfl, hl, h⟩, hA⟩⟩
theorem cellOf_agg {cs : List Value} {i : Nat} : cellOf (.agg ⟨cs⟩) i = cs.getD i undef := rfl
theorem pStr1 {b : Nat} {K : Value → Prop} {n : Int} {c : Nat} (h : Av.get w0 σ ⟨b, 0, none⟩ = some (.int .u8 n)) (hK : K (.string (strOfNums [n]))) : pStr w0 (.slice (some ⟨b, 0, none⟩) 1 c) σ K :=
  .inr ⟨b, 0, 1, c, [n], rfl, rfl, (fun j hj => by
    have e : j = 0 := by omega
    subst e
    exact h), hK⟩

/-! ### Loops -/
theorem loop_rule {B : List Value → (AX → List Value → Vw → Prop) → Vw → Prop} {K : AX → List Value → Vw → Prop} (I : Nat → List Value → Vw → Prop)
    (step : ∀ m vs σ (L : List Value → Vw → Prop), I m vs σ → (∀ vs' σ', ∀ m', m' + 1 = m → I m' vs' σ' → L vs' σ') → B vs (fun e vs' σ' => match e with | .normal => L vs' σ' | .exit i => K (.exit i) vs' σ' | .ret => K .ret vs' σ') σ)
    {m : Nat} {vs : List Value} (h : I m vs σ) : pLoop B vs σ K := by
  refine ⟨m + 1, ?_⟩
  induction m generalizing vs σ with
  | zero => exact step 0 vs σ _ h (fun vs' σ' m' e => by omega)
  | succ m ih =>
    refine step (m + 1) vs σ _ h (fun vs' σ' m' e hI => ?_)
    have e : m' = m := by omega
    subst e
    exact ih hI

/-! ### Reading -/
theorem add_add (a : Addr) (i j : Nat) : (a.add i).add j = a.add (i + j) := by
  unfold Addr.add
  by_cases hi : i = 0
  · simp [hi]
  · by_cases hj : j = 0
    · simp [hj]
    · have : i + j ≠ 0 := by omega
      simp [hi, hj, this, Nat.add_assoc]

/-- A reader that reads no less. -/
def Le (rd rd' : Addr → Option Value) : Prop := ∀ a v, rd a = some v → rd' a = some v
theorem Le.refl (rd : Addr → Option Value) : Le rd rd := fun _ _ h => h
theorem Le.trans {rd rd' rd'' : Addr → Option Value} (h : Le rd rd') (h' : Le rd' rd'') : Le rd rd'' := fun a v ha => h' a v (h a v ha)
theorem Ext.le (hx : Ext σ σ') : Le (Av.get w0 σ) (Av.get w0 σ') := fun _ _ h => get_ext hx h

/-- What is read behind a slice: xs, each of n cells. -/
def RSl {α : Type} (n : Nat) (R : (Addr → Option Value) → List Value → α → Prop) (rd : Addr → Option Value) (v : Value) (xs : List α) : Prop :=
  ∃ A cap, v = .slice A xs.length cap ∧ (xs.length ≤ cap ∧ cap ≤ 9223372036854775807) ∧ ∀ (j : Nat) (x : α), xs[j]? = some x → ∃ a es, A = some a ∧ es.length = n ∧ (∀ i, i < n → rd (a.add (j * n + i)) = es[i]?) ∧ R rd es x

theorem RSl.mono {α : Type} {n : Nat} {R : (Addr → Option Value) → List Value → α → Prop} {rd rd' : Addr → Option Value} {v : Value} {xs : List α} (h : RSl n R rd v xs) (hx : Le rd rd') (hR : ∀ es x, R rd es x → R rd' es x) : RSl n R rd' v xs := by
  obtain ⟨A, cap, h1, h2, h3⟩ := h
  refine ⟨A, cap, h1, h2, fun j x hj => ?_⟩
  obtain ⟨a, es, h4, h5, h6, h7⟩ := h3 j x hj
  refine ⟨a, es, h4, h5, fun i hi => ?_, hR _ _ h7⟩
  have := h6 i hi
  have hlt : i < es.length := by omega
  rw [List.getElem?_eq_getElem hlt] at this ⊢
  exact hx _ _ this

theorem RSl.len {α : Type} {n : Nat} {R : (Addr → Option Value) → List Value → α → Prop} {rd : Addr → Option Value} {v : Value} {xs : List α} (h : RSl n R rd v xs) {K : Value → Prop} : pLen v K ↔ K (.int .i64 xs.length) := by
  obtain ⟨A, cap, rfl, _⟩ := h
  exact pLen_s

/-- An element is read. -/
theorem RSl.at {α : Type} {n : Nat} {R : (Addr → Option Value) → List Value → α → Prop} {v : Value} {xs : List α} (h : RSl n R (Av.get w0 σ) v xs) {j : Nat} {x : α} (hj : xs[j]? = some x) {K : (Nat → Value) → Prop} (hK : ∀ g : Nat → Value, R (Av.get w0 σ) (expl g 0 n) x → K g) :
    pIndexAddr n v (.int .i64 j) fun p => pLoad w0 n p σ K := by
  obtain ⟨A, cap, rfl, _, h3⟩ := h
  obtain ⟨a, es, rfl, h5, h6, h7⟩ := h3 j x hj
  have hlt : j < xs.length := (List.getElem?_eq_some_iff.1 hj).1
  refine ⟨a, xs.length, cap, .i64, j, rfl, rfl, by omega, by omega, a.add (j * n), fun i => es.getD i undef, rfl, fun i hi => ?_, hK _ ?_⟩
  · have := h6 i hi
    have hlt : i < es.length := by omega
    rw [add_add, this, List.getElem?_eq_getElem hlt]
    simp only [List.getD_eq_getElem?_getD, List.getElem?_eq_getElem hlt, Option.getD_some]
  · have : expl (fun i => es.getD i undef) 0 n = es := by
      apply List.ext_getElem?
      intro i
      by_cases hi : i < n
      · rw [expl_get _ _ _ _ hi, Nat.zero_add, List.getD_eq_getElem?_getD]
        have hlt : i < es.length := by omega
        rw [List.getElem?_eq_getElem hlt]; rfl
      · rw [List.getElem?_eq_none (by rw [length_expl]; omega), List.getElem?_eq_none (by omega)]
    rw [this]; exact h7

/-- A text. -/
def RS (rd : Addr → Option Value) (cs : List Value) (s : ByteArray) : Prop := cs = [.string s] ∧ s.size ≤ 9223372036854775807
/-- A number. -/
def RI (rd : Addr → Option Value) (cs : List Value) (n : Int) : Prop := cs = [.int .i64 n] ∧ -9223372036854775808 ≤ n ∧ n ≤ 9223372036854775807
end
end Go.Av

/- The plain side, part 2: rows of our own. -/
set_option linter.unusedVariables false
set_option linter.unusedSimpArgs false
namespace Go.Av
open Go Go.RowKit

/-- Every row stays as it is; there may be new ones. -/
def Keeps (σ σ' : Vw) : Prop := ∀ b r, σ b = some r → σ' b = some r
theorem Keeps.refl (σ : Vw) : Keeps σ σ := fun _ _ h => h
theorem Keeps.trans {σ σ' σ'' : Vw} (h : Keeps σ σ') (h' : Keeps σ' σ'') : Keeps σ σ'' := fun b r hb => h' b r (h b r hb)
theorem Keeps.ext {σ σ' : Vw} (h : Keeps σ σ') : Ext σ σ' := fun b r hb => ⟨r, h b r hb, List.prefix_refl _⟩
theorem Keeps.le {w0 : World} {σ σ' : Vw} (h : Keeps σ σ') : Le (Av.get w0 σ) (Av.get w0 σ') := h.ext.le
theorem Keeps.stay {w0 : World} {σ σ' : Vw} {v : Value} {n : Nat} (h : Keeps σ σ') : Stay w0 σ σ' v n := fun a g _ hc j hj => h.le _ _ (hc j hj)
theorem Keeps.put {σ : Vw} {b : Nat} {r : Row} (h : σ b = none) : Keeps σ (σ.put b r) := fun i x hi => by
  have : i ≠ b := fun e => by rw [e, h] at hi; cases hi
  simp [Vw.put, this, hi]
/-- A new row is made, then others, then the first is written. -/
theorem Keeps.fill {σ σ' : Vw} {b : Nat} {r : Row} (h : Keeps σ σ') (hb : σ b = none) : Keeps σ (σ'.put b r) := fun i x hi => by
  have : i ≠ b := fun e => by rw [e, hb] at hi; cases hi
  simp [Vw.put, this, h i x hi]
theorem put_at {σ : Vw} {b : Nat} {r : Row} : σ.put b r b = some r := by simp [Vw.put]
theorem put_put {σ : Vw} {b : Nat} {r r' : Row} : (σ.put b r).put b r' = σ.put b r' := by
  funext i; simp only [Vw.put]; split <;> rfl

theorem get_row {w0 : World} {σ : Vw} {b off : Nat} {r : Row} (hb : w0.heap.size ≤ b) (h : σ b = some r) : Av.get w0 σ ⟨b, off, none⟩ = r.cells[off]? := by
  unfold Av.get
  simp only
  rw [if_neg (by omega), if_pos trivial, h]; rfl

theorem addr_add (b off i : Nat) : (Addr.mk b off none).add i = ⟨b, off + i, none⟩ := by
  unfold Addr.add
  split
  · rename_i h; subst h; rfl
  · rfl

theorem setAt_mid : ∀ (A old new C : List Value), old.length = new.length → setAt (A ++ (old ++ C)) A.length new = A ++ (new ++ C)
  | A, [], [], C, _ => by simp [setAt]
  | A, [], _ :: _, C, h => by simp at h
  | A, _ :: _, [], C, h => by simp at h
  | A, o :: old, n :: new, C, h => by
    simp only [setAt]
    have e : (A ++ (o :: old ++ C)).set A.length n = (A ++ [n]) ++ (old ++ C) := by simp
    rw [e]
    have := setAt_mid (A ++ [n]) old new C (by simpa using h)
    simp only [List.length_append, List.length_singleton] at this
    rw [this]
    simp

section
variable {w0 : World} {σ : Vw}

theorem flat_len {n : Nat} : ∀ (xs : List (List Value)), (∀ c, c ∈ xs → c.length = n) → xs.flatten.length = xs.length * n
  | [], _ => by simp
  | c :: r, h => by
    have := flat_len r (fun d hd => h d (List.mem_cons_of_mem _ hd))
    simp only [List.flatten_cons, List.length_append, List.length_cons, this, h c List.mem_cons_self]
    rw [Nat.add_mul, Nat.one_mul, Nat.add_comm]

theorem flat_get {n : Nat} : ∀ (xs : List (List Value)), (∀ c, c ∈ xs → c.length = n) → ∀ (j : Nat) (c : List Value), xs[j]? = some c → ∀ i, i < n → xs.flatten[j * n + i]? = c[i]?
  | [], _, j, c, hj, i, hi => by simp at hj
  | d :: r, h, 0, c, hj, i, hi => by
    simp at hj; subst hj
    have := h d List.mem_cons_self
    rw [List.flatten_cons, Nat.zero_mul, Nat.zero_add, List.getElem?_append_left (by omega)]
  | d :: r, h, j + 1, c, hj, i, hi => by
    have hd := h d List.mem_cons_self
    rw [List.flatten_cons, Nat.add_mul, Nat.one_mul, List.getElem?_append_right (by omega)]
    have := flat_get r (fun d hd => h d (List.mem_cons_of_mem _ hd)) j c (by simpa using hj) i hi
    rw [← this]
    congr 1
    omega

/-- What lies in a row of our own can be read. -/
theorem RSl.own {α : Type} {n : Nat} {R : (Addr → Option Value) → List Value → α → Prop} {b cap : Nat} {r : Row} {xs : List α} {cs : List (List Value)} {tail : List Value} (hb : w0.heap.size ≤ b) (hr : σ b = some r) (hc : r.cells = cs.flatten ++ tail) (hn : ∀ c, c ∈ cs → c.length = n)
    (hl : cs.length = xs.length) (hm : xs.length ≤ cap ∧ cap ≤ 9223372036854775807) (hR : ∀ (j : Nat) (c : List Value) (x : α), cs[j]? = some c → xs[j]? = some x → R (Av.get w0 σ) c x) : RSl n R (Av.get w0 σ) (.slice (some ⟨b, 0, none⟩) xs.length cap) xs := by
  refine ⟨_, cap, rfl, hm, fun j x hj => ?_⟩
  have hlt : j < cs.length := by have := (List.getElem?_eq_some_iff.1 hj).1; omega
  have hcj := List.getElem?_eq_getElem hlt
  refine ⟨_, cs[j], rfl, hn _ (List.getElem_mem hlt), fun i hi => ?_, hR j _ x hcj hj⟩
  rw [addr_add, get_row hb hr, Nat.zero_add, hc, ← flat_get cs hn j _ hcj i hi, List.getElem?_append_left]
  rw [flat_len cs hn]
  calc j * n + i < j * n + n := by omega
    _ = (j + 1) * n := by rw [Nat.add_mul, Nat.one_mul]
    _ ≤ cs.length * n := Nat.mul_le_mul_right n hlt

/-- An element of a row of our own is written. -/
theorem own_store {b cap len : Nat} {j n : Nat} {r : Row} {A old new C : List Value} (hr : σ b = some r) (hc : r.cells = A ++ (old ++ C)) (hA : A.length = j * n) (ho : old.length = new.length) (hn : new.length = n) (hj : j < len) {K : Vw → Prop}
    (hK : K (σ.put b { r with cells := A ++ (new ++ C) })) : pIndexAddr n (.slice (some ⟨b, 0, none⟩) len cap) (.int .i64 j) fun p => pStore p new σ K := by
  refine ⟨_, len, cap, .i64, j, rfl, rfl, by omega, by omega, b, j * n, r, by rw [addr_add]; simp, hr, ?_, ?_⟩
  · rw [hc]; simp only [List.length_append]; omega
  · rw [hc, ← hA, setAt_mid _ _ _ _ ho]; exact hK

theorem RSl.one {α : Type} {n : Nat} {R : (Addr → Option Value) → List Value → α → Prop} {rd : Addr → Option Value} {v : Value} {xs : List α} (h : RSl n R rd v xs) : v.oneCell' = true := by
  obtain ⟨A, cap, rfl, _⟩ := h
  rfl
theorem RSl.le {α : Type} {n : Nat} {R : (Addr → Option Value) → List Value → α → Prop} {rd : Addr → Option Value} {v : Value} {xs : List α} (h : RSl n R rd v xs) : xs.length ≤ 9223372036854775807 := by
  obtain ⟨_, _, _, h2, _⟩ := h; exact Nat.le_trans h2.1 h2.2
theorem pVal_1 {v : Value} {A : Prop} (h : v.oneCell' = true) : pVal true 1 (.agg ⟨[v]⟩) A ↔ A := pValN rfl (by simpa using h)
theorem pVal_2 {v v' : Value} {A : Prop} (h : v.oneCell' = true) (h' : v'.oneCell' = true) : pVal true 2 (.agg ⟨[v, v']⟩) A ↔ A := pValN rfl (by simp [h, h'])
theorem pVal_3 {v v' v'' : Value} {A : Prop} (h : v.oneCell' = true) (h' : v'.oneCell' = true) (h'' : v''.oneCell' = true) : pVal true 3 (.agg ⟨[v, v', v'']⟩) A ↔ A := pValN rfl (by simp [h, h', h''])

theorem pMake_s {ety n bytes m : Nat} {z : List Value} {K : Value → Vw → Prop} (hm : bytes * m ≤ 140737488355328) (hm2 : m ≤ 9223372036854775807) (hK : ∀ b e, w0.heap.size ≤ b → σ b = none → K (.slice (some ⟨b, 0, none⟩) m m) (σ.put b ⟨e, (List.replicate m z).flatten, m * n, (0, 0)⟩)) :
    pMake w0 ety n bytes z (.int .i64 m) (.int .i64 m) σ K := by
  refine ⟨.i64, m, rfl, rfl, by omega, by omega, ?_, fun b h1 h2 => ?_⟩
  · have : ((bytes * m : Nat) : Int) ≤ 2 ^ 47 := by
      rw [show (2 : Int) ^ 47 = 140737488355328 by decide]; omega
    simpa using this
  · have := hK b ety h1 h2
    simpa using this
end
end Go.Av

/- The lists of structs, whatever their element: their size, their comparison. -/
set_option linter.unusedVariables false
set_option linter.unusedSimpArgs false
namespace Go.Av
open Go Go.RowKit

/-- What is left of n. -/
def left (n : Int) (t : Nat) : Int := if n - t < 0 then -1 else n - t
theorem left_neg {n : Int} {t : Nat} : left n t < 0 ↔ n < t := by unfold left; split <;> omega
theorem left_low {n : Int} {t : Nat} (h : n < t) : left n t = -1 := by unfold left; rw [if_pos (by omega)]
theorem left_in {n : Int} {t : Nat} (h : (t : Int) ≤ n) : left n t = n - t := by unfold left; rw [if_neg (by omega)]

def sumBy {α : Type} (f : α → Nat) : List α → Nat
  | [] => 0
  | s :: r => f s + sumBy f r
theorem sumBy_take {α : Type} {f : α → Nat} {xs : List α} : ∀ {j : Nat} {x : α}, xs[j]? = some x → sumBy f (xs.take (j + 1)) = sumBy f (xs.take j) + f x := by
  induction xs with
  | nil => intro j x h; simp at h
  | cons a r ih =>
    intro j x h
    cases j with
    | zero => simp at h; subst h; simp [sumBy]
    | succ j =>
      simp at h
      have := ih h
      simp only [List.take_succ_cons, sumBy, this]
      omega
theorem sumBy_le {α : Type} {f : α → Nat} {xs : List α} : ∀ (j : Nat), sumBy f (xs.take j) ≤ sumBy f xs := by
  induction xs with
  | nil => intro j; simp [sumBy]
  | cons a r ih =>
    intro j
    cases j with
    | zero => simp [sumBy]
    | succ j => have := ih j; simp only [List.take_succ_cons, sumBy]; omega

section
variable {P : Program} {w0 : World} {σ : Vw} {α : Type}

def VszS (P : Program) (w0 : World) (T n f : Nat) (a0 a1 : Value) (σ : Vw) (R : Value → Vw → Prop) : Prop :=
  pLen a0 (fun v0 => pBin P T .sub a1 v0 (fun v1 => pBin P T .lss v1 (.int .i64 0) (fun v2 => pIf v2 (R (.int .i64 (-1)) σ) (pLoop (fun l3 K4 s5 => pLen (vget l3 0) (fun v6 => pBin P T .lss (vget l3 3) v6 (fun v7 => pIf v7
    (pIndexAddr n (vget l3 0) (vget l3 3) (fun v8 => pLoad w0 n v8 s5 (fun g9 => AC P w0 f [.agg ⟨expl g9 0 n⟩, vget l3 1] s5 (fun v10 s11 => pBin P T .lss v10 (.int .i64 0) (fun v12 => pIf v12 (K4 .ret [vget l3 0, v10, .int .i64 (-1), vget l3 3] s11)
      (pBin P T .add (vget l3 3) (.int .i64 1) (fun v13 => K4 .normal [vget l3 0, v10, vget l3 2, v13] s11))))))) (K4 (.exit 0) [vget l3 0, vget l3 1, vget l3 2, vget l3 3] s5)))) [a0, v1, .int .i64 0, .int .i64 0] σ
    (fun x14 l15 s16 => match x14 with | .normal => R (vget l15 1) s16 | .ret => R (vget l15 2) s16 | .exit i17 => (match Nat.beq i17 0 with | true => R (vget l15 1) s16 | false => False))))))

theorem szS_gen {T n f : Nat} {Rel : (Addr → Option Value) → List Value → α → Prop} {sz : α → Nat} {v : Value} {xs : List α} {m : Int}
    (hf : ∀ x, x ∈ xs → ∀ (es : List Value) (m : Int) (R' : Value → Vw → Prop), Rel (Av.get w0 σ) es x → 0 ≤ m ∧ m ≤ 9223372036854775807 → R' (.int .i64 (left m (sz x))) σ → AC P w0 f [.agg ⟨es⟩, .int .i64 m] σ R')
    (h : RSl n Rel (Av.get w0 σ) v xs) (hn : 0 ≤ m ∧ m ≤ 9223372036854775807) {R : Value → Vw → Prop} (hR : R (.int .i64 (left m (xs.length + sumBy sz xs))) σ) : VszS P w0 T n f v (.int .i64 m) σ R := by
  unfold VszS
  have hl := h.le
  rw [h.len, pBin_sub (by omega), pBin_lt, pIf_d]
  refine ⟨fun hlt => ?_, fun hge => ?_⟩
  · rw [left_low (by omega)] at hR; exact hR
  · refine loop_rule (m := xs.length) (fun k l s => ∃ j, s = σ ∧ k + j = xs.length ∧ 0 ≤ m - xs.length - sumBy sz (xs.take j) ∧ l = [v, .int .i64 (m - xs.length - sumBy sz (xs.take j)), .int .i64 0, .int .i64 (j : Nat)]) ?_ ⟨0, rfl, by omega, by simp [sumBy]; omega, by simp [sumBy]⟩
    rintro k l s L ⟨j, rfl, hm, h0, rfl⟩ hL
    simp only [vget, List.getD_cons_zero, List.getD_cons_succ]
    rw [h.len, pBin_lt, pIf_d]
    refine ⟨fun hj => ?_, fun hj => ?_⟩
    · have hj' : j < xs.length := by omega
      have hx := List.getElem?_eq_getElem hj'
      refine h.at hx fun g hg => ?_
      have ht := sumBy_take (f := sz) hx
      have hle := sumBy_le (f := sz) (xs := xs) (j + 1)
      refine hf _ (List.getElem_mem hj') _ _ _ hg (by omega) ?_
      rw [pBin_lt, pIf_d]
      refine ⟨fun hlt => ?_, fun hge => ?_⟩
      · rw [left_neg] at hlt
        rw [left_low (by omega)] at hR; exact hR
      · rw [left_neg] at hge
        rw [pBin_add (by omega), left_in (by omega)]
        refine hL _ _ (k - 1) (by omega) ⟨j + 1, rfl, by omega, by omega, ?_⟩
        rw [ht]
        congr 2
        · congr 1; omega
    · have hj' : j = xs.length := by omega
      subst hj'
      rw [List.take_length] at h0 ⊢
      rw [left_in (by omega)] at hR
      rw [show m - (xs.length : Int) - (sumBy sz xs : Int) = m - ((xs.length + sumBy sz xs : Nat) : Int) by omega]
      exact hR

def VeqS (P : Program) (w0 : World) (T n f : Nat) (a0 a1 : Value) (σ : Vw) (R : Value → Vw → Prop) : Prop :=
  pLen a0 (fun v0 => pLen a1 (fun v1 => pBin P T .neq v0 v1 (fun v2 => pIf v2 (R (.bool false) σ) (pLoop (fun l3 K4 s5 => pLen (vget l3 0) (fun v6 => pBin P T .lss (vget l3 3) v6 (fun v7 => pIf v7
    (pIndexAddr n (vget l3 0) (vget l3 3) (fun v8 => pLoad w0 n v8 s5 (fun g9 => pIndexAddr n (vget l3 1) (vget l3 3) (fun v10 => pLoad w0 n v10 s5 (fun g11 => AC P w0 f [.agg ⟨expl g9 0 n⟩, .agg ⟨expl g11 0 n⟩] s5 (fun v12 s13 => pUn .not v12 (fun v14 => pIf v14
      (K4 .ret [vget l3 0, vget l3 1, .bool false, vget l3 3] s13) (pBin P T .add (vget l3 3) (.int .i64 1) (fun v15 => K4 .normal [vget l3 0, vget l3 1, vget l3 2, v15] s13))))))))) (K4 (.exit 0) [vget l3 0, vget l3 1, vget l3 2, vget l3 3] s5)))) [a0, a1, .bool false, .int .i64 0] σ
    (fun x16 l17 s18 => match x16 with | .normal => R (.bool true) s18 | .ret => R (vget l17 2) s18 | .exit i19 => (match Nat.beq i19 0 with | true => R (.bool true) s18 | false => False))))))

theorem eqS_gen [DecidableEq α] {T n f : Nat} {Rel : (Addr → Option Value) → List Value → α → Prop} {v v' : Value} {xs ys : List α}
    (hf : ∀ x, x ∈ xs → ∀ (y : α) (es es' : List Value) (R' : Value → Vw → Prop), Rel (Av.get w0 σ) es x → Rel (Av.get w0 σ) es' y → R' (.bool (decide (x = y))) σ → AC P w0 f [.agg ⟨es⟩, .agg ⟨es'⟩] σ R')
    (h : RSl n Rel (Av.get w0 σ) v xs) (h' : RSl n Rel (Av.get w0 σ) v' ys) {R : Value → Vw → Prop} (hR : R (.bool (decide (xs = ys))) σ) : VeqS P w0 T n f v v' σ R := by
  unfold VeqS
  have hl := h.le
  rw [h.len, h'.len, pBin_ne, pIf_d]
  refine ⟨fun hne => ?_, fun heq => ?_⟩
  · have : xs ≠ ys := fun e => hne (by rw [e])
    simpa [this] using hR
  · have hlen : xs.length = ys.length := by omega
    refine loop_rule (m := xs.length) (fun m l s => ∃ j, s = σ ∧ m + j = xs.length ∧ xs.take j = ys.take j ∧ l = [v, v', .bool false, .int .i64 (j : Nat)]) ?_ ⟨0, rfl, by omega, by simp, rfl⟩
    rintro m l s L ⟨j, rfl, hm, ht, rfl⟩ hL
    simp only [vget, List.getD_cons_zero, List.getD_cons_succ]
    rw [h.len, pBin_lt, pIf_d]
    refine ⟨fun hj => ?_, fun hj => ?_⟩
    · have hj' : j < xs.length := by omega
      have hx := List.getElem?_eq_getElem hj'
      have hy := List.getElem?_eq_getElem (show j < ys.length by omega)
      refine h.at hx fun g hg => ?_
      refine h'.at hy fun g' hg' => ?_
      refine hf _ (List.getElem_mem hj') _ _ _ _ hg hg' ?_
      rw [pUn_not, pIf_b]
      by_cases e : xs[j] = ys[j]
      · refine ⟨fun h => by simp [e] at h, fun _ => ?_⟩
        rw [pBin_add (by omega)]
        refine hL _ _ (m - 1) (by omega) ⟨j + 1, rfl, by omega, ?_, rfl⟩
        rw [List.take_add_one, List.take_add_one, hx, hy, ht, e]
      · refine ⟨fun _ => ?_, fun h => by simp [e] at h⟩
        have : xs ≠ ys := fun e' => by subst e'; exact e rfl
        simpa [this] using hR
    · have hj' : j = xs.length := by omega
      subst hj'
      rw [List.take_length, hlen, List.take_length] at ht
      subst ht
      simpa using hR
end
end Go.Av

/- Lists that lie in rows of our own, each part in rows of its own; the copy of a list of structs. -/
set_option linter.unusedVariables false
set_option linter.unusedSimpArgs false
namespace Go.Av
open Go Go.RowKit

section
variable {P : Program} {w0 : World} {σ σ' : Vw} {α : Type}

/-- What a rule for parts in rows of our own must keep. -/
structure OOk (w0 : World) (n : Nat) (Rel : (Addr → Option Value) → List Value → α → Prop) (O : Vw → List Nat → List Value → α → Prop) : Prop where
  rel : ∀ σ F es x, O σ F es x → Rel (Av.get w0 σ) es x
  frame : ∀ σ σ' F es x, O σ F es x → (∀ b, b ∈ F → σ' b = σ b) → O σ' F es x
  dom : ∀ σ F es x, O σ F es x → ∀ b, b ∈ F → w0.heap.size ≤ b ∧ σ b ≠ none
  nodup : ∀ σ F es x, O σ F es x → F.Nodup
  len : ∀ σ F es x, O σ F es x → es.length = n
  one : ∀ σ F es x, O σ F es x → ∀ c, c ∈ es → c.oneCell' = true

/-- A list in a row of our own, the elements' own parts in other rows. -/
def OSl (w0 : World) (n : Nat) (O : Vw → List Nat → List Value → α → Prop) (σ : Vw) (F : List Nat) (v : Value) (xs : List α) : Prop :=
  xs.length ≤ 9223372036854775807 ∧ F.Nodup ∧ ((v = .slice none 0 0 ∧ xs = [] ∧ F = []) ∨
  ∃ (b off cap : Nat) (r : Row) (pre post : List Value) (css : List (List Value)) (Fs : List (List Nat)), v = .slice (some ⟨b, off, none⟩) xs.length cap ∧ (xs.length ≤ cap ∧ cap ≤ 9223372036854775807) ∧ w0.heap.size ≤ b ∧ σ b = some r ∧ r.cells = pre ++ (css.flatten ++ post) ∧ pre.length = off ∧
    css.length = xs.length ∧ Fs.length = xs.length ∧ F = b :: Fs.flatten ∧ ∀ (j : Nat) (c : List Value) (x : α) (f : List Nat), css[j]? = some c → xs[j]? = some x → Fs[j]? = some f → O σ f c x)

theorem mem_flat {l : List (List Nat)} {b : Nat} (h : b ∈ l.flatten) : ∃ (j : Nat) (f : List Nat), l[j]? = some f ∧ b ∈ f := by
  obtain ⟨f, h1, h2⟩ := List.mem_flatten.1 h
  obtain ⟨j, hj⟩ := List.getElem?_of_mem h1
  exact ⟨j, f, hj, h2⟩

theorem OSl.frame {n : Nat} {Rel : (Addr → Option Value) → List Value → α → Prop} {O : Vw → List Nat → List Value → α → Prop} (ok : OOk w0 n Rel O) {F : List Nat} {v : Value} {xs : List α} (h : OSl w0 n O σ F v xs) (hF : ∀ b, b ∈ F → σ' b = σ b) : OSl w0 n O σ' F v xs := by
  obtain ⟨h1, h2, h3 | ⟨b, off, cap, r, pre, post, css, Fs, g1, gc, g2, g3, g4, g5, g6, g7, g8, g9⟩⟩ := h
  · exact ⟨h1, h2, .inl h3⟩
  · refine ⟨h1, h2, .inr ⟨b, off, cap, r, pre, post, css, Fs, g1, gc, g2, ?_, g4, g5, g6, g7, g8, fun j c x f e1 e2 e3 => ?_⟩⟩
    · rw [hF b (by rw [g8]; exact List.mem_cons_self)]; exact g3
    · refine ok.frame _ _ _ _ _ (g9 j c x f e1 e2 e3) fun i hi => hF i ?_
      rw [g8]
      exact List.mem_cons_of_mem _ (List.mem_flatten.2 ⟨f, List.mem_of_getElem? e3, hi⟩)

theorem OSl.dom {n : Nat} {Rel : (Addr → Option Value) → List Value → α → Prop} {O : Vw → List Nat → List Value → α → Prop} (ok : OOk w0 n Rel O) {F : List Nat} {v : Value} {xs : List α} (h : OSl w0 n O σ F v xs) : ∀ b, b ∈ F → w0.heap.size ≤ b ∧ σ b ≠ none := by
  obtain ⟨h1, h2, ⟨_, _, h3⟩ | ⟨b, off, cap, r, pre, post, css, Fs, g1, gc, g2, g3, g4, g5, g6, g7, g8, g9⟩⟩ := h
  · rw [h3]; intro b hb; cases hb
  · rw [g8]
    intro i hi
    rcases List.mem_cons.1 hi with e | e
    · rw [e]; exact ⟨g2, by rw [g3]; simp⟩
    · obtain ⟨j, f, e1, e2⟩ := mem_flat e
      have hj : j < Fs.length := (List.getElem?_eq_some_iff.1 e1).1
      exact ok.dom _ _ _ _ (g9 j _ _ f (List.getElem?_eq_getElem (by omega)) (List.getElem?_eq_getElem (by omega)) e1) i e2

theorem OSl.rel {n : Nat} {Rel : (Addr → Option Value) → List Value → α → Prop} {O : Vw → List Nat → List Value → α → Prop} (ok : OOk w0 n Rel O) {F : List Nat} {v : Value} {xs : List α} (h : OSl w0 n O σ F v xs) : RSl n Rel (Av.get w0 σ) v xs := by
  obtain ⟨h1, h2, ⟨rfl, rfl, _⟩ | ⟨b, off, cap, r, pre, post, css, Fs, rfl, gc, g2, g3, g4, g5, g6, g7, g8, g9⟩⟩ := h
  · exact ⟨none, 0, rfl, by simp, fun j x hj => by simp at hj⟩
  · have each : ∀ (j : Nat) (c : List Value), css[j]? = some c → c.length = n := fun j c hj => by
      have hlt : j < css.length := (List.getElem?_eq_some_iff.1 hj).1
      exact ok.len _ _ _ _ (g9 j c _ _ hj (List.getElem?_eq_getElem (by omega)) (List.getElem?_eq_getElem (by omega)))
    have hn : ∀ c, c ∈ css → c.length = n := fun c hc => by obtain ⟨j, hj⟩ := List.getElem?_of_mem hc; exact each j c hj
    refine ⟨_, cap, rfl, gc, fun j x hj => ?_⟩
    have hlt : j < css.length := by have := (List.getElem?_eq_some_iff.1 hj).1; omega
    have hcj := List.getElem?_eq_getElem hlt
    refine ⟨_, css[j], rfl, each j _ hcj, fun i hi => ?_, ok.rel _ _ _ _ (g9 j _ x _ hcj hj (List.getElem?_eq_getElem (by omega)))⟩
    rw [addr_add, get_row g2 g3, g4, List.getElem?_append_right (by omega)]
    rw [show off + (j * n + i) - pre.length = j * n + i by omega, List.getElem?_append_left, flat_get css hn j _ hcj i hi]
    rw [flat_len css hn]
    calc j * n + i < j * n + n := by omega
      _ = (j + 1) * n := by rw [Nat.add_mul, Nat.one_mul]
      _ ≤ css.length * n := Nat.mul_le_mul_right n hlt

def VtoS (P : Program) (w0 : World) (T ety n bytes f : Nat) (z : List Value) (a0 : Value) (σ : Vw) (R : Value → Vw → Prop) : Prop :=
  pLen a0 (fun v0 => pMake w0 ety n bytes z v0 v0 σ (fun v1 s2 => pLoop (fun l3 K4 s5 => pLen (vget l3 0) (fun v6 => pBin P T .lss (vget l3 2) v6 (fun v7 => pIf v7
    (pIndexAddr n (vget l3 0) (vget l3 2) (fun v8 => pLoad w0 n v8 s5 (fun g9 => AC P w0 f [.agg ⟨expl g9 0 n⟩] s5 (fun v10 s11 => pIndexAddr n (vget l3 1) (vget l3 2) (fun v12 => pVal true n v10 (pStore v12 (spread n v10) s11
      (fun s13 => pBin P T .add (vget l3 2) (.int .i64 1) (fun v14 => K4 .normal [vget l3 0, vget l3 1, v14] s13)))))))) (K4 (.exit 0) [vget l3 0, vget l3 1, vget l3 2] s5)))) [a0, v1, .int .i64 0] s2
    (fun x15 l16 s17 => match x15 with | .normal => R (vget l16 1) s17 | .ret => False | .exit i18 => (match Nat.beq i18 0 with | true => R (vget l16 1) s17 | false => False))))

theorem toS_gen {T ety n bytes f : Nat} {z : List Value} (hz : z.length = n) {Rel : (Addr → Option Value) → List Value → α → Prop} {O : Vw → List Nat → List Value → α → Prop} (ok : OOk w0 n Rel O) (hmono : ∀ rd rd' es x, Le rd rd' → Rel rd es x → Rel rd' es x) {v : Value} {xs : List α}
    (hf : ∀ x, x ∈ xs → ∀ (s : Vw) (es : List Value) (R' : Value → Vw → Prop), Keeps σ s → Rel (Av.get w0 s) es x → (∀ es' F s', Keeps s s' → O s' F es' x → (∀ b, b ∈ F → s b = none) → R' (.agg ⟨es'⟩) s') → AC P w0 f [.agg ⟨es⟩] s R')
    (h : RSl n Rel (Av.get w0 σ) v xs) (hb : bytes * xs.length ≤ 140737488355328) {R : Value → Vw → Prop} (hR : ∀ v' F σ', Keeps σ σ' → OSl w0 n O σ' F v' xs → (∀ b, b ∈ F → σ b = none) → R v' σ') : VtoS P w0 T ety n bytes f z v σ R := by
  unfold VtoS
  have hl := h.le
  rw [h.len]
  refine pMake_s hb hl fun b e h1 h2 => ?_
  refine loop_rule (m := xs.length) (fun m l s => ∃ (j : Nat) (css : List (List Value)) (Fs : List (List Nat)), m + j = xs.length ∧ css.length = j ∧ Fs.length = j ∧ Keeps σ s ∧ s b = some ⟨e, css.flatten ++ (List.replicate m z).flatten, xs.length * n, (0, 0)⟩ ∧
    (∀ c, c ∈ css → c.length = n) ∧ (b :: Fs.flatten).Nodup ∧ (∀ i, i ∈ Fs.flatten → σ i = none ∧ s i ≠ none) ∧ (∀ (i : Nat) (c : List Value) (x : α) (f : List Nat), css[i]? = some c → xs[i]? = some x → Fs[i]? = some f → O s f c x) ∧ l = [v, .slice (some ⟨b, 0, none⟩) xs.length xs.length, .int .i64 (j : Nat)]) ?_
    ⟨0, [], [], by omega, rfl, rfl, Keeps.put h2, by simp [put_at], by simp, by simp, by simp, by simp, rfl⟩
  rintro m l s L ⟨j, css, Fs, hm, hc, hFs, hk, hrow, hcn, hnd, hdom, hO, rfl⟩ hL
  simp only [vget, List.getD_cons_zero, List.getD_cons_succ]
  rw [h.len, pBin_lt, pIf_d]
  refine ⟨fun hj => ?_, fun hj => ?_⟩
  · have hj' : j < xs.length := by omega
    have hx := List.getElem?_eq_getElem hj'
    refine RSl.at (h.mono hk.le fun es x => hmono _ _ _ _ hk.le) hx fun g hg => ?_
    refine hf _ (List.getElem_mem hj') s _ _ hk hg fun es' F s' hk' hO' hFn => ?_
    obtain ⟨m', rfl⟩ : ∃ m', m = m' + 1 := ⟨m - 1, by omega⟩
    have hlen := ok.len _ _ _ _ hO'
    have hsp : spread n (.agg ⟨es'⟩) = es' := by subst hlen; exact spread_agg es'
    have hrow' := hk' _ _ hrow
    have eV : ∀ A : Prop, pVal true n (.agg ⟨es'⟩) A = A := fun A => propext (pValN hlen (ok.one _ _ _ _ hO'))
    simp only [eV, hsp]
    refine own_store (r := ⟨e, css.flatten ++ (List.replicate (m' + 1) z).flatten, xs.length * n, (0, 0)⟩) (A := css.flatten) (old := z) (new := es') (C := (List.replicate m' z).flatten) hrow' (by simp [List.replicate_succ]) (by rw [flat_len css hcn, hc]) (by omega) hlen hj' ?_
    rw [pBin_add (by omega)]
    have hbF : b ∉ F := fun hbF => by rw [hFn b hbF] at hrow; cases hrow
    have hbFs : b ∉ Fs.flatten := (List.nodup_cons.1 hnd).1
    have hdisj : ∀ i, i ∈ Fs.flatten → i ∉ F := fun i hi hiF => (hdom i hi).2 (hFn i hiF)
    have hput : ∀ i, i ≠ b → (s'.put b { (⟨e, css.flatten ++ (List.replicate (m' + 1) z).flatten, xs.length * n, (0, 0)⟩ : Row) with cells := css.flatten ++ (es' ++ (List.replicate m' z).flatten) }) i = s' i := fun i hi => by simp [Vw.put, hi]
    refine hL _ _ m' rfl ⟨j + 1, css ++ [es'], Fs ++ [F], by omega, by simp [hc], by simp [hFs], (hk.trans hk').fill h2, ?_, ?_, ?_, ?_, ?_, rfl⟩
    · rw [put_at]; simp
    · intro c hc'
      rcases List.mem_append.1 hc' with h' | h'
      · exact hcn c h'
      · rw [List.mem_singleton.1 h']; exact hlen
    · have hFnd := ok.nodup _ _ _ _ hO'
      rw [List.flatten_append]
      simp only [List.flatten_cons, List.flatten_nil, List.append_nil]
      rw [List.nodup_cons]
      refine ⟨fun hm' => ?_, List.nodup_append.2 ⟨(List.nodup_cons.1 hnd).2, hFnd, fun a ha b' hb' e' => hdisj a ha (e' ▸ hb')⟩⟩
      rcases List.mem_append.1 hm' with h' | h'
      · exact hbFs h'
      · exact hbF h'
    · intro i hi
      rw [List.flatten_append] at hi
      simp only [List.flatten_cons, List.flatten_nil, List.append_nil] at hi
      rcases List.mem_append.1 hi with h' | h'
      · have hib : i ≠ b := fun e' => hbFs (e' ▸ h')
        refine ⟨(hdom i h').1, ?_⟩
        rw [hput i hib]
        cases hs : s i with
        | none => exact absurd hs (hdom i h').2
        | some r => rw [hk' i r hs]; simp
      · have hib : i ≠ b := fun e' => hbF (e' ▸ h')
        refine ⟨?_, by rw [hput i hib]; exact (ok.dom _ _ _ _ hO' i h').2⟩
        cases hs : σ i with
        | none => rfl
        | some r => have := hk i r hs; rw [hFn i h'] at this; cases this
    · intro i c x f' e1 e2 e3
      by_cases hi : i < j
      · rw [List.getElem?_append_left (by omega)] at e1 e3
        refine ok.frame _ _ _ _ _ (hO i c x f' e1 e2 e3) fun k hk2 => ?_
        have hkF : k ∈ Fs.flatten := List.mem_flatten.2 ⟨f', List.mem_of_getElem? e3, hk2⟩
        rw [hput k fun e' => hbFs (e' ▸ hkF)]
        cases hs : s k with
        | none => exact absurd hs (hdom k hkF).2
        | some r => exact hk' k r hs
      · have hij : i = j := by
          have := (List.getElem?_eq_some_iff.1 e1).1
          simp [hc] at this
          omega
        subst hij
        rw [List.getElem?_append_right (by omega)] at e1 e3
        simp [hc] at e1
        simp [hFs] at e3
        subst e1 e3
        rw [hx] at e2
        cases e2
        exact ok.frame _ _ _ _ _ hO' fun k hk2 => hput k fun e' => hbF (e' ▸ hk2)
  · have hj' : j = xs.length := by omega
    subst hj'
    have hm0 : m = 0 := by omega
    subst hm0
    refine hR _ (b :: Fs.flatten) s hk ⟨hl, hnd, .inr ⟨b, 0, xs.length, _, [], [], css, Fs, rfl, ⟨Nat.le_refl _, hl⟩, h1, hrow, by simp, rfl, hc, hFs, rfl, hO⟩⟩ fun i hi => ?_
    rcases List.mem_cons.1 hi with e' | e'
    · rw [e']; exact h2
    · exact (hdom i e').1
end
end Go.Av

/- What each function owes, reckoned out. MADE BY PROGRAM (emit.py). -/
set_option linter.unusedVariables false
namespace Go.Proofs.Ytkblkdnnncklgaa
open Go Go.Av

abbrev t_int64 : Nat := 2
abbrev t_int : Nat := 3
abbrev t_bool : Nat := 4
abbrev t_uint8 : Nat := 5
abbrev t_abi_BoundsErrorCode : Nat := 6
abbrev t_runtime_boundsError : Nat := 8
abbrev t_string : Nat := 9
abbrev t_runtime_errorString : Nat := 10
abbrev t_runtime_plainError : Nat := 11
abbrev t_uintptr : Nat := 12
abbrev t_runtime_errorAddressString : Nat := 14
abbrev t_p_runtime_TypeAssertionError : Nat := 15
abbrev t_p_runtime_PanicNilError : Nat := 16
abbrev t_p_abi_Type : Nat := 17
abbrev t_maps_unhashableTypeError : Nat := 19
abbrev t_int32 : Nat := 21
abbrev t_s_laws_Mark : Nat := 22
abbrev t_s_impl_Mark : Nat := 25
abbrev t_s_string : Nat := 29
abbrev t_s_laws_Tree : Nat := 30
abbrev t_laws_Tree : Nat := 32
abbrev t_s_impl_Tree : Nat := 35
abbrev t_impl_Tree : Nat := 37
abbrev t_laws_Call : Nat := 47
abbrev t_impl_Call : Nat := 50
abbrev t_laws_Mark : Nat := 57
abbrev t_impl_Mark : Nat := 60
abbrev t_s_impl_Entry : Nat := 65
abbrev t_s_uint8 : Nat := 70
abbrev t_s_s_string : Nat := 81
abbrev t_p_impl_Tree : Nat := 90
abbrev t_impl_Entry : Nat := 104
abbrev t_p_spec_l1Rd : Nat := 105
abbrev t_s_int : Nat := 110
abbrev t_spec_l1Rd : Nat := 132
abbrev t_p_strings_Builder : Nat := 136
abbrev t_strings_Builder : Nat := 138
abbrev t_error : Nat := 141
abbrev t_uint : Nat := 150
abbrev t_p_uint8 : Nat := 158
abbrev t_slices_sortedHint : Nat := 161
abbrev t_uint32 : Nat := 169
abbrev t_uint64 : Nat := 171
abbrev t_unsafe_Pointer : Nat := 174
abbrev t_slices_xorshift : Nat := 177
abbrev t_p_int : Nat := 181
abbrev t_p_slices_xorshift : Nat := 192
abbrev t_runtime_TypeAssertionError : Nat := 200
abbrev t_a0_p_runtime_PanicNilError : Nat := 201
abbrev t_runtime_PanicNilError : Nat := 203
abbrev t_abi_TFlag : Nat := 204
abbrev t_abi_Kind : Nat := 205
abbrev t_abi_NameOff : Nat := 207
abbrev t_abi_TypeOff : Nat := 208
abbrev t_abi_Type : Nat := 210
abbrev n_laws_FnExactTrailShow : Nat := 3
abbrev n_laws_FnExactTreeAt : Nat := 4
abbrev n_laws_FnExactTrailOf : Nat := 5
abbrev n_laws_FnExactTrailAdd : Nat := 6
abbrev n_laws_FnExactDiffWalk : Nat := 7
abbrev n_laws_FnTreeSee : Nat := 8
abbrev n_laws_szMarkS : Nat := 9
abbrev n_spec_TrailShow : Nat := 10
abbrev n_laws_toMarkS : Nat := 11
abbrev n_impl_TrailShow : Nat := 12
abbrev n_laws_eqMarkS : Nat := 13
abbrev n_laws_szTree : Nat := 14
abbrev n_laws_szStringS : Nat := 15
abbrev n_spec_TreeAt : Nat := 16
abbrev n_laws_toTree : Nat := 17
abbrev n_laws_toStringS : Nat := 18
abbrev n_impl_TreeAt : Nat := 19
abbrev n_laws_eqTree : Nat := 20
abbrev n_laws_eqStringS : Nat := 21
abbrev n_laws_markTree : Nat := 22
abbrev n_laws_markStringS : Nat := 23
abbrev n_laws_heldTree : Nat := 24
abbrev n_laws_szCall : Nat := 25
abbrev n_spec_TrailOf : Nat := 26
abbrev n_laws_toCall : Nat := 27
abbrev n_impl_TrailOf : Nat := 28
abbrev n_laws_eqCall : Nat := 29
abbrev n_laws_markCall : Nat := 30
abbrev n_laws_markMarkS : Nat := 31
abbrev n_laws_heldMarkS : Nat := 32
abbrev n_laws_szMark : Nat := 33
abbrev n_spec_TrailAdd : Nat := 34
abbrev n_laws_toMark : Nat := 35
abbrev n_impl_TrailAdd : Nat := 36
abbrev n_laws_eqMark : Nat := 37
abbrev n_laws_markMark : Nat := 38
abbrev n_spec_DiffWalk : Nat := 39
abbrev n_impl_DiffWalk : Nat := 40
abbrev n_laws_eqEntryS : Nat := 41
abbrev n_laws_markEntryS : Nat := 42
abbrev n_laws_heldEntryS : Nat := 43
abbrev n_spec_DrawTreeRead : Nat := 44
abbrev n_impl_TreeRead : Nat := 45
abbrev n_spec_TreeRead : Nat := 46
abbrev n_spec_DrawTreeList : Nat := 47
abbrev n_impl_TreeList : Nat := 48
abbrev n_spec_TreeList : Nat := 49
abbrev n_laws_wtTexts : Nat := 50
abbrev n_laws_wtTree : Nat := 51
abbrev n_impl_TreeCount : Nat := 52
abbrev n_spec_TreeCount : Nat := 53
abbrev n_spec_TreeOk : Nat := 54
abbrev n_laws_wtPaths : Nat := 55
abbrev n_spec_TrailOk : Nat := 56
abbrev n_spec_l11Text : Nat := 57
abbrev n_impl_TrailOk : Nat := 58
abbrev n_impl_pathText : Nat := 59
abbrev n_laws_szTreeS : Nat := 60
abbrev n_spec_l1At : Nat := 61
abbrev n_spec_l1Copy : Nat := 62
abbrev n_laws_toTreeS : Nat := 63
abbrev n_impl_TreeOk : Nat := 64
abbrev n_p_impl_Tree_at : Nat := 65
abbrev n_impl_Tree_clone : Nat := 66
abbrev n_laws_eqTreeS : Nat := 67
abbrev n_laws_markTreeS : Nat := 68
abbrev n_laws_markText : Nat := 69
abbrev n_laws_heldStringS : Nat := 70
abbrev n_laws_heldTreeS : Nat := 71
abbrev n_spec_l2CallOk : Nat := 72
abbrev n_impl_Tree_marksOf : Nat := 73
abbrev n_spec_l11Copy : Nat := 74
abbrev n_spec_l11MarkOk : Nat := 75
abbrev n_spec_l11Put : Nat := 76
abbrev n_spec_l11Coarser : Nat := 77
abbrev n_impl_markOk : Nat := 78
abbrev n_impl_cloneMarks : Nat := 79
abbrev n_impl_add : Nat := 80
abbrev n_spec_l3Walk : Nat := 81
abbrev n_impl_walk : Nat := 82
abbrev n_laws_eqEntry : Nat := 83
abbrev n_spec_l1Open : Nat := 84
abbrev n_spec_l4Any : Nat := 85
abbrev n_spec_l4Path : Nat := 86
abbrev n_p_spec_l1Rd_pick : Nat := 87
abbrev n_spec_DrawTreeAt : Nat := 88
abbrev n_impl_Tree_paths : Nat := 89
abbrev n_spec_l1Count : Nat := 90
abbrev n_spec_l1Parts : Nat := 91
abbrev n_spec_l11Less : Nat := 92
abbrev n_spec_l2Within : Nat := 93
abbrev n_spec_l3Name : Nat := 94
abbrev n_slices_Compare_string_string : Nat := 95
abbrev n_impl_under : Nat := 96
abbrev n_strings_Join : Nat := 97
abbrev n_spec_l1Find : Nat := 98
abbrev n_impl_Tree_sound : Nat := 99
abbrev n_p_impl_Tree_kid : Nat := 100
abbrev n_spec_l2PathOk : Nat := 101
abbrev n_spec_l1In : Nat := 102
abbrev n_impl_Call_isCall : Nat := 103
abbrev n_spec_l11Under : Nat := 104
abbrev n_spec_l11Marked : Nat := 105
abbrev n_impl_namesOk : Nat := 106
abbrev n_impl_marked : Nat := 107
abbrev n_impl_begins : Nat := 108
abbrev n_slices_SortFunc_impl_Mark_impl_Mark : Nat := 109
abbrev n_impl_add_c1 : Nat := 110
abbrev n_slices_Delete_impl_Mark_impl_Mark : Nat := 111
abbrev n_spec_l3Gone : Nat := 112
abbrev n_spec_l3New : Nat := 113
abbrev n_spec_l3Part : Nat := 114
abbrev n_spec_l3Path : Nat := 115
abbrev n_impl_fresh : Nat := 116
abbrev n_impl_gone : Nat := 117
abbrev n_impl_changes : Nat := 118
abbrev n_impl_either : Nat := 119
abbrev n_impl_below : Nat := 120
abbrev n_spec_l4Spoil : Nat := 121
abbrev n_spec_l4Tree : Nat := 122
abbrev n_spec_l4Full : Nat := 123
abbrev n_spec_l4Name : Nat := 124
abbrev n_spec_l1Plain : Nat := 125
abbrev n_cmp_Compare_string : Nat := 126
abbrev n_p_strings_Builder_Grow : Nat := 127
abbrev n_p_strings_Builder_WriteString : Nat := 128
abbrev n_p_strings_Builder_String : Nat := 129
abbrev n_impl_modeOk : Nat := 130
abbrev n_impl_nameOk : Nat := 131
abbrev n_slices_Index_string_string : Nat := 132
abbrev n_spec_l1NameOk : Nat := 133
abbrev n_impl_within : Nat := 134
abbrev n_spec_l11Same : Nat := 135
abbrev n_slices_ContainsFunc_impl_Mark_impl_Mark : Nat := 136
abbrev n_impl_marked_c1 : Nat := 137
abbrev n_slices_Equal_string_string : Nat := 138
abbrev n_slices_pdqsortCmpFunc_impl_Mark : Nat := 139
abbrev n_math_bits_Len : Nat := 140
abbrev n_impl_Tree_each : Nat := 141
abbrev n_impl_fresh_c1 : Nat := 142
abbrev n_slices_Sort_string_string : Nat := 143
abbrev n_slices_Compact_string_string : Nat := 144
abbrev n_p_spec_l1Rd_of : Nat := 145
abbrev n_spec_l1Many : Nat := 146
abbrev n_spec_l1Dec : Nat := 147
abbrev n_spec_l4Data : Nat := 148
abbrev n_spec_TreeDo : Nat := 149
abbrev n_spec_l4Calls : Nat := 150
abbrev n_cmp_isNaN_string : Nat := 151
abbrev n_p_strings_Builder_copyCheck : Nat := 152
abbrev n_p_strings_Builder_grow : Nat := 153
abbrev n_slices_IndexFunc_impl_Mark_impl_Mark : Nat := 154
abbrev n_slices_insertionSortCmpFunc_impl_Mark : Nat := 155
abbrev n_slices_heapSortCmpFunc_impl_Mark : Nat := 156
abbrev n_slices_breakPatternsCmpFunc_impl_Mark : Nat := 157
abbrev n_slices_choosePivotCmpFunc_impl_Mark : Nat := 158
abbrev n_slices_reverseRangeCmpFunc_impl_Mark : Nat := 159
abbrev n_slices_partialInsertionSortCmpFunc_impl_Mark : Nat := 160
abbrev n_slices_partitionEqualCmpFunc_impl_Mark : Nat := 161
abbrev n_slices_partitionCmpFunc_impl_Mark : Nat := 162
abbrev n_math_bits_Len32 : Nat := 163
abbrev n_math_bits_Len64 : Nat := 164
abbrev n_slices_pdqsortOrdered_string : Nat := 165
abbrev n_spec_l2Do : Nat := 166
abbrev n_spec_l4Call : Nat := 167
abbrev n_internal_abi_NoEscape : Nat := 168
abbrev n_internal_bytealg_MakeNoZero : Nat := 169
abbrev n_slices_siftDownCmpFunc_impl_Mark : Nat := 170
abbrev n_slices_nextPowerOfTwo : Nat := 171
abbrev n_p_slices_xorshift_Next : Nat := 172
abbrev n_slices_medianAdjacentCmpFunc_impl_Mark : Nat := 173
abbrev n_slices_medianCmpFunc_impl_Mark : Nat := 174
abbrev n_slices_insertionSortOrdered_string : Nat := 175
abbrev n_slices_heapSortOrdered_string : Nat := 176
abbrev n_slices_breakPatternsOrdered_string : Nat := 177
abbrev n_slices_choosePivotOrdered_string : Nat := 178
abbrev n_slices_reverseRangeOrdered_string : Nat := 179
abbrev n_slices_partialInsertionSortOrdered_string : Nat := 180
abbrev n_cmp_Less_string : Nat := 181
abbrev n_slices_partitionEqualOrdered_string : Nat := 182
abbrev n_slices_partitionOrdered_string : Nat := 183
abbrev n_spec_l2Parent : Nat := 184
abbrev n_spec_l2Fits : Nat := 185
abbrev n_spec_l2Set : Nat := 186
abbrev n_spec_l2File : Nat := 187
abbrev n_spec_l2Rename : Nat := 188
abbrev n_slices_order2CmpFunc_impl_Mark : Nat := 189
abbrev n_slices_siftDownOrdered_string : Nat := 190
abbrev n_slices_medianAdjacentOrdered_string : Nat := 191
abbrev n_slices_medianOrdered_string : Nat := 192
abbrev n_spec_l2Write : Nat := 193
abbrev n_slices_order2Ordered_string : Nat := 194
abbrev n_runtime_boundsError_Error : Nat := 195
abbrev n_runtime_boundsError_RuntimeError : Nat := 196
abbrev n_runtime_errorString_Error : Nat := 197
abbrev n_runtime_errorString_RuntimeError : Nat := 198
abbrev n_runtime_plainError_Error : Nat := 199
abbrev n_runtime_plainError_RuntimeError : Nat := 200
abbrev n_runtime_errorAddressString_Error : Nat := 201
abbrev n_runtime_errorAddressString_RuntimeError : Nat := 202
abbrev n_p_runtime_TypeAssertionError_Error : Nat := 203
abbrev n_p_runtime_TypeAssertionError_RuntimeError : Nat := 204
abbrev n_p_runtime_PanicNilError_Error : Nat := 205
abbrev n_p_runtime_PanicNilError_RuntimeError : Nat := 206
abbrev n_p_internal_abi_Type_Align : Nat := 207
abbrev n_internal_runtime_maps_unhashableTypeError_Error : Nat := 208
abbrev n_internal_runtime_maps_unhashableTypeError_RuntimeError : Nat := 209
abbrev n_impl_Tree_id : Nat := 210
abbrev n_p_impl_Tree_drop : Nat := 211
abbrev n_impl_Entry_line : Nat := 212
abbrev n_p_strings_Builder_Reset : Nat := 213
abbrev n_internal_abi_Kind_String : Nat := 214
theorem is_slices_Compare_string_string : ∃ fn, Try.prog.funcs[n_slices_Compare_string_string]? = some fn ∧ (fn.name == "runtime.NumGoroutine") = false ∧ fn.body.isNone = false := ⟨Try.f95, Try.func95, by kernel_rfl, by kernel_rfl⟩
theorem is_strings_Join : ∃ fn, Try.prog.funcs[n_strings_Join]? = some fn ∧ (fn.name == "runtime.NumGoroutine") = false ∧ fn.body.isNone = false := ⟨Try.f97, Try.func97, by kernel_rfl, by kernel_rfl⟩
theorem is_slices_SortFunc_impl_Mark_impl_Mark : ∃ fn, Try.prog.funcs[n_slices_SortFunc_impl_Mark_impl_Mark]? = some fn ∧ (fn.name == "runtime.NumGoroutine") = false ∧ fn.body.isNone = false := ⟨Try.f109, Try.func109, by kernel_rfl, by kernel_rfl⟩
theorem is_slices_Delete_impl_Mark_impl_Mark : ∃ fn, Try.prog.funcs[n_slices_Delete_impl_Mark_impl_Mark]? = some fn ∧ (fn.name == "runtime.NumGoroutine") = false ∧ fn.body.isNone = false := ⟨Try.f111, Try.func111, by kernel_rfl, by kernel_rfl⟩
theorem is_p_strings_Builder_Grow : ∃ fn, Try.prog.funcs[n_p_strings_Builder_Grow]? = some fn ∧ (fn.name == "runtime.NumGoroutine") = false ∧ fn.body.isNone = false := ⟨Try.f127, Try.func127, by kernel_rfl, by kernel_rfl⟩
theorem is_p_strings_Builder_WriteString : ∃ fn, Try.prog.funcs[n_p_strings_Builder_WriteString]? = some fn ∧ (fn.name == "runtime.NumGoroutine") = false ∧ fn.body.isNone = false := ⟨Try.f128, Try.func128, by kernel_rfl, by kernel_rfl⟩
theorem is_p_strings_Builder_String : ∃ fn, Try.prog.funcs[n_p_strings_Builder_String]? = some fn ∧ (fn.name == "runtime.NumGoroutine") = false ∧ fn.body.isNone = false := ⟨Try.f129, Try.func129, by kernel_rfl, by kernel_rfl⟩
theorem is_slices_Index_string_string : ∃ fn, Try.prog.funcs[n_slices_Index_string_string]? = some fn ∧ (fn.name == "runtime.NumGoroutine") = false ∧ fn.body.isNone = false := ⟨Try.f132, Try.func132, by kernel_rfl, by kernel_rfl⟩
theorem is_slices_ContainsFunc_impl_Mark_impl_Mark : ∃ fn, Try.prog.funcs[n_slices_ContainsFunc_impl_Mark_impl_Mark]? = some fn ∧ (fn.name == "runtime.NumGoroutine") = false ∧ fn.body.isNone = false := ⟨Try.f136, Try.func136, by kernel_rfl, by kernel_rfl⟩
theorem is_slices_Equal_string_string : ∃ fn, Try.prog.funcs[n_slices_Equal_string_string]? = some fn ∧ (fn.name == "runtime.NumGoroutine") = false ∧ fn.body.isNone = false := ⟨Try.f138, Try.func138, by kernel_rfl, by kernel_rfl⟩
theorem is_slices_pdqsortCmpFunc_impl_Mark : ∃ fn, Try.prog.funcs[n_slices_pdqsortCmpFunc_impl_Mark]? = some fn ∧ (fn.name == "runtime.NumGoroutine") = false ∧ fn.body.isNone = false := ⟨Try.f139, Try.func139, by kernel_rfl, by kernel_rfl⟩
theorem is_slices_Sort_string_string : ∃ fn, Try.prog.funcs[n_slices_Sort_string_string]? = some fn ∧ (fn.name == "runtime.NumGoroutine") = false ∧ fn.body.isNone = false := ⟨Try.f143, Try.func143, by kernel_rfl, by kernel_rfl⟩
theorem is_slices_Compact_string_string : ∃ fn, Try.prog.funcs[n_slices_Compact_string_string]? = some fn ∧ (fn.name == "runtime.NumGoroutine") = false ∧ fn.body.isNone = false := ⟨Try.f144, Try.func144, by kernel_rfl, by kernel_rfl⟩
theorem is_p_strings_Builder_copyCheck : ∃ fn, Try.prog.funcs[n_p_strings_Builder_copyCheck]? = some fn ∧ (fn.name == "runtime.NumGoroutine") = false ∧ fn.body.isNone = false := ⟨Try.f152, Try.func152, by kernel_rfl, by kernel_rfl⟩
theorem is_p_strings_Builder_grow : ∃ fn, Try.prog.funcs[n_p_strings_Builder_grow]? = some fn ∧ (fn.name == "runtime.NumGoroutine") = false ∧ fn.body.isNone = false := ⟨Try.f153, Try.func153, by kernel_rfl, by kernel_rfl⟩
theorem is_slices_IndexFunc_impl_Mark_impl_Mark : ∃ fn, Try.prog.funcs[n_slices_IndexFunc_impl_Mark_impl_Mark]? = some fn ∧ (fn.name == "runtime.NumGoroutine") = false ∧ fn.body.isNone = false := ⟨Try.f154, Try.func154, by kernel_rfl, by kernel_rfl⟩
theorem is_slices_insertionSortCmpFunc_impl_Mark : ∃ fn, Try.prog.funcs[n_slices_insertionSortCmpFunc_impl_Mark]? = some fn ∧ (fn.name == "runtime.NumGoroutine") = false ∧ fn.body.isNone = false := ⟨Try.f155, Try.func155, by kernel_rfl, by kernel_rfl⟩
theorem is_slices_heapSortCmpFunc_impl_Mark : ∃ fn, Try.prog.funcs[n_slices_heapSortCmpFunc_impl_Mark]? = some fn ∧ (fn.name == "runtime.NumGoroutine") = false ∧ fn.body.isNone = false := ⟨Try.f156, Try.func156, by kernel_rfl, by kernel_rfl⟩
theorem is_slices_breakPatternsCmpFunc_impl_Mark : ∃ fn, Try.prog.funcs[n_slices_breakPatternsCmpFunc_impl_Mark]? = some fn ∧ (fn.name == "runtime.NumGoroutine") = false ∧ fn.body.isNone = false := ⟨Try.f157, Try.func157, by kernel_rfl, by kernel_rfl⟩
theorem is_slices_choosePivotCmpFunc_impl_Mark : ∃ fn, Try.prog.funcs[n_slices_choosePivotCmpFunc_impl_Mark]? = some fn ∧ (fn.name == "runtime.NumGoroutine") = false ∧ fn.body.isNone = false := ⟨Try.f158, Try.func158, by kernel_rfl, by kernel_rfl⟩
theorem is_slices_reverseRangeCmpFunc_impl_Mark : ∃ fn, Try.prog.funcs[n_slices_reverseRangeCmpFunc_impl_Mark]? = some fn ∧ (fn.name == "runtime.NumGoroutine") = false ∧ fn.body.isNone = false := ⟨Try.f159, Try.func159, by kernel_rfl, by kernel_rfl⟩
theorem is_slices_partialInsertionSortCmpFunc_impl_Mark : ∃ fn, Try.prog.funcs[n_slices_partialInsertionSortCmpFunc_impl_Mark]? = some fn ∧ (fn.name == "runtime.NumGoroutine") = false ∧ fn.body.isNone = false := ⟨Try.f160, Try.func160, by kernel_rfl, by kernel_rfl⟩
theorem is_slices_partitionEqualCmpFunc_impl_Mark : ∃ fn, Try.prog.funcs[n_slices_partitionEqualCmpFunc_impl_Mark]? = some fn ∧ (fn.name == "runtime.NumGoroutine") = false ∧ fn.body.isNone = false := ⟨Try.f161, Try.func161, by kernel_rfl, by kernel_rfl⟩
theorem is_slices_partitionCmpFunc_impl_Mark : ∃ fn, Try.prog.funcs[n_slices_partitionCmpFunc_impl_Mark]? = some fn ∧ (fn.name == "runtime.NumGoroutine") = false ∧ fn.body.isNone = false := ⟨Try.f162, Try.func162, by kernel_rfl, by kernel_rfl⟩
theorem is_slices_pdqsortOrdered_string : ∃ fn, Try.prog.funcs[n_slices_pdqsortOrdered_string]? = some fn ∧ (fn.name == "runtime.NumGoroutine") = false ∧ fn.body.isNone = false := ⟨Try.f165, Try.func165, by kernel_rfl, by kernel_rfl⟩
theorem is_slices_siftDownCmpFunc_impl_Mark : ∃ fn, Try.prog.funcs[n_slices_siftDownCmpFunc_impl_Mark]? = some fn ∧ (fn.name == "runtime.NumGoroutine") = false ∧ fn.body.isNone = false := ⟨Try.f170, Try.func170, by kernel_rfl, by kernel_rfl⟩
theorem is_slices_nextPowerOfTwo : ∃ fn, Try.prog.funcs[n_slices_nextPowerOfTwo]? = some fn ∧ (fn.name == "runtime.NumGoroutine") = false ∧ fn.body.isNone = false := ⟨Try.f171, Try.func171, by kernel_rfl, by kernel_rfl⟩
theorem is_slices_medianAdjacentCmpFunc_impl_Mark : ∃ fn, Try.prog.funcs[n_slices_medianAdjacentCmpFunc_impl_Mark]? = some fn ∧ (fn.name == "runtime.NumGoroutine") = false ∧ fn.body.isNone = false := ⟨Try.f173, Try.func173, by kernel_rfl, by kernel_rfl⟩
theorem is_slices_medianCmpFunc_impl_Mark : ∃ fn, Try.prog.funcs[n_slices_medianCmpFunc_impl_Mark]? = some fn ∧ (fn.name == "runtime.NumGoroutine") = false ∧ fn.body.isNone = false := ⟨Try.f174, Try.func174, by kernel_rfl, by kernel_rfl⟩
theorem is_slices_insertionSortOrdered_string : ∃ fn, Try.prog.funcs[n_slices_insertionSortOrdered_string]? = some fn ∧ (fn.name == "runtime.NumGoroutine") = false ∧ fn.body.isNone = false := ⟨Try.f175, Try.func175, by kernel_rfl, by kernel_rfl⟩
theorem is_slices_heapSortOrdered_string : ∃ fn, Try.prog.funcs[n_slices_heapSortOrdered_string]? = some fn ∧ (fn.name == "runtime.NumGoroutine") = false ∧ fn.body.isNone = false := ⟨Try.f176, Try.func176, by kernel_rfl, by kernel_rfl⟩
theorem is_slices_breakPatternsOrdered_string : ∃ fn, Try.prog.funcs[n_slices_breakPatternsOrdered_string]? = some fn ∧ (fn.name == "runtime.NumGoroutine") = false ∧ fn.body.isNone = false := ⟨Try.f177, Try.func177, by kernel_rfl, by kernel_rfl⟩
theorem is_slices_choosePivotOrdered_string : ∃ fn, Try.prog.funcs[n_slices_choosePivotOrdered_string]? = some fn ∧ (fn.name == "runtime.NumGoroutine") = false ∧ fn.body.isNone = false := ⟨Try.f178, Try.func178, by kernel_rfl, by kernel_rfl⟩
theorem is_slices_reverseRangeOrdered_string : ∃ fn, Try.prog.funcs[n_slices_reverseRangeOrdered_string]? = some fn ∧ (fn.name == "runtime.NumGoroutine") = false ∧ fn.body.isNone = false := ⟨Try.f179, Try.func179, by kernel_rfl, by kernel_rfl⟩
theorem is_slices_partialInsertionSortOrdered_string : ∃ fn, Try.prog.funcs[n_slices_partialInsertionSortOrdered_string]? = some fn ∧ (fn.name == "runtime.NumGoroutine") = false ∧ fn.body.isNone = false := ⟨Try.f180, Try.func180, by kernel_rfl, by kernel_rfl⟩
theorem is_slices_partitionEqualOrdered_string : ∃ fn, Try.prog.funcs[n_slices_partitionEqualOrdered_string]? = some fn ∧ (fn.name == "runtime.NumGoroutine") = false ∧ fn.body.isNone = false := ⟨Try.f182, Try.func182, by kernel_rfl, by kernel_rfl⟩
theorem is_slices_partitionOrdered_string : ∃ fn, Try.prog.funcs[n_slices_partitionOrdered_string]? = some fn ∧ (fn.name == "runtime.NumGoroutine") = false ∧ fn.body.isNone = false := ⟨Try.f183, Try.func183, by kernel_rfl, by kernel_rfl⟩
theorem is_slices_order2CmpFunc_impl_Mark : ∃ fn, Try.prog.funcs[n_slices_order2CmpFunc_impl_Mark]? = some fn ∧ (fn.name == "runtime.NumGoroutine") = false ∧ fn.body.isNone = false := ⟨Try.f189, Try.func189, by kernel_rfl, by kernel_rfl⟩
theorem is_slices_siftDownOrdered_string : ∃ fn, Try.prog.funcs[n_slices_siftDownOrdered_string]? = some fn ∧ (fn.name == "runtime.NumGoroutine") = false ∧ fn.body.isNone = false := ⟨Try.f190, Try.func190, by kernel_rfl, by kernel_rfl⟩
theorem is_slices_medianAdjacentOrdered_string : ∃ fn, Try.prog.funcs[n_slices_medianAdjacentOrdered_string]? = some fn ∧ (fn.name == "runtime.NumGoroutine") = false ∧ fn.body.isNone = false := ⟨Try.f191, Try.func191, by kernel_rfl, by kernel_rfl⟩
theorem is_slices_medianOrdered_string : ∃ fn, Try.prog.funcs[n_slices_medianOrdered_string]? = some fn ∧ (fn.name == "runtime.NumGoroutine") = false ∧ fn.body.isNone = false := ⟨Try.f192, Try.func192, by kernel_rfl, by kernel_rfl⟩
theorem is_slices_order2Ordered_string : ∃ fn, Try.prog.funcs[n_slices_order2Ordered_string]? = some fn ∧ (fn.name == "runtime.NumGoroutine") = false ∧ fn.body.isNone = false := ⟨Try.f194, Try.func194, by kernel_rfl, by kernel_rfl⟩
end Go.Proofs.Ytkblkdnnncklgaa

/- What each function owes, reckoned out, part 1. MADE BY PROGRAM (emit.py). -/
set_option linter.unusedVariables false
namespace Go.Proofs.Ytkblkdnnncklgaa
open Go Go.Av

/-- laws.FnExactTrailShow -/
def kp_laws_FnExactTrailShow : Nat → Keep
  | _ => ⟨[], [], [], .done, []⟩
def esc_laws_FnExactTrailShow : Nat → Bool
  | _ => false
def vc_laws_FnExactTrailShow (w0 : World) (a0 : Value) (σ : Vw) (R : Value → Vw → Prop) : Prop :=
  AC Try.prog w0 n_laws_szMarkS [a0, Value.int IntKind.i64 1048576] σ (fun v0 s1 => pBin Try.prog 3 BinOp.lss v0 (Value.int IntKind.i64 0) (fun v2 => pIf v2 (R (Value.bool true) s1) (AC Try.prog w0 n_laws_toMarkS [a0] s1 (fun v3 s4 => AC Try.prog w0 n_spec_TrailShow [v3] s4 (fun v5 s6 => AC Try.prog w0 n_laws_toMarkS [a0] s6 (fun v7 s8 => AC Try.prog w0 n_impl_TrailShow [v7] s8 (fun v9 s10 => pBin Try.prog 9 BinOp.neq v9 v5 (fun v11 => pIf v11 (R (Value.bool false) s10) (AC Try.prog w0 n_laws_toMarkS [a0] s10 (fun v12 s13 => AC Try.prog w0 n_laws_eqMarkS [v7, v12] s13 (fun v14 s15 => pUn UnOp.not v14 (fun v16 => pIf v16 (R (Value.bool false) s15) (R (Value.bool true) s15)))))))))))))
theorem vc_laws_FnExactTrailShow_eq (w0 : World) (a0 : Value) (σ : Vw) (R : Value → Vw → Prop) : vc_laws_FnExactTrailShow w0 a0 σ R = den Try.prog w0 kp_laws_FnExactTrailShow esc_laws_FnExactTrailShow (Try.f3.body.getD .skip) (entry Try.f3.ntmps [a0]) σ (retK Try.prog Try.f3.results.toList R) := by kernel_rfl
theorem ac_laws_FnExactTrailShow {w0 : World} {a0 : Value} {σ : Vw} {R : Value → Vw → Prop} (h : vc_laws_FnExactTrailShow w0 a0 σ R) : AC Try.prog w0 n_laws_FnExactTrailShow [a0] σ R := by
  refine ac_rule (fn := Try.f3) (c := Try.f3.body.getD .skip) kp_laws_FnExactTrailShow esc_laws_FnExactTrailShow Try.func3 (by kernel_rfl) (by kernel_rfl) ?_
  rw [← vc_laws_FnExactTrailShow_eq]
  exact h

/-- laws.FnExactTreeAt -/
def kp_laws_FnExactTreeAt : Nat → Keep
  | 14 => ⟨[], [], [], .step 0 (.step 1 (.step 2 (.step 3 (.step 4 (.done))))), [(2, [1]), (3, [0, 1, 2]), (4, [0, 1, 2, 3])]⟩
  | _ => ⟨[], [], [], .done, []⟩
def esc_laws_FnExactTreeAt : Nat → Bool
  | _ => false
def vc_laws_FnExactTreeAt (w0 : World) (a0 a1 : Value) (σ : Vw) (R : Value → Vw → Prop) : Prop :=
  pVal true 5 a0 (AC Try.prog w0 n_laws_szTree ([Value.agg (⟨[cellOf a0 0, cellOf a0 1, cellOf a0 2, cellOf a0 3, cellOf a0 4]⟩), Value.int IntKind.i64 1048576]) σ (fun v0 s1 => pBin Try.prog 3 BinOp.lss v0 (Value.int IntKind.i64 0) (fun v2 => pIf v2 (R (Value.bool true) s1) (AC Try.prog w0 n_laws_szStringS [a1, v0] s1 (fun v3 s4 => pBin Try.prog 3 BinOp.lss v3 (Value.int IntKind.i64 0) (fun v5 => pIf v5 (R (Value.bool true) s4) (AC Try.prog w0 n_laws_toTree ([Value.agg (⟨[cellOf a0 0, cellOf a0 1, cellOf a0 2, cellOf a0 3, cellOf a0 4]⟩)]) s4 (fun v6 s7 => AC Try.prog w0 n_laws_toStringS [a1] s7 (fun v8 s9 => AC Try.prog w0 n_spec_TreeAt [v6, v8] s9 (fun v10 s11 => pExtract v10 0 (fun v12 => pExtract v10 1 (fun v13 => pVal true 5 v12 (AC Try.prog w0 n_laws_toTree ([Value.agg (⟨[cellOf a0 0, cellOf a0 1, cellOf a0 2, cellOf a0 3, cellOf a0 4]⟩)]) s11 (fun v14 s15 => pVal true 5 v14 (AC Try.prog w0 n_laws_toStringS [a1] s15 (fun v16 s17 => AC Try.prog w0 n_impl_TreeAt ([Value.agg (⟨[cellOf v14 0, cellOf v14 1, cellOf v14 2, cellOf v14 3, cellOf v14 4]⟩), v16]) s17 (fun v18 s19 => pExtract v18 0 (fun v20 => pExtract v18 1 (fun v21 => pVal true 5 v20 (AC Try.prog w0 n_laws_eqTree ([Value.agg (⟨[cellOf v20 0, cellOf v20 1, cellOf v20 2, cellOf v20 3, cellOf v20 4]⟩), Value.agg (⟨[cellOf v12 0, cellOf v12 1, cellOf v12 2, cellOf v12 3, cellOf v12 4]⟩)]) s19 (fun v22 s23 => pUn UnOp.not v22 (fun v24 => pIf v24 (R (Value.bool false) s23) (pBin Try.prog 4 BinOp.neq v21 v13 (fun v25 => pIf v25 (R (Value.bool false) s23) (AC Try.prog w0 n_laws_toTree ([Value.agg (⟨[cellOf a0 0, cellOf a0 1, cellOf a0 2, cellOf a0 3, cellOf a0 4]⟩)]) s23 (fun v26 s27 => AC Try.prog w0 n_laws_eqTree ([Value.agg (⟨[cellOf v14 0, cellOf v14 1, cellOf v14 2, cellOf v14 3, cellOf v14 4]⟩), v26]) s27 (fun v28 s29 => pUn UnOp.not v28 (fun v30 => pIf v30 (R (Value.bool false) s29) (AC Try.prog w0 n_laws_toStringS [a1] s29 (fun v31 s32 => AC Try.prog w0 n_laws_eqStringS [v16, v31] s32 (fun v33 s34 => pUn UnOp.not v33 (fun v35 => pIf v35 (R (Value.bool false) s34) (AC Try.prog w0 n_laws_markTree ([Value.agg (⟨[cellOf v14 0, cellOf v14 1, cellOf v14 2, cellOf v14 3, cellOf v14 4]⟩), Value.int IntKind.i64 1]) s34 (fun v36 s37 => AC Try.prog w0 n_laws_markStringS [v16, v36] s37 (fun v38 s39 => pBin Try.prog 3 BinOp.lss v38 (Value.int IntKind.i64 0) (fun v40 => pIf v40 (R (Value.bool false) s39) (AC Try.prog w0 n_laws_eqTree ([Value.agg (⟨[cellOf v20 0, cellOf v20 1, cellOf v20 2, cellOf v20 3, cellOf v20 4]⟩), Value.agg (⟨[cellOf v12 0, cellOf v12 1, cellOf v12 2, cellOf v12 3, cellOf v12 4]⟩)]) s39 (fun v41 s42 => pUn UnOp.not v41 (fun v43 => pIf v43 (R (Value.bool false) s42) (pBin Try.prog 4 BinOp.neq v21 v13 (fun v44 => pIf v44 (R (Value.bool false) s42) (AC Try.prog w0 n_laws_markTree ([Value.agg (⟨[cellOf v20 0, cellOf v20 1, cellOf v20 2, cellOf v20 3, cellOf v20 4]⟩), Value.int IntKind.i64 1]) s42 (fun v45 s46 => AC Try.prog w0 n_laws_heldTree ([Value.agg (⟨[cellOf v20 0, cellOf v20 1, cellOf v20 2, cellOf v20 3, cellOf v20 4]⟩), Value.int IntKind.i64 1]) s46 (fun v47 s48 => pBin Try.prog 3 BinOp.lss v47 (Value.int IntKind.i64 0) (fun v49 => pIf v49 (R (Value.bool false) s48) (pBin Try.prog 3 BinOp.neq v47 v45 (fun v50 => pIf v50 (R (Value.bool false) s48) (AC Try.prog w0 n_laws_toTree ([Value.agg (⟨[cellOf a0 0, cellOf a0 1, cellOf a0 2, cellOf a0 3, cellOf a0 4]⟩)]) s48 (fun v51 s52 => AC Try.prog w0 n_laws_toStringS [a1] s52 (fun v53 s54 => AC Try.prog w0 n_impl_TreeAt [v51, v53] s54 (fun v55 s56 => pExtract v55 0 (fun v57 => pExtract v55 1 (fun v58 => pVal true 5 v57 (AC Try.prog w0 n_laws_eqTree ([Value.agg (⟨[cellOf v57 0, cellOf v57 1, cellOf v57 2, cellOf v57 3, cellOf v57 4]⟩), Value.agg (⟨[cellOf v12 0, cellOf v12 1, cellOf v12 2, cellOf v12 3, cellOf v12 4]⟩)]) s56 (fun v59 s60 => pUn UnOp.not v59 (fun v61 => pIf v61 (R (Value.bool false) s60) (pBin Try.prog 4 BinOp.neq v58 v13 (fun v62 => pIf v62 (R (Value.bool false) s60) (AC Try.prog w0 n_laws_heldTree ([Value.agg (⟨[cellOf v20 0, cellOf v20 1, cellOf v20 2, cellOf v20 3, cellOf v20 4]⟩), Value.int IntKind.i64 1]) s60 (fun v63 s64 => pBin Try.prog 3 BinOp.lss v63 (Value.int IntKind.i64 0) (fun v65 => pIf v65 (R (Value.bool false) s64) (pBin Try.prog 3 BinOp.neq v63 v45 (fun v66 => pIf v66 (R (Value.bool false) s64) (R (Value.bool true) s64))))))))))))))))))))))))))))))))))))))))))))))))))))))))))))))))
theorem vc_laws_FnExactTreeAt_eq (w0 : World) (a0 a1 : Value) (σ : Vw) (R : Value → Vw → Prop) : vc_laws_FnExactTreeAt w0 a0 a1 σ R = den Try.prog w0 kp_laws_FnExactTreeAt esc_laws_FnExactTreeAt (Try.f4.body.getD .skip) (entry Try.f4.ntmps [a0, a1]) σ (retK Try.prog Try.f4.results.toList R) := by kernel_rfl
theorem ac_laws_FnExactTreeAt {w0 : World} {a0 a1 : Value} {σ : Vw} {R : Value → Vw → Prop} (h : vc_laws_FnExactTreeAt w0 a0 a1 σ R) : AC Try.prog w0 n_laws_FnExactTreeAt [a0, a1] σ R := by
  refine ac_rule (fn := Try.f4) (c := Try.f4.body.getD .skip) kp_laws_FnExactTreeAt esc_laws_FnExactTreeAt Try.func4 (by kernel_rfl) (by kernel_rfl) ?_
  rw [← vc_laws_FnExactTreeAt_eq]
  exact h

/-- laws.FnExactTrailOf -/
def kp_laws_FnExactTrailOf : Nat → Keep
  | 8 => ⟨[], [], [], .step 0 (.step 2 (.step 1 (.step 3 (.step 4 (.step 5 (.done)))))), [(1, [0]), (3, [0, 1, 2]), (4, [0, 1, 2, 3]), (5, [0, 1, 2, 3, 4])]⟩
  | 14 => ⟨[], [], [], .step 0 (.step 1 (.step 2 (.step 3 (.step 4 (.done))))), [(2, [1]), (3, [0, 1, 2]), (4, [0, 1, 2, 3])]⟩
  | 16 => ⟨[], [], [], .step 0 (.step 1 (.step 2 (.step 3 (.step 4 (.done))))), [(2, [1]), (3, [0, 1, 2]), (4, [0, 1, 2, 3])]⟩
  | 31 => ⟨[], [], [], .step 0 (.step 2 (.step 1 (.step 3 (.step 4 (.step 5 (.done)))))), [(1, [0]), (3, [0, 1, 2]), (4, [0, 1, 2, 3]), (5, [0, 1, 2, 3, 4])]⟩
  | _ => ⟨[], [], [], .done, []⟩
def esc_laws_FnExactTrailOf : Nat → Bool
  | _ => false
def vc_laws_FnExactTrailOf (w0 : World) (a0 a1 : Value) (σ : Vw) (R : Value → Vw → Prop) : Prop :=
  pVal true 5 a0 (pVal true 5 a1 (AC Try.prog w0 n_laws_szTree ([Value.agg (⟨[cellOf a0 0, cellOf a0 1, cellOf a0 2, cellOf a0 3, cellOf a0 4]⟩), Value.int IntKind.i64 1048576]) σ (fun v0 s1 => pBin Try.prog 3 BinOp.lss v0 (Value.int IntKind.i64 0) (fun v2 => pIf v2 (R (Value.bool true) s1) (AC Try.prog w0 n_laws_szCall ([Value.agg (⟨[cellOf a1 0, cellOf a1 1, cellOf a1 2, cellOf a1 3, cellOf a1 4]⟩), v0]) s1 (fun v3 s4 => pBin Try.prog 3 BinOp.lss v3 (Value.int IntKind.i64 0) (fun v5 => pIf v5 (R (Value.bool true) s4) (AC Try.prog w0 n_laws_toTree ([Value.agg (⟨[cellOf a0 0, cellOf a0 1, cellOf a0 2, cellOf a0 3, cellOf a0 4]⟩)]) s4 (fun v6 s7 => AC Try.prog w0 n_laws_toCall ([Value.agg (⟨[cellOf a1 0, cellOf a1 1, cellOf a1 2, cellOf a1 3, cellOf a1 4]⟩)]) s7 (fun v8 s9 => AC Try.prog w0 n_spec_TrailOf [v6, v8] s9 (fun v10 s11 => AC Try.prog w0 n_laws_toTree ([Value.agg (⟨[cellOf a0 0, cellOf a0 1, cellOf a0 2, cellOf a0 3, cellOf a0 4]⟩)]) s11 (fun v12 s13 => pVal true 5 v12 (AC Try.prog w0 n_laws_toCall ([Value.agg (⟨[cellOf a1 0, cellOf a1 1, cellOf a1 2, cellOf a1 3, cellOf a1 4]⟩)]) s13 (fun v14 s15 => pVal true 5 v14 (AC Try.prog w0 n_impl_TrailOf ([Value.agg (⟨[cellOf v12 0, cellOf v12 1, cellOf v12 2, cellOf v12 3, cellOf v12 4]⟩), Value.agg (⟨[cellOf v14 0, cellOf v14 1, cellOf v14 2, cellOf v14 3, cellOf v14 4]⟩)]) s15 (fun v16 s17 => AC Try.prog w0 n_laws_eqMarkS [v16, v10] s17 (fun v18 s19 => pUn UnOp.not v18 (fun v20 => pIf v20 (R (Value.bool false) s19) (AC Try.prog w0 n_laws_toTree ([Value.agg (⟨[cellOf a0 0, cellOf a0 1, cellOf a0 2, cellOf a0 3, cellOf a0 4]⟩)]) s19 (fun v21 s22 => AC Try.prog w0 n_laws_eqTree ([Value.agg (⟨[cellOf v12 0, cellOf v12 1, cellOf v12 2, cellOf v12 3, cellOf v12 4]⟩), v21]) s22 (fun v23 s24 => pUn UnOp.not v23 (fun v25 => pIf v25 (R (Value.bool false) s24) (AC Try.prog w0 n_laws_toCall ([Value.agg (⟨[cellOf a1 0, cellOf a1 1, cellOf a1 2, cellOf a1 3, cellOf a1 4]⟩)]) s24 (fun v26 s27 => AC Try.prog w0 n_laws_eqCall ([Value.agg (⟨[cellOf v14 0, cellOf v14 1, cellOf v14 2, cellOf v14 3, cellOf v14 4]⟩), v26]) s27 (fun v28 s29 => pUn UnOp.not v28 (fun v30 => pIf v30 (R (Value.bool false) s29) (AC Try.prog w0 n_laws_markTree ([Value.agg (⟨[cellOf v12 0, cellOf v12 1, cellOf v12 2, cellOf v12 3, cellOf v12 4]⟩), Value.int IntKind.i64 1]) s29 (fun v31 s32 => AC Try.prog w0 n_laws_markCall ([Value.agg (⟨[cellOf v14 0, cellOf v14 1, cellOf v14 2, cellOf v14 3, cellOf v14 4]⟩), v31]) s32 (fun v33 s34 => pBin Try.prog 3 BinOp.lss v33 (Value.int IntKind.i64 0) (fun v35 => pIf v35 (R (Value.bool false) s34) (AC Try.prog w0 n_laws_eqMarkS [v16, v10] s34 (fun v36 s37 => pUn UnOp.not v36 (fun v38 => pIf v38 (R (Value.bool false) s37) (AC Try.prog w0 n_laws_markMarkS [v16, Value.int IntKind.i64 1] s37 (fun v39 s40 => AC Try.prog w0 n_laws_heldMarkS [v16, Value.int IntKind.i64 1] s40 (fun v41 s42 => pBin Try.prog 3 BinOp.lss v41 (Value.int IntKind.i64 0) (fun v43 => pIf v43 (R (Value.bool false) s42) (pBin Try.prog 3 BinOp.neq v41 v39 (fun v44 => pIf v44 (R (Value.bool false) s42) (AC Try.prog w0 n_laws_toTree ([Value.agg (⟨[cellOf a0 0, cellOf a0 1, cellOf a0 2, cellOf a0 3, cellOf a0 4]⟩)]) s42 (fun v45 s46 => AC Try.prog w0 n_laws_toCall ([Value.agg (⟨[cellOf a1 0, cellOf a1 1, cellOf a1 2, cellOf a1 3, cellOf a1 4]⟩)]) s46 (fun v47 s48 => AC Try.prog w0 n_impl_TrailOf [v45, v47] s48 (fun v49 s50 => AC Try.prog w0 n_laws_eqMarkS [v49, v10] s50 (fun v51 s52 => pUn UnOp.not v51 (fun v53 => pIf v53 (R (Value.bool false) s52) (AC Try.prog w0 n_laws_heldMarkS [v16, Value.int IntKind.i64 1] s52 (fun v54 s55 => pBin Try.prog 3 BinOp.lss v54 (Value.int IntKind.i64 0) (fun v56 => pIf v56 (R (Value.bool false) s55) (pBin Try.prog 3 BinOp.neq v54 v39 (fun v57 => pIf v57 (R (Value.bool false) s55) (R (Value.bool true) s55)))))))))))))))))))))))))))))))))))))))))))))))))))
theorem vc_laws_FnExactTrailOf_eq (w0 : World) (a0 a1 : Value) (σ : Vw) (R : Value → Vw → Prop) : vc_laws_FnExactTrailOf w0 a0 a1 σ R = den Try.prog w0 kp_laws_FnExactTrailOf esc_laws_FnExactTrailOf (Try.f5.body.getD .skip) (entry Try.f5.ntmps [a0, a1]) σ (retK Try.prog Try.f5.results.toList R) := by kernel_rfl
theorem ac_laws_FnExactTrailOf {w0 : World} {a0 a1 : Value} {σ : Vw} {R : Value → Vw → Prop} (h : vc_laws_FnExactTrailOf w0 a0 a1 σ R) : AC Try.prog w0 n_laws_FnExactTrailOf [a0, a1] σ R := by
  refine ac_rule (fn := Try.f5) (c := Try.f5.body.getD .skip) kp_laws_FnExactTrailOf esc_laws_FnExactTrailOf Try.func5 (by kernel_rfl) (by kernel_rfl) ?_
  rw [← vc_laws_FnExactTrailOf_eq]
  exact h

/-- laws.FnExactTrailAdd -/
def kp_laws_FnExactTrailAdd : Nat → Keep
  | 8 => ⟨[], [], [], .step 0 (.step 2 (.step 1 (.step 3 (.step 4 (.step 5 (.done)))))), [(1, [0]), (3, [0, 1, 2]), (4, [0, 1, 2, 3]), (5, [0, 1, 2, 3, 4])]⟩
  | 16 => ⟨[], [], [], .step 0 (.step 1 (.step 2 (.step 3 (.step 4 (.done))))), [(2, [1]), (3, [0, 1, 2]), (4, [0, 1, 2, 3])]⟩
  | 31 => ⟨[], [], [], .step 0 (.step 2 (.step 1 (.step 3 (.step 4 (.step 5 (.done)))))), [(1, [0]), (3, [0, 1, 2]), (4, [0, 1, 2, 3]), (5, [0, 1, 2, 3, 4])]⟩
  | _ => ⟨[], [], [], .done, []⟩
def esc_laws_FnExactTrailAdd : Nat → Bool
  | _ => false
def vc_laws_FnExactTrailAdd (w0 : World) (a0 a1 : Value) (σ : Vw) (R : Value → Vw → Prop) : Prop :=
  pVal true 2 a1 (AC Try.prog w0 n_laws_szMarkS [a0, Value.int IntKind.i64 1048576] σ (fun v0 s1 => pBin Try.prog 3 BinOp.lss v0 (Value.int IntKind.i64 0) (fun v2 => pIf v2 (R (Value.bool true) s1) (AC Try.prog w0 n_laws_szMark ([Value.agg (⟨[cellOf a1 0, cellOf a1 1]⟩), v0]) s1 (fun v3 s4 => pBin Try.prog 3 BinOp.lss v3 (Value.int IntKind.i64 0) (fun v5 => pIf v5 (R (Value.bool true) s4) (AC Try.prog w0 n_laws_toMarkS [a0] s4 (fun v6 s7 => AC Try.prog w0 n_laws_toMark ([Value.agg (⟨[cellOf a1 0, cellOf a1 1]⟩)]) s7 (fun v8 s9 => AC Try.prog w0 n_spec_TrailAdd [v6, v8] s9 (fun v10 s11 => AC Try.prog w0 n_laws_toMarkS [a0] s11 (fun v12 s13 => AC Try.prog w0 n_laws_toMark ([Value.agg (⟨[cellOf a1 0, cellOf a1 1]⟩)]) s13 (fun v14 s15 => pVal true 2 v14 (AC Try.prog w0 n_impl_TrailAdd ([v12, Value.agg (⟨[cellOf v14 0, cellOf v14 1]⟩)]) s15 (fun v16 s17 => AC Try.prog w0 n_laws_eqMarkS [v16, v10] s17 (fun v18 s19 => pUn UnOp.not v18 (fun v20 => pIf v20 (R (Value.bool false) s19) (AC Try.prog w0 n_laws_toMarkS [a0] s19 (fun v21 s22 => AC Try.prog w0 n_laws_eqMarkS [v12, v21] s22 (fun v23 s24 => pUn UnOp.not v23 (fun v25 => pIf v25 (R (Value.bool false) s24) (AC Try.prog w0 n_laws_toMark ([Value.agg (⟨[cellOf a1 0, cellOf a1 1]⟩)]) s24 (fun v26 s27 => AC Try.prog w0 n_laws_eqMark ([Value.agg (⟨[cellOf v14 0, cellOf v14 1]⟩), v26]) s27 (fun v28 s29 => pUn UnOp.not v28 (fun v30 => pIf v30 (R (Value.bool false) s29) (AC Try.prog w0 n_laws_markMarkS [v12, Value.int IntKind.i64 1] s29 (fun v31 s32 => AC Try.prog w0 n_laws_markMark ([Value.agg (⟨[cellOf v14 0, cellOf v14 1]⟩), v31]) s32 (fun v33 s34 => pBin Try.prog 3 BinOp.lss v33 (Value.int IntKind.i64 0) (fun v35 => pIf v35 (R (Value.bool false) s34) (AC Try.prog w0 n_laws_eqMarkS [v16, v10] s34 (fun v36 s37 => pUn UnOp.not v36 (fun v38 => pIf v38 (R (Value.bool false) s37) (AC Try.prog w0 n_laws_markMarkS [v16, Value.int IntKind.i64 1] s37 (fun v39 s40 => AC Try.prog w0 n_laws_heldMarkS [v16, Value.int IntKind.i64 1] s40 (fun v41 s42 => pBin Try.prog 3 BinOp.lss v41 (Value.int IntKind.i64 0) (fun v43 => pIf v43 (R (Value.bool false) s42) (pBin Try.prog 3 BinOp.neq v41 v39 (fun v44 => pIf v44 (R (Value.bool false) s42) (AC Try.prog w0 n_laws_toMarkS [a0] s42 (fun v45 s46 => AC Try.prog w0 n_laws_toMark ([Value.agg (⟨[cellOf a1 0, cellOf a1 1]⟩)]) s46 (fun v47 s48 => AC Try.prog w0 n_impl_TrailAdd [v45, v47] s48 (fun v49 s50 => AC Try.prog w0 n_laws_eqMarkS [v49, v10] s50 (fun v51 s52 => pUn UnOp.not v51 (fun v53 => pIf v53 (R (Value.bool false) s52) (AC Try.prog w0 n_laws_heldMarkS [v16, Value.int IntKind.i64 1] s52 (fun v54 s55 => pBin Try.prog 3 BinOp.lss v54 (Value.int IntKind.i64 0) (fun v56 => pIf v56 (R (Value.bool false) s55) (pBin Try.prog 3 BinOp.neq v54 v39 (fun v57 => pIf v57 (R (Value.bool false) s55) (R (Value.bool true) s55)))))))))))))))))))))))))))))))))))))))))))))))))
theorem vc_laws_FnExactTrailAdd_eq (w0 : World) (a0 a1 : Value) (σ : Vw) (R : Value → Vw → Prop) : vc_laws_FnExactTrailAdd w0 a0 a1 σ R = den Try.prog w0 kp_laws_FnExactTrailAdd esc_laws_FnExactTrailAdd (Try.f6.body.getD .skip) (entry Try.f6.ntmps [a0, a1]) σ (retK Try.prog Try.f6.results.toList R) := by kernel_rfl
theorem ac_laws_FnExactTrailAdd {w0 : World} {a0 a1 : Value} {σ : Vw} {R : Value → Vw → Prop} (h : vc_laws_FnExactTrailAdd w0 a0 a1 σ R) : AC Try.prog w0 n_laws_FnExactTrailAdd [a0, a1] σ R := by
  refine ac_rule (fn := Try.f6) (c := Try.f6.body.getD .skip) kp_laws_FnExactTrailAdd esc_laws_FnExactTrailAdd Try.func6 (by kernel_rfl) (by kernel_rfl) ?_
  rw [← vc_laws_FnExactTrailAdd_eq]
  exact h

/-- laws.FnExactDiffWalk -/
def kp_laws_FnExactDiffWalk : Nat → Keep
  | 8 => ⟨[], [], [], .step 0 (.step 2 (.step 1 (.step 3 (.step 4 (.step 5 (.done)))))), [(1, [0]), (3, [0, 1, 2]), (4, [0, 1, 2, 3]), (5, [0, 1, 2, 3, 4])]⟩
  | 14 => ⟨[], [], [], .step 0 (.step 1 (.step 2 (.step 3 (.step 4 (.done))))), [(2, [1]), (3, [0, 1, 2]), (4, [0, 1, 2, 3])]⟩
  | 16 => ⟨[], [], [], .step 0 (.step 1 (.step 2 (.step 3 (.step 4 (.done))))), [(2, [1]), (3, [0, 1, 2]), (4, [0, 1, 2, 3])]⟩
  | 31 => ⟨[], [], [], .step 0 (.step 2 (.step 1 (.step 3 (.step 4 (.step 5 (.done)))))), [(1, [0]), (3, [0, 1, 2]), (4, [0, 1, 2, 3]), (5, [0, 1, 2, 3, 4])]⟩
  | _ => ⟨[], [], [], .done, []⟩
def esc_laws_FnExactDiffWalk : Nat → Bool
  | _ => false
def vc_laws_FnExactDiffWalk (w0 : World) (a0 a1 : Value) (σ : Vw) (R : Value → Vw → Prop) : Prop :=
  pVal true 5 a0 (pVal true 5 a1 (AC Try.prog w0 n_laws_szTree ([Value.agg (⟨[cellOf a0 0, cellOf a0 1, cellOf a0 2, cellOf a0 3, cellOf a0 4]⟩), Value.int IntKind.i64 1048576]) σ (fun v0 s1 => pBin Try.prog 3 BinOp.lss v0 (Value.int IntKind.i64 0) (fun v2 => pIf v2 (R (Value.bool true) s1) (AC Try.prog w0 n_laws_szTree ([Value.agg (⟨[cellOf a1 0, cellOf a1 1, cellOf a1 2, cellOf a1 3, cellOf a1 4]⟩), v0]) s1 (fun v3 s4 => pBin Try.prog 3 BinOp.lss v3 (Value.int IntKind.i64 0) (fun v5 => pIf v5 (R (Value.bool true) s4) (AC Try.prog w0 n_laws_toTree ([Value.agg (⟨[cellOf a0 0, cellOf a0 1, cellOf a0 2, cellOf a0 3, cellOf a0 4]⟩)]) s4 (fun v6 s7 => AC Try.prog w0 n_laws_toTree ([Value.agg (⟨[cellOf a1 0, cellOf a1 1, cellOf a1 2, cellOf a1 3, cellOf a1 4]⟩)]) s7 (fun v8 s9 => AC Try.prog w0 n_spec_DiffWalk [v6, v8] s9 (fun v10 s11 => AC Try.prog w0 n_laws_toTree ([Value.agg (⟨[cellOf a0 0, cellOf a0 1, cellOf a0 2, cellOf a0 3, cellOf a0 4]⟩)]) s11 (fun v12 s13 => pVal true 5 v12 (AC Try.prog w0 n_laws_toTree ([Value.agg (⟨[cellOf a1 0, cellOf a1 1, cellOf a1 2, cellOf a1 3, cellOf a1 4]⟩)]) s13 (fun v14 s15 => pVal true 5 v14 (AC Try.prog w0 n_impl_DiffWalk ([Value.agg (⟨[cellOf v12 0, cellOf v12 1, cellOf v12 2, cellOf v12 3, cellOf v12 4]⟩), Value.agg (⟨[cellOf v14 0, cellOf v14 1, cellOf v14 2, cellOf v14 3, cellOf v14 4]⟩)]) s15 (fun v16 s17 => AC Try.prog w0 n_laws_eqEntryS [v16, v10] s17 (fun v18 s19 => pUn UnOp.not v18 (fun v20 => pIf v20 (R (Value.bool false) s19) (AC Try.prog w0 n_laws_toTree ([Value.agg (⟨[cellOf a0 0, cellOf a0 1, cellOf a0 2, cellOf a0 3, cellOf a0 4]⟩)]) s19 (fun v21 s22 => AC Try.prog w0 n_laws_eqTree ([Value.agg (⟨[cellOf v12 0, cellOf v12 1, cellOf v12 2, cellOf v12 3, cellOf v12 4]⟩), v21]) s22 (fun v23 s24 => pUn UnOp.not v23 (fun v25 => pIf v25 (R (Value.bool false) s24) (AC Try.prog w0 n_laws_toTree ([Value.agg (⟨[cellOf a1 0, cellOf a1 1, cellOf a1 2, cellOf a1 3, cellOf a1 4]⟩)]) s24 (fun v26 s27 => AC Try.prog w0 n_laws_eqTree ([Value.agg (⟨[cellOf v14 0, cellOf v14 1, cellOf v14 2, cellOf v14 3, cellOf v14 4]⟩), v26]) s27 (fun v28 s29 => pUn UnOp.not v28 (fun v30 => pIf v30 (R (Value.bool false) s29) (AC Try.prog w0 n_laws_markTree ([Value.agg (⟨[cellOf v12 0, cellOf v12 1, cellOf v12 2, cellOf v12 3, cellOf v12 4]⟩), Value.int IntKind.i64 1]) s29 (fun v31 s32 => AC Try.prog w0 n_laws_markTree ([Value.agg (⟨[cellOf v14 0, cellOf v14 1, cellOf v14 2, cellOf v14 3, cellOf v14 4]⟩), v31]) s32 (fun v33 s34 => pBin Try.prog 3 BinOp.lss v33 (Value.int IntKind.i64 0) (fun v35 => pIf v35 (R (Value.bool false) s34) (AC Try.prog w0 n_laws_eqEntryS [v16, v10] s34 (fun v36 s37 => pUn UnOp.not v36 (fun v38 => pIf v38 (R (Value.bool false) s37) (AC Try.prog w0 n_laws_markEntryS [v16, Value.int IntKind.i64 1] s37 (fun v39 s40 => AC Try.prog w0 n_laws_heldEntryS [v16, Value.int IntKind.i64 1] s40 (fun v41 s42 => pBin Try.prog 3 BinOp.lss v41 (Value.int IntKind.i64 0) (fun v43 => pIf v43 (R (Value.bool false) s42) (pBin Try.prog 3 BinOp.neq v41 v39 (fun v44 => pIf v44 (R (Value.bool false) s42) (AC Try.prog w0 n_laws_toTree ([Value.agg (⟨[cellOf a0 0, cellOf a0 1, cellOf a0 2, cellOf a0 3, cellOf a0 4]⟩)]) s42 (fun v45 s46 => AC Try.prog w0 n_laws_toTree ([Value.agg (⟨[cellOf a1 0, cellOf a1 1, cellOf a1 2, cellOf a1 3, cellOf a1 4]⟩)]) s46 (fun v47 s48 => AC Try.prog w0 n_impl_DiffWalk [v45, v47] s48 (fun v49 s50 => AC Try.prog w0 n_laws_eqEntryS [v49, v10] s50 (fun v51 s52 => pUn UnOp.not v51 (fun v53 => pIf v53 (R (Value.bool false) s52) (AC Try.prog w0 n_laws_heldEntryS [v16, Value.int IntKind.i64 1] s52 (fun v54 s55 => pBin Try.prog 3 BinOp.lss v54 (Value.int IntKind.i64 0) (fun v56 => pIf v56 (R (Value.bool false) s55) (pBin Try.prog 3 BinOp.neq v54 v39 (fun v57 => pIf v57 (R (Value.bool false) s55) (R (Value.bool true) s55)))))))))))))))))))))))))))))))))))))))))))))))))))
theorem vc_laws_FnExactDiffWalk_eq (w0 : World) (a0 a1 : Value) (σ : Vw) (R : Value → Vw → Prop) : vc_laws_FnExactDiffWalk w0 a0 a1 σ R = den Try.prog w0 kp_laws_FnExactDiffWalk esc_laws_FnExactDiffWalk (Try.f7.body.getD .skip) (entry Try.f7.ntmps [a0, a1]) σ (retK Try.prog Try.f7.results.toList R) := by kernel_rfl
theorem ac_laws_FnExactDiffWalk {w0 : World} {a0 a1 : Value} {σ : Vw} {R : Value → Vw → Prop} (h : vc_laws_FnExactDiffWalk w0 a0 a1 σ R) : AC Try.prog w0 n_laws_FnExactDiffWalk [a0, a1] σ R := by
  refine ac_rule (fn := Try.f7) (c := Try.f7.body.getD .skip) kp_laws_FnExactDiffWalk esc_laws_FnExactDiffWalk Try.func7 (by kernel_rfl) (by kernel_rfl) ?_
  rw [← vc_laws_FnExactDiffWalk_eq]
  exact h

/-- laws.FnTreeSee -/
def kp_laws_FnTreeSee : Nat → Keep
  | 13 => ⟨[], [], [], .step 0 (.step 1 (.step 2 (.step 3 (.step 4 (.step 5 (.step 6 (.step 7 (.step 8 (.step 9 (.step 10 (.step 11 (.step 12 (.step 13 (.step 14 (.step 15 (.step 16 (.step 17 (.step 18 (.step 19 (.step 20 (.step 21 (.step 23 (.step 22 (.step 24 (.step 25 (.step 26 (.done))))))))))))))))))))))))))), [(2, [0, 1]), (3, [0, 1, 2]), (4, [0, 1, 2, 3]), (5, [0, 1, 2, 3]), (6, [0, 1, 2, 3, 4, 5]), (7, [0, 1, 2, 3, 4, 5, 6]), (8, [0, 1, 2, 3, 4, 5, 6, 7]), (9, [0, 1, 2, 3, 4, 5, 6, 7, 8]), (10, [0, 1, 2, 3, 4, 5, 6, 7, 8, 9]), (11, [0, 1, 2, 3, 4, 5, 6, 7, 8, 9]), (12, [0, 1, 2, 3, 4, 5, 6, 7, 8, 9, 10, 11]), (13, [0, 1, 2, 3, 4, 5, 6, 7, 8, 9, 10, 11, 12]), (14, [0, 1, 2, 3, 4, 5, 6, 7, 8, 9, 10, 11, 12, 13]), (15, [0, 1, 2, 3, 4, 5, 6, 7, 8, 9, 10, 11, 12, 13, 14]), (16, [0, 1, 2, 3, 4, 5, 6, 7, 8, 9, 10, 11, 12, 13, 14]), (17, [0, 1, 2, 3, 4, 5, 6, 7, 8, 9, 10, 11, 12, 13, 14, 15, 16]), (18, [0, 1, 2, 3, 4, 5, 6, 7, 8, 9, 10, 11, 12, 13, 14, 15, 16, 17]), (19, [0, 1, 2, 3, 4, 5, 6, 7, 8, 9, 10, 11, 12, 13, 14, 15, 16, 17, 18]), (20, [0, 1, 2, 3, 4, 5, 6, 7, 8, 9, 10, 11, 12, 13, 14, 15, 16, 17, 18, 19]), (21, [0, 1, 2, 3, 4, 5, 6, 7, 8, 9, 10, 11, 12, 13, 14, 15, 16, 17, 18, 19, 20]), (22, [0, 1, 2, 3, 4, 5, 6, 7, 8, 9, 10, 11, 12, 13, 14, 15, 16, 17, 18, 19, 20, 21]), (23, [0, 1, 2, 3, 4, 5, 6, 7, 8, 9, 10, 11, 12, 13, 14, 15, 16, 17, 18, 19, 20]), (24, [0, 1, 2, 3, 4, 5, 6, 7, 8, 9, 10, 11, 12, 13, 14, 15, 16, 17, 18, 19, 20, 21, 22, 23]), (25, [0, 1, 2, 3, 4, 5, 6, 7, 8, 9, 10, 11, 12, 13, 14, 15, 16, 17, 18, 19, 20, 21, 22, 23, 24]), (26, [0, 1, 2, 3, 4, 5, 6, 7, 8, 9, 10, 11, 12, 13, 14, 15, 16, 17, 18, 19, 20, 21, 22, 23, 24, 25])]⟩
  | 16 => ⟨[4, 14, 15, 23], [(13, 5)], [13], .done, []⟩
  | 18 => ⟨[], [], [], .step 0 (.step 2 (.step 4 (.step 5 (.step 6 (.step 7 (.step 8 (.step 14 (.step 1 (.step 3 (.step 9 (.step 10 (.step 11 (.step 12 (.step 13 (.step 15 (.step 16 (.done))))))))))))))))), [(3, [1, 2]), (6, [4, 5]), (7, [4, 5, 6]), (8, [4, 5, 6, 7]), (9, [1, 2, 3, 4, 5, 6, 7, 8]), (10, [0, 1, 2, 3, 4, 5, 6, 7, 8, 9]), (11, [0, 1, 2, 3, 4, 5, 6, 7, 8, 9, 10]), (12, [0, 1, 2, 3, 4, 5, 6, 7, 8, 9, 10, 11]), (13, [0, 1, 2, 3, 4, 5, 6, 7, 8, 9, 10, 11]), (15, [0, 1, 2, 3, 4, 5, 6, 7, 8, 9, 10, 11, 12, 14]), (16, [0, 1, 2, 3, 4, 5, 6, 7, 8, 9, 10, 11, 12, 13, 14, 15])]⟩
  | 21 => ⟨[], [], [], .step 0 (.step 1 (.step 2 (.step 3 (.step 4 (.step 6 (.step 5 (.step 7 (.step 8 (.step 9 (.step 10 (.step 11 (.done)))))))))))), [(1, [0]), (2, [0, 1]), (3, [0, 1, 2]), (4, [0, 1, 2, 3]), (5, [0, 1, 2, 3, 4]), (6, [0, 1, 2, 3]), (7, [0, 1, 2, 3, 4, 5, 6]), (8, [0, 1, 2, 3, 4, 5, 6, 7]), (9, [0, 1, 2, 3, 4, 5, 6, 7, 8]), (10, [0, 1, 2, 3, 4, 5, 6, 7, 8, 9]), (11, [0, 1, 2, 3, 4, 5, 6, 7, 8, 9, 10])]⟩
  | _ => ⟨[], [], [], .done, []⟩
def esc_laws_FnTreeSee : Nat → Bool
  | 129 => true
  | _ => false
def vc_laws_FnTreeSee (w0 : World) (a0 a1 : Value) (σ : Vw) (R : Value → Vw → Prop) : Prop :=
  pLen a0 (fun v0 => pBin Try.prog 3 BinOp.gtr v0 (Value.int IntKind.i64 1048576) (fun v1 => pIf v1 (R (Value.bool true) σ) (pLen a1 (fun v2 => pBin Try.prog 3 BinOp.gtr v2 (Value.int IntKind.i64 1048576) (fun v3 => pIf v3 (R (Value.bool true) σ) (AC Try.prog w0 n_spec_DrawTreeRead [a0] σ (fun v4 s5 => pExtract v4 0 (fun v6 => pExtract v4 1 (fun v7 => pExtract v4 2 (fun v8 => pExtract v4 3 (fun v9 => pVal true 5 v6 (AC Try.prog w0 n_impl_TreeRead ([Value.agg (⟨[cellOf v6 0, cellOf v6 1, cellOf v6 2, cellOf v6 3, cellOf v6 4]⟩), v7, v8, v9]) s5 (fun v10 s11 => pExtract v10 0 (fun v12 => pExtract v10 1 (fun v13 => AC Try.prog w0 n_spec_TreeRead ([Value.agg (⟨[cellOf v6 0, cellOf v6 1, cellOf v6 2, cellOf v6 3, cellOf v6 4]⟩), v7, v8, v9]) s11 (fun v14 s15 => pExtract v14 0 (fun v16 => pExtract v14 1 (fun v17 => pBin Try.prog 9 BinOp.neq v12 v16 (fun v18 => pIf v18 (R (Value.bool false) s15) (pBin Try.prog 3 BinOp.neq v13 v17 (fun v19 => pIf v19 (R (Value.bool false) s15) (AC Try.prog w0 n_spec_DrawTreeList [a1] s15 (fun v20 s21 => pExtract v20 0 (fun v22 => pExtract v20 1 (fun v23 => pVal true 5 v22 (AC Try.prog w0 n_impl_TreeList ([Value.agg (⟨[cellOf v22 0, cellOf v22 1, cellOf v22 2, cellOf v22 3, cellOf v22 4]⟩), v23]) s21 (fun v24 s25 => pExtract v24 0 (fun v26 => pExtract v24 1 (fun v27 => AC Try.prog w0 n_spec_TreeList ([Value.agg (⟨[cellOf v22 0, cellOf v22 1, cellOf v22 2, cellOf v22 3, cellOf v22 4]⟩), v23]) s25 (fun v28 s29 => pExtract v28 0 (fun v30 => pExtract v28 1 (fun v31 => AC Try.prog w0 n_impl_TreeAt ([Value.agg (⟨[cellOf v22 0, cellOf v22 1, cellOf v22 2, cellOf v22 3, cellOf v22 4]⟩), v23]) s29 (fun v32 s33 => pExtract v32 0 (fun v34 => pExtract v32 1 (fun v35 => pVal true 5 v34 (AC Try.prog w0 n_spec_TreeAt ([Value.agg (⟨[cellOf v22 0, cellOf v22 1, cellOf v22 2, cellOf v22 3, cellOf v22 4]⟩), v23]) s33 (fun v36 s37 => pExtract v36 0 (fun v38 => pExtract v36 1 (fun v39 => pVal true 5 v38 (pBin Try.prog 3 BinOp.neq v27 v31 (fun v40 => pIf v40 (R (Value.bool false) s37) (AC Try.prog w0 n_laws_wtTexts [v26, v30] s37 (fun v41 s42 => pUn UnOp.not v41 (fun v43 => pIf v43 (R (Value.bool false) s42) (pBin Try.prog 4 BinOp.neq v35 v39 (fun v44 => pIf v44 (R (Value.bool false) s42) (AC Try.prog w0 n_laws_wtTree ([Value.agg (⟨[cellOf v34 0, cellOf v34 1, cellOf v34 2, cellOf v34 3, cellOf v34 4]⟩), Value.agg (⟨[cellOf v38 0, cellOf v38 1, cellOf v38 2, cellOf v38 3, cellOf v38 4]⟩)]) s42 (fun v45 s46 => pUn UnOp.not v45 (fun v47 => pIf v47 (R (Value.bool false) s46) (AC Try.prog w0 n_impl_TreeCount ([Value.agg (⟨[cellOf v22 0, cellOf v22 1, cellOf v22 2, cellOf v22 3, cellOf v22 4]⟩)]) s46 (fun v48 s49 => AC Try.prog w0 n_spec_TreeCount ([Value.agg (⟨[cellOf v22 0, cellOf v22 1, cellOf v22 2, cellOf v22 3, cellOf v22 4]⟩)]) s49 (fun v50 s51 => pBin Try.prog 3 BinOp.neq v48 v50 (fun v52 => pIf v52 (R (Value.bool false) s51) (pLoop (fun l53 K54 s55 => pLen (vget l53 2) (fun v56 => pBin Try.prog 3 BinOp.lss (vget l53 3) v56 (fun v57 => pIf v57 (pIndexAddr 1 (vget l53 2) (vget l53 3) (fun v58 => pLoad w0 1 v58 s55 (fun g59 => pVal false 1 (g59 0) (pNew w0 9 [] s55 (fun n60 s61 => (Stay w0 s55 s61 v58 1) ∧ (pAppendS w0 9 1 16 (Value.slice (Option.some (Addr.mk n60 0 Option.none)) 0 0) (vget l53 1) s61 (fun v62 s63 => (Stay w0 s61 s63 v58 1) ∧ ((allOne [g59 0]) ∧ (pAppend w0 9 1 16 v62 1 [g59 0] s63 (fun v64 s65 => AC Try.prog w0 n_impl_TreeAt ([Value.agg (⟨[vget l53 4, vget l53 5, vget l53 6, vget l53 7, vget l53 8]⟩), v64]) s65 (fun v66 s67 => pExtract v66 0 (fun v68 => pExtract v66 1 (fun v69 => pVal true 5 v68 (pUn UnOp.not v69 (fun v70 => pIf v70 (K54 AX.ret [Value.bool false, vget l53 1, vget l53 2, vget l53 3, vget l53 4, vget l53 5, vget l53 6, vget l53 7, vget l53 8] s67) (pBin Try.prog 3 BinOp.add (vget l53 3) (Value.int IntKind.i64 1) (fun v71 => K54 AX.normal [vget l53 0, vget l53 1, vget l53 2, v71, vget l53 4, vget l53 5, vget l53 6, vget l53 7, vget l53 8] s67))))))))))))))))) (K54 (AX.exit 0) [vget l53 0, vget l53 1, vget l53 2, vget l53 3, vget l53 4, vget l53 5, vget l53 6, vget l53 7, vget l53 8] s55)))) [Value.bool false, v23, v26, Value.int IntKind.i64 0, cellOf v22 0, cellOf v22 1, cellOf v22 2, cellOf v22 3, cellOf v22 4] s51 (fun x72 l73 s74 => match x72 with | .normal => AC Try.prog w0 n_spec_TreeOk ([Value.agg (⟨[vget l73 4, vget l73 5, vget l73 6, vget l73 7, vget l73 8]⟩)]) s74 (fun v75 s76 => pUn UnOp.not v75 (fun v77 => pIf v77 (R (Value.bool true) s76) (AC Try.prog w0 n_impl_TreeCount ([Value.agg (⟨[vget l73 4, vget l73 5, vget l73 6, vget l73 7, vget l73 8]⟩)]) s76 (fun v78 s79 => AC Try.prog w0 n_laws_wtPaths ([Value.agg (⟨[vget l73 4, vget l73 5, vget l73 6, vget l73 7, vget l73 8]⟩), Value.slice Option.none 0 0]) s79 (fun v80 s81 => pLen v80 (fun v82 => pBin Try.prog 3 BinOp.eql v78 v82 (fun v83 => R v83 s81))))))) | .ret => R (vget l73 0) s74 | .exit i84 => (match Nat.beq i84 0 with | true => AC Try.prog w0 n_spec_TreeOk ([Value.agg (⟨[vget l73 4, vget l73 5, vget l73 6, vget l73 7, vget l73 8]⟩)]) s74 (fun v85 s86 => pUn UnOp.not v85 (fun v87 => pIf v87 (R (Value.bool true) s86) (AC Try.prog w0 n_impl_TreeCount ([Value.agg (⟨[vget l73 4, vget l73 5, vget l73 6, vget l73 7, vget l73 8]⟩)]) s86 (fun v88 s89 => AC Try.prog w0 n_laws_wtPaths ([Value.agg (⟨[vget l73 4, vget l73 5, vget l73 6, vget l73 7, vget l73 8]⟩), Value.slice Option.none 0 0]) s89 (fun v90 s91 => pLen v90 (fun v92 => pBin Try.prog 3 BinOp.eql v88 v92 (fun v93 => R v93 s91))))))) | false => False))))))))))))))))))))))))))))))))))))))))))))))))))))))))
theorem vc_laws_FnTreeSee_eq (w0 : World) (a0 a1 : Value) (σ : Vw) (R : Value → Vw → Prop) : vc_laws_FnTreeSee w0 a0 a1 σ R = den Try.prog w0 kp_laws_FnTreeSee esc_laws_FnTreeSee (Try.f8.body.getD .skip) (entry Try.f8.ntmps [a0, a1]) σ (retK Try.prog Try.f8.results.toList R) := by kernel_rfl
theorem ac_laws_FnTreeSee {w0 : World} {a0 a1 : Value} {σ : Vw} {R : Value → Vw → Prop} (h : vc_laws_FnTreeSee w0 a0 a1 σ R) : AC Try.prog w0 n_laws_FnTreeSee [a0, a1] σ R := by
  refine ac_rule (fn := Try.f8) (c := Try.f8.body.getD .skip) kp_laws_FnTreeSee esc_laws_FnTreeSee Try.func8 (by kernel_rfl) (by kernel_rfl) ?_
  rw [← vc_laws_FnTreeSee_eq]
  exact h

/-- laws.szMarkS -/
def kp_laws_szMarkS : Nat → Keep
  | 5 => ⟨[0, 1, 4, 5], [], [], .done, []⟩
  | _ => ⟨[], [], [], .done, []⟩
def esc_laws_szMarkS : Nat → Bool
  | _ => false
def vc_laws_szMarkS (w0 : World) (a0 a1 : Value) (σ : Vw) (R : Value → Vw → Prop) : Prop :=
  pLen a0 (fun v0 => pBin Try.prog 3 BinOp.sub a1 v0 (fun v1 => pBin Try.prog 3 BinOp.lss v1 (Value.int IntKind.i64 0) (fun v2 => pIf v2 (R (Value.int IntKind.i64 (-1)) σ) (pLoop (fun l3 K4 s5 => pLen (vget l3 0) (fun v6 => pBin Try.prog 3 BinOp.lss (vget l3 3) v6 (fun v7 => pIf v7 (pIndexAddr 2 (vget l3 0) (vget l3 3) (fun v8 => pLoad w0 2 v8 s5 (fun g9 => AC Try.prog w0 n_laws_szMark ([Value.agg (⟨[g9 0, g9 1]⟩), vget l3 1]) s5 (fun v10 s11 => pBin Try.prog 3 BinOp.lss v10 (Value.int IntKind.i64 0) (fun v12 => pIf v12 (K4 AX.ret [vget l3 0, v10, Value.int IntKind.i64 (-1), vget l3 3] s11) (pBin Try.prog 3 BinOp.add (vget l3 3) (Value.int IntKind.i64 1) (fun v13 => K4 AX.normal [vget l3 0, v10, vget l3 2, v13] s11))))))) (K4 (AX.exit 0) [vget l3 0, vget l3 1, vget l3 2, vget l3 3] s5)))) [a0, v1, Value.int IntKind.i64 0, Value.int IntKind.i64 0] σ (fun x14 l15 s16 => match x14 with | .normal => R (vget l15 1) s16 | .ret => R (vget l15 2) s16 | .exit i17 => (match Nat.beq i17 0 with | true => R (vget l15 1) s16 | false => False))))))
theorem vc_laws_szMarkS_eq (w0 : World) (a0 a1 : Value) (σ : Vw) (R : Value → Vw → Prop) : vc_laws_szMarkS w0 a0 a1 σ R = den Try.prog w0 kp_laws_szMarkS esc_laws_szMarkS (Try.f9.body.getD .skip) (entry Try.f9.ntmps [a0, a1]) σ (retK Try.prog Try.f9.results.toList R) := by kernel_rfl
theorem ac_laws_szMarkS {w0 : World} {a0 a1 : Value} {σ : Vw} {R : Value → Vw → Prop} (h : vc_laws_szMarkS w0 a0 a1 σ R) : AC Try.prog w0 n_laws_szMarkS [a0, a1] σ R := by
  refine ac_rule (fn := Try.f9) (c := Try.f9.body.getD .skip) kp_laws_szMarkS esc_laws_szMarkS Try.func9 (by kernel_rfl) (by kernel_rfl) ?_
  rw [← vc_laws_szMarkS_eq]
  exact h

/-- spec.TrailShow -/
def kp_spec_TrailShow : Nat → Keep
  | 5 => ⟨[0, 3, 4], [], [], .done, []⟩
  | _ => ⟨[], [], [], .done, []⟩
def esc_spec_TrailShow : Nat → Bool
  | _ => false
def vc_spec_TrailShow (w0 : World) (a0 : Value) (σ : Vw) (R : Value → Vw → Prop) : Prop :=
  AC Try.prog w0 n_spec_TrailOk [a0] σ (fun v0 s1 => pUn UnOp.not v0 (fun v2 => pIf v2 (R (Value.string ({ data := #[] })) s1) (pLoop (fun l3 K4 s5 => pLen (vget l3 0) (fun v6 => pBin Try.prog 3 BinOp.lss (vget l3 2) v6 (fun v7 => pIf v7 (pIndexAddr 2 (vget l3 0) (vget l3 2) (fun v8 => pLoad w0 2 v8 s5 (fun g9 => AC Try.prog w0 n_spec_l11Text ([Value.agg (⟨[g9 0, g9 1]⟩)]) s5 (fun v10 s11 => pBin Try.prog 9 BinOp.add (vget l3 1) v10 (fun v12 => pBin Try.prog 3 BinOp.add (vget l3 2) (Value.int IntKind.i64 1) (fun v13 => K4 AX.normal [vget l3 0, v12, v13] s11)))))) (K4 (AX.exit 0) [vget l3 0, vget l3 1, vget l3 2] s5)))) ([a0, Value.string ({ data := #[] }), Value.int IntKind.i64 0]) s1 (fun x14 l15 s16 => match x14 with | .normal => R (vget l15 1) s16 | .ret => False | .exit i17 => (match Nat.beq i17 0 with | true => R (vget l15 1) s16 | false => False)))))
theorem vc_spec_TrailShow_eq (w0 : World) (a0 : Value) (σ : Vw) (R : Value → Vw → Prop) : vc_spec_TrailShow w0 a0 σ R = den Try.prog w0 kp_spec_TrailShow esc_spec_TrailShow (Try.f10.body.getD .skip) (entry Try.f10.ntmps [a0]) σ (retK Try.prog Try.f10.results.toList R) := by kernel_rfl
theorem ac_spec_TrailShow {w0 : World} {a0 : Value} {σ : Vw} {R : Value → Vw → Prop} (h : vc_spec_TrailShow w0 a0 σ R) : AC Try.prog w0 n_spec_TrailShow [a0] σ R := by
  refine ac_rule (fn := Try.f10) (c := Try.f10.body.getD .skip) kp_spec_TrailShow esc_spec_TrailShow Try.func10 (by kernel_rfl) (by kernel_rfl) ?_
  rw [← vc_spec_TrailShow_eq]
  exact h

/-- laws.toMarkS -/
def kp_laws_toMarkS : Nat → Keep
  | 3 => ⟨[0, 3, 4], [], [], .done, []⟩
  | _ => ⟨[], [], [], .done, []⟩
def esc_laws_toMarkS : Nat → Bool
  | _ => false
def vc_laws_toMarkS (w0 : World) (a0 : Value) (σ : Vw) (R : Value → Vw → Prop) : Prop :=
  pLen a0 (fun v0 => pMake w0 60 2 32 [Value.slice Option.none 0 0, Value.bool false] v0 v0 σ (fun v1 s2 => pLoop (fun l3 K4 s5 => pLen (vget l3 0) (fun v6 => pBin Try.prog 3 BinOp.lss (vget l3 2) v6 (fun v7 => pIf v7 (pIndexAddr 2 (vget l3 0) (vget l3 2) (fun v8 => pLoad w0 2 v8 s5 (fun g9 => AC Try.prog w0 n_laws_toMark ([Value.agg (⟨[g9 0, g9 1]⟩)]) s5 (fun v10 s11 => pIndexAddr 2 (vget l3 1) (vget l3 2) (fun v12 => pVal true 2 v10 (pStore v12 [cellOf v10 0, cellOf v10 1] s11 (fun s13 => pBin Try.prog 3 BinOp.add (vget l3 2) (Value.int IntKind.i64 1) (fun v14 => K4 AX.normal [vget l3 0, vget l3 1, v14] s13)))))))) (K4 (AX.exit 0) [vget l3 0, vget l3 1, vget l3 2] s5)))) [a0, v1, Value.int IntKind.i64 0] s2 (fun x15 l16 s17 => match x15 with | .normal => R (vget l16 1) s17 | .ret => False | .exit i18 => (match Nat.beq i18 0 with | true => R (vget l16 1) s17 | false => False))))
theorem vc_laws_toMarkS_eq (w0 : World) (a0 : Value) (σ : Vw) (R : Value → Vw → Prop) : vc_laws_toMarkS w0 a0 σ R = den Try.prog w0 kp_laws_toMarkS esc_laws_toMarkS (Try.f11.body.getD .skip) (entry Try.f11.ntmps [a0]) σ (retK Try.prog Try.f11.results.toList R) := by kernel_rfl
theorem ac_laws_toMarkS {w0 : World} {a0 : Value} {σ : Vw} {R : Value → Vw → Prop} (h : vc_laws_toMarkS w0 a0 σ R) : AC Try.prog w0 n_laws_toMarkS [a0] σ R := by
  refine ac_rule (fn := Try.f11) (c := Try.f11.body.getD .skip) kp_laws_toMarkS esc_laws_toMarkS Try.func11 (by kernel_rfl) (by kernel_rfl) ?_
  rw [← vc_laws_toMarkS_eq]
  exact h

/-- impl.TrailShow -/
def kp_impl_TrailShow : Nat → Keep
  | 5 => ⟨[3, 10, 11, 12], [], [], .done, []⟩
  | _ => ⟨[], [], [], .done, []⟩
def esc_impl_TrailShow : Nat → Bool
  | _ => false
def vc_impl_TrailShow (w0 : World) (a0 : Value) (σ : Vw) (R : Value → Vw → Prop) : Prop :=
  AC Try.prog w0 n_impl_TrailOk [a0] σ (fun v0 s1 => pUn UnOp.not v0 (fun v2 => pIf v2 (R (Value.string ({ data := #[] })) s1) (pLen a0 (fun v3 => pLoop (fun l4 K5 s6 => pBin Try.prog 3 BinOp.lss (vget l4 3) (vget l4 2) (fun v7 => pIf v7 (pIndexAddr 2 (vget l4 1) (vget l4 3) (fun v8 => pLoad w0 2 v8 s6 (fun g9 => pVal true 2 (Value.agg (⟨[g9 0, g9 1]⟩)) (pIf (g9 1) (AC Try.prog w0 n_impl_pathText [g9 0] s6 (fun v10 s11 => pBin Try.prog 9 BinOp.add (Value.string ({ data := #[115, 117, 98, 32] })) v10 (fun v12 => pBin Try.prog 9 BinOp.add v12 (Value.string ({ data := #[10] })) (fun v13 => pBin Try.prog 9 BinOp.add (vget l4 0) v13 (fun v14 => pBin Try.prog 3 BinOp.add (vget l4 3) (Value.int IntKind.i64 1) (fun v15 => K5 AX.normal [v14, vget l4 1, vget l4 2, v15] s11)))))) (AC Try.prog w0 n_impl_pathText [g9 0] s6 (fun v16 s17 => pBin Try.prog 9 BinOp.add (Value.string ({ data := #[97, 116, 32] })) v16 (fun v18 => pBin Try.prog 9 BinOp.add v18 (Value.string ({ data := #[10] })) (fun v19 => pBin Try.prog 9 BinOp.add (vget l4 0) v19 (fun v20 => pBin Try.prog 3 BinOp.add (vget l4 3) (Value.int IntKind.i64 1) (fun v21 => K5 AX.normal [v20, vget l4 1, vget l4 2, v21] s17)))))))))) (K5 (AX.exit 0) [vget l4 0, vget l4 1, vget l4 2, vget l4 3] s6))) ([Value.string ({ data := #[] }), a0, v3, Value.int IntKind.i64 0]) s1 (fun x22 l23 s24 => match x22 with | .normal => R (vget l23 0) s24 | .ret => False | .exit i25 => (match Nat.beq i25 0 with | true => R (vget l23 0) s24 | false => False))))))
theorem vc_impl_TrailShow_eq (w0 : World) (a0 : Value) (σ : Vw) (R : Value → Vw → Prop) : vc_impl_TrailShow w0 a0 σ R = den Try.prog w0 kp_impl_TrailShow esc_impl_TrailShow (Try.f12.body.getD .skip) (entry Try.f12.ntmps [a0]) σ (retK Try.prog Try.f12.results.toList R) := by kernel_rfl
theorem ac_impl_TrailShow {w0 : World} {a0 : Value} {σ : Vw} {R : Value → Vw → Prop} (h : vc_impl_TrailShow w0 a0 σ R) : AC Try.prog w0 n_impl_TrailShow [a0] σ R := by
  refine ac_rule (fn := Try.f12) (c := Try.f12.body.getD .skip) kp_impl_TrailShow esc_impl_TrailShow Try.func12 (by kernel_rfl) (by kernel_rfl) ?_
  rw [← vc_impl_TrailShow_eq]
  exact h

/-- laws.eqMarkS -/
def kp_laws_eqMarkS : Nat → Keep
  | 4 => ⟨[0, 1, 4, 5], [], [], .done, []⟩
  | 6 => ⟨[], [], [], .step 0 (.step 1 (.step 2 (.step 3 (.step 4 (.step 5 (.step 6 (.step 7 (.step 8 (.step 9 (.done)))))))))), [(2, [0, 1]), (3, [0, 1, 2]), (6, [4, 5]), (7, [4, 5, 6]), (8, [0, 1, 2, 3, 4, 5, 6, 7]), (9, [0, 1, 2, 3, 4, 5, 6, 7, 8])]⟩
  | _ => ⟨[], [], [], .done, []⟩
def esc_laws_eqMarkS : Nat → Bool
  | _ => false
def vc_laws_eqMarkS (w0 : World) (a0 a1 : Value) (σ : Vw) (R : Value → Vw → Prop) : Prop :=
  pLen a0 (fun v0 => pLen a1 (fun v1 => pBin Try.prog 3 BinOp.neq v0 v1 (fun v2 => pIf v2 (R (Value.bool false) σ) (pLoop (fun l3 K4 s5 => pLen (vget l3 0) (fun v6 => pBin Try.prog 3 BinOp.lss (vget l3 3) v6 (fun v7 => pIf v7 (pIndexAddr 2 (vget l3 0) (vget l3 3) (fun v8 => pLoad w0 2 v8 s5 (fun g9 => pIndexAddr 2 (vget l3 1) (vget l3 3) (fun v10 => pLoad w0 2 v10 s5 (fun g11 => AC Try.prog w0 n_laws_eqMark ([Value.agg (⟨[g9 0, g9 1]⟩), Value.agg (⟨[g11 0, g11 1]⟩)]) s5 (fun v12 s13 => pUn UnOp.not v12 (fun v14 => pIf v14 (K4 AX.ret [vget l3 0, vget l3 1, Value.bool false, vget l3 3] s13) (pBin Try.prog 3 BinOp.add (vget l3 3) (Value.int IntKind.i64 1) (fun v15 => K4 AX.normal [vget l3 0, vget l3 1, vget l3 2, v15] s13))))))))) (K4 (AX.exit 0) [vget l3 0, vget l3 1, vget l3 2, vget l3 3] s5)))) [a0, a1, Value.bool false, Value.int IntKind.i64 0] σ (fun x16 l17 s18 => match x16 with | .normal => R (Value.bool true) s18 | .ret => R (vget l17 2) s18 | .exit i19 => (match Nat.beq i19 0 with | true => R (Value.bool true) s18 | false => False))))))
theorem vc_laws_eqMarkS_eq (w0 : World) (a0 a1 : Value) (σ : Vw) (R : Value → Vw → Prop) : vc_laws_eqMarkS w0 a0 a1 σ R = den Try.prog w0 kp_laws_eqMarkS esc_laws_eqMarkS (Try.f13.body.getD .skip) (entry Try.f13.ntmps [a0, a1]) σ (retK Try.prog Try.f13.results.toList R) := by kernel_rfl
theorem ac_laws_eqMarkS {w0 : World} {a0 a1 : Value} {σ : Vw} {R : Value → Vw → Prop} (h : vc_laws_eqMarkS w0 a0 a1 σ R) : AC Try.prog w0 n_laws_eqMarkS [a0, a1] σ R := by
  refine ac_rule (fn := Try.f13) (c := Try.f13.body.getD .skip) kp_laws_eqMarkS esc_laws_eqMarkS Try.func13 (by kernel_rfl) (by kernel_rfl) ?_
  rw [← vc_laws_eqMarkS_eq]
  exact h

/-- laws.szTree -/
def kp_laws_szTree : Nat → Keep
  | _ => ⟨[], [], [], .done, []⟩
def esc_laws_szTree : Nat → Bool
  | _ => false
def vc_laws_szTree (w0 : World) (a0 a1 : Value) (σ : Vw) (R : Value → Vw → Prop) : Prop :=
  pVal true 5 a0 (pLenS (cellOf a0 2) (fun v0 => pBin Try.prog 3 BinOp.sub a1 v0 (fun v1 => pBin Try.prog 3 BinOp.lss v1 (Value.int IntKind.i64 0) (fun v2 => pIf v2 (R (Value.int IntKind.i64 (-1)) σ) (AC Try.prog w0 n_laws_szStringS [cellOf a0 3, v1] σ (fun v3 s4 => pBin Try.prog 3 BinOp.lss v3 (Value.int IntKind.i64 0) (fun v5 => pIf v5 (R (Value.int IntKind.i64 (-1)) s4) (AC Try.prog w0 n_laws_szTreeS [cellOf a0 4, v3] s4 (fun v6 s7 => pBin Try.prog 3 BinOp.lss v6 (Value.int IntKind.i64 0) (fun v8 => pIf v8 (R (Value.int IntKind.i64 (-1)) s7) (R v6 s7)))))))))))
theorem vc_laws_szTree_eq (w0 : World) (a0 a1 : Value) (σ : Vw) (R : Value → Vw → Prop) : vc_laws_szTree w0 a0 a1 σ R = den Try.prog w0 kp_laws_szTree esc_laws_szTree (Try.f14.body.getD .skip) (entry Try.f14.ntmps [a0, a1]) σ (retK Try.prog Try.f14.results.toList R) := by kernel_rfl
theorem ac_laws_szTree {w0 : World} {a0 a1 : Value} {σ : Vw} {R : Value → Vw → Prop} (h : vc_laws_szTree w0 a0 a1 σ R) : AC Try.prog w0 n_laws_szTree [a0, a1] σ R := by
  refine ac_rule (fn := Try.f14) (c := Try.f14.body.getD .skip) kp_laws_szTree esc_laws_szTree Try.func14 (by kernel_rfl) (by kernel_rfl) ?_
  rw [← vc_laws_szTree_eq]
  exact h

/-- laws.szStringS -/
def kp_laws_szStringS : Nat → Keep
  | 5 => ⟨[0, 1, 4, 5], [], [], .done, []⟩
  | _ => ⟨[], [], [], .done, []⟩
def esc_laws_szStringS : Nat → Bool
  | _ => false
def vc_laws_szStringS (w0 : World) (a0 a1 : Value) (σ : Vw) (R : Value → Vw → Prop) : Prop :=
  pLen a0 (fun v0 => pBin Try.prog 3 BinOp.sub a1 v0 (fun v1 => pBin Try.prog 3 BinOp.lss v1 (Value.int IntKind.i64 0) (fun v2 => pIf v2 (R (Value.int IntKind.i64 (-1)) σ) (pLoop (fun l3 K4 s5 => pLen (vget l3 0) (fun v6 => pBin Try.prog 3 BinOp.lss (vget l3 3) v6 (fun v7 => pIf v7 (pIndexAddr 1 (vget l3 0) (vget l3 3) (fun v8 => pLoad w0 1 v8 s5 (fun g9 => pLenS (g9 0) (fun v10 => pBin Try.prog 3 BinOp.sub (vget l3 1) v10 (fun v11 => pBin Try.prog 3 BinOp.lss v11 (Value.int IntKind.i64 0) (fun v12 => pIf v12 (K4 AX.ret [vget l3 0, v11, Value.int IntKind.i64 (-1), vget l3 3] s5) (pBin Try.prog 3 BinOp.add (vget l3 3) (Value.int IntKind.i64 1) (fun v13 => K4 AX.normal [vget l3 0, v11, vget l3 2, v13] s5)))))))) (K4 (AX.exit 0) [vget l3 0, vget l3 1, vget l3 2, vget l3 3] s5)))) [a0, v1, Value.int IntKind.i64 0, Value.int IntKind.i64 0] σ (fun x14 l15 s16 => match x14 with | .normal => R (vget l15 1) s16 | .ret => R (vget l15 2) s16 | .exit i17 => (match Nat.beq i17 0 with | true => R (vget l15 1) s16 | false => False))))))
theorem vc_laws_szStringS_eq (w0 : World) (a0 a1 : Value) (σ : Vw) (R : Value → Vw → Prop) : vc_laws_szStringS w0 a0 a1 σ R = den Try.prog w0 kp_laws_szStringS esc_laws_szStringS (Try.f15.body.getD .skip) (entry Try.f15.ntmps [a0, a1]) σ (retK Try.prog Try.f15.results.toList R) := by kernel_rfl
theorem ac_laws_szStringS {w0 : World} {a0 a1 : Value} {σ : Vw} {R : Value → Vw → Prop} (h : vc_laws_szStringS w0 a0 a1 σ R) : AC Try.prog w0 n_laws_szStringS [a0, a1] σ R := by
  refine ac_rule (fn := Try.f15) (c := Try.f15.body.getD .skip) kp_laws_szStringS esc_laws_szStringS Try.func15 (by kernel_rfl) (by kernel_rfl) ?_
  rw [← vc_laws_szStringS_eq]
  exact h

/-- spec.TreeAt -/
def kp_spec_TreeAt : Nat → Keep
  | _ => ⟨[], [], [], .done, []⟩
def esc_spec_TreeAt : Nat → Bool
  | _ => false
def vc_spec_TreeAt (w0 : World) (a0 a1 : Value) (σ : Vw) (R : Value → Vw → Prop) : Prop :=
  pVal true 5 a0 (AC Try.prog w0 n_spec_TreeOk ([Value.agg (⟨[cellOf a0 0, cellOf a0 1, cellOf a0 2, cellOf a0 3, cellOf a0 4]⟩)]) σ (fun v0 s1 => pUn UnOp.not v0 (fun v2 => pIf v2 (pVal true 5 (Value.agg (⟨[Value.bool false, Value.int IntKind.i64 0, Value.string ({ data := #[] }), Value.slice Option.none 0 0, Value.slice Option.none 0 0]⟩)) (R (Value.tuple (⟨[Value.agg (⟨[Value.bool false, Value.int IntKind.i64 0, Value.string ({ data := #[] }), Value.slice Option.none 0 0, Value.slice Option.none 0 0]⟩), Value.bool false]⟩)) s1)) (AC Try.prog w0 n_spec_l1At ([Value.agg (⟨[cellOf a0 0, cellOf a0 1, cellOf a0 2, cellOf a0 3, cellOf a0 4]⟩), a1]) s1 (fun v3 s4 => pExtract v3 0 (fun v5 => pExtract v3 1 (fun v6 => pVal true 5 v5 (AC Try.prog w0 n_spec_l1Copy ([Value.agg (⟨[cellOf v5 0, cellOf v5 1, cellOf v5 2, cellOf v5 3, cellOf v5 4]⟩)]) s4 (fun v7 s8 => pVal true 5 v7 (R (Value.tuple (⟨[Value.agg (⟨[cellOf v7 0, cellOf v7 1, cellOf v7 2, cellOf v7 3, cellOf v7 4]⟩), v6]⟩)) s8))))))))))
theorem vc_spec_TreeAt_eq (w0 : World) (a0 a1 : Value) (σ : Vw) (R : Value → Vw → Prop) : vc_spec_TreeAt w0 a0 a1 σ R = den Try.prog w0 kp_spec_TreeAt esc_spec_TreeAt (Try.f16.body.getD .skip) (entry Try.f16.ntmps [a0, a1]) σ (retK Try.prog Try.f16.results.toList R) := by kernel_rfl
theorem ac_spec_TreeAt {w0 : World} {a0 a1 : Value} {σ : Vw} {R : Value → Vw → Prop} (h : vc_spec_TreeAt w0 a0 a1 σ R) : AC Try.prog w0 n_spec_TreeAt [a0, a1] σ R := by
  refine ac_rule (fn := Try.f16) (c := Try.f16.body.getD .skip) kp_spec_TreeAt esc_spec_TreeAt Try.func16 (by kernel_rfl) (by kernel_rfl) ?_
  rw [← vc_spec_TreeAt_eq]
  exact h

/-- laws.toTree -/
def kp_laws_toTree : Nat → Keep
  | _ => ⟨[], [], [], .done, []⟩
def esc_laws_toTree : Nat → Bool
  | _ => false
def vc_laws_toTree (w0 : World) (a0 : Value) (σ : Vw) (R : Value → Vw → Prop) : Prop :=
  pVal true 5 a0 (pVal false 1 (cellOf a0 0) (pVal false 1 (cellOf a0 1) (pVal false 1 (cellOf a0 2) (AC Try.prog w0 n_laws_toStringS [cellOf a0 3] σ (fun v0 s1 => pVal false 1 v0 (AC Try.prog w0 n_laws_toTreeS [cellOf a0 4] s1 (fun v2 s3 => pVal false 1 v2 (pVal true 5 (Value.agg (⟨[cellOf a0 0, cellOf a0 1, cellOf a0 2, v0, v2]⟩)) (R (Value.agg (⟨[cellOf a0 0, cellOf a0 1, cellOf a0 2, v0, v2]⟩)) s3)))))))))
theorem vc_laws_toTree_eq (w0 : World) (a0 : Value) (σ : Vw) (R : Value → Vw → Prop) : vc_laws_toTree w0 a0 σ R = den Try.prog w0 kp_laws_toTree esc_laws_toTree (Try.f17.body.getD .skip) (entry Try.f17.ntmps [a0]) σ (retK Try.prog Try.f17.results.toList R) := by kernel_rfl
theorem ac_laws_toTree {w0 : World} {a0 : Value} {σ : Vw} {R : Value → Vw → Prop} (h : vc_laws_toTree w0 a0 σ R) : AC Try.prog w0 n_laws_toTree [a0] σ R := by
  refine ac_rule (fn := Try.f17) (c := Try.f17.body.getD .skip) kp_laws_toTree esc_laws_toTree Try.func17 (by kernel_rfl) (by kernel_rfl) ?_
  rw [← vc_laws_toTree_eq]
  exact h

/-- laws.toStringS -/
def kp_laws_toStringS : Nat → Keep
  | 3 => ⟨[0, 3, 4], [], [], .done, []⟩
  | _ => ⟨[], [], [], .done, []⟩
def esc_laws_toStringS : Nat → Bool
  | _ => false
def vc_laws_toStringS (w0 : World) (a0 : Value) (σ : Vw) (R : Value → Vw → Prop) : Prop :=
  pLen a0 (fun v0 => pMake w0 9 1 16 ([Value.string ({ data := #[] })]) v0 v0 σ (fun v1 s2 => pLoop (fun l3 K4 s5 => pLen (vget l3 0) (fun v6 => pBin Try.prog 3 BinOp.lss (vget l3 2) v6 (fun v7 => pIf v7 (pIndexAddr 1 (vget l3 0) (vget l3 2) (fun v8 => pLoad w0 1 v8 s5 (fun g9 => pIndexAddr 1 (vget l3 1) (vget l3 2) (fun v10 => pVal false 1 (g9 0) (pStore v10 [g9 0] s5 (fun s11 => pBin Try.prog 3 BinOp.add (vget l3 2) (Value.int IntKind.i64 1) (fun v12 => K4 AX.normal [vget l3 0, vget l3 1, v12] s11))))))) (K4 (AX.exit 0) [vget l3 0, vget l3 1, vget l3 2] s5)))) [a0, v1, Value.int IntKind.i64 0] s2 (fun x13 l14 s15 => match x13 with | .normal => R (vget l14 1) s15 | .ret => False | .exit i16 => (match Nat.beq i16 0 with | true => R (vget l14 1) s15 | false => False))))
theorem vc_laws_toStringS_eq (w0 : World) (a0 : Value) (σ : Vw) (R : Value → Vw → Prop) : vc_laws_toStringS w0 a0 σ R = den Try.prog w0 kp_laws_toStringS esc_laws_toStringS (Try.f18.body.getD .skip) (entry Try.f18.ntmps [a0]) σ (retK Try.prog Try.f18.results.toList R) := by kernel_rfl
theorem ac_laws_toStringS {w0 : World} {a0 : Value} {σ : Vw} {R : Value → Vw → Prop} (h : vc_laws_toStringS w0 a0 σ R) : AC Try.prog w0 n_laws_toStringS [a0] σ R := by
  refine ac_rule (fn := Try.f18) (c := Try.f18.body.getD .skip) kp_laws_toStringS esc_laws_toStringS Try.func18 (by kernel_rfl) (by kernel_rfl) ?_
  rw [← vc_laws_toStringS_eq]
  exact h

/-- impl.TreeAt -/
def kp_impl_TreeAt : Nat → Keep
  | _ => ⟨[], [], [], .done, []⟩
def esc_impl_TreeAt : Nat → Bool
  | 2 => true
  | _ => false
def vc_impl_TreeAt (w0 : World) (a0 a1 : Value) (σ : Vw) (R : Value → Vw → Prop) : Prop :=
  pVal true 5 a0 (pNew w0 37 [cellOf a0 0, cellOf a0 1, cellOf a0 2, cellOf a0 3, cellOf a0 4] σ (fun n0 s1 => pLoad w0 5 (Value.pointer (Option.some (Addr.mk n0 0 Option.none))) s1 (fun g2 => AC Try.prog w0 n_impl_TreeOk ([Value.agg (⟨[g2 0, g2 1, g2 2, g2 3, g2 4]⟩)]) s1 (fun v3 s4 => pUn UnOp.not v3 (fun v5 => pIf v5 (pVal true 5 (Value.agg (⟨[Value.bool false, Value.int IntKind.i64 0, Value.string ({ data := #[] }), Value.slice Option.none 0 0, Value.slice Option.none 0 0]⟩)) (R (Value.tuple (⟨[Value.agg (⟨[Value.bool false, Value.int IntKind.i64 0, Value.string ({ data := #[] }), Value.slice Option.none 0 0, Value.slice Option.none 0 0]⟩), Value.bool false]⟩)) s4)) (AC Try.prog w0 n_p_impl_Tree_at [Value.pointer (Option.some (Addr.mk n0 0 Option.none)), a1] s4 (fun v6 s7 => pBin Try.prog 90 BinOp.eql v6 (Value.pointer Option.none) (fun v8 => pIf v8 (pVal true 5 (Value.agg (⟨[Value.bool false, Value.int IntKind.i64 0, Value.string ({ data := #[] }), Value.slice Option.none 0 0, Value.slice Option.none 0 0]⟩)) (R (Value.tuple (⟨[Value.agg (⟨[Value.bool false, Value.int IntKind.i64 0, Value.string ({ data := #[] }), Value.slice Option.none 0 0, Value.slice Option.none 0 0]⟩), Value.bool false]⟩)) s7)) (pNil v6 (pLoad w0 5 v6 s7 (fun g9 => AC Try.prog w0 n_impl_Tree_clone ([Value.agg (⟨[g9 0, g9 1, g9 2, g9 3, g9 4]⟩)]) s7 (fun v10 s11 => pVal true 5 v10 (R (Value.tuple (⟨[Value.agg (⟨[cellOf v10 0, cellOf v10 1, cellOf v10 2, cellOf v10 3, cellOf v10 4]⟩), Value.bool true]⟩)) s11)))))))))))))
theorem vc_impl_TreeAt_eq (w0 : World) (a0 a1 : Value) (σ : Vw) (R : Value → Vw → Prop) : vc_impl_TreeAt w0 a0 a1 σ R = den Try.prog w0 kp_impl_TreeAt esc_impl_TreeAt (Try.f19.body.getD .skip) (entry Try.f19.ntmps [a0, a1]) σ (retK Try.prog Try.f19.results.toList R) := by kernel_rfl
theorem ac_impl_TreeAt {w0 : World} {a0 a1 : Value} {σ : Vw} {R : Value → Vw → Prop} (h : vc_impl_TreeAt w0 a0 a1 σ R) : AC Try.prog w0 n_impl_TreeAt [a0, a1] σ R := by
  refine ac_rule (fn := Try.f19) (c := Try.f19.body.getD .skip) kp_impl_TreeAt esc_impl_TreeAt Try.func19 (by kernel_rfl) (by kernel_rfl) ?_
  rw [← vc_impl_TreeAt_eq]
  exact h

/-- laws.eqTree -/
def kp_laws_eqTree : Nat → Keep
  | _ => ⟨[], [], [], .done, []⟩
def esc_laws_eqTree : Nat → Bool
  | _ => false
def vc_laws_eqTree (w0 : World) (a0 a1 : Value) (σ : Vw) (R : Value → Vw → Prop) : Prop :=
  pVal true 5 a0 (pVal true 5 a1 (pBin Try.prog 4 BinOp.neq (cellOf a0 0) (cellOf a1 0) (fun v0 => pIf v0 (R (Value.bool false) σ) (pBin Try.prog 3 BinOp.neq (cellOf a0 1) (cellOf a1 1) (fun v1 => pIf v1 (R (Value.bool false) σ) (pBin Try.prog 9 BinOp.neq (cellOf a0 2) (cellOf a1 2) (fun v2 => pIf v2 (R (Value.bool false) σ) (AC Try.prog w0 n_laws_eqStringS [cellOf a0 3, cellOf a1 3] σ (fun v3 s4 => pUn UnOp.not v3 (fun v5 => pIf v5 (R (Value.bool false) s4) (AC Try.prog w0 n_laws_eqTreeS [cellOf a0 4, cellOf a1 4] s4 (fun v6 s7 => pUn UnOp.not v6 (fun v8 => pIf v8 (R (Value.bool false) s7) (R (Value.bool true) s7))))))))))))))
theorem vc_laws_eqTree_eq (w0 : World) (a0 a1 : Value) (σ : Vw) (R : Value → Vw → Prop) : vc_laws_eqTree w0 a0 a1 σ R = den Try.prog w0 kp_laws_eqTree esc_laws_eqTree (Try.f20.body.getD .skip) (entry Try.f20.ntmps [a0, a1]) σ (retK Try.prog Try.f20.results.toList R) := by kernel_rfl
theorem ac_laws_eqTree {w0 : World} {a0 a1 : Value} {σ : Vw} {R : Value → Vw → Prop} (h : vc_laws_eqTree w0 a0 a1 σ R) : AC Try.prog w0 n_laws_eqTree [a0, a1] σ R := by
  refine ac_rule (fn := Try.f20) (c := Try.f20.body.getD .skip) kp_laws_eqTree esc_laws_eqTree Try.func20 (by kernel_rfl) (by kernel_rfl) ?_
  rw [← vc_laws_eqTree_eq]
  exact h

/-- laws.eqStringS -/
def kp_laws_eqStringS : Nat → Keep
  | 4 => ⟨[0, 1, 4, 5], [], [], .done, []⟩
  | 6 => ⟨[], [], [], .step 0 (.step 1 (.step 2 (.step 3 (.step 4 (.step 5 (.step 6 (.step 7 (.step 8 (.done))))))))), [(2, [0, 1]), (3, [0, 1, 2]), (6, [4, 5]), (7, [4, 5, 6]), (8, [0, 1, 2, 3, 4, 5, 6, 7])]⟩
  | _ => ⟨[], [], [], .done, []⟩
def esc_laws_eqStringS : Nat → Bool
  | _ => false
def vc_laws_eqStringS (w0 : World) (a0 a1 : Value) (σ : Vw) (R : Value → Vw → Prop) : Prop :=
  pLen a0 (fun v0 => pLen a1 (fun v1 => pBin Try.prog 3 BinOp.neq v0 v1 (fun v2 => pIf v2 (R (Value.bool false) σ) (pLoop (fun l3 K4 s5 => pLen (vget l3 0) (fun v6 => pBin Try.prog 3 BinOp.lss (vget l3 3) v6 (fun v7 => pIf v7 (pIndexAddr 1 (vget l3 0) (vget l3 3) (fun v8 => pLoad w0 1 v8 s5 (fun g9 => pIndexAddr 1 (vget l3 1) (vget l3 3) (fun v10 => pLoad w0 1 v10 s5 (fun g11 => pBin Try.prog 9 BinOp.neq (g9 0) (g11 0) (fun v12 => pIf v12 (K4 AX.ret [vget l3 0, vget l3 1, Value.bool false, vget l3 3] s5) (pBin Try.prog 3 BinOp.add (vget l3 3) (Value.int IntKind.i64 1) (fun v13 => K4 AX.normal [vget l3 0, vget l3 1, vget l3 2, v13] s5)))))))) (K4 (AX.exit 0) [vget l3 0, vget l3 1, vget l3 2, vget l3 3] s5)))) [a0, a1, Value.bool false, Value.int IntKind.i64 0] σ (fun x14 l15 s16 => match x14 with | .normal => R (Value.bool true) s16 | .ret => R (vget l15 2) s16 | .exit i17 => (match Nat.beq i17 0 with | true => R (Value.bool true) s16 | false => False))))))
theorem vc_laws_eqStringS_eq (w0 : World) (a0 a1 : Value) (σ : Vw) (R : Value → Vw → Prop) : vc_laws_eqStringS w0 a0 a1 σ R = den Try.prog w0 kp_laws_eqStringS esc_laws_eqStringS (Try.f21.body.getD .skip) (entry Try.f21.ntmps [a0, a1]) σ (retK Try.prog Try.f21.results.toList R) := by kernel_rfl
theorem ac_laws_eqStringS {w0 : World} {a0 a1 : Value} {σ : Vw} {R : Value → Vw → Prop} (h : vc_laws_eqStringS w0 a0 a1 σ R) : AC Try.prog w0 n_laws_eqStringS [a0, a1] σ R := by
  refine ac_rule (fn := Try.f21) (c := Try.f21.body.getD .skip) kp_laws_eqStringS esc_laws_eqStringS Try.func21 (by kernel_rfl) (by kernel_rfl) ?_
  rw [← vc_laws_eqStringS_eq]
  exact h

/-- laws.markTree -/
def kp_laws_markTree : Nat → Keep
  | _ => ⟨[], [], [], .done, []⟩
def esc_laws_markTree : Nat → Bool
  | _ => false
def vc_laws_markTree (w0 : World) (a0 a1 : Value) (σ : Vw) (R : Value → Vw → Prop) : Prop :=
  pVal true 5 a0 (AC Try.prog w0 n_laws_markStringS [cellOf a0 3, a1] σ (fun v0 s1 => AC Try.prog w0 n_laws_markTreeS [cellOf a0 4, v0] s1 (fun v2 s3 => R v2 s3)))
theorem vc_laws_markTree_eq (w0 : World) (a0 a1 : Value) (σ : Vw) (R : Value → Vw → Prop) : vc_laws_markTree w0 a0 a1 σ R = den Try.prog w0 kp_laws_markTree esc_laws_markTree (Try.f22.body.getD .skip) (entry Try.f22.ntmps [a0, a1]) σ (retK Try.prog Try.f22.results.toList R) := by kernel_rfl
theorem ac_laws_markTree {w0 : World} {a0 a1 : Value} {σ : Vw} {R : Value → Vw → Prop} (h : vc_laws_markTree w0 a0 a1 σ R) : AC Try.prog w0 n_laws_markTree [a0, a1] σ R := by
  refine ac_rule (fn := Try.f22) (c := Try.f22.body.getD .skip) kp_laws_markTree esc_laws_markTree Try.func22 (by kernel_rfl) (by kernel_rfl) ?_
  rw [← vc_laws_markTree_eq]
  exact h

/-- laws.markStringS -/
def kp_laws_markStringS : Nat → Keep
  | 2 => ⟨[0, 1, 5], [], [], .done, []⟩
  | _ => ⟨[], [], [], .done, []⟩
def esc_laws_markStringS : Nat → Bool
  | _ => false
def vc_laws_markStringS (w0 : World) (a0 a1 : Value) (σ : Vw) (R : Value → Vw → Prop) : Prop :=
  pLoop (fun l0 K1 s2 => pLen (vget l0 0) (fun v3 => pBin Try.prog 3 BinOp.lss (vget l0 2) v3 (fun v4 => pIf v4 (AC Try.prog w0 n_laws_markText [vget l0 1] s2 (fun v5 s6 => pIndexAddr 1 (vget l0 0) (vget l0 2) (fun v7 => pVal false 1 v5 (pStore v7 [v5] s6 (fun s8 => pBin Try.prog 3 BinOp.add (vget l0 1) (Value.int IntKind.i64 1) (fun v9 => pBin Try.prog 3 BinOp.add (vget l0 2) (Value.int IntKind.i64 1) (fun v10 => K1 AX.normal [vget l0 0, v9, v10] s8))))))) (K1 (AX.exit 0) [vget l0 0, vget l0 1, vget l0 2] s2)))) [a0, a1, Value.int IntKind.i64 0] σ (fun x11 l12 s13 => match x11 with | .normal => R (vget l12 1) s13 | .ret => False | .exit i14 => (match Nat.beq i14 0 with | true => R (vget l12 1) s13 | false => False))
theorem vc_laws_markStringS_eq (w0 : World) (a0 a1 : Value) (σ : Vw) (R : Value → Vw → Prop) : vc_laws_markStringS w0 a0 a1 σ R = den Try.prog w0 kp_laws_markStringS esc_laws_markStringS (Try.f23.body.getD .skip) (entry Try.f23.ntmps [a0, a1]) σ (retK Try.prog Try.f23.results.toList R) := by kernel_rfl
theorem ac_laws_markStringS {w0 : World} {a0 a1 : Value} {σ : Vw} {R : Value → Vw → Prop} (h : vc_laws_markStringS w0 a0 a1 σ R) : AC Try.prog w0 n_laws_markStringS [a0, a1] σ R := by
  refine ac_rule (fn := Try.f23) (c := Try.f23.body.getD .skip) kp_laws_markStringS esc_laws_markStringS Try.func23 (by kernel_rfl) (by kernel_rfl) ?_
  rw [← vc_laws_markStringS_eq]
  exact h

/-- laws.heldTree -/
def kp_laws_heldTree : Nat → Keep
  | _ => ⟨[], [], [], .done, []⟩
def esc_laws_heldTree : Nat → Bool
  | _ => false
def vc_laws_heldTree (w0 : World) (a0 a1 : Value) (σ : Vw) (R : Value → Vw → Prop) : Prop :=
  pVal true 5 a0 (AC Try.prog w0 n_laws_heldStringS [cellOf a0 3, a1] σ (fun v0 s1 => pBin Try.prog 3 BinOp.lss v0 (Value.int IntKind.i64 0) (fun v2 => pIf v2 (R (Value.int IntKind.i64 (-1)) s1) (AC Try.prog w0 n_laws_heldTreeS [cellOf a0 4, v0] s1 (fun v3 s4 => pBin Try.prog 3 BinOp.lss v3 (Value.int IntKind.i64 0) (fun v5 => pIf v5 (R (Value.int IntKind.i64 (-1)) s4) (R v3 s4)))))))
theorem vc_laws_heldTree_eq (w0 : World) (a0 a1 : Value) (σ : Vw) (R : Value → Vw → Prop) : vc_laws_heldTree w0 a0 a1 σ R = den Try.prog w0 kp_laws_heldTree esc_laws_heldTree (Try.f24.body.getD .skip) (entry Try.f24.ntmps [a0, a1]) σ (retK Try.prog Try.f24.results.toList R) := by kernel_rfl
theorem ac_laws_heldTree {w0 : World} {a0 a1 : Value} {σ : Vw} {R : Value → Vw → Prop} (h : vc_laws_heldTree w0 a0 a1 σ R) : AC Try.prog w0 n_laws_heldTree [a0, a1] σ R := by
  refine ac_rule (fn := Try.f24) (c := Try.f24.body.getD .skip) kp_laws_heldTree esc_laws_heldTree Try.func24 (by kernel_rfl) (by kernel_rfl) ?_
  rw [← vc_laws_heldTree_eq]
  exact h

/-- laws.szCall -/
def kp_laws_szCall : Nat → Keep
  | _ => ⟨[], [], [], .done, []⟩
def esc_laws_szCall : Nat → Bool
  | _ => false
def vc_laws_szCall (w0 : World) (a0 a1 : Value) (σ : Vw) (R : Value → Vw → Prop) : Prop :=
  pVal true 5 a0 (AC Try.prog w0 n_laws_szStringS [cellOf a0 1, a1] σ (fun v0 s1 => pBin Try.prog 3 BinOp.lss v0 (Value.int IntKind.i64 0) (fun v2 => pIf v2 (R (Value.int IntKind.i64 (-1)) s1) (AC Try.prog w0 n_laws_szStringS [cellOf a0 2, v0] s1 (fun v3 s4 => pBin Try.prog 3 BinOp.lss v3 (Value.int IntKind.i64 0) (fun v5 => pIf v5 (R (Value.int IntKind.i64 (-1)) s4) (pLenS (cellOf a0 4) (fun v6 => pBin Try.prog 3 BinOp.sub v3 v6 (fun v7 => pBin Try.prog 3 BinOp.lss v7 (Value.int IntKind.i64 0) (fun v8 => pIf v8 (R (Value.int IntKind.i64 (-1)) s4) (R v7 s4)))))))))))
theorem vc_laws_szCall_eq (w0 : World) (a0 a1 : Value) (σ : Vw) (R : Value → Vw → Prop) : vc_laws_szCall w0 a0 a1 σ R = den Try.prog w0 kp_laws_szCall esc_laws_szCall (Try.f25.body.getD .skip) (entry Try.f25.ntmps [a0, a1]) σ (retK Try.prog Try.f25.results.toList R) := by kernel_rfl
theorem ac_laws_szCall {w0 : World} {a0 a1 : Value} {σ : Vw} {R : Value → Vw → Prop} (h : vc_laws_szCall w0 a0 a1 σ R) : AC Try.prog w0 n_laws_szCall [a0, a1] σ R := by
  refine ac_rule (fn := Try.f25) (c := Try.f25.body.getD .skip) kp_laws_szCall esc_laws_szCall Try.func25 (by kernel_rfl) (by kernel_rfl) ?_
  rw [← vc_laws_szCall_eq]
  exact h

/-- spec.TrailOf -/
def kp_spec_TrailOf : Nat → Keep
  | 7 => ⟨[], [], [], .step 0 (.step 1 (.step 2 (.step 3 (.step 5 (.step 6 (.step 8 (.step 9 (.step 4 (.step 7 (.step 10 (.step 11 (.step 12 (.done))))))))))))), [(2, [1]), (3, [0, 1, 2]), (6, [5]), (7, [4, 5, 6]), (9, [8]), (10, [4, 5, 6, 7, 8, 9]), (11, [0, 1, 2, 3, 4, 5, 6, 7, 8, 9, 10]), (12, [0, 1, 2, 3, 4, 5, 6, 7, 8, 9, 10, 11])]⟩
  | _ => ⟨[], [], [], .done, []⟩
def esc_spec_TrailOf : Nat → Bool
  | 16 => true
  | 17 => true
  | 26 => true
  | 38 => true
  | 45 => true
  | _ => false
def vc_spec_TrailOf (w0 : World) (a0 a1 : Value) (σ : Vw) (R : Value → Vw → Prop) : Prop :=
  pVal true 5 a0 (pVal true 5 a1 (AC Try.prog w0 n_spec_TreeOk ([Value.agg (⟨[cellOf a0 0, cellOf a0 1, cellOf a0 2, cellOf a0 3, cellOf a0 4]⟩)]) σ (fun v0 s1 => pUn UnOp.not v0 (fun v2 => pIf v2 (pNew w0 60 [] s1 (fun n3 s4 => R (Value.slice (Option.some (Addr.mk n3 0 Option.none)) 0 0) s4)) (AC Try.prog w0 n_spec_l2CallOk ([Value.agg (⟨[cellOf a1 0, cellOf a1 1, cellOf a1 2, cellOf a1 3, cellOf a1 4]⟩)]) s1 (fun v5 s6 => pUn UnOp.not v5 (fun v7 => pIf v7 (pNew w0 60 [] s6 (fun n8 s9 => R (Value.slice (Option.some (Addr.mk n8 0 Option.none)) 0 0) s9)) (pNew w0 9 [] s6 (fun n10 s11 => pAppendS w0 9 1 16 (Value.slice (Option.some (Addr.mk n10 0 Option.none)) 0 0) (cellOf a1 1) s11 (fun v12 s13 => pBin Try.prog 3 BinOp.neq (cellOf a1 0) (Value.int IntKind.i64 5) (fun v14 => pIf v14 (pVal false 1 v12 (pVal true 2 (Value.agg (⟨[v12, Value.bool false]⟩)) (pNew w0 60 [v12, Value.bool false] s13 (fun n15 s16 => R (Value.slice (Option.some (Addr.mk n15 0 Option.none)) 1 1) s16)))) (AC Try.prog w0 n_spec_l1At ([Value.agg (⟨[cellOf a0 0, cellOf a0 1, cellOf a0 2, cellOf a0 3, cellOf a0 4]⟩), cellOf a1 1]) s13 (fun v17 s18 => pExtract v17 0 (fun v19 => pExtract v17 1 (fun v20 => pVal true 5 v19 (pVal false 1 v12 (pVal false 1 (cellOf v19 0) (pNew w0 9 [] s18 (fun n21 s22 => pAppendS w0 9 1 16 (Value.slice (Option.some (Addr.mk n21 0 Option.none)) 0 0) (cellOf a1 2) s22 (fun v23 s24 => pVal false 1 v23 (pVal false 1 (cellOf v19 0) (pVal true 2 (Value.agg (⟨[v12, cellOf v19 0]⟩)) (pVal true 2 (Value.agg (⟨[v23, cellOf v19 0]⟩)) (pNew w0 60 [v12, cellOf v19 0, v23, cellOf v19 0] s24 (fun n25 s26 => R (Value.slice (Option.some (Addr.mk n25 0 Option.none)) 2 2) s26)))))))))))))))))))))))))
theorem vc_spec_TrailOf_eq (w0 : World) (a0 a1 : Value) (σ : Vw) (R : Value → Vw → Prop) : vc_spec_TrailOf w0 a0 a1 σ R = den Try.prog w0 kp_spec_TrailOf esc_spec_TrailOf (Try.f26.body.getD .skip) (entry Try.f26.ntmps [a0, a1]) σ (retK Try.prog Try.f26.results.toList R) := by kernel_rfl
theorem ac_spec_TrailOf {w0 : World} {a0 a1 : Value} {σ : Vw} {R : Value → Vw → Prop} (h : vc_spec_TrailOf w0 a0 a1 σ R) : AC Try.prog w0 n_spec_TrailOf [a0, a1] σ R := by
  refine ac_rule (fn := Try.f26) (c := Try.f26.body.getD .skip) kp_spec_TrailOf esc_spec_TrailOf Try.func26 (by kernel_rfl) (by kernel_rfl) ?_
  rw [← vc_spec_TrailOf_eq]
  exact h

/-- laws.toCall -/
def kp_laws_toCall : Nat → Keep
  | _ => ⟨[], [], [], .done, []⟩
def esc_laws_toCall : Nat → Bool
  | _ => false
def vc_laws_toCall (w0 : World) (a0 : Value) (σ : Vw) (R : Value → Vw → Prop) : Prop :=
  pVal true 5 a0 (pVal false 1 (cellOf a0 0) (AC Try.prog w0 n_laws_toStringS [cellOf a0 1] σ (fun v0 s1 => pVal false 1 v0 (AC Try.prog w0 n_laws_toStringS [cellOf a0 2] s1 (fun v2 s3 => pVal false 1 v2 (pVal false 1 (cellOf a0 3) (pVal false 1 (cellOf a0 4) (pVal true 5 (Value.agg (⟨[cellOf a0 0, v0, v2, cellOf a0 3, cellOf a0 4]⟩)) (R (Value.agg (⟨[cellOf a0 0, v0, v2, cellOf a0 3, cellOf a0 4]⟩)) s3)))))))))
theorem vc_laws_toCall_eq (w0 : World) (a0 : Value) (σ : Vw) (R : Value → Vw → Prop) : vc_laws_toCall w0 a0 σ R = den Try.prog w0 kp_laws_toCall esc_laws_toCall (Try.f27.body.getD .skip) (entry Try.f27.ntmps [a0]) σ (retK Try.prog Try.f27.results.toList R) := by kernel_rfl
theorem ac_laws_toCall {w0 : World} {a0 : Value} {σ : Vw} {R : Value → Vw → Prop} (h : vc_laws_toCall w0 a0 σ R) : AC Try.prog w0 n_laws_toCall [a0] σ R := by
  refine ac_rule (fn := Try.f27) (c := Try.f27.body.getD .skip) kp_laws_toCall esc_laws_toCall Try.func27 (by kernel_rfl) (by kernel_rfl) ?_
  rw [← vc_laws_toCall_eq]
  exact h

/-- impl.TrailOf -/
def kp_impl_TrailOf : Nat → Keep
  | _ => ⟨[], [], [], .done, []⟩
def esc_impl_TrailOf : Nat → Bool
  | 8 => true
  | _ => false
def vc_impl_TrailOf (w0 : World) (a0 a1 : Value) (σ : Vw) (R : Value → Vw → Prop) : Prop :=
  pVal true 5 a0 (pVal true 5 a1 (AC Try.prog w0 n_impl_TreeOk ([Value.agg (⟨[cellOf a0 0, cellOf a0 1, cellOf a0 2, cellOf a0 3, cellOf a0 4]⟩)]) σ (fun v0 s1 => pUn UnOp.not v0 (fun v2 => pIf v2 (pNew w0 60 [] s1 (fun n3 s4 => R (Value.slice (Option.some (Addr.mk n3 0 Option.none)) 0 0) s4)) (AC Try.prog w0 n_impl_Tree_marksOf ([Value.agg (⟨[cellOf a0 0, cellOf a0 1, cellOf a0 2, cellOf a0 3, cellOf a0 4]⟩), Value.agg (⟨[cellOf a1 0, cellOf a1 1, cellOf a1 2, cellOf a1 3, cellOf a1 4]⟩)]) s1 (fun v5 s6 => R v5 s6))))))
theorem vc_impl_TrailOf_eq (w0 : World) (a0 a1 : Value) (σ : Vw) (R : Value → Vw → Prop) : vc_impl_TrailOf w0 a0 a1 σ R = den Try.prog w0 kp_impl_TrailOf esc_impl_TrailOf (Try.f28.body.getD .skip) (entry Try.f28.ntmps [a0, a1]) σ (retK Try.prog Try.f28.results.toList R) := by kernel_rfl
theorem ac_impl_TrailOf {w0 : World} {a0 a1 : Value} {σ : Vw} {R : Value → Vw → Prop} (h : vc_impl_TrailOf w0 a0 a1 σ R) : AC Try.prog w0 n_impl_TrailOf [a0, a1] σ R := by
  refine ac_rule (fn := Try.f28) (c := Try.f28.body.getD .skip) kp_impl_TrailOf esc_impl_TrailOf Try.func28 (by kernel_rfl) (by kernel_rfl) ?_
  rw [← vc_impl_TrailOf_eq]
  exact h

/-- laws.eqCall -/
def kp_laws_eqCall : Nat → Keep
  | _ => ⟨[], [], [], .done, []⟩
def esc_laws_eqCall : Nat → Bool
  | _ => false
def vc_laws_eqCall (w0 : World) (a0 a1 : Value) (σ : Vw) (R : Value → Vw → Prop) : Prop :=
  pVal true 5 a0 (pVal true 5 a1 (pBin Try.prog 3 BinOp.neq (cellOf a0 0) (cellOf a1 0) (fun v0 => pIf v0 (R (Value.bool false) σ) (AC Try.prog w0 n_laws_eqStringS [cellOf a0 1, cellOf a1 1] σ (fun v1 s2 => pUn UnOp.not v1 (fun v3 => pIf v3 (R (Value.bool false) s2) (AC Try.prog w0 n_laws_eqStringS [cellOf a0 2, cellOf a1 2] s2 (fun v4 s5 => pUn UnOp.not v4 (fun v6 => pIf v6 (R (Value.bool false) s5) (pBin Try.prog 3 BinOp.neq (cellOf a0 3) (cellOf a1 3) (fun v7 => pIf v7 (R (Value.bool false) s5) (pBin Try.prog 9 BinOp.neq (cellOf a0 4) (cellOf a1 4) (fun v8 => pIf v8 (R (Value.bool false) s5) (R (Value.bool true) s5))))))))))))))
theorem vc_laws_eqCall_eq (w0 : World) (a0 a1 : Value) (σ : Vw) (R : Value → Vw → Prop) : vc_laws_eqCall w0 a0 a1 σ R = den Try.prog w0 kp_laws_eqCall esc_laws_eqCall (Try.f29.body.getD .skip) (entry Try.f29.ntmps [a0, a1]) σ (retK Try.prog Try.f29.results.toList R) := by kernel_rfl
theorem ac_laws_eqCall {w0 : World} {a0 a1 : Value} {σ : Vw} {R : Value → Vw → Prop} (h : vc_laws_eqCall w0 a0 a1 σ R) : AC Try.prog w0 n_laws_eqCall [a0, a1] σ R := by
  refine ac_rule (fn := Try.f29) (c := Try.f29.body.getD .skip) kp_laws_eqCall esc_laws_eqCall Try.func29 (by kernel_rfl) (by kernel_rfl) ?_
  rw [← vc_laws_eqCall_eq]
  exact h

/-- laws.markCall -/
def kp_laws_markCall : Nat → Keep
  | _ => ⟨[], [], [], .done, []⟩
def esc_laws_markCall : Nat → Bool
  | _ => false
def vc_laws_markCall (w0 : World) (a0 a1 : Value) (σ : Vw) (R : Value → Vw → Prop) : Prop :=
  pVal true 5 a0 (AC Try.prog w0 n_laws_markStringS [cellOf a0 1, a1] σ (fun v0 s1 => AC Try.prog w0 n_laws_markStringS [cellOf a0 2, v0] s1 (fun v2 s3 => R v2 s3)))
theorem vc_laws_markCall_eq (w0 : World) (a0 a1 : Value) (σ : Vw) (R : Value → Vw → Prop) : vc_laws_markCall w0 a0 a1 σ R = den Try.prog w0 kp_laws_markCall esc_laws_markCall (Try.f30.body.getD .skip) (entry Try.f30.ntmps [a0, a1]) σ (retK Try.prog Try.f30.results.toList R) := by kernel_rfl
theorem ac_laws_markCall {w0 : World} {a0 a1 : Value} {σ : Vw} {R : Value → Vw → Prop} (h : vc_laws_markCall w0 a0 a1 σ R) : AC Try.prog w0 n_laws_markCall [a0, a1] σ R := by
  refine ac_rule (fn := Try.f30) (c := Try.f30.body.getD .skip) kp_laws_markCall esc_laws_markCall Try.func30 (by kernel_rfl) (by kernel_rfl) ?_
  rw [← vc_laws_markCall_eq]
  exact h

/-- laws.markMarkS -/
def kp_laws_markMarkS : Nat → Keep
  | 2 => ⟨[0, 1, 5], [], [], .done, []⟩
  | _ => ⟨[], [], [], .done, []⟩
def esc_laws_markMarkS : Nat → Bool
  | _ => false
def vc_laws_markMarkS (w0 : World) (a0 a1 : Value) (σ : Vw) (R : Value → Vw → Prop) : Prop :=
  pLoop (fun l0 K1 s2 => pLen (vget l0 0) (fun v3 => pBin Try.prog 3 BinOp.lss (vget l0 2) v3 (fun v4 => pIf v4 (pIndexAddr 2 (vget l0 0) (vget l0 2) (fun v5 => pField 0 v5 (fun v6 => pLoad w0 1 v6 s2 (fun g7 => AC Try.prog w0 n_laws_markStringS [g7 0, vget l0 1] s2 (fun v8 s9 => pBin Try.prog 3 BinOp.rem v8 (Value.int IntKind.i64 3) (fun v10 => pBin Try.prog 3 BinOp.eql v10 (Value.int IntKind.i64 0) (fun v11 => pIndexAddr 2 (vget l0 0) (vget l0 2) (fun v12 => pField 1 v12 (fun v13 => pVal false 1 v11 (pStore v13 [v11] s9 (fun s14 => pBin Try.prog 3 BinOp.add v8 (Value.int IntKind.i64 1) (fun v15 => pBin Try.prog 3 BinOp.add (vget l0 2) (Value.int IntKind.i64 1) (fun v16 => K1 AX.normal [vget l0 0, v15, v16] s14))))))))))))) (K1 (AX.exit 0) [vget l0 0, vget l0 1, vget l0 2] s2)))) [a0, a1, Value.int IntKind.i64 0] σ (fun x17 l18 s19 => match x17 with | .normal => R (vget l18 1) s19 | .ret => False | .exit i20 => (match Nat.beq i20 0 with | true => R (vget l18 1) s19 | false => False))
theorem vc_laws_markMarkS_eq (w0 : World) (a0 a1 : Value) (σ : Vw) (R : Value → Vw → Prop) : vc_laws_markMarkS w0 a0 a1 σ R = den Try.prog w0 kp_laws_markMarkS esc_laws_markMarkS (Try.f31.body.getD .skip) (entry Try.f31.ntmps [a0, a1]) σ (retK Try.prog Try.f31.results.toList R) := by kernel_rfl
theorem ac_laws_markMarkS {w0 : World} {a0 a1 : Value} {σ : Vw} {R : Value → Vw → Prop} (h : vc_laws_markMarkS w0 a0 a1 σ R) : AC Try.prog w0 n_laws_markMarkS [a0, a1] σ R := by
  refine ac_rule (fn := Try.f31) (c := Try.f31.body.getD .skip) kp_laws_markMarkS esc_laws_markMarkS Try.func31 (by kernel_rfl) (by kernel_rfl) ?_
  rw [← vc_laws_markMarkS_eq]
  exact h

/-- laws.heldMarkS -/
def kp_laws_heldMarkS : Nat → Keep
  | 2 => ⟨[0, 1, 4, 5], [], [], .done, []⟩
  | _ => ⟨[], [], [], .done, []⟩
def esc_laws_heldMarkS : Nat → Bool
  | _ => false
def vc_laws_heldMarkS (w0 : World) (a0 a1 : Value) (σ : Vw) (R : Value → Vw → Prop) : Prop :=
  pLoop (fun l0 K1 s2 => pLen (vget l0 0) (fun v3 => pBin Try.prog 3 BinOp.lss (vget l0 3) v3 (fun v4 => pIf v4 (pIndexAddr 2 (vget l0 0) (vget l0 3) (fun v5 => pField 0 v5 (fun v6 => pLoad w0 1 v6 s2 (fun g7 => AC Try.prog w0 n_laws_heldStringS [g7 0, vget l0 1] s2 (fun v8 s9 => pBin Try.prog 3 BinOp.lss v8 (Value.int IntKind.i64 0) (fun v10 => pIf v10 (K1 AX.ret [vget l0 0, v8, Value.int IntKind.i64 (-1), vget l0 3] s9) (pIndexAddr 2 (vget l0 0) (vget l0 3) (fun v11 => pField 1 v11 (fun v12 => pLoad w0 1 v12 s9 (fun g13 => pBin Try.prog 3 BinOp.rem v8 (Value.int IntKind.i64 3) (fun v14 => pBin Try.prog 3 BinOp.eql v14 (Value.int IntKind.i64 0) (fun v15 => pBin Try.prog 4 BinOp.neq (g13 0) v15 (fun v16 => pIf v16 (K1 AX.ret [vget l0 0, v8, Value.int IntKind.i64 (-1), vget l0 3] s9) (pBin Try.prog 3 BinOp.add v8 (Value.int IntKind.i64 1) (fun v17 => pBin Try.prog 3 BinOp.add (vget l0 3) (Value.int IntKind.i64 1) (fun v18 => K1 AX.normal [vget l0 0, v17, vget l0 2, v18] s9)))))))))))))))) (K1 (AX.exit 0) [vget l0 0, vget l0 1, vget l0 2, vget l0 3] s2)))) [a0, a1, Value.int IntKind.i64 0, Value.int IntKind.i64 0] σ (fun x19 l20 s21 => match x19 with | .normal => R (vget l20 1) s21 | .ret => R (vget l20 2) s21 | .exit i22 => (match Nat.beq i22 0 with | true => R (vget l20 1) s21 | false => False))
theorem vc_laws_heldMarkS_eq (w0 : World) (a0 a1 : Value) (σ : Vw) (R : Value → Vw → Prop) : vc_laws_heldMarkS w0 a0 a1 σ R = den Try.prog w0 kp_laws_heldMarkS esc_laws_heldMarkS (Try.f32.body.getD .skip) (entry Try.f32.ntmps [a0, a1]) σ (retK Try.prog Try.f32.results.toList R) := by kernel_rfl
theorem ac_laws_heldMarkS {w0 : World} {a0 a1 : Value} {σ : Vw} {R : Value → Vw → Prop} (h : vc_laws_heldMarkS w0 a0 a1 σ R) : AC Try.prog w0 n_laws_heldMarkS [a0, a1] σ R := by
  refine ac_rule (fn := Try.f32) (c := Try.f32.body.getD .skip) kp_laws_heldMarkS esc_laws_heldMarkS Try.func32 (by kernel_rfl) (by kernel_rfl) ?_
  rw [← vc_laws_heldMarkS_eq]
  exact h

/-- laws.szMark -/
def kp_laws_szMark : Nat → Keep
  | _ => ⟨[], [], [], .done, []⟩
def esc_laws_szMark : Nat → Bool
  | _ => false
def vc_laws_szMark (w0 : World) (a0 a1 : Value) (σ : Vw) (R : Value → Vw → Prop) : Prop :=
  pVal true 2 a0 (AC Try.prog w0 n_laws_szStringS [cellOf a0 0, a1] σ (fun v0 s1 => pBin Try.prog 3 BinOp.lss v0 (Value.int IntKind.i64 0) (fun v2 => pIf v2 (R (Value.int IntKind.i64 (-1)) s1) (R v0 s1))))
theorem vc_laws_szMark_eq (w0 : World) (a0 a1 : Value) (σ : Vw) (R : Value → Vw → Prop) : vc_laws_szMark w0 a0 a1 σ R = den Try.prog w0 kp_laws_szMark esc_laws_szMark (Try.f33.body.getD .skip) (entry Try.f33.ntmps [a0, a1]) σ (retK Try.prog Try.f33.results.toList R) := by kernel_rfl
theorem ac_laws_szMark {w0 : World} {a0 a1 : Value} {σ : Vw} {R : Value → Vw → Prop} (h : vc_laws_szMark w0 a0 a1 σ R) : AC Try.prog w0 n_laws_szMark [a0, a1] σ R := by
  refine ac_rule (fn := Try.f33) (c := Try.f33.body.getD .skip) kp_laws_szMark esc_laws_szMark Try.func33 (by kernel_rfl) (by kernel_rfl) ?_
  rw [← vc_laws_szMark_eq]
  exact h

/-- spec.TrailAdd -/
def kp_spec_TrailAdd : Nat → Keep
  | 7 => ⟨[5], [], [], .done, []⟩
  | _ => ⟨[], [], [], .done, []⟩
def esc_spec_TrailAdd : Nat → Bool
  | 9 => true
  | _ => false
def vc_spec_TrailAdd (w0 : World) (a0 a1 : Value) (σ : Vw) (R : Value → Vw → Prop) : Prop :=
  pVal true 2 a1 (AC Try.prog w0 n_spec_TrailOk [a0] σ (fun v0 s1 => pUn UnOp.not v0 (fun v2 => pIf v2 (pNew w0 60 [] s1 (fun n3 s4 => R (Value.slice (Option.some (Addr.mk n3 0 Option.none)) 0 0) s4)) (AC Try.prog w0 n_spec_l11Copy [a0] s1 (fun v5 s6 => AC Try.prog w0 n_spec_l11MarkOk ([Value.agg (⟨[cellOf a1 0, cellOf a1 1]⟩)]) s6 (fun v7 s8 => pUn UnOp.not v7 (fun v9 => pIf v9 (R v5 s8) (AC Try.prog w0 n_spec_l11Put ([v5, Value.agg (⟨[cellOf a1 0, cellOf a1 1]⟩)]) s8 (fun v10 s11 => pLoop (fun l12 K13 s14 => pLen (vget l12 0) (fun v15 => pBin Try.prog 3 BinOp.gtr v15 (Value.int IntKind.i64 6) (fun v16 => pIf v16 (AC Try.prog w0 n_spec_l11Coarser [vget l12 0] s14 (fun v17 s18 => K13 AX.normal [v17] s18)) (K13 (AX.exit 0) [vget l12 0] s14)))) [v10] s11 (fun x19 l20 s21 => match x19 with | .normal => AC Try.prog w0 n_spec_l11Copy [vget l20 0] s21 (fun v22 s23 => R v22 s23) | .ret => False | .exit i24 => (match Nat.beq i24 0 with | true => AC Try.prog w0 n_spec_l11Copy [vget l20 0] s21 (fun v25 s26 => R v25 s26) | false => False)))))))))))
theorem vc_spec_TrailAdd_eq (w0 : World) (a0 a1 : Value) (σ : Vw) (R : Value → Vw → Prop) : vc_spec_TrailAdd w0 a0 a1 σ R = den Try.prog w0 kp_spec_TrailAdd esc_spec_TrailAdd (Try.f34.body.getD .skip) (entry Try.f34.ntmps [a0, a1]) σ (retK Try.prog Try.f34.results.toList R) := by kernel_rfl
theorem ac_spec_TrailAdd {w0 : World} {a0 a1 : Value} {σ : Vw} {R : Value → Vw → Prop} (h : vc_spec_TrailAdd w0 a0 a1 σ R) : AC Try.prog w0 n_spec_TrailAdd [a0, a1] σ R := by
  refine ac_rule (fn := Try.f34) (c := Try.f34.body.getD .skip) kp_spec_TrailAdd esc_spec_TrailAdd Try.func34 (by kernel_rfl) (by kernel_rfl) ?_
  rw [← vc_spec_TrailAdd_eq]
  exact h

/-- laws.toMark -/
def kp_laws_toMark : Nat → Keep
  | _ => ⟨[], [], [], .done, []⟩
def esc_laws_toMark : Nat → Bool
  | _ => false
def vc_laws_toMark (w0 : World) (a0 : Value) (σ : Vw) (R : Value → Vw → Prop) : Prop :=
  pVal true 2 a0 (AC Try.prog w0 n_laws_toStringS [cellOf a0 0] σ (fun v0 s1 => pVal false 1 v0 (pVal false 1 (cellOf a0 1) (pVal true 2 (Value.agg (⟨[v0, cellOf a0 1]⟩)) (R (Value.agg (⟨[v0, cellOf a0 1]⟩)) s1)))))
theorem vc_laws_toMark_eq (w0 : World) (a0 : Value) (σ : Vw) (R : Value → Vw → Prop) : vc_laws_toMark w0 a0 σ R = den Try.prog w0 kp_laws_toMark esc_laws_toMark (Try.f35.body.getD .skip) (entry Try.f35.ntmps [a0]) σ (retK Try.prog Try.f35.results.toList R) := by kernel_rfl
theorem ac_laws_toMark {w0 : World} {a0 : Value} {σ : Vw} {R : Value → Vw → Prop} (h : vc_laws_toMark w0 a0 σ R) : AC Try.prog w0 n_laws_toMark [a0] σ R := by
  refine ac_rule (fn := Try.f35) (c := Try.f35.body.getD .skip) kp_laws_toMark esc_laws_toMark Try.func35 (by kernel_rfl) (by kernel_rfl) ?_
  rw [← vc_laws_toMark_eq]
  exact h

/-- impl.TrailAdd -/
def kp_impl_TrailAdd : Nat → Keep
  | 5 => ⟨[], [], [], .step 0 (.step 2 (.step 1 (.step 3 (.step 4 (.step 5 (.done)))))), [(1, [0]), (3, [0, 1, 2]), (4, [0, 1, 2, 3]), (5, [0, 1, 2, 3, 4])]⟩
  | _ => ⟨[], [], [], .done, []⟩
def esc_impl_TrailAdd : Nat → Bool
  | 8 => true
  | _ => false
def vc_impl_TrailAdd (w0 : World) (a0 a1 : Value) (σ : Vw) (R : Value → Vw → Prop) : Prop :=
  pVal true 2 a1 (AC Try.prog w0 n_impl_TrailOk [a0] σ (fun v0 s1 => pUn UnOp.not v0 (fun v2 => pIf v2 (pNew w0 60 [] s1 (fun n3 s4 => R (Value.slice (Option.some (Addr.mk n3 0 Option.none)) 0 0) s4)) (AC Try.prog w0 n_impl_markOk ([Value.agg (⟨[cellOf a1 0, cellOf a1 1]⟩)]) s1 (fun v5 s6 => pUn UnOp.not v5 (fun v7 => pIf v7 (AC Try.prog w0 n_impl_cloneMarks [a0] s6 (fun v8 s9 => R v8 s9)) (AC Try.prog w0 n_impl_cloneMarks [a0] s6 (fun v10 s11 => AC Try.prog w0 n_impl_add ([v10, Value.agg (⟨[cellOf a1 0, cellOf a1 1]⟩)]) s11 (fun v12 s13 => AC Try.prog w0 n_impl_cloneMarks [v12] s13 (fun v14 s15 => R v14 s15))))))))))
theorem vc_impl_TrailAdd_eq (w0 : World) (a0 a1 : Value) (σ : Vw) (R : Value → Vw → Prop) : vc_impl_TrailAdd w0 a0 a1 σ R = den Try.prog w0 kp_impl_TrailAdd esc_impl_TrailAdd (Try.f36.body.getD .skip) (entry Try.f36.ntmps [a0, a1]) σ (retK Try.prog Try.f36.results.toList R) := by kernel_rfl
theorem ac_impl_TrailAdd {w0 : World} {a0 a1 : Value} {σ : Vw} {R : Value → Vw → Prop} (h : vc_impl_TrailAdd w0 a0 a1 σ R) : AC Try.prog w0 n_impl_TrailAdd [a0, a1] σ R := by
  refine ac_rule (fn := Try.f36) (c := Try.f36.body.getD .skip) kp_impl_TrailAdd esc_impl_TrailAdd Try.func36 (by kernel_rfl) (by kernel_rfl) ?_
  rw [← vc_impl_TrailAdd_eq]
  exact h

/-- laws.eqMark -/
def kp_laws_eqMark : Nat → Keep
  | _ => ⟨[], [], [], .done, []⟩
def esc_laws_eqMark : Nat → Bool
  | _ => false
def vc_laws_eqMark (w0 : World) (a0 a1 : Value) (σ : Vw) (R : Value → Vw → Prop) : Prop :=
  pVal true 2 a0 (pVal true 2 a1 (AC Try.prog w0 n_laws_eqStringS [cellOf a0 0, cellOf a1 0] σ (fun v0 s1 => pUn UnOp.not v0 (fun v2 => pIf v2 (R (Value.bool false) s1) (pBin Try.prog 4 BinOp.neq (cellOf a0 1) (cellOf a1 1) (fun v3 => pIf v3 (R (Value.bool false) s1) (R (Value.bool true) s1)))))))
theorem vc_laws_eqMark_eq (w0 : World) (a0 a1 : Value) (σ : Vw) (R : Value → Vw → Prop) : vc_laws_eqMark w0 a0 a1 σ R = den Try.prog w0 kp_laws_eqMark esc_laws_eqMark (Try.f37.body.getD .skip) (entry Try.f37.ntmps [a0, a1]) σ (retK Try.prog Try.f37.results.toList R) := by kernel_rfl
theorem ac_laws_eqMark {w0 : World} {a0 a1 : Value} {σ : Vw} {R : Value → Vw → Prop} (h : vc_laws_eqMark w0 a0 a1 σ R) : AC Try.prog w0 n_laws_eqMark [a0, a1] σ R := by
  refine ac_rule (fn := Try.f37) (c := Try.f37.body.getD .skip) kp_laws_eqMark esc_laws_eqMark Try.func37 (by kernel_rfl) (by kernel_rfl) ?_
  rw [← vc_laws_eqMark_eq]
  exact h

/-- laws.markMark -/
def kp_laws_markMark : Nat → Keep
  | _ => ⟨[], [], [], .done, []⟩
def esc_laws_markMark : Nat → Bool
  | _ => false
def vc_laws_markMark (w0 : World) (a0 a1 : Value) (σ : Vw) (R : Value → Vw → Prop) : Prop :=
  pVal true 2 a0 (AC Try.prog w0 n_laws_markStringS [cellOf a0 0, a1] σ (fun v0 s1 => R v0 s1))
theorem vc_laws_markMark_eq (w0 : World) (a0 a1 : Value) (σ : Vw) (R : Value → Vw → Prop) : vc_laws_markMark w0 a0 a1 σ R = den Try.prog w0 kp_laws_markMark esc_laws_markMark (Try.f38.body.getD .skip) (entry Try.f38.ntmps [a0, a1]) σ (retK Try.prog Try.f38.results.toList R) := by kernel_rfl
theorem ac_laws_markMark {w0 : World} {a0 a1 : Value} {σ : Vw} {R : Value → Vw → Prop} (h : vc_laws_markMark w0 a0 a1 σ R) : AC Try.prog w0 n_laws_markMark [a0, a1] σ R := by
  refine ac_rule (fn := Try.f38) (c := Try.f38.body.getD .skip) kp_laws_markMark esc_laws_markMark Try.func38 (by kernel_rfl) (by kernel_rfl) ?_
  rw [← vc_laws_markMark_eq]
  exact h

/-- spec.DiffWalk -/
def kp_spec_DiffWalk : Nat → Keep
  | _ => ⟨[], [], [], .done, []⟩
def esc_spec_DiffWalk : Nat → Bool
  | 13 => true
  | 14 => true
  | _ => false
def vc_spec_DiffWalk (w0 : World) (a0 a1 : Value) (σ : Vw) (R : Value → Vw → Prop) : Prop :=
  pVal true 5 a0 (pVal true 5 a1 (AC Try.prog w0 n_spec_TreeOk ([Value.agg (⟨[cellOf a0 0, cellOf a0 1, cellOf a0 2, cellOf a0 3, cellOf a0 4]⟩)]) σ (fun v0 s1 => pUn UnOp.not v0 (fun v2 => pIf v2 (pNew w0 104 [] s1 (fun n3 s4 => R (Value.slice (Option.some (Addr.mk n3 0 Option.none)) 0 0) s4)) (AC Try.prog w0 n_spec_TreeOk ([Value.agg (⟨[cellOf a1 0, cellOf a1 1, cellOf a1 2, cellOf a1 3, cellOf a1 4]⟩)]) s1 (fun v5 s6 => pUn UnOp.not v5 (fun v7 => pIf v7 (pNew w0 104 [] s6 (fun n8 s9 => R (Value.slice (Option.some (Addr.mk n8 0 Option.none)) 0 0) s9)) (pNew w0 9 [] s6 (fun n10 s11 => AC Try.prog w0 n_spec_l3Walk ([Value.slice (Option.some (Addr.mk n10 0 Option.none)) 0 0, Value.agg (⟨[cellOf a0 0, cellOf a0 1, cellOf a0 2, cellOf a0 3, cellOf a0 4]⟩), Value.agg (⟨[cellOf a1 0, cellOf a1 1, cellOf a1 2, cellOf a1 3, cellOf a1 4]⟩)]) s11 (fun v12 s13 => R v12 s13))))))))))
theorem vc_spec_DiffWalk_eq (w0 : World) (a0 a1 : Value) (σ : Vw) (R : Value → Vw → Prop) : vc_spec_DiffWalk w0 a0 a1 σ R = den Try.prog w0 kp_spec_DiffWalk esc_spec_DiffWalk (Try.f39.body.getD .skip) (entry Try.f39.ntmps [a0, a1]) σ (retK Try.prog Try.f39.results.toList R) := by kernel_rfl
theorem ac_spec_DiffWalk {w0 : World} {a0 a1 : Value} {σ : Vw} {R : Value → Vw → Prop} (h : vc_spec_DiffWalk w0 a0 a1 σ R) : AC Try.prog w0 n_spec_DiffWalk [a0, a1] σ R := by
  refine ac_rule (fn := Try.f39) (c := Try.f39.body.getD .skip) kp_spec_DiffWalk esc_spec_DiffWalk Try.func39 (by kernel_rfl) (by kernel_rfl) ?_
  rw [← vc_spec_DiffWalk_eq]
  exact h

/-- impl.DiffWalk -/
def kp_impl_DiffWalk : Nat → Keep
  | _ => ⟨[], [], [], .done, []⟩
def esc_impl_DiffWalk : Nat → Bool
  | 2 => true
  | 3 => true
  | 13 => true
  | _ => false
def vc_impl_DiffWalk (w0 : World) (a0 a1 : Value) (σ : Vw) (R : Value → Vw → Prop) : Prop :=
  pVal true 5 a0 (pNew w0 37 [cellOf a0 0, cellOf a0 1, cellOf a0 2, cellOf a0 3, cellOf a0 4] σ (fun n0 s1 => pVal true 5 a1 (pNew w0 37 [cellOf a1 0, cellOf a1 1, cellOf a1 2, cellOf a1 3, cellOf a1 4] s1 (fun n2 s3 => pLoad w0 5 (Value.pointer (Option.some (Addr.mk n0 0 Option.none))) s3 (fun g4 => AC Try.prog w0 n_impl_TreeOk ([Value.agg (⟨[g4 0, g4 1, g4 2, g4 3, g4 4]⟩)]) s3 (fun v5 s6 => pUn UnOp.not v5 (fun v7 => pIf v7 (pNew w0 104 [] s6 (fun n8 s9 => R (Value.slice (Option.some (Addr.mk n8 0 Option.none)) 0 0) s9)) (pLoad w0 5 (Value.pointer (Option.some (Addr.mk n2 0 Option.none))) s6 (fun g10 => AC Try.prog w0 n_impl_TreeOk ([Value.agg (⟨[g10 0, g10 1, g10 2, g10 3, g10 4]⟩)]) s6 (fun v11 s12 => pUn UnOp.not v11 (fun v13 => pIf v13 (pNew w0 104 [] s12 (fun n14 s15 => R (Value.slice (Option.some (Addr.mk n14 0 Option.none)) 0 0) s15)) (AC Try.prog w0 n_impl_walk [Value.slice Option.none 0 0, Value.pointer (Option.some (Addr.mk n0 0 Option.none)), Value.pointer (Option.some (Addr.mk n2 0 Option.none))] s12 (fun v16 s17 => R v16 s17)))))))))))))
theorem vc_impl_DiffWalk_eq (w0 : World) (a0 a1 : Value) (σ : Vw) (R : Value → Vw → Prop) : vc_impl_DiffWalk w0 a0 a1 σ R = den Try.prog w0 kp_impl_DiffWalk esc_impl_DiffWalk (Try.f40.body.getD .skip) (entry Try.f40.ntmps [a0, a1]) σ (retK Try.prog Try.f40.results.toList R) := by kernel_rfl
theorem ac_impl_DiffWalk {w0 : World} {a0 a1 : Value} {σ : Vw} {R : Value → Vw → Prop} (h : vc_impl_DiffWalk w0 a0 a1 σ R) : AC Try.prog w0 n_impl_DiffWalk [a0, a1] σ R := by
  refine ac_rule (fn := Try.f40) (c := Try.f40.body.getD .skip) kp_impl_DiffWalk esc_impl_DiffWalk Try.func40 (by kernel_rfl) (by kernel_rfl) ?_
  rw [← vc_impl_DiffWalk_eq]
  exact h

/-- laws.eqEntryS -/
def kp_laws_eqEntryS : Nat → Keep
  | 4 => ⟨[0, 1, 4, 5], [], [], .done, []⟩
  | 6 => ⟨[], [], [], .step 0 (.step 1 (.step 2 (.step 3 (.step 4 (.step 5 (.step 6 (.step 7 (.step 8 (.step 9 (.done)))))))))), [(2, [0, 1]), (3, [0, 1, 2]), (6, [4, 5]), (7, [4, 5, 6]), (8, [0, 1, 2, 3, 4, 5, 6, 7]), (9, [0, 1, 2, 3, 4, 5, 6, 7, 8])]⟩
  | _ => ⟨[], [], [], .done, []⟩
def esc_laws_eqEntryS : Nat → Bool
  | _ => false
def vc_laws_eqEntryS (w0 : World) (a0 a1 : Value) (σ : Vw) (R : Value → Vw → Prop) : Prop :=
  pLen a0 (fun v0 => pLen a1 (fun v1 => pBin Try.prog 3 BinOp.neq v0 v1 (fun v2 => pIf v2 (R (Value.bool false) σ) (pLoop (fun l3 K4 s5 => pLen (vget l3 0) (fun v6 => pBin Try.prog 3 BinOp.lss (vget l3 3) v6 (fun v7 => pIf v7 (pIndexAddr 5 (vget l3 0) (vget l3 3) (fun v8 => pLoad w0 5 v8 s5 (fun g9 => pIndexAddr 5 (vget l3 1) (vget l3 3) (fun v10 => pLoad w0 5 v10 s5 (fun g11 => AC Try.prog w0 n_laws_eqEntry ([Value.agg (⟨[g9 0, g9 1, g9 2, g9 3, g9 4]⟩), Value.agg (⟨[g11 0, g11 1, g11 2, g11 3, g11 4]⟩)]) s5 (fun v12 s13 => pUn UnOp.not v12 (fun v14 => pIf v14 (K4 AX.ret [vget l3 0, vget l3 1, Value.bool false, vget l3 3] s13) (pBin Try.prog 3 BinOp.add (vget l3 3) (Value.int IntKind.i64 1) (fun v15 => K4 AX.normal [vget l3 0, vget l3 1, vget l3 2, v15] s13))))))))) (K4 (AX.exit 0) [vget l3 0, vget l3 1, vget l3 2, vget l3 3] s5)))) [a0, a1, Value.bool false, Value.int IntKind.i64 0] σ (fun x16 l17 s18 => match x16 with | .normal => R (Value.bool true) s18 | .ret => R (vget l17 2) s18 | .exit i19 => (match Nat.beq i19 0 with | true => R (Value.bool true) s18 | false => False))))))
theorem vc_laws_eqEntryS_eq (w0 : World) (a0 a1 : Value) (σ : Vw) (R : Value → Vw → Prop) : vc_laws_eqEntryS w0 a0 a1 σ R = den Try.prog w0 kp_laws_eqEntryS esc_laws_eqEntryS (Try.f41.body.getD .skip) (entry Try.f41.ntmps [a0, a1]) σ (retK Try.prog Try.f41.results.toList R) := by kernel_rfl
theorem ac_laws_eqEntryS {w0 : World} {a0 a1 : Value} {σ : Vw} {R : Value → Vw → Prop} (h : vc_laws_eqEntryS w0 a0 a1 σ R) : AC Try.prog w0 n_laws_eqEntryS [a0, a1] σ R := by
  refine ac_rule (fn := Try.f41) (c := Try.f41.body.getD .skip) kp_laws_eqEntryS esc_laws_eqEntryS Try.func41 (by kernel_rfl) (by kernel_rfl) ?_
  rw [← vc_laws_eqEntryS_eq]
  exact h

/-- laws.markEntryS -/
def kp_laws_markEntryS : Nat → Keep
  | 2 => ⟨[0, 1, 5], [], [], .done, []⟩
  | _ => ⟨[], [], [], .done, []⟩
def esc_laws_markEntryS : Nat → Bool
  | _ => false
def vc_laws_markEntryS (w0 : World) (a0 a1 : Value) (σ : Vw) (R : Value → Vw → Prop) : Prop :=
  pLoop (fun l0 K1 s2 => pLen (vget l0 0) (fun v3 => pBin Try.prog 3 BinOp.lss (vget l0 2) v3 (fun v4 => pIf v4 (pIndexAddr 5 (vget l0 0) (vget l0 2) (fun v5 => pField 0 v5 (fun v6 => pLoad w0 1 v6 s2 (fun g7 => AC Try.prog w0 n_laws_markStringS [g7 0, vget l0 1] s2 (fun v8 s9 => pIndexAddr 5 (vget l0 0) (vget l0 2) (fun v10 => pField 1 v10 (fun v11 => pVal false 1 v8 (pStore v11 [v8] s9 (fun s12 => pBin Try.prog 3 BinOp.add v8 (Value.int IntKind.i64 1) (fun v13 => pBin Try.prog 3 BinOp.rem v13 (Value.int IntKind.i64 3) (fun v14 => pBin Try.prog 3 BinOp.eql v14 (Value.int IntKind.i64 0) (fun v15 => pIndexAddr 5 (vget l0 0) (vget l0 2) (fun v16 => pField 2 v16 (fun v17 => pVal false 1 v15 (pStore v17 [v15] s12 (fun s18 => pBin Try.prog 3 BinOp.add v13 (Value.int IntKind.i64 1) (fun v19 => pIndexAddr 5 (vget l0 0) (vget l0 2) (fun v20 => pField 3 v20 (fun v21 => pVal false 1 v19 (pStore v21 [v19] s18 (fun s22 => pBin Try.prog 3 BinOp.add v19 (Value.int IntKind.i64 1) (fun v23 => AC Try.prog w0 n_laws_markText [v23] s22 (fun v24 s25 => pIndexAddr 5 (vget l0 0) (vget l0 2) (fun v26 => pField 4 v26 (fun v27 => pVal false 1 v24 (pStore v27 [v24] s25 (fun s28 => pBin Try.prog 3 BinOp.add v23 (Value.int IntKind.i64 1) (fun v29 => pBin Try.prog 3 BinOp.add (vget l0 2) (Value.int IntKind.i64 1) (fun v30 => K1 AX.normal [vget l0 0, v29, v30] s28))))))))))))))))))))))))))))) (K1 (AX.exit 0) [vget l0 0, vget l0 1, vget l0 2] s2)))) [a0, a1, Value.int IntKind.i64 0] σ (fun x31 l32 s33 => match x31 with | .normal => R (vget l32 1) s33 | .ret => False | .exit i34 => (match Nat.beq i34 0 with | true => R (vget l32 1) s33 | false => False))
theorem vc_laws_markEntryS_eq (w0 : World) (a0 a1 : Value) (σ : Vw) (R : Value → Vw → Prop) : vc_laws_markEntryS w0 a0 a1 σ R = den Try.prog w0 kp_laws_markEntryS esc_laws_markEntryS (Try.f42.body.getD .skip) (entry Try.f42.ntmps [a0, a1]) σ (retK Try.prog Try.f42.results.toList R) := by kernel_rfl
theorem ac_laws_markEntryS {w0 : World} {a0 a1 : Value} {σ : Vw} {R : Value → Vw → Prop} (h : vc_laws_markEntryS w0 a0 a1 σ R) : AC Try.prog w0 n_laws_markEntryS [a0, a1] σ R := by
  refine ac_rule (fn := Try.f42) (c := Try.f42.body.getD .skip) kp_laws_markEntryS esc_laws_markEntryS Try.func42 (by kernel_rfl) (by kernel_rfl) ?_
  rw [← vc_laws_markEntryS_eq]
  exact h

/-- laws.heldEntryS -/
def kp_laws_heldEntryS : Nat → Keep
  | 2 => ⟨[0, 1, 4, 5], [], [], .done, []⟩
  | 16 => ⟨[], [], [], .step 0 (.step 1 (.step 2 (.step 3 (.step 4 (.step 5 (.step 6 (.step 7 (.done)))))))), [(2, [0, 1]), (3, [0, 1, 2]), (4, [0, 1, 2, 3]), (6, [5]), (7, [0, 1, 2, 3, 4, 5, 6])]⟩
  | _ => ⟨[], [], [], .done, []⟩
def esc_laws_heldEntryS : Nat → Bool
  | _ => false
def vc_laws_heldEntryS (w0 : World) (a0 a1 : Value) (σ : Vw) (R : Value → Vw → Prop) : Prop :=
  pLoop (fun l0 K1 s2 => pLen (vget l0 0) (fun v3 => pBin Try.prog 3 BinOp.lss (vget l0 3) v3 (fun v4 => pIf v4 (pIndexAddr 5 (vget l0 0) (vget l0 3) (fun v5 => pField 0 v5 (fun v6 => pLoad w0 1 v6 s2 (fun g7 => AC Try.prog w0 n_laws_heldStringS [g7 0, vget l0 1] s2 (fun v8 s9 => pBin Try.prog 3 BinOp.lss v8 (Value.int IntKind.i64 0) (fun v10 => pIf v10 (K1 AX.ret [vget l0 0, v8, Value.int IntKind.i64 (-1), vget l0 3] s9) (pIndexAddr 5 (vget l0 0) (vget l0 3) (fun v11 => pField 1 v11 (fun v12 => pLoad w0 1 v12 s9 (fun g13 => pBin Try.prog 3 BinOp.neq (g13 0) v8 (fun v14 => pIf v14 (K1 AX.ret [vget l0 0, v8, Value.int IntKind.i64 (-1), vget l0 3] s9) (pBin Try.prog 3 BinOp.add v8 (Value.int IntKind.i64 1) (fun v15 => pIndexAddr 5 (vget l0 0) (vget l0 3) (fun v16 => pField 2 v16 (fun v17 => pLoad w0 1 v17 s9 (fun g18 => pBin Try.prog 3 BinOp.rem v15 (Value.int IntKind.i64 3) (fun v19 => pBin Try.prog 3 BinOp.eql v19 (Value.int IntKind.i64 0) (fun v20 => pBin Try.prog 4 BinOp.neq (g18 0) v20 (fun v21 => pIf v21 (K1 AX.ret [vget l0 0, v15, Value.int IntKind.i64 (-1), vget l0 3] s9) (pBin Try.prog 3 BinOp.add v15 (Value.int IntKind.i64 1) (fun v22 => pIndexAddr 5 (vget l0 0) (vget l0 3) (fun v23 => pField 3 v23 (fun v24 => pLoad w0 1 v24 s9 (fun g25 => pBin Try.prog 3 BinOp.neq (g25 0) v22 (fun v26 => pIf v26 (K1 AX.ret [vget l0 0, v22, Value.int IntKind.i64 (-1), vget l0 3] s9) (pBin Try.prog 3 BinOp.add v22 (Value.int IntKind.i64 1) (fun v27 => pIndexAddr 5 (vget l0 0) (vget l0 3) (fun v28 => pField 4 v28 (fun v29 => pLoad w0 1 v29 s9 (fun g30 => AC Try.prog w0 n_laws_markText [v27] s9 (fun v31 s32 => (Stay w0 s9 s32 v29 1) ∧ (pBin Try.prog 9 BinOp.neq (g30 0) v31 (fun v33 => pIf v33 (K1 AX.ret [vget l0 0, v27, Value.int IntKind.i64 (-1), vget l0 3] s32) (pBin Try.prog 3 BinOp.add v27 (Value.int IntKind.i64 1) (fun v34 => pBin Try.prog 3 BinOp.add (vget l0 3) (Value.int IntKind.i64 1) (fun v35 => K1 AX.normal [vget l0 0, v34, vget l0 2, v35] s32)))))))))))))))))))))))))))))))))))) (K1 (AX.exit 0) [vget l0 0, vget l0 1, vget l0 2, vget l0 3] s2)))) [a0, a1, Value.int IntKind.i64 0, Value.int IntKind.i64 0] σ (fun x36 l37 s38 => match x36 with | .normal => R (vget l37 1) s38 | .ret => R (vget l37 2) s38 | .exit i39 => (match Nat.beq i39 0 with | true => R (vget l37 1) s38 | false => False))
theorem vc_laws_heldEntryS_eq (w0 : World) (a0 a1 : Value) (σ : Vw) (R : Value → Vw → Prop) : vc_laws_heldEntryS w0 a0 a1 σ R = den Try.prog w0 kp_laws_heldEntryS esc_laws_heldEntryS (Try.f43.body.getD .skip) (entry Try.f43.ntmps [a0, a1]) σ (retK Try.prog Try.f43.results.toList R) := by kernel_rfl
theorem ac_laws_heldEntryS {w0 : World} {a0 a1 : Value} {σ : Vw} {R : Value → Vw → Prop} (h : vc_laws_heldEntryS w0 a0 a1 σ R) : AC Try.prog w0 n_laws_heldEntryS [a0, a1] σ R := by
  refine ac_rule (fn := Try.f43) (c := Try.f43.body.getD .skip) kp_laws_heldEntryS esc_laws_heldEntryS Try.func43 (by kernel_rfl) (by kernel_rfl) ?_
  rw [← vc_laws_heldEntryS_eq]
  exact h

/-- spec.DrawTreeRead -/
def kp_spec_DrawTreeRead : Nat → Keep
  | 3 => ⟨[], [], [], .step 0 (.step 1 (.step 2 (.step 4 (.step 7 (.step 11 (.step 3 (.step 5 (.step 6 (.step 8 (.step 9 (.both (.step 10 (.step 12 (.step 13 (.step 14 (.step 15 (.step 16 (.step 17 (.step 18 (.done))))))))) (.step 12 (.both (.step 10 (.step 13 (.step 14 (.step 15 (.step 16 (.step 17 (.step 18 (.done)))))))) (.step 15 (.step 16 (.step 17 (.step 10 (.step 13 (.step 14 (.step 18 (.done))))))))))))))))))))), [(3, [1, 2]), (5, [1, 2, 3, 4]), (6, [1, 2, 3, 4, 5]), (8, [1, 2, 3, 4, 5, 7]), (9, [1, 2, 3, 4, 5, 7, 8]), (10, [1, 2, 3, 4, 5, 7, 8, 9]), (12, [1, 2, 3, 4, 5, 7, 8, 11]), (13, [1, 2, 3, 4, 5, 7, 8, 9, 10, 11, 12]), (14, [1, 2, 3, 4, 5, 7, 8, 9, 10, 11, 12, 13]), (15, [0, 1, 2, 3, 4, 5, 7, 8, 11, 12]), (16, [0, 1, 2, 3, 4, 5, 7, 8, 11, 12, 15]), (17, [0, 1, 2, 3, 4, 5, 6, 7, 8, 11, 12, 15, 16]), (18, [0, 1, 2, 3, 4, 5, 6, 7, 8, 9, 10, 11, 12, 13, 14, 15, 16, 17])]⟩
  | _ => ⟨[], [], [], .done, []⟩
def esc_spec_DrawTreeRead : Nat → Bool
  | 22 => true
  | _ => false
def vc_spec_DrawTreeRead (w0 : World) (a0 : Value) (σ : Vw) (R : Value → Vw → Prop) : Prop :=
  AC Try.prog w0 n_spec_l1Open [a0] σ (fun v0 s1 => AC Try.prog w0 n_spec_l4Any [v0] s1 (fun v2 s3 => pVal true 5 v2 (AC Try.prog w0 n_spec_l4Path ([v0, Value.agg (⟨[cellOf v2 0, cellOf v2 1, cellOf v2 2, cellOf v2 3, cellOf v2 4]⟩)]) s3 (fun v4 s5 => AC Try.prog w0 n_p_spec_l1Rd_pick [v0, Value.int IntKind.i64 14] s5 (fun v6 s7 => pBin Try.prog 3 BinOp.sub v6 (Value.int IntKind.i64 1) (fun v8 => AC Try.prog w0 n_p_spec_l1Rd_pick [v0, Value.int IntKind.i64 9] s7 (fun v9 s10 => pBin Try.prog 3 BinOp.sub v9 (Value.int IntKind.i64 1) (fun v11 => (pVal false 1 v11 (pVal false 1 (Value.int IntKind.i64 4611686018427387904) (pVal false 1 (Value.int IntKind.i64 0) (pNew w0 3 [v11, Value.int IntKind.i64 4611686018427387904, Value.int IntKind.i64 0] s10 (fun n12 s13 => AC Try.prog w0 n_p_spec_l1Rd_pick [v0, Value.int IntKind.i64 3] s13 (fun v14 s15 => pIndexAddr 1 (Value.slice (Option.some (Addr.mk n12 0 Option.none)) 3 3) v14 (fun v16 => pLoad w0 1 v16 s15 (fun g17 => pVal true 5 (Value.agg (⟨[cellOf v2 0, cellOf v2 1, cellOf v2 2, cellOf v2 3, cellOf v2 4]⟩)) (R (Value.tuple (⟨[Value.agg (⟨[cellOf v2 0, cellOf v2 1, cellOf v2 2, cellOf v2 3, cellOf v2 4]⟩), v4, v8, g17 0]⟩)) s15))))))))) ∧ (AC Try.prog w0 n_p_spec_l1Rd_pick [v0, Value.int IntKind.i64 3] s10 (fun v18 s19 => (pVal false 1 v11 (pVal false 1 (Value.int IntKind.i64 4611686018427387904) (pVal false 1 (Value.int IntKind.i64 0) (pNew w0 3 [v11, Value.int IntKind.i64 4611686018427387904, Value.int IntKind.i64 0] s19 (fun n20 s21 => pIndexAddr 1 (Value.slice (Option.some (Addr.mk n20 0 Option.none)) 3 3) v18 (fun v22 => pLoad w0 1 v22 s21 (fun g23 => pVal true 5 (Value.agg (⟨[cellOf v2 0, cellOf v2 1, cellOf v2 2, cellOf v2 3, cellOf v2 4]⟩)) (R (Value.tuple (⟨[Value.agg (⟨[cellOf v2 0, cellOf v2 1, cellOf v2 2, cellOf v2 3, cellOf v2 4]⟩), v4, v8, g23 0]⟩)) s21)))))))) ∧ (pVal true 5 (Value.agg (⟨[cellOf v2 0, cellOf v2 1, cellOf v2 2, cellOf v2 3, cellOf v2 4]⟩)) (pVal false 1 v11 (pVal false 1 (Value.int IntKind.i64 4611686018427387904) (pVal false 1 (Value.int IntKind.i64 0) (pNew w0 3 [v11, Value.int IntKind.i64 4611686018427387904, Value.int IntKind.i64 0] s19 (fun n24 s25 => pIndexAddr 1 (Value.slice (Option.some (Addr.mk n24 0 Option.none)) 3 3) v18 (fun v26 => pLoad w0 1 v26 s25 (fun g27 => R (Value.tuple (⟨[Value.agg (⟨[cellOf v2 0, cellOf v2 1, cellOf v2 2, cellOf v2 3, cellOf v2 4]⟩), v4, v8, g27 0]⟩)) s25))))))))))))))))))
theorem vc_spec_DrawTreeRead_eq (w0 : World) (a0 : Value) (σ : Vw) (R : Value → Vw → Prop) : vc_spec_DrawTreeRead w0 a0 σ R = den Try.prog w0 kp_spec_DrawTreeRead esc_spec_DrawTreeRead (Try.f44.body.getD .skip) (entry Try.f44.ntmps [a0]) σ (retK Try.prog Try.f44.results.toList R) := by kernel_rfl
theorem ac_spec_DrawTreeRead {w0 : World} {a0 : Value} {σ : Vw} {R : Value → Vw → Prop} (h : vc_spec_DrawTreeRead w0 a0 σ R) : AC Try.prog w0 n_spec_DrawTreeRead [a0] σ R := by
  refine ac_rule (fn := Try.f44) (c := Try.f44.body.getD .skip) kp_spec_DrawTreeRead esc_spec_DrawTreeRead Try.func44 (by kernel_rfl) (by kernel_rfl) ?_
  rw [← vc_spec_DrawTreeRead_eq]
  exact h

/-- impl.TreeRead -/
def kp_impl_TreeRead : Nat → Keep
  | 10 => ⟨[], [], [], .step 0 (.step 1 (.step 2 (.step 3 (.step 4 (.step 5 (.step 6 (.step 7 (.step 8 (.step 9 (.step 10 (.step 11 (.step 12 (.done))))))))))))), [(1, [0]), (2, [0, 1]), (3, [0, 1, 2]), (6, [5]), (7, [5, 6]), (8, [5, 6, 7]), (9, [5, 6, 7, 8]), (10, [4, 5, 6, 7, 8, 9]), (11, [0, 1, 2, 3, 4, 5, 6, 7, 8, 9, 10]), (12, [0, 1, 2, 3, 4, 5, 6, 7, 8, 9, 10, 11])]⟩
  | _ => ⟨[], [], [], .done, []⟩
def esc_impl_TreeRead : Nat → Bool
  | 4 => true
  | _ => false
def vc_impl_TreeRead (w0 : World) (a0 a1 a2 a3 : Value) (σ : Vw) (R : Value → Vw → Prop) : Prop :=
  pVal true 5 a0 (pNew w0 37 [cellOf a0 0, cellOf a0 1, cellOf a0 2, cellOf a0 3, cellOf a0 4] σ (fun n0 s1 => pLoad w0 5 (Value.pointer (Option.some (Addr.mk n0 0 Option.none))) s1 (fun g2 => AC Try.prog w0 n_impl_TreeOk ([Value.agg (⟨[g2 0, g2 1, g2 2, g2 3, g2 4]⟩)]) s1 (fun v3 s4 => pUn UnOp.not v3 (fun v5 => pIf v5 (R (Value.tuple (⟨[Value.string ({ data := #[] }), Value.int IntKind.i64 1]⟩)) s4) (pBin Try.prog 3 BinOp.lss a2 (Value.int IntKind.i64 0) (fun v6 => pIf v6 (R (Value.tuple (⟨[Value.string ({ data := #[] }), Value.int IntKind.i64 2]⟩)) s4) (pBin Try.prog 3 BinOp.lss a3 (Value.int IntKind.i64 0) (fun v7 => pIf v7 (R (Value.tuple (⟨[Value.string ({ data := #[] }), Value.int IntKind.i64 2]⟩)) s4) (AC Try.prog w0 n_p_impl_Tree_at [Value.pointer (Option.some (Addr.mk n0 0 Option.none)), a1] s4 (fun v8 s9 => pBin Try.prog 90 BinOp.eql v8 (Value.pointer Option.none) (fun v10 => pIf v10 (R (Value.tuple (⟨[Value.string ({ data := #[] }), Value.int IntKind.i64 3]⟩)) s9) (pNil v8 (pField 0 v8 (fun v11 => pLoad w0 1 v11 s9 (fun g12 => pIf (g12 0) (R (Value.tuple (⟨[Value.string ({ data := #[] }), Value.int IntKind.i64 4]⟩)) s9) (pNil v8 (pField 2 v8 (fun v13 => pLoad w0 1 v13 s9 (fun g14 => pNil v8 (pField 2 v8 (fun v15 => pLoad w0 1 v15 s9 (fun g16 => pLenS (g16 0) (fun v17 => pMin a2 v17 (fun v18 => pSliceStr (g14 0) (Option.some v18) Option.none (fun v19 => pLenS v19 (fun v20 => pMin a3 v20 (fun v21 => pSliceStr v19 Option.none (Option.some v21) (fun v22 => R (Value.tuple (⟨[v22, Value.int IntKind.i64 0]⟩)) s9)))))))))))))))))))))))))))))
theorem vc_impl_TreeRead_eq (w0 : World) (a0 a1 a2 a3 : Value) (σ : Vw) (R : Value → Vw → Prop) : vc_impl_TreeRead w0 a0 a1 a2 a3 σ R = den Try.prog w0 kp_impl_TreeRead esc_impl_TreeRead (Try.f45.body.getD .skip) (entry Try.f45.ntmps [a0, a1, a2, a3]) σ (retK Try.prog Try.f45.results.toList R) := by kernel_rfl
theorem ac_impl_TreeRead {w0 : World} {a0 a1 a2 a3 : Value} {σ : Vw} {R : Value → Vw → Prop} (h : vc_impl_TreeRead w0 a0 a1 a2 a3 σ R) : AC Try.prog w0 n_impl_TreeRead [a0, a1, a2, a3] σ R := by
  refine ac_rule (fn := Try.f45) (c := Try.f45.body.getD .skip) kp_impl_TreeRead esc_impl_TreeRead Try.func45 (by kernel_rfl) (by kernel_rfl) ?_
  rw [← vc_impl_TreeRead_eq]
  exact h

/-- spec.TreeRead -/
def kp_spec_TreeRead : Nat → Keep
  | _ => ⟨[], [], [], .done, []⟩
def esc_spec_TreeRead : Nat → Bool
  | _ => false
def vc_spec_TreeRead (w0 : World) (a0 a1 a2 a3 : Value) (σ : Vw) (R : Value → Vw → Prop) : Prop :=
  pVal true 5 a0 (AC Try.prog w0 n_spec_TreeOk ([Value.agg (⟨[cellOf a0 0, cellOf a0 1, cellOf a0 2, cellOf a0 3, cellOf a0 4]⟩)]) σ (fun v0 s1 => pUn UnOp.not v0 (fun v2 => pIf v2 (R (Value.tuple (⟨[Value.string ({ data := #[] }), Value.int IntKind.i64 1]⟩)) s1) (AC Try.prog w0 n_spec_l1At ([Value.agg (⟨[cellOf a0 0, cellOf a0 1, cellOf a0 2, cellOf a0 3, cellOf a0 4]⟩), a1]) s1 (fun v3 s4 => pExtract v3 0 (fun v5 => pExtract v3 1 (fun v6 => pVal true 5 v5 (pBin Try.prog 3 BinOp.lss a2 (Value.int IntKind.i64 0) (fun v7 => pIf v7 (R (Value.tuple (⟨[Value.string ({ data := #[] }), Value.int IntKind.i64 2]⟩)) s4) (pBin Try.prog 3 BinOp.lss a3 (Value.int IntKind.i64 0) (fun v8 => pIf v8 (R (Value.tuple (⟨[Value.string ({ data := #[] }), Value.int IntKind.i64 2]⟩)) s4) (pUn UnOp.not v6 (fun v9 => pIf v9 (R (Value.tuple (⟨[Value.string ({ data := #[] }), Value.int IntKind.i64 3]⟩)) s4) (pIf (cellOf v5 0) (R (Value.tuple (⟨[Value.string ({ data := #[] }), Value.int IntKind.i64 4]⟩)) s4) (pLenS (cellOf v5 2) (fun v10 => pBin Try.prog 3 BinOp.geq a2 v10 (fun v11 => pIf v11 (R (Value.tuple (⟨[Value.string ({ data := #[] }), Value.int IntKind.i64 0]⟩)) s4) (pLenS (cellOf v5 2) (fun v12 => pBin Try.prog 3 BinOp.sub v12 a2 (fun v13 => pBin Try.prog 3 BinOp.gtr a3 v13 (fun v14 => pIf v14 (pSliceStr (cellOf v5 2) (Option.some a2) Option.none (fun v15 => R (Value.tuple (⟨[v15, Value.int IntKind.i64 0]⟩)) s4)) (pBin Try.prog 3 BinOp.add a2 a3 (fun v16 => pSliceStr (cellOf v5 2) (Option.some a2) (Option.some v16) (fun v17 => R (Value.tuple (⟨[v17, Value.int IntKind.i64 0]⟩)) s4))))))))))))))))))))))))
theorem vc_spec_TreeRead_eq (w0 : World) (a0 a1 a2 a3 : Value) (σ : Vw) (R : Value → Vw → Prop) : vc_spec_TreeRead w0 a0 a1 a2 a3 σ R = den Try.prog w0 kp_spec_TreeRead esc_spec_TreeRead (Try.f46.body.getD .skip) (entry Try.f46.ntmps [a0, a1, a2, a3]) σ (retK Try.prog Try.f46.results.toList R) := by kernel_rfl
theorem ac_spec_TreeRead {w0 : World} {a0 a1 a2 a3 : Value} {σ : Vw} {R : Value → Vw → Prop} (h : vc_spec_TreeRead w0 a0 a1 a2 a3 σ R) : AC Try.prog w0 n_spec_TreeRead [a0, a1, a2, a3] σ R := by
  refine ac_rule (fn := Try.f46) (c := Try.f46.body.getD .skip) kp_spec_TreeRead esc_spec_TreeRead Try.func46 (by kernel_rfl) (by kernel_rfl) ?_
  rw [← vc_spec_TreeRead_eq]
  exact h

/-- spec.DrawTreeList -/
def kp_spec_DrawTreeList : Nat → Keep
  | _ => ⟨[], [], [], .done, []⟩
def esc_spec_DrawTreeList : Nat → Bool
  | _ => false
def vc_spec_DrawTreeList (w0 : World) (a0 : Value) (σ : Vw) (R : Value → Vw → Prop) : Prop :=
  AC Try.prog w0 n_spec_DrawTreeAt [a0] σ (fun v0 s1 => pExtract v0 0 (fun v2 => pExtract v0 1 (fun v3 => pVal true 5 v2 (R (Value.tuple (⟨[Value.agg (⟨[cellOf v2 0, cellOf v2 1, cellOf v2 2, cellOf v2 3, cellOf v2 4]⟩), v3]⟩)) s1))))
theorem vc_spec_DrawTreeList_eq (w0 : World) (a0 : Value) (σ : Vw) (R : Value → Vw → Prop) : vc_spec_DrawTreeList w0 a0 σ R = den Try.prog w0 kp_spec_DrawTreeList esc_spec_DrawTreeList (Try.f47.body.getD .skip) (entry Try.f47.ntmps [a0]) σ (retK Try.prog Try.f47.results.toList R) := by kernel_rfl
theorem ac_spec_DrawTreeList {w0 : World} {a0 : Value} {σ : Vw} {R : Value → Vw → Prop} (h : vc_spec_DrawTreeList w0 a0 σ R) : AC Try.prog w0 n_spec_DrawTreeList [a0] σ R := by
  refine ac_rule (fn := Try.f47) (c := Try.f47.body.getD .skip) kp_spec_DrawTreeList esc_spec_DrawTreeList Try.func47 (by kernel_rfl) (by kernel_rfl) ?_
  rw [← vc_spec_DrawTreeList_eq]
  exact h

/-- impl.TreeList -/
def kp_impl_TreeList : Nat → Keep
  | _ => ⟨[], [], [], .done, []⟩
def esc_impl_TreeList : Nat → Bool
  | 2 => true
  | 10 => true
  | 16 => true
  | 23 => true
  | 24 => true
  | _ => false
def vc_impl_TreeList (w0 : World) (a0 a1 : Value) (σ : Vw) (R : Value → Vw → Prop) : Prop :=
  pVal true 5 a0 (pNew w0 37 [cellOf a0 0, cellOf a0 1, cellOf a0 2, cellOf a0 3, cellOf a0 4] σ (fun n0 s1 => pLoad w0 5 (Value.pointer (Option.some (Addr.mk n0 0 Option.none))) s1 (fun g2 => AC Try.prog w0 n_impl_TreeOk ([Value.agg (⟨[g2 0, g2 1, g2 2, g2 3, g2 4]⟩)]) s1 (fun v3 s4 => pUn UnOp.not v3 (fun v5 => pIf v5 (pNew w0 9 [] s4 (fun n6 s7 => R (Value.tuple (⟨[Value.slice (Option.some (Addr.mk n6 0 Option.none)) 0 0, Value.int IntKind.i64 1]⟩)) s7)) (AC Try.prog w0 n_p_impl_Tree_at [Value.pointer (Option.some (Addr.mk n0 0 Option.none)), a1] s4 (fun v8 s9 => pBin Try.prog 90 BinOp.eql v8 (Value.pointer Option.none) (fun v10 => pIf v10 (pNew w0 9 [] s9 (fun n11 s12 => R (Value.tuple (⟨[Value.slice (Option.some (Addr.mk n11 0 Option.none)) 0 0, Value.int IntKind.i64 3]⟩)) s12)) (pNil v8 (pField 0 v8 (fun v13 => pLoad w0 1 v13 s9 (fun g14 => pUn UnOp.not (g14 0) (fun v15 => pIf v15 (pNew w0 9 [] s9 (fun n16 s17 => R (Value.tuple (⟨[Value.slice (Option.some (Addr.mk n16 0 Option.none)) 0 0, Value.int IntKind.i64 4]⟩)) s17)) (pNew w0 9 [] s9 (fun n18 s19 => pNil v8 (pField 3 v8 (fun v20 => pLoad w0 1 v20 s19 (fun g21 => pAppendS w0 9 1 16 (Value.slice (Option.some (Addr.mk n18 0 Option.none)) 0 0) (g21 0) s19 (fun v22 s23 => R (Value.tuple (⟨[v22, Value.int IntKind.i64 0]⟩)) s23)))))))))))))))))))
theorem vc_impl_TreeList_eq (w0 : World) (a0 a1 : Value) (σ : Vw) (R : Value → Vw → Prop) : vc_impl_TreeList w0 a0 a1 σ R = den Try.prog w0 kp_impl_TreeList esc_impl_TreeList (Try.f48.body.getD .skip) (entry Try.f48.ntmps [a0, a1]) σ (retK Try.prog Try.f48.results.toList R) := by kernel_rfl
theorem ac_impl_TreeList {w0 : World} {a0 a1 : Value} {σ : Vw} {R : Value → Vw → Prop} (h : vc_impl_TreeList w0 a0 a1 σ R) : AC Try.prog w0 n_impl_TreeList [a0, a1] σ R := by
  refine ac_rule (fn := Try.f48) (c := Try.f48.body.getD .skip) kp_impl_TreeList esc_impl_TreeList Try.func48 (by kernel_rfl) (by kernel_rfl) ?_
  rw [← vc_impl_TreeList_eq]
  exact h

/-- spec.TreeList -/
def kp_spec_TreeList : Nat → Keep
  | _ => ⟨[], [], [], .done, []⟩
def esc_spec_TreeList : Nat → Bool
  | 11 => true
  | 21 => true
  | 26 => true
  | 27 => true
  | _ => false
def vc_spec_TreeList (w0 : World) (a0 a1 : Value) (σ : Vw) (R : Value → Vw → Prop) : Prop :=
  pVal true 5 a0 (AC Try.prog w0 n_spec_TreeOk ([Value.agg (⟨[cellOf a0 0, cellOf a0 1, cellOf a0 2, cellOf a0 3, cellOf a0 4]⟩)]) σ (fun v0 s1 => pUn UnOp.not v0 (fun v2 => pIf v2 (pNew w0 9 [] s1 (fun n3 s4 => R (Value.tuple (⟨[Value.slice (Option.some (Addr.mk n3 0 Option.none)) 0 0, Value.int IntKind.i64 1]⟩)) s4)) (AC Try.prog w0 n_spec_l1At ([Value.agg (⟨[cellOf a0 0, cellOf a0 1, cellOf a0 2, cellOf a0 3, cellOf a0 4]⟩), a1]) s1 (fun v5 s6 => pExtract v5 0 (fun v7 => pExtract v5 1 (fun v8 => pVal true 5 v7 (pUn UnOp.not v8 (fun v9 => pIf v9 (pNew w0 9 [] s6 (fun n10 s11 => R (Value.tuple (⟨[Value.slice (Option.some (Addr.mk n10 0 Option.none)) 0 0, Value.int IntKind.i64 3]⟩)) s11)) (pUn UnOp.not (cellOf v7 0) (fun v12 => pIf v12 (pNew w0 9 [] s6 (fun n13 s14 => R (Value.tuple (⟨[Value.slice (Option.some (Addr.mk n13 0 Option.none)) 0 0, Value.int IntKind.i64 4]⟩)) s14)) (pNew w0 9 [] s6 (fun n15 s16 => pAppendS w0 9 1 16 (Value.slice (Option.some (Addr.mk n15 0 Option.none)) 0 0) (cellOf v7 3) s16 (fun v17 s18 => R (Value.tuple (⟨[v17, Value.int IntKind.i64 0]⟩)) s18))))))))))))))
theorem vc_spec_TreeList_eq (w0 : World) (a0 a1 : Value) (σ : Vw) (R : Value → Vw → Prop) : vc_spec_TreeList w0 a0 a1 σ R = den Try.prog w0 kp_spec_TreeList esc_spec_TreeList (Try.f49.body.getD .skip) (entry Try.f49.ntmps [a0, a1]) σ (retK Try.prog Try.f49.results.toList R) := by kernel_rfl
theorem ac_spec_TreeList {w0 : World} {a0 a1 : Value} {σ : Vw} {R : Value → Vw → Prop} (h : vc_spec_TreeList w0 a0 a1 σ R) : AC Try.prog w0 n_spec_TreeList [a0, a1] σ R := by
  refine ac_rule (fn := Try.f49) (c := Try.f49.body.getD .skip) kp_spec_TreeList esc_spec_TreeList Try.func49 (by kernel_rfl) (by kernel_rfl) ?_
  rw [← vc_spec_TreeList_eq]
  exact h

/-- laws.wtTexts -/
def kp_laws_wtTexts : Nat → Keep
  | 4 => ⟨[0, 1, 4, 5], [], [], .done, []⟩
  | 6 => ⟨[], [], [], .step 0 (.step 1 (.step 2 (.step 3 (.step 4 (.step 5 (.step 6 (.step 7 (.step 8 (.done))))))))), [(2, [0, 1]), (3, [0, 1, 2]), (6, [4, 5]), (7, [4, 5, 6]), (8, [0, 1, 2, 3, 4, 5, 6, 7])]⟩
  | _ => ⟨[], [], [], .done, []⟩
def esc_laws_wtTexts : Nat → Bool
  | _ => false
def vc_laws_wtTexts (w0 : World) (a0 a1 : Value) (σ : Vw) (R : Value → Vw → Prop) : Prop :=
  pLen a0 (fun v0 => pLen a1 (fun v1 => pBin Try.prog 3 BinOp.neq v0 v1 (fun v2 => pIf v2 (R (Value.bool false) σ) (pLoop (fun l3 K4 s5 => pLen (vget l3 0) (fun v6 => pBin Try.prog 3 BinOp.lss (vget l3 3) v6 (fun v7 => pIf v7 (pIndexAddr 1 (vget l3 0) (vget l3 3) (fun v8 => pLoad w0 1 v8 s5 (fun g9 => pIndexAddr 1 (vget l3 1) (vget l3 3) (fun v10 => pLoad w0 1 v10 s5 (fun g11 => pBin Try.prog 9 BinOp.neq (g9 0) (g11 0) (fun v12 => pIf v12 (K4 AX.ret [vget l3 0, vget l3 1, Value.bool false, vget l3 3] s5) (pBin Try.prog 3 BinOp.add (vget l3 3) (Value.int IntKind.i64 1) (fun v13 => K4 AX.normal [vget l3 0, vget l3 1, vget l3 2, v13] s5)))))))) (K4 (AX.exit 0) [vget l3 0, vget l3 1, vget l3 2, vget l3 3] s5)))) [a0, a1, Value.bool false, Value.int IntKind.i64 0] σ (fun x14 l15 s16 => match x14 with | .normal => R (Value.bool true) s16 | .ret => R (vget l15 2) s16 | .exit i17 => (match Nat.beq i17 0 with | true => R (Value.bool true) s16 | false => False))))))
theorem vc_laws_wtTexts_eq (w0 : World) (a0 a1 : Value) (σ : Vw) (R : Value → Vw → Prop) : vc_laws_wtTexts w0 a0 a1 σ R = den Try.prog w0 kp_laws_wtTexts esc_laws_wtTexts (Try.f50.body.getD .skip) (entry Try.f50.ntmps [a0, a1]) σ (retK Try.prog Try.f50.results.toList R) := by kernel_rfl
theorem ac_laws_wtTexts {w0 : World} {a0 a1 : Value} {σ : Vw} {R : Value → Vw → Prop} (h : vc_laws_wtTexts w0 a0 a1 σ R) : AC Try.prog w0 n_laws_wtTexts [a0, a1] σ R := by
  refine ac_rule (fn := Try.f50) (c := Try.f50.body.getD .skip) kp_laws_wtTexts esc_laws_wtTexts Try.func50 (by kernel_rfl) (by kernel_rfl) ?_
  rw [← vc_laws_wtTexts_eq]
  exact h

/-- laws.wtTree -/
def kp_laws_wtTree : Nat → Keep
  | 4 => ⟨[4, 5], [(2, 5), (3, 5)], [2, 3], .done, []⟩
  | 6 => ⟨[], [], [], .step 0 (.step 1 (.step 2 (.step 3 (.step 4 (.step 5 (.step 6 (.step 7 (.step 8 (.step 9 (.step 10 (.step 11 (.done)))))))))))), [(1, [0]), (3, [0, 1, 2]), (4, [0, 1, 2, 3]), (6, [5]), (8, [5, 6, 7]), (9, [5, 6, 7, 8]), (10, [0, 1, 2, 3, 4, 5, 6, 7, 8, 9]), (11, [0, 1, 2, 3, 4, 5, 6, 7, 8, 9, 10])]⟩
  | _ => ⟨[], [], [], .done, []⟩
def esc_laws_wtTree : Nat → Bool
  | _ => false
def vc_laws_wtTree (w0 : World) (a0 a1 : Value) (σ : Vw) (R : Value → Vw → Prop) : Prop :=
  pVal true 5 a0 (pVal true 5 a1 (pBin Try.prog 4 BinOp.neq (cellOf a0 0) (cellOf a1 0) (fun v0 => pIf v0 (R (Value.bool false) σ) (pBin Try.prog 3 BinOp.neq (cellOf a0 1) (cellOf a1 1) (fun v1 => pIf v1 (R (Value.bool false) σ) (pBin Try.prog 9 BinOp.neq (cellOf a0 2) (cellOf a1 2) (fun v2 => pIf v2 (R (Value.bool false) σ) (AC Try.prog w0 n_laws_wtTexts [cellOf a0 3, cellOf a1 3] σ (fun v3 s4 => pUn UnOp.not v3 (fun v5 => pIf v5 (R (Value.bool false) s4) (pLen (cellOf a0 4) (fun v6 => pLen (cellOf a1 4) (fun v7 => pBin Try.prog 3 BinOp.neq v6 v7 (fun v8 => pIf v8 (R (Value.bool false) s4) (pLoop (fun l9 K10 s11 => pLen (vget l9 6) (fun v12 => pBin Try.prog 3 BinOp.lss (vget l9 1) v12 (fun v13 => pIf v13 (pIndexAddr 5 (vget l9 6) (vget l9 1) (fun v14 => pLoad w0 5 v14 s11 (fun g15 => pIndexAddr 5 (vget l9 11) (vget l9 1) (fun v16 => pLoad w0 5 v16 s11 (fun g17 => AC Try.prog w0 n_laws_wtTree ([Value.agg (⟨[g15 0, g15 1, g15 2, g15 3, g15 4]⟩), Value.agg (⟨[g17 0, g17 1, g17 2, g17 3, g17 4]⟩)]) s11 (fun v18 s19 => pUn UnOp.not v18 (fun v20 => pIf v20 (K10 AX.ret [Value.bool false, vget l9 1, vget l9 2, vget l9 3, vget l9 4, vget l9 5, vget l9 6, vget l9 7, vget l9 8, vget l9 9, vget l9 10, vget l9 11] s19) (pBin Try.prog 3 BinOp.add (vget l9 1) (Value.int IntKind.i64 1) (fun v21 => K10 AX.normal [vget l9 0, v21, vget l9 2, vget l9 3, vget l9 4, vget l9 5, vget l9 6, vget l9 7, vget l9 8, vget l9 9, vget l9 10, vget l9 11] s19))))))))) (K10 (AX.exit 0) [vget l9 0, vget l9 1, vget l9 2, vget l9 3, vget l9 4, vget l9 5, vget l9 6, vget l9 7, vget l9 8, vget l9 9, vget l9 10, vget l9 11] s11)))) [Value.bool false, Value.int IntKind.i64 0, cellOf a0 0, cellOf a0 1, cellOf a0 2, cellOf a0 3, cellOf a0 4, cellOf a1 0, cellOf a1 1, cellOf a1 2, cellOf a1 3, cellOf a1 4] s4 (fun x22 l23 s24 => match x22 with | .normal => R (Value.bool true) s24 | .ret => R (vget l23 0) s24 | .exit i25 => (match Nat.beq i25 0 with | true => R (Value.bool true) s24 | false => False)))))))))))))))))
theorem vc_laws_wtTree_eq (w0 : World) (a0 a1 : Value) (σ : Vw) (R : Value → Vw → Prop) : vc_laws_wtTree w0 a0 a1 σ R = den Try.prog w0 kp_laws_wtTree esc_laws_wtTree (Try.f51.body.getD .skip) (entry Try.f51.ntmps [a0, a1]) σ (retK Try.prog Try.f51.results.toList R) := by kernel_rfl
theorem ac_laws_wtTree {w0 : World} {a0 a1 : Value} {σ : Vw} {R : Value → Vw → Prop} (h : vc_laws_wtTree w0 a0 a1 σ R) : AC Try.prog w0 n_laws_wtTree [a0, a1] σ R := by
  refine ac_rule (fn := Try.f51) (c := Try.f51.body.getD .skip) kp_laws_wtTree esc_laws_wtTree Try.func51 (by kernel_rfl) (by kernel_rfl) ?_
  rw [← vc_laws_wtTree_eq]
  exact h

/-- impl.TreeCount -/
def kp_impl_TreeCount : Nat → Keep
  | _ => ⟨[], [], [], .done, []⟩
def esc_impl_TreeCount : Nat → Bool
  | _ => false
def vc_impl_TreeCount (w0 : World) (a0 : Value) (σ : Vw) (R : Value → Vw → Prop) : Prop :=
  pVal true 5 a0 (AC Try.prog w0 n_impl_TreeOk ([Value.agg (⟨[cellOf a0 0, cellOf a0 1, cellOf a0 2, cellOf a0 3, cellOf a0 4]⟩)]) σ (fun v0 s1 => pUn UnOp.not v0 (fun v2 => pIf v2 (R (Value.int IntKind.i64 0) s1) (AC Try.prog w0 n_impl_Tree_paths ([Value.agg (⟨[cellOf a0 0, cellOf a0 1, cellOf a0 2, cellOf a0 3, cellOf a0 4]⟩)]) s1 (fun v3 s4 => pBin Try.prog 3 BinOp.sub v3 (Value.int IntKind.i64 1) (fun v5 => R v5 s4))))))
theorem vc_impl_TreeCount_eq (w0 : World) (a0 : Value) (σ : Vw) (R : Value → Vw → Prop) : vc_impl_TreeCount w0 a0 σ R = den Try.prog w0 kp_impl_TreeCount esc_impl_TreeCount (Try.f52.body.getD .skip) (entry Try.f52.ntmps [a0]) σ (retK Try.prog Try.f52.results.toList R) := by kernel_rfl
theorem ac_impl_TreeCount {w0 : World} {a0 : Value} {σ : Vw} {R : Value → Vw → Prop} (h : vc_impl_TreeCount w0 a0 σ R) : AC Try.prog w0 n_impl_TreeCount [a0] σ R := by
  refine ac_rule (fn := Try.f52) (c := Try.f52.body.getD .skip) kp_impl_TreeCount esc_impl_TreeCount Try.func52 (by kernel_rfl) (by kernel_rfl) ?_
  rw [← vc_impl_TreeCount_eq]
  exact h

/-- spec.TreeCount -/
def kp_spec_TreeCount : Nat → Keep
  | _ => ⟨[], [], [], .done, []⟩
def esc_spec_TreeCount : Nat → Bool
  | _ => false
def vc_spec_TreeCount (w0 : World) (a0 : Value) (σ : Vw) (R : Value → Vw → Prop) : Prop :=
  pVal true 5 a0 (AC Try.prog w0 n_spec_TreeOk ([Value.agg (⟨[cellOf a0 0, cellOf a0 1, cellOf a0 2, cellOf a0 3, cellOf a0 4]⟩)]) σ (fun v0 s1 => pUn UnOp.not v0 (fun v2 => pIf v2 (R (Value.int IntKind.i64 0) s1) (AC Try.prog w0 n_spec_l1Count ([Value.agg (⟨[cellOf a0 0, cellOf a0 1, cellOf a0 2, cellOf a0 3, cellOf a0 4]⟩)]) s1 (fun v3 s4 => R v3 s4)))))
theorem vc_spec_TreeCount_eq (w0 : World) (a0 : Value) (σ : Vw) (R : Value → Vw → Prop) : vc_spec_TreeCount w0 a0 σ R = den Try.prog w0 kp_spec_TreeCount esc_spec_TreeCount (Try.f53.body.getD .skip) (entry Try.f53.ntmps [a0]) σ (retK Try.prog Try.f53.results.toList R) := by kernel_rfl
theorem ac_spec_TreeCount {w0 : World} {a0 : Value} {σ : Vw} {R : Value → Vw → Prop} (h : vc_spec_TreeCount w0 a0 σ R) : AC Try.prog w0 n_spec_TreeCount [a0] σ R := by
  refine ac_rule (fn := Try.f53) (c := Try.f53.body.getD .skip) kp_spec_TreeCount esc_spec_TreeCount Try.func53 (by kernel_rfl) (by kernel_rfl) ?_
  rw [← vc_spec_TreeCount_eq]
  exact h

/-- spec.TreeOk -/
def kp_spec_TreeOk : Nat → Keep
  | _ => ⟨[], [], [], .done, []⟩
def esc_spec_TreeOk : Nat → Bool
  | _ => false
def vc_spec_TreeOk (w0 : World) (a0 : Value) (σ : Vw) (R : Value → Vw → Prop) : Prop :=
  pVal true 5 a0 (pIf (cellOf a0 0) (AC Try.prog w0 n_spec_l1Parts ([Value.agg (⟨[cellOf a0 0, cellOf a0 1, cellOf a0 2, cellOf a0 3, cellOf a0 4]⟩), Value.int IntKind.i64 0]) σ (fun v0 s1 => pIf v0 (AC Try.prog w0 n_spec_l1Count ([Value.agg (⟨[cellOf a0 0, cellOf a0 1, cellOf a0 2, cellOf a0 3, cellOf a0 4]⟩)]) s1 (fun v2 s3 => pBin Try.prog 3 BinOp.leq v2 (Value.int IntKind.i64 30) (fun v4 => R v4 s3))) (R (Value.bool false) s1))) (R (Value.bool false) σ))
theorem vc_spec_TreeOk_eq (w0 : World) (a0 : Value) (σ : Vw) (R : Value → Vw → Prop) : vc_spec_TreeOk w0 a0 σ R = den Try.prog w0 kp_spec_TreeOk esc_spec_TreeOk (Try.f54.body.getD .skip) (entry Try.f54.ntmps [a0]) σ (retK Try.prog Try.f54.results.toList R) := by kernel_rfl
theorem ac_spec_TreeOk {w0 : World} {a0 : Value} {σ : Vw} {R : Value → Vw → Prop} (h : vc_spec_TreeOk w0 a0 σ R) : AC Try.prog w0 n_spec_TreeOk [a0] σ R := by
  refine ac_rule (fn := Try.f54) (c := Try.f54.body.getD .skip) kp_spec_TreeOk esc_spec_TreeOk Try.func54 (by kernel_rfl) (by kernel_rfl) ?_
  rw [← vc_spec_TreeOk_eq]
  exact h

/-- laws.wtPaths -/
def kp_laws_wtPaths : Nat → Keep
  | 3 => ⟨[1, 5, 6], [(2, 5)], [2], .done, []⟩
  | 5 => ⟨[], [], [], .step 1 (.step 3 (.step 4 (.step 5 (.step 6 (.step 7 (.step 8 (.step 0 (.step 2 (.step 9 (.step 10 (.done))))))))))), [(2, [0, 1]), (4, [3]), (6, [3, 4, 5]), (7, [3, 4, 5, 6]), (8, [3, 4, 5, 6, 7]), (9, [0, 1, 2, 3, 4, 5, 6, 7, 8]), (10, [0, 1, 2, 3, 4, 5, 6, 7, 8, 9])]⟩
  | _ => ⟨[], [], [], .done, []⟩
def esc_laws_wtPaths : Nat → Bool
  | 8 => true
  | 16 => true
  | _ => false
def vc_laws_wtPaths (w0 : World) (a0 a1 : Value) (σ : Vw) (R : Value → Vw → Prop) : Prop :=
  pVal true 5 a0 (pNew w0 29 [] σ (fun n0 s1 => pLoop (fun l2 K3 s4 => pLen (vget l2 6) (fun v5 => pBin Try.prog 3 BinOp.lss (vget l2 2) v5 (fun v6 => pIf v6 (pIndexAddr 1 (vget l2 6) (vget l2 2) (fun v7 => pLoad w0 1 v7 s4 (fun g8 => pVal false 1 (g8 0) (pNew w0 9 [] s4 (fun n9 s10 => (Stay w0 s4 s10 v7 1) ∧ (pAppendS w0 9 1 16 (Value.slice (Option.some (Addr.mk n9 0 Option.none)) 0 0) (vget l2 0) s10 (fun v11 s12 => (Stay w0 s10 s12 v7 1) ∧ ((allOne [g8 0]) ∧ (pAppend w0 9 1 16 v11 1 [g8 0] s12 (fun v13 s14 => pVal false 1 v13 ((allOne [v13]) ∧ (pAppend w0 29 1 24 (vget l2 1) 1 [v13] s14 (fun v15 s16 => pIndexAddr 5 (vget l2 7) (vget l2 2) (fun v17 => pLoad w0 5 v17 s16 (fun g18 => AC Try.prog w0 n_laws_wtPaths ([Value.agg (⟨[g18 0, g18 1, g18 2, g18 3, g18 4]⟩), v13]) s16 (fun v19 s20 => pAppendS w0 29 1 24 v15 v19 s20 (fun v21 s22 => pBin Try.prog 3 BinOp.add (vget l2 2) (Value.int IntKind.i64 1) (fun v23 => K3 AX.normal [vget l2 0, v21, v23, vget l2 3, vget l2 4, vget l2 5, vget l2 6, vget l2 7] s22)))))))))))))))))) (K3 (AX.exit 0) [vget l2 0, vget l2 1, vget l2 2, vget l2 3, vget l2 4, vget l2 5, vget l2 6, vget l2 7] s4)))) [a1, Value.slice (Option.some (Addr.mk n0 0 Option.none)) 0 0, Value.int IntKind.i64 0, cellOf a0 0, cellOf a0 1, cellOf a0 2, cellOf a0 3, cellOf a0 4] s1 (fun x24 l25 s26 => match x24 with | .normal => R (vget l25 1) s26 | .ret => False | .exit i27 => (match Nat.beq i27 0 with | true => R (vget l25 1) s26 | false => False))))
theorem vc_laws_wtPaths_eq (w0 : World) (a0 a1 : Value) (σ : Vw) (R : Value → Vw → Prop) : vc_laws_wtPaths w0 a0 a1 σ R = den Try.prog w0 kp_laws_wtPaths esc_laws_wtPaths (Try.f55.body.getD .skip) (entry Try.f55.ntmps [a0, a1]) σ (retK Try.prog Try.f55.results.toList R) := by kernel_rfl
theorem ac_laws_wtPaths {w0 : World} {a0 a1 : Value} {σ : Vw} {R : Value → Vw → Prop} (h : vc_laws_wtPaths w0 a0 a1 σ R) : AC Try.prog w0 n_laws_wtPaths [a0, a1] σ R := by
  refine ac_rule (fn := Try.f55) (c := Try.f55.body.getD .skip) kp_laws_wtPaths esc_laws_wtPaths Try.func55 (by kernel_rfl) (by kernel_rfl) ?_
  rw [← vc_laws_wtPaths_eq]
  exact h

/-- spec.TrailOk -/
def kp_spec_TrailOk : Nat → Keep
  | 2 => ⟨[0, 2, 3], [], [], .done, []⟩
  | 4 => ⟨[], [], [], .step 0 (.step 1 (.step 2 (.step 3 (.step 4 (.step 5 (.step 6 (.step 7 (.step 8 (.step 9 (.step 10 (.step 11 (.step 12 (.step 13 (.step 14 (.step 15 (.step 16 (.step 17 (.step 18 (.step 19 (.step 20 (.step 21 (.step 22 (.step 23 (.step 24 (.done))))))))))))))))))))))))), [(2, [0, 1]), (3, [0, 1, 2]), (4, [0, 1, 2, 3]), (5, [0, 1, 2, 3, 4]), (6, [0, 1, 2, 3, 4, 5]), (7, [0, 1, 2, 3, 4, 5, 6]), (8, [0, 1, 2, 3, 4, 5, 6, 7]), (9, [0, 1, 2, 3, 4, 5, 6, 7, 8]), (10, [0, 1, 2, 3, 4, 5, 6, 7, 8, 9]), (11, [0, 1, 2, 3, 4, 5, 6, 7, 8, 9]), (12, [0, 1, 2, 3, 4, 5, 6, 7, 8, 9, 11]), (13, [0, 1, 2, 3, 4, 5, 6, 7, 8, 9, 10, 11, 12]), (14, [0, 1, 2, 3, 4, 5, 6, 7, 8, 9, 10, 11, 12, 13]), (15, [0, 1, 2, 3, 4, 5, 6, 7, 8, 9, 10, 11, 12, 13, 14]), (16, [0, 1, 2, 3, 4, 5, 6, 7, 8, 9]), (17, [0, 1, 2, 3, 4, 5, 6, 7, 8, 9]), (18, [0, 1, 2, 3, 4, 5, 6, 7, 8, 9, 16, 17]), (19, [0, 1, 2, 3, 4, 5, 6, 7, 8, 9, 16, 17, 18]), (20, [0, 1, 2, 3, 4, 5, 6, 7, 8, 9, 16, 17, 18, 19]), (21, [0, 1, 2, 3, 4, 5, 6, 7, 8, 9, 10, 11, 12, 13, 14, 15, 16, 17, 18, 19, 20]), (22, [0, 1, 2, 3, 4, 5, 6, 7, 8, 9, 10, 11, 12, 13, 14, 15, 16, 17, 18, 19, 20, 21]), (23, [0, 1, 2, 3, 4, 5, 6, 7, 8, 9, 10, 11, 12, 13, 14, 15, 16, 17, 18, 19, 20, 21, 22]), (24, [0, 1, 2, 3, 4, 5, 6, 7, 8, 9, 10, 11, 12, 13, 14, 15, 16, 17, 18, 19, 20, 21, 22, 23])]⟩
  | 7 => ⟨[0, 2, 3, 4], [], [], .done, []⟩
  | 9 => ⟨[], [], [], .step 0 (.step 1 (.step 2 (.step 3 (.step 4 (.step 5 (.step 6 (.step 7 (.step 8 (.step 9 (.step 10 (.step 11 (.step 12 (.step 13 (.step 14 (.step 15 (.step 16 (.step 17 (.done)))))))))))))))))), [(2, [0, 1]), (3, [0, 1, 2]), (4, [0, 1, 2, 3]), (5, [0, 1, 2, 3, 4]), (6, [0, 1, 2, 3, 4, 5]), (7, [0, 1, 2, 3, 4, 5]), (8, [0, 1, 2, 3, 4, 5, 6, 7]), (9, [0, 1, 2, 3, 4, 5, 6, 7, 8]), (10, [0, 1, 2, 3, 4, 5, 6, 7, 8, 9]), (11, [0, 1, 2, 3, 4, 5]), (12, [0, 1, 2, 3, 4, 5]), (13, [0, 1, 2, 3, 4, 5, 11, 12]), (14, [0, 1, 2, 3, 4, 5, 11, 12, 13]), (15, [0, 1, 2, 3, 4, 5, 11, 12, 13, 14]), (16, [0, 1, 2, 3, 4, 5, 6, 7, 8, 9, 10, 11, 12, 13, 14, 15]), (17, [0, 1, 2, 3, 4, 5, 6, 7, 8, 9, 10, 11, 12, 13, 14, 15, 16])]⟩
  | _ => ⟨[], [], [], .done, []⟩
def esc_spec_TrailOk : Nat → Bool
  | _ => false
def vc_spec_TrailOk (w0 : World) (a0 : Value) (σ : Vw) (R : Value → Vw → Prop) : Prop :=
  pLoop (fun l0 K1 s2 => pLen (vget l0 0) (fun v3 => pBin Try.prog 3 BinOp.lss (vget l0 2) v3 (fun v4 => pIf v4 (pIndexAddr 2 (vget l0 0) (vget l0 2) (fun v5 => pLoad w0 2 v5 s2 (fun g6 => AC Try.prog w0 n_spec_l11MarkOk ([Value.agg (⟨[g6 0, g6 1]⟩)]) s2 (fun v7 s8 => pUn UnOp.not v7 (fun v9 => pIf v9 (K1 AX.ret [vget l0 0, Value.bool false, vget l0 2] s8) (pBin Try.prog 3 BinOp.gtr (vget l0 2) (Value.int IntKind.i64 0) (fun v10 => pIf v10 (pBin Try.prog 3 BinOp.sub (vget l0 2) (Value.int IntKind.i64 1) (fun v11 => pIndexAddr 2 (vget l0 0) v11 (fun v12 => pField 0 v12 (fun v13 => pLoad w0 1 v13 s8 (fun g14 => pIndexAddr 2 (vget l0 0) (vget l0 2) (fun v15 => pField 0 v15 (fun v16 => pLoad w0 1 v16 s8 (fun g17 => AC Try.prog w0 n_spec_l11Less [g14 0, g17 0] s8 (fun v18 s19 => pUn UnOp.not v18 (fun v20 => pIf v20 (K1 AX.ret [vget l0 0, Value.bool false, vget l0 2] s19) (pLoop (fun l21 K22 s23 => pBin Try.prog 3 BinOp.lss (vget l21 3) (vget l21 2) (fun v24 => pIf v24 (pIndexAddr 2 (vget l21 0) (vget l21 3) (fun v25 => pField 1 v25 (fun v26 => pLoad w0 1 v26 s23 (fun g27 => pIf (g27 0) (pIndexAddr 2 (vget l21 0) (vget l21 2) (fun v28 => pField 0 v28 (fun v29 => pLoad w0 1 v29 s23 (fun g30 => pIndexAddr 2 (vget l21 0) (vget l21 3) (fun v31 => pField 0 v31 (fun v32 => pLoad w0 1 v32 s23 (fun g33 => AC Try.prog w0 n_spec_l2Within [g30 0, g33 0] s23 (fun v34 s35 => pIf v34 (K22 AX.ret [vget l21 0, Value.bool false, vget l21 2, vget l21 3] s35) (pBin Try.prog 3 BinOp.add (vget l21 3) (Value.int IntKind.i64 1) (fun v36 => K22 AX.normal [vget l21 0, vget l21 1, vget l21 2, v36] s35)))))))))) (pBin Try.prog 3 BinOp.add (vget l21 3) (Value.int IntKind.i64 1) (fun v37 => K22 AX.normal [vget l21 0, vget l21 1, vget l21 2, v37] s23)))))) (K22 (AX.exit 2) [vget l21 0, vget l21 1, vget l21 2, vget l21 3] s23))) [vget l0 0, vget l0 1, vget l0 2, Value.int IntKind.i64 0] s19 (fun x38 l39 s40 => match x38 with | .normal => pBin Try.prog 3 BinOp.add (vget l39 2) (Value.int IntKind.i64 1) (fun v41 => K1 AX.normal [vget l39 0, vget l39 1, v41] s40) | .ret => K1 AX.ret [vget l39 0, vget l39 1, vget l39 2] s40 | .exit i42 => (match Nat.beq i42 2 with | true => pBin Try.prog 3 BinOp.add (vget l39 2) (Value.int IntKind.i64 1) (fun v43 => K1 AX.normal [vget l39 0, vget l39 1, v43] s40) | false => (match Nat.beq i42 1 with | true => pBin Try.prog 3 BinOp.add (vget l39 2) (Value.int IntKind.i64 1) (fun v44 => K1 AX.normal [vget l39 0, vget l39 1, v44] s40) | false => K1 (AX.exit i42) [vget l39 0, vget l39 1, vget l39 2] s40)))))))))))))) (pLoop (fun l45 K46 s47 => pBin Try.prog 3 BinOp.lss (vget l45 3) (vget l45 2) (fun v48 => pIf v48 (pIndexAddr 2 (vget l45 0) (vget l45 3) (fun v49 => pField 1 v49 (fun v50 => pLoad w0 1 v50 s47 (fun g51 => pIf (g51 0) (pIndexAddr 2 (vget l45 0) (vget l45 2) (fun v52 => pField 0 v52 (fun v53 => pLoad w0 1 v53 s47 (fun g54 => pIndexAddr 2 (vget l45 0) (vget l45 3) (fun v55 => pField 0 v55 (fun v56 => pLoad w0 1 v56 s47 (fun g57 => AC Try.prog w0 n_spec_l2Within [g54 0, g57 0] s47 (fun v58 s59 => pIf v58 (K46 AX.ret [vget l45 0, Value.bool false, vget l45 2, vget l45 3] s59) (pBin Try.prog 3 BinOp.add (vget l45 3) (Value.int IntKind.i64 1) (fun v60 => K46 AX.normal [vget l45 0, vget l45 1, vget l45 2, v60] s59)))))))))) (pBin Try.prog 3 BinOp.add (vget l45 3) (Value.int IntKind.i64 1) (fun v61 => K46 AX.normal [vget l45 0, vget l45 1, vget l45 2, v61] s47)))))) (K46 (AX.exit 2) [vget l45 0, vget l45 1, vget l45 2, vget l45 3] s47))) [vget l0 0, vget l0 1, vget l0 2, Value.int IntKind.i64 0] s8 (fun x62 l63 s64 => match x62 with | .normal => pBin Try.prog 3 BinOp.add (vget l63 2) (Value.int IntKind.i64 1) (fun v65 => K1 AX.normal [vget l63 0, vget l63 1, v65] s64) | .ret => K1 AX.ret [vget l63 0, vget l63 1, vget l63 2] s64 | .exit i66 => (match Nat.beq i66 2 with | true => pBin Try.prog 3 BinOp.add (vget l63 2) (Value.int IntKind.i64 1) (fun v67 => K1 AX.normal [vget l63 0, vget l63 1, v67] s64) | false => (match Nat.beq i66 1 with | true => pBin Try.prog 3 BinOp.add (vget l63 2) (Value.int IntKind.i64 1) (fun v68 => K1 AX.normal [vget l63 0, vget l63 1, v68] s64) | false => K1 (AX.exit i66) [vget l63 0, vget l63 1, vget l63 2] s64))))))))))) (K1 (AX.exit 0) [vget l0 0, vget l0 1, vget l0 2] s2)))) [a0, Value.bool false, Value.int IntKind.i64 0] σ (fun x69 l70 s71 => match x69 with | .normal => pLen (vget l70 0) (fun v72 => pBin Try.prog 3 BinOp.leq v72 (Value.int IntKind.i64 6) (fun v73 => R v73 s71)) | .ret => R (vget l70 1) s71 | .exit i74 => (match Nat.beq i74 0 with | true => pLen (vget l70 0) (fun v75 => pBin Try.prog 3 BinOp.leq v75 (Value.int IntKind.i64 6) (fun v76 => R v76 s71)) | false => False))
theorem vc_spec_TrailOk_eq (w0 : World) (a0 : Value) (σ : Vw) (R : Value → Vw → Prop) : vc_spec_TrailOk w0 a0 σ R = den Try.prog w0 kp_spec_TrailOk esc_spec_TrailOk (Try.f56.body.getD .skip) (entry Try.f56.ntmps [a0]) σ (retK Try.prog Try.f56.results.toList R) := by kernel_rfl
theorem ac_spec_TrailOk {w0 : World} {a0 : Value} {σ : Vw} {R : Value → Vw → Prop} (h : vc_spec_TrailOk w0 a0 σ R) : AC Try.prog w0 n_spec_TrailOk [a0] σ R := by
  refine ac_rule (fn := Try.f56) (c := Try.f56.body.getD .skip) kp_spec_TrailOk esc_spec_TrailOk Try.func56 (by kernel_rfl) (by kernel_rfl) ?_
  rw [← vc_spec_TrailOk_eq]
  exact h

/-- spec.l11Text -/
def kp_spec_l11Text : Nat → Keep
  | _ => ⟨[], [], [], .done, []⟩
def esc_spec_l11Text : Nat → Bool
  | _ => false
def vc_spec_l11Text (w0 : World) (a0 : Value) (σ : Vw) (R : Value → Vw → Prop) : Prop :=
  pVal true 2 a0 (pIf (cellOf a0 1) (AC Try.prog w0 n_spec_l3Name [cellOf a0 0] σ (fun v0 s1 => pBin Try.prog 9 BinOp.add (Value.string ({ data := #[115, 117, 98, 32] })) v0 (fun v2 => pBin Try.prog 9 BinOp.add v2 (Value.string ({ data := #[10] })) (fun v3 => R v3 s1)))) (AC Try.prog w0 n_spec_l3Name [cellOf a0 0] σ (fun v4 s5 => pBin Try.prog 9 BinOp.add (Value.string ({ data := #[97, 116, 32] })) v4 (fun v6 => pBin Try.prog 9 BinOp.add v6 (Value.string ({ data := #[10] })) (fun v7 => R v7 s5)))))
theorem vc_spec_l11Text_eq (w0 : World) (a0 : Value) (σ : Vw) (R : Value → Vw → Prop) : vc_spec_l11Text w0 a0 σ R = den Try.prog w0 kp_spec_l11Text esc_spec_l11Text (Try.f57.body.getD .skip) (entry Try.f57.ntmps [a0]) σ (retK Try.prog Try.f57.results.toList R) := by kernel_rfl
theorem ac_spec_l11Text {w0 : World} {a0 : Value} {σ : Vw} {R : Value → Vw → Prop} (h : vc_spec_l11Text w0 a0 σ R) : AC Try.prog w0 n_spec_l11Text [a0] σ R := by
  refine ac_rule (fn := Try.f57) (c := Try.f57.body.getD .skip) kp_spec_l11Text esc_spec_l11Text Try.func57 (by kernel_rfl) (by kernel_rfl) ?_
  rw [← vc_spec_l11Text_eq]
  exact h

/-- impl.TrailOk -/
def kp_impl_TrailOk : Nat → Keep
  | 2 => ⟨[0, 2, 5, 6, 7], [], [], .done, []⟩
  | 4 => ⟨[], [], [], .step 0 (.step 1 (.step 2 (.step 3 (.step 4 (.step 5 (.step 6 (.step 7 (.step 8 (.step 9 (.step 10 (.step 11 (.step 12 (.step 13 (.step 14 (.step 15 (.step 16 (.step 17 (.step 18 (.step 19 (.step 20 (.step 21 (.step 22 (.step 23 (.step 24 (.step 25 (.step 26 (.done))))))))))))))))))))))))))), [(1, [0]), (2, [0, 1]), (3, [0, 1, 2]), (4, [0, 1, 2, 3]), (5, [0, 1, 2, 3, 4]), (6, [0, 1, 2, 3, 4, 5]), (7, [0, 1, 2, 3, 4, 5, 6]), (8, [0, 1, 2, 3, 4, 5, 6]), (9, [0, 1, 2, 3, 4, 5, 6, 8]), (10, [0, 1, 2, 3, 4, 5, 6, 7, 8, 9]), (11, [0, 1, 2, 3, 4, 5, 6, 7, 8, 9, 10]), (12, [0, 1, 2, 3, 4, 5, 6, 7, 8, 9, 10, 11]), (13, [0, 1, 2, 3, 4, 5, 6]), (14, [0, 1, 2, 3, 4, 5, 6, 13]), (15, [0, 1, 2, 3, 4, 5, 6, 7, 8, 9, 10, 11, 12, 13, 14]), (16, [0, 1, 2, 3, 4, 5, 6, 7, 8, 9, 10, 11, 12, 13, 14, 15]), (17, [0, 1, 2, 3, 4, 5, 6, 7, 8, 9, 10, 11, 12, 13, 14, 15, 16]), (18, [0, 1, 2, 3, 4, 5, 6, 7, 8, 9, 10, 11, 12, 13, 14, 15, 16, 17]), (19, [0, 1, 2, 3, 4, 5, 6, 7, 8, 9, 10, 11, 12, 13, 14, 15, 16, 17, 18]), (20, [0, 1, 2, 3, 4, 5, 6, 7, 8, 9, 10, 11, 12, 13, 14, 15, 16, 17, 18, 19]), (21, [0, 1, 2, 3, 4, 5, 6, 7, 8, 9, 10, 11, 12, 13, 14, 15, 16, 17, 18, 19]), (22, [0, 1, 2, 3, 4, 5, 6, 7, 8, 9, 10, 11, 12, 13, 14, 15, 16, 17, 18, 19, 20, 21]), (23, [0, 1, 2, 3, 4, 5, 6, 7, 8, 9, 10, 11, 12, 13, 14, 15, 16, 17, 18, 19]), (24, [0, 1, 2, 3, 4, 5, 6, 7, 8, 9, 10, 11, 12, 13, 14, 15, 16, 17, 18, 19, 23]), (25, [0, 1, 2, 3, 4, 5, 6, 7, 8, 9, 10, 11, 12, 13, 14, 15, 16, 17, 18, 19, 20, 21, 22, 23, 24]), (26, [0, 1, 2, 3, 4, 5, 6, 7, 8, 9, 10, 11, 12, 13, 14, 15, 16, 17, 18, 19, 20, 21, 22, 23, 24, 25])]⟩
  | _ => ⟨[], [], [], .done, []⟩
def esc_impl_TrailOk : Nat → Bool
  | _ => false
def vc_impl_TrailOk (w0 : World) (a0 : Value) (σ : Vw) (R : Value → Vw → Prop) : Prop :=
  pLen a0 (fun v0 => pLoop (fun l1 K2 s3 => pBin Try.prog 3 BinOp.lss (vget l1 4) (vget l1 3) (fun v4 => pIf v4 (pIndexAddr 2 (vget l1 2) (vget l1 4) (fun v5 => pLoad w0 2 v5 s3 (fun g6 => pVal true 2 (Value.agg (⟨[g6 0, g6 1]⟩)) (AC Try.prog w0 n_impl_markOk ([Value.agg (⟨[g6 0, g6 1]⟩)]) s3 (fun v7 s8 => pUn UnOp.not v7 (fun v9 => pIf v9 (K2 AX.ret [vget l1 0, Value.bool false, vget l1 2, vget l1 3, vget l1 4] s8) (pBin Try.prog 3 BinOp.gtr (vget l1 4) (Value.int IntKind.i64 0) (fun v10 => pIf v10 (pBin Try.prog 3 BinOp.sub (vget l1 4) (Value.int IntKind.i64 1) (fun v11 => pIndexAddr 2 (vget l1 0) v11 (fun v12 => pField 0 v12 (fun v13 => pLoad w0 1 v13 s8 (fun g14 => AC Try.prog w0 n_slices_Compare_string_string [g14 0, g6 0] s8 (fun v15 s16 => pBin Try.prog 3 BinOp.geq v15 (Value.int IntKind.i64 0) (fun v17 => pIf v17 (K2 AX.ret [vget l1 0, Value.bool false, vget l1 2, vget l1 3, vget l1 4] s16) (pSlice 2 (vget l1 0) Option.none (Option.some (vget l1 4)) (fun v18 => AC Try.prog w0 n_impl_under [v18, g6 0] s16 (fun v19 s20 => pIf v19 (K2 AX.ret [vget l1 0, Value.bool false, vget l1 2, vget l1 3, vget l1 4] s20) (pBin Try.prog 3 BinOp.add (vget l1 4) (Value.int IntKind.i64 1) (fun v21 => K2 AX.normal [vget l1 0, vget l1 1, vget l1 2, vget l1 3, v21] s20)))))))))))) (pSlice 2 (vget l1 0) Option.none (Option.some (vget l1 4)) (fun v22 => AC Try.prog w0 n_impl_under [v22, g6 0] s8 (fun v23 s24 => pIf v23 (K2 AX.ret [vget l1 0, Value.bool false, vget l1 2, vget l1 3, vget l1 4] s24) (pBin Try.prog 3 BinOp.add (vget l1 4) (Value.int IntKind.i64 1) (fun v25 => K2 AX.normal [vget l1 0, vget l1 1, vget l1 2, vget l1 3, v25] s24))))))))))))) (K2 (AX.exit 0) [vget l1 0, vget l1 1, vget l1 2, vget l1 3, vget l1 4] s3))) [a0, Value.bool false, a0, v0, Value.int IntKind.i64 0] σ (fun x26 l27 s28 => match x26 with | .normal => pLen (vget l27 0) (fun v29 => pBin Try.prog 3 BinOp.leq v29 (Value.int IntKind.i64 6) (fun v30 => R v30 s28)) | .ret => R (vget l27 1) s28 | .exit i31 => (match Nat.beq i31 0 with | true => pLen (vget l27 0) (fun v32 => pBin Try.prog 3 BinOp.leq v32 (Value.int IntKind.i64 6) (fun v33 => R v33 s28)) | false => False)))
theorem vc_impl_TrailOk_eq (w0 : World) (a0 : Value) (σ : Vw) (R : Value → Vw → Prop) : vc_impl_TrailOk w0 a0 σ R = den Try.prog w0 kp_impl_TrailOk esc_impl_TrailOk (Try.f58.body.getD .skip) (entry Try.f58.ntmps [a0]) σ (retK Try.prog Try.f58.results.toList R) := by kernel_rfl
theorem ac_impl_TrailOk {w0 : World} {a0 : Value} {σ : Vw} {R : Value → Vw → Prop} (h : vc_impl_TrailOk w0 a0 σ R) : AC Try.prog w0 n_impl_TrailOk [a0] σ R := by
  refine ac_rule (fn := Try.f58) (c := Try.f58.body.getD .skip) kp_impl_TrailOk esc_impl_TrailOk Try.func58 (by kernel_rfl) (by kernel_rfl) ?_
  rw [← vc_impl_TrailOk_eq]
  exact h

/-- impl.pathText -/
def kp_impl_pathText : Nat → Keep
  | _ => ⟨[], [], [], .done, []⟩
def esc_impl_pathText : Nat → Bool
  | _ => false
def vc_impl_pathText (w0 : World) (a0 : Value) (σ : Vw) (R : Value → Vw → Prop) : Prop :=
  pLen a0 (fun v0 => pBin Try.prog 3 BinOp.eql v0 (Value.int IntKind.i64 0) (fun v1 => pIf v1 (R (Value.string ({ data := #[47] })) σ) (AC Try.prog w0 n_strings_Join ([a0, Value.string ({ data := #[47] })]) σ (fun v2 s3 => pBin Try.prog 9 BinOp.add (Value.string ({ data := #[47] })) v2 (fun v4 => R v4 s3)))))
theorem vc_impl_pathText_eq (w0 : World) (a0 : Value) (σ : Vw) (R : Value → Vw → Prop) : vc_impl_pathText w0 a0 σ R = den Try.prog w0 kp_impl_pathText esc_impl_pathText (Try.f59.body.getD .skip) (entry Try.f59.ntmps [a0]) σ (retK Try.prog Try.f59.results.toList R) := by kernel_rfl
theorem ac_impl_pathText {w0 : World} {a0 : Value} {σ : Vw} {R : Value → Vw → Prop} (h : vc_impl_pathText w0 a0 σ R) : AC Try.prog w0 n_impl_pathText [a0] σ R := by
  refine ac_rule (fn := Try.f59) (c := Try.f59.body.getD .skip) kp_impl_pathText esc_impl_pathText Try.func59 (by kernel_rfl) (by kernel_rfl) ?_
  rw [← vc_impl_pathText_eq]
  exact h

/-- laws.szTreeS -/
def kp_laws_szTreeS : Nat → Keep
  | 5 => ⟨[0, 1, 4, 5], [], [], .done, []⟩
  | _ => ⟨[], [], [], .done, []⟩
def esc_laws_szTreeS : Nat → Bool
  | _ => false
def vc_laws_szTreeS (w0 : World) (a0 a1 : Value) (σ : Vw) (R : Value → Vw → Prop) : Prop :=
  pLen a0 (fun v0 => pBin Try.prog 3 BinOp.sub a1 v0 (fun v1 => pBin Try.prog 3 BinOp.lss v1 (Value.int IntKind.i64 0) (fun v2 => pIf v2 (R (Value.int IntKind.i64 (-1)) σ) (pLoop (fun l3 K4 s5 => pLen (vget l3 0) (fun v6 => pBin Try.prog 3 BinOp.lss (vget l3 3) v6 (fun v7 => pIf v7 (pIndexAddr 5 (vget l3 0) (vget l3 3) (fun v8 => pLoad w0 5 v8 s5 (fun g9 => AC Try.prog w0 n_laws_szTree ([Value.agg (⟨[g9 0, g9 1, g9 2, g9 3, g9 4]⟩), vget l3 1]) s5 (fun v10 s11 => pBin Try.prog 3 BinOp.lss v10 (Value.int IntKind.i64 0) (fun v12 => pIf v12 (K4 AX.ret [vget l3 0, v10, Value.int IntKind.i64 (-1), vget l3 3] s11) (pBin Try.prog 3 BinOp.add (vget l3 3) (Value.int IntKind.i64 1) (fun v13 => K4 AX.normal [vget l3 0, v10, vget l3 2, v13] s11))))))) (K4 (AX.exit 0) [vget l3 0, vget l3 1, vget l3 2, vget l3 3] s5)))) [a0, v1, Value.int IntKind.i64 0, Value.int IntKind.i64 0] σ (fun x14 l15 s16 => match x14 with | .normal => R (vget l15 1) s16 | .ret => R (vget l15 2) s16 | .exit i17 => (match Nat.beq i17 0 with | true => R (vget l15 1) s16 | false => False))))))
theorem vc_laws_szTreeS_eq (w0 : World) (a0 a1 : Value) (σ : Vw) (R : Value → Vw → Prop) : vc_laws_szTreeS w0 a0 a1 σ R = den Try.prog w0 kp_laws_szTreeS esc_laws_szTreeS (Try.f60.body.getD .skip) (entry Try.f60.ntmps [a0, a1]) σ (retK Try.prog Try.f60.results.toList R) := by kernel_rfl
theorem ac_laws_szTreeS {w0 : World} {a0 a1 : Value} {σ : Vw} {R : Value → Vw → Prop} (h : vc_laws_szTreeS w0 a0 a1 σ R) : AC Try.prog w0 n_laws_szTreeS [a0, a1] σ R := by
  refine ac_rule (fn := Try.f60) (c := Try.f60.body.getD .skip) kp_laws_szTreeS esc_laws_szTreeS Try.func60 (by kernel_rfl) (by kernel_rfl) ?_
  rw [← vc_laws_szTreeS_eq]
  exact h

/-- spec.l1At -/
def kp_spec_l1At : Nat → Keep
  | 3 => ⟨[], [], [], .step 0 (.step 1 (.step 2 (.step 3 (.step 4 (.step 5 (.done)))))), [(2, [1]), (3, [1, 2]), (4, [0, 1, 2, 3]), (5, [0, 1, 2, 3, 4])]⟩
  | 6 => ⟨[], [], [], .step 0 (.step 1 (.step 2 (.step 3 (.step 4 (.step 5 (.step 6 (.step 7 (.step 8 (.step 9 (.step 10 (.step 11 (.done)))))))))))), [(1, [0]), (3, [0, 1, 2]), (4, [0, 1, 2, 3]), (6, [5]), (7, [0, 1, 2, 3, 4, 5, 6]), (8, [0, 1, 2, 3, 4, 5, 6, 7]), (9, [0, 1, 2, 3, 4, 5, 6, 7]), (10, [0, 1, 2, 3, 4, 5, 6, 7, 8, 9]), (11, [0, 1, 2, 3, 4, 5, 6, 7, 8, 9, 10])]⟩
  | _ => ⟨[], [], [], .done, []⟩
def esc_spec_l1At : Nat → Bool
  | _ => false
def vc_spec_l1At (w0 : World) (a0 a1 : Value) (σ : Vw) (R : Value → Vw → Prop) : Prop :=
  pVal true 5 a0 (pLen a1 (fun v0 => pBin Try.prog 3 BinOp.eql v0 (Value.int IntKind.i64 0) (fun v1 => pIf v1 (pVal true 5 (Value.agg (⟨[cellOf a0 0, cellOf a0 1, cellOf a0 2, cellOf a0 3, cellOf a0 4]⟩)) (R (Value.tuple (⟨[Value.agg (⟨[cellOf a0 0, cellOf a0 1, cellOf a0 2, cellOf a0 3, cellOf a0 4]⟩), Value.bool true]⟩)) σ)) (pIndexAddr 1 a1 (Value.int IntKind.i64 0) (fun v2 => pLoad w0 1 v2 σ (fun g3 => AC Try.prog w0 n_spec_l1Find ([Value.agg (⟨[cellOf a0 0, cellOf a0 1, cellOf a0 2, cellOf a0 3, cellOf a0 4]⟩), g3 0]) σ (fun v4 s5 => pBin Try.prog 3 BinOp.lss v4 (Value.int IntKind.i64 0) (fun v6 => pIf v6 (pVal true 5 (Value.agg (⟨[Value.bool false, Value.int IntKind.i64 0, Value.string ({ data := #[] }), Value.slice Option.none 0 0, Value.slice Option.none 0 0]⟩)) (R (Value.tuple (⟨[Value.agg (⟨[Value.bool false, Value.int IntKind.i64 0, Value.string ({ data := #[] }), Value.slice Option.none 0 0, Value.slice Option.none 0 0]⟩), Value.bool false]⟩)) s5)) (pIndexAddr 5 (cellOf a0 4) v4 (fun v7 => pLoad w0 5 v7 s5 (fun g8 => pSlice 1 a1 (Option.some (Value.int IntKind.i64 1)) Option.none (fun v9 => AC Try.prog w0 n_spec_l1At ([Value.agg (⟨[g8 0, g8 1, g8 2, g8 3, g8 4]⟩), v9]) s5 (fun v10 s11 => pExtract v10 0 (fun v12 => pExtract v10 1 (fun v13 => pVal true 5 v12 (R (Value.tuple (⟨[Value.agg (⟨[cellOf v12 0, cellOf v12 1, cellOf v12 2, cellOf v12 3, cellOf v12 4]⟩), v13]⟩)) s11))))))))))))))))
theorem vc_spec_l1At_eq (w0 : World) (a0 a1 : Value) (σ : Vw) (R : Value → Vw → Prop) : vc_spec_l1At w0 a0 a1 σ R = den Try.prog w0 kp_spec_l1At esc_spec_l1At (Try.f61.body.getD .skip) (entry Try.f61.ntmps [a0, a1]) σ (retK Try.prog Try.f61.results.toList R) := by kernel_rfl
theorem ac_spec_l1At {w0 : World} {a0 a1 : Value} {σ : Vw} {R : Value → Vw → Prop} (h : vc_spec_l1At w0 a0 a1 σ R) : AC Try.prog w0 n_spec_l1At [a0, a1] σ R := by
  refine ac_rule (fn := Try.f61) (c := Try.f61.body.getD .skip) kp_spec_l1At esc_spec_l1At Try.func61 (by kernel_rfl) (by kernel_rfl) ?_
  rw [← vc_spec_l1At_eq]
  exact h

/-- spec.l1Copy -/
def kp_spec_l1Copy : Nat → Keep
  | 1 => ⟨[], [], [], .step 0 (.step 1 (.step 2 (.step 3 (.step 4 (.step 5 (.step 7 (.step 8 (.step 11 (.step 6 (.step 9 (.step 10 (.step 12 (.done))))))))))))), [(1, [0]), (3, [2]), (5, [4]), (8, [7]), (9, [6, 7, 8]), (10, [0, 1, 2, 3, 4, 5, 6, 7, 8, 9]), (12, [0, 1, 2, 3, 4, 5, 6, 7, 8, 9, 10, 11])]⟩
  | 3 => ⟨[4], [(1, 5), (2, 5), (3, 5)], [1, 2, 3], .done, []⟩
  | 5 => ⟨[], [], [], .step 0 (.step 1 (.step 2 (.step 3 (.step 4 (.step 5 (.step 6 (.step 7 (.step 8 (.step 9 (.step 10 (.step 11 (.done)))))))))))), [(1, [0]), (3, [2]), (5, [2, 3, 4]), (6, [2, 3, 4, 5]), (7, [2, 3, 4, 5, 6]), (8, [2, 3, 4, 5, 6, 7]), (9, [0, 1, 2, 3, 4, 5, 6, 7, 8]), (10, [0, 1, 2, 3, 4, 5, 6, 7, 8, 9]), (11, [0, 1, 2, 3, 4, 5, 6, 7, 8, 9, 10])]⟩
  | _ => ⟨[], [], [], .done, []⟩
def esc_spec_l1Copy : Nat → Bool
  | 11 => true
  | _ => false
def vc_spec_l1Copy (w0 : World) (a0 : Value) (σ : Vw) (R : Value → Vw → Prop) : Prop :=
  pVal true 5 a0 (pNew w0 9 [] σ (fun n0 s1 => pAppendS w0 9 1 16 (Value.slice (Option.some (Addr.mk n0 0 Option.none)) 0 0) (cellOf a0 3) s1 (fun v2 s3 => pVal false 1 (cellOf a0 0) (pVal false 1 (cellOf a0 1) (pVal false 1 (cellOf a0 2) (pVal false 1 v2 (pVal true 5 (Value.agg (⟨[cellOf a0 0, cellOf a0 1, cellOf a0 2, v2, Value.slice Option.none 0 0]⟩)) (pLoop (fun l4 K5 s6 => pLen (vget l4 5) (fun v7 => pBin Try.prog 3 BinOp.lss (vget l4 0) v7 (fun v8 => pIf v8 (pIndexAddr 5 (vget l4 5) (vget l4 0) (fun v9 => pLoad w0 5 v9 s6 (fun g10 => AC Try.prog w0 n_spec_l1Copy ([Value.agg (⟨[g10 0, g10 1, g10 2, g10 3, g10 4]⟩)]) s6 (fun v11 s12 => pVal true 5 v11 ((allOne [cellOf v11 0, cellOf v11 1, cellOf v11 2, cellOf v11 3, cellOf v11 4]) ∧ (pAppend w0 37 5 80 (vget l4 15) 1 [cellOf v11 0, cellOf v11 1, cellOf v11 2, cellOf v11 3, cellOf v11 4] s12 (fun v13 s14 => pVal false 1 v13 (pBin Try.prog 3 BinOp.add (vget l4 0) (Value.int IntKind.i64 1) (fun v15 => K5 AX.normal [v15, vget l4 1, vget l4 2, vget l4 3, vget l4 4, vget l4 5, vget l4 6, vget l4 7, vget l4 8, vget l4 9, vget l4 10, vget l4 11, vget l4 12, vget l4 13, vget l4 14, v13] s14))))))))) (K5 (AX.exit 0) [vget l4 0, vget l4 1, vget l4 2, vget l4 3, vget l4 4, vget l4 5, vget l4 6, vget l4 7, vget l4 8, vget l4 9, vget l4 10, vget l4 11, vget l4 12, vget l4 13, vget l4 14, vget l4 15] s6)))) ([Value.int IntKind.i64 0, cellOf a0 0, cellOf a0 1, cellOf a0 2, cellOf a0 3, cellOf a0 4, Value.bool false, Value.int IntKind.i64 0, Value.string ({ data := #[] }), Value.slice Option.none 0 0, Value.slice Option.none 0 0, cellOf a0 0, cellOf a0 1, cellOf a0 2, v2, Value.slice Option.none 0 0]) s3 (fun x16 l17 s18 => match x16 with | .normal => pVal true 5 (Value.agg (⟨[vget l17 11, vget l17 12, vget l17 13, vget l17 14, vget l17 15]⟩)) (R (Value.agg (⟨[vget l17 11, vget l17 12, vget l17 13, vget l17 14, vget l17 15]⟩)) s18) | .ret => R (Value.agg (⟨[vget l17 6, vget l17 7, vget l17 8, vget l17 9, vget l17 10]⟩)) s18 | .exit i19 => (match Nat.beq i19 0 with | true => pVal true 5 (Value.agg (⟨[vget l17 11, vget l17 12, vget l17 13, vget l17 14, vget l17 15]⟩)) (R (Value.agg (⟨[vget l17 11, vget l17 12, vget l17 13, vget l17 14, vget l17 15]⟩)) s18) | false => False))))))))))
theorem vc_spec_l1Copy_eq (w0 : World) (a0 : Value) (σ : Vw) (R : Value → Vw → Prop) : vc_spec_l1Copy w0 a0 σ R = den Try.prog w0 kp_spec_l1Copy esc_spec_l1Copy (Try.f62.body.getD .skip) (entry Try.f62.ntmps [a0]) σ (retK Try.prog Try.f62.results.toList R) := by kernel_rfl
theorem ac_spec_l1Copy {w0 : World} {a0 : Value} {σ : Vw} {R : Value → Vw → Prop} (h : vc_spec_l1Copy w0 a0 σ R) : AC Try.prog w0 n_spec_l1Copy [a0] σ R := by
  refine ac_rule (fn := Try.f62) (c := Try.f62.body.getD .skip) kp_spec_l1Copy esc_spec_l1Copy Try.func62 (by kernel_rfl) (by kernel_rfl) ?_
  rw [← vc_spec_l1Copy_eq]
  exact h

/-- laws.toTreeS -/
def kp_laws_toTreeS : Nat → Keep
  | 3 => ⟨[0, 3, 4], [], [], .done, []⟩
  | _ => ⟨[], [], [], .done, []⟩
def esc_laws_toTreeS : Nat → Bool
  | _ => false
def vc_laws_toTreeS (w0 : World) (a0 : Value) (σ : Vw) (R : Value → Vw → Prop) : Prop :=
  pLen a0 (fun v0 => pMake w0 37 5 80 ([Value.bool false, Value.int IntKind.i64 0, Value.string ({ data := #[] }), Value.slice Option.none 0 0, Value.slice Option.none 0 0]) v0 v0 σ (fun v1 s2 => pLoop (fun l3 K4 s5 => pLen (vget l3 0) (fun v6 => pBin Try.prog 3 BinOp.lss (vget l3 2) v6 (fun v7 => pIf v7 (pIndexAddr 5 (vget l3 0) (vget l3 2) (fun v8 => pLoad w0 5 v8 s5 (fun g9 => AC Try.prog w0 n_laws_toTree ([Value.agg (⟨[g9 0, g9 1, g9 2, g9 3, g9 4]⟩)]) s5 (fun v10 s11 => pIndexAddr 5 (vget l3 1) (vget l3 2) (fun v12 => pVal true 5 v10 (pStore v12 [cellOf v10 0, cellOf v10 1, cellOf v10 2, cellOf v10 3, cellOf v10 4] s11 (fun s13 => pBin Try.prog 3 BinOp.add (vget l3 2) (Value.int IntKind.i64 1) (fun v14 => K4 AX.normal [vget l3 0, vget l3 1, v14] s13)))))))) (K4 (AX.exit 0) [vget l3 0, vget l3 1, vget l3 2] s5)))) [a0, v1, Value.int IntKind.i64 0] s2 (fun x15 l16 s17 => match x15 with | .normal => R (vget l16 1) s17 | .ret => False | .exit i18 => (match Nat.beq i18 0 with | true => R (vget l16 1) s17 | false => False))))
theorem vc_laws_toTreeS_eq (w0 : World) (a0 : Value) (σ : Vw) (R : Value → Vw → Prop) : vc_laws_toTreeS w0 a0 σ R = den Try.prog w0 kp_laws_toTreeS esc_laws_toTreeS (Try.f63.body.getD .skip) (entry Try.f63.ntmps [a0]) σ (retK Try.prog Try.f63.results.toList R) := by kernel_rfl
theorem ac_laws_toTreeS {w0 : World} {a0 : Value} {σ : Vw} {R : Value → Vw → Prop} (h : vc_laws_toTreeS w0 a0 σ R) : AC Try.prog w0 n_laws_toTreeS [a0] σ R := by
  refine ac_rule (fn := Try.f63) (c := Try.f63.body.getD .skip) kp_laws_toTreeS esc_laws_toTreeS Try.func63 (by kernel_rfl) (by kernel_rfl) ?_
  rw [← vc_laws_toTreeS_eq]
  exact h

/-- impl.TreeOk -/
def kp_impl_TreeOk : Nat → Keep
  | _ => ⟨[], [], [], .done, []⟩
def esc_impl_TreeOk : Nat → Bool
  | _ => false
def vc_impl_TreeOk (w0 : World) (a0 : Value) (σ : Vw) (R : Value → Vw → Prop) : Prop :=
  pVal true 5 a0 (pIf (cellOf a0 0) (AC Try.prog w0 n_impl_Tree_sound ([Value.agg (⟨[cellOf a0 0, cellOf a0 1, cellOf a0 2, cellOf a0 3, cellOf a0 4]⟩), Value.int IntKind.i64 0]) σ (fun v0 s1 => pIf v0 (AC Try.prog w0 n_impl_Tree_paths ([Value.agg (⟨[cellOf a0 0, cellOf a0 1, cellOf a0 2, cellOf a0 3, cellOf a0 4]⟩)]) s1 (fun v2 s3 => pBin Try.prog 3 BinOp.leq v2 (Value.int IntKind.i64 31) (fun v4 => R v4 s3))) (R (Value.bool false) s1))) (R (Value.bool false) σ))
theorem vc_impl_TreeOk_eq (w0 : World) (a0 : Value) (σ : Vw) (R : Value → Vw → Prop) : vc_impl_TreeOk w0 a0 σ R = den Try.prog w0 kp_impl_TreeOk esc_impl_TreeOk (Try.f64.body.getD .skip) (entry Try.f64.ntmps [a0]) σ (retK Try.prog Try.f64.results.toList R) := by kernel_rfl
theorem ac_impl_TreeOk {w0 : World} {a0 : Value} {σ : Vw} {R : Value → Vw → Prop} (h : vc_impl_TreeOk w0 a0 σ R) : AC Try.prog w0 n_impl_TreeOk [a0] σ R := by
  refine ac_rule (fn := Try.f64) (c := Try.f64.body.getD .skip) kp_impl_TreeOk esc_impl_TreeOk Try.func64 (by kernel_rfl) (by kernel_rfl) ?_
  rw [← vc_impl_TreeOk_eq]
  exact h

/-- (*impl.Tree).at -/
def kp_p_impl_Tree_at : Nat → Keep
  | 2 => ⟨[0, 4, 7, 8, 9], [], [], .done, []⟩
  | _ => ⟨[], [], [], .done, []⟩
def esc_p_impl_Tree_at : Nat → Bool
  | _ => false
def vc_p_impl_Tree_at (w0 : World) (a0 a1 : Value) (σ : Vw) (R : Value → Vw → Prop) : Prop :=
  pLen a1 (fun v0 => pLoop (fun l1 K2 s3 => pBin Try.prog 3 BinOp.lss (vget l1 4) (vget l1 3) (fun v4 => pIf v4 (pIndexAddr 1 (vget l1 2) (vget l1 4) (fun v5 => pLoad w0 1 v5 s3 (fun g6 => AC Try.prog w0 n_p_impl_Tree_kid [vget l1 0, g6 0] s3 (fun v7 s8 => pBin Try.prog 90 BinOp.eql v7 (Value.pointer Option.none) (fun v9 => pIf v9 (K2 AX.ret [v7, Value.pointer Option.none, vget l1 2, vget l1 3, vget l1 4] s8) (pBin Try.prog 3 BinOp.add (vget l1 4) (Value.int IntKind.i64 1) (fun v10 => K2 AX.normal [v7, vget l1 1, vget l1 2, vget l1 3, v10] s8))))))) (K2 (AX.exit 0) [vget l1 0, vget l1 1, vget l1 2, vget l1 3, vget l1 4] s3))) [a0, Value.pointer Option.none, a1, v0, Value.int IntKind.i64 0] σ (fun x11 l12 s13 => match x11 with | .normal => R (vget l12 0) s13 | .ret => R (vget l12 1) s13 | .exit i14 => (match Nat.beq i14 0 with | true => R (vget l12 0) s13 | false => False)))
theorem vc_p_impl_Tree_at_eq (w0 : World) (a0 a1 : Value) (σ : Vw) (R : Value → Vw → Prop) : vc_p_impl_Tree_at w0 a0 a1 σ R = den Try.prog w0 kp_p_impl_Tree_at esc_p_impl_Tree_at (Try.f65.body.getD .skip) (entry Try.f65.ntmps [a0, a1]) σ (retK Try.prog Try.f65.results.toList R) := by kernel_rfl
theorem ac_p_impl_Tree_at {w0 : World} {a0 a1 : Value} {σ : Vw} {R : Value → Vw → Prop} (h : vc_p_impl_Tree_at w0 a0 a1 σ R) : AC Try.prog w0 n_p_impl_Tree_at [a0, a1] σ R := by
  refine ac_rule (fn := Try.f65) (c := Try.f65.body.getD .skip) kp_p_impl_Tree_at esc_p_impl_Tree_at Try.func65 (by kernel_rfl) (by kernel_rfl) ?_
  rw [← vc_p_impl_Tree_at_eq]
  exact h

/-- (impl.Tree).clone -/
def kp_impl_Tree_clone : Nat → Keep
  | 3 => ⟨[3, 8, 9, 10], [(1, 5), (2, 5)], [1, 2], .done, []⟩
  | _ => ⟨[], [], [], .done, []⟩
def esc_impl_Tree_clone : Nat → Bool
  | 6 => true
  | 20 => true
  | _ => false
def vc_impl_Tree_clone (w0 : World) (a0 : Value) (σ : Vw) (R : Value → Vw → Prop) : Prop :=
  pVal true 5 a0 (pNew w0 37 [] σ (fun n0 s1 => pLen (cellOf a0 4) (fun v2 => pLoop (fun l3 K4 s5 => pBin Try.prog 3 BinOp.lss (vget l3 3) (vget l3 2) (fun v6 => pIf v6 (pIndexAddr 5 (vget l3 1) (vget l3 3) (fun v7 => pLoad w0 5 v7 s5 (fun g8 => pVal true 5 (Value.agg (⟨[g8 0, g8 1, g8 2, g8 3, g8 4]⟩)) (AC Try.prog w0 n_impl_Tree_clone ([Value.agg (⟨[g8 0, g8 1, g8 2, g8 3, g8 4]⟩)]) s5 (fun v9 s10 => pVal true 5 v9 ((allOne [cellOf v9 0, cellOf v9 1, cellOf v9 2, cellOf v9 3, cellOf v9 4]) ∧ (pAppend w0 37 5 80 (vget l3 0) 1 [cellOf v9 0, cellOf v9 1, cellOf v9 2, cellOf v9 3, cellOf v9 4] s10 (fun v11 s12 => pBin Try.prog 3 BinOp.add (vget l3 3) (Value.int IntKind.i64 1) (fun v13 => K4 AX.normal [v11, vget l3 1, vget l3 2, v13, vget l3 4, vget l3 5, vget l3 6, vget l3 7, vget l3 8, vget l3 9, vget l3 10, vget l3 11, vget l3 12, vget l3 13] s12))))))))) (K4 (AX.exit 0) [vget l3 0, vget l3 1, vget l3 2, vget l3 3, vget l3 4, vget l3 5, vget l3 6, vget l3 7, vget l3 8, vget l3 9, vget l3 10, vget l3 11, vget l3 12, vget l3 13] s5))) ([Value.slice (Option.some (Addr.mk n0 0 Option.none)) 0 0, cellOf a0 4, v2, Value.int IntKind.i64 0, cellOf a0 0, cellOf a0 1, cellOf a0 2, cellOf a0 3, cellOf a0 4, Value.bool false, Value.int IntKind.i64 0, Value.string ({ data := #[] }), Value.slice Option.none 0 0, Value.slice Option.none 0 0]) s1 (fun x14 l15 s16 => match x14 with | .normal => pNew w0 9 [] s16 (fun n17 s18 => pAppendS w0 9 1 16 (Value.slice (Option.some (Addr.mk n17 0 Option.none)) 0 0) (vget l15 7) s18 (fun v19 s20 => pVal false 1 v19 (pVal false 1 (vget l15 0) (pVal true 5 (Value.agg (⟨[vget l15 4, vget l15 5, vget l15 6, v19, vget l15 0]⟩)) (R (Value.agg (⟨[vget l15 4, vget l15 5, vget l15 6, v19, vget l15 0]⟩)) s20))))) | .ret => R (Value.agg (⟨[vget l15 9, vget l15 10, vget l15 11, vget l15 12, vget l15 13]⟩)) s16 | .exit i21 => (match Nat.beq i21 0 with | true => pNew w0 9 [] s16 (fun n22 s23 => pAppendS w0 9 1 16 (Value.slice (Option.some (Addr.mk n22 0 Option.none)) 0 0) (vget l15 7) s23 (fun v24 s25 => pVal false 1 v24 (pVal false 1 (vget l15 0) (pVal true 5 (Value.agg (⟨[vget l15 4, vget l15 5, vget l15 6, v24, vget l15 0]⟩)) (R (Value.agg (⟨[vget l15 4, vget l15 5, vget l15 6, v24, vget l15 0]⟩)) s25))))) | false => False)))))
theorem vc_impl_Tree_clone_eq (w0 : World) (a0 : Value) (σ : Vw) (R : Value → Vw → Prop) : vc_impl_Tree_clone w0 a0 σ R = den Try.prog w0 kp_impl_Tree_clone esc_impl_Tree_clone (Try.f66.body.getD .skip) (entry Try.f66.ntmps [a0]) σ (retK Try.prog Try.f66.results.toList R) := by kernel_rfl
theorem ac_impl_Tree_clone {w0 : World} {a0 : Value} {σ : Vw} {R : Value → Vw → Prop} (h : vc_impl_Tree_clone w0 a0 σ R) : AC Try.prog w0 n_impl_Tree_clone [a0] σ R := by
  refine ac_rule (fn := Try.f66) (c := Try.f66.body.getD .skip) kp_impl_Tree_clone esc_impl_Tree_clone Try.func66 (by kernel_rfl) (by kernel_rfl) ?_
  rw [← vc_impl_Tree_clone_eq]
  exact h

/-- laws.eqTreeS -/
def kp_laws_eqTreeS : Nat → Keep
  | 4 => ⟨[0, 1, 4, 5], [], [], .done, []⟩
  | 6 => ⟨[], [], [], .step 0 (.step 1 (.step 2 (.step 3 (.step 4 (.step 5 (.step 6 (.step 7 (.step 8 (.step 9 (.done)))))))))), [(2, [0, 1]), (3, [0, 1, 2]), (6, [4, 5]), (7, [4, 5, 6]), (8, [0, 1, 2, 3, 4, 5, 6, 7]), (9, [0, 1, 2, 3, 4, 5, 6, 7, 8])]⟩
  | _ => ⟨[], [], [], .done, []⟩
def esc_laws_eqTreeS : Nat → Bool
  | _ => false
def vc_laws_eqTreeS (w0 : World) (a0 a1 : Value) (σ : Vw) (R : Value → Vw → Prop) : Prop :=
  pLen a0 (fun v0 => pLen a1 (fun v1 => pBin Try.prog 3 BinOp.neq v0 v1 (fun v2 => pIf v2 (R (Value.bool false) σ) (pLoop (fun l3 K4 s5 => pLen (vget l3 0) (fun v6 => pBin Try.prog 3 BinOp.lss (vget l3 3) v6 (fun v7 => pIf v7 (pIndexAddr 5 (vget l3 0) (vget l3 3) (fun v8 => pLoad w0 5 v8 s5 (fun g9 => pIndexAddr 5 (vget l3 1) (vget l3 3) (fun v10 => pLoad w0 5 v10 s5 (fun g11 => AC Try.prog w0 n_laws_eqTree ([Value.agg (⟨[g9 0, g9 1, g9 2, g9 3, g9 4]⟩), Value.agg (⟨[g11 0, g11 1, g11 2, g11 3, g11 4]⟩)]) s5 (fun v12 s13 => pUn UnOp.not v12 (fun v14 => pIf v14 (K4 AX.ret [vget l3 0, vget l3 1, Value.bool false, vget l3 3] s13) (pBin Try.prog 3 BinOp.add (vget l3 3) (Value.int IntKind.i64 1) (fun v15 => K4 AX.normal [vget l3 0, vget l3 1, vget l3 2, v15] s13))))))))) (K4 (AX.exit 0) [vget l3 0, vget l3 1, vget l3 2, vget l3 3] s5)))) [a0, a1, Value.bool false, Value.int IntKind.i64 0] σ (fun x16 l17 s18 => match x16 with | .normal => R (Value.bool true) s18 | .ret => R (vget l17 2) s18 | .exit i19 => (match Nat.beq i19 0 with | true => R (Value.bool true) s18 | false => False))))))
theorem vc_laws_eqTreeS_eq (w0 : World) (a0 a1 : Value) (σ : Vw) (R : Value → Vw → Prop) : vc_laws_eqTreeS w0 a0 a1 σ R = den Try.prog w0 kp_laws_eqTreeS esc_laws_eqTreeS (Try.f67.body.getD .skip) (entry Try.f67.ntmps [a0, a1]) σ (retK Try.prog Try.f67.results.toList R) := by kernel_rfl
theorem ac_laws_eqTreeS {w0 : World} {a0 a1 : Value} {σ : Vw} {R : Value → Vw → Prop} (h : vc_laws_eqTreeS w0 a0 a1 σ R) : AC Try.prog w0 n_laws_eqTreeS [a0, a1] σ R := by
  refine ac_rule (fn := Try.f67) (c := Try.f67.body.getD .skip) kp_laws_eqTreeS esc_laws_eqTreeS Try.func67 (by kernel_rfl) (by kernel_rfl) ?_
  rw [← vc_laws_eqTreeS_eq]
  exact h

/-- laws.markTreeS -/
def kp_laws_markTreeS : Nat → Keep
  | 2 => ⟨[0, 1, 5], [], [], .done, []⟩
  | _ => ⟨[], [], [], .done, []⟩
def esc_laws_markTreeS : Nat → Bool
  | _ => false
def vc_laws_markTreeS (w0 : World) (a0 a1 : Value) (σ : Vw) (R : Value → Vw → Prop) : Prop :=
  pLoop (fun l0 K1 s2 => pLen (vget l0 0) (fun v3 => pBin Try.prog 3 BinOp.lss (vget l0 2) v3 (fun v4 => pIf v4 (pBin Try.prog 3 BinOp.rem (vget l0 1) (Value.int IntKind.i64 3) (fun v5 => pBin Try.prog 3 BinOp.eql v5 (Value.int IntKind.i64 0) (fun v6 => pIndexAddr 5 (vget l0 0) (vget l0 2) (fun v7 => pField 0 v7 (fun v8 => pVal false 1 v6 (pStore v8 [v6] s2 (fun s9 => pBin Try.prog 3 BinOp.add (vget l0 1) (Value.int IntKind.i64 1) (fun v10 => pIndexAddr 5 (vget l0 0) (vget l0 2) (fun v11 => pField 1 v11 (fun v12 => pVal false 1 v10 (pStore v12 [v10] s9 (fun s13 => pBin Try.prog 3 BinOp.add v10 (Value.int IntKind.i64 1) (fun v14 => AC Try.prog w0 n_laws_markText [v14] s13 (fun v15 s16 => pIndexAddr 5 (vget l0 0) (vget l0 2) (fun v17 => pField 2 v17 (fun v18 => pVal false 1 v15 (pStore v18 [v15] s16 (fun s19 => pBin Try.prog 3 BinOp.add v14 (Value.int IntKind.i64 1) (fun v20 => pIndexAddr 5 (vget l0 0) (vget l0 2) (fun v21 => pField 3 v21 (fun v22 => pLoad w0 1 v22 s19 (fun g23 => AC Try.prog w0 n_laws_markStringS [g23 0, v20] s19 (fun v24 s25 => pIndexAddr 5 (vget l0 0) (vget l0 2) (fun v26 => pField 4 v26 (fun v27 => pLoad w0 1 v27 s25 (fun g28 => AC Try.prog w0 n_laws_markTreeS [g28 0, v24] s25 (fun v29 s30 => pBin Try.prog 3 BinOp.add (vget l0 2) (Value.int IntKind.i64 1) (fun v31 => K1 AX.normal [vget l0 0, v29, v31] s30)))))))))))))))))))))))))))) (K1 (AX.exit 0) [vget l0 0, vget l0 1, vget l0 2] s2)))) [a0, a1, Value.int IntKind.i64 0] σ (fun x32 l33 s34 => match x32 with | .normal => R (vget l33 1) s34 | .ret => False | .exit i35 => (match Nat.beq i35 0 with | true => R (vget l33 1) s34 | false => False))
theorem vc_laws_markTreeS_eq (w0 : World) (a0 a1 : Value) (σ : Vw) (R : Value → Vw → Prop) : vc_laws_markTreeS w0 a0 a1 σ R = den Try.prog w0 kp_laws_markTreeS esc_laws_markTreeS (Try.f68.body.getD .skip) (entry Try.f68.ntmps [a0, a1]) σ (retK Try.prog Try.f68.results.toList R) := by kernel_rfl
theorem ac_laws_markTreeS {w0 : World} {a0 a1 : Value} {σ : Vw} {R : Value → Vw → Prop} (h : vc_laws_markTreeS w0 a0 a1 σ R) : AC Try.prog w0 n_laws_markTreeS [a0, a1] σ R := by
  refine ac_rule (fn := Try.f68) (c := Try.f68.body.getD .skip) kp_laws_markTreeS esc_laws_markTreeS Try.func68 (by kernel_rfl) (by kernel_rfl) ?_
  rw [← vc_laws_markTreeS_eq]
  exact h

/-- laws.markText -/
def kp_laws_markText : Nat → Keep
  | 4 => ⟨[0, 3], [], [], .done, []⟩
  | _ => ⟨[], [], [], .done, []⟩
def esc_laws_markText : Nat → Bool
  | 12 => true
  | _ => false
def vc_laws_markText (w0 : World) (a0 : Value) (σ : Vw) (R : Value → Vw → Prop) : Prop :=
  pBin Try.prog 3 BinOp.leq a0 (Value.int IntKind.i64 0) (fun v0 => pIf v0 (R (Value.string ({ data := #[109, 48] })) σ) (pLoop (fun l1 K2 s3 => pBin Try.prog 3 BinOp.gtr (vget l1 0) (Value.int IntKind.i64 0) (fun v4 => pIf v4 (pBin Try.prog 3 BinOp.rem (vget l1 0) (Value.int IntKind.i64 10) (fun v5 => pBin Try.prog 3 BinOp.add (Value.int IntKind.i64 48) v5 (fun v6 => pConvInt IntKind.u8 v6 (fun v7 => pVal false 1 v7 (pNew w0 5 [v7] s3 (fun n8 s9 => pStr w0 (Value.slice (Option.some (Addr.mk n8 0 Option.none)) 1 1) s9 (fun v10 => pBin Try.prog 9 BinOp.add v10 (vget l1 1) (fun v11 => pBin Try.prog 3 BinOp.quo (vget l1 0) (Value.int IntKind.i64 10) (fun v12 => K2 AX.normal [v12, v11] s9))))))))) (K2 (AX.exit 0) [vget l1 0, vget l1 1] s3))) ([a0, Value.string ({ data := #[] })]) σ (fun x13 l14 s15 => match x13 with | .normal => pBin Try.prog 9 BinOp.add (Value.string ({ data := #[109] })) (vget l14 1) (fun v16 => R v16 s15) | .ret => False | .exit i17 => (match Nat.beq i17 0 with | true => pBin Try.prog 9 BinOp.add (Value.string ({ data := #[109] })) (vget l14 1) (fun v18 => R v18 s15) | false => False))))
theorem vc_laws_markText_eq (w0 : World) (a0 : Value) (σ : Vw) (R : Value → Vw → Prop) : vc_laws_markText w0 a0 σ R = den Try.prog w0 kp_laws_markText esc_laws_markText (Try.f69.body.getD .skip) (entry Try.f69.ntmps [a0]) σ (retK Try.prog Try.f69.results.toList R) := by kernel_rfl
theorem ac_laws_markText {w0 : World} {a0 : Value} {σ : Vw} {R : Value → Vw → Prop} (h : vc_laws_markText w0 a0 σ R) : AC Try.prog w0 n_laws_markText [a0] σ R := by
  refine ac_rule (fn := Try.f69) (c := Try.f69.body.getD .skip) kp_laws_markText esc_laws_markText Try.func69 (by kernel_rfl) (by kernel_rfl) ?_
  rw [← vc_laws_markText_eq]
  exact h

/-- laws.heldStringS -/
def kp_laws_heldStringS : Nat → Keep
  | 2 => ⟨[0, 1, 4, 5], [], [], .done, []⟩
  | 4 => ⟨[], [], [], .step 0 (.step 1 (.step 2 (.step 3 (.step 4 (.step 5 (.step 6 (.done))))))), [(2, [0, 1]), (3, [0, 1, 2]), (5, [4]), (6, [0, 1, 2, 3, 4, 5])]⟩
  | _ => ⟨[], [], [], .done, []⟩
def esc_laws_heldStringS : Nat → Bool
  | _ => false
def vc_laws_heldStringS (w0 : World) (a0 a1 : Value) (σ : Vw) (R : Value → Vw → Prop) : Prop :=
  pLoop (fun l0 K1 s2 => pLen (vget l0 0) (fun v3 => pBin Try.prog 3 BinOp.lss (vget l0 3) v3 (fun v4 => pIf v4 (pIndexAddr 1 (vget l0 0) (vget l0 3) (fun v5 => pLoad w0 1 v5 s2 (fun g6 => AC Try.prog w0 n_laws_markText [vget l0 1] s2 (fun v7 s8 => (Stay w0 s2 s8 v5 1) ∧ (pBin Try.prog 9 BinOp.neq (g6 0) v7 (fun v9 => pIf v9 (K1 AX.ret [vget l0 0, vget l0 1, Value.int IntKind.i64 (-1), vget l0 3] s8) (pBin Try.prog 3 BinOp.add (vget l0 1) (Value.int IntKind.i64 1) (fun v10 => pBin Try.prog 3 BinOp.add (vget l0 3) (Value.int IntKind.i64 1) (fun v11 => K1 AX.normal [vget l0 0, v10, vget l0 2, v11] s8))))))))) (K1 (AX.exit 0) [vget l0 0, vget l0 1, vget l0 2, vget l0 3] s2)))) [a0, a1, Value.int IntKind.i64 0, Value.int IntKind.i64 0] σ (fun x12 l13 s14 => match x12 with | .normal => R (vget l13 1) s14 | .ret => R (vget l13 2) s14 | .exit i15 => (match Nat.beq i15 0 with | true => R (vget l13 1) s14 | false => False))
theorem vc_laws_heldStringS_eq (w0 : World) (a0 a1 : Value) (σ : Vw) (R : Value → Vw → Prop) : vc_laws_heldStringS w0 a0 a1 σ R = den Try.prog w0 kp_laws_heldStringS esc_laws_heldStringS (Try.f70.body.getD .skip) (entry Try.f70.ntmps [a0, a1]) σ (retK Try.prog Try.f70.results.toList R) := by kernel_rfl
theorem ac_laws_heldStringS {w0 : World} {a0 a1 : Value} {σ : Vw} {R : Value → Vw → Prop} (h : vc_laws_heldStringS w0 a0 a1 σ R) : AC Try.prog w0 n_laws_heldStringS [a0, a1] σ R := by
  refine ac_rule (fn := Try.f70) (c := Try.f70.body.getD .skip) kp_laws_heldStringS esc_laws_heldStringS Try.func70 (by kernel_rfl) (by kernel_rfl) ?_
  rw [← vc_laws_heldStringS_eq]
  exact h

/-- laws.heldTreeS -/
def kp_laws_heldTreeS : Nat → Keep
  | 2 => ⟨[0, 1, 4, 5], [], [], .done, []⟩
  | 10 => ⟨[], [], [], .step 0 (.step 1 (.step 2 (.step 3 (.step 4 (.step 5 (.step 6 (.step 7 (.done)))))))), [(2, [0, 1]), (3, [0, 1, 2]), (4, [0, 1, 2, 3]), (6, [5]), (7, [0, 1, 2, 3, 4, 5, 6])]⟩
  | _ => ⟨[], [], [], .done, []⟩
def esc_laws_heldTreeS : Nat → Bool
  | _ => false
def vc_laws_heldTreeS (w0 : World) (a0 a1 : Value) (σ : Vw) (R : Value → Vw → Prop) : Prop :=
  pLoop (fun l0 K1 s2 => pLen (vget l0 0) (fun v3 => pBin Try.prog 3 BinOp.lss (vget l0 3) v3 (fun v4 => pIf v4 (pIndexAddr 5 (vget l0 0) (vget l0 3) (fun v5 => pField 0 v5 (fun v6 => pLoad w0 1 v6 s2 (fun g7 => pBin Try.prog 3 BinOp.rem (vget l0 1) (Value.int IntKind.i64 3) (fun v8 => pBin Try.prog 3 BinOp.eql v8 (Value.int IntKind.i64 0) (fun v9 => pBin Try.prog 4 BinOp.neq (g7 0) v9 (fun v10 => pIf v10 (K1 AX.ret [vget l0 0, vget l0 1, Value.int IntKind.i64 (-1), vget l0 3] s2) (pBin Try.prog 3 BinOp.add (vget l0 1) (Value.int IntKind.i64 1) (fun v11 => pIndexAddr 5 (vget l0 0) (vget l0 3) (fun v12 => pField 1 v12 (fun v13 => pLoad w0 1 v13 s2 (fun g14 => pBin Try.prog 3 BinOp.neq (g14 0) v11 (fun v15 => pIf v15 (K1 AX.ret [vget l0 0, v11, Value.int IntKind.i64 (-1), vget l0 3] s2) (pBin Try.prog 3 BinOp.add v11 (Value.int IntKind.i64 1) (fun v16 => pIndexAddr 5 (vget l0 0) (vget l0 3) (fun v17 => pField 2 v17 (fun v18 => pLoad w0 1 v18 s2 (fun g19 => AC Try.prog w0 n_laws_markText [v16] s2 (fun v20 s21 => (Stay w0 s2 s21 v18 1) ∧ (pBin Try.prog 9 BinOp.neq (g19 0) v20 (fun v22 => pIf v22 (K1 AX.ret [vget l0 0, v16, Value.int IntKind.i64 (-1), vget l0 3] s21) (pBin Try.prog 3 BinOp.add v16 (Value.int IntKind.i64 1) (fun v23 => pIndexAddr 5 (vget l0 0) (vget l0 3) (fun v24 => pField 3 v24 (fun v25 => pLoad w0 1 v25 s21 (fun g26 => AC Try.prog w0 n_laws_heldStringS [g26 0, v23] s21 (fun v27 s28 => pBin Try.prog 3 BinOp.lss v27 (Value.int IntKind.i64 0) (fun v29 => pIf v29 (K1 AX.ret [vget l0 0, v27, Value.int IntKind.i64 (-1), vget l0 3] s28) (pIndexAddr 5 (vget l0 0) (vget l0 3) (fun v30 => pField 4 v30 (fun v31 => pLoad w0 1 v31 s28 (fun g32 => AC Try.prog w0 n_laws_heldTreeS [g32 0, v27] s28 (fun v33 s34 => pBin Try.prog 3 BinOp.lss v33 (Value.int IntKind.i64 0) (fun v35 => pIf v35 (K1 AX.ret [vget l0 0, v33, Value.int IntKind.i64 (-1), vget l0 3] s34) (pBin Try.prog 3 BinOp.add (vget l0 3) (Value.int IntKind.i64 1) (fun v36 => K1 AX.normal [vget l0 0, v33, vget l0 2, v36] s34)))))))))))))))))))))))))))))))))))) (K1 (AX.exit 0) [vget l0 0, vget l0 1, vget l0 2, vget l0 3] s2)))) [a0, a1, Value.int IntKind.i64 0, Value.int IntKind.i64 0] σ (fun x37 l38 s39 => match x37 with | .normal => R (vget l38 1) s39 | .ret => R (vget l38 2) s39 | .exit i40 => (match Nat.beq i40 0 with | true => R (vget l38 1) s39 | false => False))
theorem vc_laws_heldTreeS_eq (w0 : World) (a0 a1 : Value) (σ : Vw) (R : Value → Vw → Prop) : vc_laws_heldTreeS w0 a0 a1 σ R = den Try.prog w0 kp_laws_heldTreeS esc_laws_heldTreeS (Try.f71.body.getD .skip) (entry Try.f71.ntmps [a0, a1]) σ (retK Try.prog Try.f71.results.toList R) := by kernel_rfl
theorem ac_laws_heldTreeS {w0 : World} {a0 a1 : Value} {σ : Vw} {R : Value → Vw → Prop} (h : vc_laws_heldTreeS w0 a0 a1 σ R) : AC Try.prog w0 n_laws_heldTreeS [a0, a1] σ R := by
  refine ac_rule (fn := Try.f71) (c := Try.f71.body.getD .skip) kp_laws_heldTreeS esc_laws_heldTreeS Try.func71 (by kernel_rfl) (by kernel_rfl) ?_
  rw [← vc_laws_heldTreeS_eq]
  exact h

/-- spec.l2CallOk -/
def kp_spec_l2CallOk : Nat → Keep
  | _ => ⟨[], [], [], .done, []⟩
def esc_spec_l2CallOk : Nat → Bool
  | _ => false
def vc_spec_l2CallOk (w0 : World) (a0 : Value) (σ : Vw) (R : Value → Vw → Prop) : Prop :=
  pVal true 5 a0 (pBin Try.prog 3 BinOp.eql (cellOf a0 0) (Value.int IntKind.i64 1) (fun v0 => pIf v0 (pIf v0 (AC Try.prog w0 n_spec_l2PathOk [cellOf a0 1] σ (fun v1 s2 => pIf v1 (AC Try.prog w0 n_spec_l1In [cellOf a0 3, Value.int IntKind.i64 0, Value.int IntKind.i64 7] s2 (fun v3 s4 => R v3 s4)) (R (Value.bool false) s2))) (pBin Try.prog 3 BinOp.eql (cellOf a0 0) (Value.int IntKind.i64 2) (fun v5 => pIf v5 (pIf v5 (AC Try.prog w0 n_spec_l2PathOk [cellOf a0 1] σ (fun v6 s7 => pIf v6 (AC Try.prog w0 n_spec_l1In [cellOf a0 3, Value.int IntKind.i64 0, Value.int IntKind.i64 24] s7 (fun v8 s9 => R v8 s9)) (R (Value.bool false) s7))) (pBin Try.prog 3 BinOp.eql (cellOf a0 0) (Value.int IntKind.i64 4) (fun v10 => pIf v10 (AC Try.prog w0 n_spec_l2PathOk [cellOf a0 1] σ (fun v11 s12 => R v11 s12)) (pBin Try.prog 3 BinOp.eql (cellOf a0 0) (Value.int IntKind.i64 5) (fun v13 => pIf v13 (AC Try.prog w0 n_spec_l2PathOk [cellOf a0 1] σ (fun v14 s15 => pIf v14 (AC Try.prog w0 n_spec_l2PathOk [cellOf a0 2] s15 (fun v16 s17 => R v16 s17)) (R (Value.bool false) s15))) (R (Value.bool false) σ)))))) (pBin Try.prog 3 BinOp.eql (cellOf a0 0) (Value.int IntKind.i64 3) (fun v18 => pIf v18 (AC Try.prog w0 n_spec_l2PathOk [cellOf a0 1] σ (fun v19 s20 => pIf v19 (AC Try.prog w0 n_spec_l1In [cellOf a0 3, Value.int IntKind.i64 0, Value.int IntKind.i64 24] s20 (fun v21 s22 => R v21 s22)) (R (Value.bool false) s20))) (pBin Try.prog 3 BinOp.eql (cellOf a0 0) (Value.int IntKind.i64 4) (fun v23 => pIf v23 (AC Try.prog w0 n_spec_l2PathOk [cellOf a0 1] σ (fun v24 s25 => R v24 s25)) (pBin Try.prog 3 BinOp.eql (cellOf a0 0) (Value.int IntKind.i64 5) (fun v26 => pIf v26 (AC Try.prog w0 n_spec_l2PathOk [cellOf a0 1] σ (fun v27 s28 => pIf v27 (AC Try.prog w0 n_spec_l2PathOk [cellOf a0 2] s28 (fun v29 s30 => R v29 s30)) (R (Value.bool false) s28))) (R (Value.bool false) σ)))))))))) (pBin Try.prog 3 BinOp.eql (cellOf a0 0) (Value.int IntKind.i64 6) (fun v31 => pIf v31 (AC Try.prog w0 n_spec_l2PathOk [cellOf a0 1] σ (fun v32 s33 => pIf v32 (AC Try.prog w0 n_spec_l1In [cellOf a0 3, Value.int IntKind.i64 0, Value.int IntKind.i64 7] s33 (fun v34 s35 => R v34 s35)) (R (Value.bool false) s33))) (pBin Try.prog 3 BinOp.eql (cellOf a0 0) (Value.int IntKind.i64 2) (fun v36 => pIf v36 (pIf v36 (AC Try.prog w0 n_spec_l2PathOk [cellOf a0 1] σ (fun v37 s38 => pIf v37 (AC Try.prog w0 n_spec_l1In [cellOf a0 3, Value.int IntKind.i64 0, Value.int IntKind.i64 24] s38 (fun v39 s40 => R v39 s40)) (R (Value.bool false) s38))) (pBin Try.prog 3 BinOp.eql (cellOf a0 0) (Value.int IntKind.i64 4) (fun v41 => pIf v41 (AC Try.prog w0 n_spec_l2PathOk [cellOf a0 1] σ (fun v42 s43 => R v42 s43)) (pBin Try.prog 3 BinOp.eql (cellOf a0 0) (Value.int IntKind.i64 5) (fun v44 => pIf v44 (AC Try.prog w0 n_spec_l2PathOk [cellOf a0 1] σ (fun v45 s46 => pIf v45 (AC Try.prog w0 n_spec_l2PathOk [cellOf a0 2] s46 (fun v47 s48 => R v47 s48)) (R (Value.bool false) s46))) (R (Value.bool false) σ)))))) (pBin Try.prog 3 BinOp.eql (cellOf a0 0) (Value.int IntKind.i64 3) (fun v49 => pIf v49 (AC Try.prog w0 n_spec_l2PathOk [cellOf a0 1] σ (fun v50 s51 => pIf v50 (AC Try.prog w0 n_spec_l1In [cellOf a0 3, Value.int IntKind.i64 0, Value.int IntKind.i64 24] s51 (fun v52 s53 => R v52 s53)) (R (Value.bool false) s51))) (pBin Try.prog 3 BinOp.eql (cellOf a0 0) (Value.int IntKind.i64 4) (fun v54 => pIf v54 (AC Try.prog w0 n_spec_l2PathOk [cellOf a0 1] σ (fun v55 s56 => R v55 s56)) (pBin Try.prog 3 BinOp.eql (cellOf a0 0) (Value.int IntKind.i64 5) (fun v57 => pIf v57 (AC Try.prog w0 n_spec_l2PathOk [cellOf a0 1] σ (fun v58 s59 => pIf v58 (AC Try.prog w0 n_spec_l2PathOk [cellOf a0 2] s59 (fun v60 s61 => R v60 s61)) (R (Value.bool false) s59))) (R (Value.bool false) σ)))))))))))))
theorem vc_spec_l2CallOk_eq (w0 : World) (a0 : Value) (σ : Vw) (R : Value → Vw → Prop) : vc_spec_l2CallOk w0 a0 σ R = den Try.prog w0 kp_spec_l2CallOk esc_spec_l2CallOk (Try.f72.body.getD .skip) (entry Try.f72.ntmps [a0]) σ (retK Try.prog Try.f72.results.toList R) := by kernel_rfl
theorem ac_spec_l2CallOk {w0 : World} {a0 : Value} {σ : Vw} {R : Value → Vw → Prop} (h : vc_spec_l2CallOk w0 a0 σ R) : AC Try.prog w0 n_spec_l2CallOk [a0] σ R := by
  refine ac_rule (fn := Try.f72) (c := Try.f72.body.getD .skip) kp_spec_l2CallOk esc_spec_l2CallOk Try.func72 (by kernel_rfl) (by kernel_rfl) ?_
  rw [← vc_spec_l2CallOk_eq]
  exact h

/-- (impl.Tree).marksOf -/
def kp_impl_Tree_marksOf : Nat → Keep
  | _ => ⟨[], [], [], .done, []⟩
def esc_impl_Tree_marksOf : Nat → Bool
  | 2 => true
  | 11 => true
  | 15 => true
  | 38 => true
  | _ => false
def vc_impl_Tree_marksOf (w0 : World) (a0 a1 : Value) (σ : Vw) (R : Value → Vw → Prop) : Prop :=
  pVal true 5 a0 (pNew w0 37 [cellOf a0 0, cellOf a0 1, cellOf a0 2, cellOf a0 3, cellOf a0 4] σ (fun n0 s1 => pVal true 5 a1 (AC Try.prog w0 n_impl_Call_isCall ([Value.agg (⟨[cellOf a1 0, cellOf a1 1, cellOf a1 2, cellOf a1 3, cellOf a1 4]⟩)]) s1 (fun v2 s3 => pUn UnOp.not v2 (fun v4 => pIf v4 (pNew w0 60 [] s3 (fun n5 s6 => R (Value.slice (Option.some (Addr.mk n5 0 Option.none)) 0 0) s6)) (pVal false 1 (cellOf a1 1) (pVal true 2 (Value.agg (⟨[cellOf a1 1, Value.bool false]⟩)) (pNew w0 60 [cellOf a1 1, Value.bool false] s3 (fun n7 s8 => pBin Try.prog 3 BinOp.eql (cellOf a1 0) (Value.int IntKind.i64 5) (fun v9 => pIf v9 (AC Try.prog w0 n_p_impl_Tree_at [Value.pointer (Option.some (Addr.mk n0 0 Option.none)), cellOf a1 1] s8 (fun v10 s11 => pBin Try.prog 90 BinOp.neq v10 (Value.pointer Option.none) (fun v12 => pIf v12 (pNil v10 (pField 0 v10 (fun v13 => pLoad w0 1 v13 s11 (fun g14 => pVal false 1 (cellOf a1 1) (pVal false 1 (g14 0) (pVal false 1 (cellOf a1 2) (pVal false 1 (g14 0) (pVal true 2 (Value.agg (⟨[cellOf a1 1, g14 0]⟩)) (pVal true 2 (Value.agg (⟨[cellOf a1 2, g14 0]⟩)) (pNew w0 60 [cellOf a1 1, g14 0, cellOf a1 2, g14 0] s11 (fun n15 s16 => AC Try.prog w0 n_impl_cloneMarks [Value.slice (Option.some (Addr.mk n15 0 Option.none)) 2 2] s16 (fun v17 s18 => R v17 s18)))))))))))) (pVal false 1 (cellOf a1 1) (pVal false 1 (Value.bool false) (pVal false 1 (cellOf a1 2) (pVal false 1 (Value.bool false) (pVal true 2 (Value.agg (⟨[cellOf a1 1, Value.bool false]⟩)) (pVal true 2 (Value.agg (⟨[cellOf a1 2, Value.bool false]⟩)) (pNew w0 60 [cellOf a1 1, Value.bool false, cellOf a1 2, Value.bool false] s11 (fun n19 s20 => AC Try.prog w0 n_impl_cloneMarks [Value.slice (Option.some (Addr.mk n19 0 Option.none)) 2 2] s20 (fun v21 s22 => R v21 s22)))))))))))) (AC Try.prog w0 n_impl_cloneMarks [Value.slice (Option.some (Addr.mk n7 0 Option.none)) 1 1] s8 (fun v23 s24 => R v23 s24))))))))))))
theorem vc_impl_Tree_marksOf_eq (w0 : World) (a0 a1 : Value) (σ : Vw) (R : Value → Vw → Prop) : vc_impl_Tree_marksOf w0 a0 a1 σ R = den Try.prog w0 kp_impl_Tree_marksOf esc_impl_Tree_marksOf (Try.f73.body.getD .skip) (entry Try.f73.ntmps [a0, a1]) σ (retK Try.prog Try.f73.results.toList R) := by kernel_rfl
theorem ac_impl_Tree_marksOf {w0 : World} {a0 a1 : Value} {σ : Vw} {R : Value → Vw → Prop} (h : vc_impl_Tree_marksOf w0 a0 a1 σ R) : AC Try.prog w0 n_impl_Tree_marksOf [a0, a1] σ R := by
  refine ac_rule (fn := Try.f73) (c := Try.f73.body.getD .skip) kp_impl_Tree_marksOf esc_impl_Tree_marksOf Try.func73 (by kernel_rfl) (by kernel_rfl) ?_
  rw [← vc_impl_Tree_marksOf_eq]
  exact h

/-- spec.l11Copy -/
def kp_spec_l11Copy : Nat → Keep
  | 3 => ⟨[0, 3, 4], [], [], .done, []⟩
  | 5 => ⟨[], [], [], .step 0 (.step 2 (.step 3 (.step 4 (.step 5 (.step 6 (.step 8 (.step 9 (.step 10 (.step 11 (.step 12 (.step 1 (.step 7 (.step 13 (.step 14 (.step 15 (.step 16 (.done))))))))))))))))), [(4, [2, 3]), (5, [2, 3, 4]), (6, [2, 3, 4, 5]), (7, [1, 2, 3, 4, 5, 6]), (10, [8, 9]), (11, [8, 9, 10]), (12, [8, 9, 10, 11]), (13, [1, 2, 3, 4, 5, 6, 7, 8, 9, 10, 11, 12]), (14, [1, 2, 3, 4, 5, 6, 7, 8, 9, 10, 11, 12, 13]), (15, [0, 1, 2, 3, 4, 5, 6, 7, 8, 9, 10, 11, 12, 13, 14]), (16, [0, 1, 2, 3, 4, 5, 6, 7, 8, 9, 10, 11, 12, 13, 14, 15])]⟩
  | _ => ⟨[], [], [], .done, []⟩
def esc_spec_l11Copy : Nat → Bool
  | 5 => true
  | 13 => true
  | _ => false
def vc_spec_l11Copy (w0 : World) (a0 : Value) (σ : Vw) (R : Value → Vw → Prop) : Prop :=
  pNew w0 60 [] σ (fun n0 s1 => pLoop (fun l2 K3 s4 => pLen (vget l2 0) (fun v5 => pBin Try.prog 3 BinOp.lss (vget l2 2) v5 (fun v6 => pIf v6 (pIndexAddr 2 (vget l2 0) (vget l2 2) (fun v7 => pField 0 v7 (fun v8 => pLoad w0 1 v8 s4 (fun g9 => pIndexAddr 2 (vget l2 0) (vget l2 2) (fun v10 => pField 1 v10 (fun v11 => pLoad w0 1 v11 s4 (fun g12 => pNew w0 9 [] s4 (fun n13 s14 => (Stay w0 s4 s14 v11 1) ∧ ((Stay w0 s4 s14 v8 1) ∧ (pAppendS w0 9 1 16 (Value.slice (Option.some (Addr.mk n13 0 Option.none)) 0 0) (g9 0) s14 (fun v15 s16 => (Stay w0 s14 s16 v11 1) ∧ (pVal false 1 v15 (pVal false 1 (g12 0) (pVal true 2 (Value.agg (⟨[v15, g12 0]⟩)) ((allOne [v15, g12 0]) ∧ (pAppend w0 60 2 32 (vget l2 1) 1 [v15, g12 0] s16 (fun v17 s18 => pBin Try.prog 3 BinOp.add (vget l2 2) (Value.int IntKind.i64 1) (fun v19 => K3 AX.normal [vget l2 0, v17, v19] s18)))))))))))))))))) (K3 (AX.exit 0) [vget l2 0, vget l2 1, vget l2 2] s4)))) [a0, Value.slice (Option.some (Addr.mk n0 0 Option.none)) 0 0, Value.int IntKind.i64 0] s1 (fun x20 l21 s22 => match x20 with | .normal => R (vget l21 1) s22 | .ret => False | .exit i23 => (match Nat.beq i23 0 with | true => R (vget l21 1) s22 | false => False)))
theorem vc_spec_l11Copy_eq (w0 : World) (a0 : Value) (σ : Vw) (R : Value → Vw → Prop) : vc_spec_l11Copy w0 a0 σ R = den Try.prog w0 kp_spec_l11Copy esc_spec_l11Copy (Try.f74.body.getD .skip) (entry Try.f74.ntmps [a0]) σ (retK Try.prog Try.f74.results.toList R) := by kernel_rfl
theorem ac_spec_l11Copy {w0 : World} {a0 : Value} {σ : Vw} {R : Value → Vw → Prop} (h : vc_spec_l11Copy w0 a0 σ R) : AC Try.prog w0 n_spec_l11Copy [a0] σ R := by
  refine ac_rule (fn := Try.f74) (c := Try.f74.body.getD .skip) kp_spec_l11Copy esc_spec_l11Copy Try.func74 (by kernel_rfl) (by kernel_rfl) ?_
  rw [← vc_spec_l11Copy_eq]
  exact h

/-- spec.l11MarkOk -/
def kp_spec_l11MarkOk : Nat → Keep
  | _ => ⟨[], [], [], .done, []⟩
def esc_spec_l11MarkOk : Nat → Bool
  | _ => false
def vc_spec_l11MarkOk (w0 : World) (a0 : Value) (σ : Vw) (R : Value → Vw → Prop) : Prop :=
  pVal true 2 a0 (pLen (cellOf a0 0) (fun v0 => pBin Try.prog 3 BinOp.eql v0 (Value.int IntKind.i64 0) (fun v1 => pIf v1 (R (cellOf a0 1) σ) (AC Try.prog w0 n_spec_l2PathOk [cellOf a0 0] σ (fun v2 s3 => R v2 s3)))))
theorem vc_spec_l11MarkOk_eq (w0 : World) (a0 : Value) (σ : Vw) (R : Value → Vw → Prop) : vc_spec_l11MarkOk w0 a0 σ R = den Try.prog w0 kp_spec_l11MarkOk esc_spec_l11MarkOk (Try.f75.body.getD .skip) (entry Try.f75.ntmps [a0]) σ (retK Try.prog Try.f75.results.toList R) := by kernel_rfl
theorem ac_spec_l11MarkOk {w0 : World} {a0 : Value} {σ : Vw} {R : Value → Vw → Prop} (h : vc_spec_l11MarkOk w0 a0 σ R) : AC Try.prog w0 n_spec_l11MarkOk [a0] σ R := by
  refine ac_rule (fn := Try.f75) (c := Try.f75.body.getD .skip) kp_spec_l11MarkOk esc_spec_l11MarkOk Try.func75 (by kernel_rfl) (by kernel_rfl) ?_
  rw [← vc_spec_l11MarkOk_eq]
  exact h

end Go.Proofs.Ytkblkdnnncklgaa
