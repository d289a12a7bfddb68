/- The law FnExactTableMake holds: it returns true, and the input reads as it did. No condition. This is part 2 of 6 of its proof. -/
import Derived.Test.YtlbpnfhhoalenaaDoorXFnExactTableMake1
import Derived.IntWalk
import Derived.ChangeArms
import Derived.Test.YtlbpnfhhoalenaaDoorProg

/- The plain side, part 1: the operations at known values; loops; what is read in a slice. -/
set_option linter.unusedVariables false
set_option linter.unusedSimpArgs false
namespace Go.Av
open Go Go.RowKit IntWalk

section
variable {P : Program} {w0 : World} {σ σ' : Vw}

/-! ### The operations at known values -/
theorem pIf_b {b : Bool} {A B : Prop} : pIf (.bool b) A B ↔ (b = true → A) ∧ (b = false → B) :=
  ⟨fun ⟨c, h, h1, h2⟩ => by cases h; exact ⟨h1, h2⟩, fun ⟨h1, h2⟩ => ⟨b, rfl, h1, h2⟩⟩
theorem pIf_d {p : Prop} [Decidable p] {A B : Prop} : pIf (.bool (decide p)) A B ↔ (p → A) ∧ (¬ p → B) := by
  rw [pIf_b]; simp
theorem pLen_s {A : Option Addr} {n c : Nat} {K : Value → Prop} : pLen (.slice A n c) K ↔ K (.int .i64 n) :=
  ⟨fun ⟨_, _, _, h, hK⟩ => by cases h; exact hK, fun h => ⟨_, _, _, rfl, h⟩⟩
theorem pLenS_s {s : ByteArray} {K : Value → Prop} : pLenS (.string s) K ↔ K (.int .i64 s.size) :=
  ⟨fun ⟨_, h, hK⟩ => by cases h; exact hK, fun h => ⟨_, rfl, h⟩⟩
theorem pNil_s {a : Addr} {K : Prop} : pNil (.pointer (some a)) K ↔ K := ⟨fun ⟨_, _, h⟩ => h, fun h => ⟨a, rfl, h⟩⟩
theorem pField_s {o : Nat} {a : Addr} {K : Value → Prop} : pField o (.pointer (some a)) K ↔ K (.pointer (some (a.add o))) :=
  ⟨fun ⟨_, h, hK⟩ => by cases h; exact hK, fun h => ⟨_, rfl, h⟩⟩
theorem pUn_not {b : Bool} {K : Value → Prop} : pUn .not (.bool b) K ↔ K (.bool !b) :=
  ⟨fun ⟨_, h, hK⟩ => by simp only [aun, Option.some.injEq] at h; subst h; exact hK, fun h => ⟨_, rfl, h⟩⟩
theorem pBin_i {T : Nat} {op : BinOp} {k : IntKind} {a b : Int} {v : Value} {K : Value → Prop} (h : aint op k a b = some v) : pBin P T op (.int k a) (.int k b) K ↔ K v := by
  have e : abinT P T op (.int k a) (.int k b) = some v := by unfold abinT; simp only [if_true]; exact h
  exact ⟨fun ⟨_, h, hK⟩ => by rw [e] at h; cases h; exact hK, fun h => ⟨_, e, h⟩⟩
theorem pBin_lt {T : Nat} {k : IntKind} {a b : Int} {K : Value → Prop} : pBin P T .lss (.int k a) (.int k b) K ↔ K (.bool (decide (a < b))) := pBin_i rfl
theorem pBin_le {T : Nat} {k : IntKind} {a b : Int} {K : Value → Prop} : pBin P T .leq (.int k a) (.int k b) K ↔ K (.bool (decide (a ≤ b))) := pBin_i rfl
theorem pBin_gt {T : Nat} {k : IntKind} {a b : Int} {K : Value → Prop} : pBin P T .gtr (.int k a) (.int k b) K ↔ K (.bool (decide (b < a))) := pBin_i rfl
theorem pBin_ge {T : Nat} {k : IntKind} {a b : Int} {K : Value → Prop} : pBin P T .geq (.int k a) (.int k b) K ↔ K (.bool (decide (b ≤ a))) := pBin_i rfl
theorem pBin_eq {T : Nat} {k : IntKind} {a b : Int} {K : Value → Prop} : pBin P T .eql (.int k a) (.int k b) K ↔ K (.bool (decide (a = b))) := pBin_i rfl
theorem pBin_ne {T : Nat} {k : IntKind} {a b : Int} {K : Value → Prop} : pBin P T .neq (.int k a) (.int k b) K ↔ K (.bool (decide (a ≠ b))) :=
  pBin_i (by simp only [aint, bne, Option.some.injEq, Value.bool.injEq]; by_cases h : a = b <;> simp [h])
theorem pBin_add {T : Nat} {a b : Int} {K : Value → Prop} (h : -9223372036854775808 ≤ a + b ∧ a + b ≤ 9223372036854775807) : pBin P T .add (.int .i64 a) (.int .i64 b) K ↔ K (.int .i64 (a + b)) :=
  pBin_i (by simp only [aint, i64_in _ h])
theorem pBin_sub {T : Nat} {a b : Int} {K : Value → Prop} (h : -9223372036854775808 ≤ a - b ∧ a - b ≤ 9223372036854775807) : pBin P T .sub (.int .i64 a) (.int .i64 b) K ↔ K (.int .i64 (a - b)) :=
  pBin_i (by simp only [aint, i64_in _ h])
theorem pBin_mul {T : Nat} {a b : Int} {K : Value → Prop} (h : -9223372036854775808 ≤ a * b ∧ a * b ≤ 9223372036854775807) : pBin P T .mul (.int .i64 a) (.int .i64 b) K ↔ K (.int .i64 (a * b)) :=
  pBin_i (by simp only [aint, i64_in _ h])

theorem bytes_inj {a b : ByteArray} (h : a.toList = b.toList) : a = b := by
  rw [ByteArray.toList_eq, ByteArray.toList_eq] at h
  cases a; cases b
  simp only [ByteArray.mk.injEq]
  exact Array.toList_inj.1 h
theorem toList_eq {a b : ByteArray} : (a.toList == b.toList) = decide (a = b) := by
  have : a.toList = b.toList ↔ a = b := ⟨fun h => Go.Av.bytes_inj h, fun h => by rw [h]⟩
  by_cases h : a = b
  · subst h; simp
  · have h' : ¬ a.toList = b.toList := fun e => h (this.1 e)
    simp [h, h']
theorem pBin_s {T : Nat} {op : BinOp} {a b : ByteArray} {v : Value} {K : Value → Prop} (h : astr op a b = some v) : pBin P T op (.string a) (.string b) K ↔ K v :=
  ⟨fun ⟨_, h', hK⟩ => by rw [show abinT P T op (.string a) (.string b) = some v from h] at h'; cases h'; exact hK, fun hK => ⟨_, h, hK⟩⟩
theorem pBin_seq {T : Nat} {a b : ByteArray} {K : Value → Prop} : pBin P T .eql (.string a) (.string b) K ↔ K (.bool (decide (a = b))) := pBin_s (by simp only [astr, toList_eq])
theorem pBin_sne {T : Nat} {a b : ByteArray} {K : Value → Prop} : pBin P T .neq (.string a) (.string b) K ↔ K (.bool (decide (a ≠ b))) := pBin_s (by simp only [astr, toList_eq]; simp)
theorem pBin_b {T : Nat} {op : BinOp} {a b : Bool} {v : Value} {K : Value → Prop} (hT : P.underlying T = some .bool) (h : (match op with | .eql => some (Value.bool (a == b)) | .neq => some (.bool (!(a == b))) | _ => none) = some v) : pBin P T op (.bool a) (.bool b) K ↔ K v := by
  have e : abinT P T op (.bool a) (.bool b) = some v := by simp only [abinT, hT]; exact h
  exact ⟨fun ⟨_, h', hK⟩ => by rw [e] at h'; cases h'; exact hK, fun hK => ⟨_, e, hK⟩⟩

theorem pVal1 {n : Nat} {v : Value} {A : Prop} (h : v.oneCell' = true) : pVal false n v A ↔ A := ⟨fun h => h.2, fun hA => ⟨h, hA⟩⟩
theorem pValN {n : Nat} {cs : List Value} {A : Prop} (hl : cs.length = n) (h : ∀ c, c ∈ cs → c.oneCell' = true) : pVal true n (.agg ⟨cs⟩) A ↔ A := ⟨fun h => h.2, fun hA => ⟨⟨cs, rfl, hl, h⟩, hA⟩⟩
theorem cellOf_agg {cs : List Value} {i : Nat} : cellOf (.agg ⟨cs⟩) i = cs.getD i undef := rfl
theorem pStr1 {b : Nat} {K : Value → Prop} {n : Int} {c : Nat} (h : Av.get w0 σ ⟨b, 0, none⟩ = some (.int .u8 n)) (hK : K (.string (strOfNums [n]))) : pStr w0 (.slice (some ⟨b, 0, none⟩) 1 c) σ K :=
  .inr ⟨b, 0, 1, c, [n], rfl, rfl, (fun j hj => by
    have e : j = 0 := by omega
    subst e
    exact h), hK⟩

/-! ### Loops -/
theorem loop_rule {B : List Value → (AX → List Value → Vw → Prop) → Vw → Prop} {K : AX → List Value → Vw → Prop} (I : Nat → List Value → Vw → Prop)
    (step : ∀ m vs σ (L : List Value → Vw → Prop), I m vs σ → (∀ vs' σ', ∀ m', m' + 1 = m → I m' vs' σ' → L vs' σ') → B vs (fun e vs' σ' => match e with | .normal => L vs' σ' | .exit i => K (.exit i) vs' σ' | .ret => K .ret vs' σ') σ)
    {m : Nat} {vs : List Value} (h : I m vs σ) : pLoop B vs σ K := by
  refine ⟨m + 1, ?_⟩
  induction m generalizing vs σ with
  | zero => exact step 0 vs σ _ h (fun vs' σ' m' e => by omega)
  | succ m ih =>
    refine step (m + 1) vs σ _ h (fun vs' σ' m' e hI => ?_)
    have e : m' = m := by omega
    subst e
    exact ih hI

/-! ### Reading -/
theorem add_add (a : Addr) (i j : Nat) : (a.add i).add j = a.add (i + j) := by
  unfold Addr.add
  by_cases hi : i = 0
  · simp [hi]
  · by_cases hj : j = 0
    · simp [hj]
    · have : i + j ≠ 0 := by omega
      simp [hi, hj, this, Nat.add_assoc]

/-- A reader that reads no less. -/
def Le (rd rd' : Addr → Option Value) : Prop := ∀ a v, rd a = some v → rd' a = some v
theorem Le.refl (rd : Addr → Option Value) : Le rd rd := fun _ _ h => h
theorem Le.trans {rd rd' rd'' : Addr → Option Value} (h : Le rd rd') (h' : Le rd' rd'') : Le rd rd'' := fun a v ha => h' a v (h a v ha)
theorem Ext.le (hx : Ext σ σ') : Le (Av.get w0 σ) (Av.get w0 σ') := fun _ _ h => get_ext hx h

/-- What is read behind a slice: xs, each of n cells. -/
def RSl {α : Type} (n : Nat) (R : (Addr → Option Value) → List Value → α → Prop) (rd : Addr → Option Value) (v : Value) (xs : List α) : Prop :=
  ∃ A cap, v = .slice A xs.length cap ∧ (xs.length ≤ cap ∧ cap ≤ 9223372036854775807) ∧ ∀ (j : Nat) (x : α), xs[j]? = some x → ∃ a es, A = some a ∧ es.length = n ∧ (∀ i, i < n → rd (a.add (j * n + i)) = es[i]?) ∧ R rd es x

theorem RSl.mono {α : Type} {n : Nat} {R : (Addr → Option Value) → List Value → α → Prop} {rd rd' : Addr → Option Value} {v : Value} {xs : List α} (h : RSl n R rd v xs) (hx : Le rd rd') (hR : ∀ es x, R rd es x → R rd' es x) : RSl n R rd' v xs := by
  obtain ⟨A, cap, h1, h2, h3⟩ := h
  refine ⟨A, cap, h1, h2, fun j x hj => ?_⟩
  obtain ⟨a, es, h4, h5, h6, h7⟩ := h3 j x hj
  refine ⟨a, es, h4, h5, fun i hi => ?_, hR _ _ h7⟩
  have := h6 i hi
  have hlt : i < es.length := by omega
  rw [List.getElem?_eq_getElem hlt] at this ⊢
  exact hx _ _ this

theorem RSl.len {α : Type} {n : Nat} {R : (Addr → Option Value) → List Value → α → Prop} {rd : Addr → Option Value} {v : Value} {xs : List α} (h : RSl n R rd v xs) {K : Value → Prop} : pLen v K ↔ K (.int .i64 xs.length) := by
  obtain ⟨A, cap, rfl, _⟩ := h
  exact pLen_s

/-- An element is read. -/
theorem RSl.at {α : Type} {n : Nat} {R : (Addr → Option Value) → List Value → α → Prop} {v : Value} {xs : List α} (h : RSl n R (Av.get w0 σ) v xs) {j : Nat} {x : α} (hj : xs[j]? = some x) {K : (Nat → Value) → Prop} (hK : ∀ g : Nat → Value, R (Av.get w0 σ) (expl g 0 n) x → K g) :
    pIndexAddr n v (.int .i64 j) fun p => pLoad w0 n p σ K := by
  obtain ⟨A, cap, rfl, _, h3⟩ := h
  obtain ⟨a, es, rfl, h5, h6, h7⟩ := h3 j x hj
  have hlt : j < xs.length := (List.getElem?_eq_some_iff.1 hj).1
  refine ⟨a, xs.length, cap, .i64, j, rfl, rfl, by omega, by omega, a.add (j * n), fun i => es.getD i undef, rfl, fun i hi => ?_, hK _ ?_⟩
  · have := h6 i hi
    have hlt : i < es.length := by omega
    rw [add_add, this, List.getElem?_eq_getElem hlt]
    simp only [List.getD_eq_getElem?_getD, List.getElem?_eq_getElem hlt, Option.getD_some]
  · have : expl (fun i => es.getD i undef) 0 n = es := by
      apply List.ext_getElem?
      intro i
      by_cases hi : i < n
      · rw [expl_get _ _ _ _ hi, Nat.zero_add, List.getD_eq_getElem?_getD]
        have hlt : i < es.length := by omega
        rw [List.getElem?_eq_getElem hlt]; rfl
      · rw [List.getElem?_eq_none (by rw [length_expl]; omega), List.getElem?_eq_none (by omega)]
    rw [this]; exact h7

/-- A text. -/
def RS (rd : Addr → Option Value) (cs : List Value) (s : ByteArray) : Prop := cs = [.string s] ∧ s.size ≤ 9223372036854775807
/-- A number. -/
def RI (rd : Addr → Option Value) (cs : List Value) (n : Int) : Prop := cs = [.int .i64 n] ∧ -9223372036854775808 ≤ n ∧ n ≤ 9223372036854775807
end
end Go.Av

/- The plain side, part 2: rows of our own. -/
set_option linter.unusedVariables false
set_option linter.unusedSimpArgs false
namespace Go.Av
open Go Go.RowKit

/-- Every row stays as it is; there may be new ones. -/
def Keeps (σ σ' : Vw) : Prop := ∀ b r, σ b = some r → σ' b = some r
theorem Keeps.refl (σ : Vw) : Keeps σ σ := fun _ _ h => h
theorem Keeps.trans {σ σ' σ'' : Vw} (h : Keeps σ σ') (h' : Keeps σ' σ'') : Keeps σ σ'' := fun b r hb => h' b r (h b r hb)
theorem Keeps.ext {σ σ' : Vw} (h : Keeps σ σ') : Ext σ σ' := fun b r hb => ⟨r, h b r hb, List.prefix_refl _⟩
theorem Keeps.le {w0 : World} {σ σ' : Vw} (h : Keeps σ σ') : Le (Av.get w0 σ) (Av.get w0 σ') := h.ext.le
theorem Keeps.stay {w0 : World} {σ σ' : Vw} {v : Value} {n : Nat} (h : Keeps σ σ') : Stay w0 σ σ' v n := fun a g _ hc j hj => h.le _ _ (hc j hj)
theorem Keeps.put {σ : Vw} {b : Nat} {r : Row} (h : σ b = none) : Keeps σ (σ.put b r) := fun i x hi => by
  have : i ≠ b := fun e => by rw [e, h] at hi; cases hi
  simp [Vw.put, this, hi]
/-- A new row is made, then others, then the first is written. -/
theorem Keeps.fill {σ σ' : Vw} {b : Nat} {r : Row} (h : Keeps σ σ') (hb : σ b = none) : Keeps σ (σ'.put b r) := fun i x hi => by
  have : i ≠ b := fun e => by rw [e, hb] at hi; cases hi
  simp [Vw.put, this, h i x hi]
theorem put_at {σ : Vw} {b : Nat} {r : Row} : σ.put b r b = some r := by simp [Vw.put]
theorem put_put {σ : Vw} {b : Nat} {r r' : Row} : (σ.put b r).put b r' = σ.put b r' := by
  funext i; simp only [Vw.put]; split <;> rfl

theorem get_row {w0 : World} {σ : Vw} {b off : Nat} {r : Row} (hb : w0.heap.size ≤ b) (h : σ b = some r) : Av.get w0 σ ⟨b, off, none⟩ = r.cells[off]? := by
  unfold Av.get
  simp only
  rw [if_neg (by omega), if_pos trivial, h]; rfl

theorem addr_add (b off i : Nat) : (Addr.mk b off none).add i = ⟨b, off + i, none⟩ := by
  unfold Addr.add
  split
  · rename_i h; subst h; rfl
  · rfl

theorem setAt_mid : ∀ (A old new C : List Value), old.length = new.length → setAt (A ++ (old ++ C)) A.length new = A ++ (new ++ C)
  | A, [], [], C, _ => by simp [setAt]
  | A, [], _ :: _, C, h => by simp at h
  | A, _ :: _, [], C, h => by simp at h
  | A, o :: old, n :: new, C, h => by
    simp only [setAt]
    have e : (A ++ (o :: old ++ C)).set A.length n = (A ++ [n]) ++ (old ++ C) := by simp
    rw [e]
    have := setAt_mid (A ++ [n]) old new C (by simpa using h)
    simp only [List.length_append, List.length_singleton] at this
    rw [this]
    simp

section
variable {w0 : World} {σ : Vw}

theorem flat_len {n : Nat} : ∀ (xs : List (List Value)), (∀ c, c ∈ xs → c.length = n) → xs.flatten.length = xs.length * n
  | [], _ => by simp
  | c :: r, h => by
    have := flat_len r (fun d hd => h d (List.mem_cons_of_mem _ hd))
    simp only [List.flatten_cons, List.length_append, List.length_cons, this, h c List.mem_cons_self]
    rw [Nat.add_mul, Nat.one_mul, Nat.add_comm]

theorem flat_get {n : Nat} : ∀ (xs : List (List Value)), (∀ c, c ∈ xs → c.length = n) → ∀ (j : Nat) (c : List Value), xs[j]? = some c → ∀ i, i < n → xs.flatten[j * n + i]? = c[i]?
  | [], _, j, c, hj, i, hi => by simp at hj
  | d :: r, h, 0, c, hj, i, hi => by
    simp at hj; subst hj
    have := h d List.mem_cons_self
    rw [List.flatten_cons, Nat.zero_mul, Nat.zero_add, List.getElem?_append_left (by omega)]
  | d :: r, h, j + 1, c, hj, i, hi => by
    have hd := h d List.mem_cons_self
    rw [List.flatten_cons, Nat.add_mul, Nat.one_mul, List.getElem?_append_right (by omega)]
    have := flat_get r (fun d hd => h d (List.mem_cons_of_mem _ hd)) j c (by simpa using hj) i hi
    rw [← this]
    congr 1
    omega

/-- What lies in a row of our own can be read. -/
theorem RSl.own {α : Type} {n : Nat} {R : (Addr → Option Value) → List Value → α → Prop} {b cap : Nat} {r : Row} {xs : List α} {cs : List (List Value)} {tail : List Value} (hb : w0.heap.size ≤ b) (hr : σ b = some r) (hc : r.cells = cs.flatten ++ tail) (hn : ∀ c, c ∈ cs → c.length = n)
    (hl : cs.length = xs.length) (hm : xs.length ≤ cap ∧ cap ≤ 9223372036854775807) (hR : ∀ (j : Nat) (c : List Value) (x : α), cs[j]? = some c → xs[j]? = some x → R (Av.get w0 σ) c x) : RSl n R (Av.get w0 σ) (.slice (some ⟨b, 0, none⟩) xs.length cap) xs := by
  refine ⟨_, cap, rfl, hm, fun j x hj => ?_⟩
  have hlt : j < cs.length := by have := (List.getElem?_eq_some_iff.1 hj).1; omega
  have hcj := List.getElem?_eq_getElem hlt
  refine ⟨_, cs[j], rfl, hn _ (List.getElem_mem hlt), fun i hi => ?_, hR j _ x hcj hj⟩
  rw [addr_add, get_row hb hr, Nat.zero_add, hc, ← flat_get cs hn j _ hcj i hi, List.getElem?_append_left]
  rw [flat_len cs hn]
  calc j * n + i < j * n + n := by omega
    _ = (j + 1) * n := by rw [Nat.add_mul, Nat.one_mul]
    _ ≤ cs.length * n := Nat.mul_le_mul_right n hlt

/-- An element of a row of our own is written. -/
theorem own_store {b cap len : Nat} {j n : Nat} {r : Row} {A old new C : List Value} (hr : σ b = some r) (hc : r.cells = A ++ (old ++ C)) (hA : A.length = j * n) (ho : old.length = new.length) (hn : new.length = n) (hj : j < len) {K : Vw → Prop}
    (hK : K (σ.put b { r with cells := A ++ (new ++ C) })) : pIndexAddr n (.slice (some ⟨b, 0, none⟩) len cap) (.int .i64 j) fun p => pStore p new σ K := by
  refine ⟨_, len, cap, .i64, j, rfl, rfl, by omega, by omega, b, j * n, r, by rw [addr_add]; simp, hr, ?_, ?_⟩
  · rw [hc]; simp only [List.length_append]; omega
  · rw [hc, ← hA, setAt_mid _ _ _ _ ho]; exact hK

theorem RSl.one {α : Type} {n : Nat} {R : (Addr → Option Value) → List Value → α → Prop} {rd : Addr → Option Value} {v : Value} {xs : List α} (h : RSl n R rd v xs) : v.oneCell' = true := by
  obtain ⟨A, cap, rfl, _⟩ := h
  rfl
theorem RSl.le {α : Type} {n : Nat} {R : (Addr → Option Value) → List Value → α → Prop} {rd : Addr → Option Value} {v : Value} {xs : List α} (h : RSl n R rd v xs) : xs.length ≤ 9223372036854775807 := by
  obtain ⟨_, _, _, h2, _⟩ := h; exact Nat.le_trans h2.1 h2.2
theorem pVal_1 {v : Value} {A : Prop} (h : v.oneCell' = true) : pVal true 1 (.agg ⟨[v]⟩) A ↔ A := pValN rfl (by simpa using h)
theorem pVal_2 {v v' : Value} {A : Prop} (h : v.oneCell' = true) (h' : v'.oneCell' = true) : pVal true 2 (.agg ⟨[v, v']⟩) A ↔ A := pValN rfl (by simp [h, h'])
theorem pVal_3 {v v' v'' : Value} {A : Prop} (h : v.oneCell' = true) (h' : v'.oneCell' = true) (h'' : v''.oneCell' = true) : pVal true 3 (.agg ⟨[v, v', v'']⟩) A ↔ A := pValN rfl (by simp [h, h', h''])

theorem pMake_s {ety n bytes m : Nat} {z : List Value} {K : Value → Vw → Prop} (hm : bytes * m ≤ 140737488355328) (hm2 : m ≤ 9223372036854775807) (hK : ∀ b e, w0.heap.size ≤ b → σ b = none → K (.slice (some ⟨b, 0, none⟩) m m) (σ.put b ⟨e, (List.replicate m z).flatten, m * n, (0, 0)⟩)) :
    pMake w0 ety n bytes z (.int .i64 m) (.int .i64 m) σ K := by
  refine ⟨.i64, m, rfl, rfl, by omega, by omega, ?_, fun b h1 h2 => ?_⟩
  · have : ((bytes * m : Nat) : Int) ≤ 2 ^ 47 := by
      rw [show (2 : Int) ^ 47 = 140737488355328 by decide]; omega
    simpa using this
  · have := hK b ety h1 h2
    simpa using this
end
end Go.Av

/- The lists of structs, whatever their element: their size, their comparison. -/
set_option linter.unusedVariables false
set_option linter.unusedSimpArgs false
namespace Go.Av
open Go Go.RowKit

/-- What is left of n. -/
def left (n : Int) (t : Nat) : Int := if n - t < 0 then -1 else n - t
theorem left_neg {n : Int} {t : Nat} : left n t < 0 ↔ n < t := by unfold left; split <;> omega
theorem left_low {n : Int} {t : Nat} (h : n < t) : left n t = -1 := by unfold left; rw [if_pos (by omega)]
theorem left_in {n : Int} {t : Nat} (h : (t : Int) ≤ n) : left n t = n - t := by unfold left; rw [if_neg (by omega)]

def sumBy {α : Type} (f : α → Nat) : List α → Nat
  | [] => 0
  | s :: r => f s + sumBy f r
theorem sumBy_take {α : Type} {f : α → Nat} {xs : List α} : ∀ {j : Nat} {x : α}, xs[j]? = some x → sumBy f (xs.take (j + 1)) = sumBy f (xs.take j) + f x := by
  induction xs with
  | nil => intro j x h; simp at h
  | cons a r ih =>
    intro j x h
    cases j with
    | zero => simp at h; subst h; simp [sumBy]
    | succ j =>
      simp at h
      have := ih h
      simp only [List.take_succ_cons, sumBy, this]
      omega
theorem sumBy_le {α : Type} {f : α → Nat} {xs : List α} : ∀ (j : Nat), sumBy f (xs.take j) ≤ sumBy f xs := by
  induction xs with
  | nil => intro j; simp [sumBy]
  | cons a r ih =>
    intro j
    cases j with
    | zero => simp [sumBy]
    | succ j => have := ih j; simp only [List.take_succ_cons, sumBy]; omega

section
variable {P : Program} {w0 : World} {σ : Vw} {α : Type}

def VszS (P : Program) (w0 : World) (T n f : Nat) (a0 a1 : Value) (σ : Vw) (R : Value → Vw → Prop) : Prop :=
  pLen a0 (fun v0 => pBin P T .sub a1 v0 (fun v1 => pBin P T .lss v1 (.int .i64 0) (fun v2 => pIf v2 (R (.int .i64 (-1)) σ) (pLoop (fun l3 K4 s5 => pLen (vget l3 0) (fun v6 => pBin P T .lss (vget l3 3) v6 (fun v7 => pIf v7
    (pIndexAddr n (vget l3 0) (vget l3 3) (fun v8 => pLoad w0 n v8 s5 (fun g9 => AC P w0 f [.agg ⟨expl g9 0 n⟩, vget l3 1] s5 (fun v10 s11 => pBin P T .lss v10 (.int .i64 0) (fun v12 => pIf v12 (K4 .ret [vget l3 0, v10, .int .i64 (-1), vget l3 3] s11)
      (pBin P T .add (vget l3 3) (.int .i64 1) (fun v13 => K4 .normal [vget l3 0, v10, vget l3 2, v13] s11))))))) (K4 (.exit 0) [vget l3 0, vget l3 1, vget l3 2, vget l3 3] s5)))) [a0, v1, .int .i64 0, .int .i64 0] σ
    (fun x14 l15 s16 => match x14 with | .normal => R (vget l15 1) s16 | .ret => R (vget l15 2) s16 | .exit i17 => (match Nat.beq i17 0 with | true => R (vget l15 1) s16 | false => False))))))

theorem szS_gen {T n f : Nat} {Rel : (Addr → Option Value) → List Value → α → Prop} {sz : α → Nat} {v : Value} {xs : List α} {m : Int}
    (hf : ∀ x, x ∈ xs → ∀ (es : List Value) (m : Int) (R' : Value → Vw → Prop), Rel (Av.get w0 σ) es x → 0 ≤ m ∧ m ≤ 9223372036854775807 → R' (.int .i64 (left m (sz x))) σ → AC P w0 f [.agg ⟨es⟩, .int .i64 m] σ R')
    (h : RSl n Rel (Av.get w0 σ) v xs) (hn : 0 ≤ m ∧ m ≤ 9223372036854775807) {R : Value → Vw → Prop} (hR : R (.int .i64 (left m (xs.length + sumBy sz xs))) σ) : VszS P w0 T n f v (.int .i64 m) σ R := by
  unfold VszS
  have hl := h.le
  rw [h.len, pBin_sub (by omega), pBin_lt, pIf_d]
  refine ⟨fun hlt => ?_, fun hge => ?_⟩
  · rw [left_low (by omega)] at hR; exact hR
  · refine loop_rule (m := xs.length) (fun k l s => ∃ j, s = σ ∧ k + j = xs.length ∧ 0 ≤ m - xs.length - sumBy sz (xs.take j) ∧ l = [v, .int .i64 (m - xs.length - sumBy sz (xs.take j)), .int .i64 0, .int .i64 (j : Nat)]) ?_ ⟨0, rfl, by omega, by simp [sumBy]; omega, by simp [sumBy]⟩
    rintro k l s L ⟨j, rfl, hm, h0, rfl⟩ hL
    simp only [vget, List.getD_cons_zero, List.getD_cons_succ]
    rw [h.len, pBin_lt, pIf_d]
    refine ⟨fun hj => ?_, fun hj => ?_⟩
    · have hj' : j < xs.length := by omega
      have hx := List.getElem?_eq_getElem hj'
      refine h.at hx fun g hg => ?_
      have ht := sumBy_take (f := sz) hx
      have hle := sumBy_le (f := sz) (xs := xs) (j + 1)
      refine hf _ (List.getElem_mem hj') _ _ _ hg (by omega) ?_
      rw [pBin_lt, pIf_d]
      refine ⟨fun hlt => ?_, fun hge => ?_⟩
      · rw [left_neg] at hlt
        rw [left_low (by omega)] at hR; exact hR
      · rw [left_neg] at hge
        rw [pBin_add (by omega), left_in (by omega)]
        refine hL _ _ (k - 1) (by omega) ⟨j + 1, rfl, by omega, by omega, ?_⟩
        rw [ht]
        congr 2
        · congr 1; omega
    · have hj' : j = xs.length := by omega
      subst hj'
      rw [List.take_length] at h0 ⊢
      rw [left_in (by omega)] at hR
      rw [show m - (xs.length : Int) - (sumBy sz xs : Int) = m - ((xs.length + sumBy sz xs : Nat) : Int) by omega]
      exact hR

def VeqS (P : Program) (w0 : World) (T n f : Nat) (a0 a1 : Value) (σ : Vw) (R : Value → Vw → Prop) : Prop :=
  pLen a0 (fun v0 => pLen a1 (fun v1 => pBin P T .neq v0 v1 (fun v2 => pIf v2 (R (.bool false) σ) (pLoop (fun l3 K4 s5 => pLen (vget l3 0) (fun v6 => pBin P T .lss (vget l3 3) v6 (fun v7 => pIf v7
    (pIndexAddr n (vget l3 0) (vget l3 3) (fun v8 => pLoad w0 n v8 s5 (fun g9 => pIndexAddr n (vget l3 1) (vget l3 3) (fun v10 => pLoad w0 n v10 s5 (fun g11 => AC P w0 f [.agg ⟨expl g9 0 n⟩, .agg ⟨expl g11 0 n⟩] s5 (fun v12 s13 => pUn .not v12 (fun v14 => pIf v14
      (K4 .ret [vget l3 0, vget l3 1, .bool false, vget l3 3] s13) (pBin P T .add (vget l3 3) (.int .i64 1) (fun v15 => K4 .normal [vget l3 0, vget l3 1, vget l3 2, v15] s13))))))))) (K4 (.exit 0) [vget l3 0, vget l3 1, vget l3 2, vget l3 3] s5)))) [a0, a1, .bool false, .int .i64 0] σ
    (fun x16 l17 s18 => match x16 with | .normal => R (.bool true) s18 | .ret => R (vget l17 2) s18 | .exit i19 => (match Nat.beq i19 0 with | true => R (.bool true) s18 | false => False))))))

theorem eqS_gen [DecidableEq α] {T n f : Nat} {Rel : (Addr → Option Value) → List Value → α → Prop} {v v' : Value} {xs ys : List α}
    (hf : ∀ x, x ∈ xs → ∀ (y : α) (es es' : List Value) (R' : Value → Vw → Prop), Rel (Av.get w0 σ) es x → Rel (Av.get w0 σ) es' y → R' (.bool (decide (x = y))) σ → AC P w0 f [.agg ⟨es⟩, .agg ⟨es'⟩] σ R')
    (h : RSl n Rel (Av.get w0 σ) v xs) (h' : RSl n Rel (Av.get w0 σ) v' ys) {R : Value → Vw → Prop} (hR : R (.bool (decide (xs = ys))) σ) : VeqS P w0 T n f v v' σ R := by
  unfold VeqS
  have hl := h.le
  rw [h.len, h'.len, pBin_ne, pIf_d]
  refine ⟨fun hne => ?_, fun heq => ?_⟩
  · have : xs ≠ ys := fun e => hne (by rw [e])
    simpa [this] using hR
  · have hlen : xs.length = ys.length := by omega
    refine loop_rule (m := xs.length) (fun m l s => ∃ j, s = σ ∧ m + j = xs.length ∧ xs.take j = ys.take j ∧ l = [v, v', .bool false, .int .i64 (j : Nat)]) ?_ ⟨0, rfl, by omega, by simp, rfl⟩
    rintro m l s L ⟨j, rfl, hm, ht, rfl⟩ hL
    simp only [vget, List.getD_cons_zero, List.getD_cons_succ]
    rw [h.len, pBin_lt, pIf_d]
    refine ⟨fun hj => ?_, fun hj => ?_⟩
    · have hj' : j < xs.length := by omega
      have hx := List.getElem?_eq_getElem hj'
      have hy := List.getElem?_eq_getElem (show j < ys.length by omega)
      refine h.at hx fun g hg => ?_
      refine h'.at hy fun g' hg' => ?_
      refine hf _ (List.getElem_mem hj') _ _ _ _ hg hg' ?_
      rw [pUn_not, pIf_b]
      by_cases e : xs[j] = ys[j]
      · refine ⟨fun h => by simp [e] at h, fun _ => ?_⟩
        rw [pBin_add (by omega)]
        refine hL _ _ (m - 1) (by omega) ⟨j + 1, rfl, by omega, ?_, rfl⟩
        rw [List.take_add_one, List.take_add_one, hx, hy, ht, e]
      · refine ⟨fun _ => ?_, fun h => by simp [e] at h⟩
        have : xs ≠ ys := fun e' => by subst e'; exact e rfl
        simpa [this] using hR
    · have hj' : j = xs.length := by omega
      subst hj'
      rw [List.take_length, hlen, List.take_length] at ht
      subst ht
      simpa using hR
end
end Go.Av

/- Lists that lie in rows of our own, each part in rows of its own; the copy of a list of structs. -/
set_option linter.unusedVariables false
set_option linter.unusedSimpArgs false
namespace Go.Av
open Go Go.RowKit

section
variable {P : Program} {w0 : World} {σ σ' : Vw} {α : Type}

/-- What a rule for parts in rows of our own must keep. -/
structure OOk (w0 : World) (n : Nat) (Rel : (Addr → Option Value) → List Value → α → Prop) (O : Vw → List Nat → List Value → α → Prop) : Prop where
  rel : ∀ σ F es x, O σ F es x → Rel (Av.get w0 σ) es x
  frame : ∀ σ σ' F es x, O σ F es x → (∀ b, b ∈ F → σ' b = σ b) → O σ' F es x
  dom : ∀ σ F es x, O σ F es x → ∀ b, b ∈ F → w0.heap.size ≤ b ∧ σ b ≠ none
  nodup : ∀ σ F es x, O σ F es x → F.Nodup
  len : ∀ σ F es x, O σ F es x → es.length = n
  one : ∀ σ F es x, O σ F es x → ∀ c, c ∈ es → c.oneCell' = true

/-- A list in a row of our own, the elements' own parts in other rows. -/
def OSl (w0 : World) (n : Nat) (O : Vw → List Nat → List Value → α → Prop) (σ : Vw) (F : List Nat) (v : Value) (xs : List α) : Prop :=
  xs.length ≤ 9223372036854775807 ∧ F.Nodup ∧ ((v = .slice none 0 0 ∧ xs = [] ∧ F = []) ∨
  ∃ (b off cap : Nat) (r : Row) (pre post : List Value) (css : List (List Value)) (Fs : List (List Nat)), v = .slice (some ⟨b, off, none⟩) xs.length cap ∧ (xs.length ≤ cap ∧ cap ≤ 9223372036854775807) ∧ w0.heap.size ≤ b ∧ σ b = some r ∧ r.cells = pre ++ (css.flatten ++ post) ∧ pre.length = off ∧
    css.length = xs.length ∧ Fs.length = xs.length ∧ F = b :: Fs.flatten ∧ ∀ (j : Nat) (c : List Value) (x : α) (f : List Nat), css[j]? = some c → xs[j]? = some x → Fs[j]? = some f → O σ f c x)

theorem mem_flat {l : List (List Nat)} {b : Nat} (h : b ∈ l.flatten) : ∃ (j : Nat) (f : List Nat), l[j]? = some f ∧ b ∈ f := by
  obtain ⟨f, h1, h2⟩ := List.mem_flatten.1 h
  obtain ⟨j, hj⟩ := List.getElem?_of_mem h1
  exact ⟨j, f, hj, h2⟩

theorem OSl.frame {n : Nat} {Rel : (Addr → Option Value) → List Value → α → Prop} {O : Vw → List Nat → List Value → α → Prop} (ok : OOk w0 n Rel O) {F : List Nat} {v : Value} {xs : List α} (h : OSl w0 n O σ F v xs) (hF : ∀ b, b ∈ F → σ' b = σ b) : OSl w0 n O σ' F v xs := by
  obtain ⟨h1, h2, h3 | ⟨b, off, cap, r, pre, post, css, Fs, g1, gc, g2, g3, g4, g5, g6, g7, g8, g9⟩⟩ := h
  · exact ⟨h1, h2, .inl h3⟩
  · refine ⟨h1, h2, .inr ⟨b, off, cap, r, pre, post, css, Fs, g1, gc, g2, ?_, g4, g5, g6, g7, g8, fun j c x f e1 e2 e3 => ?_⟩⟩
    · rw [hF b (by rw [g8]; exact List.mem_cons_self)]; exact g3
    · refine ok.frame _ _ _ _ _ (g9 j c x f e1 e2 e3) fun i hi => hF i ?_
      rw [g8]
      exact List.mem_cons_of_mem _ (List.mem_flatten.2 ⟨f, List.mem_of_getElem? e3, hi⟩)

theorem OSl.dom {n : Nat} {Rel : (Addr → Option Value) → List Value → α → Prop} {O : Vw → List Nat → List Value → α → Prop} (ok : OOk w0 n Rel O) {F : List Nat} {v : Value} {xs : List α} (h : OSl w0 n O σ F v xs) : ∀ b, b ∈ F → w0.heap.size ≤ b ∧ σ b ≠ none := by
  obtain ⟨h1, h2, ⟨_, _, h3⟩ | ⟨b, off, cap, r, pre, post, css, Fs, g1, gc, g2, g3, g4, g5, g6, g7, g8, g9⟩⟩ := h
  · rw [h3]; intro b hb; cases hb
  · rw [g8]
    intro i hi
    rcases List.mem_cons.1 hi with e | e
    · rw [e]; exact ⟨g2, by rw [g3]; simp⟩
    · obtain ⟨j, f, e1, e2⟩ := mem_flat e
      have hj : j < Fs.length := (List.getElem?_eq_some_iff.1 e1).1
      exact ok.dom _ _ _ _ (g9 j _ _ f (List.getElem?_eq_getElem (by omega)) (List.getElem?_eq_getElem (by omega)) e1) i e2

theorem OSl.rel {n : Nat} {Rel : (Addr → Option Value) → List Value → α → Prop} {O : Vw → List Nat → List Value → α → Prop} (ok : OOk w0 n Rel O) {F : List Nat} {v : Value} {xs : List α} (h : OSl w0 n O σ F v xs) : RSl n Rel (Av.get w0 σ) v xs := by
  obtain ⟨h1, h2, ⟨rfl, rfl, _⟩ | ⟨b, off, cap, r, pre, post, css, Fs, rfl, gc, g2, g3, g4, g5, g6, g7, g8, g9⟩⟩ := h
  · exact ⟨none, 0, rfl, by simp, fun j x hj => by simp at hj⟩
  · have each : ∀ (j : Nat) (c : List Value), css[j]? = some c → c.length = n := fun j c hj => by
      have hlt : j < css.length := (List.getElem?_eq_some_iff.1 hj).1
      exact ok.len _ _ _ _ (g9 j c _ _ hj (List.getElem?_eq_getElem (by omega)) (List.getElem?_eq_getElem (by omega)))
    have hn : ∀ c, c ∈ css → c.length = n := fun c hc => by obtain ⟨j, hj⟩ := List.getElem?_of_mem hc; exact each j c hj
    refine ⟨_, cap, rfl, gc, fun j x hj => ?_⟩
    have hlt : j < css.length := by have := (List.getElem?_eq_some_iff.1 hj).1; omega
    have hcj := List.getElem?_eq_getElem hlt
    refine ⟨_, css[j], rfl, each j _ hcj, fun i hi => ?_, ok.rel _ _ _ _ (g9 j _ x _ hcj hj (List.getElem?_eq_getElem (by omega)))⟩
    rw [addr_add, get_row g2 g3, g4, List.getElem?_append_right (by omega)]
    rw [show off + (j * n + i) - pre.length = j * n + i by omega, List.getElem?_append_left, flat_get css hn j _ hcj i hi]
    rw [flat_len css hn]
    calc j * n + i < j * n + n := by omega
      _ = (j + 1) * n := by rw [Nat.add_mul, Nat.one_mul]
      _ ≤ css.length * n := Nat.mul_le_mul_right n hlt

def VtoS (P : Program) (w0 : World) (T ety n bytes f : Nat) (z : List Value) (a0 : Value) (σ : Vw) (R : Value → Vw → Prop) : Prop :=
  pLen a0 (fun v0 => pMake w0 ety n bytes z v0 v0 σ (fun v1 s2 => pLoop (fun l3 K4 s5 => pLen (vget l3 0) (fun v6 => pBin P T .lss (vget l3 2) v6 (fun v7 => pIf v7
    (pIndexAddr n (vget l3 0) (vget l3 2) (fun v8 => pLoad w0 n v8 s5 (fun g9 => AC P w0 f [.agg ⟨expl g9 0 n⟩] s5 (fun v10 s11 => pIndexAddr n (vget l3 1) (vget l3 2) (fun v12 => pVal true n v10 (pStore v12 (spread n v10) s11
      (fun s13 => pBin P T .add (vget l3 2) (.int .i64 1) (fun v14 => K4 .normal [vget l3 0, vget l3 1, v14] s13)))))))) (K4 (.exit 0) [vget l3 0, vget l3 1, vget l3 2] s5)))) [a0, v1, .int .i64 0] s2
    (fun x15 l16 s17 => match x15 with | .normal => R (vget l16 1) s17 | .ret => False | .exit i18 => (match Nat.beq i18 0 with | true => R (vget l16 1) s17 | false => False))))

theorem toS_gen {T ety n bytes f : Nat} {z : List Value} (hz : z.length = n) {Rel : (Addr → Option Value) → List Value → α → Prop} {O : Vw → List Nat → List Value → α → Prop} (ok : OOk w0 n Rel O) (hmono : ∀ rd rd' es x, Le rd rd' → Rel rd es x → Rel rd' es x) {v : Value} {xs : List α}
    (hf : ∀ x, x ∈ xs → ∀ (s : Vw) (es : List Value) (R' : Value → Vw → Prop), Keeps σ s → Rel (Av.get w0 s) es x → (∀ es' F s', Keeps s s' → O s' F es' x → (∀ b, b ∈ F → s b = none) → R' (.agg ⟨es'⟩) s') → AC P w0 f [.agg ⟨es⟩] s R')
    (h : RSl n Rel (Av.get w0 σ) v xs) (hb : bytes * xs.length ≤ 140737488355328) {R : Value → Vw → Prop} (hR : ∀ v' F σ', Keeps σ σ' → OSl w0 n O σ' F v' xs → (∀ b, b ∈ F → σ b = none) → R v' σ') : VtoS P w0 T ety n bytes f z v σ R := by
  unfold VtoS
  have hl := h.le
  rw [h.len]
  refine pMake_s hb hl fun b e h1 h2 => ?_
  refine loop_rule (m := xs.length) (fun m l s => ∃ (j : Nat) (css : List (List Value)) (Fs : List (List Nat)), m + j = xs.length ∧ css.length = j ∧ Fs.length = j ∧ Keeps σ s ∧ s b = some ⟨e, css.flatten ++ (List.replicate m z).flatten, xs.length * n, (0, 0)⟩ ∧
    (∀ c, c ∈ css → c.length = n) ∧ (b :: Fs.flatten).Nodup ∧ (∀ i, i ∈ Fs.flatten → σ i = none ∧ s i ≠ none) ∧ (∀ (i : Nat) (c : List Value) (x : α) (f : List Nat), css[i]? = some c → xs[i]? = some x → Fs[i]? = some f → O s f c x) ∧ l = [v, .slice (some ⟨b, 0, none⟩) xs.length xs.length, .int .i64 (j : Nat)]) ?_
    ⟨0, [], [], by omega, rfl, rfl, Keeps.put h2, by simp [put_at], by simp, by simp, by simp, by simp, rfl⟩
  rintro m l s L ⟨j, css, Fs, hm, hc, hFs, hk, hrow, hcn, hnd, hdom, hO, rfl⟩ hL
  simp only [vget, List.getD_cons_zero, List.getD_cons_succ]
  rw [h.len, pBin_lt, pIf_d]
  refine ⟨fun hj => ?_, fun hj => ?_⟩
  · have hj' : j < xs.length := by omega
    have hx := List.getElem?_eq_getElem hj'
    refine RSl.at (h.mono hk.le fun es x => hmono _ _ _ _ hk.le) hx fun g hg => ?_
    refine hf _ (List.getElem_mem hj') s _ _ hk hg fun es' F s' hk' hO' hFn => ?_
    obtain ⟨m', rfl⟩ : ∃ m', m = m' + 1 := ⟨m - 1, by omega⟩
    have hlen := ok.len _ _ _ _ hO'
    have hsp : spread n (.agg ⟨es'⟩) = es' := by subst hlen; exact spread_agg es'
    have hrow' := hk' _ _ hrow
    have eV : ∀ A : Prop, pVal true n (.agg ⟨es'⟩) A = A := fun A => propext (pValN hlen (ok.one _ _ _ _ hO'))
    simp only [eV, hsp]
    refine own_store (r := ⟨e, css.flatten ++ (List.replicate (m' + 1) z).flatten, xs.length * n, (0, 0)⟩) (A := css.flatten) (old := z) (new := es') (C := (List.replicate m' z).flatten) hrow' (by simp [List.replicate_succ]) (by rw [flat_len css hcn, hc]) (by omega) hlen hj' ?_
    rw [pBin_add (by omega)]
    have hbF : b ∉ F := fun hbF => by rw [hFn b hbF] at hrow; cases hrow
    have hbFs : b ∉ Fs.flatten := (List.nodup_cons.1 hnd).1
    have hdisj : ∀ i, i ∈ Fs.flatten → i ∉ F := fun i hi hiF => (hdom i hi).2 (hFn i hiF)
    have hput : ∀ i, i ≠ b → (s'.put b { (⟨e, css.flatten ++ (List.replicate (m' + 1) z).flatten, xs.length * n, (0, 0)⟩ : Row) with cells := css.flatten ++ (es' ++ (List.replicate m' z).flatten) }) i = s' i := fun i hi => by simp [Vw.put, hi]
    refine hL _ _ m' rfl ⟨j + 1, css ++ [es'], Fs ++ [F], by omega, by simp [hc], by simp [hFs], (hk.trans hk').fill h2, ?_, ?_, ?_, ?_, ?_, rfl⟩
    · rw [put_at]; simp
    · intro c hc'
      rcases List.mem_append.1 hc' with h' | h'
      · exact hcn c h'
      · rw [List.mem_singleton.1 h']; exact hlen
    · have hFnd := ok.nodup _ _ _ _ hO'
      rw [List.flatten_append]
      simp only [List.flatten_cons, List.flatten_nil, List.append_nil]
      rw [List.nodup_cons]
      refine ⟨fun hm' => ?_, List.nodup_append.2 ⟨(List.nodup_cons.1 hnd).2, hFnd, fun a ha b' hb' e' => hdisj a ha (e' ▸ hb')⟩⟩
      rcases List.mem_append.1 hm' with h' | h'
      · exact hbFs h'
      · exact hbF h'
    · intro i hi
      rw [List.flatten_append] at hi
      simp only [List.flatten_cons, List.flatten_nil, List.append_nil] at hi
      rcases List.mem_append.1 hi with h' | h'
      · have hib : i ≠ b := fun e' => hbFs (e' ▸ h')
        refine ⟨(hdom i h').1, ?_⟩
        rw [hput i hib]
        cases hs : s i with
        | none => exact absurd hs (hdom i h').2
        | some r => rw [hk' i r hs]; simp
      · have hib : i ≠ b := fun e' => hbF (e' ▸ h')
        refine ⟨?_, by rw [hput i hib]; exact (ok.dom _ _ _ _ hO' i h').2⟩
        cases hs : σ i with
        | none => rfl
        | some r => have := hk i r hs; rw [hFn i h'] at this; cases this
    · intro i c x f' e1 e2 e3
      by_cases hi : i < j
      · rw [List.getElem?_append_left (by omega)] at e1 e3
        refine ok.frame _ _ _ _ _ (hO i c x f' e1 e2 e3) fun k hk2 => ?_
        have hkF : k ∈ Fs.flatten := List.mem_flatten.2 ⟨f', List.mem_of_getElem? e3, hk2⟩
        rw [hput k fun e' => hbFs (e' ▸ hkF)]
        cases hs : s k with
        | none => exact absurd hs (hdom k hkF).2
        | some r => exact hk' k r hs
      · have hij : i = j := by
          have := (List.getElem?_eq_some_iff.1 e1).1
          simp [hc] at this
          omega
        subst hij
        rw [List.getElem?_append_right (by omega)] at e1 e3
        simp [hc] at e1
        simp [hFs] at e3
        subst e1 e3
        rw [hx] at e2
        cases e2
        exact ok.frame _ _ _ _ _ hO' fun k hk2 => hput k fun e' => hbF (e' ▸ hk2)
  · have hj' : j = xs.length := by omega
    subst hj'
    have hm0 : m = 0 := by omega
    subst hm0
    refine hR _ (b :: Fs.flatten) s hk ⟨hl, hnd, .inr ⟨b, 0, xs.length, _, [], [], css, Fs, rfl, ⟨Nat.le_refl _, hl⟩, h1, hrow, by simp, rfl, hc, hFs, rfl, hO⟩⟩ fun i hi => ?_
    rcases List.mem_cons.1 hi with e' | e'
    · rw [e']; exact h2
    · exact (hdom i e').1
end
end Go.Av

/- What each function owes, reckoned out. MADE BY PROGRAM (emit.py). -/
set_option linter.unusedVariables false
namespace Go.Proofs.YtlbpnfhhoalenaaDoor
open Go Go.Av

abbrev t_int64 : Nat := 2
abbrev t_int : Nat := 3
abbrev t_bool : Nat := 4
abbrev t_uint8 : Nat := 5
abbrev t_abi_BoundsErrorCode : Nat := 6
abbrev t_runtime_boundsError : Nat := 8
abbrev t_string : Nat := 9
abbrev t_runtime_errorString : Nat := 10
abbrev t_runtime_plainError : Nat := 11
abbrev t_uintptr : Nat := 12
abbrev t_runtime_errorAddressString : Nat := 14
abbrev t_p_runtime_TypeAssertionError : Nat := 15
abbrev t_p_runtime_PanicNilError : Nat := 16
abbrev t_p_abi_Type : Nat := 17
abbrev t_maps_unhashableTypeError : Nat := 19
abbrev t_int32 : Nat := 21
abbrev t_s_string : Nat := 22
abbrev t_s_laws_Tree : Nat := 23
abbrev t_laws_Tree : Nat := 25
abbrev t_s_impl_Tree : Nat := 28
abbrev t_impl_Tree : Nat := 30
abbrev t_s_laws_Entry : Nat := 34
abbrev t_s_impl_Entry : Nat := 37
abbrev t_s_impl_Mark : Nat := 42
abbrev t_s_impl_Row : Nat := 48
abbrev t_laws_Entry : Nat := 67
abbrev t_impl_Entry : Nat := 69
abbrev t_p_strings_Builder : Nat := 72
abbrev t_s_uint8 : Nat := 73
abbrev t_strings_Builder : Nat := 75
abbrev t_error : Nat := 77
abbrev t_impl_Mark : Nat := 84
abbrev t_impl_Row : Nat := 96
abbrev t_p_uint8 : Nat := 112
abbrev t_unsafe_Pointer : Nat := 122
abbrev t_uint : Nat := 133
abbrev t_strconv_Error : Nat := 137
abbrev t_p_strconv_NumError : Nat := 140
abbrev t_a24_uint8 : Nat := 143
abbrev t_uint64 : Nat := 144
abbrev t_uint32 : Nat := 149
abbrev t_strconv_NumError : Nat := 155
abbrev t_a20_uint64 : Nat := 159
abbrev t_a65_uint8 : Nat := 160
abbrev t_a256_uint8 : Nat := 162
abbrev t_utf8_acceptRange : Nat := 164
abbrev t_a16_utf8_acceptRange : Nat := 165
abbrev t_p_errors_errorString : Nat := 167
abbrev t_errors_errorString : Nat := 169
abbrev t_a32_uint8 : Nat := 171
abbrev t_a64_uint8 : Nat := 172
abbrev t_runtime_TypeAssertionError : Nat := 174
abbrev t_a0_p_runtime_PanicNilError : Nat := 175
abbrev t_runtime_PanicNilError : Nat := 177
abbrev t_abi_TFlag : Nat := 178
abbrev t_abi_Kind : Nat := 179
abbrev t_abi_NameOff : Nat := 181
abbrev t_abi_TypeOff : Nat := 182
abbrev t_abi_Type : Nat := 184
abbrev n_laws_FnExactTreeShow : Nat := 3
abbrev n_laws_FnExactLayerWrite : Nat := 4
abbrev n_laws_FnExactTableId : Nat := 5
abbrev n_laws_FnExactTrailRead : Nat := 6
abbrev n_laws_FnExactTableMake : Nat := 7
abbrev n_laws_FnExactLayerRead : Nat := 8
abbrev n_laws_szTree : Nat := 9
abbrev n_spec_TreeShow : Nat := 10
abbrev n_laws_toTree : Nat := 11
abbrev n_impl_TreeShow : Nat := 12
abbrev n_laws_eqTree : Nat := 13
abbrev n_laws_szEntryS : Nat := 14
abbrev n_spec_LayerWrite : Nat := 15
abbrev n_laws_toEntryS : Nat := 16
abbrev n_impl_LayerWrite : Nat := 17
abbrev n_laws_eqEntryS : Nat := 18
abbrev n_spec_TableId : Nat := 19
abbrev n_impl_TableId : Nat := 20
abbrev n_spec_TrailRead : Nat := 21
abbrev n_impl_TrailRead : Nat := 22
abbrev n_laws_eqMarkS : Nat := 23
abbrev n_laws_markMarkS : Nat := 24
abbrev n_laws_heldMarkS : Nat := 25
abbrev n_spec_TableMake : Nat := 26
abbrev n_impl_TableMake : Nat := 27
abbrev n_laws_eqRowS : Nat := 28
abbrev n_laws_markTree : Nat := 29
abbrev n_laws_markRowS : Nat := 30
abbrev n_laws_heldRowS : Nat := 31
abbrev n_spec_LayerRead : Nat := 32
abbrev n_impl_LayerRead : Nat := 33
abbrev n_laws_markEntryS : Nat := 34
abbrev n_laws_heldEntryS : Nat := 35
abbrev n_laws_szStringS : Nat := 36
abbrev n_laws_szTreeS : Nat := 37
abbrev n_spec_TreeOk : Nat := 38
abbrev n_spec_l1Line : Nat := 39
abbrev n_spec_l1Show : Nat := 40
abbrev n_laws_toStringS : Nat := 41
abbrev n_laws_toTreeS : Nat := 42
abbrev n_impl_TreeOk : Nat := 43
abbrev n_impl_Tree_show : Nat := 44
abbrev n_laws_eqStringS : Nat := 45
abbrev n_laws_eqTreeS : Nat := 46
abbrev n_laws_szEntry : Nat := 47
abbrev n_spec_l3EntryOk : Nat := 48
abbrev n_spec_l3Text : Nat := 49
abbrev n_laws_toEntry : Nat := 50
abbrev n_impl_entryOk : Nat := 51
abbrev n_p_strings_Builder_WriteString : Nat := 52
abbrev n_impl_Entry_line : Nat := 53
abbrev n_p_strings_Builder_Len : Nat := 54
abbrev n_p_strings_Builder_String : Nat := 55
abbrev n_laws_eqEntry : Nat := 56
abbrev n_spec_l31Of : Nat := 57
abbrev n_impl_Tree_id : Nat := 58
abbrev n_spec_l1Cut : Nat := 59
abbrev n_spec_TrailOk : Nat := 60
abbrev n_spec_TrailShow : Nat := 61
abbrev n_spec_l11Copy : Nat := 62
abbrev n_impl_linesOf : Nat := 63
abbrev n_strings_Cut : Nat := 64
abbrev n_impl_pathRead : Nat := 65
abbrev n_impl_TrailOk : Nat := 66
abbrev n_impl_TrailShow : Nat := 67
abbrev n_laws_eqMark : Nat := 68
abbrev n_laws_markStringS : Nat := 69
abbrev n_laws_heldStringS : Nat := 70
abbrev n_spec_l31Rows : Nat := 71
abbrev n_impl_Tree_table : Nat := 72
abbrev n_laws_eqRow : Nat := 73
abbrev n_laws_markTreeS : Nat := 74
abbrev n_laws_markText : Nat := 75
abbrev n_spec_l3Line : Nat := 76
abbrev n_strings_Split : Nat := 77
abbrev n_impl_numRead : Nat := 78
abbrev n_impl_dataRead : Nat := 79
abbrev n_spec_l1Parts : Nat := 80
abbrev n_spec_l1Count : Nat := 81
abbrev n_spec_l1Dec : Nat := 82
abbrev n_spec_l1Hex : Nat := 83
abbrev n_impl_Tree_sound : Nat := 84
abbrev n_impl_Tree_paths : Nat := 85
abbrev n_impl_Tree_each : Nat := 86
abbrev n_impl_Tree_show_c1 : Nat := 87
abbrev n_impl_Tree_line : Nat := 88
abbrev n_spec_l2PathOk : Nat := 89
abbrev n_spec_l1In : Nat := 90
abbrev n_spec_l3Name : Nat := 91
abbrev n_impl_namesOk : Nat := 92
abbrev n_impl_modeOk : Nat := 93
abbrev n_p_strings_Builder_copyCheck : Nat := 94
abbrev n_impl_pathText : Nat := 95
abbrev n_strconv_Itoa : Nat := 96
abbrev n_impl_dataText : Nat := 97
abbrev n_spec_l31Id : Nat := 98
abbrev n_spec_l11MarkOk : Nat := 99
abbrev n_spec_l11Less : Nat := 100
abbrev n_spec_l2Within : Nat := 101
abbrev n_spec_l11Text : Nat := 102
abbrev n_internal_stringslite_Cut : Nat := 103
abbrev n_strings_TrimPrefix : Nat := 104
abbrev n_impl_markOk : Nat := 105
abbrev n_slices_Compare_string_string : Nat := 106
abbrev n_impl_under : Nat := 107
abbrev n_spec_l3Path : Nat := 108
abbrev n_impl_Tree_table_c1 : Nat := 109
abbrev n_spec_l3Mode : Nat := 110
abbrev n_spec_l1Bytes : Nat := 111
abbrev n_strings_genSplit : Nat := 112
abbrev n_strconv_Atoi : Nat := 113
abbrev n_impl_unhex : Nat := 114
abbrev n_spec_l1Plain : Nat := 115
abbrev n_impl_nameOk : Nat := 116
abbrev n_impl_below : Nat := 117
abbrev n_spec_l1NameOk : Nat := 118
abbrev n_impl_within : Nat := 119
abbrev n_internal_abi_NoEscape : Nat := 120
abbrev n_strings_Join : Nat := 121
abbrev n_internal_strconv_Itoa : Nat := 122
abbrev n_impl_hexOf : Nat := 123
abbrev n_internal_stringslite_Index : Nat := 124
abbrev n_internal_stringslite_TrimPrefix : Nat := 125
abbrev n_cmp_Compare_string : Nat := 126
abbrev n_impl_begins : Nat := 127
abbrev n_spec_l1Digit : Nat := 128
abbrev n_strings_explode : Nat := 129
abbrev n_strings_Count : Nat := 130
abbrev n_strings_Index : Nat := 131
abbrev n_internal_strconv_Atoi : Nat := 132
abbrev n_strconv_toError : Nat := 133
abbrev n_impl_nibble : Nat := 134
abbrev n_p_strings_Builder_Grow : Nat := 135
abbrev n_internal_strconv_FormatInt : Nat := 136
abbrev n_internal_stringslite_IndexByte : Nat := 137
abbrev n_internal_bytealg_IndexString : Nat := 138
abbrev n_internal_bytealg_Cutover : Nat := 139
abbrev n_internal_bytealg_IndexRabinKarp_string : Nat := 140
abbrev n_internal_stringslite_HasPrefix : Nat := 141
abbrev n_cmp_isNaN_string : Nat := 142
abbrev n_unicode_utf8_RuneCountInString : Nat := 143
abbrev n_unicode_utf8_DecodeRuneInString : Nat := 144
abbrev n_internal_bytealg_CountString : Nat := 145
abbrev n_internal_strconv_ParseInt : Nat := 146
abbrev n_strconv_syntaxError : Nat := 147
abbrev n_strconv_rangeError : Nat := 148
abbrev n_strconv_baseError : Nat := 149
abbrev n_strconv_bitSizeError : Nat := 150
abbrev n_p_strings_Builder_grow : Nat := 151
abbrev n_internal_strconv_small : Nat := 152
abbrev n_internal_strconv_numDigits : Nat := 153
abbrev n_internal_strconv_formatBase10 : Nat := 154
abbrev n_internal_strconv_formatBits : Nat := 155
abbrev n_internal_bytealg_IndexByteString : Nat := 156
abbrev n_internal_bytealg_hashStr_string : Nat := 157
abbrev n_unicode_utf8_decodeRuneInStringSlow : Nat := 158
abbrev n_internal_strconv_ParseUint : Nat := 159
abbrev n_internal_stringslite_Clone : Nat := 160
abbrev n_errors_New : Nat := 161
abbrev n_internal_bytealg_MakeNoZero : Nat := 162
abbrev n_internal_strconv_log10Pow2 : Nat := 163
abbrev n_math_bits_Len64 : Nat := 164
abbrev n_internal_strconv_bool2_int : Nat := 165
abbrev n_internal_strconv_isPowerOfTwo : Nat := 166
abbrev n_math_bits_TrailingZeros : Nat := 167
abbrev n_internal_strconv_lower : Nat := 168
abbrev n_internal_strconv_underscoreOK : Nat := 169
abbrev n_math_bits_TrailingZeros32 : Nat := 170
abbrev n_math_bits_TrailingZeros64 : Nat := 171
abbrev n_runtime_boundsError_Error : Nat := 172
abbrev n_runtime_boundsError_RuntimeError : Nat := 173
abbrev n_runtime_errorString_Error : Nat := 174
abbrev n_runtime_errorString_RuntimeError : Nat := 175
abbrev n_runtime_plainError_Error : Nat := 176
abbrev n_runtime_plainError_RuntimeError : Nat := 177
abbrev n_runtime_errorAddressString_Error : Nat := 178
abbrev n_runtime_errorAddressString_RuntimeError : Nat := 179
abbrev n_p_runtime_TypeAssertionError_Error : Nat := 180
abbrev n_p_runtime_TypeAssertionError_RuntimeError : Nat := 181
abbrev n_p_runtime_PanicNilError_Error : Nat := 182
abbrev n_p_runtime_PanicNilError_RuntimeError : Nat := 183
abbrev n_p_internal_abi_Type_Align : Nat := 184
abbrev n_internal_runtime_maps_unhashableTypeError_Error : Nat := 185
abbrev n_internal_runtime_maps_unhashableTypeError_RuntimeError : Nat := 186
abbrev n_p_strings_Builder_Reset : Nat := 187
abbrev n_internal_strconv_Error_Error : Nat := 188
abbrev n_p_strconv_NumError_Error : Nat := 189
abbrev n_p_errors_errorString_Error : Nat := 190
abbrev n_internal_abi_Kind_String : Nat := 191
abbrev n_var_s_door_gosem_cut_vars_holds_initialisers_alone_see_the_manifest_s_row_cutvarsword_look_11_test_files_too : Nat := 192
abbrev n_var_s_door_internal_strconv_uint64pow10_is_laid_by_its_own_initialiser_plain_data_look_11 : Nat := 193
abbrev n_var_s_door_math_bits_deBruijn32tab_is_laid_by_its_own_initialiser_plain_data_look_11 : Nat := 194
abbrev n_var_s_door_math_bits_deBruijn64tab_is_laid_by_its_own_initialiser_plain_data_look_11 : Nat := 195
abbrev n_var_s_door_strconv_ErrRange_is_laid_by_its_own_call_of_errors_New_on_one_literal_look_11 : Nat := 196
abbrev n_var_s_door_strconv_ErrSyntax_is_laid_by_its_own_call_of_errors_New_on_one_literal_look_11 : Nat := 197
abbrev n_var_s_door_the_look_of_gosem_cut_vars_went_over_the_folder_that_the_caller_named_as_the_repository_s_root_look_11 : Nat := 198
abbrev n_var_s_door_unicode_utf8_acceptRanges_is_laid_by_its_own_initialiser_plain_data_look_11 : Nat := 199
abbrev n_var_s_door_unicode_utf8_first_is_laid_by_its_text_alone_pinned_1 : Nat := 200
abbrev n_gosem_cut_vars : Nat := 201
theorem is_p_strings_Builder_WriteString : ∃ fn, Tryd.prog.funcs[n_p_strings_Builder_WriteString]? = some fn ∧ (fn.name == "runtime.NumGoroutine") = false ∧ fn.body.isNone = false := ⟨Tryd.f52, Tryd.func52, by kernel_rfl, by kernel_rfl⟩
theorem is_p_strings_Builder_Len : ∃ fn, Tryd.prog.funcs[n_p_strings_Builder_Len]? = some fn ∧ (fn.name == "runtime.NumGoroutine") = false ∧ fn.body.isNone = false := ⟨Tryd.f54, Tryd.func54, by kernel_rfl, by kernel_rfl⟩
theorem is_p_strings_Builder_String : ∃ fn, Tryd.prog.funcs[n_p_strings_Builder_String]? = some fn ∧ (fn.name == "runtime.NumGoroutine") = false ∧ fn.body.isNone = false := ⟨Tryd.f55, Tryd.func55, by kernel_rfl, by kernel_rfl⟩
theorem is_strings_Cut : ∃ fn, Tryd.prog.funcs[n_strings_Cut]? = some fn ∧ (fn.name == "runtime.NumGoroutine") = false ∧ fn.body.isNone = false := ⟨Tryd.f64, Tryd.func64, by kernel_rfl, by kernel_rfl⟩
theorem is_strings_Split : ∃ fn, Tryd.prog.funcs[n_strings_Split]? = some fn ∧ (fn.name == "runtime.NumGoroutine") = false ∧ fn.body.isNone = false := ⟨Tryd.f77, Tryd.func77, by kernel_rfl, by kernel_rfl⟩
theorem is_p_strings_Builder_copyCheck : ∃ fn, Tryd.prog.funcs[n_p_strings_Builder_copyCheck]? = some fn ∧ (fn.name == "runtime.NumGoroutine") = false ∧ fn.body.isNone = false := ⟨Tryd.f94, Tryd.func94, by kernel_rfl, by kernel_rfl⟩
theorem is_strconv_Itoa : ∃ fn, Tryd.prog.funcs[n_strconv_Itoa]? = some fn ∧ (fn.name == "runtime.NumGoroutine") = false ∧ fn.body.isNone = false := ⟨Tryd.f96, Tryd.func96, by kernel_rfl, by kernel_rfl⟩
theorem is_internal_stringslite_Cut : ∃ fn, Tryd.prog.funcs[n_internal_stringslite_Cut]? = some fn ∧ (fn.name == "runtime.NumGoroutine") = false ∧ fn.body.isNone = false := ⟨Tryd.f103, Tryd.func103, by kernel_rfl, by kernel_rfl⟩
theorem is_strings_TrimPrefix : ∃ fn, Tryd.prog.funcs[n_strings_TrimPrefix]? = some fn ∧ (fn.name == "runtime.NumGoroutine") = false ∧ fn.body.isNone = false := ⟨Tryd.f104, Tryd.func104, by kernel_rfl, by kernel_rfl⟩
theorem is_slices_Compare_string_string : ∃ fn, Tryd.prog.funcs[n_slices_Compare_string_string]? = some fn ∧ (fn.name == "runtime.NumGoroutine") = false ∧ fn.body.isNone = false := ⟨Tryd.f106, Tryd.func106, by kernel_rfl, by kernel_rfl⟩
theorem is_strings_genSplit : ∃ fn, Tryd.prog.funcs[n_strings_genSplit]? = some fn ∧ (fn.name == "runtime.NumGoroutine") = false ∧ fn.body.isNone = false := ⟨Tryd.f112, Tryd.func112, by kernel_rfl, by kernel_rfl⟩
theorem is_strconv_Atoi : ∃ fn, Tryd.prog.funcs[n_strconv_Atoi]? = some fn ∧ (fn.name == "runtime.NumGoroutine") = false ∧ fn.body.isNone = false := ⟨Tryd.f113, Tryd.func113, by kernel_rfl, by kernel_rfl⟩
theorem is_strings_Join : ∃ fn, Tryd.prog.funcs[n_strings_Join]? = some fn ∧ (fn.name == "runtime.NumGoroutine") = false ∧ fn.body.isNone = false := ⟨Tryd.f121, Tryd.func121, by kernel_rfl, by kernel_rfl⟩
theorem is_internal_strconv_Itoa : ∃ fn, Tryd.prog.funcs[n_internal_strconv_Itoa]? = some fn ∧ (fn.name == "runtime.NumGoroutine") = false ∧ fn.body.isNone = false := ⟨Tryd.f122, Tryd.func122, by kernel_rfl, by kernel_rfl⟩
theorem is_internal_stringslite_Index : ∃ fn, Tryd.prog.funcs[n_internal_stringslite_Index]? = some fn ∧ (fn.name == "runtime.NumGoroutine") = false ∧ fn.body.isNone = false := ⟨Tryd.f124, Tryd.func124, by kernel_rfl, by kernel_rfl⟩
theorem is_internal_stringslite_TrimPrefix : ∃ fn, Tryd.prog.funcs[n_internal_stringslite_TrimPrefix]? = some fn ∧ (fn.name == "runtime.NumGoroutine") = false ∧ fn.body.isNone = false := ⟨Tryd.f125, Tryd.func125, by kernel_rfl, by kernel_rfl⟩
theorem is_strings_explode : ∃ fn, Tryd.prog.funcs[n_strings_explode]? = some fn ∧ (fn.name == "runtime.NumGoroutine") = false ∧ fn.body.isNone = false := ⟨Tryd.f129, Tryd.func129, by kernel_rfl, by kernel_rfl⟩
theorem is_strings_Count : ∃ fn, Tryd.prog.funcs[n_strings_Count]? = some fn ∧ (fn.name == "runtime.NumGoroutine") = false ∧ fn.body.isNone = false := ⟨Tryd.f130, Tryd.func130, by kernel_rfl, by kernel_rfl⟩
theorem is_strings_Index : ∃ fn, Tryd.prog.funcs[n_strings_Index]? = some fn ∧ (fn.name == "runtime.NumGoroutine") = false ∧ fn.body.isNone = false := ⟨Tryd.f131, Tryd.func131, by kernel_rfl, by kernel_rfl⟩
theorem is_internal_strconv_Atoi : ∃ fn, Tryd.prog.funcs[n_internal_strconv_Atoi]? = some fn ∧ (fn.name == "runtime.NumGoroutine") = false ∧ fn.body.isNone = false := ⟨Tryd.f132, Tryd.func132, by kernel_rfl, by kernel_rfl⟩
theorem is_strconv_toError : ∃ fn, Tryd.prog.funcs[n_strconv_toError]? = some fn ∧ (fn.name == "runtime.NumGoroutine") = false ∧ fn.body.isNone = false := ⟨Tryd.f133, Tryd.func133, by kernel_rfl, by kernel_rfl⟩
theorem is_p_strings_Builder_Grow : ∃ fn, Tryd.prog.funcs[n_p_strings_Builder_Grow]? = some fn ∧ (fn.name == "runtime.NumGoroutine") = false ∧ fn.body.isNone = false := ⟨Tryd.f135, Tryd.func135, by kernel_rfl, by kernel_rfl⟩
theorem is_internal_strconv_FormatInt : ∃ fn, Tryd.prog.funcs[n_internal_strconv_FormatInt]? = some fn ∧ (fn.name == "runtime.NumGoroutine") = false ∧ fn.body.isNone = false := ⟨Tryd.f136, Tryd.func136, by kernel_rfl, by kernel_rfl⟩
theorem is_internal_stringslite_IndexByte : ∃ fn, Tryd.prog.funcs[n_internal_stringslite_IndexByte]? = some fn ∧ (fn.name == "runtime.NumGoroutine") = false ∧ fn.body.isNone = false := ⟨Tryd.f137, Tryd.func137, by kernel_rfl, by kernel_rfl⟩
theorem is_internal_bytealg_Cutover : ∃ fn, Tryd.prog.funcs[n_internal_bytealg_Cutover]? = some fn ∧ (fn.name == "runtime.NumGoroutine") = false ∧ fn.body.isNone = false := ⟨Tryd.f139, Tryd.func139, by kernel_rfl, by kernel_rfl⟩
theorem is_internal_bytealg_IndexRabinKarp_string : ∃ fn, Tryd.prog.funcs[n_internal_bytealg_IndexRabinKarp_string]? = some fn ∧ (fn.name == "runtime.NumGoroutine") = false ∧ fn.body.isNone = false := ⟨Tryd.f140, Tryd.func140, by kernel_rfl, by kernel_rfl⟩
theorem is_internal_stringslite_HasPrefix : ∃ fn, Tryd.prog.funcs[n_internal_stringslite_HasPrefix]? = some fn ∧ (fn.name == "runtime.NumGoroutine") = false ∧ fn.body.isNone = false := ⟨Tryd.f141, Tryd.func141, by kernel_rfl, by kernel_rfl⟩
theorem is_internal_strconv_ParseInt : ∃ fn, Tryd.prog.funcs[n_internal_strconv_ParseInt]? = some fn ∧ (fn.name == "runtime.NumGoroutine") = false ∧ fn.body.isNone = false := ⟨Tryd.f146, Tryd.func146, by kernel_rfl, by kernel_rfl⟩
theorem is_strconv_syntaxError : ∃ fn, Tryd.prog.funcs[n_strconv_syntaxError]? = some fn ∧ (fn.name == "runtime.NumGoroutine") = false ∧ fn.body.isNone = false := ⟨Tryd.f147, Tryd.func147, by kernel_rfl, by kernel_rfl⟩
theorem is_strconv_rangeError : ∃ fn, Tryd.prog.funcs[n_strconv_rangeError]? = some fn ∧ (fn.name == "runtime.NumGoroutine") = false ∧ fn.body.isNone = false := ⟨Tryd.f148, Tryd.func148, by kernel_rfl, by kernel_rfl⟩
theorem is_strconv_baseError : ∃ fn, Tryd.prog.funcs[n_strconv_baseError]? = some fn ∧ (fn.name == "runtime.NumGoroutine") = false ∧ fn.body.isNone = false := ⟨Tryd.f149, Tryd.func149, by kernel_rfl, by kernel_rfl⟩
theorem is_strconv_bitSizeError : ∃ fn, Tryd.prog.funcs[n_strconv_bitSizeError]? = some fn ∧ (fn.name == "runtime.NumGoroutine") = false ∧ fn.body.isNone = false := ⟨Tryd.f150, Tryd.func150, by kernel_rfl, by kernel_rfl⟩
theorem is_p_strings_Builder_grow : ∃ fn, Tryd.prog.funcs[n_p_strings_Builder_grow]? = some fn ∧ (fn.name == "runtime.NumGoroutine") = false ∧ fn.body.isNone = false := ⟨Tryd.f151, Tryd.func151, by kernel_rfl, by kernel_rfl⟩
theorem is_internal_strconv_small : ∃ fn, Tryd.prog.funcs[n_internal_strconv_small]? = some fn ∧ (fn.name == "runtime.NumGoroutine") = false ∧ fn.body.isNone = false := ⟨Tryd.f152, Tryd.func152, by kernel_rfl, by kernel_rfl⟩
theorem is_internal_strconv_numDigits : ∃ fn, Tryd.prog.funcs[n_internal_strconv_numDigits]? = some fn ∧ (fn.name == "runtime.NumGoroutine") = false ∧ fn.body.isNone = false := ⟨Tryd.f153, Tryd.func153, by kernel_rfl, by kernel_rfl⟩
theorem is_internal_strconv_formatBase10 : ∃ fn, Tryd.prog.funcs[n_internal_strconv_formatBase10]? = some fn ∧ (fn.name == "runtime.NumGoroutine") = false ∧ fn.body.isNone = false := ⟨Tryd.f154, Tryd.func154, by kernel_rfl, by kernel_rfl⟩
theorem is_internal_strconv_formatBits : ∃ fn, Tryd.prog.funcs[n_internal_strconv_formatBits]? = some fn ∧ (fn.name == "runtime.NumGoroutine") = false ∧ fn.body.isNone = false := ⟨Tryd.f155, Tryd.func155, by kernel_rfl, by kernel_rfl⟩
theorem is_internal_bytealg_hashStr_string : ∃ fn, Tryd.prog.funcs[n_internal_bytealg_hashStr_string]? = some fn ∧ (fn.name == "runtime.NumGoroutine") = false ∧ fn.body.isNone = false := ⟨Tryd.f157, Tryd.func157, by kernel_rfl, by kernel_rfl⟩
theorem is_internal_strconv_ParseUint : ∃ fn, Tryd.prog.funcs[n_internal_strconv_ParseUint]? = some fn ∧ (fn.name == "runtime.NumGoroutine") = false ∧ fn.body.isNone = false := ⟨Tryd.f159, Tryd.func159, by kernel_rfl, by kernel_rfl⟩
theorem is_internal_stringslite_Clone : ∃ fn, Tryd.prog.funcs[n_internal_stringslite_Clone]? = some fn ∧ (fn.name == "runtime.NumGoroutine") = false ∧ fn.body.isNone = false := ⟨Tryd.f160, Tryd.func160, by kernel_rfl, by kernel_rfl⟩
theorem is_internal_strconv_log10Pow2 : ∃ fn, Tryd.prog.funcs[n_internal_strconv_log10Pow2]? = some fn ∧ (fn.name == "runtime.NumGoroutine") = false ∧ fn.body.isNone = false := ⟨Tryd.f163, Tryd.func163, by kernel_rfl, by kernel_rfl⟩
theorem is_internal_strconv_bool2_int : ∃ fn, Tryd.prog.funcs[n_internal_strconv_bool2_int]? = some fn ∧ (fn.name == "runtime.NumGoroutine") = false ∧ fn.body.isNone = false := ⟨Tryd.f165, Tryd.func165, by kernel_rfl, by kernel_rfl⟩
theorem is_internal_strconv_isPowerOfTwo : ∃ fn, Tryd.prog.funcs[n_internal_strconv_isPowerOfTwo]? = some fn ∧ (fn.name == "runtime.NumGoroutine") = false ∧ fn.body.isNone = false := ⟨Tryd.f166, Tryd.func166, by kernel_rfl, by kernel_rfl⟩
theorem is_internal_strconv_lower : ∃ fn, Tryd.prog.funcs[n_internal_strconv_lower]? = some fn ∧ (fn.name == "runtime.NumGoroutine") = false ∧ fn.body.isNone = false := ⟨Tryd.f168, Tryd.func168, by kernel_rfl, by kernel_rfl⟩
theorem is_internal_strconv_underscoreOK : ∃ fn, Tryd.prog.funcs[n_internal_strconv_underscoreOK]? = some fn ∧ (fn.name == "runtime.NumGoroutine") = false ∧ fn.body.isNone = false := ⟨Tryd.f169, Tryd.func169, by kernel_rfl, by kernel_rfl⟩
end Go.Proofs.YtlbpnfhhoalenaaDoor

/- What each function owes, reckoned out, part 1. MADE BY PROGRAM (emit.py). -/
set_option linter.unusedVariables false
namespace Go.Proofs.YtlbpnfhhoalenaaDoor
open Go Go.Av

/-- laws.FnExactTreeShow -/
def kp_laws_FnExactTreeShow : Nat → Keep
  | 10 => ⟨[], [], [], .step 0 (.step 1 (.step 2 (.step 3 (.step 4 (.done))))), [(2, [1]), (3, [0, 1, 2]), (4, [0, 1, 2, 3])]⟩
  | _ => ⟨[], [], [], .done, []⟩
def esc_laws_FnExactTreeShow : Nat → Bool
  | _ => false
def vc_laws_FnExactTreeShow (w0 : World) (a0 : Value) (σ : Vw) (R : Value → Vw → Prop) : Prop :=
  pVal true 5 a0 (AC Tryd.prog w0 n_laws_szTree ([Value.agg (⟨[cellOf a0 0, cellOf a0 1, cellOf a0 2, cellOf a0 3, cellOf a0 4]⟩), Value.int IntKind.i64 1048576]) σ (fun v0 s1 => pBin Tryd.prog 3 BinOp.lss v0 (Value.int IntKind.i64 0) (fun v2 => pIf v2 (R (Value.bool true) s1) (AC Tryd.prog w0 n_laws_toTree ([Value.agg (⟨[cellOf a0 0, cellOf a0 1, cellOf a0 2, cellOf a0 3, cellOf a0 4]⟩)]) s1 (fun v3 s4 => AC Tryd.prog w0 n_spec_TreeShow [v3] s4 (fun v5 s6 => AC Tryd.prog w0 n_laws_toTree ([Value.agg (⟨[cellOf a0 0, cellOf a0 1, cellOf a0 2, cellOf a0 3, cellOf a0 4]⟩)]) s6 (fun v7 s8 => pVal true 5 v7 (AC Tryd.prog w0 n_impl_TreeShow ([Value.agg (⟨[cellOf v7 0, cellOf v7 1, cellOf v7 2, cellOf v7 3, cellOf v7 4]⟩)]) s8 (fun v9 s10 => pBin Tryd.prog 9 BinOp.neq v9 v5 (fun v11 => pIf v11 (R (Value.bool false) s10) (AC Tryd.prog w0 n_laws_toTree ([Value.agg (⟨[cellOf a0 0, cellOf a0 1, cellOf a0 2, cellOf a0 3, cellOf a0 4]⟩)]) s10 (fun v12 s13 => AC Tryd.prog w0 n_laws_eqTree ([Value.agg (⟨[cellOf v7 0, cellOf v7 1, cellOf v7 2, cellOf v7 3, cellOf v7 4]⟩), v12]) s13 (fun v14 s15 => pUn UnOp.not v14 (fun v16 => pIf v16 (R (Value.bool false) s15) (R (Value.bool true) s15)))))))))))))))
theorem vc_laws_FnExactTreeShow_eq (w0 : World) (a0 : Value) (σ : Vw) (R : Value → Vw → Prop) : vc_laws_FnExactTreeShow w0 a0 σ R = den Tryd.prog w0 kp_laws_FnExactTreeShow esc_laws_FnExactTreeShow (Tryd.f3.body.getD .skip) (entry Tryd.f3.ntmps [a0]) σ (retK Tryd.prog Tryd.f3.results.toList R) := by kernel_rfl
theorem ac_laws_FnExactTreeShow {w0 : World} {a0 : Value} {σ : Vw} {R : Value → Vw → Prop} (h : vc_laws_FnExactTreeShow w0 a0 σ R) : AC Tryd.prog w0 n_laws_FnExactTreeShow [a0] σ R := by
  refine ac_rule (fn := Tryd.f3) (c := Tryd.f3.body.getD .skip) kp_laws_FnExactTreeShow esc_laws_FnExactTreeShow Tryd.func3 (by kernel_rfl) (by kernel_rfl) ?_
  rw [← vc_laws_FnExactTreeShow_eq]
  exact h

/-- laws.FnExactLayerWrite -/
def kp_laws_FnExactLayerWrite : Nat → Keep
  | _ => ⟨[], [], [], .done, []⟩
def esc_laws_FnExactLayerWrite : Nat → Bool
  | _ => false
def vc_laws_FnExactLayerWrite (w0 : World) (a0 : Value) (σ : Vw) (R : Value → Vw → Prop) : Prop :=
  AC Tryd.prog w0 n_laws_szEntryS [a0, Value.int IntKind.i64 1048576] σ (fun v0 s1 => pBin Tryd.prog 3 BinOp.lss v0 (Value.int IntKind.i64 0) (fun v2 => pIf v2 (R (Value.bool true) s1) (AC Tryd.prog w0 n_laws_toEntryS [a0] s1 (fun v3 s4 => AC Tryd.prog w0 n_spec_LayerWrite [v3] s4 (fun v5 s6 => AC Tryd.prog w0 n_laws_toEntryS [a0] s6 (fun v7 s8 => AC Tryd.prog w0 n_impl_LayerWrite [v7] s8 (fun v9 s10 => pBin Tryd.prog 9 BinOp.neq v9 v5 (fun v11 => pIf v11 (R (Value.bool false) s10) (AC Tryd.prog w0 n_laws_toEntryS [a0] s10 (fun v12 s13 => AC Tryd.prog w0 n_laws_eqEntryS [v7, v12] s13 (fun v14 s15 => pUn UnOp.not v14 (fun v16 => pIf v16 (R (Value.bool false) s15) (R (Value.bool true) s15)))))))))))))
theorem vc_laws_FnExactLayerWrite_eq (w0 : World) (a0 : Value) (σ : Vw) (R : Value → Vw → Prop) : vc_laws_FnExactLayerWrite w0 a0 σ R = den Tryd.prog w0 kp_laws_FnExactLayerWrite esc_laws_FnExactLayerWrite (Tryd.f4.body.getD .skip) (entry Tryd.f4.ntmps [a0]) σ (retK Tryd.prog Tryd.f4.results.toList R) := by kernel_rfl
theorem ac_laws_FnExactLayerWrite {w0 : World} {a0 : Value} {σ : Vw} {R : Value → Vw → Prop} (h : vc_laws_FnExactLayerWrite w0 a0 σ R) : AC Tryd.prog w0 n_laws_FnExactLayerWrite [a0] σ R := by
  refine ac_rule (fn := Tryd.f4) (c := Tryd.f4.body.getD .skip) kp_laws_FnExactLayerWrite esc_laws_FnExactLayerWrite Tryd.func4 (by kernel_rfl) (by kernel_rfl) ?_
  rw [← vc_laws_FnExactLayerWrite_eq]
  exact h

/-- laws.FnExactTableId -/
def kp_laws_FnExactTableId : Nat → Keep
  | 10 => ⟨[], [], [], .step 0 (.step 1 (.step 2 (.step 3 (.step 4 (.done))))), [(2, [1]), (3, [0, 1, 2]), (4, [0, 1, 2, 3])]⟩
  | _ => ⟨[], [], [], .done, []⟩
def esc_laws_FnExactTableId : Nat → Bool
  | _ => false
def vc_laws_FnExactTableId (w0 : World) (a0 : Value) (σ : Vw) (R : Value → Vw → Prop) : Prop :=
  pVal true 5 a0 (AC Tryd.prog w0 n_laws_szTree ([Value.agg (⟨[cellOf a0 0, cellOf a0 1, cellOf a0 2, cellOf a0 3, cellOf a0 4]⟩), Value.int IntKind.i64 1048576]) σ (fun v0 s1 => pBin Tryd.prog 3 BinOp.lss v0 (Value.int IntKind.i64 0) (fun v2 => pIf v2 (R (Value.bool true) s1) (AC Tryd.prog w0 n_laws_toTree ([Value.agg (⟨[cellOf a0 0, cellOf a0 1, cellOf a0 2, cellOf a0 3, cellOf a0 4]⟩)]) s1 (fun v3 s4 => AC Tryd.prog w0 n_spec_TableId [v3] s4 (fun v5 s6 => AC Tryd.prog w0 n_laws_toTree ([Value.agg (⟨[cellOf a0 0, cellOf a0 1, cellOf a0 2, cellOf a0 3, cellOf a0 4]⟩)]) s6 (fun v7 s8 => pVal true 5 v7 (AC Tryd.prog w0 n_impl_TableId ([Value.agg (⟨[cellOf v7 0, cellOf v7 1, cellOf v7 2, cellOf v7 3, cellOf v7 4]⟩)]) s8 (fun v9 s10 => pBin Tryd.prog 3 BinOp.neq v9 v5 (fun v11 => pIf v11 (R (Value.bool false) s10) (AC Tryd.prog w0 n_laws_toTree ([Value.agg (⟨[cellOf a0 0, cellOf a0 1, cellOf a0 2, cellOf a0 3, cellOf a0 4]⟩)]) s10 (fun v12 s13 => AC Tryd.prog w0 n_laws_eqTree ([Value.agg (⟨[cellOf v7 0, cellOf v7 1, cellOf v7 2, cellOf v7 3, cellOf v7 4]⟩), v12]) s13 (fun v14 s15 => pUn UnOp.not v14 (fun v16 => pIf v16 (R (Value.bool false) s15) (R (Value.bool true) s15)))))))))))))))
theorem vc_laws_FnExactTableId_eq (w0 : World) (a0 : Value) (σ : Vw) (R : Value → Vw → Prop) : vc_laws_FnExactTableId w0 a0 σ R = den Tryd.prog w0 kp_laws_FnExactTableId esc_laws_FnExactTableId (Tryd.f5.body.getD .skip) (entry Tryd.f5.ntmps [a0]) σ (retK Tryd.prog Tryd.f5.results.toList R) := by kernel_rfl
theorem ac_laws_FnExactTableId {w0 : World} {a0 : Value} {σ : Vw} {R : Value → Vw → Prop} (h : vc_laws_FnExactTableId w0 a0 σ R) : AC Tryd.prog w0 n_laws_FnExactTableId [a0] σ R := by
  refine ac_rule (fn := Tryd.f5) (c := Tryd.f5.body.getD .skip) kp_laws_FnExactTableId esc_laws_FnExactTableId Tryd.func5 (by kernel_rfl) (by kernel_rfl) ?_
  rw [← vc_laws_FnExactTableId_eq]
  exact h

/-- laws.FnExactTrailRead -/
def kp_laws_FnExactTrailRead : Nat → Keep
  | _ => ⟨[], [], [], .done, []⟩
def esc_laws_FnExactTrailRead : Nat → Bool
  | _ => false
def vc_laws_FnExactTrailRead (w0 : World) (a0 : Value) (σ : Vw) (R : Value → Vw → Prop) : Prop :=
  pLenS a0 (fun v0 => pBin Tryd.prog 3 BinOp.gtr v0 (Value.int IntKind.i64 1048576) (fun v1 => pIf v1 (R (Value.bool true) σ) (AC Tryd.prog w0 n_spec_TrailRead [a0] σ (fun v2 s3 => pExtract v2 0 (fun v4 => pExtract v2 1 (fun v5 => AC Tryd.prog w0 n_impl_TrailRead [a0] s3 (fun v6 s7 => pExtract v6 0 (fun v8 => pExtract v6 1 (fun v9 => AC Tryd.prog w0 n_laws_eqMarkS [v8, v4] s7 (fun v10 s11 => pUn UnOp.not v10 (fun v12 => pIf v12 (R (Value.bool false) s11) (pBin Tryd.prog 4 BinOp.neq v9 v5 (fun v13 => pIf v13 (R (Value.bool false) s11) (AC Tryd.prog w0 n_laws_markMarkS [v8, Value.int IntKind.i64 1] s11 (fun v14 s15 => AC Tryd.prog w0 n_laws_heldMarkS [v8, Value.int IntKind.i64 1] s15 (fun v16 s17 => pBin Tryd.prog 3 BinOp.lss v16 (Value.int IntKind.i64 0) (fun v18 => pIf v18 (R (Value.bool false) s17) (pBin Tryd.prog 3 BinOp.neq v16 v14 (fun v19 => pIf v19 (R (Value.bool false) s17) (AC Tryd.prog w0 n_impl_TrailRead [a0] s17 (fun v20 s21 => pExtract v20 0 (fun v22 => pExtract v20 1 (fun v23 => AC Tryd.prog w0 n_laws_eqMarkS [v22, v4] s21 (fun v24 s25 => pUn UnOp.not v24 (fun v26 => pIf v26 (R (Value.bool false) s25) (pBin Tryd.prog 4 BinOp.neq v23 v5 (fun v27 => pIf v27 (R (Value.bool false) s25) (AC Tryd.prog w0 n_laws_heldMarkS [v8, Value.int IntKind.i64 1] s25 (fun v28 s29 => pBin Tryd.prog 3 BinOp.lss v28 (Value.int IntKind.i64 0) (fun v30 => pIf v30 (R (Value.bool false) s29) (pBin Tryd.prog 3 BinOp.neq v28 v14 (fun v31 => pIf v31 (R (Value.bool false) s29) (R (Value.bool true) s29)))))))))))))))))))))))))))))))))
theorem vc_laws_FnExactTrailRead_eq (w0 : World) (a0 : Value) (σ : Vw) (R : Value → Vw → Prop) : vc_laws_FnExactTrailRead w0 a0 σ R = den Tryd.prog w0 kp_laws_FnExactTrailRead esc_laws_FnExactTrailRead (Tryd.f6.body.getD .skip) (entry Tryd.f6.ntmps [a0]) σ (retK Tryd.prog Tryd.f6.results.toList R) := by kernel_rfl
theorem ac_laws_FnExactTrailRead {w0 : World} {a0 : Value} {σ : Vw} {R : Value → Vw → Prop} (h : vc_laws_FnExactTrailRead w0 a0 σ R) : AC Tryd.prog w0 n_laws_FnExactTrailRead [a0] σ R := by
  refine ac_rule (fn := Tryd.f6) (c := Tryd.f6.body.getD .skip) kp_laws_FnExactTrailRead esc_laws_FnExactTrailRead Tryd.func6 (by kernel_rfl) (by kernel_rfl) ?_
  rw [← vc_laws_FnExactTrailRead_eq]
  exact h

/-- laws.FnExactTableMake -/
def kp_laws_FnExactTableMake : Nat → Keep
  | 10 => ⟨[], [], [], .step 0 (.step 1 (.step 2 (.step 3 (.step 4 (.done))))), [(2, [1]), (3, [0, 1, 2]), (4, [0, 1, 2, 3])]⟩
  | _ => ⟨[], [], [], .done, []⟩
def esc_laws_FnExactTableMake : Nat → Bool
  | _ => false
def vc_laws_FnExactTableMake (w0 : World) (a0 : Value) (σ : Vw) (R : Value → Vw → Prop) : Prop :=
  pVal true 5 a0 (AC Tryd.prog w0 n_laws_szTree ([Value.agg (⟨[cellOf a0 0, cellOf a0 1, cellOf a0 2, cellOf a0 3, cellOf a0 4]⟩), Value.int IntKind.i64 1048576]) σ (fun v0 s1 => pBin Tryd.prog 3 BinOp.lss v0 (Value.int IntKind.i64 0) (fun v2 => pIf v2 (R (Value.bool true) s1) (AC Tryd.prog w0 n_laws_toTree ([Value.agg (⟨[cellOf a0 0, cellOf a0 1, cellOf a0 2, cellOf a0 3, cellOf a0 4]⟩)]) s1 (fun v3 s4 => AC Tryd.prog w0 n_spec_TableMake [v3] s4 (fun v5 s6 => AC Tryd.prog w0 n_laws_toTree ([Value.agg (⟨[cellOf a0 0, cellOf a0 1, cellOf a0 2, cellOf a0 3, cellOf a0 4]⟩)]) s6 (fun v7 s8 => pVal true 5 v7 (AC Tryd.prog w0 n_impl_TableMake ([Value.agg (⟨[cellOf v7 0, cellOf v7 1, cellOf v7 2, cellOf v7 3, cellOf v7 4]⟩)]) s8 (fun v9 s10 => AC Tryd.prog w0 n_laws_eqRowS [v9, v5] s10 (fun v11 s12 => pUn UnOp.not v11 (fun v13 => pIf v13 (R (Value.bool false) s12) (AC Tryd.prog w0 n_laws_toTree ([Value.agg (⟨[cellOf a0 0, cellOf a0 1, cellOf a0 2, cellOf a0 3, cellOf a0 4]⟩)]) s12 (fun v14 s15 => AC Tryd.prog w0 n_laws_eqTree ([Value.agg (⟨[cellOf v7 0, cellOf v7 1, cellOf v7 2, cellOf v7 3, cellOf v7 4]⟩), v14]) s15 (fun v16 s17 => pUn UnOp.not v16 (fun v18 => pIf v18 (R (Value.bool false) s17) (AC Tryd.prog w0 n_laws_markTree ([Value.agg (⟨[cellOf v7 0, cellOf v7 1, cellOf v7 2, cellOf v7 3, cellOf v7 4]⟩), Value.int IntKind.i64 1]) s17 (fun v19 s20 => pBin Tryd.prog 3 BinOp.lss v19 (Value.int IntKind.i64 0) (fun v21 => pIf v21 (R (Value.bool false) s20) (AC Tryd.prog w0 n_laws_eqRowS [v9, v5] s20 (fun v22 s23 => pUn UnOp.not v22 (fun v24 => pIf v24 (R (Value.bool false) s23) (AC Tryd.prog w0 n_laws_markRowS [v9, Value.int IntKind.i64 1] s23 (fun v25 s26 => AC Tryd.prog w0 n_laws_heldRowS [v9, Value.int IntKind.i64 1] s26 (fun v27 s28 => pBin Tryd.prog 3 BinOp.lss v27 (Value.int IntKind.i64 0) (fun v29 => pIf v29 (R (Value.bool false) s28) (pBin Tryd.prog 3 BinOp.neq v27 v25 (fun v30 => pIf v30 (R (Value.bool false) s28) (AC Tryd.prog w0 n_laws_toTree ([Value.agg (⟨[cellOf a0 0, cellOf a0 1, cellOf a0 2, cellOf a0 3, cellOf a0 4]⟩)]) s28 (fun v31 s32 => AC Tryd.prog w0 n_impl_TableMake [v31] s32 (fun v33 s34 => AC Tryd.prog w0 n_laws_eqRowS [v33, v5] s34 (fun v35 s36 => pUn UnOp.not v35 (fun v37 => pIf v37 (R (Value.bool false) s36) (AC Tryd.prog w0 n_laws_heldRowS [v9, Value.int IntKind.i64 1] s36 (fun v38 s39 => pBin Tryd.prog 3 BinOp.lss v38 (Value.int IntKind.i64 0) (fun v40 => pIf v40 (R (Value.bool false) s39) (pBin Tryd.prog 3 BinOp.neq v38 v25 (fun v41 => pIf v41 (R (Value.bool false) s39) (R (Value.bool true) s39))))))))))))))))))))))))))))))))))))))
theorem vc_laws_FnExactTableMake_eq (w0 : World) (a0 : Value) (σ : Vw) (R : Value → Vw → Prop) : vc_laws_FnExactTableMake w0 a0 σ R = den Tryd.prog w0 kp_laws_FnExactTableMake esc_laws_FnExactTableMake (Tryd.f7.body.getD .skip) (entry Tryd.f7.ntmps [a0]) σ (retK Tryd.prog Tryd.f7.results.toList R) := by kernel_rfl
theorem ac_laws_FnExactTableMake {w0 : World} {a0 : Value} {σ : Vw} {R : Value → Vw → Prop} (h : vc_laws_FnExactTableMake w0 a0 σ R) : AC Tryd.prog w0 n_laws_FnExactTableMake [a0] σ R := by
  refine ac_rule (fn := Tryd.f7) (c := Tryd.f7.body.getD .skip) kp_laws_FnExactTableMake esc_laws_FnExactTableMake Tryd.func7 (by kernel_rfl) (by kernel_rfl) ?_
  rw [← vc_laws_FnExactTableMake_eq]
  exact h

/-- laws.FnExactLayerRead -/
def kp_laws_FnExactLayerRead : Nat → Keep
  | _ => ⟨[], [], [], .done, []⟩
def esc_laws_FnExactLayerRead : Nat → Bool
  | _ => false
def vc_laws_FnExactLayerRead (w0 : World) (a0 : Value) (σ : Vw) (R : Value → Vw → Prop) : Prop :=
  pLenS a0 (fun v0 => pBin Tryd.prog 3 BinOp.gtr v0 (Value.int IntKind.i64 1048576) (fun v1 => pIf v1 (R (Value.bool true) σ) (AC Tryd.prog w0 n_spec_LayerRead [a0] σ (fun v2 s3 => pExtract v2 0 (fun v4 => pExtract v2 1 (fun v5 => AC Tryd.prog w0 n_impl_LayerRead [a0] s3 (fun v6 s7 => pExtract v6 0 (fun v8 => pExtract v6 1 (fun v9 => AC Tryd.prog w0 n_laws_eqEntryS [v8, v4] s7 (fun v10 s11 => pUn UnOp.not v10 (fun v12 => pIf v12 (R (Value.bool false) s11) (pBin Tryd.prog 4 BinOp.neq v9 v5 (fun v13 => pIf v13 (R (Value.bool false) s11) (AC Tryd.prog w0 n_laws_markEntryS [v8, Value.int IntKind.i64 1] s11 (fun v14 s15 => AC Tryd.prog w0 n_laws_heldEntryS [v8, Value.int IntKind.i64 1] s15 (fun v16 s17 => pBin Tryd.prog 3 BinOp.lss v16 (Value.int IntKind.i64 0) (fun v18 => pIf v18 (R (Value.bool false) s17) (pBin Tryd.prog 3 BinOp.neq v16 v14 (fun v19 => pIf v19 (R (Value.bool false) s17) (AC Tryd.prog w0 n_impl_LayerRead [a0] s17 (fun v20 s21 => pExtract v20 0 (fun v22 => pExtract v20 1 (fun v23 => AC Tryd.prog w0 n_laws_eqEntryS [v22, v4] s21 (fun v24 s25 => pUn UnOp.not v24 (fun v26 => pIf v26 (R (Value.bool false) s25) (pBin Tryd.prog 4 BinOp.neq v23 v5 (fun v27 => pIf v27 (R (Value.bool false) s25) (AC Tryd.prog w0 n_laws_heldEntryS [v8, Value.int IntKind.i64 1] s25 (fun v28 s29 => pBin Tryd.prog 3 BinOp.lss v28 (Value.int IntKind.i64 0) (fun v30 => pIf v30 (R (Value.bool false) s29) (pBin Tryd.prog 3 BinOp.neq v28 v14 (fun v31 => pIf v31 (R (Value.bool false) s29) (R (Value.bool true) s29)))))))))))))))))))))))))))))))))
theorem vc_laws_FnExactLayerRead_eq (w0 : World) (a0 : Value) (σ : Vw) (R : Value → Vw → Prop) : vc_laws_FnExactLayerRead w0 a0 σ R = den Tryd.prog w0 kp_laws_FnExactLayerRead esc_laws_FnExactLayerRead (Tryd.f8.body.getD .skip) (entry Tryd.f8.ntmps [a0]) σ (retK Tryd.prog Tryd.f8.results.toList R) := by kernel_rfl
theorem ac_laws_FnExactLayerRead {w0 : World} {a0 : Value} {σ : Vw} {R : Value → Vw → Prop} (h : vc_laws_FnExactLayerRead w0 a0 σ R) : AC Tryd.prog w0 n_laws_FnExactLayerRead [a0] σ R := by
  refine ac_rule (fn := Tryd.f8) (c := Tryd.f8.body.getD .skip) kp_laws_FnExactLayerRead esc_laws_FnExactLayerRead Tryd.func8 (by kernel_rfl) (by kernel_rfl) ?_
  rw [← vc_laws_FnExactLayerRead_eq]
  exact h

/-- laws.szTree -/
def kp_laws_szTree : Nat → Keep
  | _ => ⟨[], [], [], .done, []⟩
def esc_laws_szTree : Nat → Bool
  | _ => false
def vc_laws_szTree (w0 : World) (a0 a1 : Value) (σ : Vw) (R : Value → Vw → Prop) : Prop :=
  pVal true 5 a0 (pLenS (cellOf a0 2) (fun v0 => pBin Tryd.prog 3 BinOp.sub a1 v0 (fun v1 => pBin Tryd.prog 3 BinOp.lss v1 (Value.int IntKind.i64 0) (fun v2 => pIf v2 (R (Value.int IntKind.i64 (-1)) σ) (AC Tryd.prog w0 n_laws_szStringS [cellOf a0 3, v1] σ (fun v3 s4 => pBin Tryd.prog 3 BinOp.lss v3 (Value.int IntKind.i64 0) (fun v5 => pIf v5 (R (Value.int IntKind.i64 (-1)) s4) (AC Tryd.prog w0 n_laws_szTreeS [cellOf a0 4, v3] s4 (fun v6 s7 => pBin Tryd.prog 3 BinOp.lss v6 (Value.int IntKind.i64 0) (fun v8 => pIf v8 (R (Value.int IntKind.i64 (-1)) s7) (R v6 s7)))))))))))
theorem vc_laws_szTree_eq (w0 : World) (a0 a1 : Value) (σ : Vw) (R : Value → Vw → Prop) : vc_laws_szTree w0 a0 a1 σ R = den Tryd.prog w0 kp_laws_szTree esc_laws_szTree (Tryd.f9.body.getD .skip) (entry Tryd.f9.ntmps [a0, a1]) σ (retK Tryd.prog Tryd.f9.results.toList R) := by kernel_rfl
theorem ac_laws_szTree {w0 : World} {a0 a1 : Value} {σ : Vw} {R : Value → Vw → Prop} (h : vc_laws_szTree w0 a0 a1 σ R) : AC Tryd.prog w0 n_laws_szTree [a0, a1] σ R := by
  refine ac_rule (fn := Tryd.f9) (c := Tryd.f9.body.getD .skip) kp_laws_szTree esc_laws_szTree Tryd.func9 (by kernel_rfl) (by kernel_rfl) ?_
  rw [← vc_laws_szTree_eq]
  exact h

/-- spec.TreeShow -/
def kp_spec_TreeShow : Nat → Keep
  | 3 => ⟨[], [], [], .step 0 (.step 2 (.step 1 (.step 3 (.step 4 (.step 5 (.done)))))), [(1, [0]), (3, [0, 1, 2]), (4, [0, 1, 2, 3]), (5, [0, 1, 2, 3, 4])]⟩
  | _ => ⟨[], [], [], .done, []⟩
def esc_spec_TreeShow : Nat → Bool
  | _ => false
def vc_spec_TreeShow (w0 : World) (a0 : Value) (σ : Vw) (R : Value → Vw → Prop) : Prop :=
  pVal true 5 a0 (AC Tryd.prog w0 n_spec_TreeOk ([Value.agg (⟨[cellOf a0 0, cellOf a0 1, cellOf a0 2, cellOf a0 3, cellOf a0 4]⟩)]) σ (fun v0 s1 => pUn UnOp.not v0 (fun v2 => pIf v2 (R (Value.string ({ data := #[] })) s1) (AC Tryd.prog w0 n_spec_l1Line ([Value.string ({ data := #[47] }), Value.agg (⟨[cellOf a0 0, cellOf a0 1, cellOf a0 2, cellOf a0 3, cellOf a0 4]⟩)]) s1 (fun v3 s4 => AC Tryd.prog w0 n_spec_l1Show ([Value.string ({ data := #[] }), Value.agg (⟨[cellOf a0 0, cellOf a0 1, cellOf a0 2, cellOf a0 3, cellOf a0 4]⟩)]) s4 (fun v5 s6 => pBin Tryd.prog 9 BinOp.add v3 v5 (fun v7 => R v7 s6)))))))
theorem vc_spec_TreeShow_eq (w0 : World) (a0 : Value) (σ : Vw) (R : Value → Vw → Prop) : vc_spec_TreeShow w0 a0 σ R = den Tryd.prog w0 kp_spec_TreeShow esc_spec_TreeShow (Tryd.f10.body.getD .skip) (entry Tryd.f10.ntmps [a0]) σ (retK Tryd.prog Tryd.f10.results.toList R) := by kernel_rfl
theorem ac_spec_TreeShow {w0 : World} {a0 : Value} {σ : Vw} {R : Value → Vw → Prop} (h : vc_spec_TreeShow w0 a0 σ R) : AC Tryd.prog w0 n_spec_TreeShow [a0] σ R := by
  refine ac_rule (fn := Tryd.f10) (c := Tryd.f10.body.getD .skip) kp_spec_TreeShow esc_spec_TreeShow Tryd.func10 (by kernel_rfl) (by kernel_rfl) ?_
  rw [← vc_spec_TreeShow_eq]
  exact h

/-- laws.toTree -/
def kp_laws_toTree : Nat → Keep
  | _ => ⟨[], [], [], .done, []⟩
def esc_laws_toTree : Nat → Bool
  | _ => false
def vc_laws_toTree (w0 : World) (a0 : Value) (σ : Vw) (R : Value → Vw → Prop) : Prop :=
  pVal true 5 a0 (pVal false 1 (cellOf a0 0) (pVal false 1 (cellOf a0 1) (pVal false 1 (cellOf a0 2) (AC Tryd.prog w0 n_laws_toStringS [cellOf a0 3] σ (fun v0 s1 => pVal false 1 v0 (AC Tryd.prog w0 n_laws_toTreeS [cellOf a0 4] s1 (fun v2 s3 => pVal false 1 v2 (pVal true 5 (Value.agg (⟨[cellOf a0 0, cellOf a0 1, cellOf a0 2, v0, v2]⟩)) (R (Value.agg (⟨[cellOf a0 0, cellOf a0 1, cellOf a0 2, v0, v2]⟩)) s3)))))))))
theorem vc_laws_toTree_eq (w0 : World) (a0 : Value) (σ : Vw) (R : Value → Vw → Prop) : vc_laws_toTree w0 a0 σ R = den Tryd.prog w0 kp_laws_toTree esc_laws_toTree (Tryd.f11.body.getD .skip) (entry Tryd.f11.ntmps [a0]) σ (retK Tryd.prog Tryd.f11.results.toList R) := by kernel_rfl
theorem ac_laws_toTree {w0 : World} {a0 : Value} {σ : Vw} {R : Value → Vw → Prop} (h : vc_laws_toTree w0 a0 σ R) : AC Tryd.prog w0 n_laws_toTree [a0] σ R := by
  refine ac_rule (fn := Tryd.f11) (c := Tryd.f11.body.getD .skip) kp_laws_toTree esc_laws_toTree Tryd.func11 (by kernel_rfl) (by kernel_rfl) ?_
  rw [← vc_laws_toTree_eq]
  exact h

/-- impl.TreeShow -/
def kp_impl_TreeShow : Nat → Keep
  | _ => ⟨[], [], [], .done, []⟩
def esc_impl_TreeShow : Nat → Bool
  | _ => false
def vc_impl_TreeShow (w0 : World) (a0 : Value) (σ : Vw) (R : Value → Vw → Prop) : Prop :=
  pVal true 5 a0 (AC Tryd.prog w0 n_impl_TreeOk ([Value.agg (⟨[cellOf a0 0, cellOf a0 1, cellOf a0 2, cellOf a0 3, cellOf a0 4]⟩)]) σ (fun v0 s1 => pUn UnOp.not v0 (fun v2 => pIf v2 (R (Value.string ({ data := #[] })) s1) (AC Tryd.prog w0 n_impl_Tree_show ([Value.agg (⟨[cellOf a0 0, cellOf a0 1, cellOf a0 2, cellOf a0 3, cellOf a0 4]⟩)]) s1 (fun v3 s4 => R v3 s4)))))
theorem vc_impl_TreeShow_eq (w0 : World) (a0 : Value) (σ : Vw) (R : Value → Vw → Prop) : vc_impl_TreeShow w0 a0 σ R = den Tryd.prog w0 kp_impl_TreeShow esc_impl_TreeShow (Tryd.f12.body.getD .skip) (entry Tryd.f12.ntmps [a0]) σ (retK Tryd.prog Tryd.f12.results.toList R) := by kernel_rfl
theorem ac_impl_TreeShow {w0 : World} {a0 : Value} {σ : Vw} {R : Value → Vw → Prop} (h : vc_impl_TreeShow w0 a0 σ R) : AC Tryd.prog w0 n_impl_TreeShow [a0] σ R := by
  refine ac_rule (fn := Tryd.f12) (c := Tryd.f12.body.getD .skip) kp_impl_TreeShow esc_impl_TreeShow Tryd.func12 (by kernel_rfl) (by kernel_rfl) ?_
  rw [← vc_impl_TreeShow_eq]
  exact h

/-- laws.eqTree -/
def kp_laws_eqTree : Nat → Keep
  | _ => ⟨[], [], [], .done, []⟩
def esc_laws_eqTree : Nat → Bool
  | _ => false
def vc_laws_eqTree (w0 : World) (a0 a1 : Value) (σ : Vw) (R : Value → Vw → Prop) : Prop :=
  pVal true 5 a0 (pVal true 5 a1 (pBin Tryd.prog 4 BinOp.neq (cellOf a0 0) (cellOf a1 0) (fun v0 => pIf v0 (R (Value.bool false) σ) (pBin Tryd.prog 3 BinOp.neq (cellOf a0 1) (cellOf a1 1) (fun v1 => pIf v1 (R (Value.bool false) σ) (pBin Tryd.prog 9 BinOp.neq (cellOf a0 2) (cellOf a1 2) (fun v2 => pIf v2 (R (Value.bool false) σ) (AC Tryd.prog w0 n_laws_eqStringS [cellOf a0 3, cellOf a1 3] σ (fun v3 s4 => pUn UnOp.not v3 (fun v5 => pIf v5 (R (Value.bool false) s4) (AC Tryd.prog w0 n_laws_eqTreeS [cellOf a0 4, cellOf a1 4] s4 (fun v6 s7 => pUn UnOp.not v6 (fun v8 => pIf v8 (R (Value.bool false) s7) (R (Value.bool true) s7))))))))))))))
theorem vc_laws_eqTree_eq (w0 : World) (a0 a1 : Value) (σ : Vw) (R : Value → Vw → Prop) : vc_laws_eqTree w0 a0 a1 σ R = den Tryd.prog w0 kp_laws_eqTree esc_laws_eqTree (Tryd.f13.body.getD .skip) (entry Tryd.f13.ntmps [a0, a1]) σ (retK Tryd.prog Tryd.f13.results.toList R) := by kernel_rfl
theorem ac_laws_eqTree {w0 : World} {a0 a1 : Value} {σ : Vw} {R : Value → Vw → Prop} (h : vc_laws_eqTree w0 a0 a1 σ R) : AC Tryd.prog w0 n_laws_eqTree [a0, a1] σ R := by
  refine ac_rule (fn := Tryd.f13) (c := Tryd.f13.body.getD .skip) kp_laws_eqTree esc_laws_eqTree Tryd.func13 (by kernel_rfl) (by kernel_rfl) ?_
  rw [← vc_laws_eqTree_eq]
  exact h

/-- laws.szEntryS -/
def kp_laws_szEntryS : Nat → Keep
  | 5 => ⟨[0, 1, 4, 5], [], [], .done, []⟩
  | _ => ⟨[], [], [], .done, []⟩
def esc_laws_szEntryS : Nat → Bool
  | _ => false
def vc_laws_szEntryS (w0 : World) (a0 a1 : Value) (σ : Vw) (R : Value → Vw → Prop) : Prop :=
  pLen a0 (fun v0 => pBin Tryd.prog 3 BinOp.sub a1 v0 (fun v1 => pBin Tryd.prog 3 BinOp.lss v1 (Value.int IntKind.i64 0) (fun v2 => pIf v2 (R (Value.int IntKind.i64 (-1)) σ) (pLoop (fun l3 K4 s5 => pLen (vget l3 0) (fun v6 => pBin Tryd.prog 3 BinOp.lss (vget l3 3) v6 (fun v7 => pIf v7 (pIndexAddr 5 (vget l3 0) (vget l3 3) (fun v8 => pLoad w0 5 v8 s5 (fun g9 => AC Tryd.prog w0 n_laws_szEntry ([Value.agg (⟨[g9 0, g9 1, g9 2, g9 3, g9 4]⟩), vget l3 1]) s5 (fun v10 s11 => pBin Tryd.prog 3 BinOp.lss v10 (Value.int IntKind.i64 0) (fun v12 => pIf v12 (K4 AX.ret [vget l3 0, v10, Value.int IntKind.i64 (-1), vget l3 3] s11) (pBin Tryd.prog 3 BinOp.add (vget l3 3) (Value.int IntKind.i64 1) (fun v13 => K4 AX.normal [vget l3 0, v10, vget l3 2, v13] s11))))))) (K4 (AX.exit 0) [vget l3 0, vget l3 1, vget l3 2, vget l3 3] s5)))) [a0, v1, Value.int IntKind.i64 0, Value.int IntKind.i64 0] σ (fun x14 l15 s16 => match x14 with | .normal => R (vget l15 1) s16 | .ret => R (vget l15 2) s16 | .exit i17 => (match Nat.beq i17 0 with | true => R (vget l15 1) s16 | false => False))))))
theorem vc_laws_szEntryS_eq (w0 : World) (a0 a1 : Value) (σ : Vw) (R : Value → Vw → Prop) : vc_laws_szEntryS w0 a0 a1 σ R = den Tryd.prog w0 kp_laws_szEntryS esc_laws_szEntryS (Tryd.f14.body.getD .skip) (entry Tryd.f14.ntmps [a0, a1]) σ (retK Tryd.prog Tryd.f14.results.toList R) := by kernel_rfl
theorem ac_laws_szEntryS {w0 : World} {a0 a1 : Value} {σ : Vw} {R : Value → Vw → Prop} (h : vc_laws_szEntryS w0 a0 a1 σ R) : AC Tryd.prog w0 n_laws_szEntryS [a0, a1] σ R := by
  refine ac_rule (fn := Tryd.f14) (c := Tryd.f14.body.getD .skip) kp_laws_szEntryS esc_laws_szEntryS Tryd.func14 (by kernel_rfl) (by kernel_rfl) ?_
  rw [← vc_laws_szEntryS_eq]
  exact h

/-- spec.LayerWrite -/
def kp_spec_LayerWrite : Nat → Keep
  | 3 => ⟨[0, 2, 3, 4], [], [], .done, []⟩
  | _ => ⟨[], [], [], .done, []⟩
def esc_spec_LayerWrite : Nat → Bool
  | _ => false
def vc_spec_LayerWrite (w0 : World) (a0 : Value) (σ : Vw) (R : Value → Vw → Prop) : Prop :=
  pLoop (fun l0 K1 s2 => pLen (vget l0 0) (fun v3 => pBin Tryd.prog 3 BinOp.lss (vget l0 3) v3 (fun v4 => pIf v4 (pIndexAddr 5 (vget l0 0) (vget l0 3) (fun v5 => pLoad w0 5 v5 s2 (fun g6 => AC Tryd.prog w0 n_spec_l3EntryOk ([Value.agg (⟨[g6 0, g6 1, g6 2, g6 3, g6 4]⟩)]) s2 (fun v7 s8 => pUn UnOp.not v7 (fun v9 => pIf v9 (K1 AX.ret ([vget l0 0, Value.string ({ data := #[] }), vget l0 2, vget l0 3]) s8) (pIndexAddr 5 (vget l0 0) (vget l0 3) (fun v10 => pLoad w0 5 v10 s8 (fun g11 => AC Tryd.prog w0 n_spec_l3Text ([Value.agg (⟨[g11 0, g11 1, g11 2, g11 3, g11 4]⟩)]) s8 (fun v12 s13 => pBin Tryd.prog 9 BinOp.add (vget l0 2) v12 (fun v14 => pBin Tryd.prog 3 BinOp.add (vget l0 3) (Value.int IntKind.i64 1) (fun v15 => K1 AX.normal [vget l0 0, vget l0 1, v14, v15] s13))))))))))) (K1 (AX.exit 0) [vget l0 0, vget l0 1, vget l0 2, vget l0 3] s2)))) ([a0, Value.string ({ data := #[] }), Value.string ({ data := #[] }), Value.int IntKind.i64 0]) σ (fun x16 l17 s18 => match x16 with | .normal => pLenS (vget l17 2) (fun v19 => pBin Tryd.prog 3 BinOp.gtr v19 (Value.int IntKind.i64 6000) (fun v20 => pIf v20 (R (Value.string ({ data := #[] })) s18) (R (vget l17 2) s18))) | .ret => R (vget l17 1) s18 | .exit i21 => (match Nat.beq i21 0 with | true => pLenS (vget l17 2) (fun v22 => pBin Tryd.prog 3 BinOp.gtr v22 (Value.int IntKind.i64 6000) (fun v23 => pIf v23 (R (Value.string ({ data := #[] })) s18) (R (vget l17 2) s18))) | false => False))
theorem vc_spec_LayerWrite_eq (w0 : World) (a0 : Value) (σ : Vw) (R : Value → Vw → Prop) : vc_spec_LayerWrite w0 a0 σ R = den Tryd.prog w0 kp_spec_LayerWrite esc_spec_LayerWrite (Tryd.f15.body.getD .skip) (entry Tryd.f15.ntmps [a0]) σ (retK Tryd.prog Tryd.f15.results.toList R) := by kernel_rfl
theorem ac_spec_LayerWrite {w0 : World} {a0 : Value} {σ : Vw} {R : Value → Vw → Prop} (h : vc_spec_LayerWrite w0 a0 σ R) : AC Tryd.prog w0 n_spec_LayerWrite [a0] σ R := by
  refine ac_rule (fn := Tryd.f15) (c := Tryd.f15.body.getD .skip) kp_spec_LayerWrite esc_spec_LayerWrite Tryd.func15 (by kernel_rfl) (by kernel_rfl) ?_
  rw [← vc_spec_LayerWrite_eq]
  exact h

/-- laws.toEntryS -/
def kp_laws_toEntryS : Nat → Keep
  | 3 => ⟨[0, 3, 4], [], [], .done, []⟩
  | _ => ⟨[], [], [], .done, []⟩
def esc_laws_toEntryS : Nat → Bool
  | _ => false
def vc_laws_toEntryS (w0 : World) (a0 : Value) (σ : Vw) (R : Value → Vw → Prop) : Prop :=
  pLen a0 (fun v0 => pMake w0 69 5 64 ([Value.slice Option.none 0 0, Value.int IntKind.i64 0, Value.bool false, Value.int IntKind.i64 0, Value.string ({ data := #[] })]) v0 v0 σ (fun v1 s2 => pLoop (fun l3 K4 s5 => pLen (vget l3 0) (fun v6 => pBin Tryd.prog 3 BinOp.lss (vget l3 2) v6 (fun v7 => pIf v7 (pIndexAddr 5 (vget l3 0) (vget l3 2) (fun v8 => pLoad w0 5 v8 s5 (fun g9 => AC Tryd.prog w0 n_laws_toEntry ([Value.agg (⟨[g9 0, g9 1, g9 2, g9 3, g9 4]⟩)]) s5 (fun v10 s11 => pIndexAddr 5 (vget l3 1) (vget l3 2) (fun v12 => pVal true 5 v10 (pStore v12 [cellOf v10 0, cellOf v10 1, cellOf v10 2, cellOf v10 3, cellOf v10 4] s11 (fun s13 => pBin Tryd.prog 3 BinOp.add (vget l3 2) (Value.int IntKind.i64 1) (fun v14 => K4 AX.normal [vget l3 0, vget l3 1, v14] s13)))))))) (K4 (AX.exit 0) [vget l3 0, vget l3 1, vget l3 2] s5)))) [a0, v1, Value.int IntKind.i64 0] s2 (fun x15 l16 s17 => match x15 with | .normal => R (vget l16 1) s17 | .ret => False | .exit i18 => (match Nat.beq i18 0 with | true => R (vget l16 1) s17 | false => False))))
theorem vc_laws_toEntryS_eq (w0 : World) (a0 : Value) (σ : Vw) (R : Value → Vw → Prop) : vc_laws_toEntryS w0 a0 σ R = den Tryd.prog w0 kp_laws_toEntryS esc_laws_toEntryS (Tryd.f16.body.getD .skip) (entry Tryd.f16.ntmps [a0]) σ (retK Tryd.prog Tryd.f16.results.toList R) := by kernel_rfl
theorem ac_laws_toEntryS {w0 : World} {a0 : Value} {σ : Vw} {R : Value → Vw → Prop} (h : vc_laws_toEntryS w0 a0 σ R) : AC Tryd.prog w0 n_laws_toEntryS [a0] σ R := by
  refine ac_rule (fn := Tryd.f16) (c := Tryd.f16.body.getD .skip) kp_laws_toEntryS esc_laws_toEntryS Tryd.func16 (by kernel_rfl) (by kernel_rfl) ?_
  rw [← vc_laws_toEntryS_eq]
  exact h

/-- impl.LayerWrite -/
def kp_impl_LayerWrite : Nat → Keep
  | 3 => ⟨[2, 3, 8, 9, 10], [], [], .done, []⟩
  | _ => ⟨[], [], [], .done, []⟩
def esc_impl_LayerWrite : Nat → Bool
  | 7 => true
  | _ => false
def vc_impl_LayerWrite (w0 : World) (a0 : Value) (σ : Vw) (R : Value → Vw → Prop) : Prop :=
  pVal true 2 (Value.agg (⟨[Value.pointer Option.none, Value.slice Option.none 0 0]⟩)) (pNew w0 75 [Value.pointer Option.none, Value.slice Option.none 0 0] σ (fun n0 s1 => pLen a0 (fun v2 => pLoop (fun l3 K4 s5 => pBin Tryd.prog 3 BinOp.lss (vget l3 4) (vget l3 3) (fun v6 => pIf v6 (pIndexAddr 5 (vget l3 2) (vget l3 4) (fun v7 => pLoad w0 5 v7 s5 (fun g8 => pVal true 5 (Value.agg (⟨[g8 0, g8 1, g8 2, g8 3, g8 4]⟩)) (AC Tryd.prog w0 n_impl_entryOk ([Value.agg (⟨[g8 0, g8 1, g8 2, g8 3, g8 4]⟩)]) s5 (fun v9 s10 => pUn UnOp.not v9 (fun v11 => pIf v11 (K4 AX.ret ([Value.string ({ data := #[] }), vget l3 1, vget l3 2, vget l3 3, vget l3 4]) s10) (AC Tryd.prog w0 n_impl_Entry_line ([Value.agg (⟨[g8 0, g8 1, g8 2, g8 3, g8 4]⟩)]) s10 (fun v12 s13 => AC Tryd.prog w0 n_p_strings_Builder_WriteString [vget l3 1, v12] s13 (fun v14 s15 => pBin Tryd.prog 3 BinOp.add (vget l3 4) (Value.int IntKind.i64 1) (fun v16 => K4 AX.normal [vget l3 0, vget l3 1, vget l3 2, vget l3 3, v16] s15)))))))))) (K4 (AX.exit 0) [vget l3 0, vget l3 1, vget l3 2, vget l3 3, vget l3 4] s5))) ([Value.string ({ data := #[] }), Value.pointer (Option.some (Addr.mk n0 0 Option.none)), a0, v2, Value.int IntKind.i64 0]) s1 (fun x17 l18 s19 => match x17 with | .normal => AC Tryd.prog w0 n_p_strings_Builder_Len [vget l18 1] s19 (fun v20 s21 => pBin Tryd.prog 3 BinOp.gtr v20 (Value.int IntKind.i64 6000) (fun v22 => pIf v22 (R (Value.string ({ data := #[] })) s21) (AC Tryd.prog w0 n_p_strings_Builder_String [vget l18 1] s21 (fun v23 s24 => R v23 s24)))) | .ret => R (vget l18 0) s19 | .exit i25 => (match Nat.beq i25 0 with | true => AC Tryd.prog w0 n_p_strings_Builder_Len [vget l18 1] s19 (fun v26 s27 => pBin Tryd.prog 3 BinOp.gtr v26 (Value.int IntKind.i64 6000) (fun v28 => pIf v28 (R (Value.string ({ data := #[] })) s27) (AC Tryd.prog w0 n_p_strings_Builder_String [vget l18 1] s27 (fun v29 s30 => R v29 s30)))) | false => False)))))
theorem vc_impl_LayerWrite_eq (w0 : World) (a0 : Value) (σ : Vw) (R : Value → Vw → Prop) : vc_impl_LayerWrite w0 a0 σ R = den Tryd.prog w0 kp_impl_LayerWrite esc_impl_LayerWrite (Tryd.f17.body.getD .skip) (entry Tryd.f17.ntmps [a0]) σ (retK Tryd.prog Tryd.f17.results.toList R) := by kernel_rfl
theorem ac_impl_LayerWrite {w0 : World} {a0 : Value} {σ : Vw} {R : Value → Vw → Prop} (h : vc_impl_LayerWrite w0 a0 σ R) : AC Tryd.prog w0 n_impl_LayerWrite [a0] σ R := by
  refine ac_rule (fn := Tryd.f17) (c := Tryd.f17.body.getD .skip) kp_impl_LayerWrite esc_impl_LayerWrite Tryd.func17 (by kernel_rfl) (by kernel_rfl) ?_
  rw [← vc_impl_LayerWrite_eq]
  exact h

/-- laws.eqEntryS -/
def kp_laws_eqEntryS : Nat → Keep
  | 4 => ⟨[0, 1, 4, 5], [], [], .done, []⟩
  | 6 => ⟨[], [], [], .step 0 (.step 1 (.step 2 (.step 3 (.step 4 (.step 5 (.step 6 (.step 7 (.step 8 (.step 9 (.done)))))))))), [(2, [0, 1]), (3, [0, 1, 2]), (6, [4, 5]), (7, [4, 5, 6]), (8, [0, 1, 2, 3, 4, 5, 6, 7]), (9, [0, 1, 2, 3, 4, 5, 6, 7, 8])]⟩
  | _ => ⟨[], [], [], .done, []⟩
def esc_laws_eqEntryS : Nat → Bool
  | _ => false
def vc_laws_eqEntryS (w0 : World) (a0 a1 : Value) (σ : Vw) (R : Value → Vw → Prop) : Prop :=
  pLen a0 (fun v0 => pLen a1 (fun v1 => pBin Tryd.prog 3 BinOp.neq v0 v1 (fun v2 => pIf v2 (R (Value.bool false) σ) (pLoop (fun l3 K4 s5 => pLen (vget l3 0) (fun v6 => pBin Tryd.prog 3 BinOp.lss (vget l3 3) v6 (fun v7 => pIf v7 (pIndexAddr 5 (vget l3 0) (vget l3 3) (fun v8 => pLoad w0 5 v8 s5 (fun g9 => pIndexAddr 5 (vget l3 1) (vget l3 3) (fun v10 => pLoad w0 5 v10 s5 (fun g11 => AC Tryd.prog w0 n_laws_eqEntry ([Value.agg (⟨[g9 0, g9 1, g9 2, g9 3, g9 4]⟩), Value.agg (⟨[g11 0, g11 1, g11 2, g11 3, g11 4]⟩)]) s5 (fun v12 s13 => pUn UnOp.not v12 (fun v14 => pIf v14 (K4 AX.ret [vget l3 0, vget l3 1, Value.bool false, vget l3 3] s13) (pBin Tryd.prog 3 BinOp.add (vget l3 3) (Value.int IntKind.i64 1) (fun v15 => K4 AX.normal [vget l3 0, vget l3 1, vget l3 2, v15] s13))))))))) (K4 (AX.exit 0) [vget l3 0, vget l3 1, vget l3 2, vget l3 3] s5)))) [a0, a1, Value.bool false, Value.int IntKind.i64 0] σ (fun x16 l17 s18 => match x16 with | .normal => R (Value.bool true) s18 | .ret => R (vget l17 2) s18 | .exit i19 => (match Nat.beq i19 0 with | true => R (Value.bool true) s18 | false => False))))))
theorem vc_laws_eqEntryS_eq (w0 : World) (a0 a1 : Value) (σ : Vw) (R : Value → Vw → Prop) : vc_laws_eqEntryS w0 a0 a1 σ R = den Tryd.prog w0 kp_laws_eqEntryS esc_laws_eqEntryS (Tryd.f18.body.getD .skip) (entry Tryd.f18.ntmps [a0, a1]) σ (retK Tryd.prog Tryd.f18.results.toList R) := by kernel_rfl
theorem ac_laws_eqEntryS {w0 : World} {a0 a1 : Value} {σ : Vw} {R : Value → Vw → Prop} (h : vc_laws_eqEntryS w0 a0 a1 σ R) : AC Tryd.prog w0 n_laws_eqEntryS [a0, a1] σ R := by
  refine ac_rule (fn := Tryd.f18) (c := Tryd.f18.body.getD .skip) kp_laws_eqEntryS esc_laws_eqEntryS Tryd.func18 (by kernel_rfl) (by kernel_rfl) ?_
  rw [← vc_laws_eqEntryS_eq]
  exact h

/-- spec.TableId -/
def kp_spec_TableId : Nat → Keep
  | _ => ⟨[], [], [], .done, []⟩
def esc_spec_TableId : Nat → Bool
  | _ => false
def vc_spec_TableId (w0 : World) (a0 : Value) (σ : Vw) (R : Value → Vw → Prop) : Prop :=
  pVal true 5 a0 (AC Tryd.prog w0 n_spec_TreeOk ([Value.agg (⟨[cellOf a0 0, cellOf a0 1, cellOf a0 2, cellOf a0 3, cellOf a0 4]⟩)]) σ (fun v0 s1 => pUn UnOp.not v0 (fun v2 => pIf v2 (R (Value.int IntKind.i64 (-1)) s1) (AC Tryd.prog w0 n_spec_l31Of ([Value.agg (⟨[cellOf a0 0, cellOf a0 1, cellOf a0 2, cellOf a0 3, cellOf a0 4]⟩)]) s1 (fun v3 s4 => R v3 s4)))))
theorem vc_spec_TableId_eq (w0 : World) (a0 : Value) (σ : Vw) (R : Value → Vw → Prop) : vc_spec_TableId w0 a0 σ R = den Tryd.prog w0 kp_spec_TableId esc_spec_TableId (Tryd.f19.body.getD .skip) (entry Tryd.f19.ntmps [a0]) σ (retK Tryd.prog Tryd.f19.results.toList R) := by kernel_rfl
theorem ac_spec_TableId {w0 : World} {a0 : Value} {σ : Vw} {R : Value → Vw → Prop} (h : vc_spec_TableId w0 a0 σ R) : AC Tryd.prog w0 n_spec_TableId [a0] σ R := by
  refine ac_rule (fn := Tryd.f19) (c := Tryd.f19.body.getD .skip) kp_spec_TableId esc_spec_TableId Tryd.func19 (by kernel_rfl) (by kernel_rfl) ?_
  rw [← vc_spec_TableId_eq]
  exact h

/-- impl.TableId -/
def kp_impl_TableId : Nat → Keep
  | _ => ⟨[], [], [], .done, []⟩
def esc_impl_TableId : Nat → Bool
  | _ => false
def vc_impl_TableId (w0 : World) (a0 : Value) (σ : Vw) (R : Value → Vw → Prop) : Prop :=
  pVal true 5 a0 (AC Tryd.prog w0 n_impl_TreeOk ([Value.agg (⟨[cellOf a0 0, cellOf a0 1, cellOf a0 2, cellOf a0 3, cellOf a0 4]⟩)]) σ (fun v0 s1 => pUn UnOp.not v0 (fun v2 => pIf v2 (R (Value.int IntKind.i64 (-1)) s1) (AC Tryd.prog w0 n_impl_Tree_id ([Value.agg (⟨[cellOf a0 0, cellOf a0 1, cellOf a0 2, cellOf a0 3, cellOf a0 4]⟩)]) s1 (fun v3 s4 => R v3 s4)))))
theorem vc_impl_TableId_eq (w0 : World) (a0 : Value) (σ : Vw) (R : Value → Vw → Prop) : vc_impl_TableId w0 a0 σ R = den Tryd.prog w0 kp_impl_TableId esc_impl_TableId (Tryd.f20.body.getD .skip) (entry Tryd.f20.ntmps [a0]) σ (retK Tryd.prog Tryd.f20.results.toList R) := by kernel_rfl
theorem ac_impl_TableId {w0 : World} {a0 : Value} {σ : Vw} {R : Value → Vw → Prop} (h : vc_impl_TableId w0 a0 σ R) : AC Tryd.prog w0 n_impl_TableId [a0] σ R := by
  refine ac_rule (fn := Tryd.f20) (c := Tryd.f20.body.getD .skip) kp_impl_TableId esc_impl_TableId Tryd.func20 (by kernel_rfl) (by kernel_rfl) ?_
  rw [← vc_impl_TableId_eq]
  exact h

/-- spec.TrailRead -/
def kp_spec_TrailRead : Nat → Keep
  | 4 => ⟨[0, 2, 3, 4, 5, 6], [], [], .done, []⟩
  | _ => ⟨[], [], [], .done, []⟩
def esc_spec_TrailRead : Nat → Bool
  | 9 => true
  | 56 => true
  | 85 => true
  | _ => false
def vc_spec_TrailRead (w0 : World) (a0 : Value) (σ : Vw) (R : Value → Vw → Prop) : Prop :=
  pNew w0 84 [] σ (fun n0 s1 => AC Tryd.prog w0 n_spec_l1Cut [a0, Value.int IntKind.u8 10] s1 (fun v2 s3 => pLoop (fun l4 K5 s6 => pBin Tryd.prog 3 BinOp.add (vget l4 5) (Value.int IntKind.i64 1) (fun v7 => pLen (vget l4 4) (fun v8 => pBin Tryd.prog 3 BinOp.lss v7 v8 (fun v9 => pIf v9 (pBin Tryd.prog 3 BinOp.leq (vget l4 5) (Value.int IntKind.i64 6) (fun v10 => pIf v10 (pIndexAddr 1 (vget l4 4) (vget l4 5) (fun v11 => pLoad w0 1 v11 s6 (fun g12 => AC Tryd.prog w0 n_spec_l1Cut [g12 0, Value.int IntKind.u8 32] s6 (fun v13 s14 => pLen v13 (fun v15 => pBin Tryd.prog 3 BinOp.neq v15 (Value.int IntKind.i64 2) (fun v16 => pIf v16 (pNew w0 84 [] s14 (fun n17 s18 => K5 AX.ret [vget l4 0, Value.slice (Option.some (Addr.mk n17 0 Option.none)) 0 0, Value.bool false, vget l4 3, vget l4 4, vget l4 5] s18)) (pIndexAddr 1 v13 (Value.int IntKind.i64 0) (fun v19 => pLoad w0 1 v19 s14 (fun g20 => pBin Tryd.prog 9 BinOp.neq (g20 0) (Value.string ({ data := #[115, 117, 98] })) (fun v21 => pIf v21 (pIndexAddr 1 v13 (Value.int IntKind.i64 0) (fun v22 => pLoad w0 1 v22 s14 (fun g23 => pBin Tryd.prog 9 BinOp.neq (g23 0) (Value.string ({ data := #[97, 116] })) (fun v24 => pIf v24 (pNew w0 84 [] s14 (fun n25 s26 => K5 AX.ret [vget l4 0, Value.slice (Option.some (Addr.mk n25 0 Option.none)) 0 0, Value.bool false, vget l4 3, vget l4 4, vget l4 5] s26)) (pIndexAddr 1 v13 (Value.int IntKind.i64 1) (fun v27 => pLoad w0 1 v27 s14 (fun g28 => pBin Tryd.prog 9 BinOp.eql (g28 0) (Value.string ({ data := #[] })) (fun v29 => pIf v29 (pNew w0 84 [] s14 (fun n30 s31 => K5 AX.ret [vget l4 0, Value.slice (Option.some (Addr.mk n30 0 Option.none)) 0 0, Value.bool false, vget l4 3, vget l4 4, vget l4 5] s31)) (pIndexAddr 1 v13 (Value.int IntKind.i64 1) (fun v32 => pLoad w0 1 v32 s14 (fun g33 => pIndexStr (g33 0) (Value.int IntKind.i64 0) (fun v34 => pBin Tryd.prog 5 BinOp.neq v34 (Value.int IntKind.u8 47) (fun v35 => pIf v35 (pNew w0 84 [] s14 (fun n36 s37 => K5 AX.ret [vget l4 0, Value.slice (Option.some (Addr.mk n36 0 Option.none)) 0 0, Value.bool false, vget l4 3, vget l4 4, vget l4 5] s37)) (pIndexAddr 1 v13 (Value.int IntKind.i64 0) (fun v38 => pLoad w0 1 v38 s14 (fun g39 => pBin Tryd.prog 9 BinOp.eql (g39 0) (Value.string ({ data := #[115, 117, 98] })) (fun v40 => pVal false 1 v40 (pVal true 2 (Value.agg (⟨[Value.slice Option.none 0 0, v40]⟩)) (pIndexAddr 1 v13 (Value.int IntKind.i64 1) (fun v41 => pLoad w0 1 v41 s14 (fun g42 => pBin Tryd.prog 9 BinOp.neq (g42 0) (Value.string ({ data := #[47] })) (fun v43 => pIf v43 (pIndexAddr 1 v13 (Value.int IntKind.i64 1) (fun v44 => pLoad w0 1 v44 s14 (fun g45 => AC Tryd.prog w0 n_spec_l1Cut [g45 0, Value.int IntKind.u8 47] s14 (fun v46 s47 => pSlice 1 v46 (Option.some (Value.int IntKind.i64 1)) Option.none (fun v48 => pVal false 1 v48 (pVal true 2 (Value.agg (⟨[v48, v40]⟩)) ((allOne [v48, v40]) ∧ (pAppend w0 84 2 32 (vget l4 3) 1 [v48, v40] s47 (fun v49 s50 => pBin Tryd.prog 3 BinOp.add (vget l4 5) (Value.int IntKind.i64 1) (fun v51 => K5 AX.normal [vget l4 0, vget l4 1, vget l4 2, v49, vget l4 4, v51] s50)))))))))) (pVal true 2 (Value.agg (⟨[Value.slice Option.none 0 0, v40]⟩)) ((allOne [Value.slice Option.none 0 0, v40]) ∧ (pAppend w0 84 2 32 (vget l4 3) 1 [Value.slice Option.none 0 0, v40] s14 (fun v52 s53 => pBin Tryd.prog 3 BinOp.add (vget l4 5) (Value.int IntKind.i64 1) (fun v54 => K5 AX.normal [vget l4 0, vget l4 1, vget l4 2, v52, vget l4 4, v54] s53))))))))))))))))))))))))))) (pIndexAddr 1 v13 (Value.int IntKind.i64 1) (fun v55 => pLoad w0 1 v55 s14 (fun g56 => pBin Tryd.prog 9 BinOp.eql (g56 0) (Value.string ({ data := #[] })) (fun v57 => pIf v57 (pNew w0 84 [] s14 (fun n58 s59 => K5 AX.ret [vget l4 0, Value.slice (Option.some (Addr.mk n58 0 Option.none)) 0 0, Value.bool false, vget l4 3, vget l4 4, vget l4 5] s59)) (pIndexAddr 1 v13 (Value.int IntKind.i64 1) (fun v60 => pLoad w0 1 v60 s14 (fun g61 => pIndexStr (g61 0) (Value.int IntKind.i64 0) (fun v62 => pBin Tryd.prog 5 BinOp.neq v62 (Value.int IntKind.u8 47) (fun v63 => pIf v63 (pNew w0 84 [] s14 (fun n64 s65 => K5 AX.ret [vget l4 0, Value.slice (Option.some (Addr.mk n64 0 Option.none)) 0 0, Value.bool false, vget l4 3, vget l4 4, vget l4 5] s65)) (pIndexAddr 1 v13 (Value.int IntKind.i64 0) (fun v66 => pLoad w0 1 v66 s14 (fun g67 => pBin Tryd.prog 9 BinOp.eql (g67 0) (Value.string ({ data := #[115, 117, 98] })) (fun v68 => pVal false 1 v68 (pVal true 2 (Value.agg (⟨[Value.slice Option.none 0 0, v68]⟩)) (pIndexAddr 1 v13 (Value.int IntKind.i64 1) (fun v69 => pLoad w0 1 v69 s14 (fun g70 => pBin Tryd.prog 9 BinOp.neq (g70 0) (Value.string ({ data := #[47] })) (fun v71 => pIf v71 (pIndexAddr 1 v13 (Value.int IntKind.i64 1) (fun v72 => pLoad w0 1 v72 s14 (fun g73 => AC Tryd.prog w0 n_spec_l1Cut [g73 0, Value.int IntKind.u8 47] s14 (fun v74 s75 => pSlice 1 v74 (Option.some (Value.int IntKind.i64 1)) Option.none (fun v76 => pVal false 1 v76 (pVal true 2 (Value.agg (⟨[v76, v68]⟩)) ((allOne [v76, v68]) ∧ (pAppend w0 84 2 32 (vget l4 3) 1 [v76, v68] s75 (fun v77 s78 => pBin Tryd.prog 3 BinOp.add (vget l4 5) (Value.int IntKind.i64 1) (fun v79 => K5 AX.normal [vget l4 0, vget l4 1, vget l4 2, v77, vget l4 4, v79] s78)))))))))) (pVal true 2 (Value.agg (⟨[Value.slice Option.none 0 0, v68]⟩)) ((allOne [Value.slice Option.none 0 0, v68]) ∧ (pAppend w0 84 2 32 (vget l4 3) 1 [Value.slice Option.none 0 0, v68] s14 (fun v80 s81 => pBin Tryd.prog 3 BinOp.add (vget l4 5) (Value.int IntKind.i64 1) (fun v82 => K5 AX.normal [vget l4 0, vget l4 1, vget l4 2, v80, vget l4 4, v82] s81))))))))))))))))))))))))))))))))) (K5 (AX.exit 0) [vget l4 0, vget l4 1, vget l4 2, vget l4 3, vget l4 4, vget l4 5] s6))) (K5 (AX.exit 0) [vget l4 0, vget l4 1, vget l4 2, vget l4 3, vget l4 4, vget l4 5] s6))))) [a0, Value.slice Option.none 0 0, Value.bool false, Value.slice (Option.some (Addr.mk n0 0 Option.none)) 0 0, v2, Value.int IntKind.i64 0] s3 (fun x83 l84 s85 => match x83 with | .normal => AC Tryd.prog w0 n_spec_TrailOk [vget l84 3] s85 (fun v86 s87 => pUn UnOp.not v86 (fun v88 => pIf v88 (pNew w0 84 [] s87 (fun n89 s90 => R (Value.tuple (⟨[Value.slice (Option.some (Addr.mk n89 0 Option.none)) 0 0, Value.bool false]⟩)) s90)) (AC Tryd.prog w0 n_spec_TrailShow [vget l84 3] s87 (fun v91 s92 => pBin Tryd.prog 9 BinOp.neq v91 (vget l84 0) (fun v93 => pIf v93 (pNew w0 84 [] s92 (fun n94 s95 => R (Value.tuple (⟨[Value.slice (Option.some (Addr.mk n94 0 Option.none)) 0 0, Value.bool false]⟩)) s95)) (AC Tryd.prog w0 n_spec_l11Copy [vget l84 3] s92 (fun v96 s97 => R (Value.tuple (⟨[v96, Value.bool true]⟩)) s97))))))) | .ret => R (Value.tuple (⟨[vget l84 1, vget l84 2]⟩)) s85 | .exit i98 => (match Nat.beq i98 0 with | true => AC Tryd.prog w0 n_spec_TrailOk [vget l84 3] s85 (fun v99 s100 => pUn UnOp.not v99 (fun v101 => pIf v101 (pNew w0 84 [] s100 (fun n102 s103 => R (Value.tuple (⟨[Value.slice (Option.some (Addr.mk n102 0 Option.none)) 0 0, Value.bool false]⟩)) s103)) (AC Tryd.prog w0 n_spec_TrailShow [vget l84 3] s100 (fun v104 s105 => pBin Tryd.prog 9 BinOp.neq v104 (vget l84 0) (fun v106 => pIf v106 (pNew w0 84 [] s105 (fun n107 s108 => R (Value.tuple (⟨[Value.slice (Option.some (Addr.mk n107 0 Option.none)) 0 0, Value.bool false]⟩)) s108)) (AC Tryd.prog w0 n_spec_l11Copy [vget l84 3] s105 (fun v109 s110 => R (Value.tuple (⟨[v109, Value.bool true]⟩)) s110))))))) | false => False))))
theorem vc_spec_TrailRead_eq (w0 : World) (a0 : Value) (σ : Vw) (R : Value → Vw → Prop) : vc_spec_TrailRead w0 a0 σ R = den Tryd.prog w0 kp_spec_TrailRead esc_spec_TrailRead (Tryd.f21.body.getD .skip) (entry Tryd.f21.ntmps [a0]) σ (retK Tryd.prog Tryd.f21.results.toList R) := by kernel_rfl
theorem ac_spec_TrailRead {w0 : World} {a0 : Value} {σ : Vw} {R : Value → Vw → Prop} (h : vc_spec_TrailRead w0 a0 σ R) : AC Tryd.prog w0 n_spec_TrailRead [a0] σ R := by
  refine ac_rule (fn := Tryd.f21) (c := Tryd.f21.body.getD .skip) kp_spec_TrailRead esc_spec_TrailRead Tryd.func21 (by kernel_rfl) (by kernel_rfl) ?_
  rw [← vc_spec_TrailRead_eq]
  exact h

/-- impl.TrailRead -/
def kp_impl_TrailRead : Nat → Keep
  | 3 => ⟨[0, 4, 12, 13, 14], [], [], .done, []⟩
  | _ => ⟨[], [], [], .done, []⟩
def esc_impl_TrailRead : Nat → Bool
  | 10 => true
  | 42 => true
  | _ => false
def vc_impl_TrailRead (w0 : World) (a0 : Value) (σ : Vw) (R : Value → Vw → Prop) : Prop :=
  pNew w0 84 [] σ (fun n0 s1 => AC Tryd.prog w0 n_impl_linesOf [a0] s1 (fun v2 s3 => pLen v2 (fun v4 => pLoop (fun l5 K6 s7 => pBin Tryd.prog 3 BinOp.lss (vget l5 4) (vget l5 3) (fun v8 => pIf v8 (pIndexAddr 1 (vget l5 2) (vget l5 4) (fun v9 => pLoad w0 1 v9 s7 (fun g10 => AC Tryd.prog w0 n_strings_Cut ([g10 0, Value.string ({ data := #[32] })]) s7 (fun v11 s12 => pExtract v11 0 (fun v13 => pExtract v11 1 (fun v14 => pExtract v11 2 (fun v15 => AC Tryd.prog w0 n_impl_pathRead [v14] s12 (fun v16 s17 => pBin Tryd.prog 9 BinOp.eql v13 (Value.string ({ data := #[115, 117, 98] })) (fun v18 => pVal false 1 v16 (pVal false 1 v18 (pVal true 2 (Value.agg (⟨[v16, v18]⟩)) ((allOne [v16, v18]) ∧ (pAppend w0 84 2 32 (vget l5 1) 1 [v16, v18] s17 (fun v19 s20 => pBin Tryd.prog 3 BinOp.add (vget l5 4) (Value.int IntKind.i64 1) (fun v21 => K6 AX.normal [vget l5 0, v19, vget l5 2, vget l5 3, v21] s20))))))))))))))) (K6 (AX.exit 0) [vget l5 0, vget l5 1, vget l5 2, vget l5 3, vget l5 4] s7))) [a0, Value.slice (Option.some (Addr.mk n0 0 Option.none)) 0 0, v2, v4, Value.int IntKind.i64 0] s3 (fun x22 l23 s24 => match x22 with | .normal => AC Tryd.prog w0 n_impl_TrailOk [vget l23 1] s24 (fun v25 s26 => pUn UnOp.not v25 (fun v27 => pIf v27 (pNew w0 84 [] s26 (fun n28 s29 => R (Value.tuple (⟨[Value.slice (Option.some (Addr.mk n28 0 Option.none)) 0 0, Value.bool false]⟩)) s29)) (AC Tryd.prog w0 n_impl_TrailShow [vget l23 1] s26 (fun v30 s31 => pBin Tryd.prog 9 BinOp.neq v30 (vget l23 0) (fun v32 => pIf v32 (pNew w0 84 [] s31 (fun n33 s34 => R (Value.tuple (⟨[Value.slice (Option.some (Addr.mk n33 0 Option.none)) 0 0, Value.bool false]⟩)) s34)) (R (Value.tuple (⟨[vget l23 1, Value.bool true]⟩)) s31)))))) | .ret => False | .exit i35 => (match Nat.beq i35 0 with | true => AC Tryd.prog w0 n_impl_TrailOk [vget l23 1] s24 (fun v36 s37 => pUn UnOp.not v36 (fun v38 => pIf v38 (pNew w0 84 [] s37 (fun n39 s40 => R (Value.tuple (⟨[Value.slice (Option.some (Addr.mk n39 0 Option.none)) 0 0, Value.bool false]⟩)) s40)) (AC Tryd.prog w0 n_impl_TrailShow [vget l23 1] s37 (fun v41 s42 => pBin Tryd.prog 9 BinOp.neq v41 (vget l23 0) (fun v43 => pIf v43 (pNew w0 84 [] s42 (fun n44 s45 => R (Value.tuple (⟨[Value.slice (Option.some (Addr.mk n44 0 Option.none)) 0 0, Value.bool false]⟩)) s45)) (R (Value.tuple (⟨[vget l23 1, Value.bool true]⟩)) s42)))))) | false => False)))))
theorem vc_impl_TrailRead_eq (w0 : World) (a0 : Value) (σ : Vw) (R : Value → Vw → Prop) : vc_impl_TrailRead w0 a0 σ R = den Tryd.prog w0 kp_impl_TrailRead esc_impl_TrailRead (Tryd.f22.body.getD .skip) (entry Tryd.f22.ntmps [a0]) σ (retK Tryd.prog Tryd.f22.results.toList R) := by kernel_rfl
theorem ac_impl_TrailRead {w0 : World} {a0 : Value} {σ : Vw} {R : Value → Vw → Prop} (h : vc_impl_TrailRead w0 a0 σ R) : AC Tryd.prog w0 n_impl_TrailRead [a0] σ R := by
  refine ac_rule (fn := Tryd.f22) (c := Tryd.f22.body.getD .skip) kp_impl_TrailRead esc_impl_TrailRead Tryd.func22 (by kernel_rfl) (by kernel_rfl) ?_
  rw [← vc_impl_TrailRead_eq]
  exact h

/-- laws.eqMarkS -/
def kp_laws_eqMarkS : Nat → Keep
  | 4 => ⟨[0, 1, 4, 5], [], [], .done, []⟩
  | 6 => ⟨[], [], [], .step 0 (.step 1 (.step 2 (.step 3 (.step 4 (.step 5 (.step 6 (.step 7 (.step 8 (.step 9 (.done)))))))))), [(2, [0, 1]), (3, [0, 1, 2]), (6, [4, 5]), (7, [4, 5, 6]), (8, [0, 1, 2, 3, 4, 5, 6, 7]), (9, [0, 1, 2, 3, 4, 5, 6, 7, 8])]⟩
  | _ => ⟨[], [], [], .done, []⟩
def esc_laws_eqMarkS : Nat → Bool
  | _ => false
def vc_laws_eqMarkS (w0 : World) (a0 a1 : Value) (σ : Vw) (R : Value → Vw → Prop) : Prop :=
  pLen a0 (fun v0 => pLen a1 (fun v1 => pBin Tryd.prog 3 BinOp.neq v0 v1 (fun v2 => pIf v2 (R (Value.bool false) σ) (pLoop (fun l3 K4 s5 => pLen (vget l3 0) (fun v6 => pBin Tryd.prog 3 BinOp.lss (vget l3 3) v6 (fun v7 => pIf v7 (pIndexAddr 2 (vget l3 0) (vget l3 3) (fun v8 => pLoad w0 2 v8 s5 (fun g9 => pIndexAddr 2 (vget l3 1) (vget l3 3) (fun v10 => pLoad w0 2 v10 s5 (fun g11 => AC Tryd.prog w0 n_laws_eqMark ([Value.agg (⟨[g9 0, g9 1]⟩), Value.agg (⟨[g11 0, g11 1]⟩)]) s5 (fun v12 s13 => pUn UnOp.not v12 (fun v14 => pIf v14 (K4 AX.ret [vget l3 0, vget l3 1, Value.bool false, vget l3 3] s13) (pBin Tryd.prog 3 BinOp.add (vget l3 3) (Value.int IntKind.i64 1) (fun v15 => K4 AX.normal [vget l3 0, vget l3 1, vget l3 2, v15] s13))))))))) (K4 (AX.exit 0) [vget l3 0, vget l3 1, vget l3 2, vget l3 3] s5)))) [a0, a1, Value.bool false, Value.int IntKind.i64 0] σ (fun x16 l17 s18 => match x16 with | .normal => R (Value.bool true) s18 | .ret => R (vget l17 2) s18 | .exit i19 => (match Nat.beq i19 0 with | true => R (Value.bool true) s18 | false => False))))))
theorem vc_laws_eqMarkS_eq (w0 : World) (a0 a1 : Value) (σ : Vw) (R : Value → Vw → Prop) : vc_laws_eqMarkS w0 a0 a1 σ R = den Tryd.prog w0 kp_laws_eqMarkS esc_laws_eqMarkS (Tryd.f23.body.getD .skip) (entry Tryd.f23.ntmps [a0, a1]) σ (retK Tryd.prog Tryd.f23.results.toList R) := by kernel_rfl
theorem ac_laws_eqMarkS {w0 : World} {a0 a1 : Value} {σ : Vw} {R : Value → Vw → Prop} (h : vc_laws_eqMarkS w0 a0 a1 σ R) : AC Tryd.prog w0 n_laws_eqMarkS [a0, a1] σ R := by
  refine ac_rule (fn := Tryd.f23) (c := Tryd.f23.body.getD .skip) kp_laws_eqMarkS esc_laws_eqMarkS Tryd.func23 (by kernel_rfl) (by kernel_rfl) ?_
  rw [← vc_laws_eqMarkS_eq]
  exact h

/-- laws.markMarkS -/
def kp_laws_markMarkS : Nat → Keep
  | 2 => ⟨[0, 1, 5], [], [], .done, []⟩
  | _ => ⟨[], [], [], .done, []⟩
def esc_laws_markMarkS : Nat → Bool
  | _ => false
def vc_laws_markMarkS (w0 : World) (a0 a1 : Value) (σ : Vw) (R : Value → Vw → Prop) : Prop :=
  pLoop (fun l0 K1 s2 => pLen (vget l0 0) (fun v3 => pBin Tryd.prog 3 BinOp.lss (vget l0 2) v3 (fun v4 => pIf v4 (pIndexAddr 2 (vget l0 0) (vget l0 2) (fun v5 => pField 0 v5 (fun v6 => pLoad w0 1 v6 s2 (fun g7 => AC Tryd.prog w0 n_laws_markStringS [g7 0, vget l0 1] s2 (fun v8 s9 => pBin Tryd.prog 3 BinOp.rem v8 (Value.int IntKind.i64 3) (fun v10 => pBin Tryd.prog 3 BinOp.eql v10 (Value.int IntKind.i64 0) (fun v11 => pIndexAddr 2 (vget l0 0) (vget l0 2) (fun v12 => pField 1 v12 (fun v13 => pVal false 1 v11 (pStore v13 [v11] s9 (fun s14 => pBin Tryd.prog 3 BinOp.add v8 (Value.int IntKind.i64 1) (fun v15 => pBin Tryd.prog 3 BinOp.add (vget l0 2) (Value.int IntKind.i64 1) (fun v16 => K1 AX.normal [vget l0 0, v15, v16] s14))))))))))))) (K1 (AX.exit 0) [vget l0 0, vget l0 1, vget l0 2] s2)))) [a0, a1, Value.int IntKind.i64 0] σ (fun x17 l18 s19 => match x17 with | .normal => R (vget l18 1) s19 | .ret => False | .exit i20 => (match Nat.beq i20 0 with | true => R (vget l18 1) s19 | false => False))
theorem vc_laws_markMarkS_eq (w0 : World) (a0 a1 : Value) (σ : Vw) (R : Value → Vw → Prop) : vc_laws_markMarkS w0 a0 a1 σ R = den Tryd.prog w0 kp_laws_markMarkS esc_laws_markMarkS (Tryd.f24.body.getD .skip) (entry Tryd.f24.ntmps [a0, a1]) σ (retK Tryd.prog Tryd.f24.results.toList R) := by kernel_rfl
theorem ac_laws_markMarkS {w0 : World} {a0 a1 : Value} {σ : Vw} {R : Value → Vw → Prop} (h : vc_laws_markMarkS w0 a0 a1 σ R) : AC Tryd.prog w0 n_laws_markMarkS [a0, a1] σ R := by
  refine ac_rule (fn := Tryd.f24) (c := Tryd.f24.body.getD .skip) kp_laws_markMarkS esc_laws_markMarkS Tryd.func24 (by kernel_rfl) (by kernel_rfl) ?_
  rw [← vc_laws_markMarkS_eq]
  exact h

/-- laws.heldMarkS -/
def kp_laws_heldMarkS : Nat → Keep
  | 2 => ⟨[0, 1, 4, 5], [], [], .done, []⟩
  | _ => ⟨[], [], [], .done, []⟩
def esc_laws_heldMarkS : Nat → Bool
  | _ => false
def vc_laws_heldMarkS (w0 : World) (a0 a1 : Value) (σ : Vw) (R : Value → Vw → Prop) : Prop :=
  pLoop (fun l0 K1 s2 => pLen (vget l0 0) (fun v3 => pBin Tryd.prog 3 BinOp.lss (vget l0 3) v3 (fun v4 => pIf v4 (pIndexAddr 2 (vget l0 0) (vget l0 3) (fun v5 => pField 0 v5 (fun v6 => pLoad w0 1 v6 s2 (fun g7 => AC Tryd.prog w0 n_laws_heldStringS [g7 0, vget l0 1] s2 (fun v8 s9 => pBin Tryd.prog 3 BinOp.lss v8 (Value.int IntKind.i64 0) (fun v10 => pIf v10 (K1 AX.ret [vget l0 0, v8, Value.int IntKind.i64 (-1), vget l0 3] s9) (pIndexAddr 2 (vget l0 0) (vget l0 3) (fun v11 => pField 1 v11 (fun v12 => pLoad w0 1 v12 s9 (fun g13 => pBin Tryd.prog 3 BinOp.rem v8 (Value.int IntKind.i64 3) (fun v14 => pBin Tryd.prog 3 BinOp.eql v14 (Value.int IntKind.i64 0) (fun v15 => pBin Tryd.prog 4 BinOp.neq (g13 0) v15 (fun v16 => pIf v16 (K1 AX.ret [vget l0 0, v8, Value.int IntKind.i64 (-1), vget l0 3] s9) (pBin Tryd.prog 3 BinOp.add v8 (Value.int IntKind.i64 1) (fun v17 => pBin Tryd.prog 3 BinOp.add (vget l0 3) (Value.int IntKind.i64 1) (fun v18 => K1 AX.normal [vget l0 0, v17, vget l0 2, v18] s9)))))))))))))))) (K1 (AX.exit 0) [vget l0 0, vget l0 1, vget l0 2, vget l0 3] s2)))) [a0, a1, Value.int IntKind.i64 0, Value.int IntKind.i64 0] σ (fun x19 l20 s21 => match x19 with | .normal => R (vget l20 1) s21 | .ret => R (vget l20 2) s21 | .exit i22 => (match Nat.beq i22 0 with | true => R (vget l20 1) s21 | false => False))
theorem vc_laws_heldMarkS_eq (w0 : World) (a0 a1 : Value) (σ : Vw) (R : Value → Vw → Prop) : vc_laws_heldMarkS w0 a0 a1 σ R = den Tryd.prog w0 kp_laws_heldMarkS esc_laws_heldMarkS (Tryd.f25.body.getD .skip) (entry Tryd.f25.ntmps [a0, a1]) σ (retK Tryd.prog Tryd.f25.results.toList R) := by kernel_rfl
theorem ac_laws_heldMarkS {w0 : World} {a0 a1 : Value} {σ : Vw} {R : Value → Vw → Prop} (h : vc_laws_heldMarkS w0 a0 a1 σ R) : AC Tryd.prog w0 n_laws_heldMarkS [a0, a1] σ R := by
  refine ac_rule (fn := Tryd.f25) (c := Tryd.f25.body.getD .skip) kp_laws_heldMarkS esc_laws_heldMarkS Tryd.func25 (by kernel_rfl) (by kernel_rfl) ?_
  rw [← vc_laws_heldMarkS_eq]
  exact h

/-- spec.TableMake -/
def kp_spec_TableMake : Nat → Keep
  | _ => ⟨[], [], [], .done, []⟩
def esc_spec_TableMake : Nat → Bool
  | 6 => true
  | 7 => true
  | _ => false
def vc_spec_TableMake (w0 : World) (a0 : Value) (σ : Vw) (R : Value → Vw → Prop) : Prop :=
  pVal true 5 a0 (AC Tryd.prog w0 n_spec_TreeOk ([Value.agg (⟨[cellOf a0 0, cellOf a0 1, cellOf a0 2, cellOf a0 3, cellOf a0 4]⟩)]) σ (fun v0 s1 => pUn UnOp.not v0 (fun v2 => pIf v2 (pNew w0 96 [] s1 (fun n3 s4 => R (Value.slice (Option.some (Addr.mk n3 0 Option.none)) 0 0) s4)) (pNew w0 9 [] s1 (fun n5 s6 => AC Tryd.prog w0 n_spec_l31Rows ([Value.slice (Option.some (Addr.mk n5 0 Option.none)) 0 0, Value.agg (⟨[cellOf a0 0, cellOf a0 1, cellOf a0 2, cellOf a0 3, cellOf a0 4]⟩)]) s6 (fun v7 s8 => R v7 s8))))))
theorem vc_spec_TableMake_eq (w0 : World) (a0 : Value) (σ : Vw) (R : Value → Vw → Prop) : vc_spec_TableMake w0 a0 σ R = den Tryd.prog w0 kp_spec_TableMake esc_spec_TableMake (Tryd.f26.body.getD .skip) (entry Tryd.f26.ntmps [a0]) σ (retK Tryd.prog Tryd.f26.results.toList R) := by kernel_rfl
theorem ac_spec_TableMake {w0 : World} {a0 : Value} {σ : Vw} {R : Value → Vw → Prop} (h : vc_spec_TableMake w0 a0 σ R) : AC Tryd.prog w0 n_spec_TableMake [a0] σ R := by
  refine ac_rule (fn := Tryd.f26) (c := Tryd.f26.body.getD .skip) kp_spec_TableMake esc_spec_TableMake Tryd.func26 (by kernel_rfl) (by kernel_rfl) ?_
  rw [← vc_spec_TableMake_eq]
  exact h

/-- impl.TableMake -/
def kp_impl_TableMake : Nat → Keep
  | _ => ⟨[], [], [], .done, []⟩
def esc_impl_TableMake : Nat → Bool
  | 6 => true
  | _ => false
def vc_impl_TableMake (w0 : World) (a0 : Value) (σ : Vw) (R : Value → Vw → Prop) : Prop :=
  pVal true 5 a0 (AC Tryd.prog w0 n_impl_TreeOk ([Value.agg (⟨[cellOf a0 0, cellOf a0 1, cellOf a0 2, cellOf a0 3, cellOf a0 4]⟩)]) σ (fun v0 s1 => pUn UnOp.not v0 (fun v2 => pIf v2 (pNew w0 96 [] s1 (fun n3 s4 => R (Value.slice (Option.some (Addr.mk n3 0 Option.none)) 0 0) s4)) (AC Tryd.prog w0 n_impl_Tree_table ([Value.agg (⟨[cellOf a0 0, cellOf a0 1, cellOf a0 2, cellOf a0 3, cellOf a0 4]⟩)]) s1 (fun v5 s6 => R v5 s6)))))
theorem vc_impl_TableMake_eq (w0 : World) (a0 : Value) (σ : Vw) (R : Value → Vw → Prop) : vc_impl_TableMake w0 a0 σ R = den Tryd.prog w0 kp_impl_TableMake esc_impl_TableMake (Tryd.f27.body.getD .skip) (entry Tryd.f27.ntmps [a0]) σ (retK Tryd.prog Tryd.f27.results.toList R) := by kernel_rfl
theorem ac_impl_TableMake {w0 : World} {a0 : Value} {σ : Vw} {R : Value → Vw → Prop} (h : vc_impl_TableMake w0 a0 σ R) : AC Tryd.prog w0 n_impl_TableMake [a0] σ R := by
  refine ac_rule (fn := Tryd.f27) (c := Tryd.f27.body.getD .skip) kp_impl_TableMake esc_impl_TableMake Tryd.func27 (by kernel_rfl) (by kernel_rfl) ?_
  rw [← vc_impl_TableMake_eq]
  exact h

/-- laws.eqRowS -/
def kp_laws_eqRowS : Nat → Keep
  | 4 => ⟨[0, 1, 4, 5], [], [], .done, []⟩
  | 6 => ⟨[], [], [], .step 0 (.step 1 (.step 2 (.step 3 (.step 4 (.step 5 (.step 6 (.step 7 (.step 8 (.step 9 (.done)))))))))), [(2, [0, 1]), (3, [0, 1, 2]), (6, [4, 5]), (7, [4, 5, 6]), (8, [0, 1, 2, 3, 4, 5, 6, 7]), (9, [0, 1, 2, 3, 4, 5, 6, 7, 8])]⟩
  | _ => ⟨[], [], [], .done, []⟩
def esc_laws_eqRowS : Nat → Bool
  | _ => false
def vc_laws_eqRowS (w0 : World) (a0 a1 : Value) (σ : Vw) (R : Value → Vw → Prop) : Prop :=
  pLen a0 (fun v0 => pLen a1 (fun v1 => pBin Tryd.prog 3 BinOp.neq v0 v1 (fun v2 => pIf v2 (R (Value.bool false) σ) (pLoop (fun l3 K4 s5 => pLen (vget l3 0) (fun v6 => pBin Tryd.prog 3 BinOp.lss (vget l3 3) v6 (fun v7 => pIf v7 (pIndexAddr 5 (vget l3 0) (vget l3 3) (fun v8 => pLoad w0 5 v8 s5 (fun g9 => pIndexAddr 5 (vget l3 1) (vget l3 3) (fun v10 => pLoad w0 5 v10 s5 (fun g11 => AC Tryd.prog w0 n_laws_eqRow ([Value.agg (⟨[g9 0, g9 1, g9 2, g9 3, g9 4]⟩), Value.agg (⟨[g11 0, g11 1, g11 2, g11 3, g11 4]⟩)]) s5 (fun v12 s13 => pUn UnOp.not v12 (fun v14 => pIf v14 (K4 AX.ret [vget l3 0, vget l3 1, Value.bool false, vget l3 3] s13) (pBin Tryd.prog 3 BinOp.add (vget l3 3) (Value.int IntKind.i64 1) (fun v15 => K4 AX.normal [vget l3 0, vget l3 1, vget l3 2, v15] s13))))))))) (K4 (AX.exit 0) [vget l3 0, vget l3 1, vget l3 2, vget l3 3] s5)))) [a0, a1, Value.bool false, Value.int IntKind.i64 0] σ (fun x16 l17 s18 => match x16 with | .normal => R (Value.bool true) s18 | .ret => R (vget l17 2) s18 | .exit i19 => (match Nat.beq i19 0 with | true => R (Value.bool true) s18 | false => False))))))
theorem vc_laws_eqRowS_eq (w0 : World) (a0 a1 : Value) (σ : Vw) (R : Value → Vw → Prop) : vc_laws_eqRowS w0 a0 a1 σ R = den Tryd.prog w0 kp_laws_eqRowS esc_laws_eqRowS (Tryd.f28.body.getD .skip) (entry Tryd.f28.ntmps [a0, a1]) σ (retK Tryd.prog Tryd.f28.results.toList R) := by kernel_rfl
theorem ac_laws_eqRowS {w0 : World} {a0 a1 : Value} {σ : Vw} {R : Value → Vw → Prop} (h : vc_laws_eqRowS w0 a0 a1 σ R) : AC Tryd.prog w0 n_laws_eqRowS [a0, a1] σ R := by
  refine ac_rule (fn := Tryd.f28) (c := Tryd.f28.body.getD .skip) kp_laws_eqRowS esc_laws_eqRowS Tryd.func28 (by kernel_rfl) (by kernel_rfl) ?_
  rw [← vc_laws_eqRowS_eq]
  exact h

/-- laws.markTree -/
def kp_laws_markTree : Nat → Keep
  | _ => ⟨[], [], [], .done, []⟩
def esc_laws_markTree : Nat → Bool
  | _ => false
def vc_laws_markTree (w0 : World) (a0 a1 : Value) (σ : Vw) (R : Value → Vw → Prop) : Prop :=
  pVal true 5 a0 (AC Tryd.prog w0 n_laws_markStringS [cellOf a0 3, a1] σ (fun v0 s1 => AC Tryd.prog w0 n_laws_markTreeS [cellOf a0 4, v0] s1 (fun v2 s3 => R v2 s3)))
theorem vc_laws_markTree_eq (w0 : World) (a0 a1 : Value) (σ : Vw) (R : Value → Vw → Prop) : vc_laws_markTree w0 a0 a1 σ R = den Tryd.prog w0 kp_laws_markTree esc_laws_markTree (Tryd.f29.body.getD .skip) (entry Tryd.f29.ntmps [a0, a1]) σ (retK Tryd.prog Tryd.f29.results.toList R) := by kernel_rfl
theorem ac_laws_markTree {w0 : World} {a0 a1 : Value} {σ : Vw} {R : Value → Vw → Prop} (h : vc_laws_markTree w0 a0 a1 σ R) : AC Tryd.prog w0 n_laws_markTree [a0, a1] σ R := by
  refine ac_rule (fn := Tryd.f29) (c := Tryd.f29.body.getD .skip) kp_laws_markTree esc_laws_markTree Tryd.func29 (by kernel_rfl) (by kernel_rfl) ?_
  rw [← vc_laws_markTree_eq]
  exact h

/-- laws.markRowS -/
def kp_laws_markRowS : Nat → Keep
  | 2 => ⟨[0, 1, 5], [], [], .done, []⟩
  | _ => ⟨[], [], [], .done, []⟩
def esc_laws_markRowS : Nat → Bool
  | _ => false
def vc_laws_markRowS (w0 : World) (a0 a1 : Value) (σ : Vw) (R : Value → Vw → Prop) : Prop :=
  pLoop (fun l0 K1 s2 => pLen (vget l0 0) (fun v3 => pBin Tryd.prog 3 BinOp.lss (vget l0 2) v3 (fun v4 => pIf v4 (pIndexAddr 5 (vget l0 0) (vget l0 2) (fun v5 => pField 0 v5 (fun v6 => pLoad w0 1 v6 s2 (fun g7 => AC Tryd.prog w0 n_laws_markStringS [g7 0, vget l0 1] s2 (fun v8 s9 => pBin Tryd.prog 3 BinOp.rem v8 (Value.int IntKind.i64 3) (fun v10 => pBin Tryd.prog 3 BinOp.eql v10 (Value.int IntKind.i64 0) (fun v11 => pIndexAddr 5 (vget l0 0) (vget l0 2) (fun v12 => pField 1 v12 (fun v13 => pVal false 1 v11 (pStore v13 [v11] s9 (fun s14 => pBin Tryd.prog 3 BinOp.add v8 (Value.int IntKind.i64 1) (fun v15 => pIndexAddr 5 (vget l0 0) (vget l0 2) (fun v16 => pField 2 v16 (fun v17 => pVal false 1 v15 (pStore v17 [v15] s14 (fun s18 => pBin Tryd.prog 3 BinOp.add v15 (Value.int IntKind.i64 1) (fun v19 => AC Tryd.prog w0 n_laws_markText [v19] s18 (fun v20 s21 => pIndexAddr 5 (vget l0 0) (vget l0 2) (fun v22 => pField 3 v22 (fun v23 => pVal false 1 v20 (pStore v23 [v20] s21 (fun s24 => pBin Tryd.prog 3 BinOp.add v19 (Value.int IntKind.i64 1) (fun v25 => pIndexAddr 5 (vget l0 0) (vget l0 2) (fun v26 => pField 4 v26 (fun v27 => pVal false 1 v25 (pStore v27 [v25] s24 (fun s28 => pBin Tryd.prog 3 BinOp.add v25 (Value.int IntKind.i64 1) (fun v29 => pBin Tryd.prog 3 BinOp.add (vget l0 2) (Value.int IntKind.i64 1) (fun v30 => K1 AX.normal [vget l0 0, v29, v30] s28))))))))))))))))))))))))))))) (K1 (AX.exit 0) [vget l0 0, vget l0 1, vget l0 2] s2)))) [a0, a1, Value.int IntKind.i64 0] σ (fun x31 l32 s33 => match x31 with | .normal => R (vget l32 1) s33 | .ret => False | .exit i34 => (match Nat.beq i34 0 with | true => R (vget l32 1) s33 | false => False))
theorem vc_laws_markRowS_eq (w0 : World) (a0 a1 : Value) (σ : Vw) (R : Value → Vw → Prop) : vc_laws_markRowS w0 a0 a1 σ R = den Tryd.prog w0 kp_laws_markRowS esc_laws_markRowS (Tryd.f30.body.getD .skip) (entry Tryd.f30.ntmps [a0, a1]) σ (retK Tryd.prog Tryd.f30.results.toList R) := by kernel_rfl
theorem ac_laws_markRowS {w0 : World} {a0 a1 : Value} {σ : Vw} {R : Value → Vw → Prop} (h : vc_laws_markRowS w0 a0 a1 σ R) : AC Tryd.prog w0 n_laws_markRowS [a0, a1] σ R := by
  refine ac_rule (fn := Tryd.f30) (c := Tryd.f30.body.getD .skip) kp_laws_markRowS esc_laws_markRowS Tryd.func30 (by kernel_rfl) (by kernel_rfl) ?_
  rw [← vc_laws_markRowS_eq]
  exact h

/-- laws.heldRowS -/
def kp_laws_heldRowS : Nat → Keep
  | 2 => ⟨[0, 1, 4, 5], [], [], .done, []⟩
  | 13 => ⟨[], [], [], .step 0 (.step 1 (.step 2 (.step 3 (.step 4 (.step 5 (.step 6 (.step 7 (.done)))))))), [(2, [0, 1]), (3, [0, 1, 2]), (4, [0, 1, 2, 3]), (6, [5]), (7, [0, 1, 2, 3, 4, 5, 6])]⟩
  | _ => ⟨[], [], [], .done, []⟩
def esc_laws_heldRowS : Nat → Bool
  | _ => false
def vc_laws_heldRowS (w0 : World) (a0 a1 : Value) (σ : Vw) (R : Value → Vw → Prop) : Prop :=
  pLoop (fun l0 K1 s2 => pLen (vget l0 0) (fun v3 => pBin Tryd.prog 3 BinOp.lss (vget l0 3) v3 (fun v4 => pIf v4 (pIndexAddr 5 (vget l0 0) (vget l0 3) (fun v5 => pField 0 v5 (fun v6 => pLoad w0 1 v6 s2 (fun g7 => AC Tryd.prog w0 n_laws_heldStringS [g7 0, vget l0 1] s2 (fun v8 s9 => pBin Tryd.prog 3 BinOp.lss v8 (Value.int IntKind.i64 0) (fun v10 => pIf v10 (K1 AX.ret [vget l0 0, v8, Value.int IntKind.i64 (-1), vget l0 3] s9) (pIndexAddr 5 (vget l0 0) (vget l0 3) (fun v11 => pField 1 v11 (fun v12 => pLoad w0 1 v12 s9 (fun g13 => pBin Tryd.prog 3 BinOp.rem v8 (Value.int IntKind.i64 3) (fun v14 => pBin Tryd.prog 3 BinOp.eql v14 (Value.int IntKind.i64 0) (fun v15 => pBin Tryd.prog 4 BinOp.neq (g13 0) v15 (fun v16 => pIf v16 (K1 AX.ret [vget l0 0, v8, Value.int IntKind.i64 (-1), vget l0 3] s9) (pBin Tryd.prog 3 BinOp.add v8 (Value.int IntKind.i64 1) (fun v17 => pIndexAddr 5 (vget l0 0) (vget l0 3) (fun v18 => pField 2 v18 (fun v19 => pLoad w0 1 v19 s9 (fun g20 => pBin Tryd.prog 3 BinOp.neq (g20 0) v17 (fun v21 => pIf v21 (K1 AX.ret [vget l0 0, v17, Value.int IntKind.i64 (-1), vget l0 3] s9) (pBin Tryd.prog 3 BinOp.add v17 (Value.int IntKind.i64 1) (fun v22 => pIndexAddr 5 (vget l0 0) (vget l0 3) (fun v23 => pField 3 v23 (fun v24 => pLoad w0 1 v24 s9 (fun g25 => AC Tryd.prog w0 n_laws_markText [v22] s9 (fun v26 s27 => (Stay w0 s9 s27 v24 1) ∧ (pBin Tryd.prog 9 BinOp.neq (g25 0) v26 (fun v28 => pIf v28 (K1 AX.ret [vget l0 0, v22, Value.int IntKind.i64 (-1), vget l0 3] s27) (pBin Tryd.prog 3 BinOp.add v22 (Value.int IntKind.i64 1) (fun v29 => pIndexAddr 5 (vget l0 0) (vget l0 3) (fun v30 => pField 4 v30 (fun v31 => pLoad w0 1 v31 s27 (fun g32 => pBin Tryd.prog 3 BinOp.neq (g32 0) v29 (fun v33 => pIf v33 (K1 AX.ret [vget l0 0, v29, Value.int IntKind.i64 (-1), vget l0 3] s27) (pBin Tryd.prog 3 BinOp.add v29 (Value.int IntKind.i64 1) (fun v34 => pBin Tryd.prog 3 BinOp.add (vget l0 3) (Value.int IntKind.i64 1) (fun v35 => K1 AX.normal [vget l0 0, v34, vget l0 2, v35] s27)))))))))))))))))))))))))))))))))))) (K1 (AX.exit 0) [vget l0 0, vget l0 1, vget l0 2, vget l0 3] s2)))) [a0, a1, Value.int IntKind.i64 0, Value.int IntKind.i64 0] σ (fun x36 l37 s38 => match x36 with | .normal => R (vget l37 1) s38 | .ret => R (vget l37 2) s38 | .exit i39 => (match Nat.beq i39 0 with | true => R (vget l37 1) s38 | false => False))
theorem vc_laws_heldRowS_eq (w0 : World) (a0 a1 : Value) (σ : Vw) (R : Value → Vw → Prop) : vc_laws_heldRowS w0 a0 a1 σ R = den Tryd.prog w0 kp_laws_heldRowS esc_laws_heldRowS (Tryd.f31.body.getD .skip) (entry Tryd.f31.ntmps [a0, a1]) σ (retK Tryd.prog Tryd.f31.results.toList R) := by kernel_rfl
theorem ac_laws_heldRowS {w0 : World} {a0 a1 : Value} {σ : Vw} {R : Value → Vw → Prop} (h : vc_laws_heldRowS w0 a0 a1 σ R) : AC Tryd.prog w0 n_laws_heldRowS [a0, a1] σ R := by
  refine ac_rule (fn := Tryd.f31) (c := Tryd.f31.body.getD .skip) kp_laws_heldRowS esc_laws_heldRowS Tryd.func31 (by kernel_rfl) (by kernel_rfl) ?_
  rw [← vc_laws_heldRowS_eq]
  exact h

/-- spec.LayerRead -/
def kp_spec_LayerRead : Nat → Keep
  | 7 => ⟨[2, 3, 4, 5, 6, 7], [], [], .done, []⟩
  | _ => ⟨[], [], [], .done, []⟩
def esc_spec_LayerRead : Nat → Bool
  | 10 => true
  | 42 => true
  | _ => false
def vc_spec_LayerRead (w0 : World) (a0 : Value) (σ : Vw) (R : Value → Vw → Prop) : Prop :=
  pNew w0 69 [] σ (fun n0 s1 => AC Tryd.prog w0 n_spec_l1Cut [a0, Value.int IntKind.u8 10] s1 (fun v2 s3 => pLen v2 (fun v4 => pBin Tryd.prog 3 BinOp.sub v4 (Value.int IntKind.i64 1) (fun v5 => pLenS a0 (fun v6 => pBin Tryd.prog 3 BinOp.gtr v6 (Value.int IntKind.i64 6000) (fun v7 => pIf v7 (R (Value.tuple (⟨[Value.slice (Option.some (Addr.mk n0 0 Option.none)) 0 0, Value.bool false]⟩)) s3) (pIndexAddr 1 v2 v5 (fun v8 => pLoad w0 1 v8 s3 (fun g9 => pBin Tryd.prog 9 BinOp.neq (g9 0) (Value.string ({ data := #[] })) (fun v10 => pIf v10 (R (Value.tuple (⟨[Value.slice (Option.some (Addr.mk n0 0 Option.none)) 0 0, Value.bool false]⟩)) s3) (pLoop (fun l11 K12 s13 => pBin Tryd.prog 3 BinOp.lss (vget l11 5) (vget l11 4) (fun v14 => pIf v14 (pIndexAddr 1 (vget l11 3) (vget l11 5) (fun v15 => pLoad w0 1 v15 s13 (fun g16 => AC Tryd.prog w0 n_spec_l3Line [g16 0] s13 (fun v17 s18 => pExtract v17 0 (fun v19 => pExtract v17 1 (fun v20 => pVal true 5 v19 (pUn UnOp.not v20 (fun v21 => pIf v21 (pNew w0 69 [] s18 (fun n22 s23 => K12 AX.ret [Value.slice (Option.some (Addr.mk n22 0 Option.none)) 0 0, Value.bool false, vget l11 2, vget l11 3, vget l11 4, vget l11 5] s23)) (pVal true 5 (Value.agg (⟨[cellOf v19 0, cellOf v19 1, cellOf v19 2, cellOf v19 3, cellOf v19 4]⟩)) ((allOne [cellOf v19 0, cellOf v19 1, cellOf v19 2, cellOf v19 3, cellOf v19 4]) ∧ (pAppend w0 69 5 64 (vget l11 2) 1 [cellOf v19 0, cellOf v19 1, cellOf v19 2, cellOf v19 3, cellOf v19 4] s18 (fun v24 s25 => pBin Tryd.prog 3 BinOp.add (vget l11 5) (Value.int IntKind.i64 1) (fun v26 => K12 AX.normal [vget l11 0, vget l11 1, v24, vget l11 3, vget l11 4, v26] s25))))))))))))) (K12 (AX.exit 0) [vget l11 0, vget l11 1, vget l11 2, vget l11 3, vget l11 4, vget l11 5] s13))) [Value.slice Option.none 0 0, Value.bool false, Value.slice (Option.some (Addr.mk n0 0 Option.none)) 0 0, v2, v5, Value.int IntKind.i64 0] s3 (fun x27 l28 s29 => match x27 with | .normal => R (Value.tuple (⟨[vget l28 2, Value.bool true]⟩)) s29 | .ret => R (Value.tuple (⟨[vget l28 0, vget l28 1]⟩)) s29 | .exit i30 => (match Nat.beq i30 0 with | true => R (Value.tuple (⟨[vget l28 2, Value.bool true]⟩)) s29 | false => False)))))))))))))
theorem vc_spec_LayerRead_eq (w0 : World) (a0 : Value) (σ : Vw) (R : Value → Vw → Prop) : vc_spec_LayerRead w0 a0 σ R = den Tryd.prog w0 kp_spec_LayerRead esc_spec_LayerRead (Tryd.f32.body.getD .skip) (entry Tryd.f32.ntmps [a0]) σ (retK Tryd.prog Tryd.f32.results.toList R) := by kernel_rfl
theorem ac_spec_LayerRead {w0 : World} {a0 : Value} {σ : Vw} {R : Value → Vw → Prop} (h : vc_spec_LayerRead w0 a0 σ R) : AC Tryd.prog w0 n_spec_LayerRead [a0] σ R := by
  refine ac_rule (fn := Tryd.f32) (c := Tryd.f32.body.getD .skip) kp_spec_LayerRead esc_spec_LayerRead Tryd.func32 (by kernel_rfl) (by kernel_rfl) ?_
  rw [← vc_spec_LayerRead_eq]
  exact h

/-- impl.LayerRead -/
def kp_impl_LayerRead : Nat → Keep
  | 5 => ⟨[0, 4, 15, 16, 17], [], [], .done, []⟩
  | 15 => ⟨[], [], [], .step 0 (.step 1 (.step 2 (.step 4 (.step 5 (.step 6 (.step 8 (.step 3 (.step 7 (.step 9 (.step 10 (.step 11 (.step 12 (.step 13 (.done)))))))))))))), [(1, [0]), (2, [0, 1]), (3, [0, 1, 2]), (5, [4]), (6, [4, 5]), (7, [0, 1, 2, 3, 4, 5, 6]), (9, [0, 1, 2, 3, 4, 5, 6, 7, 8]), (10, [0, 1, 2, 3, 4, 5, 6, 7, 8, 9]), (11, [0, 1, 2, 3, 4, 5, 6, 7, 8, 9, 10]), (12, [0, 1, 2, 3, 4, 5, 6, 7, 8, 9, 10, 11]), (13, [0, 1, 2, 3, 4, 5, 6, 7, 8, 9, 10, 11, 12])]⟩
  | _ => ⟨[], [], [], .done, []⟩
def esc_impl_LayerRead : Nat → Bool
  | 9 => true
  | 83 => true
  | _ => false
def vc_impl_LayerRead (w0 : World) (a0 : Value) (σ : Vw) (R : Value → Vw → Prop) : Prop :=
  pNew w0 69 [] σ (fun n0 s1 => pLenS a0 (fun v2 => pBin Tryd.prog 3 BinOp.gtr v2 (Value.int IntKind.i64 6000) (fun v3 => pIf v3 (R (Value.tuple (⟨[Value.slice (Option.some (Addr.mk n0 0 Option.none)) 0 0, Value.bool false]⟩)) s1) (AC Tryd.prog w0 n_impl_linesOf [a0] s1 (fun v4 s5 => pLen v4 (fun v6 => pLoop (fun l7 K8 s9 => pBin Tryd.prog 3 BinOp.lss (vget l7 4) (vget l7 3) (fun v10 => pIf v10 (pIndexAddr 1 (vget l7 2) (vget l7 4) (fun v11 => pLoad w0 1 v11 s9 (fun g12 => AC Tryd.prog w0 n_strings_Split ([g12 0, Value.string ({ data := #[32] })]) s9 (fun v13 s14 => pVal false 1 (Value.string ({ data := #[] })) (pVal false 1 (Value.string ({ data := #[] })) (pVal false 1 (Value.string ({ data := #[] })) ((allOne ([Value.string ({ data := #[] }), Value.string ({ data := #[] }), Value.string ({ data := #[] })])) ∧ (pAppend w0 9 1 16 v13 3 ([Value.string ({ data := #[] }), Value.string ({ data := #[] }), Value.string ({ data := #[] })]) s14 (fun v15 s16 => pIndexAddr 1 v15 (Value.int IntKind.i64 1) (fun v17 => pLoad w0 1 v17 s16 (fun g18 => AC Tryd.prog w0 n_impl_pathRead [g18 0] s16 (fun v19 s20 => pVal false 1 v19 (pVal true 5 (Value.agg (⟨[v19, Value.int IntKind.i64 0, Value.bool false, Value.int IntKind.i64 0, Value.string ({ data := #[] })]⟩)) (pIndexAddr 1 v15 (Value.int IntKind.i64 0) (fun v21 => pLoad w0 1 v21 s20 (fun g22 => pBin Tryd.prog 9 BinOp.eql (g22 0) (Value.string ({ data := #[103, 111, 110, 101] })) (fun v23 => pIf v23 (pVal false 1 (Value.int IntKind.i64 1) (pVal true 5 (Value.agg (⟨[v19, Value.int IntKind.i64 1, Value.bool false, Value.int IntKind.i64 0, Value.string ({ data := #[] })]⟩)) ((allOne ([v19, Value.int IntKind.i64 1, Value.bool false, Value.int IntKind.i64 0, Value.string ({ data := #[] })])) ∧ (pAppend w0 69 5 64 (vget l7 1) 1 ([v19, Value.int IntKind.i64 1, Value.bool false, Value.int IntKind.i64 0, Value.string ({ data := #[] })]) s20 (fun v24 s25 => pBin Tryd.prog 3 BinOp.add (vget l7 4) (Value.int IntKind.i64 1) (fun v26 => K8 AX.normal [vget l7 0, v24, vget l7 2, vget l7 3, v26] s25)))))) (pBin Tryd.prog 9 BinOp.eql (g22 0) (Value.string ({ data := #[110, 101, 119, 100, 105, 114] })) (fun v27 => pIf v27 (pIndexAddr 1 v15 (Value.int IntKind.i64 2) (fun v28 => pLoad w0 1 v28 s20 (fun g29 => AC Tryd.prog w0 n_impl_numRead [g29 0] s20 (fun v30 s31 => pVal false 1 (Value.int IntKind.i64 2) (pVal false 1 (Value.bool true) (pVal false 1 v30 (pVal true 5 (Value.agg (⟨[v19, Value.int IntKind.i64 2, Value.bool true, v30, Value.string ({ data := #[] })]⟩)) ((allOne ([v19, Value.int IntKind.i64 2, Value.bool true, v30, Value.string ({ data := #[] })])) ∧ (pAppend w0 69 5 64 (vget l7 1) 1 ([v19, Value.int IntKind.i64 2, Value.bool true, v30, Value.string ({ data := #[] })]) s31 (fun v32 s33 => pBin Tryd.prog 3 BinOp.add (vget l7 4) (Value.int IntKind.i64 1) (fun v34 => K8 AX.normal [vget l7 0, v32, vget l7 2, vget l7 3, v34] s33))))))))))) (pBin Tryd.prog 9 BinOp.eql (g22 0) (Value.string ({ data := #[110, 101, 119] })) (fun v35 => pIf v35 (pIndexAddr 1 v15 (Value.int IntKind.i64 2) (fun v36 => pLoad w0 1 v36 s20 (fun g37 => pIndexAddr 1 v15 (Value.int IntKind.i64 3) (fun v38 => pLoad w0 1 v38 s20 (fun g39 => AC Tryd.prog w0 n_impl_numRead [g37 0] s20 (fun v40 s41 => (Stay w0 s20 s41 v38 1) ∧ (AC Tryd.prog w0 n_impl_dataRead [g39 0] s41 (fun v42 s43 => pVal false 1 (Value.int IntKind.i64 2) (pVal false 1 v40 (pVal false 1 v42 (pVal true 5 (Value.agg (⟨[v19, Value.int IntKind.i64 2, Value.bool false, v40, v42]⟩)) ((allOne [v19, Value.int IntKind.i64 2, Value.bool false, v40, v42]) ∧ (pAppend w0 69 5 64 (vget l7 1) 1 [v19, Value.int IntKind.i64 2, Value.bool false, v40, v42] s43 (fun v44 s45 => pBin Tryd.prog 3 BinOp.add (vget l7 4) (Value.int IntKind.i64 1) (fun v46 => K8 AX.normal [vget l7 0, v44, vget l7 2, vget l7 3, v46] s45))))))))))))))) (pBin Tryd.prog 9 BinOp.eql (g22 0) (Value.string ({ data := #[109, 111, 100, 101] })) (fun v47 => pIf v47 (pIndexAddr 1 v15 (Value.int IntKind.i64 2) (fun v48 => pLoad w0 1 v48 s20 (fun g49 => AC Tryd.prog w0 n_impl_numRead [g49 0] s20 (fun v50 s51 => pVal false 1 (Value.int IntKind.i64 3) (pVal false 1 v50 (pVal true 5 (Value.agg (⟨[v19, Value.int IntKind.i64 3, Value.bool false, v50, Value.string ({ data := #[] })]⟩)) ((allOne ([v19, Value.int IntKind.i64 3, Value.bool false, v50, Value.string ({ data := #[] })])) ∧ (pAppend w0 69 5 64 (vget l7 1) 1 ([v19, Value.int IntKind.i64 3, Value.bool false, v50, Value.string ({ data := #[] })]) s51 (fun v52 s53 => pBin Tryd.prog 3 BinOp.add (vget l7 4) (Value.int IntKind.i64 1) (fun v54 => K8 AX.normal [vget l7 0, v52, vget l7 2, vget l7 3, v54] s53)))))))))) (pBin Tryd.prog 9 BinOp.eql (g22 0) (Value.string ({ data := #[100, 97, 116, 97] })) (fun v55 => pIf v55 (pIndexAddr 1 v15 (Value.int IntKind.i64 2) (fun v56 => pLoad w0 1 v56 s20 (fun g57 => AC Tryd.prog w0 n_impl_dataRead [g57 0] s20 (fun v58 s59 => pVal false 1 (Value.int IntKind.i64 4) (pVal false 1 v58 (pVal true 5 (Value.agg (⟨[v19, Value.int IntKind.i64 4, Value.bool false, Value.int IntKind.i64 0, v58]⟩)) ((allOne [v19, Value.int IntKind.i64 4, Value.bool false, Value.int IntKind.i64 0, v58]) ∧ (pAppend w0 69 5 64 (vget l7 1) 1 [v19, Value.int IntKind.i64 4, Value.bool false, Value.int IntKind.i64 0, v58] s59 (fun v60 s61 => pBin Tryd.prog 3 BinOp.add (vget l7 4) (Value.int IntKind.i64 1) (fun v62 => K8 AX.normal [vget l7 0, v60, vget l7 2, vget l7 3, v62] s61)))))))))) (pVal true 5 (Value.agg (⟨[v19, Value.int IntKind.i64 0, Value.bool false, Value.int IntKind.i64 0, Value.string ({ data := #[] })]⟩)) ((allOne ([v19, Value.int IntKind.i64 0, Value.bool false, Value.int IntKind.i64 0, Value.string ({ data := #[] })])) ∧ (pAppend w0 69 5 64 (vget l7 1) 1 ([v19, Value.int IntKind.i64 0, Value.bool false, Value.int IntKind.i64 0, Value.string ({ data := #[] })]) s20 (fun v63 s64 => pBin Tryd.prog 3 BinOp.add (vget l7 4) (Value.int IntKind.i64 1) (fun v65 => K8 AX.normal [vget l7 0, v63, vget l7 2, vget l7 3, v65] s64)))))))))))))))))))))))))))))) (K8 (AX.exit 0) [vget l7 0, vget l7 1, vget l7 2, vget l7 3, vget l7 4] s9))) [a0, Value.slice (Option.some (Addr.mk n0 0 Option.none)) 0 0, v4, v6, Value.int IntKind.i64 0] s5 (fun x66 l67 s68 => match x66 with | .normal => AC Tryd.prog w0 n_impl_LayerWrite [vget l67 1] s68 (fun v69 s70 => pBin Tryd.prog 9 BinOp.neq v69 (vget l67 0) (fun v71 => pIf v71 (pNew w0 69 [] s70 (fun n72 s73 => R (Value.tuple (⟨[Value.slice (Option.some (Addr.mk n72 0 Option.none)) 0 0, Value.bool false]⟩)) s73)) (R (Value.tuple (⟨[vget l67 1, Value.bool true]⟩)) s70))) | .ret => False | .exit i74 => (match Nat.beq i74 0 with | true => AC Tryd.prog w0 n_impl_LayerWrite [vget l67 1] s68 (fun v75 s76 => pBin Tryd.prog 9 BinOp.neq v75 (vget l67 0) (fun v77 => pIf v77 (pNew w0 69 [] s76 (fun n78 s79 => R (Value.tuple (⟨[Value.slice (Option.some (Addr.mk n78 0 Option.none)) 0 0, Value.bool false]⟩)) s79)) (R (Value.tuple (⟨[vget l67 1, Value.bool true]⟩)) s76))) | false => False))))))))
theorem vc_impl_LayerRead_eq (w0 : World) (a0 : Value) (σ : Vw) (R : Value → Vw → Prop) : vc_impl_LayerRead w0 a0 σ R = den Tryd.prog w0 kp_impl_LayerRead esc_impl_LayerRead (Tryd.f33.body.getD .skip) (entry Tryd.f33.ntmps [a0]) σ (retK Tryd.prog Tryd.f33.results.toList R) := by kernel_rfl
theorem ac_impl_LayerRead {w0 : World} {a0 : Value} {σ : Vw} {R : Value → Vw → Prop} (h : vc_impl_LayerRead w0 a0 σ R) : AC Tryd.prog w0 n_impl_LayerRead [a0] σ R := by
  refine ac_rule (fn := Tryd.f33) (c := Tryd.f33.body.getD .skip) kp_impl_LayerRead esc_impl_LayerRead Tryd.func33 (by kernel_rfl) (by kernel_rfl) ?_
  rw [← vc_impl_LayerRead_eq]
  exact h

/-- laws.markEntryS -/
def kp_laws_markEntryS : Nat → Keep
  | 2 => ⟨[0, 1, 5], [], [], .done, []⟩
  | _ => ⟨[], [], [], .done, []⟩
def esc_laws_markEntryS : Nat → Bool
  | _ => false
def vc_laws_markEntryS (w0 : World) (a0 a1 : Value) (σ : Vw) (R : Value → Vw → Prop) : Prop :=
  pLoop (fun l0 K1 s2 => pLen (vget l0 0) (fun v3 => pBin Tryd.prog 3 BinOp.lss (vget l0 2) v3 (fun v4 => pIf v4 (pIndexAddr 5 (vget l0 0) (vget l0 2) (fun v5 => pField 0 v5 (fun v6 => pLoad w0 1 v6 s2 (fun g7 => AC Tryd.prog w0 n_laws_markStringS [g7 0, vget l0 1] s2 (fun v8 s9 => pIndexAddr 5 (vget l0 0) (vget l0 2) (fun v10 => pField 1 v10 (fun v11 => pVal false 1 v8 (pStore v11 [v8] s9 (fun s12 => pBin Tryd.prog 3 BinOp.add v8 (Value.int IntKind.i64 1) (fun v13 => pBin Tryd.prog 3 BinOp.rem v13 (Value.int IntKind.i64 3) (fun v14 => pBin Tryd.prog 3 BinOp.eql v14 (Value.int IntKind.i64 0) (fun v15 => pIndexAddr 5 (vget l0 0) (vget l0 2) (fun v16 => pField 2 v16 (fun v17 => pVal false 1 v15 (pStore v17 [v15] s12 (fun s18 => pBin Tryd.prog 3 BinOp.add v13 (Value.int IntKind.i64 1) (fun v19 => pIndexAddr 5 (vget l0 0) (vget l0 2) (fun v20 => pField 3 v20 (fun v21 => pVal false 1 v19 (pStore v21 [v19] s18 (fun s22 => pBin Tryd.prog 3 BinOp.add v19 (Value.int IntKind.i64 1) (fun v23 => AC Tryd.prog w0 n_laws_markText [v23] s22 (fun v24 s25 => pIndexAddr 5 (vget l0 0) (vget l0 2) (fun v26 => pField 4 v26 (fun v27 => pVal false 1 v24 (pStore v27 [v24] s25 (fun s28 => pBin Tryd.prog 3 BinOp.add v23 (Value.int IntKind.i64 1) (fun v29 => pBin Tryd.prog 3 BinOp.add (vget l0 2) (Value.int IntKind.i64 1) (fun v30 => K1 AX.normal [vget l0 0, v29, v30] s28))))))))))))))))))))))))))))) (K1 (AX.exit 0) [vget l0 0, vget l0 1, vget l0 2] s2)))) [a0, a1, Value.int IntKind.i64 0] σ (fun x31 l32 s33 => match x31 with | .normal => R (vget l32 1) s33 | .ret => False | .exit i34 => (match Nat.beq i34 0 with | true => R (vget l32 1) s33 | false => False))
theorem vc_laws_markEntryS_eq (w0 : World) (a0 a1 : Value) (σ : Vw) (R : Value → Vw → Prop) : vc_laws_markEntryS w0 a0 a1 σ R = den Tryd.prog w0 kp_laws_markEntryS esc_laws_markEntryS (Tryd.f34.body.getD .skip) (entry Tryd.f34.ntmps [a0, a1]) σ (retK Tryd.prog Tryd.f34.results.toList R) := by kernel_rfl
theorem ac_laws_markEntryS {w0 : World} {a0 a1 : Value} {σ : Vw} {R : Value → Vw → Prop} (h : vc_laws_markEntryS w0 a0 a1 σ R) : AC Tryd.prog w0 n_laws_markEntryS [a0, a1] σ R := by
  refine ac_rule (fn := Tryd.f34) (c := Tryd.f34.body.getD .skip) kp_laws_markEntryS esc_laws_markEntryS Tryd.func34 (by kernel_rfl) (by kernel_rfl) ?_
  rw [← vc_laws_markEntryS_eq]
  exact h

/-- laws.heldEntryS -/
def kp_laws_heldEntryS : Nat → Keep
  | 2 => ⟨[0, 1, 4, 5], [], [], .done, []⟩
  | 16 => ⟨[], [], [], .step 0 (.step 1 (.step 2 (.step 3 (.step 4 (.step 5 (.step 6 (.step 7 (.done)))))))), [(2, [0, 1]), (3, [0, 1, 2]), (4, [0, 1, 2, 3]), (6, [5]), (7, [0, 1, 2, 3, 4, 5, 6])]⟩
  | _ => ⟨[], [], [], .done, []⟩
def esc_laws_heldEntryS : Nat → Bool
  | _ => false
def vc_laws_heldEntryS (w0 : World) (a0 a1 : Value) (σ : Vw) (R : Value → Vw → Prop) : Prop :=
  pLoop (fun l0 K1 s2 => pLen (vget l0 0) (fun v3 => pBin Tryd.prog 3 BinOp.lss (vget l0 3) v3 (fun v4 => pIf v4 (pIndexAddr 5 (vget l0 0) (vget l0 3) (fun v5 => pField 0 v5 (fun v6 => pLoad w0 1 v6 s2 (fun g7 => AC Tryd.prog w0 n_laws_heldStringS [g7 0, vget l0 1] s2 (fun v8 s9 => pBin Tryd.prog 3 BinOp.lss v8 (Value.int IntKind.i64 0) (fun v10 => pIf v10 (K1 AX.ret [vget l0 0, v8, Value.int IntKind.i64 (-1), vget l0 3] s9) (pIndexAddr 5 (vget l0 0) (vget l0 3) (fun v11 => pField 1 v11 (fun v12 => pLoad w0 1 v12 s9 (fun g13 => pBin Tryd.prog 3 BinOp.neq (g13 0) v8 (fun v14 => pIf v14 (K1 AX.ret [vget l0 0, v8, Value.int IntKind.i64 (-1), vget l0 3] s9) (pBin Tryd.prog 3 BinOp.add v8 (Value.int IntKind.i64 1) (fun v15 => pIndexAddr 5 (vget l0 0) (vget l0 3) (fun v16 => pField 2 v16 (fun v17 => pLoad w0 1 v17 s9 (fun g18 => pBin Tryd.prog 3 BinOp.rem v15 (Value.int IntKind.i64 3) (fun v19 => pBin Tryd.prog 3 BinOp.eql v19 (Value.int IntKind.i64 0) (fun v20 => pBin Tryd.prog 4 BinOp.neq (g18 0) v20 (fun v21 => pIf v21 (K1 AX.ret [vget l0 0, v15, Value.int IntKind.i64 (-1), vget l0 3] s9) (pBin Tryd.prog 3 BinOp.add v15 (Value.int IntKind.i64 1) (fun v22 => pIndexAddr 5 (vget l0 0) (vget l0 3) (fun v23 => pField 3 v23 (fun v24 => pLoad w0 1 v24 s9 (fun g25 => pBin Tryd.prog 3 BinOp.neq (g25 0) v22 (fun v26 => pIf v26 (K1 AX.ret [vget l0 0, v22, Value.int IntKind.i64 (-1), vget l0 3] s9) (pBin Tryd.prog 3 BinOp.add v22 (Value.int IntKind.i64 1) (fun v27 => pIndexAddr 5 (vget l0 0) (vget l0 3) (fun v28 => pField 4 v28 (fun v29 => pLoad w0 1 v29 s9 (fun g30 => AC Tryd.prog w0 n_laws_markText [v27] s9 (fun v31 s32 => (Stay w0 s9 s32 v29 1) ∧ (pBin Tryd.prog 9 BinOp.neq (g30 0) v31 (fun v33 => pIf v33 (K1 AX.ret [vget l0 0, v27, Value.int IntKind.i64 (-1), vget l0 3] s32) (pBin Tryd.prog 3 BinOp.add v27 (Value.int IntKind.i64 1) (fun v34 => pBin Tryd.prog 3 BinOp.add (vget l0 3) (Value.int IntKind.i64 1) (fun v35 => K1 AX.normal [vget l0 0, v34, vget l0 2, v35] s32)))))))))))))))))))))))))))))))))))) (K1 (AX.exit 0) [vget l0 0, vget l0 1, vget l0 2, vget l0 3] s2)))) [a0, a1, Value.int IntKind.i64 0, Value.int IntKind.i64 0] σ (fun x36 l37 s38 => match x36 with | .normal => R (vget l37 1) s38 | .ret => R (vget l37 2) s38 | .exit i39 => (match Nat.beq i39 0 with | true => R (vget l37 1) s38 | false => False))
theorem vc_laws_heldEntryS_eq (w0 : World) (a0 a1 : Value) (σ : Vw) (R : Value → Vw → Prop) : vc_laws_heldEntryS w0 a0 a1 σ R = den Tryd.prog w0 kp_laws_heldEntryS esc_laws_heldEntryS (Tryd.f35.body.getD .skip) (entry Tryd.f35.ntmps [a0, a1]) σ (retK Tryd.prog Tryd.f35.results.toList R) := by kernel_rfl
theorem ac_laws_heldEntryS {w0 : World} {a0 a1 : Value} {σ : Vw} {R : Value → Vw → Prop} (h : vc_laws_heldEntryS w0 a0 a1 σ R) : AC Tryd.prog w0 n_laws_heldEntryS [a0, a1] σ R := by
  refine ac_rule (fn := Tryd.f35) (c := Tryd.f35.body.getD .skip) kp_laws_heldEntryS esc_laws_heldEntryS Tryd.func35 (by kernel_rfl) (by kernel_rfl) ?_
  rw [← vc_laws_heldEntryS_eq]
  exact h

/-- laws.szStringS -/
def kp_laws_szStringS : Nat → Keep
  | 5 => ⟨[0, 1, 4, 5], [], [], .done, []⟩
  | _ => ⟨[], [], [], .done, []⟩
def esc_laws_szStringS : Nat → Bool
  | _ => false
def vc_laws_szStringS (w0 : World) (a0 a1 : Value) (σ : Vw) (R : Value → Vw → Prop) : Prop :=
  pLen a0 (fun v0 => pBin Tryd.prog 3 BinOp.sub a1 v0 (fun v1 => pBin Tryd.prog 3 BinOp.lss v1 (Value.int IntKind.i64 0) (fun v2 => pIf v2 (R (Value.int IntKind.i64 (-1)) σ) (pLoop (fun l3 K4 s5 => pLen (vget l3 0) (fun v6 => pBin Tryd.prog 3 BinOp.lss (vget l3 3) v6 (fun v7 => pIf v7 (pIndexAddr 1 (vget l3 0) (vget l3 3) (fun v8 => pLoad w0 1 v8 s5 (fun g9 => pLenS (g9 0) (fun v10 => pBin Tryd.prog 3 BinOp.sub (vget l3 1) v10 (fun v11 => pBin Tryd.prog 3 BinOp.lss v11 (Value.int IntKind.i64 0) (fun v12 => pIf v12 (K4 AX.ret [vget l3 0, v11, Value.int IntKind.i64 (-1), vget l3 3] s5) (pBin Tryd.prog 3 BinOp.add (vget l3 3) (Value.int IntKind.i64 1) (fun v13 => K4 AX.normal [vget l3 0, v11, vget l3 2, v13] s5)))))))) (K4 (AX.exit 0) [vget l3 0, vget l3 1, vget l3 2, vget l3 3] s5)))) [a0, v1, Value.int IntKind.i64 0, Value.int IntKind.i64 0] σ (fun x14 l15 s16 => match x14 with | .normal => R (vget l15 1) s16 | .ret => R (vget l15 2) s16 | .exit i17 => (match Nat.beq i17 0 with | true => R (vget l15 1) s16 | false => False))))))
theorem vc_laws_szStringS_eq (w0 : World) (a0 a1 : Value) (σ : Vw) (R : Value → Vw → Prop) : vc_laws_szStringS w0 a0 a1 σ R = den Tryd.prog w0 kp_laws_szStringS esc_laws_szStringS (Tryd.f36.body.getD .skip) (entry Tryd.f36.ntmps [a0, a1]) σ (retK Tryd.prog Tryd.f36.results.toList R) := by kernel_rfl
theorem ac_laws_szStringS {w0 : World} {a0 a1 : Value} {σ : Vw} {R : Value → Vw → Prop} (h : vc_laws_szStringS w0 a0 a1 σ R) : AC Tryd.prog w0 n_laws_szStringS [a0, a1] σ R := by
  refine ac_rule (fn := Tryd.f36) (c := Tryd.f36.body.getD .skip) kp_laws_szStringS esc_laws_szStringS Tryd.func36 (by kernel_rfl) (by kernel_rfl) ?_
  rw [← vc_laws_szStringS_eq]
  exact h

/-- laws.szTreeS -/
def kp_laws_szTreeS : Nat → Keep
  | 5 => ⟨[0, 1, 4, 5], [], [], .done, []⟩
  | _ => ⟨[], [], [], .done, []⟩
def esc_laws_szTreeS : Nat → Bool
  | _ => false
def vc_laws_szTreeS (w0 : World) (a0 a1 : Value) (σ : Vw) (R : Value → Vw → Prop) : Prop :=
  pLen a0 (fun v0 => pBin Tryd.prog 3 BinOp.sub a1 v0 (fun v1 => pBin Tryd.prog 3 BinOp.lss v1 (Value.int IntKind.i64 0) (fun v2 => pIf v2 (R (Value.int IntKind.i64 (-1)) σ) (pLoop (fun l3 K4 s5 => pLen (vget l3 0) (fun v6 => pBin Tryd.prog 3 BinOp.lss (vget l3 3) v6 (fun v7 => pIf v7 (pIndexAddr 5 (vget l3 0) (vget l3 3) (fun v8 => pLoad w0 5 v8 s5 (fun g9 => AC Tryd.prog w0 n_laws_szTree ([Value.agg (⟨[g9 0, g9 1, g9 2, g9 3, g9 4]⟩), vget l3 1]) s5 (fun v10 s11 => pBin Tryd.prog 3 BinOp.lss v10 (Value.int IntKind.i64 0) (fun v12 => pIf v12 (K4 AX.ret [vget l3 0, v10, Value.int IntKind.i64 (-1), vget l3 3] s11) (pBin Tryd.prog 3 BinOp.add (vget l3 3) (Value.int IntKind.i64 1) (fun v13 => K4 AX.normal [vget l3 0, v10, vget l3 2, v13] s11))))))) (K4 (AX.exit 0) [vget l3 0, vget l3 1, vget l3 2, vget l3 3] s5)))) [a0, v1, Value.int IntKind.i64 0, Value.int IntKind.i64 0] σ (fun x14 l15 s16 => match x14 with | .normal => R (vget l15 1) s16 | .ret => R (vget l15 2) s16 | .exit i17 => (match Nat.beq i17 0 with | true => R (vget l15 1) s16 | false => False))))))
theorem vc_laws_szTreeS_eq (w0 : World) (a0 a1 : Value) (σ : Vw) (R : Value → Vw → Prop) : vc_laws_szTreeS w0 a0 a1 σ R = den Tryd.prog w0 kp_laws_szTreeS esc_laws_szTreeS (Tryd.f37.body.getD .skip) (entry Tryd.f37.ntmps [a0, a1]) σ (retK Tryd.prog Tryd.f37.results.toList R) := by kernel_rfl
theorem ac_laws_szTreeS {w0 : World} {a0 a1 : Value} {σ : Vw} {R : Value → Vw → Prop} (h : vc_laws_szTreeS w0 a0 a1 σ R) : AC Tryd.prog w0 n_laws_szTreeS [a0, a1] σ R := by
  refine ac_rule (fn := Tryd.f37) (c := Tryd.f37.body.getD .skip) kp_laws_szTreeS esc_laws_szTreeS Tryd.func37 (by kernel_rfl) (by kernel_rfl) ?_
  rw [← vc_laws_szTreeS_eq]
  exact h

/-- spec.TreeOk -/
def kp_spec_TreeOk : Nat → Keep
  | _ => ⟨[], [], [], .done, []⟩
def esc_spec_TreeOk : Nat → Bool
  | _ => false
def vc_spec_TreeOk (w0 : World) (a0 : Value) (σ : Vw) (R : Value → Vw → Prop) : Prop :=
  pVal true 5 a0 (pIf (cellOf a0 0) (AC Tryd.prog w0 n_spec_l1Parts ([Value.agg (⟨[cellOf a0 0, cellOf a0 1, cellOf a0 2, cellOf a0 3, cellOf a0 4]⟩), Value.int IntKind.i64 0]) σ (fun v0 s1 => pIf v0 (AC Tryd.prog w0 n_spec_l1Count ([Value.agg (⟨[cellOf a0 0, cellOf a0 1, cellOf a0 2, cellOf a0 3, cellOf a0 4]⟩)]) s1 (fun v2 s3 => pBin Tryd.prog 3 BinOp.leq v2 (Value.int IntKind.i64 30) (fun v4 => R v4 s3))) (R (Value.bool false) s1))) (R (Value.bool false) σ))
theorem vc_spec_TreeOk_eq (w0 : World) (a0 : Value) (σ : Vw) (R : Value → Vw → Prop) : vc_spec_TreeOk w0 a0 σ R = den Tryd.prog w0 kp_spec_TreeOk esc_spec_TreeOk (Tryd.f38.body.getD .skip) (entry Tryd.f38.ntmps [a0]) σ (retK Tryd.prog Tryd.f38.results.toList R) := by kernel_rfl
theorem ac_spec_TreeOk {w0 : World} {a0 : Value} {σ : Vw} {R : Value → Vw → Prop} (h : vc_spec_TreeOk w0 a0 σ R) : AC Tryd.prog w0 n_spec_TreeOk [a0] σ R := by
  refine ac_rule (fn := Tryd.f38) (c := Tryd.f38.body.getD .skip) kp_spec_TreeOk esc_spec_TreeOk Tryd.func38 (by kernel_rfl) (by kernel_rfl) ?_
  rw [← vc_spec_TreeOk_eq]
  exact h

/-- spec.l1Line -/
def kp_spec_l1Line : Nat → Keep
  | 3 => ⟨[], [], [], .step 0 (.step 1 (.step 2 (.step 3 (.step 4 (.step 8 (.step 9 (.step 5 (.step 6 (.step 7 (.step 10 (.step 11 (.step 12 (.step 13 (.done)))))))))))))), [(1, [0]), (2, [0, 1]), (4, [3]), (5, [3, 4]), (6, [0, 1, 2, 3, 4, 5]), (7, [0, 1, 2, 3, 4, 5, 6]), (9, [8]), (10, [3, 4, 5, 8, 9]), (11, [0, 1, 2, 3, 4, 5, 6, 7, 8, 9, 10]), (12, [0, 1, 2, 3, 4, 5, 6, 7, 8, 9, 10, 11]), (13, [0, 1, 2, 3, 4, 5, 6, 7, 8, 9, 10, 11, 12])]⟩
  | _ => ⟨[], [], [], .done, []⟩
def esc_spec_l1Line : Nat → Bool
  | _ => false
def vc_spec_l1Line (w0 : World) (a0 a1 : Value) (σ : Vw) (R : Value → Vw → Prop) : Prop :=
  pVal true 5 a1 (pIf (cellOf a1 0) (pBin Tryd.prog 9 BinOp.add (Value.string ({ data := #[100, 105, 114, 32] })) a0 (fun v0 => pBin Tryd.prog 9 BinOp.add v0 (Value.string ({ data := #[32] })) (fun v1 => AC Tryd.prog w0 n_spec_l1Dec [cellOf a1 1] σ (fun v2 s3 => pBin Tryd.prog 9 BinOp.add v1 v2 (fun v4 => pBin Tryd.prog 9 BinOp.add v4 (Value.string ({ data := #[10] })) (fun v5 => R v5 s3)))))) (pBin Tryd.prog 9 BinOp.add (Value.string ({ data := #[102, 105, 108, 101, 32] })) a0 (fun v6 => pBin Tryd.prog 9 BinOp.add v6 (Value.string ({ data := #[32] })) (fun v7 => AC Tryd.prog w0 n_spec_l1Dec [cellOf a1 1] σ (fun v8 s9 => pBin Tryd.prog 9 BinOp.add v7 v8 (fun v10 => pBin Tryd.prog 9 BinOp.add v10 (Value.string ({ data := #[32] })) (fun v11 => AC Tryd.prog w0 n_spec_l1Hex [cellOf a1 2] s9 (fun v12 s13 => pBin Tryd.prog 9 BinOp.add v11 v12 (fun v14 => pBin Tryd.prog 9 BinOp.add v14 (Value.string ({ data := #[10] })) (fun v15 => R v15 s13))))))))))
theorem vc_spec_l1Line_eq (w0 : World) (a0 a1 : Value) (σ : Vw) (R : Value → Vw → Prop) : vc_spec_l1Line w0 a0 a1 σ R = den Tryd.prog w0 kp_spec_l1Line esc_spec_l1Line (Tryd.f39.body.getD .skip) (entry Tryd.f39.ntmps [a0, a1]) σ (retK Tryd.prog Tryd.f39.results.toList R) := by kernel_rfl
theorem ac_spec_l1Line {w0 : World} {a0 a1 : Value} {σ : Vw} {R : Value → Vw → Prop} (h : vc_spec_l1Line w0 a0 a1 σ R) : AC Tryd.prog w0 n_spec_l1Line [a0, a1] σ R := by
  refine ac_rule (fn := Tryd.f39) (c := Tryd.f39.body.getD .skip) kp_spec_l1Line esc_spec_l1Line Tryd.func39 (by kernel_rfl) (by kernel_rfl) ?_
  rw [← vc_spec_l1Line_eq]
  exact h

/-- spec.l1Show -/
def kp_spec_l1Show : Nat → Keep
  | 3 => ⟨[0, 5, 6], [(3, 5)], [3], .done, []⟩
  | 6 => ⟨[], [], [], .step 0 (.step 1 (.step 2 (.step 3 (.step 4 (.step 5 (.step 6 (.step 9 (.step 10 (.step 11 (.step 12 (.step 13 (.step 14 (.step 7 (.step 8 (.step 15 (.step 16 (.step 17 (.done)))))))))))))))))), [(3, [2]), (5, [2, 3, 4]), (6, [2, 3, 4, 5]), (7, [1, 2, 3, 4, 5, 6]), (8, [0, 1, 2, 3, 4, 5, 6, 7]), (11, [10]), (13, [10, 11, 12]), (14, [10, 11, 12, 13]), (15, [1, 2, 3, 4, 5, 6, 7, 9, 10, 11, 12, 13, 14]), (16, [0, 1, 2, 3, 4, 5, 6, 7, 8, 9, 10, 11, 12, 13, 14, 15]), (17, [0, 1, 2, 3, 4, 5, 6, 7, 8, 9, 10, 11, 12, 13, 14, 15, 16])]⟩
  | _ => ⟨[], [], [], .done, []⟩
def esc_spec_l1Show : Nat → Bool
  | _ => false
def vc_spec_l1Show (w0 : World) (a0 a1 : Value) (σ : Vw) (R : Value → Vw → Prop) : Prop :=
  pVal true 5 a1 (pLoop (fun l0 K1 s2 => pLen (vget l0 6) (fun v3 => pBin Tryd.prog 3 BinOp.lss (vget l0 2) v3 (fun v4 => pIf v4 (pBin Tryd.prog 9 BinOp.add (vget l0 0) (Value.string ({ data := #[47] })) (fun v5 => pIndexAddr 1 (vget l0 6) (vget l0 2) (fun v6 => pLoad w0 1 v6 s2 (fun g7 => pBin Tryd.prog 9 BinOp.add v5 (g7 0) (fun v8 => pIndexAddr 5 (vget l0 7) (vget l0 2) (fun v9 => pLoad w0 5 v9 s2 (fun g10 => pIndexAddr 5 (vget l0 7) (vget l0 2) (fun v11 => pLoad w0 5 v11 s2 (fun g12 => AC Tryd.prog w0 n_spec_l1Line ([v8, Value.agg (⟨[g10 0, g10 1, g10 2, g10 3, g10 4]⟩)]) s2 (fun v13 s14 => (Stay w0 s2 s14 v11 5) ∧ (pBin Tryd.prog 9 BinOp.add (vget l0 1) v13 (fun v15 => AC Tryd.prog w0 n_spec_l1Show ([v8, Value.agg (⟨[g12 0, g12 1, g12 2, g12 3, g12 4]⟩)]) s14 (fun v16 s17 => pBin Tryd.prog 9 BinOp.add v15 v16 (fun v18 => pBin Tryd.prog 3 BinOp.add (vget l0 2) (Value.int IntKind.i64 1) (fun v19 => K1 AX.normal [vget l0 0, v18, v19, vget l0 3, vget l0 4, vget l0 5, vget l0 6, vget l0 7] s17))))))))))))))) (K1 (AX.exit 0) [vget l0 0, vget l0 1, vget l0 2, vget l0 3, vget l0 4, vget l0 5, vget l0 6, vget l0 7] s2)))) ([a0, Value.string ({ data := #[] }), Value.int IntKind.i64 0, cellOf a1 0, cellOf a1 1, cellOf a1 2, cellOf a1 3, cellOf a1 4]) σ (fun x20 l21 s22 => match x20 with | .normal => R (vget l21 1) s22 | .ret => False | .exit i23 => (match Nat.beq i23 0 with | true => R (vget l21 1) s22 | false => False)))
theorem vc_spec_l1Show_eq (w0 : World) (a0 a1 : Value) (σ : Vw) (R : Value → Vw → Prop) : vc_spec_l1Show w0 a0 a1 σ R = den Tryd.prog w0 kp_spec_l1Show esc_spec_l1Show (Tryd.f40.body.getD .skip) (entry Tryd.f40.ntmps [a0, a1]) σ (retK Tryd.prog Tryd.f40.results.toList R) := by kernel_rfl
theorem ac_spec_l1Show {w0 : World} {a0 a1 : Value} {σ : Vw} {R : Value → Vw → Prop} (h : vc_spec_l1Show w0 a0 a1 σ R) : AC Tryd.prog w0 n_spec_l1Show [a0, a1] σ R := by
  refine ac_rule (fn := Tryd.f40) (c := Tryd.f40.body.getD .skip) kp_spec_l1Show esc_spec_l1Show Tryd.func40 (by kernel_rfl) (by kernel_rfl) ?_
  rw [← vc_spec_l1Show_eq]
  exact h

/-- laws.toStringS -/
def kp_laws_toStringS : Nat → Keep
  | 3 => ⟨[0, 3, 4], [], [], .done, []⟩
  | _ => ⟨[], [], [], .done, []⟩
def esc_laws_toStringS : Nat → Bool
  | _ => false
def vc_laws_toStringS (w0 : World) (a0 : Value) (σ : Vw) (R : Value → Vw → Prop) : Prop :=
  pLen a0 (fun v0 => pMake w0 9 1 16 ([Value.string ({ data := #[] })]) v0 v0 σ (fun v1 s2 => pLoop (fun l3 K4 s5 => pLen (vget l3 0) (fun v6 => pBin Tryd.prog 3 BinOp.lss (vget l3 2) v6 (fun v7 => pIf v7 (pIndexAddr 1 (vget l3 0) (vget l3 2) (fun v8 => pLoad w0 1 v8 s5 (fun g9 => pIndexAddr 1 (vget l3 1) (vget l3 2) (fun v10 => pVal false 1 (g9 0) (pStore v10 [g9 0] s5 (fun s11 => pBin Tryd.prog 3 BinOp.add (vget l3 2) (Value.int IntKind.i64 1) (fun v12 => K4 AX.normal [vget l3 0, vget l3 1, v12] s11))))))) (K4 (AX.exit 0) [vget l3 0, vget l3 1, vget l3 2] s5)))) [a0, v1, Value.int IntKind.i64 0] s2 (fun x13 l14 s15 => match x13 with | .normal => R (vget l14 1) s15 | .ret => False | .exit i16 => (match Nat.beq i16 0 with | true => R (vget l14 1) s15 | false => False))))
theorem vc_laws_toStringS_eq (w0 : World) (a0 : Value) (σ : Vw) (R : Value → Vw → Prop) : vc_laws_toStringS w0 a0 σ R = den Tryd.prog w0 kp_laws_toStringS esc_laws_toStringS (Tryd.f41.body.getD .skip) (entry Tryd.f41.ntmps [a0]) σ (retK Tryd.prog Tryd.f41.results.toList R) := by kernel_rfl
theorem ac_laws_toStringS {w0 : World} {a0 : Value} {σ : Vw} {R : Value → Vw → Prop} (h : vc_laws_toStringS w0 a0 σ R) : AC Tryd.prog w0 n_laws_toStringS [a0] σ R := by
  refine ac_rule (fn := Tryd.f41) (c := Tryd.f41.body.getD .skip) kp_laws_toStringS esc_laws_toStringS Tryd.func41 (by kernel_rfl) (by kernel_rfl) ?_
  rw [← vc_laws_toStringS_eq]
  exact h

/-- laws.toTreeS -/
def kp_laws_toTreeS : Nat → Keep
  | 3 => ⟨[0, 3, 4], [], [], .done, []⟩
  | _ => ⟨[], [], [], .done, []⟩
def esc_laws_toTreeS : Nat → Bool
  | _ => false
def vc_laws_toTreeS (w0 : World) (a0 : Value) (σ : Vw) (R : Value → Vw → Prop) : Prop :=
  pLen a0 (fun v0 => pMake w0 30 5 80 ([Value.bool false, Value.int IntKind.i64 0, Value.string ({ data := #[] }), Value.slice Option.none 0 0, Value.slice Option.none 0 0]) v0 v0 σ (fun v1 s2 => pLoop (fun l3 K4 s5 => pLen (vget l3 0) (fun v6 => pBin Tryd.prog 3 BinOp.lss (vget l3 2) v6 (fun v7 => pIf v7 (pIndexAddr 5 (vget l3 0) (vget l3 2) (fun v8 => pLoad w0 5 v8 s5 (fun g9 => AC Tryd.prog w0 n_laws_toTree ([Value.agg (⟨[g9 0, g9 1, g9 2, g9 3, g9 4]⟩)]) s5 (fun v10 s11 => pIndexAddr 5 (vget l3 1) (vget l3 2) (fun v12 => pVal true 5 v10 (pStore v12 [cellOf v10 0, cellOf v10 1, cellOf v10 2, cellOf v10 3, cellOf v10 4] s11 (fun s13 => pBin Tryd.prog 3 BinOp.add (vget l3 2) (Value.int IntKind.i64 1) (fun v14 => K4 AX.normal [vget l3 0, vget l3 1, v14] s13)))))))) (K4 (AX.exit 0) [vget l3 0, vget l3 1, vget l3 2] s5)))) [a0, v1, Value.int IntKind.i64 0] s2 (fun x15 l16 s17 => match x15 with | .normal => R (vget l16 1) s17 | .ret => False | .exit i18 => (match Nat.beq i18 0 with | true => R (vget l16 1) s17 | false => False))))
theorem vc_laws_toTreeS_eq (w0 : World) (a0 : Value) (σ : Vw) (R : Value → Vw → Prop) : vc_laws_toTreeS w0 a0 σ R = den Tryd.prog w0 kp_laws_toTreeS esc_laws_toTreeS (Tryd.f42.body.getD .skip) (entry Tryd.f42.ntmps [a0]) σ (retK Tryd.prog Tryd.f42.results.toList R) := by kernel_rfl
theorem ac_laws_toTreeS {w0 : World} {a0 : Value} {σ : Vw} {R : Value → Vw → Prop} (h : vc_laws_toTreeS w0 a0 σ R) : AC Tryd.prog w0 n_laws_toTreeS [a0] σ R := by
  refine ac_rule (fn := Tryd.f42) (c := Tryd.f42.body.getD .skip) kp_laws_toTreeS esc_laws_toTreeS Tryd.func42 (by kernel_rfl) (by kernel_rfl) ?_
  rw [← vc_laws_toTreeS_eq]
  exact h

/-- impl.TreeOk -/
def kp_impl_TreeOk : Nat → Keep
  | _ => ⟨[], [], [], .done, []⟩
def esc_impl_TreeOk : Nat → Bool
  | _ => false
def vc_impl_TreeOk (w0 : World) (a0 : Value) (σ : Vw) (R : Value → Vw → Prop) : Prop :=
  pVal true 5 a0 (pIf (cellOf a0 0) (AC Tryd.prog w0 n_impl_Tree_sound ([Value.agg (⟨[cellOf a0 0, cellOf a0 1, cellOf a0 2, cellOf a0 3, cellOf a0 4]⟩), Value.int IntKind.i64 0]) σ (fun v0 s1 => pIf v0 (AC Tryd.prog w0 n_impl_Tree_paths ([Value.agg (⟨[cellOf a0 0, cellOf a0 1, cellOf a0 2, cellOf a0 3, cellOf a0 4]⟩)]) s1 (fun v2 s3 => pBin Tryd.prog 3 BinOp.leq v2 (Value.int IntKind.i64 31) (fun v4 => R v4 s3))) (R (Value.bool false) s1))) (R (Value.bool false) σ))
theorem vc_impl_TreeOk_eq (w0 : World) (a0 : Value) (σ : Vw) (R : Value → Vw → Prop) : vc_impl_TreeOk w0 a0 σ R = den Tryd.prog w0 kp_impl_TreeOk esc_impl_TreeOk (Tryd.f43.body.getD .skip) (entry Tryd.f43.ntmps [a0]) σ (retK Tryd.prog Tryd.f43.results.toList R) := by kernel_rfl
theorem ac_impl_TreeOk {w0 : World} {a0 : Value} {σ : Vw} {R : Value → Vw → Prop} (h : vc_impl_TreeOk w0 a0 σ R) : AC Tryd.prog w0 n_impl_TreeOk [a0] σ R := by
  refine ac_rule (fn := Tryd.f43) (c := Tryd.f43.body.getD .skip) kp_impl_TreeOk esc_impl_TreeOk Tryd.func43 (by kernel_rfl) (by kernel_rfl) ?_
  rw [← vc_impl_TreeOk_eq]
  exact h

/-- (impl.Tree).show -/
def kp_impl_Tree_show : Nat → Keep
  | _ => ⟨[], [], [], .done, []⟩
def esc_impl_Tree_show : Nat → Bool
  | 3 => true
  | 5 => true
  | _ => false
def vc_impl_Tree_show (w0 : World) (a0 : Value) (σ : Vw) (R : Value → Vw → Prop) : Prop :=
  pVal true 5 a0 (pVal true 2 (Value.agg (⟨[Value.pointer Option.none, Value.slice Option.none 0 0]⟩)) (pNew w0 75 [Value.pointer Option.none, Value.slice Option.none 0 0] σ (fun n0 s1 => pNew w0 72 [Value.pointer Option.none] s1 (fun n2 s3 => pVal false 1 (Value.pointer (Option.some (Addr.mk n0 0 Option.none))) (pStore (Value.pointer (Option.some (Addr.mk n2 0 Option.none))) [Value.pointer (Option.some (Addr.mk n0 0 Option.none))] s3 (fun s4 => AC Tryd.prog w0 n_impl_Tree_each ([Value.agg (⟨[cellOf a0 0, cellOf a0 1, cellOf a0 2, cellOf a0 3, cellOf a0 4]⟩), Value.slice Option.none 0 0, Value.func (Fn.func 87) ⟨[]⟩ (⟨[Value.pointer (Option.some (Addr.mk n2 0 Option.none))]⟩)]) s4 (fun v5 s6 => pLoad w0 1 (Value.pointer (Option.some (Addr.mk n2 0 Option.none))) s6 (fun g7 => AC Tryd.prog w0 n_p_strings_Builder_String [g7 0] s6 (fun v8 s9 => R v8 s9)))))))))
theorem vc_impl_Tree_show_eq (w0 : World) (a0 : Value) (σ : Vw) (R : Value → Vw → Prop) : vc_impl_Tree_show w0 a0 σ R = den Tryd.prog w0 kp_impl_Tree_show esc_impl_Tree_show (Tryd.f44.body.getD .skip) (entry Tryd.f44.ntmps [a0]) σ (retK Tryd.prog Tryd.f44.results.toList R) := by kernel_rfl
theorem ac_impl_Tree_show {w0 : World} {a0 : Value} {σ : Vw} {R : Value → Vw → Prop} (h : vc_impl_Tree_show w0 a0 σ R) : AC Tryd.prog w0 n_impl_Tree_show [a0] σ R := by
  refine ac_rule (fn := Tryd.f44) (c := Tryd.f44.body.getD .skip) kp_impl_Tree_show esc_impl_Tree_show Tryd.func44 (by kernel_rfl) (by kernel_rfl) ?_
  rw [← vc_impl_Tree_show_eq]
  exact h

/-- laws.eqStringS -/
def kp_laws_eqStringS : Nat → Keep
  | 4 => ⟨[0, 1, 4, 5], [], [], .done, []⟩
  | 6 => ⟨[], [], [], .step 0 (.step 1 (.step 2 (.step 3 (.step 4 (.step 5 (.step 6 (.step 7 (.step 8 (.done))))))))), [(2, [0, 1]), (3, [0, 1, 2]), (6, [4, 5]), (7, [4, 5, 6]), (8, [0, 1, 2, 3, 4, 5, 6, 7])]⟩
  | _ => ⟨[], [], [], .done, []⟩
def esc_laws_eqStringS : Nat → Bool
  | _ => false
def vc_laws_eqStringS (w0 : World) (a0 a1 : Value) (σ : Vw) (R : Value → Vw → Prop) : Prop :=
  pLen a0 (fun v0 => pLen a1 (fun v1 => pBin Tryd.prog 3 BinOp.neq v0 v1 (fun v2 => pIf v2 (R (Value.bool false) σ) (pLoop (fun l3 K4 s5 => pLen (vget l3 0) (fun v6 => pBin Tryd.prog 3 BinOp.lss (vget l3 3) v6 (fun v7 => pIf v7 (pIndexAddr 1 (vget l3 0) (vget l3 3) (fun v8 => pLoad w0 1 v8 s5 (fun g9 => pIndexAddr 1 (vget l3 1) (vget l3 3) (fun v10 => pLoad w0 1 v10 s5 (fun g11 => pBin Tryd.prog 9 BinOp.neq (g9 0) (g11 0) (fun v12 => pIf v12 (K4 AX.ret [vget l3 0, vget l3 1, Value.bool false, vget l3 3] s5) (pBin Tryd.prog 3 BinOp.add (vget l3 3) (Value.int IntKind.i64 1) (fun v13 => K4 AX.normal [vget l3 0, vget l3 1, vget l3 2, v13] s5)))))))) (K4 (AX.exit 0) [vget l3 0, vget l3 1, vget l3 2, vget l3 3] s5)))) [a0, a1, Value.bool false, Value.int IntKind.i64 0] σ (fun x14 l15 s16 => match x14 with | .normal => R (Value.bool true) s16 | .ret => R (vget l15 2) s16 | .exit i17 => (match Nat.beq i17 0 with | true => R (Value.bool true) s16 | false => False))))))
theorem vc_laws_eqStringS_eq (w0 : World) (a0 a1 : Value) (σ : Vw) (R : Value → Vw → Prop) : vc_laws_eqStringS w0 a0 a1 σ R = den Tryd.prog w0 kp_laws_eqStringS esc_laws_eqStringS (Tryd.f45.body.getD .skip) (entry Tryd.f45.ntmps [a0, a1]) σ (retK Tryd.prog Tryd.f45.results.toList R) := by kernel_rfl
theorem ac_laws_eqStringS {w0 : World} {a0 a1 : Value} {σ : Vw} {R : Value → Vw → Prop} (h : vc_laws_eqStringS w0 a0 a1 σ R) : AC Tryd.prog w0 n_laws_eqStringS [a0, a1] σ R := by
  refine ac_rule (fn := Tryd.f45) (c := Tryd.f45.body.getD .skip) kp_laws_eqStringS esc_laws_eqStringS Tryd.func45 (by kernel_rfl) (by kernel_rfl) ?_
  rw [← vc_laws_eqStringS_eq]
  exact h

/-- laws.eqTreeS -/
def kp_laws_eqTreeS : Nat → Keep
  | 4 => ⟨[0, 1, 4, 5], [], [], .done, []⟩
  | 6 => ⟨[], [], [], .step 0 (.step 1 (.step 2 (.step 3 (.step 4 (.step 5 (.step 6 (.step 7 (.step 8 (.step 9 (.done)))))))))), [(2, [0, 1]), (3, [0, 1, 2]), (6, [4, 5]), (7, [4, 5, 6]), (8, [0, 1, 2, 3, 4, 5, 6, 7]), (9, [0, 1, 2, 3, 4, 5, 6, 7, 8])]⟩
  | _ => ⟨[], [], [], .done, []⟩
def esc_laws_eqTreeS : Nat → Bool
  | _ => false
def vc_laws_eqTreeS (w0 : World) (a0 a1 : Value) (σ : Vw) (R : Value → Vw → Prop) : Prop :=
  pLen a0 (fun v0 => pLen a1 (fun v1 => pBin Tryd.prog 3 BinOp.neq v0 v1 (fun v2 => pIf v2 (R (Value.bool false) σ) (pLoop (fun l3 K4 s5 => pLen (vget l3 0) (fun v6 => pBin Tryd.prog 3 BinOp.lss (vget l3 3) v6 (fun v7 => pIf v7 (pIndexAddr 5 (vget l3 0) (vget l3 3) (fun v8 => pLoad w0 5 v8 s5 (fun g9 => pIndexAddr 5 (vget l3 1) (vget l3 3) (fun v10 => pLoad w0 5 v10 s5 (fun g11 => AC Tryd.prog w0 n_laws_eqTree ([Value.agg (⟨[g9 0, g9 1, g9 2, g9 3, g9 4]⟩), Value.agg (⟨[g11 0, g11 1, g11 2, g11 3, g11 4]⟩)]) s5 (fun v12 s13 => pUn UnOp.not v12 (fun v14 => pIf v14 (K4 AX.ret [vget l3 0, vget l3 1, Value.bool false, vget l3 3] s13) (pBin Tryd.prog 3 BinOp.add (vget l3 3) (Value.int IntKind.i64 1) (fun v15 => K4 AX.normal [vget l3 0, vget l3 1, vget l3 2, v15] s13))))))))) (K4 (AX.exit 0) [vget l3 0, vget l3 1, vget l3 2, vget l3 3] s5)))) [a0, a1, Value.bool false, Value.int IntKind.i64 0] σ (fun x16 l17 s18 => match x16 with | .normal => R (Value.bool true) s18 | .ret => R (vget l17 2) s18 | .exit i19 => (match Nat.beq i19 0 with | true => R (Value.bool true) s18 | false => False))))))
theorem vc_laws_eqTreeS_eq (w0 : World) (a0 a1 : Value) (σ : Vw) (R : Value → Vw → Prop) : vc_laws_eqTreeS w0 a0 a1 σ R = den Tryd.prog w0 kp_laws_eqTreeS esc_laws_eqTreeS (Tryd.f46.body.getD .skip) (entry Tryd.f46.ntmps [a0, a1]) σ (retK Tryd.prog Tryd.f46.results.toList R) := by kernel_rfl
theorem ac_laws_eqTreeS {w0 : World} {a0 a1 : Value} {σ : Vw} {R : Value → Vw → Prop} (h : vc_laws_eqTreeS w0 a0 a1 σ R) : AC Tryd.prog w0 n_laws_eqTreeS [a0, a1] σ R := by
  refine ac_rule (fn := Tryd.f46) (c := Tryd.f46.body.getD .skip) kp_laws_eqTreeS esc_laws_eqTreeS Tryd.func46 (by kernel_rfl) (by kernel_rfl) ?_
  rw [← vc_laws_eqTreeS_eq]
  exact h

/-- laws.szEntry -/
def kp_laws_szEntry : Nat → Keep
  | _ => ⟨[], [], [], .done, []⟩
def esc_laws_szEntry : Nat → Bool
  | _ => false
def vc_laws_szEntry (w0 : World) (a0 a1 : Value) (σ : Vw) (R : Value → Vw → Prop) : Prop :=
  pVal true 5 a0 (AC Tryd.prog w0 n_laws_szStringS [cellOf a0 0, a1] σ (fun v0 s1 => pBin Tryd.prog 3 BinOp.lss v0 (Value.int IntKind.i64 0) (fun v2 => pIf v2 (R (Value.int IntKind.i64 (-1)) s1) (pLenS (cellOf a0 4) (fun v3 => pBin Tryd.prog 3 BinOp.sub v0 v3 (fun v4 => pBin Tryd.prog 3 BinOp.lss v4 (Value.int IntKind.i64 0) (fun v5 => pIf v5 (R (Value.int IntKind.i64 (-1)) s1) (R v4 s1))))))))
theorem vc_laws_szEntry_eq (w0 : World) (a0 a1 : Value) (σ : Vw) (R : Value → Vw → Prop) : vc_laws_szEntry w0 a0 a1 σ R = den Tryd.prog w0 kp_laws_szEntry esc_laws_szEntry (Tryd.f47.body.getD .skip) (entry Tryd.f47.ntmps [a0, a1]) σ (retK Tryd.prog Tryd.f47.results.toList R) := by kernel_rfl
theorem ac_laws_szEntry {w0 : World} {a0 a1 : Value} {σ : Vw} {R : Value → Vw → Prop} (h : vc_laws_szEntry w0 a0 a1 σ R) : AC Tryd.prog w0 n_laws_szEntry [a0, a1] σ R := by
  refine ac_rule (fn := Tryd.f47) (c := Tryd.f47.body.getD .skip) kp_laws_szEntry esc_laws_szEntry Tryd.func47 (by kernel_rfl) (by kernel_rfl) ?_
  rw [← vc_laws_szEntry_eq]
  exact h

/-- spec.l3EntryOk -/
def kp_spec_l3EntryOk : Nat → Keep
  | _ => ⟨[], [], [], .done, []⟩
def esc_spec_l3EntryOk : Nat → Bool
  | _ => false
def vc_spec_l3EntryOk (w0 : World) (a0 : Value) (σ : Vw) (R : Value → Vw → Prop) : Prop :=
  pVal true 5 a0 (pLen (cellOf a0 0) (fun v0 => pBin Tryd.prog 3 BinOp.gtr v0 (Value.int IntKind.i64 0) (fun v1 => pIf v1 (AC Tryd.prog w0 n_spec_l2PathOk [cellOf a0 0] σ (fun v2 s3 => pUn UnOp.not v2 (fun v4 => pIf v4 (R (Value.bool false) s3) (AC Tryd.prog w0 n_spec_l1In [cellOf a0 3, Value.int IntKind.i64 0, Value.int IntKind.i64 7] s3 (fun v5 s6 => pUn UnOp.not v5 (fun v7 => pIf v7 (R (Value.bool false) s6) (pLenS (cellOf a0 4) (fun v8 => pBin Tryd.prog 3 BinOp.gtr v8 (Value.int IntKind.i64 24) (fun v9 => pIf v9 (R (Value.bool false) s6) (pBin Tryd.prog 3 BinOp.eql (cellOf a0 1) (Value.int IntKind.i64 1) (fun v10 => pIf v10 (pLen (cellOf a0 0) (fun v11 => pBin Tryd.prog 3 BinOp.gtr v11 (Value.int IntKind.i64 0) (fun v12 => pIf v12 (pUn UnOp.not (cellOf a0 2) (fun v13 => pIf v13 (pBin Tryd.prog 3 BinOp.eql (cellOf a0 3) (Value.int IntKind.i64 0) (fun v14 => pIf v14 (pBin Tryd.prog 9 BinOp.eql (cellOf a0 4) (Value.string ({ data := #[] })) (fun v15 => R v15 s6)) (R (Value.bool false) s6))) (R (Value.bool false) s6))) (R (Value.bool false) s6)))) (pBin Tryd.prog 3 BinOp.eql (cellOf a0 1) (Value.int IntKind.i64 2) (fun v16 => pIf v16 (pLen (cellOf a0 0) (fun v17 => pBin Tryd.prog 3 BinOp.gtr v17 (Value.int IntKind.i64 0) (fun v18 => pIf v18 (pUn UnOp.not (cellOf a0 2) (fun v19 => pIf v19 (R (Value.bool true) s6) (pBin Tryd.prog 9 BinOp.eql (cellOf a0 4) (Value.string ({ data := #[] })) (fun v20 => R v20 s6)))) (R (Value.bool false) s6)))) (pBin Tryd.prog 3 BinOp.eql (cellOf a0 1) (Value.int IntKind.i64 3) (fun v21 => pIf v21 (pUn UnOp.not (cellOf a0 2) (fun v22 => pIf v22 (pBin Tryd.prog 9 BinOp.eql (cellOf a0 4) (Value.string ({ data := #[] })) (fun v23 => R v23 s6)) (R (Value.bool false) s6))) (pBin Tryd.prog 3 BinOp.eql (cellOf a0 1) (Value.int IntKind.i64 4) (fun v24 => pIf v24 (pLen (cellOf a0 0) (fun v25 => pBin Tryd.prog 3 BinOp.gtr v25 (Value.int IntKind.i64 0) (fun v26 => pIf v26 (pUn UnOp.not (cellOf a0 2) (fun v27 => pIf v27 (pBin Tryd.prog 3 BinOp.eql (cellOf a0 3) (Value.int IntKind.i64 0) (fun v28 => R v28 s6)) (R (Value.bool false) s6))) (R (Value.bool false) s6)))) (R (Value.bool false) s6)))))))))))))))))) (AC Tryd.prog w0 n_spec_l1In [cellOf a0 3, Value.int IntKind.i64 0, Value.int IntKind.i64 7] σ (fun v29 s30 => pUn UnOp.not v29 (fun v31 => pIf v31 (R (Value.bool false) s30) (pLenS (cellOf a0 4) (fun v32 => pBin Tryd.prog 3 BinOp.gtr v32 (Value.int IntKind.i64 24) (fun v33 => pIf v33 (R (Value.bool false) s30) (pBin Tryd.prog 3 BinOp.eql (cellOf a0 1) (Value.int IntKind.i64 1) (fun v34 => pIf v34 (pLen (cellOf a0 0) (fun v35 => pBin Tryd.prog 3 BinOp.gtr v35 (Value.int IntKind.i64 0) (fun v36 => pIf v36 (pUn UnOp.not (cellOf a0 2) (fun v37 => pIf v37 (pBin Tryd.prog 3 BinOp.eql (cellOf a0 3) (Value.int IntKind.i64 0) (fun v38 => pIf v38 (pBin Tryd.prog 9 BinOp.eql (cellOf a0 4) (Value.string ({ data := #[] })) (fun v39 => R v39 s30)) (R (Value.bool false) s30))) (R (Value.bool false) s30))) (R (Value.bool false) s30)))) (pBin Tryd.prog 3 BinOp.eql (cellOf a0 1) (Value.int IntKind.i64 2) (fun v40 => pIf v40 (pLen (cellOf a0 0) (fun v41 => pBin Tryd.prog 3 BinOp.gtr v41 (Value.int IntKind.i64 0) (fun v42 => pIf v42 (pUn UnOp.not (cellOf a0 2) (fun v43 => pIf v43 (R (Value.bool true) s30) (pBin Tryd.prog 9 BinOp.eql (cellOf a0 4) (Value.string ({ data := #[] })) (fun v44 => R v44 s30)))) (R (Value.bool false) s30)))) (pBin Tryd.prog 3 BinOp.eql (cellOf a0 1) (Value.int IntKind.i64 3) (fun v45 => pIf v45 (pUn UnOp.not (cellOf a0 2) (fun v46 => pIf v46 (pBin Tryd.prog 9 BinOp.eql (cellOf a0 4) (Value.string ({ data := #[] })) (fun v47 => R v47 s30)) (R (Value.bool false) s30))) (pBin Tryd.prog 3 BinOp.eql (cellOf a0 1) (Value.int IntKind.i64 4) (fun v48 => pIf v48 (pLen (cellOf a0 0) (fun v49 => pBin Tryd.prog 3 BinOp.gtr v49 (Value.int IntKind.i64 0) (fun v50 => pIf v50 (pUn UnOp.not (cellOf a0 2) (fun v51 => pIf v51 (pBin Tryd.prog 3 BinOp.eql (cellOf a0 3) (Value.int IntKind.i64 0) (fun v52 => R v52 s30)) (R (Value.bool false) s30))) (R (Value.bool false) s30)))) (R (Value.bool false) s30))))))))))))))))))
theorem vc_spec_l3EntryOk_eq (w0 : World) (a0 : Value) (σ : Vw) (R : Value → Vw → Prop) : vc_spec_l3EntryOk w0 a0 σ R = den Tryd.prog w0 kp_spec_l3EntryOk esc_spec_l3EntryOk (Tryd.f48.body.getD .skip) (entry Tryd.f48.ntmps [a0]) σ (retK Tryd.prog Tryd.f48.results.toList R) := by kernel_rfl
theorem ac_spec_l3EntryOk {w0 : World} {a0 : Value} {σ : Vw} {R : Value → Vw → Prop} (h : vc_spec_l3EntryOk w0 a0 σ R) : AC Tryd.prog w0 n_spec_l3EntryOk [a0] σ R := by
  refine ac_rule (fn := Tryd.f48) (c := Tryd.f48.body.getD .skip) kp_spec_l3EntryOk esc_spec_l3EntryOk Tryd.func48 (by kernel_rfl) (by kernel_rfl) ?_
  rw [← vc_spec_l3EntryOk_eq]
  exact h

/-- spec.l3Text -/
def kp_spec_l3Text : Nat → Keep
  | 7 => ⟨[], [], [], .step 0 (.step 1 (.step 2 (.step 3 (.step 4 (.step 8 (.step 9 (.step 5 (.step 6 (.step 7 (.step 10 (.step 11 (.step 12 (.step 13 (.done)))))))))))))), [(1, [0]), (2, [0, 1]), (4, [3]), (5, [3, 4]), (6, [0, 1, 2, 3, 4, 5]), (7, [0, 1, 2, 3, 4, 5, 6]), (9, [8]), (10, [3, 4, 5, 8, 9]), (11, [0, 1, 2, 3, 4, 5, 6, 7, 8, 9, 10]), (12, [0, 1, 2, 3, 4, 5, 6, 7, 8, 9, 10, 11]), (13, [0, 1, 2, 3, 4, 5, 6, 7, 8, 9, 10, 11, 12])]⟩
  | _ => ⟨[], [], [], .done, []⟩
def esc_spec_l3Text : Nat → Bool
  | _ => false
def vc_spec_l3Text (w0 : World) (a0 : Value) (σ : Vw) (R : Value → Vw → Prop) : Prop :=
  pVal true 5 a0 (AC Tryd.prog w0 n_spec_l3Name [cellOf a0 0] σ (fun v0 s1 => pBin Tryd.prog 3 BinOp.eql (cellOf a0 1) (Value.int IntKind.i64 1) (fun v2 => pIf v2 (pBin Tryd.prog 9 BinOp.add (Value.string ({ data := #[103, 111, 110, 101, 32] })) v0 (fun v3 => pBin Tryd.prog 9 BinOp.add v3 (Value.string ({ data := #[10] })) (fun v4 => R v4 s1))) (pBin Tryd.prog 3 BinOp.eql (cellOf a0 1) (Value.int IntKind.i64 2) (fun v5 => pIf v5 (pIf (cellOf a0 2) (pBin Tryd.prog 9 BinOp.add (Value.string ({ data := #[110, 101, 119, 100, 105, 114, 32] })) v0 (fun v6 => pBin Tryd.prog 9 BinOp.add v6 (Value.string ({ data := #[32] })) (fun v7 => AC Tryd.prog w0 n_spec_l1Dec [cellOf a0 3] s1 (fun v8 s9 => pBin Tryd.prog 9 BinOp.add v7 v8 (fun v10 => pBin Tryd.prog 9 BinOp.add v10 (Value.string ({ data := #[10] })) (fun v11 => R v11 s9)))))) (pBin Tryd.prog 3 BinOp.eql (cellOf a0 1) (Value.int IntKind.i64 2) (fun v12 => pIf v12 (pBin Tryd.prog 9 BinOp.add (Value.string ({ data := #[110, 101, 119, 32] })) v0 (fun v13 => pBin Tryd.prog 9 BinOp.add v13 (Value.string ({ data := #[32] })) (fun v14 => AC Tryd.prog w0 n_spec_l1Dec [cellOf a0 3] s1 (fun v15 s16 => pBin Tryd.prog 9 BinOp.add v14 v15 (fun v17 => pBin Tryd.prog 9 BinOp.add v17 (Value.string ({ data := #[32] })) (fun v18 => AC Tryd.prog w0 n_spec_l1Hex [cellOf a0 4] s16 (fun v19 s20 => pBin Tryd.prog 9 BinOp.add v18 v19 (fun v21 => pBin Tryd.prog 9 BinOp.add v21 (Value.string ({ data := #[10] })) (fun v22 => R v22 s20))))))))) (pBin Tryd.prog 3 BinOp.eql (cellOf a0 1) (Value.int IntKind.i64 3) (fun v23 => pIf v23 (pBin Tryd.prog 9 BinOp.add (Value.string ({ data := #[109, 111, 100, 101, 32] })) v0 (fun v24 => pBin Tryd.prog 9 BinOp.add v24 (Value.string ({ data := #[32] })) (fun v25 => AC Tryd.prog w0 n_spec_l1Dec [cellOf a0 3] s1 (fun v26 s27 => pBin Tryd.prog 9 BinOp.add v25 v26 (fun v28 => pBin Tryd.prog 9 BinOp.add v28 (Value.string ({ data := #[10] })) (fun v29 => R v29 s27)))))) (pBin Tryd.prog 9 BinOp.add (Value.string ({ data := #[100, 97, 116, 97, 32] })) v0 (fun v30 => pBin Tryd.prog 9 BinOp.add v30 (Value.string ({ data := #[32] })) (fun v31 => AC Tryd.prog w0 n_spec_l1Hex [cellOf a0 4] s1 (fun v32 s33 => pBin Tryd.prog 9 BinOp.add v31 v32 (fun v34 => pBin Tryd.prog 9 BinOp.add v34 (Value.string ({ data := #[10] })) (fun v35 => R v35 s33))))))))))) (pBin Tryd.prog 3 BinOp.eql (cellOf a0 1) (Value.int IntKind.i64 2) (fun v36 => pIf v36 (pBin Tryd.prog 9 BinOp.add (Value.string ({ data := #[110, 101, 119, 32] })) v0 (fun v37 => pBin Tryd.prog 9 BinOp.add v37 (Value.string ({ data := #[32] })) (fun v38 => AC Tryd.prog w0 n_spec_l1Dec [cellOf a0 3] s1 (fun v39 s40 => pBin Tryd.prog 9 BinOp.add v38 v39 (fun v41 => pBin Tryd.prog 9 BinOp.add v41 (Value.string ({ data := #[32] })) (fun v42 => AC Tryd.prog w0 n_spec_l1Hex [cellOf a0 4] s40 (fun v43 s44 => pBin Tryd.prog 9 BinOp.add v42 v43 (fun v45 => pBin Tryd.prog 9 BinOp.add v45 (Value.string ({ data := #[10] })) (fun v46 => R v46 s44))))))))) (pBin Tryd.prog 3 BinOp.eql (cellOf a0 1) (Value.int IntKind.i64 3) (fun v47 => pIf v47 (pBin Tryd.prog 9 BinOp.add (Value.string ({ data := #[109, 111, 100, 101, 32] })) v0 (fun v48 => pBin Tryd.prog 9 BinOp.add v48 (Value.string ({ data := #[32] })) (fun v49 => AC Tryd.prog w0 n_spec_l1Dec [cellOf a0 3] s1 (fun v50 s51 => pBin Tryd.prog 9 BinOp.add v49 v50 (fun v52 => pBin Tryd.prog 9 BinOp.add v52 (Value.string ({ data := #[10] })) (fun v53 => R v53 s51)))))) (pBin Tryd.prog 9 BinOp.add (Value.string ({ data := #[100, 97, 116, 97, 32] })) v0 (fun v54 => pBin Tryd.prog 9 BinOp.add v54 (Value.string ({ data := #[32] })) (fun v55 => AC Tryd.prog w0 n_spec_l1Hex [cellOf a0 4] s1 (fun v56 s57 => pBin Tryd.prog 9 BinOp.add v55 v56 (fun v58 => pBin Tryd.prog 9 BinOp.add v58 (Value.string ({ data := #[10] })) (fun v59 => R v59 s57)))))))))))))))
theorem vc_spec_l3Text_eq (w0 : World) (a0 : Value) (σ : Vw) (R : Value → Vw → Prop) : vc_spec_l3Text w0 a0 σ R = den Tryd.prog w0 kp_spec_l3Text esc_spec_l3Text (Tryd.f49.body.getD .skip) (entry Tryd.f49.ntmps [a0]) σ (retK Tryd.prog Tryd.f49.results.toList R) := by kernel_rfl
theorem ac_spec_l3Text {w0 : World} {a0 : Value} {σ : Vw} {R : Value → Vw → Prop} (h : vc_spec_l3Text w0 a0 σ R) : AC Tryd.prog w0 n_spec_l3Text [a0] σ R := by
  refine ac_rule (fn := Tryd.f49) (c := Tryd.f49.body.getD .skip) kp_spec_l3Text esc_spec_l3Text Tryd.func49 (by kernel_rfl) (by kernel_rfl) ?_
  rw [← vc_spec_l3Text_eq]
  exact h

/-- laws.toEntry -/
def kp_laws_toEntry : Nat → Keep
  | _ => ⟨[], [], [], .done, []⟩
def esc_laws_toEntry : Nat → Bool
  | _ => false
def vc_laws_toEntry (w0 : World) (a0 : Value) (σ : Vw) (R : Value → Vw → Prop) : Prop :=
  pVal true 5 a0 (AC Tryd.prog w0 n_laws_toStringS [cellOf a0 0] σ (fun v0 s1 => pVal false 1 v0 (pVal false 1 (cellOf a0 1) (pVal false 1 (cellOf a0 2) (pVal false 1 (cellOf a0 3) (pVal false 1 (cellOf a0 4) (pVal true 5 (Value.agg (⟨[v0, cellOf a0 1, cellOf a0 2, cellOf a0 3, cellOf a0 4]⟩)) (R (Value.agg (⟨[v0, cellOf a0 1, cellOf a0 2, cellOf a0 3, cellOf a0 4]⟩)) s1))))))))
theorem vc_laws_toEntry_eq (w0 : World) (a0 : Value) (σ : Vw) (R : Value → Vw → Prop) : vc_laws_toEntry w0 a0 σ R = den Tryd.prog w0 kp_laws_toEntry esc_laws_toEntry (Tryd.f50.body.getD .skip) (entry Tryd.f50.ntmps [a0]) σ (retK Tryd.prog Tryd.f50.results.toList R) := by kernel_rfl
theorem ac_laws_toEntry {w0 : World} {a0 : Value} {σ : Vw} {R : Value → Vw → Prop} (h : vc_laws_toEntry w0 a0 σ R) : AC Tryd.prog w0 n_laws_toEntry [a0] σ R := by
  refine ac_rule (fn := Tryd.f50) (c := Tryd.f50.body.getD .skip) kp_laws_toEntry esc_laws_toEntry Tryd.func50 (by kernel_rfl) (by kernel_rfl) ?_
  rw [← vc_laws_toEntry_eq]
  exact h

/-- impl.entryOk -/
def kp_impl_entryOk : Nat → Keep
  | _ => ⟨[], [], [], .done, []⟩
def esc_impl_entryOk : Nat → Bool
  | _ => false
def vc_impl_entryOk (w0 : World) (a0 : Value) (σ : Vw) (R : Value → Vw → Prop) : Prop :=
  pVal true 5 a0 (pBin Tryd.prog 3 BinOp.eql (cellOf a0 1) (Value.int IntKind.i64 3) (fun v0 => pIf v0 (AC Tryd.prog w0 n_impl_namesOk [cellOf a0 0, Value.int IntKind.i64 0] σ (fun v1 s2 => pUn UnOp.not v1 (fun v3 => pIf v3 (R (Value.bool false) s2) (AC Tryd.prog w0 n_impl_modeOk [cellOf a0 3] s2 (fun v4 s5 => pUn UnOp.not v4 (fun v6 => pIf v6 (R (Value.bool false) s5) (pLenS (cellOf a0 4) (fun v7 => pBin Tryd.prog 3 BinOp.gtr v7 (Value.int IntKind.i64 24) (fun v8 => pIf v8 (R (Value.bool false) s5) (pBin Tryd.prog 3 BinOp.eql (cellOf a0 1) (Value.int IntKind.i64 1) (fun v9 => pIf v9 (pUn UnOp.not (cellOf a0 2) (fun v10 => pIf v10 (pBin Tryd.prog 3 BinOp.eql (cellOf a0 3) (Value.int IntKind.i64 0) (fun v11 => pIf v11 (pBin Tryd.prog 9 BinOp.eql (cellOf a0 4) (Value.string ({ data := #[] })) (fun v12 => R v12 s5)) (R (Value.bool false) s5))) (R (Value.bool false) s5))) (pBin Tryd.prog 3 BinOp.eql (cellOf a0 1) (Value.int IntKind.i64 2) (fun v13 => pIf v13 (pUn UnOp.not (cellOf a0 2) (fun v14 => pIf v14 (R (Value.bool true) s5) (pBin Tryd.prog 9 BinOp.eql (cellOf a0 4) (Value.string ({ data := #[] })) (fun v15 => R v15 s5)))) (pBin Tryd.prog 3 BinOp.eql (cellOf a0 1) (Value.int IntKind.i64 3) (fun v16 => pIf v16 (pUn UnOp.not (cellOf a0 2) (fun v17 => pIf v17 (pBin Tryd.prog 9 BinOp.eql (cellOf a0 4) (Value.string ({ data := #[] })) (fun v18 => R v18 s5)) (R (Value.bool false) s5))) (pBin Tryd.prog 3 BinOp.eql (cellOf a0 1) (Value.int IntKind.i64 4) (fun v19 => pIf v19 (pUn UnOp.not (cellOf a0 2) (fun v20 => pIf v20 (pBin Tryd.prog 3 BinOp.eql (cellOf a0 3) (Value.int IntKind.i64 0) (fun v21 => R v21 s5)) (R (Value.bool false) s5))) (R (Value.bool false) s5)))))))))))))))))) (AC Tryd.prog w0 n_impl_namesOk [cellOf a0 0, Value.int IntKind.i64 1] σ (fun v22 s23 => pUn UnOp.not v22 (fun v24 => pIf v24 (R (Value.bool false) s23) (AC Tryd.prog w0 n_impl_modeOk [cellOf a0 3] s23 (fun v25 s26 => pUn UnOp.not v25 (fun v27 => pIf v27 (R (Value.bool false) s26) (pLenS (cellOf a0 4) (fun v28 => pBin Tryd.prog 3 BinOp.gtr v28 (Value.int IntKind.i64 24) (fun v29 => pIf v29 (R (Value.bool false) s26) (pBin Tryd.prog 3 BinOp.eql (cellOf a0 1) (Value.int IntKind.i64 1) (fun v30 => pIf v30 (pUn UnOp.not (cellOf a0 2) (fun v31 => pIf v31 (pBin Tryd.prog 3 BinOp.eql (cellOf a0 3) (Value.int IntKind.i64 0) (fun v32 => pIf v32 (pBin Tryd.prog 9 BinOp.eql (cellOf a0 4) (Value.string ({ data := #[] })) (fun v33 => R v33 s26)) (R (Value.bool false) s26))) (R (Value.bool false) s26))) (pBin Tryd.prog 3 BinOp.eql (cellOf a0 1) (Value.int IntKind.i64 2) (fun v34 => pIf v34 (pUn UnOp.not (cellOf a0 2) (fun v35 => pIf v35 (R (Value.bool true) s26) (pBin Tryd.prog 9 BinOp.eql (cellOf a0 4) (Value.string ({ data := #[] })) (fun v36 => R v36 s26)))) (pBin Tryd.prog 3 BinOp.eql (cellOf a0 1) (Value.int IntKind.i64 3) (fun v37 => pIf v37 (pUn UnOp.not (cellOf a0 2) (fun v38 => pIf v38 (pBin Tryd.prog 9 BinOp.eql (cellOf a0 4) (Value.string ({ data := #[] })) (fun v39 => R v39 s26)) (R (Value.bool false) s26))) (pBin Tryd.prog 3 BinOp.eql (cellOf a0 1) (Value.int IntKind.i64 4) (fun v40 => pIf v40 (pUn UnOp.not (cellOf a0 2) (fun v41 => pIf v41 (pBin Tryd.prog 3 BinOp.eql (cellOf a0 3) (Value.int IntKind.i64 0) (fun v42 => R v42 s26)) (R (Value.bool false) s26))) (R (Value.bool false) s26))))))))))))))))))))
theorem vc_impl_entryOk_eq (w0 : World) (a0 : Value) (σ : Vw) (R : Value → Vw → Prop) : vc_impl_entryOk w0 a0 σ R = den Tryd.prog w0 kp_impl_entryOk esc_impl_entryOk (Tryd.f51.body.getD .skip) (entry Tryd.f51.ntmps [a0]) σ (retK Tryd.prog Tryd.f51.results.toList R) := by kernel_rfl
theorem ac_impl_entryOk {w0 : World} {a0 : Value} {σ : Vw} {R : Value → Vw → Prop} (h : vc_impl_entryOk w0 a0 σ R) : AC Tryd.prog w0 n_impl_entryOk [a0] σ R := by
  refine ac_rule (fn := Tryd.f51) (c := Tryd.f51.body.getD .skip) kp_impl_entryOk esc_impl_entryOk Tryd.func51 (by kernel_rfl) (by kernel_rfl) ?_
  rw [← vc_impl_entryOk_eq]
  exact h

/-- (*strings.Builder).WriteString -/
def kp_p_strings_Builder_WriteString : Nat → Keep
  | _ => ⟨[], [], [], .done, []⟩
def esc_p_strings_Builder_WriteString : Nat → Bool
  | _ => false
def vc_p_strings_Builder_WriteString (w0 : World) (a0 a1 : Value) (σ : Vw) (R : Value → Vw → Prop) : Prop :=
  AC Tryd.prog w0 n_p_strings_Builder_copyCheck [a0] σ (fun v0 s1 => pNil a0 (pField 1 a0 (fun v2 => pLoad w0 1 v2 s1 (fun g3 => False))))
theorem vc_p_strings_Builder_WriteString_eq (w0 : World) (a0 a1 : Value) (σ : Vw) (R : Value → Vw → Prop) : vc_p_strings_Builder_WriteString w0 a0 a1 σ R = den Tryd.prog w0 kp_p_strings_Builder_WriteString esc_p_strings_Builder_WriteString (Tryd.f52.body.getD .skip) (entry Tryd.f52.ntmps [a0, a1]) σ (retK Tryd.prog Tryd.f52.results.toList R) := by kernel_rfl
theorem ac_p_strings_Builder_WriteString {w0 : World} {a0 a1 : Value} {σ : Vw} {R : Value → Vw → Prop} (h : vc_p_strings_Builder_WriteString w0 a0 a1 σ R) : AC Tryd.prog w0 n_p_strings_Builder_WriteString [a0, a1] σ R := by
  refine ac_rule (fn := Tryd.f52) (c := Tryd.f52.body.getD .skip) kp_p_strings_Builder_WriteString esc_p_strings_Builder_WriteString Tryd.func52 (by kernel_rfl) (by kernel_rfl) ?_
  rw [← vc_p_strings_Builder_WriteString_eq]
  exact h

/-- (impl.Entry).line -/
def kp_impl_Entry_line : Nat → Keep
  | 1 => ⟨[], [], [], .step 0 (.step 1 (.step 3 (.step 4 (.step 2 (.step 5 (.step 6 (.step 7 (.done)))))))), [(1, [0]), (2, [0, 1]), (4, [3]), (5, [0, 1, 2, 3, 4]), (6, [0, 1, 2, 3, 4, 5]), (7, [0, 1, 2, 3, 4, 5, 6])]⟩
  | _ => ⟨[], [], [], .done, []⟩
def esc_impl_Entry_line : Nat → Bool
  | _ => false
def vc_impl_Entry_line (w0 : World) (a0 : Value) (σ : Vw) (R : Value → Vw → Prop) : Prop :=
  pVal true 5 a0 (AC Tryd.prog w0 n_impl_pathText [cellOf a0 0] σ (fun v0 s1 => AC Tryd.prog w0 n_strconv_Itoa [cellOf a0 3] s1 (fun v2 s3 => pBin Tryd.prog 3 BinOp.eql (cellOf a0 1) (Value.int IntKind.i64 1) (fun v4 => pIf v4 (pBin Tryd.prog 9 BinOp.add (Value.string ({ data := #[103, 111, 110, 101, 32] })) v0 (fun v5 => pBin Tryd.prog 9 BinOp.add v5 (Value.string ({ data := #[10] })) (fun v6 => R v6 s3))) (pBin Tryd.prog 3 BinOp.eql (cellOf a0 1) (Value.int IntKind.i64 3) (fun v7 => pIf v7 (pBin Tryd.prog 9 BinOp.add (Value.string ({ data := #[109, 111, 100, 101, 32] })) v0 (fun v8 => pBin Tryd.prog 9 BinOp.add v8 (Value.string ({ data := #[32] })) (fun v9 => pBin Tryd.prog 9 BinOp.add v9 v2 (fun v10 => pBin Tryd.prog 9 BinOp.add v10 (Value.string ({ data := #[10] })) (fun v11 => R v11 s3))))) (pBin Tryd.prog 3 BinOp.eql (cellOf a0 1) (Value.int IntKind.i64 4) (fun v12 => pIf v12 (pBin Tryd.prog 9 BinOp.add (Value.string ({ data := #[100, 97, 116, 97, 32] })) v0 (fun v13 => pBin Tryd.prog 9 BinOp.add v13 (Value.string ({ data := #[32] })) (fun v14 => AC Tryd.prog w0 n_impl_dataText [cellOf a0 4] s3 (fun v15 s16 => pBin Tryd.prog 9 BinOp.add v14 v15 (fun v17 => pBin Tryd.prog 9 BinOp.add v17 (Value.string ({ data := #[10] })) (fun v18 => R v18 s16)))))) (pIf (cellOf a0 2) (pBin Tryd.prog 9 BinOp.add (Value.string ({ data := #[110, 101, 119, 100, 105, 114, 32] })) v0 (fun v19 => pBin Tryd.prog 9 BinOp.add v19 (Value.string ({ data := #[32] })) (fun v20 => pBin Tryd.prog 9 BinOp.add v20 v2 (fun v21 => pBin Tryd.prog 9 BinOp.add v21 (Value.string ({ data := #[10] })) (fun v22 => R v22 s3))))) (pBin Tryd.prog 9 BinOp.add (Value.string ({ data := #[110, 101, 119, 32] })) v0 (fun v23 => pBin Tryd.prog 9 BinOp.add v23 (Value.string ({ data := #[32] })) (fun v24 => pBin Tryd.prog 9 BinOp.add v24 v2 (fun v25 => pBin Tryd.prog 9 BinOp.add v25 (Value.string ({ data := #[32] })) (fun v26 => AC Tryd.prog w0 n_impl_dataText [cellOf a0 4] s3 (fun v27 s28 => pBin Tryd.prog 9 BinOp.add v26 v27 (fun v29 => pBin Tryd.prog 9 BinOp.add v29 (Value.string ({ data := #[10] })) (fun v30 => R v30 s28)))))))))))))))))
theorem vc_impl_Entry_line_eq (w0 : World) (a0 : Value) (σ : Vw) (R : Value → Vw → Prop) : vc_impl_Entry_line w0 a0 σ R = den Tryd.prog w0 kp_impl_Entry_line esc_impl_Entry_line (Tryd.f53.body.getD .skip) (entry Tryd.f53.ntmps [a0]) σ (retK Tryd.prog Tryd.f53.results.toList R) := by kernel_rfl
theorem ac_impl_Entry_line {w0 : World} {a0 : Value} {σ : Vw} {R : Value → Vw → Prop} (h : vc_impl_Entry_line w0 a0 σ R) : AC Tryd.prog w0 n_impl_Entry_line [a0] σ R := by
  refine ac_rule (fn := Tryd.f53) (c := Tryd.f53.body.getD .skip) kp_impl_Entry_line esc_impl_Entry_line Tryd.func53 (by kernel_rfl) (by kernel_rfl) ?_
  rw [← vc_impl_Entry_line_eq]
  exact h

/-- (*strings.Builder).Len -/
def kp_p_strings_Builder_Len : Nat → Keep
  | _ => ⟨[], [], [], .done, []⟩
def esc_p_strings_Builder_Len : Nat → Bool
  | _ => false
def vc_p_strings_Builder_Len (w0 : World) (a0 : Value) (σ : Vw) (R : Value → Vw → Prop) : Prop :=
  pNil a0 (pField 1 a0 (fun v0 => pLoad w0 1 v0 σ (fun g1 => pLen (g1 0) (fun v2 => R v2 σ))))
theorem vc_p_strings_Builder_Len_eq (w0 : World) (a0 : Value) (σ : Vw) (R : Value → Vw → Prop) : vc_p_strings_Builder_Len w0 a0 σ R = den Tryd.prog w0 kp_p_strings_Builder_Len esc_p_strings_Builder_Len (Tryd.f54.body.getD .skip) (entry Tryd.f54.ntmps [a0]) σ (retK Tryd.prog Tryd.f54.results.toList R) := by kernel_rfl
theorem ac_p_strings_Builder_Len {w0 : World} {a0 : Value} {σ : Vw} {R : Value → Vw → Prop} (h : vc_p_strings_Builder_Len w0 a0 σ R) : AC Tryd.prog w0 n_p_strings_Builder_Len [a0] σ R := by
  refine ac_rule (fn := Tryd.f54) (c := Tryd.f54.body.getD .skip) kp_p_strings_Builder_Len esc_p_strings_Builder_Len Tryd.func54 (by kernel_rfl) (by kernel_rfl) ?_
  rw [← vc_p_strings_Builder_Len_eq]
  exact h

/-- (*strings.Builder).String -/
def kp_p_strings_Builder_String : Nat → Keep
  | 1 => ⟨[], [], [], .step 0 (.step 1 (.step 2 (.step 3 (.step 5 (.step 6 (.step 7 (.step 8 (.step 9 (.step 4 (.step 10 (.step 11 (.done)))))))))))), [(1, [0]), (2, [0, 1]), (3, [0, 1, 2]), (4, [0, 1, 2, 3]), (6, [5]), (7, [5, 6]), (8, [5, 6, 7]), (9, [5, 6, 7, 8]), (10, [0, 1, 2, 3, 4, 5, 6, 7, 8, 9]), (11, [0, 1, 2, 3, 4, 5, 6, 7, 8, 9, 10])]⟩
  | _ => ⟨[], [], [], .done, []⟩
def esc_p_strings_Builder_String : Nat → Bool
  | _ => false
def vc_p_strings_Builder_String (w0 : World) (a0 : Value) (σ : Vw) (R : Value → Vw → Prop) : Prop :=
  pNil a0 (pField 1 a0 (fun v0 => pLoad w0 1 v0 σ (fun g1 => pNil a0 (pField 1 a0 (fun v2 => pLoad w0 1 v2 σ (fun g3 => pLen (g3 0) (fun v4 => False)))))))
theorem vc_p_strings_Builder_String_eq (w0 : World) (a0 : Value) (σ : Vw) (R : Value → Vw → Prop) : vc_p_strings_Builder_String w0 a0 σ R = den Tryd.prog w0 kp_p_strings_Builder_String esc_p_strings_Builder_String (Tryd.f55.body.getD .skip) (entry Tryd.f55.ntmps [a0]) σ (retK Tryd.prog Tryd.f55.results.toList R) := by kernel_rfl
theorem ac_p_strings_Builder_String {w0 : World} {a0 : Value} {σ : Vw} {R : Value → Vw → Prop} (h : vc_p_strings_Builder_String w0 a0 σ R) : AC Tryd.prog w0 n_p_strings_Builder_String [a0] σ R := by
  refine ac_rule (fn := Tryd.f55) (c := Tryd.f55.body.getD .skip) kp_p_strings_Builder_String esc_p_strings_Builder_String Tryd.func55 (by kernel_rfl) (by kernel_rfl) ?_
  rw [← vc_p_strings_Builder_String_eq]
  exact h

/-- laws.eqEntry -/
def kp_laws_eqEntry : Nat → Keep
  | _ => ⟨[], [], [], .done, []⟩
def esc_laws_eqEntry : Nat → Bool
  | _ => false
def vc_laws_eqEntry (w0 : World) (a0 a1 : Value) (σ : Vw) (R : Value → Vw → Prop) : Prop :=
  pVal true 5 a0 (pVal true 5 a1 (AC Tryd.prog w0 n_laws_eqStringS [cellOf a0 0, cellOf a1 0] σ (fun v0 s1 => pUn UnOp.not v0 (fun v2 => pIf v2 (R (Value.bool false) s1) (pBin Tryd.prog 3 BinOp.neq (cellOf a0 1) (cellOf a1 1) (fun v3 => pIf v3 (R (Value.bool false) s1) (pBin Tryd.prog 4 BinOp.neq (cellOf a0 2) (cellOf a1 2) (fun v4 => pIf v4 (R (Value.bool false) s1) (pBin Tryd.prog 3 BinOp.neq (cellOf a0 3) (cellOf a1 3) (fun v5 => pIf v5 (R (Value.bool false) s1) (pBin Tryd.prog 9 BinOp.neq (cellOf a0 4) (cellOf a1 4) (fun v6 => pIf v6 (R (Value.bool false) s1) (R (Value.bool true) s1)))))))))))))
theorem vc_laws_eqEntry_eq (w0 : World) (a0 a1 : Value) (σ : Vw) (R : Value → Vw → Prop) : vc_laws_eqEntry w0 a0 a1 σ R = den Tryd.prog w0 kp_laws_eqEntry esc_laws_eqEntry (Tryd.f56.body.getD .skip) (entry Tryd.f56.ntmps [a0, a1]) σ (retK Tryd.prog Tryd.f56.results.toList R) := by kernel_rfl
theorem ac_laws_eqEntry {w0 : World} {a0 a1 : Value} {σ : Vw} {R : Value → Vw → Prop} (h : vc_laws_eqEntry w0 a0 a1 σ R) : AC Tryd.prog w0 n_laws_eqEntry [a0, a1] σ R := by
  refine ac_rule (fn := Tryd.f56) (c := Tryd.f56.body.getD .skip) kp_laws_eqEntry esc_laws_eqEntry Tryd.func56 (by kernel_rfl) (by kernel_rfl) ?_
  rw [← vc_laws_eqEntry_eq]
  exact h

/-- spec.l31Of -/
def kp_spec_l31Of : Nat → Keep
  | 1 => ⟨[], [], [], .step 0 (.step 2 (.step 1 (.step 3 (.step 4 (.step 5 (.step 6 (.done))))))), [(1, [0]), (3, [0, 1, 2]), (4, [0, 1, 2, 3]), (5, [0, 1, 2, 3, 4]), (6, [0, 1, 2, 3, 4, 5])]⟩
  | _ => ⟨[], [], [], .done, []⟩
def esc_spec_l31Of : Nat → Bool
  | _ => false
def vc_spec_l31Of (w0 : World) (a0 : Value) (σ : Vw) (R : Value → Vw → Prop) : Prop :=
  pVal true 5 a0 (AC Tryd.prog w0 n_spec_l1Line ([Value.string ({ data := #[47] }), Value.agg (⟨[cellOf a0 0, cellOf a0 1, cellOf a0 2, cellOf a0 3, cellOf a0 4]⟩)]) σ (fun v0 s1 => AC Tryd.prog w0 n_spec_l1Show ([Value.string ({ data := #[] }), Value.agg (⟨[cellOf a0 0, cellOf a0 1, cellOf a0 2, cellOf a0 3, cellOf a0 4]⟩)]) s1 (fun v2 s3 => pBin Tryd.prog 9 BinOp.add v0 v2 (fun v4 => AC Tryd.prog w0 n_spec_l31Id [v4] s3 (fun v5 s6 => R v5 s6)))))
theorem vc_spec_l31Of_eq (w0 : World) (a0 : Value) (σ : Vw) (R : Value → Vw → Prop) : vc_spec_l31Of w0 a0 σ R = den Tryd.prog w0 kp_spec_l31Of esc_spec_l31Of (Tryd.f57.body.getD .skip) (entry Tryd.f57.ntmps [a0]) σ (retK Tryd.prog Tryd.f57.results.toList R) := by kernel_rfl
theorem ac_spec_l31Of {w0 : World} {a0 : Value} {σ : Vw} {R : Value → Vw → Prop} (h : vc_spec_l31Of w0 a0 σ R) : AC Tryd.prog w0 n_spec_l31Of [a0] σ R := by
  refine ac_rule (fn := Tryd.f57) (c := Tryd.f57.body.getD .skip) kp_spec_l31Of esc_spec_l31Of Tryd.func57 (by kernel_rfl) (by kernel_rfl) ?_
  rw [← vc_spec_l31Of_eq]
  exact h

/-- (impl.Tree).id -/
def kp_impl_Tree_id : Nat → Keep
  | 4 => ⟨[3, 4, 9, 10], [], [], .done, []⟩
  | _ => ⟨[], [], [], .done, []⟩
def esc_impl_Tree_id : Nat → Bool
  | _ => false
def vc_impl_Tree_id (w0 : World) (a0 : Value) (σ : Vw) (R : Value → Vw → Prop) : Prop :=
  pVal true 5 a0 (AC Tryd.prog w0 n_impl_Tree_show ([Value.agg (⟨[cellOf a0 0, cellOf a0 1, cellOf a0 2, cellOf a0 3, cellOf a0 4]⟩)]) σ (fun v0 s1 => pLenS v0 (fun v2 => pLoop (fun l3 K4 s5 => pBin Tryd.prog 3 BinOp.lss (vget l3 3) (vget l3 2) (fun v6 => pIf v6 (pBin Tryd.prog 3 BinOp.mul (Value.int IntKind.i64 131) (vget l3 0) (fun v7 => pIndexStr (vget l3 1) (vget l3 3) (fun v8 => pConvInt IntKind.i64 v8 (fun v9 => pBin Tryd.prog 3 BinOp.add v7 v9 (fun v10 => pBin Tryd.prog 3 BinOp.rem v10 (Value.int IntKind.i64 1000000007) (fun v11 => pBin Tryd.prog 3 BinOp.add (vget l3 3) (Value.int IntKind.i64 1) (fun v12 => K4 AX.normal [v11, vget l3 1, vget l3 2, v12] s5))))))) (K4 (AX.exit 0) [vget l3 0, vget l3 1, vget l3 2, vget l3 3] s5))) [Value.int IntKind.i64 7, v0, v2, Value.int IntKind.i64 0] s1 (fun x13 l14 s15 => match x13 with | .normal => R (vget l14 0) s15 | .ret => False | .exit i16 => (match Nat.beq i16 0 with | true => R (vget l14 0) s15 | false => False)))))
theorem vc_impl_Tree_id_eq (w0 : World) (a0 : Value) (σ : Vw) (R : Value → Vw → Prop) : vc_impl_Tree_id w0 a0 σ R = den Tryd.prog w0 kp_impl_Tree_id esc_impl_Tree_id (Tryd.f58.body.getD .skip) (entry Tryd.f58.ntmps [a0]) σ (retK Tryd.prog Tryd.f58.results.toList R) := by kernel_rfl
theorem ac_impl_Tree_id {w0 : World} {a0 : Value} {σ : Vw} {R : Value → Vw → Prop} (h : vc_impl_Tree_id w0 a0 σ R) : AC Tryd.prog w0 n_impl_Tree_id [a0] σ R := by
  refine ac_rule (fn := Tryd.f58) (c := Tryd.f58.body.getD .skip) kp_impl_Tree_id esc_impl_Tree_id Tryd.func58 (by kernel_rfl) (by kernel_rfl) ?_
  rw [← vc_impl_Tree_id_eq]
  exact h

/-- spec.l1Cut -/
def kp_spec_l1Cut : Nat → Keep
  | 4 => ⟨[0, 1, 5, 6, 7], [], [], .done, []⟩
  | _ => ⟨[], [], [], .done, []⟩
def esc_spec_l1Cut : Nat → Bool
  | 8 => true
  | _ => false
def vc_spec_l1Cut (w0 : World) (a0 a1 : Value) (σ : Vw) (R : Value → Vw → Prop) : Prop :=
  pNew w0 9 [] σ (fun n0 s1 => pLoop (fun l2 K3 s4 => pLenS (vget l2 0) (fun v5 => pBin Tryd.prog 3 BinOp.lss (vget l2 4) v5 (fun v6 => pIf v6 (pIndexStr (vget l2 0) (vget l2 4) (fun v7 => pBin Tryd.prog 5 BinOp.eql v7 (vget l2 1) (fun v8 => pIf v8 (pSliceStr (vget l2 0) (Option.some (vget l2 3)) (Option.some (vget l2 4)) (fun v9 => pVal false 1 v9 ((allOne [v9]) ∧ (pAppend w0 9 1 16 (vget l2 2) 1 [v9] s4 (fun v10 s11 => pBin Tryd.prog 3 BinOp.add (vget l2 4) (Value.int IntKind.i64 1) (fun v12 => pBin Tryd.prog 3 BinOp.add (vget l2 4) (Value.int IntKind.i64 1) (fun v13 => K3 AX.normal [vget l2 0, vget l2 1, v10, v12, v13] s11))))))) (pBin Tryd.prog 3 BinOp.add (vget l2 4) (Value.int IntKind.i64 1) (fun v14 => K3 AX.normal [vget l2 0, vget l2 1, vget l2 2, vget l2 3, v14] s4))))) (K3 (AX.exit 0) [vget l2 0, vget l2 1, vget l2 2, vget l2 3, vget l2 4] s4)))) [a0, a1, Value.slice (Option.some (Addr.mk n0 0 Option.none)) 0 0, Value.int IntKind.i64 0, Value.int IntKind.i64 0] s1 (fun x15 l16 s17 => match x15 with | .normal => pSliceStr (vget l16 0) (Option.some (vget l16 3)) Option.none (fun v18 => pVal false 1 v18 ((allOne [v18]) ∧ (pAppend w0 9 1 16 (vget l16 2) 1 [v18] s17 (fun v19 s20 => R v19 s20)))) | .ret => False | .exit i21 => (match Nat.beq i21 0 with | true => pSliceStr (vget l16 0) (Option.some (vget l16 3)) Option.none (fun v22 => pVal false 1 v22 ((allOne [v22]) ∧ (pAppend w0 9 1 16 (vget l16 2) 1 [v22] s17 (fun v23 s24 => R v23 s24)))) | false => False)))
theorem vc_spec_l1Cut_eq (w0 : World) (a0 a1 : Value) (σ : Vw) (R : Value → Vw → Prop) : vc_spec_l1Cut w0 a0 a1 σ R = den Tryd.prog w0 kp_spec_l1Cut esc_spec_l1Cut (Tryd.f59.body.getD .skip) (entry Tryd.f59.ntmps [a0, a1]) σ (retK Tryd.prog Tryd.f59.results.toList R) := by kernel_rfl
theorem ac_spec_l1Cut {w0 : World} {a0 a1 : Value} {σ : Vw} {R : Value → Vw → Prop} (h : vc_spec_l1Cut w0 a0 a1 σ R) : AC Tryd.prog w0 n_spec_l1Cut [a0, a1] σ R := by
  refine ac_rule (fn := Tryd.f59) (c := Tryd.f59.body.getD .skip) kp_spec_l1Cut esc_spec_l1Cut Tryd.func59 (by kernel_rfl) (by kernel_rfl) ?_
  rw [← vc_spec_l1Cut_eq]
  exact h

/-- spec.TrailOk -/
def kp_spec_TrailOk : Nat → Keep
  | 2 => ⟨[0, 2, 3], [], [], .done, []⟩
  | 4 => ⟨[], [], [], .step 0 (.step 1 (.step 2 (.step 3 (.step 4 (.step 5 (.step 6 (.step 7 (.step 8 (.step 9 (.step 10 (.step 11 (.step 12 (.step 13 (.step 14 (.step 15 (.step 16 (.step 17 (.step 18 (.step 19 (.step 20 (.step 21 (.step 22 (.step 23 (.step 24 (.done))))))))))))))))))))))))), [(2, [0, 1]), (3, [0, 1, 2]), (4, [0, 1, 2, 3]), (5, [0, 1, 2, 3, 4]), (6, [0, 1, 2, 3, 4, 5]), (7, [0, 1, 2, 3, 4, 5, 6]), (8, [0, 1, 2, 3, 4, 5, 6, 7]), (9, [0, 1, 2, 3, 4, 5, 6, 7, 8]), (10, [0, 1, 2, 3, 4, 5, 6, 7, 8, 9]), (11, [0, 1, 2, 3, 4, 5, 6, 7, 8, 9]), (12, [0, 1, 2, 3, 4, 5, 6, 7, 8, 9, 11]), (13, [0, 1, 2, 3, 4, 5, 6, 7, 8, 9, 10, 11, 12]), (14, [0, 1, 2, 3, 4, 5, 6, 7, 8, 9, 10, 11, 12, 13]), (15, [0, 1, 2, 3, 4, 5, 6, 7, 8, 9, 10, 11, 12, 13, 14]), (16, [0, 1, 2, 3, 4, 5, 6, 7, 8, 9]), (17, [0, 1, 2, 3, 4, 5, 6, 7, 8, 9]), (18, [0, 1, 2, 3, 4, 5, 6, 7, 8, 9, 16, 17]), (19, [0, 1, 2, 3, 4, 5, 6, 7, 8, 9, 16, 17, 18]), (20, [0, 1, 2, 3, 4, 5, 6, 7, 8, 9, 16, 17, 18, 19]), (21, [0, 1, 2, 3, 4, 5, 6, 7, 8, 9, 10, 11, 12, 13, 14, 15, 16, 17, 18, 19, 20]), (22, [0, 1, 2, 3, 4, 5, 6, 7, 8, 9, 10, 11, 12, 13, 14, 15, 16, 17, 18, 19, 20, 21]), (23, [0, 1, 2, 3, 4, 5, 6, 7, 8, 9, 10, 11, 12, 13, 14, 15, 16, 17, 18, 19, 20, 21, 22]), (24, [0, 1, 2, 3, 4, 5, 6, 7, 8, 9, 10, 11, 12, 13, 14, 15, 16, 17, 18, 19, 20, 21, 22, 23])]⟩
  | 7 => ⟨[0, 2, 3, 4], [], [], .done, []⟩
  | 9 => ⟨[], [], [], .step 0 (.step 1 (.step 2 (.step 3 (.step 4 (.step 5 (.step 6 (.step 7 (.step 8 (.step 9 (.step 10 (.step 11 (.step 12 (.step 13 (.step 14 (.step 15 (.step 16 (.step 17 (.done)))))))))))))))))), [(2, [0, 1]), (3, [0, 1, 2]), (4, [0, 1, 2, 3]), (5, [0, 1, 2, 3, 4]), (6, [0, 1, 2, 3, 4, 5]), (7, [0, 1, 2, 3, 4, 5]), (8, [0, 1, 2, 3, 4, 5, 6, 7]), (9, [0, 1, 2, 3, 4, 5, 6, 7, 8]), (10, [0, 1, 2, 3, 4, 5, 6, 7, 8, 9]), (11, [0, 1, 2, 3, 4, 5]), (12, [0, 1, 2, 3, 4, 5]), (13, [0, 1, 2, 3, 4, 5, 11, 12]), (14, [0, 1, 2, 3, 4, 5, 11, 12, 13]), (15, [0, 1, 2, 3, 4, 5, 11, 12, 13, 14]), (16, [0, 1, 2, 3, 4, 5, 6, 7, 8, 9, 10, 11, 12, 13, 14, 15]), (17, [0, 1, 2, 3, 4, 5, 6, 7, 8, 9, 10, 11, 12, 13, 14, 15, 16])]⟩
  | _ => ⟨[], [], [], .done, []⟩
def esc_spec_TrailOk : Nat → Bool
  | _ => false
def vc_spec_TrailOk (w0 : World) (a0 : Value) (σ : Vw) (R : Value → Vw → Prop) : Prop :=
  pLoop (fun l0 K1 s2 => pLen (vget l0 0) (fun v3 => pBin Tryd.prog 3 BinOp.lss (vget l0 2) v3 (fun v4 => pIf v4 (pIndexAddr 2 (vget l0 0) (vget l0 2) (fun v5 => pLoad w0 2 v5 s2 (fun g6 => AC Tryd.prog w0 n_spec_l11MarkOk ([Value.agg (⟨[g6 0, g6 1]⟩)]) s2 (fun v7 s8 => pUn UnOp.not v7 (fun v9 => pIf v9 (K1 AX.ret [vget l0 0, Value.bool false, vget l0 2] s8) (pBin Tryd.prog 3 BinOp.gtr (vget l0 2) (Value.int IntKind.i64 0) (fun v10 => pIf v10 (pBin Tryd.prog 3 BinOp.sub (vget l0 2) (Value.int IntKind.i64 1) (fun v11 => pIndexAddr 2 (vget l0 0) v11 (fun v12 => pField 0 v12 (fun v13 => pLoad w0 1 v13 s8 (fun g14 => pIndexAddr 2 (vget l0 0) (vget l0 2) (fun v15 => pField 0 v15 (fun v16 => pLoad w0 1 v16 s8 (fun g17 => AC Tryd.prog w0 n_spec_l11Less [g14 0, g17 0] s8 (fun v18 s19 => pUn UnOp.not v18 (fun v20 => pIf v20 (K1 AX.ret [vget l0 0, Value.bool false, vget l0 2] s19) (pLoop (fun l21 K22 s23 => pBin Tryd.prog 3 BinOp.lss (vget l21 3) (vget l21 2) (fun v24 => pIf v24 (pIndexAddr 2 (vget l21 0) (vget l21 3) (fun v25 => pField 1 v25 (fun v26 => pLoad w0 1 v26 s23 (fun g27 => pIf (g27 0) (pIndexAddr 2 (vget l21 0) (vget l21 2) (fun v28 => pField 0 v28 (fun v29 => pLoad w0 1 v29 s23 (fun g30 => pIndexAddr 2 (vget l21 0) (vget l21 3) (fun v31 => pField 0 v31 (fun v32 => pLoad w0 1 v32 s23 (fun g33 => AC Tryd.prog w0 n_spec_l2Within [g30 0, g33 0] s23 (fun v34 s35 => pIf v34 (K22 AX.ret [vget l21 0, Value.bool false, vget l21 2, vget l21 3] s35) (pBin Tryd.prog 3 BinOp.add (vget l21 3) (Value.int IntKind.i64 1) (fun v36 => K22 AX.normal [vget l21 0, vget l21 1, vget l21 2, v36] s35)))))))))) (pBin Tryd.prog 3 BinOp.add (vget l21 3) (Value.int IntKind.i64 1) (fun v37 => K22 AX.normal [vget l21 0, vget l21 1, vget l21 2, v37] s23)))))) (K22 (AX.exit 2) [vget l21 0, vget l21 1, vget l21 2, vget l21 3] s23))) [vget l0 0, vget l0 1, vget l0 2, Value.int IntKind.i64 0] s19 (fun x38 l39 s40 => match x38 with | .normal => pBin Tryd.prog 3 BinOp.add (vget l39 2) (Value.int IntKind.i64 1) (fun v41 => K1 AX.normal [vget l39 0, vget l39 1, v41] s40) | .ret => K1 AX.ret [vget l39 0, vget l39 1, vget l39 2] s40 | .exit i42 => (match Nat.beq i42 2 with | true => pBin Tryd.prog 3 BinOp.add (vget l39 2) (Value.int IntKind.i64 1) (fun v43 => K1 AX.normal [vget l39 0, vget l39 1, v43] s40) | false => (match Nat.beq i42 1 with | true => pBin Tryd.prog 3 BinOp.add (vget l39 2) (Value.int IntKind.i64 1) (fun v44 => K1 AX.normal [vget l39 0, vget l39 1, v44] s40) | false => K1 (AX.exit i42) [vget l39 0, vget l39 1, vget l39 2] s40)))))))))))))) (pLoop (fun l45 K46 s47 => pBin Tryd.prog 3 BinOp.lss (vget l45 3) (vget l45 2) (fun v48 => pIf v48 (pIndexAddr 2 (vget l45 0) (vget l45 3) (fun v49 => pField 1 v49 (fun v50 => pLoad w0 1 v50 s47 (fun g51 => pIf (g51 0) (pIndexAddr 2 (vget l45 0) (vget l45 2) (fun v52 => pField 0 v52 (fun v53 => pLoad w0 1 v53 s47 (fun g54 => pIndexAddr 2 (vget l45 0) (vget l45 3) (fun v55 => pField 0 v55 (fun v56 => pLoad w0 1 v56 s47 (fun g57 => AC Tryd.prog w0 n_spec_l2Within [g54 0, g57 0] s47 (fun v58 s59 => pIf v58 (K46 AX.ret [vget l45 0, Value.bool false, vget l45 2, vget l45 3] s59) (pBin Tryd.prog 3 BinOp.add (vget l45 3) (Value.int IntKind.i64 1) (fun v60 => K46 AX.normal [vget l45 0, vget l45 1, vget l45 2, v60] s59)))))))))) (pBin Tryd.prog 3 BinOp.add (vget l45 3) (Value.int IntKind.i64 1) (fun v61 => K46 AX.normal [vget l45 0, vget l45 1, vget l45 2, v61] s47)))))) (K46 (AX.exit 2) [vget l45 0, vget l45 1, vget l45 2, vget l45 3] s47))) [vget l0 0, vget l0 1, vget l0 2, Value.int IntKind.i64 0] s8 (fun x62 l63 s64 => match x62 with | .normal => pBin Tryd.prog 3 BinOp.add (vget l63 2) (Value.int IntKind.i64 1) (fun v65 => K1 AX.normal [vget l63 0, vget l63 1, v65] s64) | .ret => K1 AX.ret [vget l63 0, vget l63 1, vget l63 2] s64 | .exit i66 => (match Nat.beq i66 2 with | true => pBin Tryd.prog 3 BinOp.add (vget l63 2) (Value.int IntKind.i64 1) (fun v67 => K1 AX.normal [vget l63 0, vget l63 1, v67] s64) | false => (match Nat.beq i66 1 with | true => pBin Tryd.prog 3 BinOp.add (vget l63 2) (Value.int IntKind.i64 1) (fun v68 => K1 AX.normal [vget l63 0, vget l63 1, v68] s64) | false => K1 (AX.exit i66) [vget l63 0, vget l63 1, vget l63 2] s64))))))))))) (K1 (AX.exit 0) [vget l0 0, vget l0 1, vget l0 2] s2)))) [a0, Value.bool false, Value.int IntKind.i64 0] σ (fun x69 l70 s71 => match x69 with | .normal => pLen (vget l70 0) (fun v72 => pBin Tryd.prog 3 BinOp.leq v72 (Value.int IntKind.i64 6) (fun v73 => R v73 s71)) | .ret => R (vget l70 1) s71 | .exit i74 => (match Nat.beq i74 0 with | true => pLen (vget l70 0) (fun v75 => pBin Tryd.prog 3 BinOp.leq v75 (Value.int IntKind.i64 6) (fun v76 => R v76 s71)) | false => False))
theorem vc_spec_TrailOk_eq (w0 : World) (a0 : Value) (σ : Vw) (R : Value → Vw → Prop) : vc_spec_TrailOk w0 a0 σ R = den Tryd.prog w0 kp_spec_TrailOk esc_spec_TrailOk (Tryd.f60.body.getD .skip) (entry Tryd.f60.ntmps [a0]) σ (retK Tryd.prog Tryd.f60.results.toList R) := by kernel_rfl
theorem ac_spec_TrailOk {w0 : World} {a0 : Value} {σ : Vw} {R : Value → Vw → Prop} (h : vc_spec_TrailOk w0 a0 σ R) : AC Tryd.prog w0 n_spec_TrailOk [a0] σ R := by
  refine ac_rule (fn := Tryd.f60) (c := Tryd.f60.body.getD .skip) kp_spec_TrailOk esc_spec_TrailOk Tryd.func60 (by kernel_rfl) (by kernel_rfl) ?_
  rw [← vc_spec_TrailOk_eq]
  exact h

/-- spec.TrailShow -/
def kp_spec_TrailShow : Nat → Keep
  | 5 => ⟨[0, 3, 4], [], [], .done, []⟩
  | _ => ⟨[], [], [], .done, []⟩
def esc_spec_TrailShow : Nat → Bool
  | _ => false
def vc_spec_TrailShow (w0 : World) (a0 : Value) (σ : Vw) (R : Value → Vw → Prop) : Prop :=
  AC Tryd.prog w0 n_spec_TrailOk [a0] σ (fun v0 s1 => pUn UnOp.not v0 (fun v2 => pIf v2 (R (Value.string ({ data := #[] })) s1) (pLoop (fun l3 K4 s5 => pLen (vget l3 0) (fun v6 => pBin Tryd.prog 3 BinOp.lss (vget l3 2) v6 (fun v7 => pIf v7 (pIndexAddr 2 (vget l3 0) (vget l3 2) (fun v8 => pLoad w0 2 v8 s5 (fun g9 => AC Tryd.prog w0 n_spec_l11Text ([Value.agg (⟨[g9 0, g9 1]⟩)]) s5 (fun v10 s11 => pBin Tryd.prog 9 BinOp.add (vget l3 1) v10 (fun v12 => pBin Tryd.prog 3 BinOp.add (vget l3 2) (Value.int IntKind.i64 1) (fun v13 => K4 AX.normal [vget l3 0, v12, v13] s11)))))) (K4 (AX.exit 0) [vget l3 0, vget l3 1, vget l3 2] s5)))) ([a0, Value.string ({ data := #[] }), Value.int IntKind.i64 0]) s1 (fun x14 l15 s16 => match x14 with | .normal => R (vget l15 1) s16 | .ret => False | .exit i17 => (match Nat.beq i17 0 with | true => R (vget l15 1) s16 | false => False)))))
theorem vc_spec_TrailShow_eq (w0 : World) (a0 : Value) (σ : Vw) (R : Value → Vw → Prop) : vc_spec_TrailShow w0 a0 σ R = den Tryd.prog w0 kp_spec_TrailShow esc_spec_TrailShow (Tryd.f61.body.getD .skip) (entry Tryd.f61.ntmps [a0]) σ (retK Tryd.prog Tryd.f61.results.toList R) := by kernel_rfl
theorem ac_spec_TrailShow {w0 : World} {a0 : Value} {σ : Vw} {R : Value → Vw → Prop} (h : vc_spec_TrailShow w0 a0 σ R) : AC Tryd.prog w0 n_spec_TrailShow [a0] σ R := by
  refine ac_rule (fn := Tryd.f61) (c := Tryd.f61.body.getD .skip) kp_spec_TrailShow esc_spec_TrailShow Tryd.func61 (by kernel_rfl) (by kernel_rfl) ?_
  rw [← vc_spec_TrailShow_eq]
  exact h

/-- spec.l11Copy -/
def kp_spec_l11Copy : Nat → Keep
  | 3 => ⟨[0, 3, 4], [], [], .done, []⟩
  | 5 => ⟨[], [], [], .step 0 (.step 2 (.step 3 (.step 4 (.step 5 (.step 6 (.step 8 (.step 9 (.step 10 (.step 11 (.step 12 (.step 1 (.step 7 (.step 13 (.step 14 (.step 15 (.step 16 (.done))))))))))))))))), [(4, [2, 3]), (5, [2, 3, 4]), (6, [2, 3, 4, 5]), (7, [1, 2, 3, 4, 5, 6]), (10, [8, 9]), (11, [8, 9, 10]), (12, [8, 9, 10, 11]), (13, [1, 2, 3, 4, 5, 6, 7, 8, 9, 10, 11, 12]), (14, [1, 2, 3, 4, 5, 6, 7, 8, 9, 10, 11, 12, 13]), (15, [0, 1, 2, 3, 4, 5, 6, 7, 8, 9, 10, 11, 12, 13, 14]), (16, [0, 1, 2, 3, 4, 5, 6, 7, 8, 9, 10, 11, 12, 13, 14, 15])]⟩
  | _ => ⟨[], [], [], .done, []⟩
def esc_spec_l11Copy : Nat → Bool
  | 5 => true
  | 13 => true
  | _ => false
def vc_spec_l11Copy (w0 : World) (a0 : Value) (σ : Vw) (R : Value → Vw → Prop) : Prop :=
  pNew w0 84 [] σ (fun n0 s1 => pLoop (fun l2 K3 s4 => pLen (vget l2 0) (fun v5 => pBin Tryd.prog 3 BinOp.lss (vget l2 2) v5 (fun v6 => pIf v6 (pIndexAddr 2 (vget l2 0) (vget l2 2) (fun v7 => pField 0 v7 (fun v8 => pLoad w0 1 v8 s4 (fun g9 => pIndexAddr 2 (vget l2 0) (vget l2 2) (fun v10 => pField 1 v10 (fun v11 => pLoad w0 1 v11 s4 (fun g12 => pNew w0 9 [] s4 (fun n13 s14 => (Stay w0 s4 s14 v11 1) ∧ ((Stay w0 s4 s14 v8 1) ∧ (pAppendS w0 9 1 16 (Value.slice (Option.some (Addr.mk n13 0 Option.none)) 0 0) (g9 0) s14 (fun v15 s16 => (Stay w0 s14 s16 v11 1) ∧ (pVal false 1 v15 (pVal false 1 (g12 0) (pVal true 2 (Value.agg (⟨[v15, g12 0]⟩)) ((allOne [v15, g12 0]) ∧ (pAppend w0 84 2 32 (vget l2 1) 1 [v15, g12 0] s16 (fun v17 s18 => pBin Tryd.prog 3 BinOp.add (vget l2 2) (Value.int IntKind.i64 1) (fun v19 => K3 AX.normal [vget l2 0, v17, v19] s18)))))))))))))))))) (K3 (AX.exit 0) [vget l2 0, vget l2 1, vget l2 2] s4)))) [a0, Value.slice (Option.some (Addr.mk n0 0 Option.none)) 0 0, Value.int IntKind.i64 0] s1 (fun x20 l21 s22 => match x20 with | .normal => R (vget l21 1) s22 | .ret => False | .exit i23 => (match Nat.beq i23 0 with | true => R (vget l21 1) s22 | false => False)))
theorem vc_spec_l11Copy_eq (w0 : World) (a0 : Value) (σ : Vw) (R : Value → Vw → Prop) : vc_spec_l11Copy w0 a0 σ R = den Tryd.prog w0 kp_spec_l11Copy esc_spec_l11Copy (Tryd.f62.body.getD .skip) (entry Tryd.f62.ntmps [a0]) σ (retK Tryd.prog Tryd.f62.results.toList R) := by kernel_rfl
theorem ac_spec_l11Copy {w0 : World} {a0 : Value} {σ : Vw} {R : Value → Vw → Prop} (h : vc_spec_l11Copy w0 a0 σ R) : AC Tryd.prog w0 n_spec_l11Copy [a0] σ R := by
  refine ac_rule (fn := Tryd.f62) (c := Tryd.f62.body.getD .skip) kp_spec_l11Copy esc_spec_l11Copy Tryd.func62 (by kernel_rfl) (by kernel_rfl) ?_
  rw [← vc_spec_l11Copy_eq]
  exact h

/-- impl.linesOf -/
def kp_impl_linesOf : Nat → Keep
  | _ => ⟨[], [], [], .done, []⟩
def esc_impl_linesOf : Nat → Bool
  | _ => false
def vc_impl_linesOf (w0 : World) (a0 : Value) (σ : Vw) (R : Value → Vw → Prop) : Prop :=
  AC Tryd.prog w0 n_strings_Split ([a0, Value.string ({ data := #[10] })]) σ (fun v0 s1 => pLen v0 (fun v2 => pBin Tryd.prog 3 BinOp.sub v2 (Value.int IntKind.i64 1) (fun v3 => pSlice 1 v0 Option.none (Option.some v3) (fun v4 => R v4 s1))))
theorem vc_impl_linesOf_eq (w0 : World) (a0 : Value) (σ : Vw) (R : Value → Vw → Prop) : vc_impl_linesOf w0 a0 σ R = den Tryd.prog w0 kp_impl_linesOf esc_impl_linesOf (Tryd.f63.body.getD .skip) (entry Tryd.f63.ntmps [a0]) σ (retK Tryd.prog Tryd.f63.results.toList R) := by kernel_rfl
theorem ac_impl_linesOf {w0 : World} {a0 : Value} {σ : Vw} {R : Value → Vw → Prop} (h : vc_impl_linesOf w0 a0 σ R) : AC Tryd.prog w0 n_impl_linesOf [a0] σ R := by
  refine ac_rule (fn := Tryd.f63) (c := Tryd.f63.body.getD .skip) kp_impl_linesOf esc_impl_linesOf Tryd.func63 (by kernel_rfl) (by kernel_rfl) ?_
  rw [← vc_impl_linesOf_eq]
  exact h

/-- strings.Cut -/
def kp_strings_Cut : Nat → Keep
  | _ => ⟨[], [], [], .done, []⟩
def esc_strings_Cut : Nat → Bool
  | _ => false
def vc_strings_Cut (w0 : World) (a0 a1 : Value) (σ : Vw) (R : Value → Vw → Prop) : Prop :=
  AC Tryd.prog w0 n_internal_stringslite_Cut [a0, a1] σ (fun v0 s1 => pExtract v0 0 (fun v2 => pExtract v0 1 (fun v3 => pExtract v0 2 (fun v4 => R (Value.tuple (⟨[v2, v3, v4]⟩)) s1))))
theorem vc_strings_Cut_eq (w0 : World) (a0 a1 : Value) (σ : Vw) (R : Value → Vw → Prop) : vc_strings_Cut w0 a0 a1 σ R = den Tryd.prog w0 kp_strings_Cut esc_strings_Cut (Tryd.f64.body.getD .skip) (entry Tryd.f64.ntmps [a0, a1]) σ (retK Tryd.prog Tryd.f64.results.toList R) := by kernel_rfl
theorem ac_strings_Cut {w0 : World} {a0 a1 : Value} {σ : Vw} {R : Value → Vw → Prop} (h : vc_strings_Cut w0 a0 a1 σ R) : AC Tryd.prog w0 n_strings_Cut [a0, a1] σ R := by
  refine ac_rule (fn := Tryd.f64) (c := Tryd.f64.body.getD .skip) kp_strings_Cut esc_strings_Cut Tryd.func64 (by kernel_rfl) (by kernel_rfl) ?_
  rw [← vc_strings_Cut_eq]
  exact h

/-- impl.pathRead -/
def kp_impl_pathRead : Nat → Keep
  | _ => ⟨[], [], [], .done, []⟩
def esc_impl_pathRead : Nat → Bool
  | 7 => true
  | _ => false
def vc_impl_pathRead (w0 : World) (a0 : Value) (σ : Vw) (R : Value → Vw → Prop) : Prop :=
  AC Tryd.prog w0 n_strings_TrimPrefix ([a0, Value.string ({ data := #[47] })]) σ (fun v0 s1 => pBin Tryd.prog 9 BinOp.eql v0 (Value.string ({ data := #[] })) (fun v2 => pIf v2 (pNew w0 9 [] s1 (fun n3 s4 => R (Value.slice (Option.some (Addr.mk n3 0 Option.none)) 0 0) s4)) (AC Tryd.prog w0 n_strings_Split ([v0, Value.string ({ data := #[47] })]) s1 (fun v5 s6 => R v5 s6))))
theorem vc_impl_pathRead_eq (w0 : World) (a0 : Value) (σ : Vw) (R : Value → Vw → Prop) : vc_impl_pathRead w0 a0 σ R = den Tryd.prog w0 kp_impl_pathRead esc_impl_pathRead (Tryd.f65.body.getD .skip) (entry Tryd.f65.ntmps [a0]) σ (retK Tryd.prog Tryd.f65.results.toList R) := by kernel_rfl
theorem ac_impl_pathRead {w0 : World} {a0 : Value} {σ : Vw} {R : Value → Vw → Prop} (h : vc_impl_pathRead w0 a0 σ R) : AC Tryd.prog w0 n_impl_pathRead [a0] σ R := by
  refine ac_rule (fn := Tryd.f65) (c := Tryd.f65.body.getD .skip) kp_impl_pathRead esc_impl_pathRead Tryd.func65 (by kernel_rfl) (by kernel_rfl) ?_
  rw [← vc_impl_pathRead_eq]
  exact h

/-- impl.TrailOk -/
def kp_impl_TrailOk : Nat → Keep
  | 2 => ⟨[0, 2, 5, 6, 7], [], [], .done, []⟩
  | 4 => ⟨[], [], [], .step 0 (.step 1 (.step 2 (.step 3 (.step 4 (.step 5 (.step 6 (.step 7 (.step 8 (.step 9 (.step 10 (.step 11 (.step 12 (.step 13 (.step 14 (.step 15 (.step 16 (.step 17 (.step 18 (.step 19 (.step 20 (.step 21 (.step 22 (.step 23 (.step 24 (.step 25 (.step 26 (.done))))))))))))))))))))))))))), [(1, [0]), (2, [0, 1]), (3, [0, 1, 2]), (4, [0, 1, 2, 3]), (5, [0, 1, 2, 3, 4]), (6, [0, 1, 2, 3, 4, 5]), (7, [0, 1, 2, 3, 4, 5, 6]), (8, [0, 1, 2, 3, 4, 5, 6]), (9, [0, 1, 2, 3, 4, 5, 6, 8]), (10, [0, 1, 2, 3, 4, 5, 6, 7, 8, 9]), (11, [0, 1, 2, 3, 4, 5, 6, 7, 8, 9, 10]), (12, [0, 1, 2, 3, 4, 5, 6, 7, 8, 9, 10, 11]), (13, [0, 1, 2, 3, 4, 5, 6]), (14, [0, 1, 2, 3, 4, 5, 6, 13]), (15, [0, 1, 2, 3, 4, 5, 6, 7, 8, 9, 10, 11, 12, 13, 14]), (16, [0, 1, 2, 3, 4, 5, 6, 7, 8, 9, 10, 11, 12, 13, 14, 15]), (17, [0, 1, 2, 3, 4, 5, 6, 7, 8, 9, 10, 11, 12, 13, 14, 15, 16]), (18, [0, 1, 2, 3, 4, 5, 6, 7, 8, 9, 10, 11, 12, 13, 14, 15, 16, 17]), (19, [0, 1, 2, 3, 4, 5, 6, 7, 8, 9, 10, 11, 12, 13, 14, 15, 16, 17, 18]), (20, [0, 1, 2, 3, 4, 5, 6, 7, 8, 9, 10, 11, 12, 13, 14, 15, 16, 17, 18, 19]), (21, [0, 1, 2, 3, 4, 5, 6, 7, 8, 9, 10, 11, 12, 13, 14, 15, 16, 17, 18, 19]), (22, [0, 1, 2, 3, 4, 5, 6, 7, 8, 9, 10, 11, 12, 13, 14, 15, 16, 17, 18, 19, 20, 21]), (23, [0, 1, 2, 3, 4, 5, 6, 7, 8, 9, 10, 11, 12, 13, 14, 15, 16, 17, 18, 19]), (24, [0, 1, 2, 3, 4, 5, 6, 7, 8, 9, 10, 11, 12, 13, 14, 15, 16, 17, 18, 19, 23]), (25, [0, 1, 2, 3, 4, 5, 6, 7, 8, 9, 10, 11, 12, 13, 14, 15, 16, 17, 18, 19, 20, 21, 22, 23, 24]), (26, [0, 1, 2, 3, 4, 5, 6, 7, 8, 9, 10, 11, 12, 13, 14, 15, 16, 17, 18, 19, 20, 21, 22, 23, 24, 25])]⟩
  | _ => ⟨[], [], [], .done, []⟩
def esc_impl_TrailOk : Nat → Bool
  | _ => false
def vc_impl_TrailOk (w0 : World) (a0 : Value) (σ : Vw) (R : Value → Vw → Prop) : Prop :=
  pLen a0 (fun v0 => pLoop (fun l1 K2 s3 => pBin Tryd.prog 3 BinOp.lss (vget l1 4) (vget l1 3) (fun v4 => pIf v4 (pIndexAddr 2 (vget l1 2) (vget l1 4) (fun v5 => pLoad w0 2 v5 s3 (fun g6 => pVal true 2 (Value.agg (⟨[g6 0, g6 1]⟩)) (AC Tryd.prog w0 n_impl_markOk ([Value.agg (⟨[g6 0, g6 1]⟩)]) s3 (fun v7 s8 => pUn UnOp.not v7 (fun v9 => pIf v9 (K2 AX.ret [vget l1 0, Value.bool false, vget l1 2, vget l1 3, vget l1 4] s8) (pBin Tryd.prog 3 BinOp.gtr (vget l1 4) (Value.int IntKind.i64 0) (fun v10 => pIf v10 (pBin Tryd.prog 3 BinOp.sub (vget l1 4) (Value.int IntKind.i64 1) (fun v11 => pIndexAddr 2 (vget l1 0) v11 (fun v12 => pField 0 v12 (fun v13 => pLoad w0 1 v13 s8 (fun g14 => AC Tryd.prog w0 n_slices_Compare_string_string [g14 0, g6 0] s8 (fun v15 s16 => pBin Tryd.prog 3 BinOp.geq v15 (Value.int IntKind.i64 0) (fun v17 => pIf v17 (K2 AX.ret [vget l1 0, Value.bool false, vget l1 2, vget l1 3, vget l1 4] s16) (pSlice 2 (vget l1 0) Option.none (Option.some (vget l1 4)) (fun v18 => AC Tryd.prog w0 n_impl_under [v18, g6 0] s16 (fun v19 s20 => pIf v19 (K2 AX.ret [vget l1 0, Value.bool false, vget l1 2, vget l1 3, vget l1 4] s20) (pBin Tryd.prog 3 BinOp.add (vget l1 4) (Value.int IntKind.i64 1) (fun v21 => K2 AX.normal [vget l1 0, vget l1 1, vget l1 2, vget l1 3, v21] s20)))))))))))) (pSlice 2 (vget l1 0) Option.none (Option.some (vget l1 4)) (fun v22 => AC Tryd.prog w0 n_impl_under [v22, g6 0] s8 (fun v23 s24 => pIf v23 (K2 AX.ret [vget l1 0, Value.bool false, vget l1 2, vget l1 3, vget l1 4] s24) (pBin Tryd.prog 3 BinOp.add (vget l1 4) (Value.int IntKind.i64 1) (fun v25 => K2 AX.normal [vget l1 0, vget l1 1, vget l1 2, vget l1 3, v25] s24))))))))))))) (K2 (AX.exit 0) [vget l1 0, vget l1 1, vget l1 2, vget l1 3, vget l1 4] s3))) [a0, Value.bool false, a0, v0, Value.int IntKind.i64 0] σ (fun x26 l27 s28 => match x26 with | .normal => pLen (vget l27 0) (fun v29 => pBin Tryd.prog 3 BinOp.leq v29 (Value.int IntKind.i64 6) (fun v30 => R v30 s28)) | .ret => R (vget l27 1) s28 | .exit i31 => (match Nat.beq i31 0 with | true => pLen (vget l27 0) (fun v32 => pBin Tryd.prog 3 BinOp.leq v32 (Value.int IntKind.i64 6) (fun v33 => R v33 s28)) | false => False)))
theorem vc_impl_TrailOk_eq (w0 : World) (a0 : Value) (σ : Vw) (R : Value → Vw → Prop) : vc_impl_TrailOk w0 a0 σ R = den Tryd.prog w0 kp_impl_TrailOk esc_impl_TrailOk (Tryd.f66.body.getD .skip) (entry Tryd.f66.ntmps [a0]) σ (retK Tryd.prog Tryd.f66.results.toList R) := by kernel_rfl
theorem ac_impl_TrailOk {w0 : World} {a0 : Value} {σ : Vw} {R : Value → Vw → Prop} (h : vc_impl_TrailOk w0 a0 σ R) : AC Tryd.prog w0 n_impl_TrailOk [a0] σ R := by
  refine ac_rule (fn := Tryd.f66) (c := Tryd.f66.body.getD .skip) kp_impl_TrailOk esc_impl_TrailOk Tryd.func66 (by kernel_rfl) (by kernel_rfl) ?_
  rw [← vc_impl_TrailOk_eq]
  exact h

/-- impl.TrailShow -/
def kp_impl_TrailShow : Nat → Keep
  | 5 => ⟨[3, 10, 11, 12], [], [], .done, []⟩
  | _ => ⟨[], [], [], .done, []⟩
def esc_impl_TrailShow : Nat → Bool
  | _ => false
def vc_impl_TrailShow (w0 : World) (a0 : Value) (σ : Vw) (R : Value → Vw → Prop) : Prop :=
  AC Tryd.prog w0 n_impl_TrailOk [a0] σ (fun v0 s1 => pUn UnOp.not v0 (fun v2 => pIf v2 (R (Value.string ({ data := #[] })) s1) (pLen a0 (fun v3 => pLoop (fun l4 K5 s6 => pBin Tryd.prog 3 BinOp.lss (vget l4 3) (vget l4 2) (fun v7 => pIf v7 (pIndexAddr 2 (vget l4 1) (vget l4 3) (fun v8 => pLoad w0 2 v8 s6 (fun g9 => pVal true 2 (Value.agg (⟨[g9 0, g9 1]⟩)) (pIf (g9 1) (AC Tryd.prog w0 n_impl_pathText [g9 0] s6 (fun v10 s11 => pBin Tryd.prog 9 BinOp.add (Value.string ({ data := #[115, 117, 98, 32] })) v10 (fun v12 => pBin Tryd.prog 9 BinOp.add v12 (Value.string ({ data := #[10] })) (fun v13 => pBin Tryd.prog 9 BinOp.add (vget l4 0) v13 (fun v14 => pBin Tryd.prog 3 BinOp.add (vget l4 3) (Value.int IntKind.i64 1) (fun v15 => K5 AX.normal [v14, vget l4 1, vget l4 2, v15] s11)))))) (AC Tryd.prog w0 n_impl_pathText [g9 0] s6 (fun v16 s17 => pBin Tryd.prog 9 BinOp.add (Value.string ({ data := #[97, 116, 32] })) v16 (fun v18 => pBin Tryd.prog 9 BinOp.add v18 (Value.string ({ data := #[10] })) (fun v19 => pBin Tryd.prog 9 BinOp.add (vget l4 0) v19 (fun v20 => pBin Tryd.prog 3 BinOp.add (vget l4 3) (Value.int IntKind.i64 1) (fun v21 => K5 AX.normal [v20, vget l4 1, vget l4 2, v21] s17)))))))))) (K5 (AX.exit 0) [vget l4 0, vget l4 1, vget l4 2, vget l4 3] s6))) ([Value.string ({ data := #[] }), a0, v3, Value.int IntKind.i64 0]) s1 (fun x22 l23 s24 => match x22 with | .normal => R (vget l23 0) s24 | .ret => False | .exit i25 => (match Nat.beq i25 0 with | true => R (vget l23 0) s24 | false => False))))))
theorem vc_impl_TrailShow_eq (w0 : World) (a0 : Value) (σ : Vw) (R : Value → Vw → Prop) : vc_impl_TrailShow w0 a0 σ R = den Tryd.prog w0 kp_impl_TrailShow esc_impl_TrailShow (Tryd.f67.body.getD .skip) (entry Tryd.f67.ntmps [a0]) σ (retK Tryd.prog Tryd.f67.results.toList R) := by kernel_rfl
theorem ac_impl_TrailShow {w0 : World} {a0 : Value} {σ : Vw} {R : Value → Vw → Prop} (h : vc_impl_TrailShow w0 a0 σ R) : AC Tryd.prog w0 n_impl_TrailShow [a0] σ R := by
  refine ac_rule (fn := Tryd.f67) (c := Tryd.f67.body.getD .skip) kp_impl_TrailShow esc_impl_TrailShow Tryd.func67 (by kernel_rfl) (by kernel_rfl) ?_
  rw [← vc_impl_TrailShow_eq]
  exact h

/-- laws.eqMark -/
def kp_laws_eqMark : Nat → Keep
  | _ => ⟨[], [], [], .done, []⟩
def esc_laws_eqMark : Nat → Bool
  | _ => false
def vc_laws_eqMark (w0 : World) (a0 a1 : Value) (σ : Vw) (R : Value → Vw → Prop) : Prop :=
  pVal true 2 a0 (pVal true 2 a1 (AC Tryd.prog w0 n_laws_eqStringS [cellOf a0 0, cellOf a1 0] σ (fun v0 s1 => pUn UnOp.not v0 (fun v2 => pIf v2 (R (Value.bool false) s1) (pBin Tryd.prog 4 BinOp.neq (cellOf a0 1) (cellOf a1 1) (fun v3 => pIf v3 (R (Value.bool false) s1) (R (Value.bool true) s1)))))))
theorem vc_laws_eqMark_eq (w0 : World) (a0 a1 : Value) (σ : Vw) (R : Value → Vw → Prop) : vc_laws_eqMark w0 a0 a1 σ R = den Tryd.prog w0 kp_laws_eqMark esc_laws_eqMark (Tryd.f68.body.getD .skip) (entry Tryd.f68.ntmps [a0, a1]) σ (retK Tryd.prog Tryd.f68.results.toList R) := by kernel_rfl
theorem ac_laws_eqMark {w0 : World} {a0 a1 : Value} {σ : Vw} {R : Value → Vw → Prop} (h : vc_laws_eqMark w0 a0 a1 σ R) : AC Tryd.prog w0 n_laws_eqMark [a0, a1] σ R := by
  refine ac_rule (fn := Tryd.f68) (c := Tryd.f68.body.getD .skip) kp_laws_eqMark esc_laws_eqMark Tryd.func68 (by kernel_rfl) (by kernel_rfl) ?_
  rw [← vc_laws_eqMark_eq]
  exact h

/-- laws.markStringS -/
def kp_laws_markStringS : Nat → Keep
  | 2 => ⟨[0, 1, 5], [], [], .done, []⟩
  | _ => ⟨[], [], [], .done, []⟩
def esc_laws_markStringS : Nat → Bool
  | _ => false
def vc_laws_markStringS (w0 : World) (a0 a1 : Value) (σ : Vw) (R : Value → Vw → Prop) : Prop :=
  pLoop (fun l0 K1 s2 => pLen (vget l0 0) (fun v3 => pBin Tryd.prog 3 BinOp.lss (vget l0 2) v3 (fun v4 => pIf v4 (AC Tryd.prog w0 n_laws_markText [vget l0 1] s2 (fun v5 s6 => pIndexAddr 1 (vget l0 0) (vget l0 2) (fun v7 => pVal false 1 v5 (pStore v7 [v5] s6 (fun s8 => pBin Tryd.prog 3 BinOp.add (vget l0 1) (Value.int IntKind.i64 1) (fun v9 => pBin Tryd.prog 3 BinOp.add (vget l0 2) (Value.int IntKind.i64 1) (fun v10 => K1 AX.normal [vget l0 0, v9, v10] s8))))))) (K1 (AX.exit 0) [vget l0 0, vget l0 1, vget l0 2] s2)))) [a0, a1, Value.int IntKind.i64 0] σ (fun x11 l12 s13 => match x11 with | .normal => R (vget l12 1) s13 | .ret => False | .exit i14 => (match Nat.beq i14 0 with | true => R (vget l12 1) s13 | false => False))
theorem vc_laws_markStringS_eq (w0 : World) (a0 a1 : Value) (σ : Vw) (R : Value → Vw → Prop) : vc_laws_markStringS w0 a0 a1 σ R = den Tryd.prog w0 kp_laws_markStringS esc_laws_markStringS (Tryd.f69.body.getD .skip) (entry Tryd.f69.ntmps [a0, a1]) σ (retK Tryd.prog Tryd.f69.results.toList R) := by kernel_rfl
theorem ac_laws_markStringS {w0 : World} {a0 a1 : Value} {σ : Vw} {R : Value → Vw → Prop} (h : vc_laws_markStringS w0 a0 a1 σ R) : AC Tryd.prog w0 n_laws_markStringS [a0, a1] σ R := by
  refine ac_rule (fn := Tryd.f69) (c := Tryd.f69.body.getD .skip) kp_laws_markStringS esc_laws_markStringS Tryd.func69 (by kernel_rfl) (by kernel_rfl) ?_
  rw [← vc_laws_markStringS_eq]
  exact h

/-- laws.heldStringS -/
def kp_laws_heldStringS : Nat → Keep
  | 2 => ⟨[0, 1, 4, 5], [], [], .done, []⟩
  | 4 => ⟨[], [], [], .step 0 (.step 1 (.step 2 (.step 3 (.step 4 (.step 5 (.step 6 (.done))))))), [(2, [0, 1]), (3, [0, 1, 2]), (5, [4]), (6, [0, 1, 2, 3, 4, 5])]⟩
  | _ => ⟨[], [], [], .done, []⟩
def esc_laws_heldStringS : Nat → Bool
  | _ => false
def vc_laws_heldStringS (w0 : World) (a0 a1 : Value) (σ : Vw) (R : Value → Vw → Prop) : Prop :=
  pLoop (fun l0 K1 s2 => pLen (vget l0 0) (fun v3 => pBin Tryd.prog 3 BinOp.lss (vget l0 3) v3 (fun v4 => pIf v4 (pIndexAddr 1 (vget l0 0) (vget l0 3) (fun v5 => pLoad w0 1 v5 s2 (fun g6 => AC Tryd.prog w0 n_laws_markText [vget l0 1] s2 (fun v7 s8 => (Stay w0 s2 s8 v5 1) ∧ (pBin Tryd.prog 9 BinOp.neq (g6 0) v7 (fun v9 => pIf v9 (K1 AX.ret [vget l0 0, vget l0 1, Value.int IntKind.i64 (-1), vget l0 3] s8) (pBin Tryd.prog 3 BinOp.add (vget l0 1) (Value.int IntKind.i64 1) (fun v10 => pBin Tryd.prog 3 BinOp.add (vget l0 3) (Value.int IntKind.i64 1) (fun v11 => K1 AX.normal [vget l0 0, v10, vget l0 2, v11] s8))))))))) (K1 (AX.exit 0) [vget l0 0, vget l0 1, vget l0 2, vget l0 3] s2)))) [a0, a1, Value.int IntKind.i64 0, Value.int IntKind.i64 0] σ (fun x12 l13 s14 => match x12 with | .normal => R (vget l13 1) s14 | .ret => R (vget l13 2) s14 | .exit i15 => (match Nat.beq i15 0 with | true => R (vget l13 1) s14 | false => False))
theorem vc_laws_heldStringS_eq (w0 : World) (a0 a1 : Value) (σ : Vw) (R : Value → Vw → Prop) : vc_laws_heldStringS w0 a0 a1 σ R = den Tryd.prog w0 kp_laws_heldStringS esc_laws_heldStringS (Tryd.f70.body.getD .skip) (entry Tryd.f70.ntmps [a0, a1]) σ (retK Tryd.prog Tryd.f70.results.toList R) := by kernel_rfl
theorem ac_laws_heldStringS {w0 : World} {a0 a1 : Value} {σ : Vw} {R : Value → Vw → Prop} (h : vc_laws_heldStringS w0 a0 a1 σ R) : AC Tryd.prog w0 n_laws_heldStringS [a0, a1] σ R := by
  refine ac_rule (fn := Tryd.f70) (c := Tryd.f70.body.getD .skip) kp_laws_heldStringS esc_laws_heldStringS Tryd.func70 (by kernel_rfl) (by kernel_rfl) ?_
  rw [← vc_laws_heldStringS_eq]
  exact h

/-- spec.l31Rows -/
def kp_spec_l31Rows : Nat → Keep
  | 1 => ⟨[], [], [], .step 1 (.step 3 (.step 4 (.step 5 (.step 6 (.step 7 (.step 8 (.step 9 (.step 0 (.step 2 (.step 10 (.step 11 (.step 12 (.step 13 (.done)))))))))))))), [(2, [0, 1]), (4, [3]), (6, [5]), (8, [7]), (10, [0, 1, 2, 9]), (11, [0, 1, 2, 3, 4, 5, 6, 7, 8, 9, 10]), (12, [0, 1, 2, 3, 4, 5, 6, 7, 8, 9, 10, 11]), (13, [0, 1, 2, 3, 4, 5, 6, 7, 8, 9, 10, 11, 12])]⟩
  | 3 => ⟨[0, 5, 6], [(3, 5)], [3], .done, []⟩
  | 5 => ⟨[], [], [], .step 0 (.step 1 (.step 2 (.step 3 (.step 4 (.step 5 (.step 6 (.step 8 (.step 9 (.step 10 (.step 11 (.step 12 (.step 7 (.step 13 (.step 14 (.step 15 (.done)))))))))))))))), [(3, [2]), (5, [2, 3, 4]), (6, [2, 3, 4, 5]), (7, [1, 2, 3, 4, 5, 6]), (9, [8]), (11, [8, 9, 10]), (12, [8, 9, 10, 11]), (13, [1, 2, 3, 4, 5, 6, 7, 8, 9, 10, 11, 12]), (14, [0, 1, 2, 3, 4, 5, 6, 7, 8, 9, 10, 11, 12, 13]), (15, [0, 1, 2, 3, 4, 5, 6, 7, 8, 9, 10, 11, 12, 13, 14])]⟩
  | _ => ⟨[], [], [], .done, []⟩
def esc_spec_l31Rows : Nat → Bool
  | 7 => true
  | 19 => true
  | _ => false
def vc_spec_l31Rows (w0 : World) (a0 a1 : Value) (σ : Vw) (R : Value → Vw → Prop) : Prop :=
  pVal true 5 a1 (pNew w0 9 [] σ (fun n0 s1 => pAppendS w0 9 1 16 (Value.slice (Option.some (Addr.mk n0 0 Option.none)) 0 0) a0 s1 (fun v2 s3 => AC Tryd.prog w0 n_spec_l31Of ([Value.agg (⟨[cellOf a1 0, cellOf a1 1, cellOf a1 2, cellOf a1 3, cellOf a1 4]⟩)]) s3 (fun v4 s5 => pVal false 1 v2 (pVal false 1 (cellOf a1 0) (pVal false 1 (cellOf a1 1) (pVal false 1 (cellOf a1 2) (pVal false 1 v4 (pVal true 5 (Value.agg (⟨[v2, cellOf a1 0, cellOf a1 1, cellOf a1 2, v4]⟩)) (pNew w0 96 [v2, cellOf a1 0, cellOf a1 1, cellOf a1 2, v4] s5 (fun n6 s7 => pLoop (fun l8 K9 s10 => pLen (vget l8 6) (fun v11 => pBin Tryd.prog 3 BinOp.lss (vget l8 2) v11 (fun v12 => pIf v12 (pIndexAddr 1 (vget l8 6) (vget l8 2) (fun v13 => pLoad w0 1 v13 s10 (fun g14 => pIndexAddr 5 (vget l8 7) (vget l8 2) (fun v15 => pLoad w0 5 v15 s10 (fun g16 => AC Tryd.prog w0 n_spec_l3Path [vget l8 0, g14 0] s10 (fun v17 s18 => (Stay w0 s10 s18 v15 5) ∧ (AC Tryd.prog w0 n_spec_l31Rows ([v17, Value.agg (⟨[g16 0, g16 1, g16 2, g16 3, g16 4]⟩)]) s18 (fun v19 s20 => pAppendS w0 96 5 64 (vget l8 1) v19 s20 (fun v21 s22 => pBin Tryd.prog 3 BinOp.add (vget l8 2) (Value.int IntKind.i64 1) (fun v23 => K9 AX.normal [vget l8 0, v21, v23, vget l8 3, vget l8 4, vget l8 5, vget l8 6, vget l8 7] s22)))))))))) (K9 (AX.exit 0) [vget l8 0, vget l8 1, vget l8 2, vget l8 3, vget l8 4, vget l8 5, vget l8 6, vget l8 7] s10)))) [a0, Value.slice (Option.some (Addr.mk n6 0 Option.none)) 1 1, Value.int IntKind.i64 0, cellOf a1 0, cellOf a1 1, cellOf a1 2, cellOf a1 3, cellOf a1 4] s7 (fun x24 l25 s26 => match x24 with | .normal => R (vget l25 1) s26 | .ret => False | .exit i27 => (match Nat.beq i27 0 with | true => R (vget l25 1) s26 | false => False)))))))))))))
theorem vc_spec_l31Rows_eq (w0 : World) (a0 a1 : Value) (σ : Vw) (R : Value → Vw → Prop) : vc_spec_l31Rows w0 a0 a1 σ R = den Tryd.prog w0 kp_spec_l31Rows esc_spec_l31Rows (Tryd.f71.body.getD .skip) (entry Tryd.f71.ntmps [a0, a1]) σ (retK Tryd.prog Tryd.f71.results.toList R) := by kernel_rfl
theorem ac_spec_l31Rows {w0 : World} {a0 a1 : Value} {σ : Vw} {R : Value → Vw → Prop} (h : vc_spec_l31Rows w0 a0 a1 σ R) : AC Tryd.prog w0 n_spec_l31Rows [a0, a1] σ R := by
  refine ac_rule (fn := Tryd.f71) (c := Tryd.f71.body.getD .skip) kp_spec_l31Rows esc_spec_l31Rows Tryd.func71 (by kernel_rfl) (by kernel_rfl) ?_
  rw [← vc_spec_l31Rows_eq]
  exact h

/-- (impl.Tree).table -/
def kp_impl_Tree_table : Nat → Keep
  | _ => ⟨[], [], [], .done, []⟩
def esc_impl_Tree_table : Nat → Bool
  | 3 => true
  | 4 => true
  | _ => false
def vc_impl_Tree_table (w0 : World) (a0 : Value) (σ : Vw) (R : Value → Vw → Prop) : Prop :=
  pVal true 5 a0 (pNew w0 96 [] σ (fun n0 s1 => pNew w0 48 [Value.slice Option.none 0 0] s1 (fun n2 s3 => pVal false 1 (Value.slice (Option.some (Addr.mk n0 0 Option.none)) 0 0) (pStore (Value.pointer (Option.some (Addr.mk n2 0 Option.none))) [Value.slice (Option.some (Addr.mk n0 0 Option.none)) 0 0] s3 (fun s4 => AC Tryd.prog w0 n_impl_Tree_each ([Value.agg (⟨[cellOf a0 0, cellOf a0 1, cellOf a0 2, cellOf a0 3, cellOf a0 4]⟩), Value.slice Option.none 0 0, Value.func (Fn.func 109) ⟨[]⟩ (⟨[Value.pointer (Option.some (Addr.mk n2 0 Option.none))]⟩)]) s4 (fun v5 s6 => pLoad w0 1 (Value.pointer (Option.some (Addr.mk n2 0 Option.none))) s6 (fun g7 => R (g7 0) s6)))))))
theorem vc_impl_Tree_table_eq (w0 : World) (a0 : Value) (σ : Vw) (R : Value → Vw → Prop) : vc_impl_Tree_table w0 a0 σ R = den Tryd.prog w0 kp_impl_Tree_table esc_impl_Tree_table (Tryd.f72.body.getD .skip) (entry Tryd.f72.ntmps [a0]) σ (retK Tryd.prog Tryd.f72.results.toList R) := by kernel_rfl
theorem ac_impl_Tree_table {w0 : World} {a0 : Value} {σ : Vw} {R : Value → Vw → Prop} (h : vc_impl_Tree_table w0 a0 σ R) : AC Tryd.prog w0 n_impl_Tree_table [a0] σ R := by
  refine ac_rule (fn := Tryd.f72) (c := Tryd.f72.body.getD .skip) kp_impl_Tree_table esc_impl_Tree_table Tryd.func72 (by kernel_rfl) (by kernel_rfl) ?_
  rw [← vc_impl_Tree_table_eq]
  exact h

/-- laws.eqRow -/
def kp_laws_eqRow : Nat → Keep
  | _ => ⟨[], [], [], .done, []⟩
def esc_laws_eqRow : Nat → Bool
  | _ => false
def vc_laws_eqRow (w0 : World) (a0 a1 : Value) (σ : Vw) (R : Value → Vw → Prop) : Prop :=
  pVal true 5 a0 (pVal true 5 a1 (AC Tryd.prog w0 n_laws_eqStringS [cellOf a0 0, cellOf a1 0] σ (fun v0 s1 => pUn UnOp.not v0 (fun v2 => pIf v2 (R (Value.bool false) s1) (pBin Tryd.prog 4 BinOp.neq (cellOf a0 1) (cellOf a1 1) (fun v3 => pIf v3 (R (Value.bool false) s1) (pBin Tryd.prog 3 BinOp.neq (cellOf a0 2) (cellOf a1 2) (fun v4 => pIf v4 (R (Value.bool false) s1) (pBin Tryd.prog 9 BinOp.neq (cellOf a0 3) (cellOf a1 3) (fun v5 => pIf v5 (R (Value.bool false) s1) (pBin Tryd.prog 3 BinOp.neq (cellOf a0 4) (cellOf a1 4) (fun v6 => pIf v6 (R (Value.bool false) s1) (R (Value.bool true) s1)))))))))))))
theorem vc_laws_eqRow_eq (w0 : World) (a0 a1 : Value) (σ : Vw) (R : Value → Vw → Prop) : vc_laws_eqRow w0 a0 a1 σ R = den Tryd.prog w0 kp_laws_eqRow esc_laws_eqRow (Tryd.f73.body.getD .skip) (entry Tryd.f73.ntmps [a0, a1]) σ (retK Tryd.prog Tryd.f73.results.toList R) := by kernel_rfl
theorem ac_laws_eqRow {w0 : World} {a0 a1 : Value} {σ : Vw} {R : Value → Vw → Prop} (h : vc_laws_eqRow w0 a0 a1 σ R) : AC Tryd.prog w0 n_laws_eqRow [a0, a1] σ R := by
  refine ac_rule (fn := Tryd.f73) (c := Tryd.f73.body.getD .skip) kp_laws_eqRow esc_laws_eqRow Tryd.func73 (by kernel_rfl) (by kernel_rfl) ?_
  rw [← vc_laws_eqRow_eq]
  exact h

/-- laws.markTreeS -/
def kp_laws_markTreeS : Nat → Keep
  | 2 => ⟨[0, 1, 5], [], [], .done, []⟩
  | _ => ⟨[], [], [], .done, []⟩
def esc_laws_markTreeS : Nat → Bool
  | _ => false
def vc_laws_markTreeS (w0 : World) (a0 a1 : Value) (σ : Vw) (R : Value → Vw → Prop) : Prop :=
  pLoop (fun l0 K1 s2 => pLen (vget l0 0) (fun v3 => pBin Tryd.prog 3 BinOp.lss (vget l0 2) v3 (fun v4 => pIf v4 (pBin Tryd.prog 3 BinOp.rem (vget l0 1) (Value.int IntKind.i64 3) (fun v5 => pBin Tryd.prog 3 BinOp.eql v5 (Value.int IntKind.i64 0) (fun v6 => pIndexAddr 5 (vget l0 0) (vget l0 2) (fun v7 => pField 0 v7 (fun v8 => pVal false 1 v6 (pStore v8 [v6] s2 (fun s9 => pBin Tryd.prog 3 BinOp.add (vget l0 1) (Value.int IntKind.i64 1) (fun v10 => pIndexAddr 5 (vget l0 0) (vget l0 2) (fun v11 => pField 1 v11 (fun v12 => pVal false 1 v10 (pStore v12 [v10] s9 (fun s13 => pBin Tryd.prog 3 BinOp.add v10 (Value.int IntKind.i64 1) (fun v14 => AC Tryd.prog w0 n_laws_markText [v14] s13 (fun v15 s16 => pIndexAddr 5 (vget l0 0) (vget l0 2) (fun v17 => pField 2 v17 (fun v18 => pVal false 1 v15 (pStore v18 [v15] s16 (fun s19 => pBin Tryd.prog 3 BinOp.add v14 (Value.int IntKind.i64 1) (fun v20 => pIndexAddr 5 (vget l0 0) (vget l0 2) (fun v21 => pField 3 v21 (fun v22 => pLoad w0 1 v22 s19 (fun g23 => AC Tryd.prog w0 n_laws_markStringS [g23 0, v20] s19 (fun v24 s25 => pIndexAddr 5 (vget l0 0) (vget l0 2) (fun v26 => pField 4 v26 (fun v27 => pLoad w0 1 v27 s25 (fun g28 => AC Tryd.prog w0 n_laws_markTreeS [g28 0, v24] s25 (fun v29 s30 => pBin Tryd.prog 3 BinOp.add (vget l0 2) (Value.int IntKind.i64 1) (fun v31 => K1 AX.normal [vget l0 0, v29, v31] s30)))))))))))))))))))))))))))) (K1 (AX.exit 0) [vget l0 0, vget l0 1, vget l0 2] s2)))) [a0, a1, Value.int IntKind.i64 0] σ (fun x32 l33 s34 => match x32 with | .normal => R (vget l33 1) s34 | .ret => False | .exit i35 => (match Nat.beq i35 0 with | true => R (vget l33 1) s34 | false => False))
theorem vc_laws_markTreeS_eq (w0 : World) (a0 a1 : Value) (σ : Vw) (R : Value → Vw → Prop) : vc_laws_markTreeS w0 a0 a1 σ R = den Tryd.prog w0 kp_laws_markTreeS esc_laws_markTreeS (Tryd.f74.body.getD .skip) (entry Tryd.f74.ntmps [a0, a1]) σ (retK Tryd.prog Tryd.f74.results.toList R) := by kernel_rfl
theorem ac_laws_markTreeS {w0 : World} {a0 a1 : Value} {σ : Vw} {R : Value → Vw → Prop} (h : vc_laws_markTreeS w0 a0 a1 σ R) : AC Tryd.prog w0 n_laws_markTreeS [a0, a1] σ R := by
  refine ac_rule (fn := Tryd.f74) (c := Tryd.f74.body.getD .skip) kp_laws_markTreeS esc_laws_markTreeS Tryd.func74 (by kernel_rfl) (by kernel_rfl) ?_
  rw [← vc_laws_markTreeS_eq]
  exact h

/-- laws.markText -/
def kp_laws_markText : Nat → Keep
  | 4 => ⟨[0, 3], [], [], .done, []⟩
  | _ => ⟨[], [], [], .done, []⟩
def esc_laws_markText : Nat → Bool
  | 12 => true
  | _ => false
def vc_laws_markText (w0 : World) (a0 : Value) (σ : Vw) (R : Value → Vw → Prop) : Prop :=
  pBin Tryd.prog 3 BinOp.leq a0 (Value.int IntKind.i64 0) (fun v0 => pIf v0 (R (Value.string ({ data := #[109, 48] })) σ) (pLoop (fun l1 K2 s3 => pBin Tryd.prog 3 BinOp.gtr (vget l1 0) (Value.int IntKind.i64 0) (fun v4 => pIf v4 (pBin Tryd.prog 3 BinOp.rem (vget l1 0) (Value.int IntKind.i64 10) (fun v5 => pBin Tryd.prog 3 BinOp.add (Value.int IntKind.i64 48) v5 (fun v6 => pConvInt IntKind.u8 v6 (fun v7 => pVal false 1 v7 (pNew w0 5 [v7] s3 (fun n8 s9 => pStr w0 (Value.slice (Option.some (Addr.mk n8 0 Option.none)) 1 1) s9 (fun v10 => pBin Tryd.prog 9 BinOp.add v10 (vget l1 1) (fun v11 => pBin Tryd.prog 3 BinOp.quo (vget l1 0) (Value.int IntKind.i64 10) (fun v12 => K2 AX.normal [v12, v11] s9))))))))) (K2 (AX.exit 0) [vget l1 0, vget l1 1] s3))) ([a0, Value.string ({ data := #[] })]) σ (fun x13 l14 s15 => match x13 with | .normal => pBin Tryd.prog 9 BinOp.add (Value.string ({ data := #[109] })) (vget l14 1) (fun v16 => R v16 s15) | .ret => False | .exit i17 => (match Nat.beq i17 0 with | true => pBin Tryd.prog 9 BinOp.add (Value.string ({ data := #[109] })) (vget l14 1) (fun v18 => R v18 s15) | false => False))))
theorem vc_laws_markText_eq (w0 : World) (a0 : Value) (σ : Vw) (R : Value → Vw → Prop) : vc_laws_markText w0 a0 σ R = den Tryd.prog w0 kp_laws_markText esc_laws_markText (Tryd.f75.body.getD .skip) (entry Tryd.f75.ntmps [a0]) σ (retK Tryd.prog Tryd.f75.results.toList R) := by kernel_rfl
theorem ac_laws_markText {w0 : World} {a0 : Value} {σ : Vw} {R : Value → Vw → Prop} (h : vc_laws_markText w0 a0 σ R) : AC Tryd.prog w0 n_laws_markText [a0] σ R := by
  refine ac_rule (fn := Tryd.f75) (c := Tryd.f75.body.getD .skip) kp_laws_markText esc_laws_markText Tryd.func75 (by kernel_rfl) (by kernel_rfl) ?_
  rw [← vc_laws_markText_eq]
  exact h

/-- strings.Split -/
def kp_strings_Split : Nat → Keep
  | _ => ⟨[], [], [], .done, []⟩
def esc_strings_Split : Nat → Bool
  | _ => false
def vc_strings_Split (w0 : World) (a0 a1 : Value) (σ : Vw) (R : Value → Vw → Prop) : Prop :=
  AC Tryd.prog w0 n_strings_genSplit [a0, a1, Value.int IntKind.i64 0, Value.int IntKind.i64 (-1)] σ (fun v0 s1 => R v0 s1)
theorem vc_strings_Split_eq (w0 : World) (a0 a1 : Value) (σ : Vw) (R : Value → Vw → Prop) : vc_strings_Split w0 a0 a1 σ R = den Tryd.prog w0 kp_strings_Split esc_strings_Split (Tryd.f77.body.getD .skip) (entry Tryd.f77.ntmps [a0, a1]) σ (retK Tryd.prog Tryd.f77.results.toList R) := by kernel_rfl
theorem ac_strings_Split {w0 : World} {a0 a1 : Value} {σ : Vw} {R : Value → Vw → Prop} (h : vc_strings_Split w0 a0 a1 σ R) : AC Tryd.prog w0 n_strings_Split [a0, a1] σ R := by
  refine ac_rule (fn := Tryd.f77) (c := Tryd.f77.body.getD .skip) kp_strings_Split esc_strings_Split Tryd.func77 (by kernel_rfl) (by kernel_rfl) ?_
  rw [← vc_strings_Split_eq]
  exact h

end Go.Proofs.YtlbpnfhhoalenaaDoor
