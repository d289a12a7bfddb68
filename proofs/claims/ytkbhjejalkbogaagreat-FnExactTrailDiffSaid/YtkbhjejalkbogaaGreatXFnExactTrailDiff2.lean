/- The law FnExactTrailDiff holds: it returns true, and the input reads as it did. No condition. This is part 2 of 4 of its proof. -/
import Derived.Test.YtkbhjejalkbogaaGreatXFnExactTrailDiff1
import Derived.IntWalk
import Derived.ChangeArms
import Derived.Test.YtkbhjejalkbogaaGreatProg

/- The plain side, part 1: the operations at known values; loops; what is read in a slice. -/
set_option linter.unusedVariables false
set_option linter.unusedSimpArgs false
namespace Go.Av
open Go Go.RowKit IntWalk

section
variable {P : Program} {w0 : World} {σ σ' : Vw}

/-! ### The operations at known values -/
theorem pIf_b {b : Bool} {A B : Prop} : pIf (.bool b) A B ↔ (b = true → A) ∧ (b = false → B) :=
  ⟨fun ⟨c, h, h1, h2⟩ => by cases h; exact ⟨h1, h2⟩, fun ⟨h1, h2⟩ => ⟨b, rfl, h1, h2⟩⟩
theorem pIf_d {p : Prop} [Decidable p] {A B : Prop} : pIf (.bool (decide p)) A B ↔ (p → A) ∧ (¬ p → B) := by
  rw [pIf_b]; simp
theorem pLen_s {A : Option Addr} {n c : Nat} {K : Value → Prop} : pLen (.slice A n c) K ↔ K (.int .i64 n) :=
  ⟨fun ⟨_, _, _, h, hK⟩ => by cases h; exact hK, fun h => ⟨_, _, _, rfl, h⟩⟩
theorem pLenS_s {s : ByteArray} {K : Value → Prop} : pLenS (.string s) K ↔ K (.int .i64 s.size) :=
  ⟨fun ⟨_, h, hK⟩ => by cases h; exact hK, fun h => ⟨_, rfl, h⟩⟩
theorem pNil_s {a : Addr} {K : Prop} : pNil (.pointer (some a)) K ↔ K := ⟨fun ⟨_, _, h⟩ => h, fun h => ⟨a, rfl, h⟩⟩
theorem pField_s {o : Nat} {a : Addr} {K : Value → Prop} : pField o (.pointer (some a)) K ↔ K (.pointer (some (a.add o))) :=
  ⟨fun ⟨_, h, hK⟩ => by cases h; exact hK, fun h => ⟨_, rfl, h⟩⟩
theorem pUn_not {b : Bool} {K : Value → Prop} : pUn .not (.bool b) K ↔ K (.bool !b) :=
  ⟨fun ⟨_, h, hK⟩ => by simp only [aun, Option.some.injEq] at h; subst h; exact hK, fun h => ⟨_, rfl, h⟩⟩
theorem pBin_i {T : Nat} {op : BinOp} {k : IntKind} {a b : Int} {v : Value} {K : Value → Prop} (h : aint op k a b = some v) : pBin P T op (.int k a) (.int k b) K ↔ K v := by
  have e : abinT P T op (.int k a) (.int k b) = some v := by unfold abinT; simp only [if_true]; exact h
  exact ⟨fun ⟨_, h, hK⟩ => by rw [e] at h; cases h; exact hK, fun h => ⟨_, e, h⟩⟩
theorem pBin_lt {T : Nat} {k : IntKind} {a b : Int} {K : Value → Prop} : pBin P T .lss (.int k a) (.int k b) K ↔ K (.bool (decide (a < b))) := pBin_i rfl
theorem pBin_le {T : Nat} {k : IntKind} {a b : Int} {K : Value → Prop} : pBin P T .leq (.int k a) (.int k b) K ↔ K (.bool (decide (a ≤ b))) := pBin_i rfl
theorem pBin_gt {T : Nat} {k : IntKind} {a b : Int} {K : Value → Prop} : pBin P T .gtr (.int k a) (.int k b) K ↔ K (.bool (decide (b < a))) := pBin_i rfl
theorem pBin_ge {T : Nat} {k : IntKind} {a b : Int} {K : Value → Prop} : pBin P T .geq (.int k a) (.int k b) K ↔ K (.bool (decide (b ≤ a))) := pBin_i rfl
theorem pBin_eq {T : Nat} {k : IntKind} {a b : Int} {K : Value → Prop} : pBin P T .eql (.int k a) (.int k b) K ↔ K (.bool (decide (a = b))) := pBin_i rfl
theorem pBin_ne {T : Nat} {k : IntKind} {a b : Int} {K : Value → Prop} : pBin P T .neq (.int k a) (.int k b) K ↔ K (.bool (decide (a ≠ b))) :=
  pBin_i (by simp only [aint, bne, Option.some.injEq, Value.bool.injEq]; by_cases h : a = b <;> simp [h])
theorem pBin_add {T : Nat} {a b : Int} {K : Value → Prop} (h : -9223372036854775808 ≤ a + b ∧ a + b ≤ 9223372036854775807) : pBin P T .add (.int .i64 a) (.int .i64 b) K ↔ K (.int .i64 (a + b)) :=
  pBin_i (by simp only [aint, i64_in _ h])
theorem pBin_sub {T : Nat} {a b : Int} {K : Value → Prop} (h : -9223372036854775808 ≤ a - b ∧ a - b ≤ 9223372036854775807) : pBin P T .sub (.int .i64 a) (.int .i64 b) K ↔ K (.int .i64 (a - b)) :=
  pBin_i (by simp only [aint, i64_in _ h])
theorem bytes_inj {a b : ByteArray} (h : a.toList = b.toList) : a = b := by
  rw [ByteArray.toList_eq, ByteArray.toList_eq] at h
  cases a; cases b
  simp only [ByteArray.mk.injEq]
  exact Array.toList_inj.1 h
theorem toList_eq {a b : ByteArray} : (a.toList == b.toList) = decide (a = b) := by
  have : a.toList = b.toList ↔ a = b := ⟨fun h => Go.Av.bytes_inj h, fun h => by rw [h]⟩
  by_cases h : a = b
  · subst h; simp
  · have h' : ¬ a.toList = b.toList := fun e => h (this.1 e)
    simp [h, h']
theorem pBin_s {T : Nat} {op : BinOp} {a b : ByteArray} {v : Value} {K : Value → Prop} (h : astr op a b = some v) : pBin P T op (.string a) (.string b) K ↔ K v :=
  ⟨fun ⟨_, h', hK⟩ => by rw [show abinT P T op (.string a) (.string b) = some v from h] at h'; cases h'; exact hK, fun hK => ⟨_, h, hK⟩⟩
theorem pBin_seq {T : Nat} {a b : ByteArray} {K : Value → Prop} : pBin P T .eql (.string a) (.string b) K ↔ K (.bool (decide (a = b))) := pBin_s (by simp only [astr, toList_eq])
theorem pBin_sne {T : Nat} {a b : ByteArray} {K : Value → Prop} : pBin P T .neq (.string a) (.string b) K ↔ K (.bool (decide (a ≠ b))) := pBin_s (by simp only [astr, toList_eq]; simp)
theorem pBin_b {T : Nat} {op : BinOp} {a b : Bool} {v : Value} {K : Value → Prop} (hT : P.underlying T = some .bool) (h : (match op with | .eql => some (Value.bool (a == b)) | .neq => some (.bool (!(a == b))) | _ => none) = some v) : pBin P T op (.bool a) (.bool b) K ↔ K v := by
  have e : abinT P T op (.bool a) (.bool b) = some v := by simp only [abinT, hT]; exact h
  exact ⟨fun ⟨_, h', hK⟩ => by rw [e] at h'; cases h'; exact hK, fun hK => ⟨_, e, hK⟩⟩

theorem pVal1 {n : Nat} {v : Value} {A : Prop} (h : v.oneCell' = true) : pVal false n v A ↔ A := ⟨fun h => h.2, fun hA => ⟨h, hA⟩⟩
theorem pValN {n : Nat} {cs : List Value} {A : Prop} (hl : cs.length = n) (h : ∀ c, c ∈ cs → c.oneCell' = true) : pVal true n (.agg ⟨cs⟩) A ↔ A := ⟨fun h => h.2, fun hA => ⟨⟨cs, rfl, hl, h⟩, hA⟩⟩
theorem cellOf_agg {cs : List Value} {i : Nat} : cellOf (.agg ⟨cs⟩) i = cs.getD i undef := rfl
theorem pStr1 {b : Nat} {K : Value → Prop} {n : Int} {c : Nat} (h : Av.get w0 σ ⟨b, 0, none⟩ = some (.int .u8 n)) (hK : K (.string (strOfNums [n]))) : pStr w0 (.slice (some ⟨b, 0, none⟩) 1 c) σ K :=
  .inr ⟨b, 0, 1, c, [n], rfl, rfl, (fun j hj => by
    have e : j = 0 := by omega
    subst e
    exact h), hK⟩

/-! ### Loops -/
theorem loop_rule {B : List Value → (AX → List Value → Vw → Prop) → Vw → Prop} {K : AX → List Value → Vw → Prop} (I : Nat → List Value → Vw → Prop)
    (step : ∀ m vs σ (L : List Value → Vw → Prop), I m vs σ → (∀ vs' σ', ∀ m', m' + 1 = m → I m' vs' σ' → L vs' σ') → B vs (fun e vs' σ' => match e with | .normal => L vs' σ' | .exit i => K (.exit i) vs' σ' | .ret => K .ret vs' σ') σ)
    {m : Nat} {vs : List Value} (h : I m vs σ) : pLoop B vs σ K := by
  refine ⟨m + 1, ?_⟩
  induction m generalizing vs σ with
  | zero => exact step 0 vs σ _ h (fun vs' σ' m' e => by omega)
  | succ m ih =>
    refine step (m + 1) vs σ _ h (fun vs' σ' m' e hI => ?_)
    have e : m' = m := by omega
    subst e
    exact ih hI

/-! ### Reading -/
theorem add_add (a : Addr) (i j : Nat) : (a.add i).add j = a.add (i + j) := by
  unfold Addr.add
  by_cases hi : i = 0
  · simp [hi]
  · by_cases hj : j = 0
    · simp [hj]
    · have : i + j ≠ 0 := by omega
      simp [hi, hj, this, Nat.add_assoc]

/-- A reader that reads no less. -/
def Le (rd rd' : Addr → Option Value) : Prop := ∀ a v, rd a = some v → rd' a = some v
theorem Le.refl (rd : Addr → Option Value) : Le rd rd := fun _ _ h => h
theorem Le.trans {rd rd' rd'' : Addr → Option Value} (h : Le rd rd') (h' : Le rd' rd'') : Le rd rd'' := fun a v ha => h' a v (h a v ha)
theorem Ext.le (hx : Ext σ σ') : Le (Av.get w0 σ) (Av.get w0 σ') := fun _ _ h => get_ext hx h

/-- What is read behind a slice: xs, each of n cells. -/
def RSl {α : Type} (n : Nat) (R : (Addr → Option Value) → List Value → α → Prop) (rd : Addr → Option Value) (v : Value) (xs : List α) : Prop :=
  ∃ A cap, v = .slice A xs.length cap ∧ (xs.length ≤ cap ∧ cap ≤ 9223372036854775807) ∧ ∀ (j : Nat) (x : α), xs[j]? = some x → ∃ a es, A = some a ∧ es.length = n ∧ (∀ i, i < n → rd (a.add (j * n + i)) = es[i]?) ∧ R rd es x

theorem RSl.mono {α : Type} {n : Nat} {R : (Addr → Option Value) → List Value → α → Prop} {rd rd' : Addr → Option Value} {v : Value} {xs : List α} (h : RSl n R rd v xs) (hx : Le rd rd') (hR : ∀ es x, R rd es x → R rd' es x) : RSl n R rd' v xs := by
  obtain ⟨A, cap, h1, h2, h3⟩ := h
  refine ⟨A, cap, h1, h2, fun j x hj => ?_⟩
  obtain ⟨a, es, h4, h5, h6, h7⟩ := h3 j x hj
  refine ⟨a, es, h4, h5, fun i hi => ?_, hR _ _ h7⟩
  have := h6 i hi
  have hlt : i < es.length := by omega
  rw [List.getElem?_eq_getElem hlt] at this ⊢
  exact hx _ _ this

theorem RSl.len {α : Type} {n : Nat} {R : (Addr → Option Value) → List Value → α → Prop} {rd : Addr → Option Value} {v : Value} {xs : List α} (h : RSl n R rd v xs) {K : Value → Prop} : pLen v K ↔ K (.int .i64 xs.length) := by
  obtain ⟨A, cap, rfl, _⟩ := h
  exact pLen_s

/-- An element is read. -/
theorem RSl.at {α : Type} {n : Nat} {R : (Addr → Option Value) → List Value → α → Prop} {v : Value} {xs : List α} (h : RSl n R (Av.get w0 σ) v xs) {j : Nat} {x : α} (hj : xs[j]? = some x) {K : (Nat → Value) → Prop} (hK : ∀ g : Nat → Value, R (Av.get w0 σ) (expl g 0 n) x → K g) :
    pIndexAddr n v (.int .i64 j) fun p => pLoad w0 n p σ K := by
  obtain ⟨A, cap, rfl, _, h3⟩ := h
  obtain ⟨a, es, rfl, h5, h6, h7⟩ := h3 j x hj
  have hlt : j < xs.length := (List.getElem?_eq_some_iff.1 hj).1
  refine ⟨a, xs.length, cap, .i64, j, rfl, rfl, by omega, by omega, a.add (j * n), fun i => es.getD i undef, rfl, fun i hi => ?_, hK _ ?_⟩
  · have := h6 i hi
    have hlt : i < es.length := by omega
    rw [add_add, this, List.getElem?_eq_getElem hlt]
    simp only [List.getD_eq_getElem?_getD, List.getElem?_eq_getElem hlt, Option.getD_some]
  · have : expl (fun i => es.getD i undef) 0 n = es := by
      apply List.ext_getElem?
      intro i
      by_cases hi : i < n
      · rw [expl_get _ _ _ _ hi, Nat.zero_add, List.getD_eq_getElem?_getD]
        have hlt : i < es.length := by omega
        rw [List.getElem?_eq_getElem hlt]; rfl
      · rw [List.getElem?_eq_none (by rw [length_expl]; omega), List.getElem?_eq_none (by omega)]
    rw [this]; exact h7

/-- A text. -/
def RS (rd : Addr → Option Value) (cs : List Value) (s : ByteArray) : Prop := cs = [.string s] ∧ s.size ≤ 9223372036854775807
end
end Go.Av

/- The plain side, part 2: rows of our own. -/
set_option linter.unusedVariables false
set_option linter.unusedSimpArgs false
namespace Go.Av
open Go Go.RowKit

/-- Every row stays as it is; there may be new ones. -/
def Keeps (σ σ' : Vw) : Prop := ∀ b r, σ b = some r → σ' b = some r
theorem Keeps.refl (σ : Vw) : Keeps σ σ := fun _ _ h => h
theorem Keeps.trans {σ σ' σ'' : Vw} (h : Keeps σ σ') (h' : Keeps σ' σ'') : Keeps σ σ'' := fun b r hb => h' b r (h b r hb)
theorem Keeps.ext {σ σ' : Vw} (h : Keeps σ σ') : Ext σ σ' := fun b r hb => ⟨r, h b r hb, List.prefix_refl _⟩
theorem Keeps.le {w0 : World} {σ σ' : Vw} (h : Keeps σ σ') : Le (Av.get w0 σ) (Av.get w0 σ') := h.ext.le
theorem Keeps.stay {w0 : World} {σ σ' : Vw} {v : Value} {n : Nat} (h : Keeps σ σ') : Stay w0 σ σ' v n := fun a g _ hc j hj => h.le _ _ (hc j hj)
theorem Keeps.put {σ : Vw} {b : Nat} {r : Row} (h : σ b = none) : Keeps σ (σ.put b r) := fun i x hi => by
  have : i ≠ b := fun e => by rw [e, h] at hi; cases hi
  simp [Vw.put, this, hi]
/-- A new row is made, then others, then the first is written. -/
theorem Keeps.fill {σ σ' : Vw} {b : Nat} {r : Row} (h : Keeps σ σ') (hb : σ b = none) : Keeps σ (σ'.put b r) := fun i x hi => by
  have : i ≠ b := fun e => by rw [e, hb] at hi; cases hi
  simp [Vw.put, this, h i x hi]
theorem put_at {σ : Vw} {b : Nat} {r : Row} : σ.put b r b = some r := by simp [Vw.put]
theorem put_put {σ : Vw} {b : Nat} {r r' : Row} : (σ.put b r).put b r' = σ.put b r' := by
  funext i; simp only [Vw.put]; split <;> rfl

theorem get_row {w0 : World} {σ : Vw} {b off : Nat} {r : Row} (hb : w0.heap.size ≤ b) (h : σ b = some r) : Av.get w0 σ ⟨b, off, none⟩ = r.cells[off]? := by
  unfold Av.get
  simp only
  rw [if_neg (by omega), if_pos trivial, h]; rfl

theorem addr_add (b off i : Nat) : (Addr.mk b off none).add i = ⟨b, off + i, none⟩ := by
  unfold Addr.add
  split
  · rename_i h; subst h; rfl
  · rfl

theorem setAt_mid : ∀ (A old new C : List Value), old.length = new.length → setAt (A ++ (old ++ C)) A.length new = A ++ (new ++ C)
  | A, [], [], C, _ => by simp [setAt]
  | A, [], _ :: _, C, h => by simp at h
  | A, _ :: _, [], C, h => by simp at h
  | A, o :: old, n :: new, C, h => by
    simp only [setAt]
    have e : (A ++ (o :: old ++ C)).set A.length n = (A ++ [n]) ++ (old ++ C) := by simp
    rw [e]
    have := setAt_mid (A ++ [n]) old new C (by simpa using h)
    simp only [List.length_append, List.length_singleton] at this
    rw [this]
    simp

section
variable {w0 : World} {σ : Vw}

theorem flat_len {n : Nat} : ∀ (xs : List (List Value)), (∀ c, c ∈ xs → c.length = n) → xs.flatten.length = xs.length * n
  | [], _ => by simp
  | c :: r, h => by
    have := flat_len r (fun d hd => h d (List.mem_cons_of_mem _ hd))
    simp only [List.flatten_cons, List.length_append, List.length_cons, this, h c List.mem_cons_self]
    rw [Nat.add_mul, Nat.one_mul, Nat.add_comm]

theorem flat_get {n : Nat} : ∀ (xs : List (List Value)), (∀ c, c ∈ xs → c.length = n) → ∀ (j : Nat) (c : List Value), xs[j]? = some c → ∀ i, i < n → xs.flatten[j * n + i]? = c[i]?
  | [], _, j, c, hj, i, hi => by simp at hj
  | d :: r, h, 0, c, hj, i, hi => by
    simp at hj; subst hj
    have := h d List.mem_cons_self
    rw [List.flatten_cons, Nat.zero_mul, Nat.zero_add, List.getElem?_append_left (by omega)]
  | d :: r, h, j + 1, c, hj, i, hi => by
    have hd := h d List.mem_cons_self
    rw [List.flatten_cons, Nat.add_mul, Nat.one_mul, List.getElem?_append_right (by omega)]
    have := flat_get r (fun d hd => h d (List.mem_cons_of_mem _ hd)) j c (by simpa using hj) i hi
    rw [← this]
    congr 1
    omega

/-- What lies in a row of our own can be read. -/
theorem RSl.own {α : Type} {n : Nat} {R : (Addr → Option Value) → List Value → α → Prop} {b cap : Nat} {r : Row} {xs : List α} {cs : List (List Value)} {tail : List Value} (hb : w0.heap.size ≤ b) (hr : σ b = some r) (hc : r.cells = cs.flatten ++ tail) (hn : ∀ c, c ∈ cs → c.length = n)
    (hl : cs.length = xs.length) (hm : xs.length ≤ cap ∧ cap ≤ 9223372036854775807) (hR : ∀ (j : Nat) (c : List Value) (x : α), cs[j]? = some c → xs[j]? = some x → R (Av.get w0 σ) c x) : RSl n R (Av.get w0 σ) (.slice (some ⟨b, 0, none⟩) xs.length cap) xs := by
  refine ⟨_, cap, rfl, hm, fun j x hj => ?_⟩
  have hlt : j < cs.length := by have := (List.getElem?_eq_some_iff.1 hj).1; omega
  have hcj := List.getElem?_eq_getElem hlt
  refine ⟨_, cs[j], rfl, hn _ (List.getElem_mem hlt), fun i hi => ?_, hR j _ x hcj hj⟩
  rw [addr_add, get_row hb hr, Nat.zero_add, hc, ← flat_get cs hn j _ hcj i hi, List.getElem?_append_left]
  rw [flat_len cs hn]
  calc j * n + i < j * n + n := by omega
    _ = (j + 1) * n := by rw [Nat.add_mul, Nat.one_mul]
    _ ≤ cs.length * n := Nat.mul_le_mul_right n hlt

/-- An element of a row of our own is written. -/
theorem own_store {b cap len : Nat} {j n : Nat} {r : Row} {A old new C : List Value} (hr : σ b = some r) (hc : r.cells = A ++ (old ++ C)) (hA : A.length = j * n) (ho : old.length = new.length) (hn : new.length = n) (hj : j < len) {K : Vw → Prop}
    (hK : K (σ.put b { r with cells := A ++ (new ++ C) })) : pIndexAddr n (.slice (some ⟨b, 0, none⟩) len cap) (.int .i64 j) fun p => pStore p new σ K := by
  refine ⟨_, len, cap, .i64, j, rfl, rfl, by omega, by omega, b, j * n, r, by rw [addr_add]; simp, hr, ?_, ?_⟩
  · rw [hc]; simp only [List.length_append]; omega
  · rw [hc, ← hA, setAt_mid _ _ _ _ ho]; exact hK

theorem RSl.one {α : Type} {n : Nat} {R : (Addr → Option Value) → List Value → α → Prop} {rd : Addr → Option Value} {v : Value} {xs : List α} (h : RSl n R rd v xs) : v.oneCell' = true := by
  obtain ⟨A, cap, rfl, _⟩ := h
  rfl
theorem RSl.le {α : Type} {n : Nat} {R : (Addr → Option Value) → List Value → α → Prop} {rd : Addr → Option Value} {v : Value} {xs : List α} (h : RSl n R rd v xs) : xs.length ≤ 9223372036854775807 := by
  obtain ⟨_, _, _, h2, _⟩ := h; exact Nat.le_trans h2.1 h2.2
theorem pVal_2 {v v' : Value} {A : Prop} (h : v.oneCell' = true) (h' : v'.oneCell' = true) : pVal true 2 (.agg ⟨[v, v']⟩) A ↔ A := pValN rfl (by simp [h, h'])
theorem pVal_3 {v v' v'' : Value} {A : Prop} (h : v.oneCell' = true) (h' : v'.oneCell' = true) (h'' : v''.oneCell' = true) : pVal true 3 (.agg ⟨[v, v', v'']⟩) A ↔ A := pValN rfl (by simp [h, h', h''])

theorem pMake_s {ety n bytes m : Nat} {z : List Value} {K : Value → Vw → Prop} (hm : bytes * m ≤ 140737488355328) (hm2 : m ≤ 9223372036854775807) (hK : ∀ b e, w0.heap.size ≤ b → σ b = none → K (.slice (some ⟨b, 0, none⟩) m m) (σ.put b ⟨e, (List.replicate m z).flatten, m * n, (0, 0)⟩)) :
    pMake w0 ety n bytes z (.int .i64 m) (.int .i64 m) σ K := by
  refine ⟨.i64, m, rfl, rfl, by omega, by omega, ?_, fun b h1 h2 => ?_⟩
  · have : ((bytes * m : Nat) : Int) ≤ 2 ^ 47 := by
      rw [show (2 : Int) ^ 47 = 140737488355328 by decide]; omega
    simpa using this
  · have := hK b ety h1 h2
    simpa using this
end
end Go.Av

/- The lists of structs, whatever their element: their size, their comparison. -/
set_option linter.unusedVariables false
set_option linter.unusedSimpArgs false
namespace Go.Av
open Go Go.RowKit

/-- What is left of n. -/
def left (n : Int) (t : Nat) : Int := if n - t < 0 then -1 else n - t
theorem left_neg {n : Int} {t : Nat} : left n t < 0 ↔ n < t := by unfold left; split <;> omega
theorem left_low {n : Int} {t : Nat} (h : n < t) : left n t = -1 := by unfold left; rw [if_pos (by omega)]
theorem left_in {n : Int} {t : Nat} (h : (t : Int) ≤ n) : left n t = n - t := by unfold left; rw [if_neg (by omega)]

def sumBy {α : Type} (f : α → Nat) : List α → Nat
  | [] => 0
  | s :: r => f s + sumBy f r
theorem sumBy_take {α : Type} {f : α → Nat} {xs : List α} : ∀ {j : Nat} {x : α}, xs[j]? = some x → sumBy f (xs.take (j + 1)) = sumBy f (xs.take j) + f x := by
  induction xs with
  | nil => intro j x h; simp at h
  | cons a r ih =>
    intro j x h
    cases j with
    | zero => simp at h; subst h; simp [sumBy]
    | succ j =>
      simp at h
      have := ih h
      simp only [List.take_succ_cons, sumBy, this]
      omega
theorem sumBy_le {α : Type} {f : α → Nat} {xs : List α} : ∀ (j : Nat), sumBy f (xs.take j) ≤ sumBy f xs := by
  induction xs with
  | nil => intro j; simp [sumBy]
  | cons a r ih =>
    intro j
    cases j with
    | zero => simp [sumBy]
    | succ j => have := ih j; simp only [List.take_succ_cons, sumBy]; omega

section
variable {P : Program} {w0 : World} {σ : Vw} {α : Type}

def VszS (P : Program) (w0 : World) (T n f : Nat) (a0 a1 : Value) (σ : Vw) (R : Value → Vw → Prop) : Prop :=
  pLen a0 (fun v0 => pBin P T .sub a1 v0 (fun v1 => pBin P T .lss v1 (.int .i64 0) (fun v2 => pIf v2 (R (.int .i64 (-1)) σ) (pLoop (fun l3 K4 s5 => pLen (vget l3 0) (fun v6 => pBin P T .lss (vget l3 3) v6 (fun v7 => pIf v7
    (pIndexAddr n (vget l3 0) (vget l3 3) (fun v8 => pLoad w0 n v8 s5 (fun g9 => AC P w0 f [.agg ⟨expl g9 0 n⟩, vget l3 1] s5 (fun v10 s11 => pBin P T .lss v10 (.int .i64 0) (fun v12 => pIf v12 (K4 .ret [vget l3 0, v10, .int .i64 (-1), vget l3 3] s11)
      (pBin P T .add (vget l3 3) (.int .i64 1) (fun v13 => K4 .normal [vget l3 0, v10, vget l3 2, v13] s11))))))) (K4 (.exit 0) [vget l3 0, vget l3 1, vget l3 2, vget l3 3] s5)))) [a0, v1, .int .i64 0, .int .i64 0] σ
    (fun x14 l15 s16 => match x14 with | .normal => R (vget l15 1) s16 | .ret => R (vget l15 2) s16 | .exit i17 => (match Nat.beq i17 0 with | true => R (vget l15 1) s16 | false => False))))))

theorem szS_gen {T n f : Nat} {Rel : (Addr → Option Value) → List Value → α → Prop} {sz : α → Nat} {v : Value} {xs : List α} {m : Int}
    (hf : ∀ x, x ∈ xs → ∀ (es : List Value) (m : Int) (R' : Value → Vw → Prop), Rel (Av.get w0 σ) es x → 0 ≤ m ∧ m ≤ 9223372036854775807 → R' (.int .i64 (left m (sz x))) σ → AC P w0 f [.agg ⟨es⟩, .int .i64 m] σ R')
    (h : RSl n Rel (Av.get w0 σ) v xs) (hn : 0 ≤ m ∧ m ≤ 9223372036854775807) {R : Value → Vw → Prop} (hR : R (.int .i64 (left m (xs.length + sumBy sz xs))) σ) : VszS P w0 T n f v (.int .i64 m) σ R := by
  unfold VszS
  have hl := h.le
  rw [h.len, pBin_sub (by omega), pBin_lt, pIf_d]
  refine ⟨fun hlt => ?_, fun hge => ?_⟩
  · rw [left_low (by omega)] at hR; exact hR
  · refine loop_rule (m := xs.length) (fun k l s => ∃ j, s = σ ∧ k + j = xs.length ∧ 0 ≤ m - xs.length - sumBy sz (xs.take j) ∧ l = [v, .int .i64 (m - xs.length - sumBy sz (xs.take j)), .int .i64 0, .int .i64 (j : Nat)]) ?_ ⟨0, rfl, by omega, by simp [sumBy]; omega, by simp [sumBy]⟩
    rintro k l s L ⟨j, rfl, hm, h0, rfl⟩ hL
    simp only [vget, List.getD_cons_zero, List.getD_cons_succ]
    rw [h.len, pBin_lt, pIf_d]
    refine ⟨fun hj => ?_, fun hj => ?_⟩
    · have hj' : j < xs.length := by omega
      have hx := List.getElem?_eq_getElem hj'
      refine h.at hx fun g hg => ?_
      have ht := sumBy_take (f := sz) hx
      have hle := sumBy_le (f := sz) (xs := xs) (j + 1)
      refine hf _ (List.getElem_mem hj') _ _ _ hg (by omega) ?_
      rw [pBin_lt, pIf_d]
      refine ⟨fun hlt => ?_, fun hge => ?_⟩
      · rw [left_neg] at hlt
        rw [left_low (by omega)] at hR; exact hR
      · rw [left_neg] at hge
        rw [pBin_add (by omega), left_in (by omega)]
        refine hL _ _ (k - 1) (by omega) ⟨j + 1, rfl, by omega, by omega, ?_⟩
        rw [ht]
        congr 2
        · congr 1; omega
    · have hj' : j = xs.length := by omega
      subst hj'
      rw [List.take_length] at h0 ⊢
      rw [left_in (by omega)] at hR
      rw [show m - (xs.length : Int) - (sumBy sz xs : Int) = m - ((xs.length + sumBy sz xs : Nat) : Int) by omega]
      exact hR

def VeqS (P : Program) (w0 : World) (T n f : Nat) (a0 a1 : Value) (σ : Vw) (R : Value → Vw → Prop) : Prop :=
  pLen a0 (fun v0 => pLen a1 (fun v1 => pBin P T .neq v0 v1 (fun v2 => pIf v2 (R (.bool false) σ) (pLoop (fun l3 K4 s5 => pLen (vget l3 0) (fun v6 => pBin P T .lss (vget l3 3) v6 (fun v7 => pIf v7
    (pIndexAddr n (vget l3 0) (vget l3 3) (fun v8 => pLoad w0 n v8 s5 (fun g9 => pIndexAddr n (vget l3 1) (vget l3 3) (fun v10 => pLoad w0 n v10 s5 (fun g11 => AC P w0 f [.agg ⟨expl g9 0 n⟩, .agg ⟨expl g11 0 n⟩] s5 (fun v12 s13 => pUn .not v12 (fun v14 => pIf v14
      (K4 .ret [vget l3 0, vget l3 1, .bool false, vget l3 3] s13) (pBin P T .add (vget l3 3) (.int .i64 1) (fun v15 => K4 .normal [vget l3 0, vget l3 1, vget l3 2, v15] s13))))))))) (K4 (.exit 0) [vget l3 0, vget l3 1, vget l3 2, vget l3 3] s5)))) [a0, a1, .bool false, .int .i64 0] σ
    (fun x16 l17 s18 => match x16 with | .normal => R (.bool true) s18 | .ret => R (vget l17 2) s18 | .exit i19 => (match Nat.beq i19 0 with | true => R (.bool true) s18 | false => False))))))

theorem eqS_gen [DecidableEq α] {T n f : Nat} {Rel : (Addr → Option Value) → List Value → α → Prop} {v v' : Value} {xs ys : List α}
    (hf : ∀ x, x ∈ xs → ∀ (y : α) (es es' : List Value) (R' : Value → Vw → Prop), Rel (Av.get w0 σ) es x → Rel (Av.get w0 σ) es' y → R' (.bool (decide (x = y))) σ → AC P w0 f [.agg ⟨es⟩, .agg ⟨es'⟩] σ R')
    (h : RSl n Rel (Av.get w0 σ) v xs) (h' : RSl n Rel (Av.get w0 σ) v' ys) {R : Value → Vw → Prop} (hR : R (.bool (decide (xs = ys))) σ) : VeqS P w0 T n f v v' σ R := by
  unfold VeqS
  have hl := h.le
  rw [h.len, h'.len, pBin_ne, pIf_d]
  refine ⟨fun hne => ?_, fun heq => ?_⟩
  · have : xs ≠ ys := fun e => hne (by rw [e])
    simpa [this] using hR
  · have hlen : xs.length = ys.length := by omega
    refine loop_rule (m := xs.length) (fun m l s => ∃ j, s = σ ∧ m + j = xs.length ∧ xs.take j = ys.take j ∧ l = [v, v', .bool false, .int .i64 (j : Nat)]) ?_ ⟨0, rfl, by omega, by simp, rfl⟩
    rintro m l s L ⟨j, rfl, hm, ht, rfl⟩ hL
    simp only [vget, List.getD_cons_zero, List.getD_cons_succ]
    rw [h.len, pBin_lt, pIf_d]
    refine ⟨fun hj => ?_, fun hj => ?_⟩
    · have hj' : j < xs.length := by omega
      have hx := List.getElem?_eq_getElem hj'
      have hy := List.getElem?_eq_getElem (show j < ys.length by omega)
      refine h.at hx fun g hg => ?_
      refine h'.at hy fun g' hg' => ?_
      refine hf _ (List.getElem_mem hj') _ _ _ _ hg hg' ?_
      rw [pUn_not, pIf_b]
      by_cases e : xs[j] = ys[j]
      · refine ⟨fun h => by simp [e] at h, fun _ => ?_⟩
        rw [pBin_add (by omega)]
        refine hL _ _ (m - 1) (by omega) ⟨j + 1, rfl, by omega, ?_, rfl⟩
        rw [List.take_add_one, List.take_add_one, hx, hy, ht, e]
      · refine ⟨fun _ => ?_, fun h => by simp [e] at h⟩
        have : xs ≠ ys := fun e' => by subst e'; exact e rfl
        simpa [this] using hR
    · have hj' : j = xs.length := by omega
      subst hj'
      rw [List.take_length, hlen, List.take_length] at ht
      subst ht
      simpa using hR
end
end Go.Av

/- Lists that lie in rows of our own, each part in rows of its own; the copy of a list of structs. -/
set_option linter.unusedVariables false
set_option linter.unusedSimpArgs false
namespace Go.Av
open Go Go.RowKit

section
variable {P : Program} {w0 : World} {σ σ' : Vw} {α : Type}

/-- What a rule for parts in rows of our own must keep. -/
structure OOk (w0 : World) (n : Nat) (Rel : (Addr → Option Value) → List Value → α → Prop) (O : Vw → List Nat → List Value → α → Prop) : Prop where
  rel : ∀ σ F es x, O σ F es x → Rel (Av.get w0 σ) es x
  frame : ∀ σ σ' F es x, O σ F es x → (∀ b, b ∈ F → σ' b = σ b) → O σ' F es x
  dom : ∀ σ F es x, O σ F es x → ∀ b, b ∈ F → w0.heap.size ≤ b ∧ σ b ≠ none
  nodup : ∀ σ F es x, O σ F es x → F.Nodup
  len : ∀ σ F es x, O σ F es x → es.length = n
  one : ∀ σ F es x, O σ F es x → ∀ c, c ∈ es → c.oneCell' = true

/-- A list in a row of our own, the elements' own parts in other rows. -/
def OSl (w0 : World) (n : Nat) (O : Vw → List Nat → List Value → α → Prop) (σ : Vw) (F : List Nat) (v : Value) (xs : List α) : Prop :=
  xs.length ≤ 9223372036854775807 ∧ F.Nodup ∧ ((v = .slice none 0 0 ∧ xs = [] ∧ F = []) ∨
  ∃ (b off cap : Nat) (r : Row) (pre post : List Value) (css : List (List Value)) (Fs : List (List Nat)), v = .slice (some ⟨b, off, none⟩) xs.length cap ∧ (xs.length ≤ cap ∧ cap ≤ 9223372036854775807) ∧ w0.heap.size ≤ b ∧ σ b = some r ∧ r.cells = pre ++ (css.flatten ++ post) ∧ pre.length = off ∧
    css.length = xs.length ∧ Fs.length = xs.length ∧ F = b :: Fs.flatten ∧ ∀ (j : Nat) (c : List Value) (x : α) (f : List Nat), css[j]? = some c → xs[j]? = some x → Fs[j]? = some f → O σ f c x)

theorem mem_flat {l : List (List Nat)} {b : Nat} (h : b ∈ l.flatten) : ∃ (j : Nat) (f : List Nat), l[j]? = some f ∧ b ∈ f := by
  obtain ⟨f, h1, h2⟩ := List.mem_flatten.1 h
  obtain ⟨j, hj⟩ := List.getElem?_of_mem h1
  exact ⟨j, f, hj, h2⟩

theorem OSl.frame {n : Nat} {Rel : (Addr → Option Value) → List Value → α → Prop} {O : Vw → List Nat → List Value → α → Prop} (ok : OOk w0 n Rel O) {F : List Nat} {v : Value} {xs : List α} (h : OSl w0 n O σ F v xs) (hF : ∀ b, b ∈ F → σ' b = σ b) : OSl w0 n O σ' F v xs := by
  obtain ⟨h1, h2, h3 | ⟨b, off, cap, r, pre, post, css, Fs, g1, gc, g2, g3, g4, g5, g6, g7, g8, g9⟩⟩ := h
  · exact ⟨h1, h2, .inl h3⟩
  · refine ⟨h1, h2, .inr ⟨b, off, cap, r, pre, post, css, Fs, g1, gc, g2, ?_, g4, g5, g6, g7, g8, fun j c x f e1 e2 e3 => ?_⟩⟩
    · rw [hF b (by rw [g8]; exact List.mem_cons_self)]; exact g3
    · refine ok.frame _ _ _ _ _ (g9 j c x f e1 e2 e3) fun i hi => hF i ?_
      rw [g8]
      exact List.mem_cons_of_mem _ (List.mem_flatten.2 ⟨f, List.mem_of_getElem? e3, hi⟩)

theorem OSl.dom {n : Nat} {Rel : (Addr → Option Value) → List Value → α → Prop} {O : Vw → List Nat → List Value → α → Prop} (ok : OOk w0 n Rel O) {F : List Nat} {v : Value} {xs : List α} (h : OSl w0 n O σ F v xs) : ∀ b, b ∈ F → w0.heap.size ≤ b ∧ σ b ≠ none := by
  obtain ⟨h1, h2, ⟨_, _, h3⟩ | ⟨b, off, cap, r, pre, post, css, Fs, g1, gc, g2, g3, g4, g5, g6, g7, g8, g9⟩⟩ := h
  · rw [h3]; intro b hb; cases hb
  · rw [g8]
    intro i hi
    rcases List.mem_cons.1 hi with e | e
    · rw [e]; exact ⟨g2, by rw [g3]; simp⟩
    · obtain ⟨j, f, e1, e2⟩ := mem_flat e
      have hj : j < Fs.length := (List.getElem?_eq_some_iff.1 e1).1
      exact ok.dom _ _ _ _ (g9 j _ _ f (List.getElem?_eq_getElem (by omega)) (List.getElem?_eq_getElem (by omega)) e1) i e2

theorem OSl.rel {n : Nat} {Rel : (Addr → Option Value) → List Value → α → Prop} {O : Vw → List Nat → List Value → α → Prop} (ok : OOk w0 n Rel O) {F : List Nat} {v : Value} {xs : List α} (h : OSl w0 n O σ F v xs) : RSl n Rel (Av.get w0 σ) v xs := by
  obtain ⟨h1, h2, ⟨rfl, rfl, _⟩ | ⟨b, off, cap, r, pre, post, css, Fs, rfl, gc, g2, g3, g4, g5, g6, g7, g8, g9⟩⟩ := h
  · exact ⟨none, 0, rfl, by simp, fun j x hj => by simp at hj⟩
  · have each : ∀ (j : Nat) (c : List Value), css[j]? = some c → c.length = n := fun j c hj => by
      have hlt : j < css.length := (List.getElem?_eq_some_iff.1 hj).1
      exact ok.len _ _ _ _ (g9 j c _ _ hj (List.getElem?_eq_getElem (by omega)) (List.getElem?_eq_getElem (by omega)))
    have hn : ∀ c, c ∈ css → c.length = n := fun c hc => by obtain ⟨j, hj⟩ := List.getElem?_of_mem hc; exact each j c hj
    refine ⟨_, cap, rfl, gc, fun j x hj => ?_⟩
    have hlt : j < css.length := by have := (List.getElem?_eq_some_iff.1 hj).1; omega
    have hcj := List.getElem?_eq_getElem hlt
    refine ⟨_, css[j], rfl, each j _ hcj, fun i hi => ?_, ok.rel _ _ _ _ (g9 j _ x _ hcj hj (List.getElem?_eq_getElem (by omega)))⟩
    rw [addr_add, get_row g2 g3, g4, List.getElem?_append_right (by omega)]
    rw [show off + (j * n + i) - pre.length = j * n + i by omega, List.getElem?_append_left, flat_get css hn j _ hcj i hi]
    rw [flat_len css hn]
    calc j * n + i < j * n + n := by omega
      _ = (j + 1) * n := by rw [Nat.add_mul, Nat.one_mul]
      _ ≤ css.length * n := Nat.mul_le_mul_right n hlt

def VtoS (P : Program) (w0 : World) (T ety n bytes f : Nat) (z : List Value) (a0 : Value) (σ : Vw) (R : Value → Vw → Prop) : Prop :=
  pLen a0 (fun v0 => pMake w0 ety n bytes z v0 v0 σ (fun v1 s2 => pLoop (fun l3 K4 s5 => pLen (vget l3 0) (fun v6 => pBin P T .lss (vget l3 2) v6 (fun v7 => pIf v7
    (pIndexAddr n (vget l3 0) (vget l3 2) (fun v8 => pLoad w0 n v8 s5 (fun g9 => AC P w0 f [.agg ⟨expl g9 0 n⟩] s5 (fun v10 s11 => pIndexAddr n (vget l3 1) (vget l3 2) (fun v12 => pVal true n v10 (pStore v12 (spread n v10) s11
      (fun s13 => pBin P T .add (vget l3 2) (.int .i64 1) (fun v14 => K4 .normal [vget l3 0, vget l3 1, v14] s13)))))))) (K4 (.exit 0) [vget l3 0, vget l3 1, vget l3 2] s5)))) [a0, v1, .int .i64 0] s2
    (fun x15 l16 s17 => match x15 with | .normal => R (vget l16 1) s17 | .ret => False | .exit i18 => (match Nat.beq i18 0 with | true => R (vget l16 1) s17 | false => False))))

theorem toS_gen {T ety n bytes f : Nat} {z : List Value} (hz : z.length = n) {Rel : (Addr → Option Value) → List Value → α → Prop} {O : Vw → List Nat → List Value → α → Prop} (ok : OOk w0 n Rel O) (hmono : ∀ rd rd' es x, Le rd rd' → Rel rd es x → Rel rd' es x) {v : Value} {xs : List α}
    (hf : ∀ x, x ∈ xs → ∀ (s : Vw) (es : List Value) (R' : Value → Vw → Prop), Keeps σ s → Rel (Av.get w0 s) es x → (∀ es' F s', Keeps s s' → O s' F es' x → (∀ b, b ∈ F → s b = none) → R' (.agg ⟨es'⟩) s') → AC P w0 f [.agg ⟨es⟩] s R')
    (h : RSl n Rel (Av.get w0 σ) v xs) (hb : bytes * xs.length ≤ 140737488355328) {R : Value → Vw → Prop} (hR : ∀ v' F σ', Keeps σ σ' → OSl w0 n O σ' F v' xs → (∀ b, b ∈ F → σ b = none) → R v' σ') : VtoS P w0 T ety n bytes f z v σ R := by
  unfold VtoS
  have hl := h.le
  rw [h.len]
  refine pMake_s hb hl fun b e h1 h2 => ?_
  refine loop_rule (m := xs.length) (fun m l s => ∃ (j : Nat) (css : List (List Value)) (Fs : List (List Nat)), m + j = xs.length ∧ css.length = j ∧ Fs.length = j ∧ Keeps σ s ∧ s b = some ⟨e, css.flatten ++ (List.replicate m z).flatten, xs.length * n, (0, 0)⟩ ∧
    (∀ c, c ∈ css → c.length = n) ∧ (b :: Fs.flatten).Nodup ∧ (∀ i, i ∈ Fs.flatten → σ i = none ∧ s i ≠ none) ∧ (∀ (i : Nat) (c : List Value) (x : α) (f : List Nat), css[i]? = some c → xs[i]? = some x → Fs[i]? = some f → O s f c x) ∧ l = [v, .slice (some ⟨b, 0, none⟩) xs.length xs.length, .int .i64 (j : Nat)]) ?_
    ⟨0, [], [], by omega, rfl, rfl, Keeps.put h2, by simp [put_at], by simp, by simp, by simp, by simp, rfl⟩
  rintro m l s L ⟨j, css, Fs, hm, hc, hFs, hk, hrow, hcn, hnd, hdom, hO, rfl⟩ hL
  simp only [vget, List.getD_cons_zero, List.getD_cons_succ]
  rw [h.len, pBin_lt, pIf_d]
  refine ⟨fun hj => ?_, fun hj => ?_⟩
  · have hj' : j < xs.length := by omega
    have hx := List.getElem?_eq_getElem hj'
    refine RSl.at (h.mono hk.le fun es x => hmono _ _ _ _ hk.le) hx fun g hg => ?_
    refine hf _ (List.getElem_mem hj') s _ _ hk hg fun es' F s' hk' hO' hFn => ?_
    obtain ⟨m', rfl⟩ : ∃ m', m = m' + 1 := ⟨m - 1, by omega⟩
    have hlen := ok.len _ _ _ _ hO'
    have hsp : spread n (.agg ⟨es'⟩) = es' := by subst hlen; exact spread_agg es'
    have hrow' := hk' _ _ hrow
    have eV : ∀ A : Prop, pVal true n (.agg ⟨es'⟩) A = A := fun A => propext (pValN hlen (ok.one _ _ _ _ hO'))
    simp only [eV, hsp]
    refine own_store (r := ⟨e, css.flatten ++ (List.replicate (m' + 1) z).flatten, xs.length * n, (0, 0)⟩) (A := css.flatten) (old := z) (new := es') (C := (List.replicate m' z).flatten) hrow' (by simp [List.replicate_succ]) (by rw [flat_len css hcn, hc]) (by omega) hlen hj' ?_
    rw [pBin_add (by omega)]
    have hbF : b ∉ F := fun hbF => by rw [hFn b hbF] at hrow; cases hrow
    have hbFs : b ∉ Fs.flatten := (List.nodup_cons.1 hnd).1
    have hdisj : ∀ i, i ∈ Fs.flatten → i ∉ F := fun i hi hiF => (hdom i hi).2 (hFn i hiF)
    have hput : ∀ i, i ≠ b → (s'.put b { (⟨e, css.flatten ++ (List.replicate (m' + 1) z).flatten, xs.length * n, (0, 0)⟩ : Row) with cells := css.flatten ++ (es' ++ (List.replicate m' z).flatten) }) i = s' i := fun i hi => by simp [Vw.put, hi]
    refine hL _ _ m' rfl ⟨j + 1, css ++ [es'], Fs ++ [F], by omega, by simp [hc], by simp [hFs], (hk.trans hk').fill h2, ?_, ?_, ?_, ?_, ?_, rfl⟩
    · rw [put_at]; simp
    · intro c hc'
      rcases List.mem_append.1 hc' with h' | h'
      · exact hcn c h'
      · rw [List.mem_singleton.1 h']; exact hlen
    · have hFnd := ok.nodup _ _ _ _ hO'
      rw [List.flatten_append]
      simp only [List.flatten_cons, List.flatten_nil, List.append_nil]
      rw [List.nodup_cons]
      refine ⟨fun hm' => ?_, List.nodup_append.2 ⟨(List.nodup_cons.1 hnd).2, hFnd, fun a ha b' hb' e' => hdisj a ha (e' ▸ hb')⟩⟩
      rcases List.mem_append.1 hm' with h' | h'
      · exact hbFs h'
      · exact hbF h'
    · intro i hi
      rw [List.flatten_append] at hi
      simp only [List.flatten_cons, List.flatten_nil, List.append_nil] at hi
      rcases List.mem_append.1 hi with h' | h'
      · have hib : i ≠ b := fun e' => hbFs (e' ▸ h')
        refine ⟨(hdom i h').1, ?_⟩
        rw [hput i hib]
        cases hs : s i with
        | none => exact absurd hs (hdom i h').2
        | some r => rw [hk' i r hs]; simp
      · have hib : i ≠ b := fun e' => hbF (e' ▸ h')
        refine ⟨?_, by rw [hput i hib]; exact (ok.dom _ _ _ _ hO' i h').2⟩
        cases hs : σ i with
        | none => rfl
        | some r => have := hk i r hs; rw [hFn i h'] at this; cases this
    · intro i c x f' e1 e2 e3
      by_cases hi : i < j
      · rw [List.getElem?_append_left (by omega)] at e1 e3
        refine ok.frame _ _ _ _ _ (hO i c x f' e1 e2 e3) fun k hk2 => ?_
        have hkF : k ∈ Fs.flatten := List.mem_flatten.2 ⟨f', List.mem_of_getElem? e3, hk2⟩
        rw [hput k fun e' => hbFs (e' ▸ hkF)]
        cases hs : s k with
        | none => exact absurd hs (hdom k hkF).2
        | some r => exact hk' k r hs
      · have hij : i = j := by
          have := (List.getElem?_eq_some_iff.1 e1).1
          simp [hc] at this
          omega
        subst hij
        rw [List.getElem?_append_right (by omega)] at e1 e3
        simp [hc] at e1
        simp [hFs] at e3
        subst e1 e3
        rw [hx] at e2
        cases e2
        exact ok.frame _ _ _ _ _ hO' fun k hk2 => hput k fun e' => hbF (e' ▸ hk2)
  · have hj' : j = xs.length := by omega
    subst hj'
    have hm0 : m = 0 := by omega
    subst hm0
    refine hR _ (b :: Fs.flatten) s hk ⟨hl, hnd, .inr ⟨b, 0, xs.length, _, [], [], css, Fs, rfl, ⟨Nat.le_refl _, hl⟩, h1, hrow, by simp, rfl, hc, hFs, rfl, hO⟩⟩ fun i hi => ?_
    rcases List.mem_cons.1 hi with e' | e'
    · rw [e']; exact h2
    · exact (hdom i e').1
end
end Go.Av

/- What each function owes, reckoned out. MADE BY PROGRAM (emit.py). -/
set_option linter.unusedVariables false
namespace Go.Proofs.YtkbhjejalkbogaaGreat
open Go Go.Av

abbrev t_int : Nat := 3
abbrev t_bool : Nat := 4
abbrev t_string : Nat := 9
abbrev t_s_string : Nat := 23
abbrev t_impl_Tree : Nat := 26
abbrev t_impl_Mark : Nat := 31
abbrev t_s_laws_Tree : Nat := 41
abbrev t_laws_Tree : Nat := 43
abbrev t_s_laws_Mark : Nat := 44
abbrev t_p_impl_Tree : Nat := 73
abbrev t_spec_l12Look : Nat := 76
abbrev t_impl_Entry : Nat := 80
abbrev t_laws_Mark : Nat := 88
abbrev n_laws_FnExactTrailDiff : Nat := 4
abbrev n_impl_TrailDiff : Nat := 9
abbrev n_spec_TrailDiff : Nat := 10
abbrev n_laws_szTree : Nat := 15
abbrev n_laws_szMarkS : Nat := 16
abbrev n_laws_toTree : Nat := 17
abbrev n_laws_toMarkS : Nat := 18
abbrev n_laws_eqEntryS : Nat := 19
abbrev n_laws_eqTree : Nat := 20
abbrev n_laws_eqMarkS : Nat := 21
abbrev n_laws_markTree : Nat := 22
abbrev n_laws_markMarkS : Nat := 23
abbrev n_laws_markEntryS : Nat := 24
abbrev n_laws_heldEntryS : Nat := 25
abbrev n_impl_TrailOk : Nat := 28
abbrev n_spec_TrailOk : Nat := 29
abbrev n_impl_TreeOk : Nat := 42
abbrev n_impl_look : Nat := 43
abbrev n_spec_TreeOk : Nat := 44
abbrev n_p_spec_l12Look_at : Nat := 45
abbrev n_impl_markOk : Nat := 48
abbrev n_laws_szStringS : Nat := 52
abbrev n_laws_szTreeS : Nat := 53
abbrev n_laws_szMark : Nat := 54
abbrev n_laws_toStringS : Nat := 55
abbrev n_laws_toTreeS : Nat := 56
abbrev n_laws_toMark : Nat := 57
abbrev n_laws_eqEntry : Nat := 58
abbrev n_laws_eqStringS : Nat := 59
abbrev n_laws_eqTreeS : Nat := 60
abbrev n_laws_eqMark : Nat := 61
abbrev n_laws_markStringS : Nat := 62
abbrev n_laws_markTreeS : Nat := 63
abbrev n_laws_markText : Nat := 64
abbrev n_laws_heldStringS : Nat := 65
abbrev n_spec_l11MarkOk : Nat := 67
abbrev n_slices_Compare_string_string : Nat := 70
abbrev n_impl_under : Nat := 71
abbrev n_spec_l11Less : Nat := 72
abbrev n_spec_l2Within : Nat := 73
abbrev n_spec_l1At : Nat := 77
abbrev n_impl_both : Nat := 79
abbrev n_spec_l12Union : Nat := 81
abbrev n_impl_walk : Nat := 82
abbrev n_impl_Tree_sound : Nat := 93
abbrev n_impl_Tree_paths : Nat := 94
abbrev n_impl_fresh : Nat := 95
abbrev n_impl_gone : Nat := 96
abbrev n_impl_marked : Nat := 97
abbrev n_impl_changes : Nat := 98
abbrev n_impl_either : Nat := 99
abbrev n_impl_below : Nat := 100
abbrev n_impl_leads : Nat := 101
abbrev n_p_impl_Tree_kid : Nat := 102
abbrev n_spec_l1Parts : Nat := 103
abbrev n_spec_l1Count : Nat := 104
abbrev n_spec_l3New : Nat := 105
abbrev n_spec_l3Gone : Nat := 106
abbrev n_spec_l11Under : Nat := 107
abbrev n_spec_l3Walk : Nat := 108
abbrev n_spec_l11Marked : Nat := 109
abbrev n_spec_l3Part : Nat := 110
abbrev n_spec_l12Names : Nat := 111
abbrev n_spec_l3Path : Nat := 112
abbrev n_p_spec_l12Look_leads : Nat := 113
abbrev n_spec_l12Kid : Nat := 114
abbrev n_impl_namesOk : Nat := 115
abbrev n_impl_begins : Nat := 116
abbrev n_spec_l2PathOk : Nat := 120
abbrev n_cmp_Compare_string : Nat := 121
abbrev n_spec_l1In : Nat := 125
abbrev n_spec_l1Find : Nat := 126
abbrev n_impl_modeOk : Nat := 133
abbrev n_impl_nameOk : Nat := 134
abbrev n_impl_Tree_each : Nat := 135
abbrev n_impl_fresh_c1 : Nat := 136
abbrev n_slices_ContainsFunc_impl_Mark_impl_Mark : Nat := 137
abbrev n_impl_marked_c1 : Nat := 138
abbrev n_slices_Equal_string_string : Nat := 139
abbrev n_slices_Sort_string_string : Nat := 140
abbrev n_slices_Compact_string_string : Nat := 141
abbrev n_slices_Index_string_string : Nat := 142
abbrev n_spec_l1Plain : Nat := 143
abbrev n_spec_l11Same : Nat := 144
abbrev n_impl_within : Nat := 145
abbrev n_spec_l1NameOk : Nat := 148
abbrev n_cmp_isNaN_string : Nat := 149
abbrev n_slices_IndexFunc_impl_Mark_impl_Mark : Nat := 156
theorem is_slices_Sort_string_string : ∃ fn, Tryz.prog.funcs[n_slices_Sort_string_string]? = some fn ∧ (fn.name == "runtime.NumGoroutine") = false ∧ fn.body.isNone = false := ⟨Tryz.f140, Tryz.func140, by kernel_rfl, by kernel_rfl⟩
theorem is_slices_Compact_string_string : ∃ fn, Tryz.prog.funcs[n_slices_Compact_string_string]? = some fn ∧ (fn.name == "runtime.NumGoroutine") = false ∧ fn.body.isNone = false := ⟨Tryz.f141, Tryz.func141, by kernel_rfl, by kernel_rfl⟩
end Go.Proofs.YtkbhjejalkbogaaGreat

/- What each function owes, reckoned out, part 1. MADE BY PROGRAM (emit.py). -/
set_option linter.unusedVariables false
namespace Go.Proofs.YtkbhjejalkbogaaGreat
open Go Go.Av

/-- laws.FnExactTrailDiff -/
def kp_laws_FnExactTrailDiff : Nat → Keep
  | 11 => ⟨[], [], [], .step 0 (.step 2 (.step 4 (.step 1 (.step 3 (.step 5 (.step 6 (.step 7 (.step 8 (.step 9 (.step 10 (.step 11 (.done)))))))))))), [(1, [0]), (3, [0, 1, 2]), (5, [0, 1, 2, 3, 4]), (6, [0, 1, 2, 3, 4, 5]), (7, [0, 1, 2, 3, 4, 5, 6]), (8, [0, 1, 2, 3, 4, 5, 6, 7]), (9, [0, 1, 2, 3, 4, 5, 6, 7]), (10, [0, 1, 2, 3, 4, 5, 6, 7, 8]), (11, [0, 1, 2, 3, 4, 5, 6, 7, 8, 9, 10])]⟩
  | 18 => ⟨[], [], [], .step 0 (.step 1 (.step 2 (.step 3 (.step 4 (.done))))), [(2, [1]), (3, [0, 1, 2]), (4, [0, 1, 2, 3])]⟩
  | 20 => ⟨[], [], [], .step 0 (.step 1 (.step 2 (.step 3 (.step 4 (.done))))), [(2, [1]), (3, [0, 1, 2]), (4, [0, 1, 2, 3])]⟩
  | 38 => ⟨[], [], [], .step 0 (.step 2 (.step 4 (.step 1 (.step 3 (.step 5 (.step 6 (.step 7 (.step 8 (.step 9 (.step 10 (.step 11 (.done)))))))))))), [(1, [0]), (3, [0, 1, 2]), (5, [0, 1, 2, 3, 4]), (6, [0, 1, 2, 3, 4, 5]), (7, [0, 1, 2, 3, 4, 5, 6]), (8, [0, 1, 2, 3, 4, 5, 6, 7]), (9, [0, 1, 2, 3, 4, 5, 6, 7]), (10, [0, 1, 2, 3, 4, 5, 6, 7, 8]), (11, [0, 1, 2, 3, 4, 5, 6, 7, 8, 9, 10])]⟩
  | _ => ⟨[], [], [], .done, []⟩
def esc_laws_FnExactTrailDiff : Nat → Bool
  | _ => false
def vc_laws_FnExactTrailDiff (w0 : World) (a0 a1 a2 : Value) (σ : Vw) (R : Value → Vw → Prop) : Prop :=
  pVal true 5 a0 (pVal true 5 a1 (AC Tryz.prog w0 n_laws_szTree ([Value.agg (⟨[cellOf a0 0, cellOf a0 1, cellOf a0 2, cellOf a0 3, cellOf a0 4]⟩), Value.int IntKind.i64 1048576]) σ (fun v0 s1 => pBin Tryz.prog 3 BinOp.lss v0 (Value.int IntKind.i64 0) (fun v2 => pIf v2 (R (Value.bool true) s1) (AC Tryz.prog w0 n_laws_szTree ([Value.agg (⟨[cellOf a1 0, cellOf a1 1, cellOf a1 2, cellOf a1 3, cellOf a1 4]⟩), v0]) s1 (fun v3 s4 => pBin Tryz.prog 3 BinOp.lss v3 (Value.int IntKind.i64 0) (fun v5 => pIf v5 (R (Value.bool true) s4) (AC Tryz.prog w0 n_laws_szMarkS [a2, v3] s4 (fun v6 s7 => pBin Tryz.prog 3 BinOp.lss v6 (Value.int IntKind.i64 0) (fun v8 => pIf v8 (R (Value.bool true) s7) (AC Tryz.prog w0 n_laws_toTree ([Value.agg (⟨[cellOf a0 0, cellOf a0 1, cellOf a0 2, cellOf a0 3, cellOf a0 4]⟩)]) s7 (fun v9 s10 => AC Tryz.prog w0 n_laws_toTree ([Value.agg (⟨[cellOf a1 0, cellOf a1 1, cellOf a1 2, cellOf a1 3, cellOf a1 4]⟩)]) s10 (fun v11 s12 => AC Tryz.prog w0 n_laws_toMarkS [a2] s12 (fun v13 s14 => AC Tryz.prog w0 n_spec_TrailDiff [v9, v11, v13] s14 (fun v15 s16 => pExtract v15 0 (fun v17 => pExtract v15 1 (fun v18 => AC Tryz.prog w0 n_laws_toTree ([Value.agg (⟨[cellOf a0 0, cellOf a0 1, cellOf a0 2, cellOf a0 3, cellOf a0 4]⟩)]) s16 (fun v19 s20 => pVal true 5 v19 (AC Tryz.prog w0 n_laws_toTree ([Value.agg (⟨[cellOf a1 0, cellOf a1 1, cellOf a1 2, cellOf a1 3, cellOf a1 4]⟩)]) s20 (fun v21 s22 => pVal true 5 v21 (AC Tryz.prog w0 n_laws_toMarkS [a2] s22 (fun v23 s24 => AC Tryz.prog w0 n_impl_TrailDiff ([Value.agg (⟨[cellOf v19 0, cellOf v19 1, cellOf v19 2, cellOf v19 3, cellOf v19 4]⟩), Value.agg (⟨[cellOf v21 0, cellOf v21 1, cellOf v21 2, cellOf v21 3, cellOf v21 4]⟩), v23]) s24 (fun v25 s26 => pExtract v25 0 (fun v27 => pExtract v25 1 (fun v28 => AC Tryz.prog w0 n_laws_eqEntryS [v27, v17] s26 (fun v29 s30 => pUn UnOp.not v29 (fun v31 => pIf v31 (R (Value.bool false) s30) (pBin Tryz.prog 3 BinOp.neq v28 v18 (fun v32 => pIf v32 (R (Value.bool false) s30) (AC Tryz.prog w0 n_laws_toTree ([Value.agg (⟨[cellOf a0 0, cellOf a0 1, cellOf a0 2, cellOf a0 3, cellOf a0 4]⟩)]) s30 (fun v33 s34 => AC Tryz.prog w0 n_laws_eqTree ([Value.agg (⟨[cellOf v19 0, cellOf v19 1, cellOf v19 2, cellOf v19 3, cellOf v19 4]⟩), v33]) s34 (fun v35 s36 => pUn UnOp.not v35 (fun v37 => pIf v37 (R (Value.bool false) s36) (AC Tryz.prog w0 n_laws_toTree ([Value.agg (⟨[cellOf a1 0, cellOf a1 1, cellOf a1 2, cellOf a1 3, cellOf a1 4]⟩)]) s36 (fun v38 s39 => AC Tryz.prog w0 n_laws_eqTree ([Value.agg (⟨[cellOf v21 0, cellOf v21 1, cellOf v21 2, cellOf v21 3, cellOf v21 4]⟩), v38]) s39 (fun v40 s41 => pUn UnOp.not v40 (fun v42 => pIf v42 (R (Value.bool false) s41) (AC Tryz.prog w0 n_laws_toMarkS [a2] s41 (fun v43 s44 => AC Tryz.prog w0 n_laws_eqMarkS [v23, v43] s44 (fun v45 s46 => pUn UnOp.not v45 (fun v47 => pIf v47 (R (Value.bool false) s46) (AC Tryz.prog w0 n_laws_markTree ([Value.agg (⟨[cellOf v19 0, cellOf v19 1, cellOf v19 2, cellOf v19 3, cellOf v19 4]⟩), Value.int IntKind.i64 1]) s46 (fun v48 s49 => AC Tryz.prog w0 n_laws_markTree ([Value.agg (⟨[cellOf v21 0, cellOf v21 1, cellOf v21 2, cellOf v21 3, cellOf v21 4]⟩), v48]) s49 (fun v50 s51 => AC Tryz.prog w0 n_laws_markMarkS [v23, v50] s51 (fun v52 s53 => pBin Tryz.prog 3 BinOp.lss v52 (Value.int IntKind.i64 0) (fun v54 => pIf v54 (R (Value.bool false) s53) (AC Tryz.prog w0 n_laws_eqEntryS [v27, v17] s53 (fun v55 s56 => pUn UnOp.not v55 (fun v57 => pIf v57 (R (Value.bool false) s56) (pBin Tryz.prog 3 BinOp.neq v28 v18 (fun v58 => pIf v58 (R (Value.bool false) s56) (AC Tryz.prog w0 n_laws_markEntryS [v27, Value.int IntKind.i64 1] s56 (fun v59 s60 => AC Tryz.prog w0 n_laws_heldEntryS [v27, Value.int IntKind.i64 1] s60 (fun v61 s62 => pBin Tryz.prog 3 BinOp.lss v61 (Value.int IntKind.i64 0) (fun v63 => pIf v63 (R (Value.bool false) s62) (pBin Tryz.prog 3 BinOp.neq v61 v59 (fun v64 => pIf v64 (R (Value.bool false) s62) (AC Tryz.prog w0 n_laws_toTree ([Value.agg (⟨[cellOf a0 0, cellOf a0 1, cellOf a0 2, cellOf a0 3, cellOf a0 4]⟩)]) s62 (fun v65 s66 => AC Tryz.prog w0 n_laws_toTree ([Value.agg (⟨[cellOf a1 0, cellOf a1 1, cellOf a1 2, cellOf a1 3, cellOf a1 4]⟩)]) s66 (fun v67 s68 => AC Tryz.prog w0 n_laws_toMarkS [a2] s68 (fun v69 s70 => AC Tryz.prog w0 n_impl_TrailDiff [v65, v67, v69] s70 (fun v71 s72 => pExtract v71 0 (fun v73 => pExtract v71 1 (fun v74 => AC Tryz.prog w0 n_laws_eqEntryS [v73, v17] s72 (fun v75 s76 => pUn UnOp.not v75 (fun v77 => pIf v77 (R (Value.bool false) s76) (pBin Tryz.prog 3 BinOp.neq v74 v18 (fun v78 => pIf v78 (R (Value.bool false) s76) (AC Tryz.prog w0 n_laws_heldEntryS [v27, Value.int IntKind.i64 1] s76 (fun v79 s80 => pBin Tryz.prog 3 BinOp.lss v79 (Value.int IntKind.i64 0) (fun v81 => pIf v81 (R (Value.bool false) s80) (pBin Tryz.prog 3 BinOp.neq v79 v59 (fun v82 => pIf v82 (R (Value.bool false) s80) (R (Value.bool true) s80))))))))))))))))))))))))))))))))))))))))))))))))))))))))))))))))))))))))))
theorem vc_laws_FnExactTrailDiff_eq (w0 : World) (a0 a1 a2 : Value) (σ : Vw) (R : Value → Vw → Prop) : vc_laws_FnExactTrailDiff w0 a0 a1 a2 σ R = den Tryz.prog w0 kp_laws_FnExactTrailDiff esc_laws_FnExactTrailDiff (Tryz.f4.body.getD .skip) (entry Tryz.f4.ntmps [a0, a1, a2]) σ (retK Tryz.prog Tryz.f4.results.toList R) := by kernel_rfl
theorem ac_laws_FnExactTrailDiff {w0 : World} {a0 a1 a2 : Value} {σ : Vw} {R : Value → Vw → Prop} (h : vc_laws_FnExactTrailDiff w0 a0 a1 a2 σ R) : AC Tryz.prog w0 n_laws_FnExactTrailDiff [a0, a1, a2] σ R := by
  refine ac_rule (fn := Tryz.f4) (c := Tryz.f4.body.getD .skip) kp_laws_FnExactTrailDiff esc_laws_FnExactTrailDiff Tryz.func4 (by kernel_rfl) (by kernel_rfl) ?_
  rw [← vc_laws_FnExactTrailDiff_eq]
  exact h

/-- impl.TrailDiff -/
def kp_impl_TrailDiff : Nat → Keep
  | _ => ⟨[], [], [], .done, []⟩
def esc_impl_TrailDiff : Nat → Bool
  | 3 => true
  | 4 => true
  | 26 => true
  | _ => false
def vc_impl_TrailDiff (w0 : World) (a0 a1 a2 : Value) (σ : Vw) (R : Value → Vw → Prop) : Prop :=
  pVal true 5 a0 (pNew w0 26 [cellOf a0 0, cellOf a0 1, cellOf a0 2, cellOf a0 3, cellOf a0 4] σ (fun n0 s1 => pVal true 5 a1 (pNew w0 26 [cellOf a1 0, cellOf a1 1, cellOf a1 2, cellOf a1 3, cellOf a1 4] s1 (fun n2 s3 => pLoad w0 5 (Value.pointer (Option.some (Addr.mk n0 0 Option.none))) s3 (fun g4 => AC Tryz.prog w0 n_impl_TreeOk ([Value.agg (⟨[g4 0, g4 1, g4 2, g4 3, g4 4]⟩)]) s3 (fun v5 s6 => pUn UnOp.not v5 (fun v7 => pIf v7 (pNew w0 80 [] s6 (fun n8 s9 => R (Value.tuple (⟨[Value.slice (Option.some (Addr.mk n8 0 Option.none)) 0 0, Value.int IntKind.i64 0]⟩)) s9)) (pLoad w0 5 (Value.pointer (Option.some (Addr.mk n2 0 Option.none))) s6 (fun g10 => AC Tryz.prog w0 n_impl_TreeOk ([Value.agg (⟨[g10 0, g10 1, g10 2, g10 3, g10 4]⟩)]) s6 (fun v11 s12 => pUn UnOp.not v11 (fun v13 => pIf v13 (pNew w0 80 [] s12 (fun n14 s15 => R (Value.tuple (⟨[Value.slice (Option.some (Addr.mk n14 0 Option.none)) 0 0, Value.int IntKind.i64 0]⟩)) s15)) (AC Tryz.prog w0 n_impl_TrailOk [a2] s12 (fun v16 s17 => pUn UnOp.not v16 (fun v18 => pIf v18 (pNew w0 80 [] s17 (fun n19 s20 => R (Value.tuple (⟨[Value.slice (Option.some (Addr.mk n19 0 Option.none)) 0 0, Value.int IntKind.i64 0]⟩)) s20)) (pLen a2 (fun v21 => pBin Tryz.prog 3 BinOp.eql v21 (Value.int IntKind.i64 0) (fun v22 => pIf v22 (pNew w0 80 [] s17 (fun n23 s24 => R (Value.tuple (⟨[Value.slice (Option.some (Addr.mk n23 0 Option.none)) 0 0, Value.int IntKind.i64 0]⟩)) s24)) (AC Tryz.prog w0 n_impl_look [Value.slice Option.none 0 0, Value.pointer (Option.some (Addr.mk n0 0 Option.none)), Value.pointer (Option.some (Addr.mk n2 0 Option.none)), a2] s17 (fun v25 s26 => pExtract v25 0 (fun v27 => pExtract v25 1 (fun v28 => R (Value.tuple (⟨[v27, v28]⟩)) s26)))))))))))))))))))))
theorem vc_impl_TrailDiff_eq (w0 : World) (a0 a1 a2 : Value) (σ : Vw) (R : Value → Vw → Prop) : vc_impl_TrailDiff w0 a0 a1 a2 σ R = den Tryz.prog w0 kp_impl_TrailDiff esc_impl_TrailDiff (Tryz.f9.body.getD .skip) (entry Tryz.f9.ntmps [a0, a1, a2]) σ (retK Tryz.prog Tryz.f9.results.toList R) := by kernel_rfl
theorem ac_impl_TrailDiff {w0 : World} {a0 a1 a2 : Value} {σ : Vw} {R : Value → Vw → Prop} (h : vc_impl_TrailDiff w0 a0 a1 a2 σ R) : AC Tryz.prog w0 n_impl_TrailDiff [a0, a1, a2] σ R := by
  refine ac_rule (fn := Tryz.f9) (c := Tryz.f9.body.getD .skip) kp_impl_TrailDiff esc_impl_TrailDiff Tryz.func9 (by kernel_rfl) (by kernel_rfl) ?_
  rw [← vc_impl_TrailDiff_eq]
  exact h

/-- spec.TrailDiff -/
def kp_spec_TrailDiff : Nat → Keep
  | 6 => ⟨[], [], [], .step 0 (.step 1 (.step 2 (.step 3 (.step 4 (.step 5 (.step 6 (.step 7 (.step 8 (.step 9 (.done)))))))))), [(1, [0]), (2, [0, 1]), (3, [0, 1, 2]), (5, [4]), (6, [4, 5]), (7, [4, 5, 6]), (8, [0, 1, 2, 3]), (9, [0, 1, 2, 3, 4, 5, 6, 7, 8])]⟩
  | _ => ⟨[], [], [], .done, []⟩
def esc_spec_TrailDiff : Nat → Bool
  | 22 => true
  | 24 => true
  | 26 => true
  | 31 => true
  | _ => false
def vc_spec_TrailDiff (w0 : World) (a0 a1 a2 : Value) (σ : Vw) (R : Value → Vw → Prop) : Prop :=
  pVal true 5 a0 (pVal true 5 a1 (AC Tryz.prog w0 n_spec_TreeOk ([Value.agg (⟨[cellOf a0 0, cellOf a0 1, cellOf a0 2, cellOf a0 3, cellOf a0 4]⟩)]) σ (fun v0 s1 => pUn UnOp.not v0 (fun v2 => pIf v2 (pNew w0 80 [] s1 (fun n3 s4 => R (Value.tuple (⟨[Value.slice (Option.some (Addr.mk n3 0 Option.none)) 0 0, Value.int IntKind.i64 0]⟩)) s4)) (AC Tryz.prog w0 n_spec_TreeOk ([Value.agg (⟨[cellOf a1 0, cellOf a1 1, cellOf a1 2, cellOf a1 3, cellOf a1 4]⟩)]) s1 (fun v5 s6 => pUn UnOp.not v5 (fun v7 => pIf v7 (pNew w0 80 [] s6 (fun n8 s9 => R (Value.tuple (⟨[Value.slice (Option.some (Addr.mk n8 0 Option.none)) 0 0, Value.int IntKind.i64 0]⟩)) s9)) (AC Tryz.prog w0 n_spec_TrailOk [a2] s6 (fun v10 s11 => pUn UnOp.not v10 (fun v12 => pIf v12 (pNew w0 80 [] s11 (fun n13 s14 => R (Value.tuple (⟨[Value.slice (Option.some (Addr.mk n13 0 Option.none)) 0 0, Value.int IntKind.i64 0]⟩)) s14)) (pNew w0 80 [] s11 (fun n15 s16 => pVal false 1 a2 (pVal false 1 (Value.slice (Option.some (Addr.mk n15 0 Option.none)) 0 0) (pVal true 3 (Value.agg (⟨[a2, Value.slice (Option.some (Addr.mk n15 0 Option.none)) 0 0, Value.int IntKind.i64 0]⟩)) (pNew w0 76 [a2, Value.slice (Option.some (Addr.mk n15 0 Option.none)) 0 0, Value.int IntKind.i64 0] s16 (fun n17 s18 => pLen a2 (fun v19 => pBin Tryz.prog 3 BinOp.gtr v19 (Value.int IntKind.i64 0) (fun v20 => pIf v20 (pNew w0 9 [] s18 (fun n21 s22 => AC Tryz.prog w0 n_p_spec_l12Look_at ([Value.pointer (Option.some (Addr.mk n17 0 Option.none)), Value.slice (Option.some (Addr.mk n21 0 Option.none)) 0 0, Value.agg (⟨[cellOf a0 0, cellOf a0 1, cellOf a0 2, cellOf a0 3, cellOf a0 4]⟩), Value.bool true, Value.agg (⟨[cellOf a1 0, cellOf a1 1, cellOf a1 2, cellOf a1 3, cellOf a1 4]⟩), Value.bool true]) s22 (fun v23 s24 => pNil (Value.pointer (Option.some (Addr.mk n17 0 Option.none))) (pField 1 (Value.pointer (Option.some (Addr.mk n17 0 Option.none))) (fun v25 => pLoad w0 1 v25 s24 (fun g26 => pNil (Value.pointer (Option.some (Addr.mk n17 0 Option.none))) (pField 2 (Value.pointer (Option.some (Addr.mk n17 0 Option.none))) (fun v27 => pLoad w0 1 v27 s24 (fun g28 => R (Value.tuple (⟨[g26 0, g28 0]⟩)) s24))))))))) (pNil (Value.pointer (Option.some (Addr.mk n17 0 Option.none))) (pField 1 (Value.pointer (Option.some (Addr.mk n17 0 Option.none))) (fun v29 => pLoad w0 1 v29 s18 (fun g30 => pNil (Value.pointer (Option.some (Addr.mk n17 0 Option.none))) (pField 2 (Value.pointer (Option.some (Addr.mk n17 0 Option.none))) (fun v31 => pLoad w0 1 v31 s18 (fun g32 => R (Value.tuple (⟨[g30 0, g32 0]⟩)) s18)))))))))))))))))))))))))
theorem vc_spec_TrailDiff_eq (w0 : World) (a0 a1 a2 : Value) (σ : Vw) (R : Value → Vw → Prop) : vc_spec_TrailDiff w0 a0 a1 a2 σ R = den Tryz.prog w0 kp_spec_TrailDiff esc_spec_TrailDiff (Tryz.f10.body.getD .skip) (entry Tryz.f10.ntmps [a0, a1, a2]) σ (retK Tryz.prog Tryz.f10.results.toList R) := by kernel_rfl
theorem ac_spec_TrailDiff {w0 : World} {a0 a1 a2 : Value} {σ : Vw} {R : Value → Vw → Prop} (h : vc_spec_TrailDiff w0 a0 a1 a2 σ R) : AC Tryz.prog w0 n_spec_TrailDiff [a0, a1, a2] σ R := by
  refine ac_rule (fn := Tryz.f10) (c := Tryz.f10.body.getD .skip) kp_spec_TrailDiff esc_spec_TrailDiff Tryz.func10 (by kernel_rfl) (by kernel_rfl) ?_
  rw [← vc_spec_TrailDiff_eq]
  exact h

/-- laws.szTree -/
def kp_laws_szTree : Nat → Keep
  | _ => ⟨[], [], [], .done, []⟩
def esc_laws_szTree : Nat → Bool
  | _ => false
def vc_laws_szTree (w0 : World) (a0 a1 : Value) (σ : Vw) (R : Value → Vw → Prop) : Prop :=
  pVal true 5 a0 (pLenS (cellOf a0 2) (fun v0 => pBin Tryz.prog 3 BinOp.sub a1 v0 (fun v1 => pBin Tryz.prog 3 BinOp.lss v1 (Value.int IntKind.i64 0) (fun v2 => pIf v2 (R (Value.int IntKind.i64 (-1)) σ) (AC Tryz.prog w0 n_laws_szStringS [cellOf a0 3, v1] σ (fun v3 s4 => pBin Tryz.prog 3 BinOp.lss v3 (Value.int IntKind.i64 0) (fun v5 => pIf v5 (R (Value.int IntKind.i64 (-1)) s4) (AC Tryz.prog w0 n_laws_szTreeS [cellOf a0 4, v3] s4 (fun v6 s7 => pBin Tryz.prog 3 BinOp.lss v6 (Value.int IntKind.i64 0) (fun v8 => pIf v8 (R (Value.int IntKind.i64 (-1)) s7) (R v6 s7)))))))))))
theorem vc_laws_szTree_eq (w0 : World) (a0 a1 : Value) (σ : Vw) (R : Value → Vw → Prop) : vc_laws_szTree w0 a0 a1 σ R = den Tryz.prog w0 kp_laws_szTree esc_laws_szTree (Tryz.f15.body.getD .skip) (entry Tryz.f15.ntmps [a0, a1]) σ (retK Tryz.prog Tryz.f15.results.toList R) := by kernel_rfl
theorem ac_laws_szTree {w0 : World} {a0 a1 : Value} {σ : Vw} {R : Value → Vw → Prop} (h : vc_laws_szTree w0 a0 a1 σ R) : AC Tryz.prog w0 n_laws_szTree [a0, a1] σ R := by
  refine ac_rule (fn := Tryz.f15) (c := Tryz.f15.body.getD .skip) kp_laws_szTree esc_laws_szTree Tryz.func15 (by kernel_rfl) (by kernel_rfl) ?_
  rw [← vc_laws_szTree_eq]
  exact h

/-- laws.szMarkS -/
def kp_laws_szMarkS : Nat → Keep
  | 5 => ⟨[0, 1, 4, 5], [], [], .done, []⟩
  | _ => ⟨[], [], [], .done, []⟩
def esc_laws_szMarkS : Nat → Bool
  | _ => false
def vc_laws_szMarkS (w0 : World) (a0 a1 : Value) (σ : Vw) (R : Value → Vw → Prop) : Prop :=
  pLen a0 (fun v0 => pBin Tryz.prog 3 BinOp.sub a1 v0 (fun v1 => pBin Tryz.prog 3 BinOp.lss v1 (Value.int IntKind.i64 0) (fun v2 => pIf v2 (R (Value.int IntKind.i64 (-1)) σ) (pLoop (fun l3 K4 s5 => pLen (vget l3 0) (fun v6 => pBin Tryz.prog 3 BinOp.lss (vget l3 3) v6 (fun v7 => pIf v7 (pIndexAddr 2 (vget l3 0) (vget l3 3) (fun v8 => pLoad w0 2 v8 s5 (fun g9 => AC Tryz.prog w0 n_laws_szMark ([Value.agg (⟨[g9 0, g9 1]⟩), vget l3 1]) s5 (fun v10 s11 => pBin Tryz.prog 3 BinOp.lss v10 (Value.int IntKind.i64 0) (fun v12 => pIf v12 (K4 AX.ret [vget l3 0, v10, Value.int IntKind.i64 (-1), vget l3 3] s11) (pBin Tryz.prog 3 BinOp.add (vget l3 3) (Value.int IntKind.i64 1) (fun v13 => K4 AX.normal [vget l3 0, v10, vget l3 2, v13] s11))))))) (K4 (AX.exit 0) [vget l3 0, vget l3 1, vget l3 2, vget l3 3] s5)))) [a0, v1, Value.int IntKind.i64 0, Value.int IntKind.i64 0] σ (fun x14 l15 s16 => match x14 with | .normal => R (vget l15 1) s16 | .ret => R (vget l15 2) s16 | .exit i17 => (match Nat.beq i17 0 with | true => R (vget l15 1) s16 | false => False))))))
theorem vc_laws_szMarkS_eq (w0 : World) (a0 a1 : Value) (σ : Vw) (R : Value → Vw → Prop) : vc_laws_szMarkS w0 a0 a1 σ R = den Tryz.prog w0 kp_laws_szMarkS esc_laws_szMarkS (Tryz.f16.body.getD .skip) (entry Tryz.f16.ntmps [a0, a1]) σ (retK Tryz.prog Tryz.f16.results.toList R) := by kernel_rfl
theorem ac_laws_szMarkS {w0 : World} {a0 a1 : Value} {σ : Vw} {R : Value → Vw → Prop} (h : vc_laws_szMarkS w0 a0 a1 σ R) : AC Tryz.prog w0 n_laws_szMarkS [a0, a1] σ R := by
  refine ac_rule (fn := Tryz.f16) (c := Tryz.f16.body.getD .skip) kp_laws_szMarkS esc_laws_szMarkS Tryz.func16 (by kernel_rfl) (by kernel_rfl) ?_
  rw [← vc_laws_szMarkS_eq]
  exact h

/-- laws.toTree -/
def kp_laws_toTree : Nat → Keep
  | _ => ⟨[], [], [], .done, []⟩
def esc_laws_toTree : Nat → Bool
  | _ => false
def vc_laws_toTree (w0 : World) (a0 : Value) (σ : Vw) (R : Value → Vw → Prop) : Prop :=
  pVal true 5 a0 (pVal false 1 (cellOf a0 0) (pVal false 1 (cellOf a0 1) (pVal false 1 (cellOf a0 2) (AC Tryz.prog w0 n_laws_toStringS [cellOf a0 3] σ (fun v0 s1 => pVal false 1 v0 (AC Tryz.prog w0 n_laws_toTreeS [cellOf a0 4] s1 (fun v2 s3 => pVal false 1 v2 (pVal true 5 (Value.agg (⟨[cellOf a0 0, cellOf a0 1, cellOf a0 2, v0, v2]⟩)) (R (Value.agg (⟨[cellOf a0 0, cellOf a0 1, cellOf a0 2, v0, v2]⟩)) s3)))))))))
theorem vc_laws_toTree_eq (w0 : World) (a0 : Value) (σ : Vw) (R : Value → Vw → Prop) : vc_laws_toTree w0 a0 σ R = den Tryz.prog w0 kp_laws_toTree esc_laws_toTree (Tryz.f17.body.getD .skip) (entry Tryz.f17.ntmps [a0]) σ (retK Tryz.prog Tryz.f17.results.toList R) := by kernel_rfl
theorem ac_laws_toTree {w0 : World} {a0 : Value} {σ : Vw} {R : Value → Vw → Prop} (h : vc_laws_toTree w0 a0 σ R) : AC Tryz.prog w0 n_laws_toTree [a0] σ R := by
  refine ac_rule (fn := Tryz.f17) (c := Tryz.f17.body.getD .skip) kp_laws_toTree esc_laws_toTree Tryz.func17 (by kernel_rfl) (by kernel_rfl) ?_
  rw [← vc_laws_toTree_eq]
  exact h

/-- laws.toMarkS -/
def kp_laws_toMarkS : Nat → Keep
  | 3 => ⟨[0, 3, 4], [], [], .done, []⟩
  | _ => ⟨[], [], [], .done, []⟩
def esc_laws_toMarkS : Nat → Bool
  | _ => false
def vc_laws_toMarkS (w0 : World) (a0 : Value) (σ : Vw) (R : Value → Vw → Prop) : Prop :=
  pLen a0 (fun v0 => pMake w0 31 2 32 [Value.slice Option.none 0 0, Value.bool false] v0 v0 σ (fun v1 s2 => pLoop (fun l3 K4 s5 => pLen (vget l3 0) (fun v6 => pBin Tryz.prog 3 BinOp.lss (vget l3 2) v6 (fun v7 => pIf v7 (pIndexAddr 2 (vget l3 0) (vget l3 2) (fun v8 => pLoad w0 2 v8 s5 (fun g9 => AC Tryz.prog w0 n_laws_toMark ([Value.agg (⟨[g9 0, g9 1]⟩)]) s5 (fun v10 s11 => pIndexAddr 2 (vget l3 1) (vget l3 2) (fun v12 => pVal true 2 v10 (pStore v12 [cellOf v10 0, cellOf v10 1] s11 (fun s13 => pBin Tryz.prog 3 BinOp.add (vget l3 2) (Value.int IntKind.i64 1) (fun v14 => K4 AX.normal [vget l3 0, vget l3 1, v14] s13)))))))) (K4 (AX.exit 0) [vget l3 0, vget l3 1, vget l3 2] s5)))) [a0, v1, Value.int IntKind.i64 0] s2 (fun x15 l16 s17 => match x15 with | .normal => R (vget l16 1) s17 | .ret => False | .exit i18 => (match Nat.beq i18 0 with | true => R (vget l16 1) s17 | false => False))))
theorem vc_laws_toMarkS_eq (w0 : World) (a0 : Value) (σ : Vw) (R : Value → Vw → Prop) : vc_laws_toMarkS w0 a0 σ R = den Tryz.prog w0 kp_laws_toMarkS esc_laws_toMarkS (Tryz.f18.body.getD .skip) (entry Tryz.f18.ntmps [a0]) σ (retK Tryz.prog Tryz.f18.results.toList R) := by kernel_rfl
theorem ac_laws_toMarkS {w0 : World} {a0 : Value} {σ : Vw} {R : Value → Vw → Prop} (h : vc_laws_toMarkS w0 a0 σ R) : AC Tryz.prog w0 n_laws_toMarkS [a0] σ R := by
  refine ac_rule (fn := Tryz.f18) (c := Tryz.f18.body.getD .skip) kp_laws_toMarkS esc_laws_toMarkS Tryz.func18 (by kernel_rfl) (by kernel_rfl) ?_
  rw [← vc_laws_toMarkS_eq]
  exact h

/-- laws.eqEntryS -/
def kp_laws_eqEntryS : Nat → Keep
  | 4 => ⟨[0, 1, 4, 5], [], [], .done, []⟩
  | 6 => ⟨[], [], [], .step 0 (.step 1 (.step 2 (.step 3 (.step 4 (.step 5 (.step 6 (.step 7 (.step 8 (.step 9 (.done)))))))))), [(2, [0, 1]), (3, [0, 1, 2]), (6, [4, 5]), (7, [4, 5, 6]), (8, [0, 1, 2, 3, 4, 5, 6, 7]), (9, [0, 1, 2, 3, 4, 5, 6, 7, 8])]⟩
  | _ => ⟨[], [], [], .done, []⟩
def esc_laws_eqEntryS : Nat → Bool
  | _ => false
def vc_laws_eqEntryS (w0 : World) (a0 a1 : Value) (σ : Vw) (R : Value → Vw → Prop) : Prop :=
  pLen a0 (fun v0 => pLen a1 (fun v1 => pBin Tryz.prog 3 BinOp.neq v0 v1 (fun v2 => pIf v2 (R (Value.bool false) σ) (pLoop (fun l3 K4 s5 => pLen (vget l3 0) (fun v6 => pBin Tryz.prog 3 BinOp.lss (vget l3 3) v6 (fun v7 => pIf v7 (pIndexAddr 5 (vget l3 0) (vget l3 3) (fun v8 => pLoad w0 5 v8 s5 (fun g9 => pIndexAddr 5 (vget l3 1) (vget l3 3) (fun v10 => pLoad w0 5 v10 s5 (fun g11 => AC Tryz.prog w0 n_laws_eqEntry ([Value.agg (⟨[g9 0, g9 1, g9 2, g9 3, g9 4]⟩), Value.agg (⟨[g11 0, g11 1, g11 2, g11 3, g11 4]⟩)]) s5 (fun v12 s13 => pUn UnOp.not v12 (fun v14 => pIf v14 (K4 AX.ret [vget l3 0, vget l3 1, Value.bool false, vget l3 3] s13) (pBin Tryz.prog 3 BinOp.add (vget l3 3) (Value.int IntKind.i64 1) (fun v15 => K4 AX.normal [vget l3 0, vget l3 1, vget l3 2, v15] s13))))))))) (K4 (AX.exit 0) [vget l3 0, vget l3 1, vget l3 2, vget l3 3] s5)))) [a0, a1, Value.bool false, Value.int IntKind.i64 0] σ (fun x16 l17 s18 => match x16 with | .normal => R (Value.bool true) s18 | .ret => R (vget l17 2) s18 | .exit i19 => (match Nat.beq i19 0 with | true => R (Value.bool true) s18 | false => False))))))
theorem vc_laws_eqEntryS_eq (w0 : World) (a0 a1 : Value) (σ : Vw) (R : Value → Vw → Prop) : vc_laws_eqEntryS w0 a0 a1 σ R = den Tryz.prog w0 kp_laws_eqEntryS esc_laws_eqEntryS (Tryz.f19.body.getD .skip) (entry Tryz.f19.ntmps [a0, a1]) σ (retK Tryz.prog Tryz.f19.results.toList R) := by kernel_rfl
theorem ac_laws_eqEntryS {w0 : World} {a0 a1 : Value} {σ : Vw} {R : Value → Vw → Prop} (h : vc_laws_eqEntryS w0 a0 a1 σ R) : AC Tryz.prog w0 n_laws_eqEntryS [a0, a1] σ R := by
  refine ac_rule (fn := Tryz.f19) (c := Tryz.f19.body.getD .skip) kp_laws_eqEntryS esc_laws_eqEntryS Tryz.func19 (by kernel_rfl) (by kernel_rfl) ?_
  rw [← vc_laws_eqEntryS_eq]
  exact h

/-- laws.eqTree -/
def kp_laws_eqTree : Nat → Keep
  | _ => ⟨[], [], [], .done, []⟩
def esc_laws_eqTree : Nat → Bool
  | _ => false
def vc_laws_eqTree (w0 : World) (a0 a1 : Value) (σ : Vw) (R : Value → Vw → Prop) : Prop :=
  pVal true 5 a0 (pVal true 5 a1 (pBin Tryz.prog 4 BinOp.neq (cellOf a0 0) (cellOf a1 0) (fun v0 => pIf v0 (R (Value.bool false) σ) (pBin Tryz.prog 3 BinOp.neq (cellOf a0 1) (cellOf a1 1) (fun v1 => pIf v1 (R (Value.bool false) σ) (pBin Tryz.prog 9 BinOp.neq (cellOf a0 2) (cellOf a1 2) (fun v2 => pIf v2 (R (Value.bool false) σ) (AC Tryz.prog w0 n_laws_eqStringS [cellOf a0 3, cellOf a1 3] σ (fun v3 s4 => pUn UnOp.not v3 (fun v5 => pIf v5 (R (Value.bool false) s4) (AC Tryz.prog w0 n_laws_eqTreeS [cellOf a0 4, cellOf a1 4] s4 (fun v6 s7 => pUn UnOp.not v6 (fun v8 => pIf v8 (R (Value.bool false) s7) (R (Value.bool true) s7))))))))))))))
theorem vc_laws_eqTree_eq (w0 : World) (a0 a1 : Value) (σ : Vw) (R : Value → Vw → Prop) : vc_laws_eqTree w0 a0 a1 σ R = den Tryz.prog w0 kp_laws_eqTree esc_laws_eqTree (Tryz.f20.body.getD .skip) (entry Tryz.f20.ntmps [a0, a1]) σ (retK Tryz.prog Tryz.f20.results.toList R) := by kernel_rfl
theorem ac_laws_eqTree {w0 : World} {a0 a1 : Value} {σ : Vw} {R : Value → Vw → Prop} (h : vc_laws_eqTree w0 a0 a1 σ R) : AC Tryz.prog w0 n_laws_eqTree [a0, a1] σ R := by
  refine ac_rule (fn := Tryz.f20) (c := Tryz.f20.body.getD .skip) kp_laws_eqTree esc_laws_eqTree Tryz.func20 (by kernel_rfl) (by kernel_rfl) ?_
  rw [← vc_laws_eqTree_eq]
  exact h

/-- laws.eqMarkS -/
def kp_laws_eqMarkS : Nat → Keep
  | 4 => ⟨[0, 1, 4, 5], [], [], .done, []⟩
  | 6 => ⟨[], [], [], .step 0 (.step 1 (.step 2 (.step 3 (.step 4 (.step 5 (.step 6 (.step 7 (.step 8 (.step 9 (.done)))))))))), [(2, [0, 1]), (3, [0, 1, 2]), (6, [4, 5]), (7, [4, 5, 6]), (8, [0, 1, 2, 3, 4, 5, 6, 7]), (9, [0, 1, 2, 3, 4, 5, 6, 7, 8])]⟩
  | _ => ⟨[], [], [], .done, []⟩
def esc_laws_eqMarkS : Nat → Bool
  | _ => false
def vc_laws_eqMarkS (w0 : World) (a0 a1 : Value) (σ : Vw) (R : Value → Vw → Prop) : Prop :=
  pLen a0 (fun v0 => pLen a1 (fun v1 => pBin Tryz.prog 3 BinOp.neq v0 v1 (fun v2 => pIf v2 (R (Value.bool false) σ) (pLoop (fun l3 K4 s5 => pLen (vget l3 0) (fun v6 => pBin Tryz.prog 3 BinOp.lss (vget l3 3) v6 (fun v7 => pIf v7 (pIndexAddr 2 (vget l3 0) (vget l3 3) (fun v8 => pLoad w0 2 v8 s5 (fun g9 => pIndexAddr 2 (vget l3 1) (vget l3 3) (fun v10 => pLoad w0 2 v10 s5 (fun g11 => AC Tryz.prog w0 n_laws_eqMark ([Value.agg (⟨[g9 0, g9 1]⟩), Value.agg (⟨[g11 0, g11 1]⟩)]) s5 (fun v12 s13 => pUn UnOp.not v12 (fun v14 => pIf v14 (K4 AX.ret [vget l3 0, vget l3 1, Value.bool false, vget l3 3] s13) (pBin Tryz.prog 3 BinOp.add (vget l3 3) (Value.int IntKind.i64 1) (fun v15 => K4 AX.normal [vget l3 0, vget l3 1, vget l3 2, v15] s13))))))))) (K4 (AX.exit 0) [vget l3 0, vget l3 1, vget l3 2, vget l3 3] s5)))) [a0, a1, Value.bool false, Value.int IntKind.i64 0] σ (fun x16 l17 s18 => match x16 with | .normal => R (Value.bool true) s18 | .ret => R (vget l17 2) s18 | .exit i19 => (match Nat.beq i19 0 with | true => R (Value.bool true) s18 | false => False))))))
theorem vc_laws_eqMarkS_eq (w0 : World) (a0 a1 : Value) (σ : Vw) (R : Value → Vw → Prop) : vc_laws_eqMarkS w0 a0 a1 σ R = den Tryz.prog w0 kp_laws_eqMarkS esc_laws_eqMarkS (Tryz.f21.body.getD .skip) (entry Tryz.f21.ntmps [a0, a1]) σ (retK Tryz.prog Tryz.f21.results.toList R) := by kernel_rfl
theorem ac_laws_eqMarkS {w0 : World} {a0 a1 : Value} {σ : Vw} {R : Value → Vw → Prop} (h : vc_laws_eqMarkS w0 a0 a1 σ R) : AC Tryz.prog w0 n_laws_eqMarkS [a0, a1] σ R := by
  refine ac_rule (fn := Tryz.f21) (c := Tryz.f21.body.getD .skip) kp_laws_eqMarkS esc_laws_eqMarkS Tryz.func21 (by kernel_rfl) (by kernel_rfl) ?_
  rw [← vc_laws_eqMarkS_eq]
  exact h

/-- laws.markTree -/
def kp_laws_markTree : Nat → Keep
  | _ => ⟨[], [], [], .done, []⟩
def esc_laws_markTree : Nat → Bool
  | _ => false
def vc_laws_markTree (w0 : World) (a0 a1 : Value) (σ : Vw) (R : Value → Vw → Prop) : Prop :=
  pVal true 5 a0 (AC Tryz.prog w0 n_laws_markStringS [cellOf a0 3, a1] σ (fun v0 s1 => AC Tryz.prog w0 n_laws_markTreeS [cellOf a0 4, v0] s1 (fun v2 s3 => R v2 s3)))
theorem vc_laws_markTree_eq (w0 : World) (a0 a1 : Value) (σ : Vw) (R : Value → Vw → Prop) : vc_laws_markTree w0 a0 a1 σ R = den Tryz.prog w0 kp_laws_markTree esc_laws_markTree (Tryz.f22.body.getD .skip) (entry Tryz.f22.ntmps [a0, a1]) σ (retK Tryz.prog Tryz.f22.results.toList R) := by kernel_rfl
theorem ac_laws_markTree {w0 : World} {a0 a1 : Value} {σ : Vw} {R : Value → Vw → Prop} (h : vc_laws_markTree w0 a0 a1 σ R) : AC Tryz.prog w0 n_laws_markTree [a0, a1] σ R := by
  refine ac_rule (fn := Tryz.f22) (c := Tryz.f22.body.getD .skip) kp_laws_markTree esc_laws_markTree Tryz.func22 (by kernel_rfl) (by kernel_rfl) ?_
  rw [← vc_laws_markTree_eq]
  exact h

/-- laws.markMarkS -/
def kp_laws_markMarkS : Nat → Keep
  | 2 => ⟨[0, 1, 5], [], [], .done, []⟩
  | _ => ⟨[], [], [], .done, []⟩
def esc_laws_markMarkS : Nat → Bool
  | _ => false
def vc_laws_markMarkS (w0 : World) (a0 a1 : Value) (σ : Vw) (R : Value → Vw → Prop) : Prop :=
  pLoop (fun l0 K1 s2 => pLen (vget l0 0) (fun v3 => pBin Tryz.prog 3 BinOp.lss (vget l0 2) v3 (fun v4 => pIf v4 (pIndexAddr 2 (vget l0 0) (vget l0 2) (fun v5 => pField 0 v5 (fun v6 => pLoad w0 1 v6 s2 (fun g7 => AC Tryz.prog w0 n_laws_markStringS [g7 0, vget l0 1] s2 (fun v8 s9 => pBin Tryz.prog 3 BinOp.rem v8 (Value.int IntKind.i64 3) (fun v10 => pBin Tryz.prog 3 BinOp.eql v10 (Value.int IntKind.i64 0) (fun v11 => pIndexAddr 2 (vget l0 0) (vget l0 2) (fun v12 => pField 1 v12 (fun v13 => pVal false 1 v11 (pStore v13 [v11] s9 (fun s14 => pBin Tryz.prog 3 BinOp.add v8 (Value.int IntKind.i64 1) (fun v15 => pBin Tryz.prog 3 BinOp.add (vget l0 2) (Value.int IntKind.i64 1) (fun v16 => K1 AX.normal [vget l0 0, v15, v16] s14))))))))))))) (K1 (AX.exit 0) [vget l0 0, vget l0 1, vget l0 2] s2)))) [a0, a1, Value.int IntKind.i64 0] σ (fun x17 l18 s19 => match x17 with | .normal => R (vget l18 1) s19 | .ret => False | .exit i20 => (match Nat.beq i20 0 with | true => R (vget l18 1) s19 | false => False))
theorem vc_laws_markMarkS_eq (w0 : World) (a0 a1 : Value) (σ : Vw) (R : Value → Vw → Prop) : vc_laws_markMarkS w0 a0 a1 σ R = den Tryz.prog w0 kp_laws_markMarkS esc_laws_markMarkS (Tryz.f23.body.getD .skip) (entry Tryz.f23.ntmps [a0, a1]) σ (retK Tryz.prog Tryz.f23.results.toList R) := by kernel_rfl
theorem ac_laws_markMarkS {w0 : World} {a0 a1 : Value} {σ : Vw} {R : Value → Vw → Prop} (h : vc_laws_markMarkS w0 a0 a1 σ R) : AC Tryz.prog w0 n_laws_markMarkS [a0, a1] σ R := by
  refine ac_rule (fn := Tryz.f23) (c := Tryz.f23.body.getD .skip) kp_laws_markMarkS esc_laws_markMarkS Tryz.func23 (by kernel_rfl) (by kernel_rfl) ?_
  rw [← vc_laws_markMarkS_eq]
  exact h

/-- laws.markEntryS -/
def kp_laws_markEntryS : Nat → Keep
  | 2 => ⟨[0, 1, 5], [], [], .done, []⟩
  | _ => ⟨[], [], [], .done, []⟩
def esc_laws_markEntryS : Nat → Bool
  | _ => false
def vc_laws_markEntryS (w0 : World) (a0 a1 : Value) (σ : Vw) (R : Value → Vw → Prop) : Prop :=
  pLoop (fun l0 K1 s2 => pLen (vget l0 0) (fun v3 => pBin Tryz.prog 3 BinOp.lss (vget l0 2) v3 (fun v4 => pIf v4 (pIndexAddr 5 (vget l0 0) (vget l0 2) (fun v5 => pField 0 v5 (fun v6 => pLoad w0 1 v6 s2 (fun g7 => AC Tryz.prog w0 n_laws_markStringS [g7 0, vget l0 1] s2 (fun v8 s9 => pIndexAddr 5 (vget l0 0) (vget l0 2) (fun v10 => pField 1 v10 (fun v11 => pVal false 1 v8 (pStore v11 [v8] s9 (fun s12 => pBin Tryz.prog 3 BinOp.add v8 (Value.int IntKind.i64 1) (fun v13 => pBin Tryz.prog 3 BinOp.rem v13 (Value.int IntKind.i64 3) (fun v14 => pBin Tryz.prog 3 BinOp.eql v14 (Value.int IntKind.i64 0) (fun v15 => pIndexAddr 5 (vget l0 0) (vget l0 2) (fun v16 => pField 2 v16 (fun v17 => pVal false 1 v15 (pStore v17 [v15] s12 (fun s18 => pBin Tryz.prog 3 BinOp.add v13 (Value.int IntKind.i64 1) (fun v19 => pIndexAddr 5 (vget l0 0) (vget l0 2) (fun v20 => pField 3 v20 (fun v21 => pVal false 1 v19 (pStore v21 [v19] s18 (fun s22 => pBin Tryz.prog 3 BinOp.add v19 (Value.int IntKind.i64 1) (fun v23 => AC Tryz.prog w0 n_laws_markText [v23] s22 (fun v24 s25 => pIndexAddr 5 (vget l0 0) (vget l0 2) (fun v26 => pField 4 v26 (fun v27 => pVal false 1 v24 (pStore v27 [v24] s25 (fun s28 => pBin Tryz.prog 3 BinOp.add v23 (Value.int IntKind.i64 1) (fun v29 => pBin Tryz.prog 3 BinOp.add (vget l0 2) (Value.int IntKind.i64 1) (fun v30 => K1 AX.normal [vget l0 0, v29, v30] s28))))))))))))))))))))))))))))) (K1 (AX.exit 0) [vget l0 0, vget l0 1, vget l0 2] s2)))) [a0, a1, Value.int IntKind.i64 0] σ (fun x31 l32 s33 => match x31 with | .normal => R (vget l32 1) s33 | .ret => False | .exit i34 => (match Nat.beq i34 0 with | true => R (vget l32 1) s33 | false => False))
theorem vc_laws_markEntryS_eq (w0 : World) (a0 a1 : Value) (σ : Vw) (R : Value → Vw → Prop) : vc_laws_markEntryS w0 a0 a1 σ R = den Tryz.prog w0 kp_laws_markEntryS esc_laws_markEntryS (Tryz.f24.body.getD .skip) (entry Tryz.f24.ntmps [a0, a1]) σ (retK Tryz.prog Tryz.f24.results.toList R) := by kernel_rfl
theorem ac_laws_markEntryS {w0 : World} {a0 a1 : Value} {σ : Vw} {R : Value → Vw → Prop} (h : vc_laws_markEntryS w0 a0 a1 σ R) : AC Tryz.prog w0 n_laws_markEntryS [a0, a1] σ R := by
  refine ac_rule (fn := Tryz.f24) (c := Tryz.f24.body.getD .skip) kp_laws_markEntryS esc_laws_markEntryS Tryz.func24 (by kernel_rfl) (by kernel_rfl) ?_
  rw [← vc_laws_markEntryS_eq]
  exact h

/-- laws.heldEntryS -/
def kp_laws_heldEntryS : Nat → Keep
  | 2 => ⟨[0, 1, 4, 5], [], [], .done, []⟩
  | 16 => ⟨[], [], [], .step 0 (.step 1 (.step 2 (.step 3 (.step 4 (.step 5 (.step 6 (.step 7 (.done)))))))), [(2, [0, 1]), (3, [0, 1, 2]), (4, [0, 1, 2, 3]), (6, [5]), (7, [0, 1, 2, 3, 4, 5, 6])]⟩
  | _ => ⟨[], [], [], .done, []⟩
def esc_laws_heldEntryS : Nat → Bool
  | _ => false
def vc_laws_heldEntryS (w0 : World) (a0 a1 : Value) (σ : Vw) (R : Value → Vw → Prop) : Prop :=
  pLoop (fun l0 K1 s2 => pLen (vget l0 0) (fun v3 => pBin Tryz.prog 3 BinOp.lss (vget l0 3) v3 (fun v4 => pIf v4 (pIndexAddr 5 (vget l0 0) (vget l0 3) (fun v5 => pField 0 v5 (fun v6 => pLoad w0 1 v6 s2 (fun g7 => AC Tryz.prog w0 n_laws_heldStringS [g7 0, vget l0 1] s2 (fun v8 s9 => pBin Tryz.prog 3 BinOp.lss v8 (Value.int IntKind.i64 0) (fun v10 => pIf v10 (K1 AX.ret [vget l0 0, v8, Value.int IntKind.i64 (-1), vget l0 3] s9) (pIndexAddr 5 (vget l0 0) (vget l0 3) (fun v11 => pField 1 v11 (fun v12 => pLoad w0 1 v12 s9 (fun g13 => pBin Tryz.prog 3 BinOp.neq (g13 0) v8 (fun v14 => pIf v14 (K1 AX.ret [vget l0 0, v8, Value.int IntKind.i64 (-1), vget l0 3] s9) (pBin Tryz.prog 3 BinOp.add v8 (Value.int IntKind.i64 1) (fun v15 => pIndexAddr 5 (vget l0 0) (vget l0 3) (fun v16 => pField 2 v16 (fun v17 => pLoad w0 1 v17 s9 (fun g18 => pBin Tryz.prog 3 BinOp.rem v15 (Value.int IntKind.i64 3) (fun v19 => pBin Tryz.prog 3 BinOp.eql v19 (Value.int IntKind.i64 0) (fun v20 => pBin Tryz.prog 4 BinOp.neq (g18 0) v20 (fun v21 => pIf v21 (K1 AX.ret [vget l0 0, v15, Value.int IntKind.i64 (-1), vget l0 3] s9) (pBin Tryz.prog 3 BinOp.add v15 (Value.int IntKind.i64 1) (fun v22 => pIndexAddr 5 (vget l0 0) (vget l0 3) (fun v23 => pField 3 v23 (fun v24 => pLoad w0 1 v24 s9 (fun g25 => pBin Tryz.prog 3 BinOp.neq (g25 0) v22 (fun v26 => pIf v26 (K1 AX.ret [vget l0 0, v22, Value.int IntKind.i64 (-1), vget l0 3] s9) (pBin Tryz.prog 3 BinOp.add v22 (Value.int IntKind.i64 1) (fun v27 => pIndexAddr 5 (vget l0 0) (vget l0 3) (fun v28 => pField 4 v28 (fun v29 => pLoad w0 1 v29 s9 (fun g30 => AC Tryz.prog w0 n_laws_markText [v27] s9 (fun v31 s32 => (Stay w0 s9 s32 v29 1) ∧ (pBin Tryz.prog 9 BinOp.neq (g30 0) v31 (fun v33 => pIf v33 (K1 AX.ret [vget l0 0, v27, Value.int IntKind.i64 (-1), vget l0 3] s32) (pBin Tryz.prog 3 BinOp.add v27 (Value.int IntKind.i64 1) (fun v34 => pBin Tryz.prog 3 BinOp.add (vget l0 3) (Value.int IntKind.i64 1) (fun v35 => K1 AX.normal [vget l0 0, v34, vget l0 2, v35] s32)))))))))))))))))))))))))))))))))))) (K1 (AX.exit 0) [vget l0 0, vget l0 1, vget l0 2, vget l0 3] s2)))) [a0, a1, Value.int IntKind.i64 0, Value.int IntKind.i64 0] σ (fun x36 l37 s38 => match x36 with | .normal => R (vget l37 1) s38 | .ret => R (vget l37 2) s38 | .exit i39 => (match Nat.beq i39 0 with | true => R (vget l37 1) s38 | false => False))
theorem vc_laws_heldEntryS_eq (w0 : World) (a0 a1 : Value) (σ : Vw) (R : Value → Vw → Prop) : vc_laws_heldEntryS w0 a0 a1 σ R = den Tryz.prog w0 kp_laws_heldEntryS esc_laws_heldEntryS (Tryz.f25.body.getD .skip) (entry Tryz.f25.ntmps [a0, a1]) σ (retK Tryz.prog Tryz.f25.results.toList R) := by kernel_rfl
theorem ac_laws_heldEntryS {w0 : World} {a0 a1 : Value} {σ : Vw} {R : Value → Vw → Prop} (h : vc_laws_heldEntryS w0 a0 a1 σ R) : AC Tryz.prog w0 n_laws_heldEntryS [a0, a1] σ R := by
  refine ac_rule (fn := Tryz.f25) (c := Tryz.f25.body.getD .skip) kp_laws_heldEntryS esc_laws_heldEntryS Tryz.func25 (by kernel_rfl) (by kernel_rfl) ?_
  rw [← vc_laws_heldEntryS_eq]
  exact h

/-- impl.TrailOk -/
def kp_impl_TrailOk : Nat → Keep
  | 2 => ⟨[0, 2, 5, 6, 7], [], [], .done, []⟩
  | 4 => ⟨[], [], [], .step 0 (.step 1 (.step 2 (.step 3 (.step 4 (.step 5 (.step 6 (.step 7 (.step 8 (.step 9 (.step 10 (.step 11 (.step 12 (.step 13 (.step 14 (.step 15 (.step 16 (.step 17 (.step 18 (.step 19 (.step 20 (.step 21 (.step 22 (.step 23 (.step 24 (.step 25 (.step 26 (.done))))))))))))))))))))))))))), [(1, [0]), (2, [0, 1]), (3, [0, 1, 2]), (4, [0, 1, 2, 3]), (5, [0, 1, 2, 3, 4]), (6, [0, 1, 2, 3, 4, 5]), (7, [0, 1, 2, 3, 4, 5, 6]), (8, [0, 1, 2, 3, 4, 5, 6]), (9, [0, 1, 2, 3, 4, 5, 6, 8]), (10, [0, 1, 2, 3, 4, 5, 6, 7, 8, 9]), (11, [0, 1, 2, 3, 4, 5, 6, 7, 8, 9, 10]), (12, [0, 1, 2, 3, 4, 5, 6, 7, 8, 9, 10, 11]), (13, [0, 1, 2, 3, 4, 5, 6]), (14, [0, 1, 2, 3, 4, 5, 6, 13]), (15, [0, 1, 2, 3, 4, 5, 6, 7, 8, 9, 10, 11, 12, 13, 14]), (16, [0, 1, 2, 3, 4, 5, 6, 7, 8, 9, 10, 11, 12, 13, 14, 15]), (17, [0, 1, 2, 3, 4, 5, 6, 7, 8, 9, 10, 11, 12, 13, 14, 15, 16]), (18, [0, 1, 2, 3, 4, 5, 6, 7, 8, 9, 10, 11, 12, 13, 14, 15, 16, 17]), (19, [0, 1, 2, 3, 4, 5, 6, 7, 8, 9, 10, 11, 12, 13, 14, 15, 16, 17, 18]), (20, [0, 1, 2, 3, 4, 5, 6, 7, 8, 9, 10, 11, 12, 13, 14, 15, 16, 17, 18, 19]), (21, [0, 1, 2, 3, 4, 5, 6, 7, 8, 9, 10, 11, 12, 13, 14, 15, 16, 17, 18, 19]), (22, [0, 1, 2, 3, 4, 5, 6, 7, 8, 9, 10, 11, 12, 13, 14, 15, 16, 17, 18, 19, 20, 21]), (23, [0, 1, 2, 3, 4, 5, 6, 7, 8, 9, 10, 11, 12, 13, 14, 15, 16, 17, 18, 19]), (24, [0, 1, 2, 3, 4, 5, 6, 7, 8, 9, 10, 11, 12, 13, 14, 15, 16, 17, 18, 19, 23]), (25, [0, 1, 2, 3, 4, 5, 6, 7, 8, 9, 10, 11, 12, 13, 14, 15, 16, 17, 18, 19, 20, 21, 22, 23, 24]), (26, [0, 1, 2, 3, 4, 5, 6, 7, 8, 9, 10, 11, 12, 13, 14, 15, 16, 17, 18, 19, 20, 21, 22, 23, 24, 25])]⟩
  | _ => ⟨[], [], [], .done, []⟩
def esc_impl_TrailOk : Nat → Bool
  | _ => false
def vc_impl_TrailOk (w0 : World) (a0 : Value) (σ : Vw) (R : Value → Vw → Prop) : Prop :=
  pLen a0 (fun v0 => pLoop (fun l1 K2 s3 => pBin Tryz.prog 3 BinOp.lss (vget l1 4) (vget l1 3) (fun v4 => pIf v4 (pIndexAddr 2 (vget l1 2) (vget l1 4) (fun v5 => pLoad w0 2 v5 s3 (fun g6 => pVal true 2 (Value.agg (⟨[g6 0, g6 1]⟩)) (AC Tryz.prog w0 n_impl_markOk ([Value.agg (⟨[g6 0, g6 1]⟩)]) s3 (fun v7 s8 => pUn UnOp.not v7 (fun v9 => pIf v9 (K2 AX.ret [vget l1 0, Value.bool false, vget l1 2, vget l1 3, vget l1 4] s8) (pBin Tryz.prog 3 BinOp.gtr (vget l1 4) (Value.int IntKind.i64 0) (fun v10 => pIf v10 (pBin Tryz.prog 3 BinOp.sub (vget l1 4) (Value.int IntKind.i64 1) (fun v11 => pIndexAddr 2 (vget l1 0) v11 (fun v12 => pField 0 v12 (fun v13 => pLoad w0 1 v13 s8 (fun g14 => AC Tryz.prog w0 n_slices_Compare_string_string [g14 0, g6 0] s8 (fun v15 s16 => pBin Tryz.prog 3 BinOp.geq v15 (Value.int IntKind.i64 0) (fun v17 => pIf v17 (K2 AX.ret [vget l1 0, Value.bool false, vget l1 2, vget l1 3, vget l1 4] s16) (pSlice 2 (vget l1 0) Option.none (Option.some (vget l1 4)) (fun v18 => AC Tryz.prog w0 n_impl_under [v18, g6 0] s16 (fun v19 s20 => pIf v19 (K2 AX.ret [vget l1 0, Value.bool false, vget l1 2, vget l1 3, vget l1 4] s20) (pBin Tryz.prog 3 BinOp.add (vget l1 4) (Value.int IntKind.i64 1) (fun v21 => K2 AX.normal [vget l1 0, vget l1 1, vget l1 2, vget l1 3, v21] s20)))))))))))) (pSlice 2 (vget l1 0) Option.none (Option.some (vget l1 4)) (fun v22 => AC Tryz.prog w0 n_impl_under [v22, g6 0] s8 (fun v23 s24 => pIf v23 (K2 AX.ret [vget l1 0, Value.bool false, vget l1 2, vget l1 3, vget l1 4] s24) (pBin Tryz.prog 3 BinOp.add (vget l1 4) (Value.int IntKind.i64 1) (fun v25 => K2 AX.normal [vget l1 0, vget l1 1, vget l1 2, vget l1 3, v25] s24))))))))))))) (K2 (AX.exit 0) [vget l1 0, vget l1 1, vget l1 2, vget l1 3, vget l1 4] s3))) [a0, Value.bool false, a0, v0, Value.int IntKind.i64 0] σ (fun x26 l27 s28 => match x26 with | .normal => pLen (vget l27 0) (fun v29 => pBin Tryz.prog 3 BinOp.leq v29 (Value.int IntKind.i64 6) (fun v30 => R v30 s28)) | .ret => R (vget l27 1) s28 | .exit i31 => (match Nat.beq i31 0 with | true => pLen (vget l27 0) (fun v32 => pBin Tryz.prog 3 BinOp.leq v32 (Value.int IntKind.i64 6) (fun v33 => R v33 s28)) | false => False)))
theorem vc_impl_TrailOk_eq (w0 : World) (a0 : Value) (σ : Vw) (R : Value → Vw → Prop) : vc_impl_TrailOk w0 a0 σ R = den Tryz.prog w0 kp_impl_TrailOk esc_impl_TrailOk (Tryz.f28.body.getD .skip) (entry Tryz.f28.ntmps [a0]) σ (retK Tryz.prog Tryz.f28.results.toList R) := by kernel_rfl
theorem ac_impl_TrailOk {w0 : World} {a0 : Value} {σ : Vw} {R : Value → Vw → Prop} (h : vc_impl_TrailOk w0 a0 σ R) : AC Tryz.prog w0 n_impl_TrailOk [a0] σ R := by
  refine ac_rule (fn := Tryz.f28) (c := Tryz.f28.body.getD .skip) kp_impl_TrailOk esc_impl_TrailOk Tryz.func28 (by kernel_rfl) (by kernel_rfl) ?_
  rw [← vc_impl_TrailOk_eq]
  exact h

/-- spec.TrailOk -/
def kp_spec_TrailOk : Nat → Keep
  | 2 => ⟨[0, 2, 3], [], [], .done, []⟩
  | 4 => ⟨[], [], [], .step 0 (.step 1 (.step 2 (.step 3 (.step 4 (.step 5 (.step 6 (.step 7 (.step 8 (.step 9 (.step 10 (.step 11 (.step 12 (.step 13 (.step 14 (.step 15 (.step 16 (.step 17 (.step 18 (.step 19 (.step 20 (.step 21 (.step 22 (.step 23 (.step 24 (.done))))))))))))))))))))))))), [(2, [0, 1]), (3, [0, 1, 2]), (4, [0, 1, 2, 3]), (5, [0, 1, 2, 3, 4]), (6, [0, 1, 2, 3, 4, 5]), (7, [0, 1, 2, 3, 4, 5, 6]), (8, [0, 1, 2, 3, 4, 5, 6, 7]), (9, [0, 1, 2, 3, 4, 5, 6, 7, 8]), (10, [0, 1, 2, 3, 4, 5, 6, 7, 8, 9]), (11, [0, 1, 2, 3, 4, 5, 6, 7, 8, 9]), (12, [0, 1, 2, 3, 4, 5, 6, 7, 8, 9, 11]), (13, [0, 1, 2, 3, 4, 5, 6, 7, 8, 9, 10, 11, 12]), (14, [0, 1, 2, 3, 4, 5, 6, 7, 8, 9, 10, 11, 12, 13]), (15, [0, 1, 2, 3, 4, 5, 6, 7, 8, 9, 10, 11, 12, 13, 14]), (16, [0, 1, 2, 3, 4, 5, 6, 7, 8, 9]), (17, [0, 1, 2, 3, 4, 5, 6, 7, 8, 9]), (18, [0, 1, 2, 3, 4, 5, 6, 7, 8, 9, 16, 17]), (19, [0, 1, 2, 3, 4, 5, 6, 7, 8, 9, 16, 17, 18]), (20, [0, 1, 2, 3, 4, 5, 6, 7, 8, 9, 16, 17, 18, 19]), (21, [0, 1, 2, 3, 4, 5, 6, 7, 8, 9, 10, 11, 12, 13, 14, 15, 16, 17, 18, 19, 20]), (22, [0, 1, 2, 3, 4, 5, 6, 7, 8, 9, 10, 11, 12, 13, 14, 15, 16, 17, 18, 19, 20, 21]), (23, [0, 1, 2, 3, 4, 5, 6, 7, 8, 9, 10, 11, 12, 13, 14, 15, 16, 17, 18, 19, 20, 21, 22]), (24, [0, 1, 2, 3, 4, 5, 6, 7, 8, 9, 10, 11, 12, 13, 14, 15, 16, 17, 18, 19, 20, 21, 22, 23])]⟩
  | 7 => ⟨[0, 2, 3, 4], [], [], .done, []⟩
  | 9 => ⟨[], [], [], .step 0 (.step 1 (.step 2 (.step 3 (.step 4 (.step 5 (.step 6 (.step 7 (.step 8 (.step 9 (.step 10 (.step 11 (.step 12 (.step 13 (.step 14 (.step 15 (.step 16 (.step 17 (.done)))))))))))))))))), [(2, [0, 1]), (3, [0, 1, 2]), (4, [0, 1, 2, 3]), (5, [0, 1, 2, 3, 4]), (6, [0, 1, 2, 3, 4, 5]), (7, [0, 1, 2, 3, 4, 5]), (8, [0, 1, 2, 3, 4, 5, 6, 7]), (9, [0, 1, 2, 3, 4, 5, 6, 7, 8]), (10, [0, 1, 2, 3, 4, 5, 6, 7, 8, 9]), (11, [0, 1, 2, 3, 4, 5]), (12, [0, 1, 2, 3, 4, 5]), (13, [0, 1, 2, 3, 4, 5, 11, 12]), (14, [0, 1, 2, 3, 4, 5, 11, 12, 13]), (15, [0, 1, 2, 3, 4, 5, 11, 12, 13, 14]), (16, [0, 1, 2, 3, 4, 5, 6, 7, 8, 9, 10, 11, 12, 13, 14, 15]), (17, [0, 1, 2, 3, 4, 5, 6, 7, 8, 9, 10, 11, 12, 13, 14, 15, 16])]⟩
  | _ => ⟨[], [], [], .done, []⟩
def esc_spec_TrailOk : Nat → Bool
  | _ => false
def vc_spec_TrailOk (w0 : World) (a0 : Value) (σ : Vw) (R : Value → Vw → Prop) : Prop :=
  pLoop (fun l0 K1 s2 => pLen (vget l0 0) (fun v3 => pBin Tryz.prog 3 BinOp.lss (vget l0 2) v3 (fun v4 => pIf v4 (pIndexAddr 2 (vget l0 0) (vget l0 2) (fun v5 => pLoad w0 2 v5 s2 (fun g6 => AC Tryz.prog w0 n_spec_l11MarkOk ([Value.agg (⟨[g6 0, g6 1]⟩)]) s2 (fun v7 s8 => pUn UnOp.not v7 (fun v9 => pIf v9 (K1 AX.ret [vget l0 0, Value.bool false, vget l0 2] s8) (pBin Tryz.prog 3 BinOp.gtr (vget l0 2) (Value.int IntKind.i64 0) (fun v10 => pIf v10 (pBin Tryz.prog 3 BinOp.sub (vget l0 2) (Value.int IntKind.i64 1) (fun v11 => pIndexAddr 2 (vget l0 0) v11 (fun v12 => pField 0 v12 (fun v13 => pLoad w0 1 v13 s8 (fun g14 => pIndexAddr 2 (vget l0 0) (vget l0 2) (fun v15 => pField 0 v15 (fun v16 => pLoad w0 1 v16 s8 (fun g17 => AC Tryz.prog w0 n_spec_l11Less [g14 0, g17 0] s8 (fun v18 s19 => pUn UnOp.not v18 (fun v20 => pIf v20 (K1 AX.ret [vget l0 0, Value.bool false, vget l0 2] s19) (pLoop (fun l21 K22 s23 => pBin Tryz.prog 3 BinOp.lss (vget l21 3) (vget l21 2) (fun v24 => pIf v24 (pIndexAddr 2 (vget l21 0) (vget l21 3) (fun v25 => pField 1 v25 (fun v26 => pLoad w0 1 v26 s23 (fun g27 => pIf (g27 0) (pIndexAddr 2 (vget l21 0) (vget l21 2) (fun v28 => pField 0 v28 (fun v29 => pLoad w0 1 v29 s23 (fun g30 => pIndexAddr 2 (vget l21 0) (vget l21 3) (fun v31 => pField 0 v31 (fun v32 => pLoad w0 1 v32 s23 (fun g33 => AC Tryz.prog w0 n_spec_l2Within [g30 0, g33 0] s23 (fun v34 s35 => pIf v34 (K22 AX.ret [vget l21 0, Value.bool false, vget l21 2, vget l21 3] s35) (pBin Tryz.prog 3 BinOp.add (vget l21 3) (Value.int IntKind.i64 1) (fun v36 => K22 AX.normal [vget l21 0, vget l21 1, vget l21 2, v36] s35)))))))))) (pBin Tryz.prog 3 BinOp.add (vget l21 3) (Value.int IntKind.i64 1) (fun v37 => K22 AX.normal [vget l21 0, vget l21 1, vget l21 2, v37] s23)))))) (K22 (AX.exit 2) [vget l21 0, vget l21 1, vget l21 2, vget l21 3] s23))) [vget l0 0, vget l0 1, vget l0 2, Value.int IntKind.i64 0] s19 (fun x38 l39 s40 => match x38 with | .normal => pBin Tryz.prog 3 BinOp.add (vget l39 2) (Value.int IntKind.i64 1) (fun v41 => K1 AX.normal [vget l39 0, vget l39 1, v41] s40) | .ret => K1 AX.ret [vget l39 0, vget l39 1, vget l39 2] s40 | .exit i42 => (match Nat.beq i42 2 with | true => pBin Tryz.prog 3 BinOp.add (vget l39 2) (Value.int IntKind.i64 1) (fun v43 => K1 AX.normal [vget l39 0, vget l39 1, v43] s40) | false => (match Nat.beq i42 1 with | true => pBin Tryz.prog 3 BinOp.add (vget l39 2) (Value.int IntKind.i64 1) (fun v44 => K1 AX.normal [vget l39 0, vget l39 1, v44] s40) | false => K1 (AX.exit i42) [vget l39 0, vget l39 1, vget l39 2] s40)))))))))))))) (pLoop (fun l45 K46 s47 => pBin Tryz.prog 3 BinOp.lss (vget l45 3) (vget l45 2) (fun v48 => pIf v48 (pIndexAddr 2 (vget l45 0) (vget l45 3) (fun v49 => pField 1 v49 (fun v50 => pLoad w0 1 v50 s47 (fun g51 => pIf (g51 0) (pIndexAddr 2 (vget l45 0) (vget l45 2) (fun v52 => pField 0 v52 (fun v53 => pLoad w0 1 v53 s47 (fun g54 => pIndexAddr 2 (vget l45 0) (vget l45 3) (fun v55 => pField 0 v55 (fun v56 => pLoad w0 1 v56 s47 (fun g57 => AC Tryz.prog w0 n_spec_l2Within [g54 0, g57 0] s47 (fun v58 s59 => pIf v58 (K46 AX.ret [vget l45 0, Value.bool false, vget l45 2, vget l45 3] s59) (pBin Tryz.prog 3 BinOp.add (vget l45 3) (Value.int IntKind.i64 1) (fun v60 => K46 AX.normal [vget l45 0, vget l45 1, vget l45 2, v60] s59)))))))))) (pBin Tryz.prog 3 BinOp.add (vget l45 3) (Value.int IntKind.i64 1) (fun v61 => K46 AX.normal [vget l45 0, vget l45 1, vget l45 2, v61] s47)))))) (K46 (AX.exit 2) [vget l45 0, vget l45 1, vget l45 2, vget l45 3] s47))) [vget l0 0, vget l0 1, vget l0 2, Value.int IntKind.i64 0] s8 (fun x62 l63 s64 => match x62 with | .normal => pBin Tryz.prog 3 BinOp.add (vget l63 2) (Value.int IntKind.i64 1) (fun v65 => K1 AX.normal [vget l63 0, vget l63 1, v65] s64) | .ret => K1 AX.ret [vget l63 0, vget l63 1, vget l63 2] s64 | .exit i66 => (match Nat.beq i66 2 with | true => pBin Tryz.prog 3 BinOp.add (vget l63 2) (Value.int IntKind.i64 1) (fun v67 => K1 AX.normal [vget l63 0, vget l63 1, v67] s64) | false => (match Nat.beq i66 1 with | true => pBin Tryz.prog 3 BinOp.add (vget l63 2) (Value.int IntKind.i64 1) (fun v68 => K1 AX.normal [vget l63 0, vget l63 1, v68] s64) | false => K1 (AX.exit i66) [vget l63 0, vget l63 1, vget l63 2] s64))))))))))) (K1 (AX.exit 0) [vget l0 0, vget l0 1, vget l0 2] s2)))) [a0, Value.bool false, Value.int IntKind.i64 0] σ (fun x69 l70 s71 => match x69 with | .normal => pLen (vget l70 0) (fun v72 => pBin Tryz.prog 3 BinOp.leq v72 (Value.int IntKind.i64 6) (fun v73 => R v73 s71)) | .ret => R (vget l70 1) s71 | .exit i74 => (match Nat.beq i74 0 with | true => pLen (vget l70 0) (fun v75 => pBin Tryz.prog 3 BinOp.leq v75 (Value.int IntKind.i64 6) (fun v76 => R v76 s71)) | false => False))
theorem vc_spec_TrailOk_eq (w0 : World) (a0 : Value) (σ : Vw) (R : Value → Vw → Prop) : vc_spec_TrailOk w0 a0 σ R = den Tryz.prog w0 kp_spec_TrailOk esc_spec_TrailOk (Tryz.f29.body.getD .skip) (entry Tryz.f29.ntmps [a0]) σ (retK Tryz.prog Tryz.f29.results.toList R) := by kernel_rfl
theorem ac_spec_TrailOk {w0 : World} {a0 : Value} {σ : Vw} {R : Value → Vw → Prop} (h : vc_spec_TrailOk w0 a0 σ R) : AC Tryz.prog w0 n_spec_TrailOk [a0] σ R := by
  refine ac_rule (fn := Tryz.f29) (c := Tryz.f29.body.getD .skip) kp_spec_TrailOk esc_spec_TrailOk Tryz.func29 (by kernel_rfl) (by kernel_rfl) ?_
  rw [← vc_spec_TrailOk_eq]
  exact h

/-- impl.TreeOk -/
def kp_impl_TreeOk : Nat → Keep
  | _ => ⟨[], [], [], .done, []⟩
def esc_impl_TreeOk : Nat → Bool
  | _ => false
def vc_impl_TreeOk (w0 : World) (a0 : Value) (σ : Vw) (R : Value → Vw → Prop) : Prop :=
  pVal true 5 a0 (pIf (cellOf a0 0) (AC Tryz.prog w0 n_impl_Tree_sound ([Value.agg (⟨[cellOf a0 0, cellOf a0 1, cellOf a0 2, cellOf a0 3, cellOf a0 4]⟩), Value.int IntKind.i64 0]) σ (fun v0 s1 => pIf v0 (AC Tryz.prog w0 n_impl_Tree_paths ([Value.agg (⟨[cellOf a0 0, cellOf a0 1, cellOf a0 2, cellOf a0 3, cellOf a0 4]⟩)]) s1 (fun v2 s3 => pBin Tryz.prog 3 BinOp.leq v2 (Value.int IntKind.i64 31) (fun v4 => R v4 s3))) (R (Value.bool false) s1))) (R (Value.bool false) σ))
theorem vc_impl_TreeOk_eq (w0 : World) (a0 : Value) (σ : Vw) (R : Value → Vw → Prop) : vc_impl_TreeOk w0 a0 σ R = den Tryz.prog w0 kp_impl_TreeOk esc_impl_TreeOk (Tryz.f42.body.getD .skip) (entry Tryz.f42.ntmps [a0]) σ (retK Tryz.prog Tryz.f42.results.toList R) := by kernel_rfl
theorem ac_impl_TreeOk {w0 : World} {a0 : Value} {σ : Vw} {R : Value → Vw → Prop} (h : vc_impl_TreeOk w0 a0 σ R) : AC Tryz.prog w0 n_impl_TreeOk [a0] σ R := by
  refine ac_rule (fn := Tryz.f42) (c := Tryz.f42.body.getD .skip) kp_impl_TreeOk esc_impl_TreeOk Tryz.func42 (by kernel_rfl) (by kernel_rfl) ?_
  rw [← vc_impl_TreeOk_eq]
  exact h

/-- impl.look -/
def kp_impl_look : Nat → Keep
  | 2 => ⟨[], [], [], .step 0 (.step 1 (.step 2 (.step 3 (.step 5 (.step 6 (.step 7 (.step 4 (.step 8 (.step 9 (.step 10 (.done))))))))))), [(2, [1]), (3, [1, 2]), (4, [0, 1, 2, 3]), (6, [5]), (7, [5, 6]), (8, [0, 1, 2, 3, 4, 5, 6, 7]), (9, [0, 1, 2, 3, 4, 5, 6, 7, 8]), (10, [0, 1, 2, 3, 4, 5, 6, 7, 8, 9])]⟩
  | 5 => ⟨[], [], [], .step 0 (.step 1 (.step 2 (.step 3 (.step 4 (.step 5 (.step 6 (.step 7 (.step 8 (.step 9 (.done)))))))))), [(1, [0]), (2, [0, 1]), (3, [0, 1, 2]), (5, [4]), (6, [4, 5]), (7, [4, 5, 6]), (8, [0, 1, 2, 3, 4, 5, 6, 7]), (9, [0, 1, 2, 3, 4, 5, 6, 7, 8])]⟩
  | 6 => ⟨[], [], [], .step 0 (.step 1 (.step 2 (.step 4 (.step 5 (.step 6 (.step 3 (.step 7 (.step 8 (.step 9 (.done)))))))))), [(3, [0, 1, 2]), (5, [4]), (6, [4, 5]), (7, [0, 1, 2, 3, 4, 5, 6]), (8, [0, 1, 2, 3, 4, 5, 6, 7]), (9, [0, 1, 2, 3, 4, 5, 6, 7, 8])]⟩
  | 11 => ⟨[], [], [], .step 0 (.step 1 (.step 2 (.step 3 (.step 4 (.step 5 (.step 6 (.step 7 (.step 8 (.done))))))))), [(2, [1]), (3, [1, 2]), (5, [4]), (6, [4, 5]), (7, [0, 1, 2, 3, 4, 5, 6]), (8, [0, 1, 2, 3, 4, 5, 6, 7])]⟩
  | 13 => ⟨[0, 1, 2, 3, 10, 11, 78, 79, 80], [], [], .done, []⟩
  | _ => ⟨[], [], [], .done, []⟩
def esc_impl_look : Nat → Bool
  | 34 => true
  | 64 => true
  | _ => false
def vc_impl_look (w0 : World) (a0 a1 a2 a3 : Value) (σ : Vw) (R : Value → Vw → Prop) : Prop :=
  pBin Tryz.prog 73 BinOp.eql a1 (Value.pointer Option.none) (fun v0 => pIf v0 (pNil a2 (pLoad w0 5 a2 σ (fun g1 => pNil a2 (pLoad w0 5 a2 σ (fun g2 => AC Tryz.prog w0 n_impl_fresh ([a0, Value.agg (⟨[g1 0, g1 1, g1 2, g1 3, g1 4]⟩)]) σ (fun v3 s4 => (Stay w0 σ s4 a2 5) ∧ (AC Tryz.prog w0 n_impl_Tree_paths ([Value.agg (⟨[g2 0, g2 1, g2 2, g2 3, g2 4]⟩)]) s4 (fun v5 s6 => R (Value.tuple (⟨[v3, v5]⟩)) s6)))))))) (pBin Tryz.prog 73 BinOp.eql a2 (Value.pointer Option.none) (fun v7 => pIf v7 (AC Tryz.prog w0 n_impl_gone [a0] σ (fun v8 s9 => pVal true 5 v8 (pNew w0 80 [cellOf v8 0, cellOf v8 1, cellOf v8 2, cellOf v8 3, cellOf v8 4] s9 (fun n10 s11 => R (Value.tuple (⟨[Value.slice (Option.some (Addr.mk n10 0 Option.none)) 1 1, Value.int IntKind.i64 1]⟩)) s11)))) (pNil a1 (pField 0 a1 (fun v12 => pLoad w0 1 v12 σ (fun g13 => pNil a2 (pField 0 a2 (fun v14 => pLoad w0 1 v14 σ (fun g15 => pBin Tryz.prog 4 BinOp.neq (g13 0) (g15 0) (fun v16 => pIf v16 (pNil a2 (pLoad w0 5 a2 σ (fun g17 => AC Tryz.prog w0 n_impl_walk [a0, a1, a2] σ (fun v18 s19 => (Stay w0 σ s19 a2 5) ∧ (AC Tryz.prog w0 n_impl_Tree_paths ([Value.agg (⟨[g17 0, g17 1, g17 2, g17 3, g17 4]⟩)]) s19 (fun v20 s21 => R (Value.tuple (⟨[v18, v20]⟩)) s21)))))) (AC Tryz.prog w0 n_impl_under [a3, a0] σ (fun v22 s23 => pIf v22 (AC Tryz.prog w0 n_impl_walk [a0, a1, a2] s23 (fun v24 s25 => AC Tryz.prog w0 n_impl_both [a1, a2] s25 (fun v26 s27 => R (Value.tuple (⟨[v24, v26]⟩)) s27))) (pNew w0 80 [] s23 (fun n28 s29 => AC Tryz.prog w0 n_impl_marked [a3, a0] s29 (fun v30 s31 => pIf v30 (pNil a1 (pLoad w0 5 a1 s31 (fun g32 => pNil a2 (pLoad w0 5 a2 s31 (fun g33 => AC Tryz.prog w0 n_impl_changes ([a0, Value.agg (⟨[g32 0, g32 1, g32 2, g32 3, g32 4]⟩), Value.agg (⟨[g33 0, g33 1, g33 2, g33 3, g33 4]⟩)]) s31 (fun v34 s35 => AC Tryz.prog w0 n_impl_either [a1, a2] s35 (fun v36 s37 => pLen v36 (fun v38 => pLoop (fun l39 K40 s41 => pBin Tryz.prog 3 BinOp.lss (vget l39 8) (vget l39 7) (fun v42 => pIf v42 (pIndexAddr 1 (vget l39 6) (vget l39 8) (fun v43 => pLoad w0 1 v43 s41 (fun g44 => AC Tryz.prog w0 n_impl_below [vget l39 0, g44 0] s41 (fun v45 s46 => AC Tryz.prog w0 n_impl_leads [vget l39 3, v45] s46 (fun v47 s48 => pIf v47 (AC Tryz.prog w0 n_p_impl_Tree_kid [vget l39 1, g44 0] s48 (fun v49 s50 => AC Tryz.prog w0 n_p_impl_Tree_kid [vget l39 2, g44 0] s50 (fun v51 s52 => AC Tryz.prog w0 n_impl_look [v45, v49, v51, vget l39 3] s52 (fun v53 s54 => pExtract v53 0 (fun v55 => pExtract v53 1 (fun v56 => pAppendS w0 80 5 64 (vget l39 4) v55 s54 (fun v57 s58 => pBin Tryz.prog 3 BinOp.add (vget l39 5) v56 (fun v59 => pBin Tryz.prog 3 BinOp.add (vget l39 8) (Value.int IntKind.i64 1) (fun v60 => K40 AX.normal [vget l39 0, vget l39 1, vget l39 2, vget l39 3, v57, v59, vget l39 6, vget l39 7, v60] s58))))))))) (pBin Tryz.prog 3 BinOp.add (vget l39 8) (Value.int IntKind.i64 1) (fun v61 => K40 AX.normal [vget l39 0, vget l39 1, vget l39 2, vget l39 3, vget l39 4, vget l39 5, vget l39 6, vget l39 7, v61] s48))))))) (K40 (AX.exit 1) [vget l39 0, vget l39 1, vget l39 2, vget l39 3, vget l39 4, vget l39 5, vget l39 6, vget l39 7, vget l39 8] s41))) [a0, a1, a2, a3, v34, Value.int IntKind.i64 1, v36, v38, Value.int IntKind.i64 0] s37 (fun x62 l63 s64 => match x62 with | .normal => R (Value.tuple (⟨[vget l63 4, vget l63 5]⟩)) s64 | .ret => False | .exit i65 => (match Nat.beq i65 1 with | true => R (Value.tuple (⟨[vget l63 4, vget l63 5]⟩)) s64 | false => False)))))))))) (AC Tryz.prog w0 n_impl_either [a1, a2] s31 (fun v66 s67 => pLen v66 (fun v68 => pLoop (fun l69 K70 s71 => pBin Tryz.prog 3 BinOp.lss (vget l69 8) (vget l69 7) (fun v72 => pIf v72 (pIndexAddr 1 (vget l69 6) (vget l69 8) (fun v73 => pLoad w0 1 v73 s71 (fun g74 => AC Tryz.prog w0 n_impl_below [vget l69 0, g74 0] s71 (fun v75 s76 => AC Tryz.prog w0 n_impl_leads [vget l69 3, v75] s76 (fun v77 s78 => pIf v77 (AC Tryz.prog w0 n_p_impl_Tree_kid [vget l69 1, g74 0] s78 (fun v79 s80 => AC Tryz.prog w0 n_p_impl_Tree_kid [vget l69 2, g74 0] s80 (fun v81 s82 => AC Tryz.prog w0 n_impl_look [v75, v79, v81, vget l69 3] s82 (fun v83 s84 => pExtract v83 0 (fun v85 => pExtract v83 1 (fun v86 => pAppendS w0 80 5 64 (vget l69 4) v85 s84 (fun v87 s88 => pBin Tryz.prog 3 BinOp.add (vget l69 5) v86 (fun v89 => pBin Tryz.prog 3 BinOp.add (vget l69 8) (Value.int IntKind.i64 1) (fun v90 => K70 AX.normal [vget l69 0, vget l69 1, vget l69 2, vget l69 3, v87, v89, vget l69 6, vget l69 7, v90] s88))))))))) (pBin Tryz.prog 3 BinOp.add (vget l69 8) (Value.int IntKind.i64 1) (fun v91 => K70 AX.normal [vget l69 0, vget l69 1, vget l69 2, vget l69 3, vget l69 4, vget l69 5, vget l69 6, vget l69 7, v91] s78))))))) (K70 (AX.exit 1) [vget l69 0, vget l69 1, vget l69 2, vget l69 3, vget l69 4, vget l69 5, vget l69 6, vget l69 7, vget l69 8] s71))) [a0, a1, a2, a3, Value.slice (Option.some (Addr.mk n28 0 Option.none)) 0 0, Value.int IntKind.i64 1, v66, v68, Value.int IntKind.i64 0] s67 (fun x92 l93 s94 => match x92 with | .normal => R (Value.tuple (⟨[vget l93 4, vget l93 5]⟩)) s94 | .ret => False | .exit i95 => (match Nat.beq i95 1 with | true => R (Value.tuple (⟨[vget l93 4, vget l93 5]⟩)) s94 | false => False)))))))))))))))))))))
theorem vc_impl_look_eq (w0 : World) (a0 a1 a2 a3 : Value) (σ : Vw) (R : Value → Vw → Prop) : vc_impl_look w0 a0 a1 a2 a3 σ R = den Tryz.prog w0 kp_impl_look esc_impl_look (Tryz.f43.body.getD .skip) (entry Tryz.f43.ntmps [a0, a1, a2, a3]) σ (retK Tryz.prog Tryz.f43.results.toList R) := by kernel_rfl
theorem ac_impl_look {w0 : World} {a0 a1 a2 a3 : Value} {σ : Vw} {R : Value → Vw → Prop} (h : vc_impl_look w0 a0 a1 a2 a3 σ R) : AC Tryz.prog w0 n_impl_look [a0, a1, a2, a3] σ R := by
  refine ac_rule (fn := Tryz.f43) (c := Tryz.f43.body.getD .skip) kp_impl_look esc_impl_look Tryz.func43 (by kernel_rfl) (by kernel_rfl) ?_
  rw [← vc_impl_look_eq]
  exact h

/-- spec.TreeOk -/
def kp_spec_TreeOk : Nat → Keep
  | _ => ⟨[], [], [], .done, []⟩
def esc_spec_TreeOk : Nat → Bool
  | _ => false
def vc_spec_TreeOk (w0 : World) (a0 : Value) (σ : Vw) (R : Value → Vw → Prop) : Prop :=
  pVal true 5 a0 (pIf (cellOf a0 0) (AC Tryz.prog w0 n_spec_l1Parts ([Value.agg (⟨[cellOf a0 0, cellOf a0 1, cellOf a0 2, cellOf a0 3, cellOf a0 4]⟩), Value.int IntKind.i64 0]) σ (fun v0 s1 => pIf v0 (AC Tryz.prog w0 n_spec_l1Count ([Value.agg (⟨[cellOf a0 0, cellOf a0 1, cellOf a0 2, cellOf a0 3, cellOf a0 4]⟩)]) s1 (fun v2 s3 => pBin Tryz.prog 3 BinOp.leq v2 (Value.int IntKind.i64 30) (fun v4 => R v4 s3))) (R (Value.bool false) s1))) (R (Value.bool false) σ))
theorem vc_spec_TreeOk_eq (w0 : World) (a0 : Value) (σ : Vw) (R : Value → Vw → Prop) : vc_spec_TreeOk w0 a0 σ R = den Tryz.prog w0 kp_spec_TreeOk esc_spec_TreeOk (Tryz.f44.body.getD .skip) (entry Tryz.f44.ntmps [a0]) σ (retK Tryz.prog Tryz.f44.results.toList R) := by kernel_rfl
theorem ac_spec_TreeOk {w0 : World} {a0 : Value} {σ : Vw} {R : Value → Vw → Prop} (h : vc_spec_TreeOk w0 a0 σ R) : AC Tryz.prog w0 n_spec_TreeOk [a0] σ R := by
  refine ac_rule (fn := Tryz.f44) (c := Tryz.f44.body.getD .skip) kp_spec_TreeOk esc_spec_TreeOk Tryz.func44 (by kernel_rfl) (by kernel_rfl) ?_
  rw [← vc_spec_TreeOk_eq]
  exact h

/-- (*spec.l12Look).at -/
def kp_p_spec_l12Look_at : Nat → Keep
  | 2 => ⟨[], [], [], .step 0 (.step 1 (.step 2 (.step 3 (.step 4 (.step 5 (.step 6 (.step 7 (.step 8 (.step 9 (.step 10 (.step 11 (.done)))))))))))), [(2, [1]), (3, [1, 2]), (4, [1, 2, 3]), (7, [5, 6]), (8, [1, 2, 3, 4, 5, 6, 7]), (9, [0, 1, 2, 3, 4, 5, 6, 7, 8]), (10, [0, 1, 2, 3, 4, 5, 6, 7, 8, 9]), (11, [0, 1, 2, 3, 4, 5, 6, 7, 8, 9, 10])]⟩
  | 3 => ⟨[], [], [], .step 0 (.step 1 (.step 2 (.step 3 (.step 4 (.step 5 (.step 6 (.step 7 (.step 8 (.step 9 (.step 10 (.step 11 (.done)))))))))))), [(2, [1]), (3, [1, 2]), (4, [1, 2, 3]), (7, [5, 6]), (8, [1, 2, 3, 4, 5, 6, 7]), (9, [0, 1, 2, 3, 4, 5, 6, 7, 8]), (10, [0, 1, 2, 3, 4, 5, 6, 7, 8, 9]), (11, [0, 1, 2, 3, 4, 5, 6, 7, 8, 9, 10])]⟩
  | 6 => ⟨[], [], [], .step 0 (.step 1 (.step 2 (.step 3 (.step 4 (.step 5 (.step 6 (.step 7 (.step 8 (.step 9 (.step 10 (.done))))))))))), [(2, [1]), (3, [1, 2]), (4, [1, 2, 3]), (6, [5]), (7, [1, 2, 3, 4, 5, 6]), (8, [0, 1, 2, 3, 4, 5, 6, 7]), (9, [0, 1, 2, 3, 4, 5, 6, 7, 8]), (10, [0, 1, 2, 3, 4, 5, 6, 7, 8, 9])]⟩
  | 8 => ⟨[], [], [], .step 0 (.step 1 (.step 2 (.step 3 (.step 4 (.step 5 (.step 6 (.step 7 (.step 8 (.step 9 (.step 10 (.step 11 (.done)))))))))))), [(2, [1]), (3, [1, 2]), (4, [1, 2, 3]), (7, [5, 6]), (8, [1, 2, 3, 4, 5, 6, 7]), (9, [0, 1, 2, 3, 4, 5, 6, 7, 8]), (10, [0, 1, 2, 3, 4, 5, 6, 7, 8, 9]), (11, [0, 1, 2, 3, 4, 5, 6, 7, 8, 9, 10])]⟩
  | 9 => ⟨[], [], [], .step 0 (.step 1 (.step 2 (.step 3 (.step 4 (.step 5 (.step 8 (.step 9 (.step 6 (.step 7 (.step 10 (.step 11 (.step 12 (.step 13 (.step 14 (.done))))))))))))))), [(2, [1]), (3, [1, 2]), (4, [1, 2, 3]), (6, [5]), (7, [1, 2, 3, 4, 5, 6]), (10, [1, 2, 3, 4, 5, 6, 7, 8, 9]), (11, [1, 2, 3, 4, 5, 6, 7, 8, 9, 10]), (12, [0, 1, 2, 3, 4, 5, 6, 7, 8, 9, 10, 11]), (13, [0, 1, 2, 3, 4, 5, 6, 7, 8, 9, 10, 11, 12]), (14, [0, 1, 2, 3, 4, 5, 6, 7, 8, 9, 10, 11, 12, 13])]⟩
  | 11 => ⟨[], [], [], .step 0 (.step 1 (.step 2 (.step 3 (.step 4 (.step 5 (.step 6 (.step 7 (.step 8 (.step 9 (.step 10 (.step 11 (.done)))))))))))), [(2, [1]), (3, [1, 2]), (4, [1, 2, 3]), (7, [5, 6]), (8, [1, 2, 3, 4, 5, 6, 7]), (9, [0, 1, 2, 3, 4, 5, 6, 7, 8]), (10, [0, 1, 2, 3, 4, 5, 6, 7, 8, 9]), (11, [0, 1, 2, 3, 4, 5, 6, 7, 8, 9, 10])]⟩
  | 12 => ⟨[], [], [], .step 0 (.step 1 (.step 2 (.step 3 (.step 4 (.step 5 (.step 6 (.step 7 (.step 8 (.step 9 (.step 10 (.step 11 (.step 12 (.done))))))))))))), [(2, [1]), (3, [1, 2]), (4, [1, 2, 3]), (8, [5, 6, 7]), (9, [1, 2, 3, 4, 5, 6, 7, 8]), (10, [0, 1, 2, 3, 4, 5, 6, 7, 8, 9]), (11, [0, 1, 2, 3, 4, 5, 6, 7, 8, 9, 10]), (12, [0, 1, 2, 3, 4, 5, 6, 7, 8, 9, 10, 11])]⟩
  | 15 => ⟨[], [], [], .step 0 (.step 1 (.step 2 (.step 3 (.step 4 (.step 5 (.step 6 (.step 7 (.step 8 (.step 9 (.step 10 (.step 11 (.step 12 (.done))))))))))))), [(2, [1]), (3, [1, 2]), (4, [1, 2, 3]), (8, [5, 6, 7]), (9, [1, 2, 3, 4, 5, 6, 7, 8]), (10, [0, 1, 2, 3, 4, 5, 6, 7, 8, 9]), (11, [0, 1, 2, 3, 4, 5, 6, 7, 8, 9, 10]), (12, [0, 1, 2, 3, 4, 5, 6, 7, 8, 9, 10, 11])]⟩
  | 18 => ⟨[0, 1, 12, 13], [(8, 5), (10, 5)], [8, 10], .done, []⟩
  | 22 => ⟨[], [], [], .step 0 (.step 1 (.step 2 (.step 3 (.step 4 (.step 9 (.step 5 (.step 6 (.step 7 (.step 8 (.step 10 (.step 11 (.done)))))))))))), [(3, [1, 2]), (4, [1, 2, 3]), (5, [0, 1, 2, 3, 4]), (6, [0, 1, 2, 3, 4, 5]), (7, [0, 1, 2, 3, 4, 5, 6]), (8, [0, 1, 2, 3, 4, 5, 6]), (10, [0, 1, 2, 3, 4, 5, 6, 7, 9]), (11, [0, 1, 2, 3, 4, 5, 6, 7, 8, 9, 10])]⟩
  | 23 => ⟨[], [], [], .step 0 (.step 1 (.step 2 (.step 3 (.step 4 (.step 9 (.step 5 (.step 6 (.step 7 (.step 8 (.step 10 (.step 11 (.done)))))))))))), [(3, [1, 2]), (4, [1, 2, 3]), (5, [0, 1, 2, 3, 4]), (6, [0, 1, 2, 3, 4, 5]), (7, [0, 1, 2, 3, 4, 5, 6]), (8, [0, 1, 2, 3, 4, 5, 6]), (10, [0, 1, 2, 3, 4, 5, 6, 7, 9]), (11, [0, 1, 2, 3, 4, 5, 6, 7, 8, 9, 10])]⟩
  | _ => ⟨[], [], [], .done, []⟩
def esc_p_spec_l12Look_at : Nat → Bool
  | _ => false
def vc_p_spec_l12Look_at (w0 : World) (a0 a1 a2 a3 a4 a5 : Value) (σ : Vw) (R : Value → Vw → Prop) : Prop :=
  pVal true 5 a2 (pVal true 5 a4 (pUn UnOp.not a3 (fun v0 => pIf v0 (pNil a0 (pField 2 a0 (fun v1 => pLoad w0 1 v1 σ (fun g2 => AC Tryz.prog w0 n_spec_l12Union ([Value.agg (⟨[cellOf a4 0, cellOf a4 1, cellOf a4 2, cellOf a4 3, cellOf a4 4]⟩), Value.agg (⟨[Value.bool false, Value.int IntKind.i64 0, Value.string ({ data := #[] }), Value.slice Option.none 0 0, Value.slice Option.none 0 0]⟩)]) σ (fun v3 s4 => (Stay w0 σ s4 v1 1) ∧ (pBin Tryz.prog 3 BinOp.add (g2 0) v3 (fun v5 => pNil a0 (pField 2 a0 (fun v6 => pVal false 1 v5 (pStore v6 [v5] s4 (fun s7 => pNil a0 (pField 1 a0 (fun v8 => pLoad w0 1 v8 s7 (fun g9 => AC Tryz.prog w0 n_spec_l3New ([a1, Value.agg (⟨[cellOf a4 0, cellOf a4 1, cellOf a4 2, cellOf a4 3, cellOf a4 4]⟩)]) s7 (fun v10 s11 => (Stay w0 s7 s11 v8 1) ∧ (pAppendS w0 80 5 64 (g9 0) v10 s11 (fun v12 s13 => pNil a0 (pField 1 a0 (fun v14 => pVal false 1 v12 (pStore v14 [v12] s13 (fun s15 => R (Value.tuple ⟨[]⟩) s15))))))))))))))))))))) (pUn UnOp.not a5 (fun v16 => pIf v16 (pNil a0 (pField 2 a0 (fun v17 => pLoad w0 1 v17 σ (fun g18 => pBin Tryz.prog 3 BinOp.add (g18 0) (Value.int IntKind.i64 1) (fun v19 => pNil a0 (pField 2 a0 (fun v20 => pVal false 1 v19 (pStore v20 [v19] σ (fun s21 => pNil a0 (pField 1 a0 (fun v22 => pLoad w0 1 v22 s21 (fun g23 => AC Tryz.prog w0 n_spec_l3Gone [a1] s21 (fun v24 s25 => (Stay w0 s21 s25 v22 1) ∧ (pAppendS w0 80 5 64 (g23 0) v24 s25 (fun v26 s27 => pNil a0 (pField 1 a0 (fun v28 => pVal false 1 v26 (pStore v28 [v26] s27 (fun s29 => R (Value.tuple ⟨[]⟩) s29))))))))))))))))))) (pBin Tryz.prog 4 BinOp.neq (cellOf a2 0) (cellOf a4 0) (fun v30 => pIf v30 (pNil a0 (pField 2 a0 (fun v31 => pLoad w0 1 v31 σ (fun g32 => AC Tryz.prog w0 n_spec_l12Union ([Value.agg (⟨[cellOf a4 0, cellOf a4 1, cellOf a4 2, cellOf a4 3, cellOf a4 4]⟩), Value.agg (⟨[Value.bool false, Value.int IntKind.i64 0, Value.string ({ data := #[] }), Value.slice Option.none 0 0, Value.slice Option.none 0 0]⟩)]) σ (fun v33 s34 => (Stay w0 σ s34 v31 1) ∧ (pBin Tryz.prog 3 BinOp.add (g32 0) v33 (fun v35 => pNil a0 (pField 2 a0 (fun v36 => pVal false 1 v35 (pStore v36 [v35] s34 (fun s37 => pNil a0 (pField 1 a0 (fun v38 => pLoad w0 1 v38 s37 (fun g39 => AC Tryz.prog w0 n_spec_l3Gone [a1] s37 (fun v40 s41 => (Stay w0 s37 s41 v38 1) ∧ (pAppendS w0 80 5 64 (g39 0) v40 s41 (fun v42 s43 => AC Tryz.prog w0 n_spec_l3New ([a1, Value.agg (⟨[cellOf a4 0, cellOf a4 1, cellOf a4 2, cellOf a4 3, cellOf a4 4]⟩)]) s43 (fun v44 s45 => pAppendS w0 80 5 64 v42 v44 s45 (fun v46 s47 => pNil a0 (pField 1 a0 (fun v48 => pVal false 1 v46 (pStore v48 [v46] s47 (fun s49 => R (Value.tuple ⟨[]⟩) s49))))))))))))))))))))))) (pNil a0 (pField 0 a0 (fun v50 => pLoad w0 1 v50 σ (fun g51 => AC Tryz.prog w0 n_spec_l11Under [g51 0, a1] σ (fun v52 s53 => pIf v52 (pNil a0 (pField 2 a0 (fun v54 => pLoad w0 1 v54 s53 (fun g55 => AC Tryz.prog w0 n_spec_l12Union ([Value.agg (⟨[cellOf a2 0, cellOf a2 1, cellOf a2 2, cellOf a2 3, cellOf a2 4]⟩), Value.agg (⟨[cellOf a4 0, cellOf a4 1, cellOf a4 2, cellOf a4 3, cellOf a4 4]⟩)]) s53 (fun v56 s57 => (Stay w0 s53 s57 v54 1) ∧ (pBin Tryz.prog 3 BinOp.add (g55 0) v56 (fun v58 => pNil a0 (pField 2 a0 (fun v59 => pVal false 1 v58 (pStore v59 [v58] s57 (fun s60 => pNil a0 (pField 1 a0 (fun v61 => pLoad w0 1 v61 s60 (fun g62 => AC Tryz.prog w0 n_spec_l3Walk ([a1, Value.agg (⟨[cellOf a2 0, cellOf a2 1, cellOf a2 2, cellOf a2 3, cellOf a2 4]⟩), Value.agg (⟨[cellOf a4 0, cellOf a4 1, cellOf a4 2, cellOf a4 3, cellOf a4 4]⟩)]) s60 (fun v63 s64 => (Stay w0 s60 s64 v61 1) ∧ (pAppendS w0 80 5 64 (g62 0) v63 s64 (fun v65 s66 => pNil a0 (pField 1 a0 (fun v67 => pVal false 1 v65 (pStore v67 [v65] s66 (fun s68 => R (Value.tuple ⟨[]⟩) s68))))))))))))))))))))) (pNil a0 (pField 2 a0 (fun v69 => pLoad w0 1 v69 s53 (fun g70 => pBin Tryz.prog 3 BinOp.add (g70 0) (Value.int IntKind.i64 1) (fun v71 => pNil a0 (pField 2 a0 (fun v72 => pVal false 1 v71 (pStore v72 [v71] s53 (fun s73 => pNil a0 (pField 0 a0 (fun v74 => pLoad w0 1 v74 s73 (fun g75 => AC Tryz.prog w0 n_spec_l11Marked [g75 0, a1] s73 (fun v76 s77 => pIf v76 (pNil a0 (pField 1 a0 (fun v78 => pLoad w0 1 v78 s77 (fun g79 => AC Tryz.prog w0 n_spec_l3Part ([a1, Value.agg (⟨[cellOf a2 0, cellOf a2 1, cellOf a2 2, cellOf a2 3, cellOf a2 4]⟩), Value.agg (⟨[cellOf a4 0, cellOf a4 1, cellOf a4 2, cellOf a4 3, cellOf a4 4]⟩)]) s77 (fun v80 s81 => (Stay w0 s77 s81 v78 1) ∧ (pAppendS w0 80 5 64 (g79 0) v80 s81 (fun v82 s83 => pNil a0 (pField 1 a0 (fun v84 => pVal false 1 v82 (pStore v84 [v82] s83 (fun s85 => AC Tryz.prog w0 n_spec_l12Names ([Value.agg (⟨[cellOf a2 0, cellOf a2 1, cellOf a2 2, cellOf a2 3, cellOf a2 4]⟩), Value.agg (⟨[cellOf a4 0, cellOf a4 1, cellOf a4 2, cellOf a4 3, cellOf a4 4]⟩)]) s85 (fun v86 s87 => pLoop (fun l88 K89 s90 => pLen (vget l88 2) (fun v91 => pBin Tryz.prog 3 BinOp.lss (vget l88 3) v91 (fun v92 => pIf v92 (pIndexAddr 1 (vget l88 2) (vget l88 3) (fun v93 => pLoad w0 1 v93 s90 (fun g94 => AC Tryz.prog w0 n_spec_l3Path [vget l88 1, g94 0] s90 (fun v95 s96 => AC Tryz.prog w0 n_p_spec_l12Look_leads [vget l88 0, v95] s96 (fun v97 s98 => pIf v97 (pIndexAddr 1 (vget l88 2) (vget l88 3) (fun v99 => pLoad w0 1 v99 s98 (fun g100 => AC Tryz.prog w0 n_spec_l12Kid ([Value.agg (⟨[vget l88 4, vget l88 5, vget l88 6, vget l88 7, vget l88 8]⟩), g100 0]) s98 (fun v101 s102 => pExtract v101 0 (fun v103 => pExtract v101 1 (fun v104 => pVal true 5 v103 (pIndexAddr 1 (vget l88 2) (vget l88 3) (fun v105 => pLoad w0 1 v105 s102 (fun g106 => AC Tryz.prog w0 n_spec_l12Kid ([Value.agg (⟨[vget l88 9, vget l88 10, vget l88 11, vget l88 12, vget l88 13]⟩), g106 0]) s102 (fun v107 s108 => pExtract v107 0 (fun v109 => pExtract v107 1 (fun v110 => pVal true 5 v109 (AC Tryz.prog w0 n_p_spec_l12Look_at ([vget l88 0, v95, Value.agg (⟨[cellOf v103 0, cellOf v103 1, cellOf v103 2, cellOf v103 3, cellOf v103 4]⟩), v104, Value.agg (⟨[cellOf v109 0, cellOf v109 1, cellOf v109 2, cellOf v109 3, cellOf v109 4]⟩), v110]) s108 (fun v111 s112 => pBin Tryz.prog 3 BinOp.add (vget l88 3) (Value.int IntKind.i64 1) (fun v113 => K89 AX.normal [vget l88 0, vget l88 1, vget l88 2, v113, vget l88 4, vget l88 5, vget l88 6, vget l88 7, vget l88 8, vget l88 9, vget l88 10, vget l88 11, vget l88 12, vget l88 13] s112))))))))))))))) (pBin Tryz.prog 3 BinOp.add (vget l88 3) (Value.int IntKind.i64 1) (fun v114 => K89 AX.normal [vget l88 0, vget l88 1, vget l88 2, v114, vget l88 4, vget l88 5, vget l88 6, vget l88 7, vget l88 8, vget l88 9, vget l88 10, vget l88 11, vget l88 12, vget l88 13] s98))))))) (K89 (AX.exit 1) [vget l88 0, vget l88 1, vget l88 2, vget l88 3, vget l88 4, vget l88 5, vget l88 6, vget l88 7, vget l88 8, vget l88 9, vget l88 10, vget l88 11, vget l88 12, vget l88 13] s90)))) [a0, a1, v86, Value.int IntKind.i64 0, cellOf a2 0, cellOf a2 1, cellOf a2 2, cellOf a2 3, cellOf a2 4, cellOf a4 0, cellOf a4 1, cellOf a4 2, cellOf a4 3, cellOf a4 4] s87 (fun x115 l116 s117 => match x115 with | .normal => R (Value.tuple ⟨[]⟩) s117 | .ret => R (Value.tuple ⟨[]⟩) s117 | .exit i118 => (match Nat.beq i118 1 with | true => R (Value.tuple ⟨[]⟩) s117 | false => False)))))))))))))) (AC Tryz.prog w0 n_spec_l12Names ([Value.agg (⟨[cellOf a2 0, cellOf a2 1, cellOf a2 2, cellOf a2 3, cellOf a2 4]⟩), Value.agg (⟨[cellOf a4 0, cellOf a4 1, cellOf a4 2, cellOf a4 3, cellOf a4 4]⟩)]) s77 (fun v119 s120 => pLoop (fun l121 K122 s123 => pLen (vget l121 2) (fun v124 => pBin Tryz.prog 3 BinOp.lss (vget l121 3) v124 (fun v125 => pIf v125 (pIndexAddr 1 (vget l121 2) (vget l121 3) (fun v126 => pLoad w0 1 v126 s123 (fun g127 => AC Tryz.prog w0 n_spec_l3Path [vget l121 1, g127 0] s123 (fun v128 s129 => AC Tryz.prog w0 n_p_spec_l12Look_leads [vget l121 0, v128] s129 (fun v130 s131 => pIf v130 (pIndexAddr 1 (vget l121 2) (vget l121 3) (fun v132 => pLoad w0 1 v132 s131 (fun g133 => AC Tryz.prog w0 n_spec_l12Kid ([Value.agg (⟨[vget l121 4, vget l121 5, vget l121 6, vget l121 7, vget l121 8]⟩), g133 0]) s131 (fun v134 s135 => pExtract v134 0 (fun v136 => pExtract v134 1 (fun v137 => pVal true 5 v136 (pIndexAddr 1 (vget l121 2) (vget l121 3) (fun v138 => pLoad w0 1 v138 s135 (fun g139 => AC Tryz.prog w0 n_spec_l12Kid ([Value.agg (⟨[vget l121 9, vget l121 10, vget l121 11, vget l121 12, vget l121 13]⟩), g139 0]) s135 (fun v140 s141 => pExtract v140 0 (fun v142 => pExtract v140 1 (fun v143 => pVal true 5 v142 (AC Tryz.prog w0 n_p_spec_l12Look_at ([vget l121 0, v128, Value.agg (⟨[cellOf v136 0, cellOf v136 1, cellOf v136 2, cellOf v136 3, cellOf v136 4]⟩), v137, Value.agg (⟨[cellOf v142 0, cellOf v142 1, cellOf v142 2, cellOf v142 3, cellOf v142 4]⟩), v143]) s141 (fun v144 s145 => pBin Tryz.prog 3 BinOp.add (vget l121 3) (Value.int IntKind.i64 1) (fun v146 => K122 AX.normal [vget l121 0, vget l121 1, vget l121 2, v146, vget l121 4, vget l121 5, vget l121 6, vget l121 7, vget l121 8, vget l121 9, vget l121 10, vget l121 11, vget l121 12, vget l121 13] s145))))))))))))))) (pBin Tryz.prog 3 BinOp.add (vget l121 3) (Value.int IntKind.i64 1) (fun v147 => K122 AX.normal [vget l121 0, vget l121 1, vget l121 2, v147, vget l121 4, vget l121 5, vget l121 6, vget l121 7, vget l121 8, vget l121 9, vget l121 10, vget l121 11, vget l121 12, vget l121 13] s131))))))) (K122 (AX.exit 1) [vget l121 0, vget l121 1, vget l121 2, vget l121 3, vget l121 4, vget l121 5, vget l121 6, vget l121 7, vget l121 8, vget l121 9, vget l121 10, vget l121 11, vget l121 12, vget l121 13] s123)))) [a0, a1, v119, Value.int IntKind.i64 0, cellOf a2 0, cellOf a2 1, cellOf a2 2, cellOf a2 3, cellOf a2 4, cellOf a4 0, cellOf a4 1, cellOf a4 2, cellOf a4 3, cellOf a4 4] s120 (fun x148 l149 s150 => match x148 with | .normal => R (Value.tuple ⟨[]⟩) s150 | .ret => R (Value.tuple ⟨[]⟩) s150 | .exit i151 => (match Nat.beq i151 1 with | true => R (Value.tuple ⟨[]⟩) s150 | false => False)))))))))))))))))))))))))))))
theorem vc_p_spec_l12Look_at_eq (w0 : World) (a0 a1 a2 a3 a4 a5 : Value) (σ : Vw) (R : Value → Vw → Prop) : vc_p_spec_l12Look_at w0 a0 a1 a2 a3 a4 a5 σ R = den Tryz.prog w0 kp_p_spec_l12Look_at esc_p_spec_l12Look_at (Tryz.f45.body.getD .skip) (entry Tryz.f45.ntmps [a0, a1, a2, a3, a4, a5]) σ (retK Tryz.prog Tryz.f45.results.toList R) := by kernel_rfl
theorem ac_p_spec_l12Look_at {w0 : World} {a0 a1 a2 a3 a4 a5 : Value} {σ : Vw} {R : Value → Vw → Prop} (h : vc_p_spec_l12Look_at w0 a0 a1 a2 a3 a4 a5 σ R) : AC Tryz.prog w0 n_p_spec_l12Look_at [a0, a1, a2, a3, a4, a5] σ R := by
  refine ac_rule (fn := Tryz.f45) (c := Tryz.f45.body.getD .skip) kp_p_spec_l12Look_at esc_p_spec_l12Look_at Tryz.func45 (by kernel_rfl) (by kernel_rfl) ?_
  rw [← vc_p_spec_l12Look_at_eq]
  exact h

/-- impl.markOk -/
def kp_impl_markOk : Nat → Keep
  | _ => ⟨[], [], [], .done, []⟩
def esc_impl_markOk : Nat → Bool
  | _ => false
def vc_impl_markOk (w0 : World) (a0 : Value) (σ : Vw) (R : Value → Vw → Prop) : Prop :=
  pVal true 2 a0 (AC Tryz.prog w0 n_impl_namesOk [cellOf a0 0, Value.int IntKind.i64 0] σ (fun v0 s1 => pIf v0 (pLen (cellOf a0 0) (fun v2 => pBin Tryz.prog 3 BinOp.gtr v2 (Value.int IntKind.i64 0) (fun v3 => pIf v3 (R (Value.bool true) s1) (R (cellOf a0 1) s1)))) (R (Value.bool false) s1)))
theorem vc_impl_markOk_eq (w0 : World) (a0 : Value) (σ : Vw) (R : Value → Vw → Prop) : vc_impl_markOk w0 a0 σ R = den Tryz.prog w0 kp_impl_markOk esc_impl_markOk (Tryz.f48.body.getD .skip) (entry Tryz.f48.ntmps [a0]) σ (retK Tryz.prog Tryz.f48.results.toList R) := by kernel_rfl
theorem ac_impl_markOk {w0 : World} {a0 : Value} {σ : Vw} {R : Value → Vw → Prop} (h : vc_impl_markOk w0 a0 σ R) : AC Tryz.prog w0 n_impl_markOk [a0] σ R := by
  refine ac_rule (fn := Tryz.f48) (c := Tryz.f48.body.getD .skip) kp_impl_markOk esc_impl_markOk Tryz.func48 (by kernel_rfl) (by kernel_rfl) ?_
  rw [← vc_impl_markOk_eq]
  exact h

end Go.Proofs.YtkbhjejalkbogaaGreat

/- What each function owes, reckoned out, part 2. MADE BY PROGRAM (emit.py). -/
set_option linter.unusedVariables false
namespace Go.Proofs.YtkbhjejalkbogaaGreat
open Go Go.Av

/-- laws.szStringS -/
def kp_laws_szStringS : Nat → Keep
  | 5 => ⟨[0, 1, 4, 5], [], [], .done, []⟩
  | _ => ⟨[], [], [], .done, []⟩
def esc_laws_szStringS : Nat → Bool
  | _ => false
def vc_laws_szStringS (w0 : World) (a0 a1 : Value) (σ : Vw) (R : Value → Vw → Prop) : Prop :=
  pLen a0 (fun v0 => pBin Tryz.prog 3 BinOp.sub a1 v0 (fun v1 => pBin Tryz.prog 3 BinOp.lss v1 (Value.int IntKind.i64 0) (fun v2 => pIf v2 (R (Value.int IntKind.i64 (-1)) σ) (pLoop (fun l3 K4 s5 => pLen (vget l3 0) (fun v6 => pBin Tryz.prog 3 BinOp.lss (vget l3 3) v6 (fun v7 => pIf v7 (pIndexAddr 1 (vget l3 0) (vget l3 3) (fun v8 => pLoad w0 1 v8 s5 (fun g9 => pLenS (g9 0) (fun v10 => pBin Tryz.prog 3 BinOp.sub (vget l3 1) v10 (fun v11 => pBin Tryz.prog 3 BinOp.lss v11 (Value.int IntKind.i64 0) (fun v12 => pIf v12 (K4 AX.ret [vget l3 0, v11, Value.int IntKind.i64 (-1), vget l3 3] s5) (pBin Tryz.prog 3 BinOp.add (vget l3 3) (Value.int IntKind.i64 1) (fun v13 => K4 AX.normal [vget l3 0, v11, vget l3 2, v13] s5)))))))) (K4 (AX.exit 0) [vget l3 0, vget l3 1, vget l3 2, vget l3 3] s5)))) [a0, v1, Value.int IntKind.i64 0, Value.int IntKind.i64 0] σ (fun x14 l15 s16 => match x14 with | .normal => R (vget l15 1) s16 | .ret => R (vget l15 2) s16 | .exit i17 => (match Nat.beq i17 0 with | true => R (vget l15 1) s16 | false => False))))))
theorem vc_laws_szStringS_eq (w0 : World) (a0 a1 : Value) (σ : Vw) (R : Value → Vw → Prop) : vc_laws_szStringS w0 a0 a1 σ R = den Tryz.prog w0 kp_laws_szStringS esc_laws_szStringS (Tryz.f52.body.getD .skip) (entry Tryz.f52.ntmps [a0, a1]) σ (retK Tryz.prog Tryz.f52.results.toList R) := by kernel_rfl
theorem ac_laws_szStringS {w0 : World} {a0 a1 : Value} {σ : Vw} {R : Value → Vw → Prop} (h : vc_laws_szStringS w0 a0 a1 σ R) : AC Tryz.prog w0 n_laws_szStringS [a0, a1] σ R := by
  refine ac_rule (fn := Tryz.f52) (c := Tryz.f52.body.getD .skip) kp_laws_szStringS esc_laws_szStringS Tryz.func52 (by kernel_rfl) (by kernel_rfl) ?_
  rw [← vc_laws_szStringS_eq]
  exact h

/-- laws.szTreeS -/
def kp_laws_szTreeS : Nat → Keep
  | 5 => ⟨[0, 1, 4, 5], [], [], .done, []⟩
  | _ => ⟨[], [], [], .done, []⟩
def esc_laws_szTreeS : Nat → Bool
  | _ => false
def vc_laws_szTreeS (w0 : World) (a0 a1 : Value) (σ : Vw) (R : Value → Vw → Prop) : Prop :=
  pLen a0 (fun v0 => pBin Tryz.prog 3 BinOp.sub a1 v0 (fun v1 => pBin Tryz.prog 3 BinOp.lss v1 (Value.int IntKind.i64 0) (fun v2 => pIf v2 (R (Value.int IntKind.i64 (-1)) σ) (pLoop (fun l3 K4 s5 => pLen (vget l3 0) (fun v6 => pBin Tryz.prog 3 BinOp.lss (vget l3 3) v6 (fun v7 => pIf v7 (pIndexAddr 5 (vget l3 0) (vget l3 3) (fun v8 => pLoad w0 5 v8 s5 (fun g9 => AC Tryz.prog w0 n_laws_szTree ([Value.agg (⟨[g9 0, g9 1, g9 2, g9 3, g9 4]⟩), vget l3 1]) s5 (fun v10 s11 => pBin Tryz.prog 3 BinOp.lss v10 (Value.int IntKind.i64 0) (fun v12 => pIf v12 (K4 AX.ret [vget l3 0, v10, Value.int IntKind.i64 (-1), vget l3 3] s11) (pBin Tryz.prog 3 BinOp.add (vget l3 3) (Value.int IntKind.i64 1) (fun v13 => K4 AX.normal [vget l3 0, v10, vget l3 2, v13] s11))))))) (K4 (AX.exit 0) [vget l3 0, vget l3 1, vget l3 2, vget l3 3] s5)))) [a0, v1, Value.int IntKind.i64 0, Value.int IntKind.i64 0] σ (fun x14 l15 s16 => match x14 with | .normal => R (vget l15 1) s16 | .ret => R (vget l15 2) s16 | .exit i17 => (match Nat.beq i17 0 with | true => R (vget l15 1) s16 | false => False))))))
theorem vc_laws_szTreeS_eq (w0 : World) (a0 a1 : Value) (σ : Vw) (R : Value → Vw → Prop) : vc_laws_szTreeS w0 a0 a1 σ R = den Tryz.prog w0 kp_laws_szTreeS esc_laws_szTreeS (Tryz.f53.body.getD .skip) (entry Tryz.f53.ntmps [a0, a1]) σ (retK Tryz.prog Tryz.f53.results.toList R) := by kernel_rfl
theorem ac_laws_szTreeS {w0 : World} {a0 a1 : Value} {σ : Vw} {R : Value → Vw → Prop} (h : vc_laws_szTreeS w0 a0 a1 σ R) : AC Tryz.prog w0 n_laws_szTreeS [a0, a1] σ R := by
  refine ac_rule (fn := Tryz.f53) (c := Tryz.f53.body.getD .skip) kp_laws_szTreeS esc_laws_szTreeS Tryz.func53 (by kernel_rfl) (by kernel_rfl) ?_
  rw [← vc_laws_szTreeS_eq]
  exact h

/-- laws.szMark -/
def kp_laws_szMark : Nat → Keep
  | _ => ⟨[], [], [], .done, []⟩
def esc_laws_szMark : Nat → Bool
  | _ => false
def vc_laws_szMark (w0 : World) (a0 a1 : Value) (σ : Vw) (R : Value → Vw → Prop) : Prop :=
  pVal true 2 a0 (AC Tryz.prog w0 n_laws_szStringS [cellOf a0 0, a1] σ (fun v0 s1 => pBin Tryz.prog 3 BinOp.lss v0 (Value.int IntKind.i64 0) (fun v2 => pIf v2 (R (Value.int IntKind.i64 (-1)) s1) (R v0 s1))))
theorem vc_laws_szMark_eq (w0 : World) (a0 a1 : Value) (σ : Vw) (R : Value → Vw → Prop) : vc_laws_szMark w0 a0 a1 σ R = den Tryz.prog w0 kp_laws_szMark esc_laws_szMark (Tryz.f54.body.getD .skip) (entry Tryz.f54.ntmps [a0, a1]) σ (retK Tryz.prog Tryz.f54.results.toList R) := by kernel_rfl
theorem ac_laws_szMark {w0 : World} {a0 a1 : Value} {σ : Vw} {R : Value → Vw → Prop} (h : vc_laws_szMark w0 a0 a1 σ R) : AC Tryz.prog w0 n_laws_szMark [a0, a1] σ R := by
  refine ac_rule (fn := Tryz.f54) (c := Tryz.f54.body.getD .skip) kp_laws_szMark esc_laws_szMark Tryz.func54 (by kernel_rfl) (by kernel_rfl) ?_
  rw [← vc_laws_szMark_eq]
  exact h

/-- laws.toStringS -/
def kp_laws_toStringS : Nat → Keep
  | 3 => ⟨[0, 3, 4], [], [], .done, []⟩
  | _ => ⟨[], [], [], .done, []⟩
def esc_laws_toStringS : Nat → Bool
  | _ => false
def vc_laws_toStringS (w0 : World) (a0 : Value) (σ : Vw) (R : Value → Vw → Prop) : Prop :=
  pLen a0 (fun v0 => pMake w0 9 1 16 ([Value.string ({ data := #[] })]) v0 v0 σ (fun v1 s2 => pLoop (fun l3 K4 s5 => pLen (vget l3 0) (fun v6 => pBin Tryz.prog 3 BinOp.lss (vget l3 2) v6 (fun v7 => pIf v7 (pIndexAddr 1 (vget l3 0) (vget l3 2) (fun v8 => pLoad w0 1 v8 s5 (fun g9 => pIndexAddr 1 (vget l3 1) (vget l3 2) (fun v10 => pVal false 1 (g9 0) (pStore v10 [g9 0] s5 (fun s11 => pBin Tryz.prog 3 BinOp.add (vget l3 2) (Value.int IntKind.i64 1) (fun v12 => K4 AX.normal [vget l3 0, vget l3 1, v12] s11))))))) (K4 (AX.exit 0) [vget l3 0, vget l3 1, vget l3 2] s5)))) [a0, v1, Value.int IntKind.i64 0] s2 (fun x13 l14 s15 => match x13 with | .normal => R (vget l14 1) s15 | .ret => False | .exit i16 => (match Nat.beq i16 0 with | true => R (vget l14 1) s15 | false => False))))
theorem vc_laws_toStringS_eq (w0 : World) (a0 : Value) (σ : Vw) (R : Value → Vw → Prop) : vc_laws_toStringS w0 a0 σ R = den Tryz.prog w0 kp_laws_toStringS esc_laws_toStringS (Tryz.f55.body.getD .skip) (entry Tryz.f55.ntmps [a0]) σ (retK Tryz.prog Tryz.f55.results.toList R) := by kernel_rfl
theorem ac_laws_toStringS {w0 : World} {a0 : Value} {σ : Vw} {R : Value → Vw → Prop} (h : vc_laws_toStringS w0 a0 σ R) : AC Tryz.prog w0 n_laws_toStringS [a0] σ R := by
  refine ac_rule (fn := Tryz.f55) (c := Tryz.f55.body.getD .skip) kp_laws_toStringS esc_laws_toStringS Tryz.func55 (by kernel_rfl) (by kernel_rfl) ?_
  rw [← vc_laws_toStringS_eq]
  exact h

/-- laws.toTreeS -/
def kp_laws_toTreeS : Nat → Keep
  | 3 => ⟨[0, 3, 4], [], [], .done, []⟩
  | _ => ⟨[], [], [], .done, []⟩
def esc_laws_toTreeS : Nat → Bool
  | _ => false
def vc_laws_toTreeS (w0 : World) (a0 : Value) (σ : Vw) (R : Value → Vw → Prop) : Prop :=
  pLen a0 (fun v0 => pMake w0 26 5 80 ([Value.bool false, Value.int IntKind.i64 0, Value.string ({ data := #[] }), Value.slice Option.none 0 0, Value.slice Option.none 0 0]) v0 v0 σ (fun v1 s2 => pLoop (fun l3 K4 s5 => pLen (vget l3 0) (fun v6 => pBin Tryz.prog 3 BinOp.lss (vget l3 2) v6 (fun v7 => pIf v7 (pIndexAddr 5 (vget l3 0) (vget l3 2) (fun v8 => pLoad w0 5 v8 s5 (fun g9 => AC Tryz.prog w0 n_laws_toTree ([Value.agg (⟨[g9 0, g9 1, g9 2, g9 3, g9 4]⟩)]) s5 (fun v10 s11 => pIndexAddr 5 (vget l3 1) (vget l3 2) (fun v12 => pVal true 5 v10 (pStore v12 [cellOf v10 0, cellOf v10 1, cellOf v10 2, cellOf v10 3, cellOf v10 4] s11 (fun s13 => pBin Tryz.prog 3 BinOp.add (vget l3 2) (Value.int IntKind.i64 1) (fun v14 => K4 AX.normal [vget l3 0, vget l3 1, v14] s13)))))))) (K4 (AX.exit 0) [vget l3 0, vget l3 1, vget l3 2] s5)))) [a0, v1, Value.int IntKind.i64 0] s2 (fun x15 l16 s17 => match x15 with | .normal => R (vget l16 1) s17 | .ret => False | .exit i18 => (match Nat.beq i18 0 with | true => R (vget l16 1) s17 | false => False))))
theorem vc_laws_toTreeS_eq (w0 : World) (a0 : Value) (σ : Vw) (R : Value → Vw → Prop) : vc_laws_toTreeS w0 a0 σ R = den Tryz.prog w0 kp_laws_toTreeS esc_laws_toTreeS (Tryz.f56.body.getD .skip) (entry Tryz.f56.ntmps [a0]) σ (retK Tryz.prog Tryz.f56.results.toList R) := by kernel_rfl
theorem ac_laws_toTreeS {w0 : World} {a0 : Value} {σ : Vw} {R : Value → Vw → Prop} (h : vc_laws_toTreeS w0 a0 σ R) : AC Tryz.prog w0 n_laws_toTreeS [a0] σ R := by
  refine ac_rule (fn := Tryz.f56) (c := Tryz.f56.body.getD .skip) kp_laws_toTreeS esc_laws_toTreeS Tryz.func56 (by kernel_rfl) (by kernel_rfl) ?_
  rw [← vc_laws_toTreeS_eq]
  exact h

/-- laws.toMark -/
def kp_laws_toMark : Nat → Keep
  | _ => ⟨[], [], [], .done, []⟩
def esc_laws_toMark : Nat → Bool
  | _ => false
def vc_laws_toMark (w0 : World) (a0 : Value) (σ : Vw) (R : Value → Vw → Prop) : Prop :=
  pVal true 2 a0 (AC Tryz.prog w0 n_laws_toStringS [cellOf a0 0] σ (fun v0 s1 => pVal false 1 v0 (pVal false 1 (cellOf a0 1) (pVal true 2 (Value.agg (⟨[v0, cellOf a0 1]⟩)) (R (Value.agg (⟨[v0, cellOf a0 1]⟩)) s1)))))
theorem vc_laws_toMark_eq (w0 : World) (a0 : Value) (σ : Vw) (R : Value → Vw → Prop) : vc_laws_toMark w0 a0 σ R = den Tryz.prog w0 kp_laws_toMark esc_laws_toMark (Tryz.f57.body.getD .skip) (entry Tryz.f57.ntmps [a0]) σ (retK Tryz.prog Tryz.f57.results.toList R) := by kernel_rfl
theorem ac_laws_toMark {w0 : World} {a0 : Value} {σ : Vw} {R : Value → Vw → Prop} (h : vc_laws_toMark w0 a0 σ R) : AC Tryz.prog w0 n_laws_toMark [a0] σ R := by
  refine ac_rule (fn := Tryz.f57) (c := Tryz.f57.body.getD .skip) kp_laws_toMark esc_laws_toMark Tryz.func57 (by kernel_rfl) (by kernel_rfl) ?_
  rw [← vc_laws_toMark_eq]
  exact h

/-- laws.eqEntry -/
def kp_laws_eqEntry : Nat → Keep
  | _ => ⟨[], [], [], .done, []⟩
def esc_laws_eqEntry : Nat → Bool
  | _ => false
def vc_laws_eqEntry (w0 : World) (a0 a1 : Value) (σ : Vw) (R : Value → Vw → Prop) : Prop :=
  pVal true 5 a0 (pVal true 5 a1 (AC Tryz.prog w0 n_laws_eqStringS [cellOf a0 0, cellOf a1 0] σ (fun v0 s1 => pUn UnOp.not v0 (fun v2 => pIf v2 (R (Value.bool false) s1) (pBin Tryz.prog 3 BinOp.neq (cellOf a0 1) (cellOf a1 1) (fun v3 => pIf v3 (R (Value.bool false) s1) (pBin Tryz.prog 4 BinOp.neq (cellOf a0 2) (cellOf a1 2) (fun v4 => pIf v4 (R (Value.bool false) s1) (pBin Tryz.prog 3 BinOp.neq (cellOf a0 3) (cellOf a1 3) (fun v5 => pIf v5 (R (Value.bool false) s1) (pBin Tryz.prog 9 BinOp.neq (cellOf a0 4) (cellOf a1 4) (fun v6 => pIf v6 (R (Value.bool false) s1) (R (Value.bool true) s1)))))))))))))
theorem vc_laws_eqEntry_eq (w0 : World) (a0 a1 : Value) (σ : Vw) (R : Value → Vw → Prop) : vc_laws_eqEntry w0 a0 a1 σ R = den Tryz.prog w0 kp_laws_eqEntry esc_laws_eqEntry (Tryz.f58.body.getD .skip) (entry Tryz.f58.ntmps [a0, a1]) σ (retK Tryz.prog Tryz.f58.results.toList R) := by kernel_rfl
theorem ac_laws_eqEntry {w0 : World} {a0 a1 : Value} {σ : Vw} {R : Value → Vw → Prop} (h : vc_laws_eqEntry w0 a0 a1 σ R) : AC Tryz.prog w0 n_laws_eqEntry [a0, a1] σ R := by
  refine ac_rule (fn := Tryz.f58) (c := Tryz.f58.body.getD .skip) kp_laws_eqEntry esc_laws_eqEntry Tryz.func58 (by kernel_rfl) (by kernel_rfl) ?_
  rw [← vc_laws_eqEntry_eq]
  exact h

/-- laws.eqStringS -/
def kp_laws_eqStringS : Nat → Keep
  | 4 => ⟨[0, 1, 4, 5], [], [], .done, []⟩
  | 6 => ⟨[], [], [], .step 0 (.step 1 (.step 2 (.step 3 (.step 4 (.step 5 (.step 6 (.step 7 (.step 8 (.done))))))))), [(2, [0, 1]), (3, [0, 1, 2]), (6, [4, 5]), (7, [4, 5, 6]), (8, [0, 1, 2, 3, 4, 5, 6, 7])]⟩
  | _ => ⟨[], [], [], .done, []⟩
def esc_laws_eqStringS : Nat → Bool
  | _ => false
def vc_laws_eqStringS (w0 : World) (a0 a1 : Value) (σ : Vw) (R : Value → Vw → Prop) : Prop :=
  pLen a0 (fun v0 => pLen a1 (fun v1 => pBin Tryz.prog 3 BinOp.neq v0 v1 (fun v2 => pIf v2 (R (Value.bool false) σ) (pLoop (fun l3 K4 s5 => pLen (vget l3 0) (fun v6 => pBin Tryz.prog 3 BinOp.lss (vget l3 3) v6 (fun v7 => pIf v7 (pIndexAddr 1 (vget l3 0) (vget l3 3) (fun v8 => pLoad w0 1 v8 s5 (fun g9 => pIndexAddr 1 (vget l3 1) (vget l3 3) (fun v10 => pLoad w0 1 v10 s5 (fun g11 => pBin Tryz.prog 9 BinOp.neq (g9 0) (g11 0) (fun v12 => pIf v12 (K4 AX.ret [vget l3 0, vget l3 1, Value.bool false, vget l3 3] s5) (pBin Tryz.prog 3 BinOp.add (vget l3 3) (Value.int IntKind.i64 1) (fun v13 => K4 AX.normal [vget l3 0, vget l3 1, vget l3 2, v13] s5)))))))) (K4 (AX.exit 0) [vget l3 0, vget l3 1, vget l3 2, vget l3 3] s5)))) [a0, a1, Value.bool false, Value.int IntKind.i64 0] σ (fun x14 l15 s16 => match x14 with | .normal => R (Value.bool true) s16 | .ret => R (vget l15 2) s16 | .exit i17 => (match Nat.beq i17 0 with | true => R (Value.bool true) s16 | false => False))))))
theorem vc_laws_eqStringS_eq (w0 : World) (a0 a1 : Value) (σ : Vw) (R : Value → Vw → Prop) : vc_laws_eqStringS w0 a0 a1 σ R = den Tryz.prog w0 kp_laws_eqStringS esc_laws_eqStringS (Tryz.f59.body.getD .skip) (entry Tryz.f59.ntmps [a0, a1]) σ (retK Tryz.prog Tryz.f59.results.toList R) := by kernel_rfl
theorem ac_laws_eqStringS {w0 : World} {a0 a1 : Value} {σ : Vw} {R : Value → Vw → Prop} (h : vc_laws_eqStringS w0 a0 a1 σ R) : AC Tryz.prog w0 n_laws_eqStringS [a0, a1] σ R := by
  refine ac_rule (fn := Tryz.f59) (c := Tryz.f59.body.getD .skip) kp_laws_eqStringS esc_laws_eqStringS Tryz.func59 (by kernel_rfl) (by kernel_rfl) ?_
  rw [← vc_laws_eqStringS_eq]
  exact h

/-- laws.eqTreeS -/
def kp_laws_eqTreeS : Nat → Keep
  | 4 => ⟨[0, 1, 4, 5], [], [], .done, []⟩
  | 6 => ⟨[], [], [], .step 0 (.step 1 (.step 2 (.step 3 (.step 4 (.step 5 (.step 6 (.step 7 (.step 8 (.step 9 (.done)))))))))), [(2, [0, 1]), (3, [0, 1, 2]), (6, [4, 5]), (7, [4, 5, 6]), (8, [0, 1, 2, 3, 4, 5, 6, 7]), (9, [0, 1, 2, 3, 4, 5, 6, 7, 8])]⟩
  | _ => ⟨[], [], [], .done, []⟩
def esc_laws_eqTreeS : Nat → Bool
  | _ => false
def vc_laws_eqTreeS (w0 : World) (a0 a1 : Value) (σ : Vw) (R : Value → Vw → Prop) : Prop :=
  pLen a0 (fun v0 => pLen a1 (fun v1 => pBin Tryz.prog 3 BinOp.neq v0 v1 (fun v2 => pIf v2 (R (Value.bool false) σ) (pLoop (fun l3 K4 s5 => pLen (vget l3 0) (fun v6 => pBin Tryz.prog 3 BinOp.lss (vget l3 3) v6 (fun v7 => pIf v7 (pIndexAddr 5 (vget l3 0) (vget l3 3) (fun v8 => pLoad w0 5 v8 s5 (fun g9 => pIndexAddr 5 (vget l3 1) (vget l3 3) (fun v10 => pLoad w0 5 v10 s5 (fun g11 => AC Tryz.prog w0 n_laws_eqTree ([Value.agg (⟨[g9 0, g9 1, g9 2, g9 3, g9 4]⟩), Value.agg (⟨[g11 0, g11 1, g11 2, g11 3, g11 4]⟩)]) s5 (fun v12 s13 => pUn UnOp.not v12 (fun v14 => pIf v14 (K4 AX.ret [vget l3 0, vget l3 1, Value.bool false, vget l3 3] s13) (pBin Tryz.prog 3 BinOp.add (vget l3 3) (Value.int IntKind.i64 1) (fun v15 => K4 AX.normal [vget l3 0, vget l3 1, vget l3 2, v15] s13))))))))) (K4 (AX.exit 0) [vget l3 0, vget l3 1, vget l3 2, vget l3 3] s5)))) [a0, a1, Value.bool false, Value.int IntKind.i64 0] σ (fun x16 l17 s18 => match x16 with | .normal => R (Value.bool true) s18 | .ret => R (vget l17 2) s18 | .exit i19 => (match Nat.beq i19 0 with | true => R (Value.bool true) s18 | false => False))))))
theorem vc_laws_eqTreeS_eq (w0 : World) (a0 a1 : Value) (σ : Vw) (R : Value → Vw → Prop) : vc_laws_eqTreeS w0 a0 a1 σ R = den Tryz.prog w0 kp_laws_eqTreeS esc_laws_eqTreeS (Tryz.f60.body.getD .skip) (entry Tryz.f60.ntmps [a0, a1]) σ (retK Tryz.prog Tryz.f60.results.toList R) := by kernel_rfl
theorem ac_laws_eqTreeS {w0 : World} {a0 a1 : Value} {σ : Vw} {R : Value → Vw → Prop} (h : vc_laws_eqTreeS w0 a0 a1 σ R) : AC Tryz.prog w0 n_laws_eqTreeS [a0, a1] σ R := by
  refine ac_rule (fn := Tryz.f60) (c := Tryz.f60.body.getD .skip) kp_laws_eqTreeS esc_laws_eqTreeS Tryz.func60 (by kernel_rfl) (by kernel_rfl) ?_
  rw [← vc_laws_eqTreeS_eq]
  exact h

/-- laws.eqMark -/
def kp_laws_eqMark : Nat → Keep
  | _ => ⟨[], [], [], .done, []⟩
def esc_laws_eqMark : Nat → Bool
  | _ => false
def vc_laws_eqMark (w0 : World) (a0 a1 : Value) (σ : Vw) (R : Value → Vw → Prop) : Prop :=
  pVal true 2 a0 (pVal true 2 a1 (AC Tryz.prog w0 n_laws_eqStringS [cellOf a0 0, cellOf a1 0] σ (fun v0 s1 => pUn UnOp.not v0 (fun v2 => pIf v2 (R (Value.bool false) s1) (pBin Tryz.prog 4 BinOp.neq (cellOf a0 1) (cellOf a1 1) (fun v3 => pIf v3 (R (Value.bool false) s1) (R (Value.bool true) s1)))))))
theorem vc_laws_eqMark_eq (w0 : World) (a0 a1 : Value) (σ : Vw) (R : Value → Vw → Prop) : vc_laws_eqMark w0 a0 a1 σ R = den Tryz.prog w0 kp_laws_eqMark esc_laws_eqMark (Tryz.f61.body.getD .skip) (entry Tryz.f61.ntmps [a0, a1]) σ (retK Tryz.prog Tryz.f61.results.toList R) := by kernel_rfl
theorem ac_laws_eqMark {w0 : World} {a0 a1 : Value} {σ : Vw} {R : Value → Vw → Prop} (h : vc_laws_eqMark w0 a0 a1 σ R) : AC Tryz.prog w0 n_laws_eqMark [a0, a1] σ R := by
  refine ac_rule (fn := Tryz.f61) (c := Tryz.f61.body.getD .skip) kp_laws_eqMark esc_laws_eqMark Tryz.func61 (by kernel_rfl) (by kernel_rfl) ?_
  rw [← vc_laws_eqMark_eq]
  exact h

/-- laws.markStringS -/
def kp_laws_markStringS : Nat → Keep
  | 2 => ⟨[0, 1, 5], [], [], .done, []⟩
  | _ => ⟨[], [], [], .done, []⟩
def esc_laws_markStringS : Nat → Bool
  | _ => false
def vc_laws_markStringS (w0 : World) (a0 a1 : Value) (σ : Vw) (R : Value → Vw → Prop) : Prop :=
  pLoop (fun l0 K1 s2 => pLen (vget l0 0) (fun v3 => pBin Tryz.prog 3 BinOp.lss (vget l0 2) v3 (fun v4 => pIf v4 (AC Tryz.prog w0 n_laws_markText [vget l0 1] s2 (fun v5 s6 => pIndexAddr 1 (vget l0 0) (vget l0 2) (fun v7 => pVal false 1 v5 (pStore v7 [v5] s6 (fun s8 => pBin Tryz.prog 3 BinOp.add (vget l0 1) (Value.int IntKind.i64 1) (fun v9 => pBin Tryz.prog 3 BinOp.add (vget l0 2) (Value.int IntKind.i64 1) (fun v10 => K1 AX.normal [vget l0 0, v9, v10] s8))))))) (K1 (AX.exit 0) [vget l0 0, vget l0 1, vget l0 2] s2)))) [a0, a1, Value.int IntKind.i64 0] σ (fun x11 l12 s13 => match x11 with | .normal => R (vget l12 1) s13 | .ret => False | .exit i14 => (match Nat.beq i14 0 with | true => R (vget l12 1) s13 | false => False))
theorem vc_laws_markStringS_eq (w0 : World) (a0 a1 : Value) (σ : Vw) (R : Value → Vw → Prop) : vc_laws_markStringS w0 a0 a1 σ R = den Tryz.prog w0 kp_laws_markStringS esc_laws_markStringS (Tryz.f62.body.getD .skip) (entry Tryz.f62.ntmps [a0, a1]) σ (retK Tryz.prog Tryz.f62.results.toList R) := by kernel_rfl
theorem ac_laws_markStringS {w0 : World} {a0 a1 : Value} {σ : Vw} {R : Value → Vw → Prop} (h : vc_laws_markStringS w0 a0 a1 σ R) : AC Tryz.prog w0 n_laws_markStringS [a0, a1] σ R := by
  refine ac_rule (fn := Tryz.f62) (c := Tryz.f62.body.getD .skip) kp_laws_markStringS esc_laws_markStringS Tryz.func62 (by kernel_rfl) (by kernel_rfl) ?_
  rw [← vc_laws_markStringS_eq]
  exact h

/-- laws.markTreeS -/
def kp_laws_markTreeS : Nat → Keep
  | 2 => ⟨[0, 1, 5], [], [], .done, []⟩
  | _ => ⟨[], [], [], .done, []⟩
def esc_laws_markTreeS : Nat → Bool
  | _ => false
def vc_laws_markTreeS (w0 : World) (a0 a1 : Value) (σ : Vw) (R : Value → Vw → Prop) : Prop :=
  pLoop (fun l0 K1 s2 => pLen (vget l0 0) (fun v3 => pBin Tryz.prog 3 BinOp.lss (vget l0 2) v3 (fun v4 => pIf v4 (pBin Tryz.prog 3 BinOp.rem (vget l0 1) (Value.int IntKind.i64 3) (fun v5 => pBin Tryz.prog 3 BinOp.eql v5 (Value.int IntKind.i64 0) (fun v6 => pIndexAddr 5 (vget l0 0) (vget l0 2) (fun v7 => pField 0 v7 (fun v8 => pVal false 1 v6 (pStore v8 [v6] s2 (fun s9 => pBin Tryz.prog 3 BinOp.add (vget l0 1) (Value.int IntKind.i64 1) (fun v10 => pIndexAddr 5 (vget l0 0) (vget l0 2) (fun v11 => pField 1 v11 (fun v12 => pVal false 1 v10 (pStore v12 [v10] s9 (fun s13 => pBin Tryz.prog 3 BinOp.add v10 (Value.int IntKind.i64 1) (fun v14 => AC Tryz.prog w0 n_laws_markText [v14] s13 (fun v15 s16 => pIndexAddr 5 (vget l0 0) (vget l0 2) (fun v17 => pField 2 v17 (fun v18 => pVal false 1 v15 (pStore v18 [v15] s16 (fun s19 => pBin Tryz.prog 3 BinOp.add v14 (Value.int IntKind.i64 1) (fun v20 => pIndexAddr 5 (vget l0 0) (vget l0 2) (fun v21 => pField 3 v21 (fun v22 => pLoad w0 1 v22 s19 (fun g23 => AC Tryz.prog w0 n_laws_markStringS [g23 0, v20] s19 (fun v24 s25 => pIndexAddr 5 (vget l0 0) (vget l0 2) (fun v26 => pField 4 v26 (fun v27 => pLoad w0 1 v27 s25 (fun g28 => AC Tryz.prog w0 n_laws_markTreeS [g28 0, v24] s25 (fun v29 s30 => pBin Tryz.prog 3 BinOp.add (vget l0 2) (Value.int IntKind.i64 1) (fun v31 => K1 AX.normal [vget l0 0, v29, v31] s30)))))))))))))))))))))))))))) (K1 (AX.exit 0) [vget l0 0, vget l0 1, vget l0 2] s2)))) [a0, a1, Value.int IntKind.i64 0] σ (fun x32 l33 s34 => match x32 with | .normal => R (vget l33 1) s34 | .ret => False | .exit i35 => (match Nat.beq i35 0 with | true => R (vget l33 1) s34 | false => False))
theorem vc_laws_markTreeS_eq (w0 : World) (a0 a1 : Value) (σ : Vw) (R : Value → Vw → Prop) : vc_laws_markTreeS w0 a0 a1 σ R = den Tryz.prog w0 kp_laws_markTreeS esc_laws_markTreeS (Tryz.f63.body.getD .skip) (entry Tryz.f63.ntmps [a0, a1]) σ (retK Tryz.prog Tryz.f63.results.toList R) := by kernel_rfl
theorem ac_laws_markTreeS {w0 : World} {a0 a1 : Value} {σ : Vw} {R : Value → Vw → Prop} (h : vc_laws_markTreeS w0 a0 a1 σ R) : AC Tryz.prog w0 n_laws_markTreeS [a0, a1] σ R := by
  refine ac_rule (fn := Tryz.f63) (c := Tryz.f63.body.getD .skip) kp_laws_markTreeS esc_laws_markTreeS Tryz.func63 (by kernel_rfl) (by kernel_rfl) ?_
  rw [← vc_laws_markTreeS_eq]
  exact h

/-- laws.markText -/
def kp_laws_markText : Nat → Keep
  | 4 => ⟨[0, 3], [], [], .done, []⟩
  | _ => ⟨[], [], [], .done, []⟩
def esc_laws_markText : Nat → Bool
  | 12 => true
  | _ => false
def vc_laws_markText (w0 : World) (a0 : Value) (σ : Vw) (R : Value → Vw → Prop) : Prop :=
  pBin Tryz.prog 3 BinOp.leq a0 (Value.int IntKind.i64 0) (fun v0 => pIf v0 (R (Value.string ({ data := #[109, 48] })) σ) (pLoop (fun l1 K2 s3 => pBin Tryz.prog 3 BinOp.gtr (vget l1 0) (Value.int IntKind.i64 0) (fun v4 => pIf v4 (pBin Tryz.prog 3 BinOp.rem (vget l1 0) (Value.int IntKind.i64 10) (fun v5 => pBin Tryz.prog 3 BinOp.add (Value.int IntKind.i64 48) v5 (fun v6 => pConvInt IntKind.u8 v6 (fun v7 => pVal false 1 v7 (pNew w0 5 [v7] s3 (fun n8 s9 => pStr w0 (Value.slice (Option.some (Addr.mk n8 0 Option.none)) 1 1) s9 (fun v10 => pBin Tryz.prog 9 BinOp.add v10 (vget l1 1) (fun v11 => pBin Tryz.prog 3 BinOp.quo (vget l1 0) (Value.int IntKind.i64 10) (fun v12 => K2 AX.normal [v12, v11] s9))))))))) (K2 (AX.exit 0) [vget l1 0, vget l1 1] s3))) ([a0, Value.string ({ data := #[] })]) σ (fun x13 l14 s15 => match x13 with | .normal => pBin Tryz.prog 9 BinOp.add (Value.string ({ data := #[109] })) (vget l14 1) (fun v16 => R v16 s15) | .ret => False | .exit i17 => (match Nat.beq i17 0 with | true => pBin Tryz.prog 9 BinOp.add (Value.string ({ data := #[109] })) (vget l14 1) (fun v18 => R v18 s15) | false => False))))
theorem vc_laws_markText_eq (w0 : World) (a0 : Value) (σ : Vw) (R : Value → Vw → Prop) : vc_laws_markText w0 a0 σ R = den Tryz.prog w0 kp_laws_markText esc_laws_markText (Tryz.f64.body.getD .skip) (entry Tryz.f64.ntmps [a0]) σ (retK Tryz.prog Tryz.f64.results.toList R) := by kernel_rfl
theorem ac_laws_markText {w0 : World} {a0 : Value} {σ : Vw} {R : Value → Vw → Prop} (h : vc_laws_markText w0 a0 σ R) : AC Tryz.prog w0 n_laws_markText [a0] σ R := by
  refine ac_rule (fn := Tryz.f64) (c := Tryz.f64.body.getD .skip) kp_laws_markText esc_laws_markText Tryz.func64 (by kernel_rfl) (by kernel_rfl) ?_
  rw [← vc_laws_markText_eq]
  exact h

/-- laws.heldStringS -/
def kp_laws_heldStringS : Nat → Keep
  | 2 => ⟨[0, 1, 4, 5], [], [], .done, []⟩
  | 4 => ⟨[], [], [], .step 0 (.step 1 (.step 2 (.step 3 (.step 4 (.step 5 (.step 6 (.done))))))), [(2, [0, 1]), (3, [0, 1, 2]), (5, [4]), (6, [0, 1, 2, 3, 4, 5])]⟩
  | _ => ⟨[], [], [], .done, []⟩
def esc_laws_heldStringS : Nat → Bool
  | _ => false
def vc_laws_heldStringS (w0 : World) (a0 a1 : Value) (σ : Vw) (R : Value → Vw → Prop) : Prop :=
  pLoop (fun l0 K1 s2 => pLen (vget l0 0) (fun v3 => pBin Tryz.prog 3 BinOp.lss (vget l0 3) v3 (fun v4 => pIf v4 (pIndexAddr 1 (vget l0 0) (vget l0 3) (fun v5 => pLoad w0 1 v5 s2 (fun g6 => AC Tryz.prog w0 n_laws_markText [vget l0 1] s2 (fun v7 s8 => (Stay w0 s2 s8 v5 1) ∧ (pBin Tryz.prog 9 BinOp.neq (g6 0) v7 (fun v9 => pIf v9 (K1 AX.ret [vget l0 0, vget l0 1, Value.int IntKind.i64 (-1), vget l0 3] s8) (pBin Tryz.prog 3 BinOp.add (vget l0 1) (Value.int IntKind.i64 1) (fun v10 => pBin Tryz.prog 3 BinOp.add (vget l0 3) (Value.int IntKind.i64 1) (fun v11 => K1 AX.normal [vget l0 0, v10, vget l0 2, v11] s8))))))))) (K1 (AX.exit 0) [vget l0 0, vget l0 1, vget l0 2, vget l0 3] s2)))) [a0, a1, Value.int IntKind.i64 0, Value.int IntKind.i64 0] σ (fun x12 l13 s14 => match x12 with | .normal => R (vget l13 1) s14 | .ret => R (vget l13 2) s14 | .exit i15 => (match Nat.beq i15 0 with | true => R (vget l13 1) s14 | false => False))
theorem vc_laws_heldStringS_eq (w0 : World) (a0 a1 : Value) (σ : Vw) (R : Value → Vw → Prop) : vc_laws_heldStringS w0 a0 a1 σ R = den Tryz.prog w0 kp_laws_heldStringS esc_laws_heldStringS (Tryz.f65.body.getD .skip) (entry Tryz.f65.ntmps [a0, a1]) σ (retK Tryz.prog Tryz.f65.results.toList R) := by kernel_rfl
theorem ac_laws_heldStringS {w0 : World} {a0 a1 : Value} {σ : Vw} {R : Value → Vw → Prop} (h : vc_laws_heldStringS w0 a0 a1 σ R) : AC Tryz.prog w0 n_laws_heldStringS [a0, a1] σ R := by
  refine ac_rule (fn := Tryz.f65) (c := Tryz.f65.body.getD .skip) kp_laws_heldStringS esc_laws_heldStringS Tryz.func65 (by kernel_rfl) (by kernel_rfl) ?_
  rw [← vc_laws_heldStringS_eq]
  exact h

/-- spec.l11MarkOk -/
def kp_spec_l11MarkOk : Nat → Keep
  | _ => ⟨[], [], [], .done, []⟩
def esc_spec_l11MarkOk : Nat → Bool
  | _ => false
def vc_spec_l11MarkOk (w0 : World) (a0 : Value) (σ : Vw) (R : Value → Vw → Prop) : Prop :=
  pVal true 2 a0 (pLen (cellOf a0 0) (fun v0 => pBin Tryz.prog 3 BinOp.eql v0 (Value.int IntKind.i64 0) (fun v1 => pIf v1 (R (cellOf a0 1) σ) (AC Tryz.prog w0 n_spec_l2PathOk [cellOf a0 0] σ (fun v2 s3 => R v2 s3)))))
theorem vc_spec_l11MarkOk_eq (w0 : World) (a0 : Value) (σ : Vw) (R : Value → Vw → Prop) : vc_spec_l11MarkOk w0 a0 σ R = den Tryz.prog w0 kp_spec_l11MarkOk esc_spec_l11MarkOk (Tryz.f67.body.getD .skip) (entry Tryz.f67.ntmps [a0]) σ (retK Tryz.prog Tryz.f67.results.toList R) := by kernel_rfl
theorem ac_spec_l11MarkOk {w0 : World} {a0 : Value} {σ : Vw} {R : Value → Vw → Prop} (h : vc_spec_l11MarkOk w0 a0 σ R) : AC Tryz.prog w0 n_spec_l11MarkOk [a0] σ R := by
  refine ac_rule (fn := Tryz.f67) (c := Tryz.f67.body.getD .skip) kp_spec_l11MarkOk esc_spec_l11MarkOk Tryz.func67 (by kernel_rfl) (by kernel_rfl) ?_
  rw [← vc_spec_l11MarkOk_eq]
  exact h

/-- slices.Compare[[]string,string] -/
def kp_slices_Compare_string_string : Nat → Keep
  | 2 => ⟨[0, 1, 4, 9, 10, 11], [], [], .done, []⟩
  | _ => ⟨[], [], [], .done, []⟩
def esc_slices_Compare_string_string : Nat → Bool
  | _ => false
def vc_slices_Compare_string_string (w0 : World) (a0 a1 : Value) (σ : Vw) (R : Value → Vw → Prop) : Prop :=
  pLen a0 (fun v0 => pLoop (fun l1 K2 s3 => pBin Tryz.prog 3 BinOp.lss (vget l1 5) (vget l1 4) (fun v4 => pIf v4 (pIndexAddr 1 (vget l1 3) (vget l1 5) (fun v5 => pLoad w0 1 v5 s3 (fun g6 => pLen (vget l1 1) (fun v7 => pBin Tryz.prog 3 BinOp.geq (vget l1 5) v7 (fun v8 => pIf v8 (K2 AX.ret [vget l1 0, vget l1 1, Value.int IntKind.i64 1, vget l1 3, vget l1 4, vget l1 5] s3) (pIndexAddr 1 (vget l1 1) (vget l1 5) (fun v9 => pLoad w0 1 v9 s3 (fun g10 => AC Tryz.prog w0 n_cmp_Compare_string [g6 0, g10 0] s3 (fun v11 s12 => pBin Tryz.prog 3 BinOp.neq v11 (Value.int IntKind.i64 0) (fun v13 => pIf v13 (K2 AX.ret [vget l1 0, vget l1 1, v11, vget l1 3, vget l1 4, vget l1 5] s12) (pBin Tryz.prog 3 BinOp.add (vget l1 5) (Value.int IntKind.i64 1) (fun v14 => K2 AX.normal [vget l1 0, vget l1 1, vget l1 2, vget l1 3, vget l1 4, v14] s12)))))))))))) (K2 (AX.exit 0) [vget l1 0, vget l1 1, vget l1 2, vget l1 3, vget l1 4, vget l1 5] s3))) [a0, a1, Value.int IntKind.i64 0, a0, v0, Value.int IntKind.i64 0] σ (fun x15 l16 s17 => match x15 with | .normal => pLen (vget l16 0) (fun v18 => pLen (vget l16 1) (fun v19 => pBin Tryz.prog 3 BinOp.lss v18 v19 (fun v20 => pIf v20 (R (Value.int IntKind.i64 (-1)) s17) (R (Value.int IntKind.i64 0) s17)))) | .ret => R (vget l16 2) s17 | .exit i21 => (match Nat.beq i21 0 with | true => pLen (vget l16 0) (fun v22 => pLen (vget l16 1) (fun v23 => pBin Tryz.prog 3 BinOp.lss v22 v23 (fun v24 => pIf v24 (R (Value.int IntKind.i64 (-1)) s17) (R (Value.int IntKind.i64 0) s17)))) | false => False)))
theorem vc_slices_Compare_string_string_eq (w0 : World) (a0 a1 : Value) (σ : Vw) (R : Value → Vw → Prop) : vc_slices_Compare_string_string w0 a0 a1 σ R = den Tryz.prog w0 kp_slices_Compare_string_string esc_slices_Compare_string_string (Tryz.f70.body.getD .skip) (entry Tryz.f70.ntmps [a0, a1]) σ (retK Tryz.prog Tryz.f70.results.toList R) := by kernel_rfl
theorem ac_slices_Compare_string_string {w0 : World} {a0 a1 : Value} {σ : Vw} {R : Value → Vw → Prop} (h : vc_slices_Compare_string_string w0 a0 a1 σ R) : AC Tryz.prog w0 n_slices_Compare_string_string [a0, a1] σ R := by
  refine ac_rule (fn := Tryz.f70) (c := Tryz.f70.body.getD .skip) kp_slices_Compare_string_string esc_slices_Compare_string_string Tryz.func70 (by kernel_rfl) (by kernel_rfl) ?_
  rw [← vc_slices_Compare_string_string_eq]
  exact h

/-- impl.under -/
def kp_impl_under : Nat → Keep
  | 2 => ⟨[1, 4, 7, 8, 9], [], [], .done, []⟩
  | _ => ⟨[], [], [], .done, []⟩
def esc_impl_under : Nat → Bool
  | _ => false
def vc_impl_under (w0 : World) (a0 a1 : Value) (σ : Vw) (R : Value → Vw → Prop) : Prop :=
  pLen a0 (fun v0 => pLoop (fun l1 K2 s3 => pBin Tryz.prog 3 BinOp.lss (vget l1 4) (vget l1 3) (fun v4 => pIf v4 (pIndexAddr 2 (vget l1 2) (vget l1 4) (fun v5 => pLoad w0 2 v5 s3 (fun g6 => pVal true 2 (Value.agg (⟨[g6 0, g6 1]⟩)) (pIf (g6 1) (AC Tryz.prog w0 n_impl_begins [vget l1 0, g6 0] s3 (fun v7 s8 => pIf v7 (K2 AX.ret [vget l1 0, Value.bool true, vget l1 2, vget l1 3, vget l1 4] s8) (pBin Tryz.prog 3 BinOp.add (vget l1 4) (Value.int IntKind.i64 1) (fun v9 => K2 AX.normal [vget l1 0, vget l1 1, vget l1 2, vget l1 3, v9] s8)))) (pBin Tryz.prog 3 BinOp.add (vget l1 4) (Value.int IntKind.i64 1) (fun v10 => K2 AX.normal [vget l1 0, vget l1 1, vget l1 2, vget l1 3, v10] s3)))))) (K2 (AX.exit 0) [vget l1 0, vget l1 1, vget l1 2, vget l1 3, vget l1 4] s3))) [a1, Value.bool false, a0, v0, Value.int IntKind.i64 0] σ (fun x11 l12 s13 => match x11 with | .normal => R (Value.bool false) s13 | .ret => R (vget l12 1) s13 | .exit i14 => (match Nat.beq i14 0 with | true => R (Value.bool false) s13 | false => False)))
theorem vc_impl_under_eq (w0 : World) (a0 a1 : Value) (σ : Vw) (R : Value → Vw → Prop) : vc_impl_under w0 a0 a1 σ R = den Tryz.prog w0 kp_impl_under esc_impl_under (Tryz.f71.body.getD .skip) (entry Tryz.f71.ntmps [a0, a1]) σ (retK Tryz.prog Tryz.f71.results.toList R) := by kernel_rfl
theorem ac_impl_under {w0 : World} {a0 a1 : Value} {σ : Vw} {R : Value → Vw → Prop} (h : vc_impl_under w0 a0 a1 σ R) : AC Tryz.prog w0 n_impl_under [a0, a1] σ R := by
  refine ac_rule (fn := Tryz.f71) (c := Tryz.f71.body.getD .skip) kp_impl_under esc_impl_under Tryz.func71 (by kernel_rfl) (by kernel_rfl) ?_
  rw [← vc_impl_under_eq]
  exact h

/-- spec.l11Less -/
def kp_spec_l11Less : Nat → Keep
  | 2 => ⟨[0, 1, 4, 5], [], [], .done, []⟩
  | 4 => ⟨[], [], [], .step 0 (.step 1 (.step 2 (.step 3 (.step 4 (.step 5 (.step 6 (.step 7 (.step 8 (.done))))))))), [(2, [0, 1]), (3, [0, 1, 2]), (6, [4, 5]), (7, [4, 5, 6]), (8, [0, 1, 2, 3, 4, 5, 6, 7])]⟩
  | 5 => ⟨[], [], [], .step 0 (.step 1 (.step 2 (.step 3 (.step 4 (.step 5 (.step 6 (.step 7 (.step 8 (.step 9 (.done)))))))))), [(2, [0, 1]), (3, [0, 1, 2]), (6, [4, 5]), (7, [4, 5, 6]), (8, [0, 1, 2, 3, 4, 5, 6, 7]), (9, [0, 1, 2, 3, 4, 5, 6, 7, 8])]⟩
  | _ => ⟨[], [], [], .done, []⟩
def esc_spec_l11Less : Nat → Bool
  | _ => false
def vc_spec_l11Less (w0 : World) (a0 a1 : Value) (σ : Vw) (R : Value → Vw → Prop) : Prop :=
  pLoop (fun l0 K1 s2 => pLen (vget l0 0) (fun v3 => pBin Tryz.prog 3 BinOp.lss (vget l0 3) v3 (fun v4 => pIf v4 (pLen (vget l0 1) (fun v5 => pBin Tryz.prog 3 BinOp.lss (vget l0 3) v5 (fun v6 => pIf v6 (pIndexAddr 1 (vget l0 0) (vget l0 3) (fun v7 => pLoad w0 1 v7 s2 (fun g8 => pIndexAddr 1 (vget l0 1) (vget l0 3) (fun v9 => pLoad w0 1 v9 s2 (fun g10 => pBin Tryz.prog 9 BinOp.neq (g8 0) (g10 0) (fun v11 => pIf v11 (pIndexAddr 1 (vget l0 0) (vget l0 3) (fun v12 => pLoad w0 1 v12 s2 (fun g13 => pIndexAddr 1 (vget l0 1) (vget l0 3) (fun v14 => pLoad w0 1 v14 s2 (fun g15 => pBin Tryz.prog 9 BinOp.lss (g13 0) (g15 0) (fun v16 => K1 AX.ret [vget l0 0, vget l0 1, v16, vget l0 3] s2)))))) (pBin Tryz.prog 3 BinOp.add (vget l0 3) (Value.int IntKind.i64 1) (fun v17 => K1 AX.normal [vget l0 0, vget l0 1, vget l0 2, v17] s2)))))))) (K1 (AX.exit 0) [vget l0 0, vget l0 1, vget l0 2, vget l0 3] s2)))) (K1 (AX.exit 0) [vget l0 0, vget l0 1, vget l0 2, vget l0 3] s2)))) [a0, a1, Value.bool false, Value.int IntKind.i64 0] σ (fun x18 l19 s20 => match x18 with | .normal => pLen (vget l19 0) (fun v21 => pLen (vget l19 1) (fun v22 => pBin Tryz.prog 3 BinOp.lss v21 v22 (fun v23 => R v23 s20))) | .ret => R (vget l19 2) s20 | .exit i24 => (match Nat.beq i24 0 with | true => pLen (vget l19 0) (fun v25 => pLen (vget l19 1) (fun v26 => pBin Tryz.prog 3 BinOp.lss v25 v26 (fun v27 => R v27 s20))) | false => False))
theorem vc_spec_l11Less_eq (w0 : World) (a0 a1 : Value) (σ : Vw) (R : Value → Vw → Prop) : vc_spec_l11Less w0 a0 a1 σ R = den Tryz.prog w0 kp_spec_l11Less esc_spec_l11Less (Tryz.f72.body.getD .skip) (entry Tryz.f72.ntmps [a0, a1]) σ (retK Tryz.prog Tryz.f72.results.toList R) := by kernel_rfl
theorem ac_spec_l11Less {w0 : World} {a0 a1 : Value} {σ : Vw} {R : Value → Vw → Prop} (h : vc_spec_l11Less w0 a0 a1 σ R) : AC Tryz.prog w0 n_spec_l11Less [a0, a1] σ R := by
  refine ac_rule (fn := Tryz.f72) (c := Tryz.f72.body.getD .skip) kp_spec_l11Less esc_spec_l11Less Tryz.func72 (by kernel_rfl) (by kernel_rfl) ?_
  rw [← vc_spec_l11Less_eq]
  exact h

/-- spec.l2Within -/
def kp_spec_l2Within : Nat → Keep
  | 4 => ⟨[0, 1, 4, 5], [], [], .done, []⟩
  | 6 => ⟨[], [], [], .step 0 (.step 1 (.step 2 (.step 3 (.step 4 (.step 5 (.step 6 (.step 7 (.step 8 (.done))))))))), [(2, [0, 1]), (3, [0, 1, 2]), (6, [4, 5]), (7, [4, 5, 6]), (8, [0, 1, 2, 3, 4, 5, 6, 7])]⟩
  | _ => ⟨[], [], [], .done, []⟩
def esc_spec_l2Within : Nat → Bool
  | _ => false
def vc_spec_l2Within (w0 : World) (a0 a1 : Value) (σ : Vw) (R : Value → Vw → Prop) : Prop :=
  pLen a0 (fun v0 => pLen a1 (fun v1 => pBin Tryz.prog 3 BinOp.lss v0 v1 (fun v2 => pIf v2 (R (Value.bool false) σ) (pLoop (fun l3 K4 s5 => pLen (vget l3 1) (fun v6 => pBin Tryz.prog 3 BinOp.lss (vget l3 3) v6 (fun v7 => pIf v7 (pIndexAddr 1 (vget l3 0) (vget l3 3) (fun v8 => pLoad w0 1 v8 s5 (fun g9 => pIndexAddr 1 (vget l3 1) (vget l3 3) (fun v10 => pLoad w0 1 v10 s5 (fun g11 => pBin Tryz.prog 9 BinOp.neq (g9 0) (g11 0) (fun v12 => pIf v12 (K4 AX.ret [vget l3 0, vget l3 1, Value.bool false, vget l3 3] s5) (pBin Tryz.prog 3 BinOp.add (vget l3 3) (Value.int IntKind.i64 1) (fun v13 => K4 AX.normal [vget l3 0, vget l3 1, vget l3 2, v13] s5)))))))) (K4 (AX.exit 0) [vget l3 0, vget l3 1, vget l3 2, vget l3 3] s5)))) [a0, a1, Value.bool false, Value.int IntKind.i64 0] σ (fun x14 l15 s16 => match x14 with | .normal => R (Value.bool true) s16 | .ret => R (vget l15 2) s16 | .exit i17 => (match Nat.beq i17 0 with | true => R (Value.bool true) s16 | false => False))))))
theorem vc_spec_l2Within_eq (w0 : World) (a0 a1 : Value) (σ : Vw) (R : Value → Vw → Prop) : vc_spec_l2Within w0 a0 a1 σ R = den Tryz.prog w0 kp_spec_l2Within esc_spec_l2Within (Tryz.f73.body.getD .skip) (entry Tryz.f73.ntmps [a0, a1]) σ (retK Tryz.prog Tryz.f73.results.toList R) := by kernel_rfl
theorem ac_spec_l2Within {w0 : World} {a0 a1 : Value} {σ : Vw} {R : Value → Vw → Prop} (h : vc_spec_l2Within w0 a0 a1 σ R) : AC Tryz.prog w0 n_spec_l2Within [a0, a1] σ R := by
  refine ac_rule (fn := Tryz.f73) (c := Tryz.f73.body.getD .skip) kp_spec_l2Within esc_spec_l2Within Tryz.func73 (by kernel_rfl) (by kernel_rfl) ?_
  rw [← vc_spec_l2Within_eq]
  exact h

/-- spec.l1At -/
def kp_spec_l1At : Nat → Keep
  | 3 => ⟨[], [], [], .step 0 (.step 1 (.step 2 (.step 3 (.step 4 (.step 5 (.done)))))), [(2, [1]), (3, [1, 2]), (4, [0, 1, 2, 3]), (5, [0, 1, 2, 3, 4])]⟩
  | 6 => ⟨[], [], [], .step 0 (.step 1 (.step 2 (.step 3 (.step 4 (.step 5 (.step 6 (.step 7 (.step 8 (.step 9 (.step 10 (.step 11 (.done)))))))))))), [(1, [0]), (3, [0, 1, 2]), (4, [0, 1, 2, 3]), (6, [5]), (7, [0, 1, 2, 3, 4, 5, 6]), (8, [0, 1, 2, 3, 4, 5, 6, 7]), (9, [0, 1, 2, 3, 4, 5, 6, 7]), (10, [0, 1, 2, 3, 4, 5, 6, 7, 8, 9]), (11, [0, 1, 2, 3, 4, 5, 6, 7, 8, 9, 10])]⟩
  | _ => ⟨[], [], [], .done, []⟩
def esc_spec_l1At : Nat → Bool
  | _ => false
def vc_spec_l1At (w0 : World) (a0 a1 : Value) (σ : Vw) (R : Value → Vw → Prop) : Prop :=
  pVal true 5 a0 (pLen a1 (fun v0 => pBin Tryz.prog 3 BinOp.eql v0 (Value.int IntKind.i64 0) (fun v1 => pIf v1 (pVal true 5 (Value.agg (⟨[cellOf a0 0, cellOf a0 1, cellOf a0 2, cellOf a0 3, cellOf a0 4]⟩)) (R (Value.tuple (⟨[Value.agg (⟨[cellOf a0 0, cellOf a0 1, cellOf a0 2, cellOf a0 3, cellOf a0 4]⟩), Value.bool true]⟩)) σ)) (pIndexAddr 1 a1 (Value.int IntKind.i64 0) (fun v2 => pLoad w0 1 v2 σ (fun g3 => AC Tryz.prog w0 n_spec_l1Find ([Value.agg (⟨[cellOf a0 0, cellOf a0 1, cellOf a0 2, cellOf a0 3, cellOf a0 4]⟩), g3 0]) σ (fun v4 s5 => pBin Tryz.prog 3 BinOp.lss v4 (Value.int IntKind.i64 0) (fun v6 => pIf v6 (pVal true 5 (Value.agg (⟨[Value.bool false, Value.int IntKind.i64 0, Value.string ({ data := #[] }), Value.slice Option.none 0 0, Value.slice Option.none 0 0]⟩)) (R (Value.tuple (⟨[Value.agg (⟨[Value.bool false, Value.int IntKind.i64 0, Value.string ({ data := #[] }), Value.slice Option.none 0 0, Value.slice Option.none 0 0]⟩), Value.bool false]⟩)) s5)) (pIndexAddr 5 (cellOf a0 4) v4 (fun v7 => pLoad w0 5 v7 s5 (fun g8 => pSlice 1 a1 (Option.some (Value.int IntKind.i64 1)) Option.none (fun v9 => AC Tryz.prog w0 n_spec_l1At ([Value.agg (⟨[g8 0, g8 1, g8 2, g8 3, g8 4]⟩), v9]) s5 (fun v10 s11 => pExtract v10 0 (fun v12 => pExtract v10 1 (fun v13 => pVal true 5 v12 (R (Value.tuple (⟨[Value.agg (⟨[cellOf v12 0, cellOf v12 1, cellOf v12 2, cellOf v12 3, cellOf v12 4]⟩), v13]⟩)) s11))))))))))))))))
theorem vc_spec_l1At_eq (w0 : World) (a0 a1 : Value) (σ : Vw) (R : Value → Vw → Prop) : vc_spec_l1At w0 a0 a1 σ R = den Tryz.prog w0 kp_spec_l1At esc_spec_l1At (Tryz.f77.body.getD .skip) (entry Tryz.f77.ntmps [a0, a1]) σ (retK Tryz.prog Tryz.f77.results.toList R) := by kernel_rfl
theorem ac_spec_l1At {w0 : World} {a0 a1 : Value} {σ : Vw} {R : Value → Vw → Prop} (h : vc_spec_l1At w0 a0 a1 σ R) : AC Tryz.prog w0 n_spec_l1At [a0, a1] σ R := by
  refine ac_rule (fn := Tryz.f77) (c := Tryz.f77.body.getD .skip) kp_spec_l1At esc_spec_l1At Tryz.func77 (by kernel_rfl) (by kernel_rfl) ?_
  rw [← vc_spec_l1At_eq]
  exact h

/-- impl.both -/
def kp_impl_both : Nat → Keep
  | 9 => ⟨[0, 1, 5, 31, 32, 33], [], [], .done, []⟩
  | _ => ⟨[], [], [], .done, []⟩
def esc_impl_both : Nat → Bool
  | _ => false
def vc_impl_both (w0 : World) (a0 a1 : Value) (σ : Vw) (R : Value → Vw → Prop) : Prop :=
  pBin Tryz.prog 73 BinOp.eql a0 (Value.pointer Option.none) (fun v0 => pIf v0 (pBin Tryz.prog 73 BinOp.eql a1 (Value.pointer Option.none) (fun v1 => pIf v1 (R (Value.int IntKind.i64 0) σ) (pBin Tryz.prog 73 BinOp.eql a0 (Value.pointer Option.none) (fun v2 => pIf v2 (pNil a1 (pLoad w0 5 a1 σ (fun g3 => AC Tryz.prog w0 n_impl_Tree_paths ([Value.agg (⟨[g3 0, g3 1, g3 2, g3 3, g3 4]⟩)]) σ (fun v4 s5 => R v4 s5)))) (pBin Tryz.prog 73 BinOp.eql a1 (Value.pointer Option.none) (fun v6 => pIf v6 (pNil a0 (pLoad w0 5 a0 σ (fun g7 => AC Tryz.prog w0 n_impl_Tree_paths ([Value.agg (⟨[g7 0, g7 1, g7 2, g7 3, g7 4]⟩)]) σ (fun v8 s9 => R v8 s9)))) (AC Tryz.prog w0 n_impl_either [a0, a1] σ (fun v10 s11 => pLen v10 (fun v12 => pLoop (fun l13 K14 s15 => pBin Tryz.prog 3 BinOp.lss (vget l13 5) (vget l13 4) (fun v16 => pIf v16 (pIndexAddr 1 (vget l13 3) (vget l13 5) (fun v17 => pLoad w0 1 v17 s15 (fun g18 => AC Tryz.prog w0 n_p_impl_Tree_kid [vget l13 0, g18 0] s15 (fun v19 s20 => AC Tryz.prog w0 n_p_impl_Tree_kid [vget l13 1, g18 0] s20 (fun v21 s22 => AC Tryz.prog w0 n_impl_both [v19, v21] s22 (fun v23 s24 => pBin Tryz.prog 3 BinOp.add (vget l13 2) v23 (fun v25 => pBin Tryz.prog 3 BinOp.add (vget l13 5) (Value.int IntKind.i64 1) (fun v26 => K14 AX.normal [vget l13 0, vget l13 1, v25, vget l13 3, vget l13 4, v26] s24)))))))) (K14 (AX.exit 1) [vget l13 0, vget l13 1, vget l13 2, vget l13 3, vget l13 4, vget l13 5] s15))) [a0, a1, Value.int IntKind.i64 1, v10, v12, Value.int IntKind.i64 0] s11 (fun x27 l28 s29 => match x27 with | .normal => R (vget l28 2) s29 | .ret => False | .exit i30 => (match Nat.beq i30 1 with | true => R (vget l28 2) s29 | false => False))))))))))) (pBin Tryz.prog 73 BinOp.eql a0 (Value.pointer Option.none) (fun v31 => pIf v31 (pNil a1 (pLoad w0 5 a1 σ (fun g32 => AC Tryz.prog w0 n_impl_Tree_paths ([Value.agg (⟨[g32 0, g32 1, g32 2, g32 3, g32 4]⟩)]) σ (fun v33 s34 => R v33 s34)))) (pBin Tryz.prog 73 BinOp.eql a1 (Value.pointer Option.none) (fun v35 => pIf v35 (pNil a0 (pLoad w0 5 a0 σ (fun g36 => AC Tryz.prog w0 n_impl_Tree_paths ([Value.agg (⟨[g36 0, g36 1, g36 2, g36 3, g36 4]⟩)]) σ (fun v37 s38 => R v37 s38)))) (AC Tryz.prog w0 n_impl_either [a0, a1] σ (fun v39 s40 => pLen v39 (fun v41 => pLoop (fun l42 K43 s44 => pBin Tryz.prog 3 BinOp.lss (vget l42 5) (vget l42 4) (fun v45 => pIf v45 (pIndexAddr 1 (vget l42 3) (vget l42 5) (fun v46 => pLoad w0 1 v46 s44 (fun g47 => AC Tryz.prog w0 n_p_impl_Tree_kid [vget l42 0, g47 0] s44 (fun v48 s49 => AC Tryz.prog w0 n_p_impl_Tree_kid [vget l42 1, g47 0] s49 (fun v50 s51 => AC Tryz.prog w0 n_impl_both [v48, v50] s51 (fun v52 s53 => pBin Tryz.prog 3 BinOp.add (vget l42 2) v52 (fun v54 => pBin Tryz.prog 3 BinOp.add (vget l42 5) (Value.int IntKind.i64 1) (fun v55 => K43 AX.normal [vget l42 0, vget l42 1, v54, vget l42 3, vget l42 4, v55] s53)))))))) (K43 (AX.exit 1) [vget l42 0, vget l42 1, vget l42 2, vget l42 3, vget l42 4, vget l42 5] s44))) [a0, a1, Value.int IntKind.i64 1, v39, v41, Value.int IntKind.i64 0] s40 (fun x56 l57 s58 => match x56 with | .normal => R (vget l57 2) s58 | .ret => False | .exit i59 => (match Nat.beq i59 1 with | true => R (vget l57 2) s58 | false => False))))))))))
theorem vc_impl_both_eq (w0 : World) (a0 a1 : Value) (σ : Vw) (R : Value → Vw → Prop) : vc_impl_both w0 a0 a1 σ R = den Tryz.prog w0 kp_impl_both esc_impl_both (Tryz.f79.body.getD .skip) (entry Tryz.f79.ntmps [a0, a1]) σ (retK Tryz.prog Tryz.f79.results.toList R) := by kernel_rfl
theorem ac_impl_both {w0 : World} {a0 a1 : Value} {σ : Vw} {R : Value → Vw → Prop} (h : vc_impl_both w0 a0 a1 σ R) : AC Tryz.prog w0 n_impl_both [a0, a1] σ R := by
  refine ac_rule (fn := Tryz.f79) (c := Tryz.f79.body.getD .skip) kp_impl_both esc_impl_both Tryz.func79 (by kernel_rfl) (by kernel_rfl) ?_
  rw [← vc_impl_both_eq]
  exact h

/-- spec.l12Union -/
def kp_spec_l12Union : Nat → Keep
  | 4 => ⟨[5, 6, 7], [(2, 5), (3, 5)], [2, 3], .done, []⟩
  | 6 => ⟨[], [], [], .step 0 (.step 1 (.step 2 (.step 3 (.step 4 (.step 9 (.step 5 (.step 6 (.step 7 (.step 8 (.step 10 (.step 11 (.done)))))))))))), [(3, [1, 2]), (4, [1, 2, 3]), (5, [0, 1, 2, 3, 4]), (6, [0, 1, 2, 3, 4, 5]), (7, [0, 1, 2, 3, 4, 5, 6]), (8, [0, 1, 2, 3, 4, 5, 6]), (10, [0, 1, 2, 3, 4, 5, 6, 7, 9]), (11, [0, 1, 2, 3, 4, 5, 6, 7, 8, 9, 10])]⟩
  | 7 => ⟨[], [], [], .step 0 (.step 1 (.step 2 (.step 3 (.step 4 (.step 9 (.step 5 (.step 6 (.step 7 (.step 8 (.step 10 (.step 11 (.done)))))))))))), [(3, [1, 2]), (4, [1, 2, 3]), (5, [0, 1, 2, 3, 4]), (6, [0, 1, 2, 3, 4, 5]), (7, [0, 1, 2, 3, 4, 5, 6]), (8, [0, 1, 2, 3, 4, 5, 6]), (10, [0, 1, 2, 3, 4, 5, 6, 7, 9]), (11, [0, 1, 2, 3, 4, 5, 6, 7, 8, 9, 10])]⟩
  | _ => ⟨[], [], [], .done, []⟩
def esc_spec_l12Union : Nat → Bool
  | _ => false
def vc_spec_l12Union (w0 : World) (a0 a1 : Value) (σ : Vw) (R : Value → Vw → Prop) : Prop :=
  pVal true 5 a0 (pVal true 5 a1 (AC Tryz.prog w0 n_spec_l12Names ([Value.agg (⟨[cellOf a0 0, cellOf a0 1, cellOf a0 2, cellOf a0 3, cellOf a0 4]⟩), Value.agg (⟨[cellOf a1 0, cellOf a1 1, cellOf a1 2, cellOf a1 3, cellOf a1 4]⟩)]) σ (fun v0 s1 => pLoop (fun l2 K3 s4 => pLen (vget l2 1) (fun v5 => pBin Tryz.prog 3 BinOp.lss (vget l2 2) v5 (fun v6 => pIf v6 (pIndexAddr 1 (vget l2 1) (vget l2 2) (fun v7 => pLoad w0 1 v7 s4 (fun g8 => AC Tryz.prog w0 n_spec_l12Kid ([Value.agg (⟨[vget l2 3, vget l2 4, vget l2 5, vget l2 6, vget l2 7]⟩), g8 0]) s4 (fun v9 s10 => pExtract v9 0 (fun v11 => pExtract v9 1 (fun v12 => pVal true 5 v11 (pIndexAddr 1 (vget l2 1) (vget l2 2) (fun v13 => pLoad w0 1 v13 s10 (fun g14 => AC Tryz.prog w0 n_spec_l12Kid ([Value.agg (⟨[vget l2 8, vget l2 9, vget l2 10, vget l2 11, vget l2 12]⟩), g14 0]) s10 (fun v15 s16 => pExtract v15 0 (fun v17 => pExtract v15 1 (fun v18 => pVal true 5 v17 (AC Tryz.prog w0 n_spec_l12Union ([Value.agg (⟨[cellOf v11 0, cellOf v11 1, cellOf v11 2, cellOf v11 3, cellOf v11 4]⟩), Value.agg (⟨[cellOf v17 0, cellOf v17 1, cellOf v17 2, cellOf v17 3, cellOf v17 4]⟩)]) s16 (fun v19 s20 => pBin Tryz.prog 3 BinOp.add (vget l2 0) v19 (fun v21 => pBin Tryz.prog 3 BinOp.add (vget l2 2) (Value.int IntKind.i64 1) (fun v22 => K3 AX.normal [v21, vget l2 1, v22, vget l2 3, vget l2 4, vget l2 5, vget l2 6, vget l2 7, vget l2 8, vget l2 9, vget l2 10, vget l2 11, vget l2 12] s20)))))))))))))))) (K3 (AX.exit 0) [vget l2 0, vget l2 1, vget l2 2, vget l2 3, vget l2 4, vget l2 5, vget l2 6, vget l2 7, vget l2 8, vget l2 9, vget l2 10, vget l2 11, vget l2 12] s4)))) [Value.int IntKind.i64 1, v0, Value.int IntKind.i64 0, cellOf a0 0, cellOf a0 1, cellOf a0 2, cellOf a0 3, cellOf a0 4, cellOf a1 0, cellOf a1 1, cellOf a1 2, cellOf a1 3, cellOf a1 4] s1 (fun x23 l24 s25 => match x23 with | .normal => R (vget l24 0) s25 | .ret => False | .exit i26 => (match Nat.beq i26 0 with | true => R (vget l24 0) s25 | false => False)))))
theorem vc_spec_l12Union_eq (w0 : World) (a0 a1 : Value) (σ : Vw) (R : Value → Vw → Prop) : vc_spec_l12Union w0 a0 a1 σ R = den Tryz.prog w0 kp_spec_l12Union esc_spec_l12Union (Tryz.f81.body.getD .skip) (entry Tryz.f81.ntmps [a0, a1]) σ (retK Tryz.prog Tryz.f81.results.toList R) := by kernel_rfl
theorem ac_spec_l12Union {w0 : World} {a0 a1 : Value} {σ : Vw} {R : Value → Vw → Prop} (h : vc_spec_l12Union w0 a0 a1 σ R) : AC Tryz.prog w0 n_spec_l12Union [a0, a1] σ R := by
  refine ac_rule (fn := Tryz.f81) (c := Tryz.f81.body.getD .skip) kp_spec_l12Union esc_spec_l12Union Tryz.func81 (by kernel_rfl) (by kernel_rfl) ?_
  rw [← vc_spec_l12Union_eq]
  exact h

/-- impl.walk -/
def kp_impl_walk : Nat → Keep
  | 5 => ⟨[], [], [], .step 0 (.step 1 (.step 2 (.step 3 (.step 4 (.step 5 (.step 6 (.step 7 (.step 8 (.step 9 (.done)))))))))), [(1, [0]), (2, [0, 1]), (3, [0, 1, 2]), (5, [4]), (6, [4, 5]), (7, [4, 5, 6]), (8, [0, 1, 2, 3, 4, 5, 6, 7]), (9, [0, 1, 2, 3, 4, 5, 6, 7, 8])]⟩
  | 6 => ⟨[], [], [], .step 0 (.step 3 (.step 4 (.step 5 (.step 6 (.step 1 (.both (.step 2 (.step 7 (.step 8 (.step 9 (.done))))) (.step 7 (.step 2 (.step 8 (.step 9 (.done))))))))))), [(1, [0]), (2, [0, 1]), (5, [4]), (6, [4, 5]), (7, [0, 1, 3, 4, 5, 6]), (8, [0, 1, 2, 3, 4, 5, 6, 7]), (9, [0, 1, 2, 3, 4, 5, 6, 7, 8])]⟩
  | 7 => ⟨[], [], [], .step 0 (.step 1 (.step 2 (.step 3 (.step 4 (.step 5 (.step 6 (.step 7 (.step 8 (.done))))))))), [(2, [1]), (3, [1, 2]), (5, [4]), (6, [4, 5]), (7, [0, 1, 2, 3, 4, 5, 6]), (8, [0, 1, 2, 3, 4, 5, 6, 7])]⟩
  | 9 => ⟨[0, 1, 2, 7, 53, 54, 55], [], [], .done, []⟩
  | _ => ⟨[], [], [], .done, []⟩
def esc_impl_walk : Nat → Bool
  | 23 => true
  | 36 => true
  | _ => false
def vc_impl_walk (w0 : World) (a0 a1 a2 : Value) (σ : Vw) (R : Value → Vw → Prop) : Prop :=
  pBin Tryz.prog 73 BinOp.eql a1 (Value.pointer Option.none) (fun v0 => pIf v0 (pNil a2 (pLoad w0 5 a2 σ (fun g1 => AC Tryz.prog w0 n_impl_fresh ([a0, Value.agg (⟨[g1 0, g1 1, g1 2, g1 3, g1 4]⟩)]) σ (fun v2 s3 => R v2 s3)))) (pBin Tryz.prog 73 BinOp.eql a2 (Value.pointer Option.none) (fun v4 => pIf v4 (AC Tryz.prog w0 n_impl_gone [a0] σ (fun v5 s6 => pVal true 5 v5 (pNew w0 80 [cellOf v5 0, cellOf v5 1, cellOf v5 2, cellOf v5 3, cellOf v5 4] s6 (fun n7 s8 => R (Value.slice (Option.some (Addr.mk n7 0 Option.none)) 1 1) s8)))) (pNil a1 (pField 0 a1 (fun v9 => pLoad w0 1 v9 σ (fun g10 => pNil a2 (pField 0 a2 (fun v11 => pLoad w0 1 v11 σ (fun g12 => pBin Tryz.prog 4 BinOp.neq (g10 0) (g12 0) (fun v13 => pIf v13 (pNil a2 (pLoad w0 5 a2 σ (fun g14 => AC Tryz.prog w0 n_impl_gone [a0] σ (fun v15 s16 => (Stay w0 σ s16 a2 5) ∧ ((pVal true 5 v15 (pNew w0 80 [cellOf v15 0, cellOf v15 1, cellOf v15 2, cellOf v15 3, cellOf v15 4] s16 (fun n17 s18 => (Stay w0 s16 s18 a2 5) ∧ (AC Tryz.prog w0 n_impl_fresh ([a0, Value.agg (⟨[g14 0, g14 1, g14 2, g14 3, g14 4]⟩)]) s18 (fun v19 s20 => pAppendS w0 80 5 64 (Value.slice (Option.some (Addr.mk n17 0 Option.none)) 1 1) v19 s20 (fun v21 s22 => R v21 s22)))))) ∧ (AC Tryz.prog w0 n_impl_fresh ([a0, Value.agg (⟨[g14 0, g14 1, g14 2, g14 3, g14 4]⟩)]) s16 (fun v23 s24 => pVal true 5 v15 (pNew w0 80 [cellOf v15 0, cellOf v15 1, cellOf v15 2, cellOf v15 3, cellOf v15 4] s24 (fun n25 s26 => (Stay w0 s24 s26 a2 5) ∧ (pAppendS w0 80 5 64 (Value.slice (Option.some (Addr.mk n25 0 Option.none)) 1 1) v23 s26 (fun v27 s28 => R v27 s28))))))))))) (pNil a1 (pLoad w0 5 a1 σ (fun g29 => pNil a2 (pLoad w0 5 a2 σ (fun g30 => AC Tryz.prog w0 n_impl_changes ([a0, Value.agg (⟨[g29 0, g29 1, g29 2, g29 3, g29 4]⟩), Value.agg (⟨[g30 0, g30 1, g30 2, g30 3, g30 4]⟩)]) σ (fun v31 s32 => AC Tryz.prog w0 n_impl_either [a1, a2] s32 (fun v33 s34 => pLen v33 (fun v35 => pLoop (fun l36 K37 s38 => pBin Tryz.prog 3 BinOp.lss (vget l36 6) (vget l36 5) (fun v39 => pIf v39 (pIndexAddr 1 (vget l36 4) (vget l36 6) (fun v40 => pLoad w0 1 v40 s38 (fun g41 => AC Tryz.prog w0 n_impl_below [vget l36 0, g41 0] s38 (fun v42 s43 => AC Tryz.prog w0 n_p_impl_Tree_kid [vget l36 1, g41 0] s43 (fun v44 s45 => AC Tryz.prog w0 n_p_impl_Tree_kid [vget l36 2, g41 0] s45 (fun v46 s47 => AC Tryz.prog w0 n_impl_walk [v42, v44, v46] s47 (fun v48 s49 => pAppendS w0 80 5 64 (vget l36 3) v48 s49 (fun v50 s51 => pBin Tryz.prog 3 BinOp.add (vget l36 6) (Value.int IntKind.i64 1) (fun v52 => K37 AX.normal [vget l36 0, vget l36 1, vget l36 2, v50, vget l36 4, vget l36 5, v52] s51))))))))) (K37 (AX.exit 1) [vget l36 0, vget l36 1, vget l36 2, vget l36 3, vget l36 4, vget l36 5, vget l36 6] s38))) [a0, a1, a2, v31, v33, v35, Value.int IntKind.i64 0] s34 (fun x53 l54 s55 => match x53 with | .normal => R (vget l54 3) s55 | .ret => False | .exit i56 => (match Nat.beq i56 1 with | true => R (vget l54 3) s55 | false => False)))))))))))))))))))))
theorem vc_impl_walk_eq (w0 : World) (a0 a1 a2 : Value) (σ : Vw) (R : Value → Vw → Prop) : vc_impl_walk w0 a0 a1 a2 σ R = den Tryz.prog w0 kp_impl_walk esc_impl_walk (Tryz.f82.body.getD .skip) (entry Tryz.f82.ntmps [a0, a1, a2]) σ (retK Tryz.prog Tryz.f82.results.toList R) := by kernel_rfl
theorem ac_impl_walk {w0 : World} {a0 a1 a2 : Value} {σ : Vw} {R : Value → Vw → Prop} (h : vc_impl_walk w0 a0 a1 a2 σ R) : AC Tryz.prog w0 n_impl_walk [a0, a1, a2] σ R := by
  refine ac_rule (fn := Tryz.f82) (c := Tryz.f82.body.getD .skip) kp_impl_walk esc_impl_walk Tryz.func82 (by kernel_rfl) (by kernel_rfl) ?_
  rw [← vc_impl_walk_eq]
  exact h

end Go.Proofs.YtkbhjejalkbogaaGreat

/- What each function owes, reckoned out, part 3. MADE BY PROGRAM (emit.py). -/
set_option linter.unusedVariables false
namespace Go.Proofs.YtkbhjejalkbogaaGreat
open Go Go.Av

/-- (impl.Tree).sound -/
def kp_impl_Tree_sound : Nat → Keep
  | 8 => ⟨[1, 4, 41, 42, 43], [(2, 5)], [2], .done, []⟩
  | _ => ⟨[], [], [], .done, []⟩
def esc_impl_Tree_sound : Nat → Bool
  | _ => false
def vc_impl_Tree_sound (w0 : World) (a0 a1 : Value) (σ : Vw) (R : Value → Vw → Prop) : Prop :=
  pVal true 5 a0 (AC Tryz.prog w0 n_impl_modeOk [cellOf a0 1] σ (fun v0 s1 => pUn UnOp.not v0 (fun v2 => pIf v2 (R (Value.bool false) s1) (pBin Tryz.prog 3 BinOp.gtr a1 (Value.int IntKind.i64 4) (fun v3 => pIf v3 (R (Value.bool false) s1) (pLen (cellOf a0 3) (fun v4 => pLen (cellOf a0 4) (fun v5 => pBin Tryz.prog 3 BinOp.neq v4 v5 (fun v6 => pIf v6 (R (Value.bool false) s1) (pUn UnOp.not (cellOf a0 0) (fun v7 => pIf v7 (pLenS (cellOf a0 2) (fun v8 => pBin Tryz.prog 3 BinOp.leq v8 (Value.int IntKind.i64 24) (fun v9 => pIf v9 (pLen (cellOf a0 3) (fun v10 => pBin Tryz.prog 3 BinOp.eql v10 (Value.int IntKind.i64 0) (fun v11 => R v11 s1))) (R (Value.bool false) s1)))) (pBin Tryz.prog 9 BinOp.neq (cellOf a0 2) (Value.string ({ data := #[] })) (fun v12 => pIf v12 (R (Value.bool false) s1) (pLen (cellOf a0 3) (fun v13 => pLoop (fun l14 K15 s16 => pBin Tryz.prog 3 BinOp.lss (vget l14 4) (vget l14 3) (fun v17 => pIf v17 (pIndexAddr 1 (vget l14 2) (vget l14 4) (fun v18 => pLoad w0 1 v18 s16 (fun g19 => AC Tryz.prog w0 n_impl_nameOk [g19 0] s16 (fun v20 s21 => pUn UnOp.not v20 (fun v22 => pIf v22 (K15 AX.ret [vget l14 0, Value.bool false, vget l14 2, vget l14 3, vget l14 4, vget l14 5, vget l14 6, vget l14 7, vget l14 8, vget l14 9] s21) (pBin Tryz.prog 3 BinOp.gtr (vget l14 4) (Value.int IntKind.i64 0) (fun v23 => pIf v23 (pBin Tryz.prog 3 BinOp.sub (vget l14 4) (Value.int IntKind.i64 1) (fun v24 => pIndexAddr 1 (vget l14 8) v24 (fun v25 => pLoad w0 1 v25 s21 (fun g26 => pBin Tryz.prog 9 BinOp.geq (g26 0) (g19 0) (fun v27 => pIf v27 (K15 AX.ret [vget l14 0, Value.bool false, vget l14 2, vget l14 3, vget l14 4, vget l14 5, vget l14 6, vget l14 7, vget l14 8, vget l14 9] s21) (pIndexAddr 5 (vget l14 9) (vget l14 4) (fun v28 => pLoad w0 5 v28 s21 (fun g29 => pBin Tryz.prog 3 BinOp.add (vget l14 0) (Value.int IntKind.i64 1) (fun v30 => AC Tryz.prog w0 n_impl_Tree_sound ([Value.agg (⟨[g29 0, g29 1, g29 2, g29 3, g29 4]⟩), v30]) s21 (fun v31 s32 => pUn UnOp.not v31 (fun v33 => pIf v33 (K15 AX.ret [vget l14 0, Value.bool false, vget l14 2, vget l14 3, vget l14 4, vget l14 5, vget l14 6, vget l14 7, vget l14 8, vget l14 9] s32) (pBin Tryz.prog 3 BinOp.add (vget l14 4) (Value.int IntKind.i64 1) (fun v34 => K15 AX.normal [vget l14 0, vget l14 1, vget l14 2, vget l14 3, v34, vget l14 5, vget l14 6, vget l14 7, vget l14 8, vget l14 9] s32))))))))))))) (pIndexAddr 5 (vget l14 9) (vget l14 4) (fun v35 => pLoad w0 5 v35 s21 (fun g36 => pBin Tryz.prog 3 BinOp.add (vget l14 0) (Value.int IntKind.i64 1) (fun v37 => AC Tryz.prog w0 n_impl_Tree_sound ([Value.agg (⟨[g36 0, g36 1, g36 2, g36 3, g36 4]⟩), v37]) s21 (fun v38 s39 => pUn UnOp.not v38 (fun v40 => pIf v40 (K15 AX.ret [vget l14 0, Value.bool false, vget l14 2, vget l14 3, vget l14 4, vget l14 5, vget l14 6, vget l14 7, vget l14 8, vget l14 9] s39) (pBin Tryz.prog 3 BinOp.add (vget l14 4) (Value.int IntKind.i64 1) (fun v41 => K15 AX.normal [vget l14 0, vget l14 1, vget l14 2, vget l14 3, v41, vget l14 5, vget l14 6, vget l14 7, vget l14 8, vget l14 9] s39))))))))))))))) (K15 (AX.exit 0) [vget l14 0, vget l14 1, vget l14 2, vget l14 3, vget l14 4, vget l14 5, vget l14 6, vget l14 7, vget l14 8, vget l14 9] s16))) [a1, Value.bool false, cellOf a0 3, v13, Value.int IntKind.i64 0, cellOf a0 0, cellOf a0 1, cellOf a0 2, cellOf a0 3, cellOf a0 4] s1 (fun x42 l43 s44 => match x42 with | .normal => R (Value.bool true) s44 | .ret => R (vget l43 1) s44 | .exit i45 => (match Nat.beq i45 0 with | true => R (Value.bool true) s44 | false => False)))))))))))))))))
theorem vc_impl_Tree_sound_eq (w0 : World) (a0 a1 : Value) (σ : Vw) (R : Value → Vw → Prop) : vc_impl_Tree_sound w0 a0 a1 σ R = den Tryz.prog w0 kp_impl_Tree_sound esc_impl_Tree_sound (Tryz.f93.body.getD .skip) (entry Tryz.f93.ntmps [a0, a1]) σ (retK Tryz.prog Tryz.f93.results.toList R) := by kernel_rfl
theorem ac_impl_Tree_sound {w0 : World} {a0 a1 : Value} {σ : Vw} {R : Value → Vw → Prop} (h : vc_impl_Tree_sound w0 a0 a1 σ R) : AC Tryz.prog w0 n_impl_Tree_sound [a0, a1] σ R := by
  refine ac_rule (fn := Tryz.f93) (c := Tryz.f93.body.getD .skip) kp_impl_Tree_sound esc_impl_Tree_sound Tryz.func93 (by kernel_rfl) (by kernel_rfl) ?_
  rw [← vc_impl_Tree_sound_eq]
  exact h

/-- (impl.Tree).paths -/
def kp_impl_Tree_paths : Nat → Keep
  | 3 => ⟨[3, 7, 8, 9], [], [], .done, []⟩
  | _ => ⟨[], [], [], .done, []⟩
def esc_impl_Tree_paths : Nat → Bool
  | _ => false
def vc_impl_Tree_paths (w0 : World) (a0 : Value) (σ : Vw) (R : Value → Vw → Prop) : Prop :=
  pVal true 5 a0 (pLen (cellOf a0 4) (fun v0 => pLoop (fun l1 K2 s3 => pBin Tryz.prog 3 BinOp.lss (vget l1 3) (vget l1 2) (fun v4 => pIf v4 (pIndexAddr 5 (vget l1 1) (vget l1 3) (fun v5 => pLoad w0 5 v5 s3 (fun g6 => pVal true 5 (Value.agg (⟨[g6 0, g6 1, g6 2, g6 3, g6 4]⟩)) (AC Tryz.prog w0 n_impl_Tree_paths ([Value.agg (⟨[g6 0, g6 1, g6 2, g6 3, g6 4]⟩)]) s3 (fun v7 s8 => pBin Tryz.prog 3 BinOp.add (vget l1 0) v7 (fun v9 => pBin Tryz.prog 3 BinOp.add (vget l1 3) (Value.int IntKind.i64 1) (fun v10 => K2 AX.normal [v9, vget l1 1, vget l1 2, v10] s8))))))) (K2 (AX.exit 0) [vget l1 0, vget l1 1, vget l1 2, vget l1 3] s3))) [Value.int IntKind.i64 1, cellOf a0 4, v0, Value.int IntKind.i64 0] σ (fun x11 l12 s13 => match x11 with | .normal => R (vget l12 0) s13 | .ret => False | .exit i14 => (match Nat.beq i14 0 with | true => R (vget l12 0) s13 | false => False))))
theorem vc_impl_Tree_paths_eq (w0 : World) (a0 : Value) (σ : Vw) (R : Value → Vw → Prop) : vc_impl_Tree_paths w0 a0 σ R = den Tryz.prog w0 kp_impl_Tree_paths esc_impl_Tree_paths (Tryz.f94.body.getD .skip) (entry Tryz.f94.ntmps [a0]) σ (retK Tryz.prog Tryz.f94.results.toList R) := by kernel_rfl
theorem ac_impl_Tree_paths {w0 : World} {a0 : Value} {σ : Vw} {R : Value → Vw → Prop} (h : vc_impl_Tree_paths w0 a0 σ R) : AC Tryz.prog w0 n_impl_Tree_paths [a0] σ R := by
  refine ac_rule (fn := Tryz.f94) (c := Tryz.f94.body.getD .skip) kp_impl_Tree_paths esc_impl_Tree_paths Tryz.func94 (by kernel_rfl) (by kernel_rfl) ?_
  rw [← vc_impl_Tree_paths_eq]
  exact h

/-- impl.fresh -/
def kp_impl_fresh : Nat → Keep
  | _ => ⟨[], [], [], .done, []⟩
def esc_impl_fresh : Nat → Bool
  | 5 => true
  | 6 => true
  | _ => false
def vc_impl_fresh (w0 : World) (a0 a1 : Value) (σ : Vw) (R : Value → Vw → Prop) : Prop :=
  pVal true 5 a1 (pNew w0 80 [] σ (fun n0 s1 => pNew w0 34 [Value.slice Option.none 0 0] s1 (fun n2 s3 => pVal false 1 (Value.slice (Option.some (Addr.mk n0 0 Option.none)) 0 0) (pStore (Value.pointer (Option.some (Addr.mk n2 0 Option.none))) [Value.slice (Option.some (Addr.mk n0 0 Option.none)) 0 0] s3 (fun s4 => AC Tryz.prog w0 n_impl_Tree_each ([Value.agg (⟨[cellOf a1 0, cellOf a1 1, cellOf a1 2, cellOf a1 3, cellOf a1 4]⟩), a0, Value.func (Fn.func 136) ⟨[]⟩ (⟨[Value.pointer (Option.some (Addr.mk n2 0 Option.none))]⟩)]) s4 (fun v5 s6 => pLoad w0 1 (Value.pointer (Option.some (Addr.mk n2 0 Option.none))) s6 (fun g7 => R (g7 0) s6)))))))
theorem vc_impl_fresh_eq (w0 : World) (a0 a1 : Value) (σ : Vw) (R : Value → Vw → Prop) : vc_impl_fresh w0 a0 a1 σ R = den Tryz.prog w0 kp_impl_fresh esc_impl_fresh (Tryz.f95.body.getD .skip) (entry Tryz.f95.ntmps [a0, a1]) σ (retK Tryz.prog Tryz.f95.results.toList R) := by kernel_rfl
theorem ac_impl_fresh {w0 : World} {a0 a1 : Value} {σ : Vw} {R : Value → Vw → Prop} (h : vc_impl_fresh w0 a0 a1 σ R) : AC Tryz.prog w0 n_impl_fresh [a0, a1] σ R := by
  refine ac_rule (fn := Tryz.f95) (c := Tryz.f95.body.getD .skip) kp_impl_fresh esc_impl_fresh Tryz.func95 (by kernel_rfl) (by kernel_rfl) ?_
  rw [← vc_impl_fresh_eq]
  exact h

/-- impl.gone -/
def kp_impl_gone : Nat → Keep
  | _ => ⟨[], [], [], .done, []⟩
def esc_impl_gone : Nat → Bool
  | 3 => true
  | _ => false
def vc_impl_gone (w0 : World) (a0 : Value) (σ : Vw) (R : Value → Vw → Prop) : Prop :=
  pNew w0 9 [] σ (fun n0 s1 => pAppendS w0 9 1 16 (Value.slice (Option.some (Addr.mk n0 0 Option.none)) 0 0) a0 s1 (fun v2 s3 => pVal false 1 v2 (pVal false 1 (Value.int IntKind.i64 1) (pVal true 5 (Value.agg (⟨[v2, Value.int IntKind.i64 1, Value.bool false, Value.int IntKind.i64 0, Value.string ({ data := #[] })]⟩)) (R (Value.agg (⟨[v2, Value.int IntKind.i64 1, Value.bool false, Value.int IntKind.i64 0, Value.string ({ data := #[] })]⟩)) s3)))))
theorem vc_impl_gone_eq (w0 : World) (a0 : Value) (σ : Vw) (R : Value → Vw → Prop) : vc_impl_gone w0 a0 σ R = den Tryz.prog w0 kp_impl_gone esc_impl_gone (Tryz.f96.body.getD .skip) (entry Tryz.f96.ntmps [a0]) σ (retK Tryz.prog Tryz.f96.results.toList R) := by kernel_rfl
theorem ac_impl_gone {w0 : World} {a0 : Value} {σ : Vw} {R : Value → Vw → Prop} (h : vc_impl_gone w0 a0 σ R) : AC Tryz.prog w0 n_impl_gone [a0] σ R := by
  refine ac_rule (fn := Tryz.f96) (c := Tryz.f96.body.getD .skip) kp_impl_gone esc_impl_gone Tryz.func96 (by kernel_rfl) (by kernel_rfl) ?_
  rw [← vc_impl_gone_eq]
  exact h

/-- impl.marked -/
def kp_impl_marked : Nat → Keep
  | _ => ⟨[], [], [], .done, []⟩
def esc_impl_marked : Nat → Bool
  | 3 => true
  | _ => false
def vc_impl_marked (w0 : World) (a0 a1 : Value) (σ : Vw) (R : Value → Vw → Prop) : Prop :=
  pVal false 1 a1 (pNew w0 23 [a1] σ (fun n0 s1 => pLoad w0 1 (Value.pointer (Option.some (Addr.mk n0 0 Option.none))) s1 (fun g2 => AC Tryz.prog w0 n_impl_under [a0, g2 0] s1 (fun v3 s4 => pIf v3 (R (Value.bool true) s4) (AC Tryz.prog w0 n_slices_ContainsFunc_impl_Mark_impl_Mark ([a0, Value.func (Fn.func 138) ⟨[]⟩ (⟨[Value.pointer (Option.some (Addr.mk n0 0 Option.none))]⟩)]) s4 (fun v5 s6 => R v5 s6))))))
theorem vc_impl_marked_eq (w0 : World) (a0 a1 : Value) (σ : Vw) (R : Value → Vw → Prop) : vc_impl_marked w0 a0 a1 σ R = den Tryz.prog w0 kp_impl_marked esc_impl_marked (Tryz.f97.body.getD .skip) (entry Tryz.f97.ntmps [a0, a1]) σ (retK Tryz.prog Tryz.f97.results.toList R) := by kernel_rfl
theorem ac_impl_marked {w0 : World} {a0 a1 : Value} {σ : Vw} {R : Value → Vw → Prop} (h : vc_impl_marked w0 a0 a1 σ R) : AC Tryz.prog w0 n_impl_marked [a0, a1] σ R := by
  refine ac_rule (fn := Tryz.f97) (c := Tryz.f97.body.getD .skip) kp_impl_marked esc_impl_marked Tryz.func97 (by kernel_rfl) (by kernel_rfl) ?_
  rw [← vc_impl_marked_eq]
  exact h

/-- impl.changes -/
def kp_impl_changes : Nat → Keep
  | 3 => ⟨[], [], [], .step 0 (.step 2 (.step 4 (.step 5 (.step 1 (.step 3 (.step 6 (.step 7 (.step 8 (.step 9 (.done)))))))))), [(3, [1, 2]), (5, [4]), (6, [1, 2, 3, 4, 5]), (7, [1, 2, 3, 4, 5, 6]), (8, [0, 1, 2, 3, 4, 5, 6, 7]), (9, [0, 1, 2, 3, 4, 5, 6, 7, 8])]⟩
  | 5 => ⟨[], [], [], .step 0 (.step 2 (.step 4 (.step 5 (.step 1 (.step 3 (.step 6 (.step 7 (.step 8 (.step 9 (.done)))))))))), [(3, [1, 2]), (5, [4]), (6, [1, 2, 3, 4, 5]), (7, [1, 2, 3, 4, 5, 6]), (8, [0, 1, 2, 3, 4, 5, 6, 7]), (9, [0, 1, 2, 3, 4, 5, 6, 7, 8])]⟩
  | _ => ⟨[], [], [], .done, []⟩
def esc_impl_changes : Nat → Bool
  | 8 => true
  | 15 => true
  | 29 => true
  | _ => false
def vc_impl_changes (w0 : World) (a0 a1 a2 : Value) (σ : Vw) (R : Value → Vw → Prop) : Prop :=
  pVal true 5 a1 (pVal true 5 a2 (pNew w0 80 [] σ (fun n0 s1 => pBin Tryz.prog 3 BinOp.neq (cellOf a1 1) (cellOf a2 1) (fun v2 => pIf v2 (pNew w0 9 [] s1 (fun n3 s4 => pAppendS w0 9 1 16 (Value.slice (Option.some (Addr.mk n3 0 Option.none)) 0 0) a0 s4 (fun v5 s6 => pVal false 1 v5 (pVal false 1 (Value.int IntKind.i64 3) (pVal false 1 (cellOf a2 1) (pVal true 5 (Value.agg (⟨[v5, Value.int IntKind.i64 3, Value.bool false, cellOf a2 1, Value.string ({ data := #[] })]⟩)) ((allOne ([v5, Value.int IntKind.i64 3, Value.bool false, cellOf a2 1, Value.string ({ data := #[] })])) ∧ (pAppend w0 80 5 64 (Value.slice (Option.some (Addr.mk n0 0 Option.none)) 0 0) 1 ([v5, Value.int IntKind.i64 3, Value.bool false, cellOf a2 1, Value.string ({ data := #[] })]) s6 (fun v7 s8 => pBin Tryz.prog 9 BinOp.neq (cellOf a1 2) (cellOf a2 2) (fun v9 => pIf v9 (pNew w0 9 [] s8 (fun n10 s11 => pAppendS w0 9 1 16 (Value.slice (Option.some (Addr.mk n10 0 Option.none)) 0 0) a0 s11 (fun v12 s13 => pVal false 1 v12 (pVal false 1 (Value.int IntKind.i64 4) (pVal false 1 (cellOf a2 2) (pVal true 5 (Value.agg (⟨[v12, Value.int IntKind.i64 4, Value.bool false, Value.int IntKind.i64 0, cellOf a2 2]⟩)) ((allOne [v12, Value.int IntKind.i64 4, Value.bool false, Value.int IntKind.i64 0, cellOf a2 2]) ∧ (pAppend w0 80 5 64 v7 1 [v12, Value.int IntKind.i64 4, Value.bool false, Value.int IntKind.i64 0, cellOf a2 2] s13 (fun v14 s15 => R v14 s15))))))))) (R v7 s8))))))))))) (pBin Tryz.prog 9 BinOp.neq (cellOf a1 2) (cellOf a2 2) (fun v16 => pIf v16 (pNew w0 9 [] s1 (fun n17 s18 => pAppendS w0 9 1 16 (Value.slice (Option.some (Addr.mk n17 0 Option.none)) 0 0) a0 s18 (fun v19 s20 => pVal false 1 v19 (pVal false 1 (Value.int IntKind.i64 4) (pVal false 1 (cellOf a2 2) (pVal true 5 (Value.agg (⟨[v19, Value.int IntKind.i64 4, Value.bool false, Value.int IntKind.i64 0, cellOf a2 2]⟩)) ((allOne [v19, Value.int IntKind.i64 4, Value.bool false, Value.int IntKind.i64 0, cellOf a2 2]) ∧ (pAppend w0 80 5 64 (Value.slice (Option.some (Addr.mk n0 0 Option.none)) 0 0) 1 [v19, Value.int IntKind.i64 4, Value.bool false, Value.int IntKind.i64 0, cellOf a2 2] s20 (fun v21 s22 => R v21 s22))))))))) (R (Value.slice (Option.some (Addr.mk n0 0 Option.none)) 0 0) s1)))))))
theorem vc_impl_changes_eq (w0 : World) (a0 a1 a2 : Value) (σ : Vw) (R : Value → Vw → Prop) : vc_impl_changes w0 a0 a1 a2 σ R = den Tryz.prog w0 kp_impl_changes esc_impl_changes (Tryz.f98.body.getD .skip) (entry Tryz.f98.ntmps [a0, a1, a2]) σ (retK Tryz.prog Tryz.f98.results.toList R) := by kernel_rfl
theorem ac_impl_changes {w0 : World} {a0 a1 a2 : Value} {σ : Vw} {R : Value → Vw → Prop} (h : vc_impl_changes w0 a0 a1 a2 σ R) : AC Tryz.prog w0 n_impl_changes [a0, a1, a2] σ R := by
  refine ac_rule (fn := Tryz.f98) (c := Tryz.f98.body.getD .skip) kp_impl_changes esc_impl_changes Tryz.func98 (by kernel_rfl) (by kernel_rfl) ?_
  rw [← vc_impl_changes_eq]
  exact h

/-- impl.either -/
def kp_impl_either : Nat → Keep
  | 1 => ⟨[], [], [], .step 1 (.step 2 (.step 3 (.step 4 (.step 6 (.step 7 (.step 8 (.step 9 (.step 0 (.step 5 (.step 10 (.step 11 (.done)))))))))))), [(2, [1]), (3, [1, 2]), (4, [1, 2, 3]), (5, [0, 1, 2, 3, 4]), (7, [6]), (8, [6, 7]), (9, [6, 7, 8]), (10, [0, 1, 2, 3, 4, 5, 6, 7, 8, 9]), (11, [0, 1, 2, 3, 4, 5, 6, 7, 8, 9, 10])]⟩
  | _ => ⟨[], [], [], .done, []⟩
def esc_impl_either : Nat → Bool
  | 6 => true
  | _ => false
def vc_impl_either (w0 : World) (a0 a1 : Value) (σ : Vw) (R : Value → Vw → Prop) : Prop :=
  pNil a0 (pField 3 a0 (fun v0 => pLoad w0 1 v0 σ (fun g1 => pNil a1 (pField 3 a1 (fun v2 => pLoad w0 1 v2 σ (fun g3 => pNew w0 9 [] σ (fun n4 s5 => (Stay w0 σ s5 v2 1) ∧ ((Stay w0 σ s5 v0 1) ∧ (pAppendS w0 9 1 16 (Value.slice (Option.some (Addr.mk n4 0 Option.none)) 0 0) (g1 0) s5 (fun v6 s7 => (Stay w0 s5 s7 v2 1) ∧ (pAppendS w0 9 1 16 v6 (g3 0) s7 (fun v8 s9 => AC Tryz.prog w0 n_slices_Sort_string_string [v8] s9 (fun v10 s11 => AC Tryz.prog w0 n_slices_Compact_string_string [v8] s11 (fun v12 s13 => R v12 s13))))))))))))))
theorem vc_impl_either_eq (w0 : World) (a0 a1 : Value) (σ : Vw) (R : Value → Vw → Prop) : vc_impl_either w0 a0 a1 σ R = den Tryz.prog w0 kp_impl_either esc_impl_either (Tryz.f99.body.getD .skip) (entry Tryz.f99.ntmps [a0, a1]) σ (retK Tryz.prog Tryz.f99.results.toList R) := by kernel_rfl
theorem ac_impl_either {w0 : World} {a0 a1 : Value} {σ : Vw} {R : Value → Vw → Prop} (h : vc_impl_either w0 a0 a1 σ R) : AC Tryz.prog w0 n_impl_either [a0, a1] σ R := by
  refine ac_rule (fn := Tryz.f99) (c := Tryz.f99.body.getD .skip) kp_impl_either esc_impl_either Tryz.func99 (by kernel_rfl) (by kernel_rfl) ?_
  rw [← vc_impl_either_eq]
  exact h

/-- impl.below -/
def kp_impl_below : Nat → Keep
  | _ => ⟨[], [], [], .done, []⟩
def esc_impl_below : Nat → Bool
  | 5 => true
  | _ => false
def vc_impl_below (w0 : World) (a0 a1 : Value) (σ : Vw) (R : Value → Vw → Prop) : Prop :=
  pNew w0 9 [] σ (fun n0 s1 => pAppendS w0 9 1 16 (Value.slice (Option.some (Addr.mk n0 0 Option.none)) 0 0) a0 s1 (fun v2 s3 => pVal false 1 a1 ((allOne [a1]) ∧ (pAppend w0 9 1 16 v2 1 [a1] s3 (fun v4 s5 => R v4 s5)))))
theorem vc_impl_below_eq (w0 : World) (a0 a1 : Value) (σ : Vw) (R : Value → Vw → Prop) : vc_impl_below w0 a0 a1 σ R = den Tryz.prog w0 kp_impl_below esc_impl_below (Tryz.f100.body.getD .skip) (entry Tryz.f100.ntmps [a0, a1]) σ (retK Tryz.prog Tryz.f100.results.toList R) := by kernel_rfl
theorem ac_impl_below {w0 : World} {a0 a1 : Value} {σ : Vw} {R : Value → Vw → Prop} (h : vc_impl_below w0 a0 a1 σ R) : AC Tryz.prog w0 n_impl_below [a0, a1] σ R := by
  refine ac_rule (fn := Tryz.f100) (c := Tryz.f100.body.getD .skip) kp_impl_below esc_impl_below Tryz.func100 (by kernel_rfl) (by kernel_rfl) ?_
  rw [← vc_impl_below_eq]
  exact h

/-- impl.leads -/
def kp_impl_leads : Nat → Keep
  | 2 => ⟨[1, 4, 7, 8, 9], [], [], .done, []⟩
  | _ => ⟨[], [], [], .done, []⟩
def esc_impl_leads : Nat → Bool
  | _ => false
def vc_impl_leads (w0 : World) (a0 a1 : Value) (σ : Vw) (R : Value → Vw → Prop) : Prop :=
  pLen a0 (fun v0 => pLoop (fun l1 K2 s3 => pBin Tryz.prog 3 BinOp.lss (vget l1 4) (vget l1 3) (fun v4 => pIf v4 (pIndexAddr 2 (vget l1 2) (vget l1 4) (fun v5 => pLoad w0 2 v5 s3 (fun g6 => pVal true 2 (Value.agg (⟨[g6 0, g6 1]⟩)) (AC Tryz.prog w0 n_impl_begins [g6 0, vget l1 0] s3 (fun v7 s8 => pIf v7 (K2 AX.ret [vget l1 0, Value.bool true, vget l1 2, vget l1 3, vget l1 4] s8) (pBin Tryz.prog 3 BinOp.add (vget l1 4) (Value.int IntKind.i64 1) (fun v9 => K2 AX.normal [vget l1 0, vget l1 1, vget l1 2, vget l1 3, v9] s8))))))) (K2 (AX.exit 0) [vget l1 0, vget l1 1, vget l1 2, vget l1 3, vget l1 4] s3))) [a1, Value.bool false, a0, v0, Value.int IntKind.i64 0] σ (fun x10 l11 s12 => match x10 with | .normal => R (Value.bool false) s12 | .ret => R (vget l11 1) s12 | .exit i13 => (match Nat.beq i13 0 with | true => R (Value.bool false) s12 | false => False)))
theorem vc_impl_leads_eq (w0 : World) (a0 a1 : Value) (σ : Vw) (R : Value → Vw → Prop) : vc_impl_leads w0 a0 a1 σ R = den Tryz.prog w0 kp_impl_leads esc_impl_leads (Tryz.f101.body.getD .skip) (entry Tryz.f101.ntmps [a0, a1]) σ (retK Tryz.prog Tryz.f101.results.toList R) := by kernel_rfl
theorem ac_impl_leads {w0 : World} {a0 a1 : Value} {σ : Vw} {R : Value → Vw → Prop} (h : vc_impl_leads w0 a0 a1 σ R) : AC Tryz.prog w0 n_impl_leads [a0, a1] σ R := by
  refine ac_rule (fn := Tryz.f101) (c := Tryz.f101.body.getD .skip) kp_impl_leads esc_impl_leads Tryz.func101 (by kernel_rfl) (by kernel_rfl) ?_
  rw [← vc_impl_leads_eq]
  exact h

/-- (*impl.Tree).kid -/
def kp_p_impl_Tree_kid : Nat → Keep
  | _ => ⟨[], [], [], .done, []⟩
def esc_p_impl_Tree_kid : Nat → Bool
  | _ => false
def vc_p_impl_Tree_kid (w0 : World) (a0 a1 : Value) (σ : Vw) (R : Value → Vw → Prop) : Prop :=
  pNil a0 (pField 3 a0 (fun v0 => pLoad w0 1 v0 σ (fun g1 => AC Tryz.prog w0 n_slices_Index_string_string [g1 0, a1] σ (fun v2 s3 => pBin Tryz.prog 3 BinOp.lss v2 (Value.int IntKind.i64 0) (fun v4 => pIf v4 (R (Value.pointer Option.none) s3) (pNil a0 (pField 4 a0 (fun v5 => pLoad w0 1 v5 s3 (fun g6 => pLen (g6 0) (fun v7 => pBin Tryz.prog 3 BinOp.geq v2 v7 (fun v8 => pIf v8 (R (Value.pointer Option.none) s3) (pNil a0 (pField 4 a0 (fun v9 => pLoad w0 1 v9 s3 (fun g10 => pIndexAddr 5 (g10 0) v2 (fun v11 => R v11 s3))))))))))))))))
theorem vc_p_impl_Tree_kid_eq (w0 : World) (a0 a1 : Value) (σ : Vw) (R : Value → Vw → Prop) : vc_p_impl_Tree_kid w0 a0 a1 σ R = den Tryz.prog w0 kp_p_impl_Tree_kid esc_p_impl_Tree_kid (Tryz.f102.body.getD .skip) (entry Tryz.f102.ntmps [a0, a1]) σ (retK Tryz.prog Tryz.f102.results.toList R) := by kernel_rfl
theorem ac_p_impl_Tree_kid {w0 : World} {a0 a1 : Value} {σ : Vw} {R : Value → Vw → Prop} (h : vc_p_impl_Tree_kid w0 a0 a1 σ R) : AC Tryz.prog w0 n_p_impl_Tree_kid [a0, a1] σ R := by
  refine ac_rule (fn := Tryz.f102) (c := Tryz.f102.body.getD .skip) kp_p_impl_Tree_kid esc_p_impl_Tree_kid Tryz.func102 (by kernel_rfl) (by kernel_rfl) ?_
  rw [← vc_p_impl_Tree_kid_eq]
  exact h

/-- spec.l1Parts -/
def kp_spec_l1Parts : Nat → Keep
  | 4 => ⟨[1, 4, 5], [(2, 5)], [2], .done, []⟩
  | _ => ⟨[], [], [], .done, []⟩
def esc_spec_l1Parts : Nat → Bool
  | _ => false
def vc_spec_l1Parts (w0 : World) (a0 a1 : Value) (σ : Vw) (R : Value → Vw → Prop) : Prop :=
  pVal true 5 a0 (AC Tryz.prog w0 n_spec_l1Plain ([Value.agg (⟨[cellOf a0 0, cellOf a0 1, cellOf a0 2, cellOf a0 3, cellOf a0 4]⟩)]) σ (fun v0 s1 => pUn UnOp.not v0 (fun v2 => pIf v2 (R (Value.bool false) s1) (pBin Tryz.prog 3 BinOp.gtr a1 (Value.int IntKind.i64 4) (fun v3 => pIf v3 (R (Value.bool false) s1) (pLoop (fun l4 K5 s6 => pLen (vget l4 7) (fun v7 => pBin Tryz.prog 3 BinOp.lss (vget l4 2) v7 (fun v8 => pIf v8 (pIndexAddr 5 (vget l4 7) (vget l4 2) (fun v9 => pLoad w0 5 v9 s6 (fun g10 => pBin Tryz.prog 3 BinOp.add (vget l4 0) (Value.int IntKind.i64 1) (fun v11 => AC Tryz.prog w0 n_spec_l1Parts ([Value.agg (⟨[g10 0, g10 1, g10 2, g10 3, g10 4]⟩), v11]) s6 (fun v12 s13 => pUn UnOp.not v12 (fun v14 => pIf v14 (K5 AX.ret [vget l4 0, Value.bool false, vget l4 2, vget l4 3, vget l4 4, vget l4 5, vget l4 6, vget l4 7] s13) (pBin Tryz.prog 3 BinOp.add (vget l4 2) (Value.int IntKind.i64 1) (fun v15 => K5 AX.normal [vget l4 0, vget l4 1, v15, vget l4 3, vget l4 4, vget l4 5, vget l4 6, vget l4 7] s13)))))))) (K5 (AX.exit 0) [vget l4 0, vget l4 1, vget l4 2, vget l4 3, vget l4 4, vget l4 5, vget l4 6, vget l4 7] s6)))) [a1, Value.bool false, Value.int IntKind.i64 0, cellOf a0 0, cellOf a0 1, cellOf a0 2, cellOf a0 3, cellOf a0 4] s1 (fun x16 l17 s18 => match x16 with | .normal => R (Value.bool true) s18 | .ret => R (vget l17 1) s18 | .exit i19 => (match Nat.beq i19 0 with | true => R (Value.bool true) s18 | false => False))))))))
theorem vc_spec_l1Parts_eq (w0 : World) (a0 a1 : Value) (σ : Vw) (R : Value → Vw → Prop) : vc_spec_l1Parts w0 a0 a1 σ R = den Tryz.prog w0 kp_spec_l1Parts esc_spec_l1Parts (Tryz.f103.body.getD .skip) (entry Tryz.f103.ntmps [a0, a1]) σ (retK Tryz.prog Tryz.f103.results.toList R) := by kernel_rfl
theorem ac_spec_l1Parts {w0 : World} {a0 a1 : Value} {σ : Vw} {R : Value → Vw → Prop} (h : vc_spec_l1Parts w0 a0 a1 σ R) : AC Tryz.prog w0 n_spec_l1Parts [a0, a1] σ R := by
  refine ac_rule (fn := Tryz.f103) (c := Tryz.f103.body.getD .skip) kp_spec_l1Parts esc_spec_l1Parts Tryz.func103 (by kernel_rfl) (by kernel_rfl) ?_
  rw [← vc_spec_l1Parts_eq]
  exact h

/-- spec.l1Count -/
def kp_spec_l1Count : Nat → Keep
  | 3 => ⟨[3, 4], [(1, 5)], [1], .done, []⟩
  | _ => ⟨[], [], [], .done, []⟩
def esc_spec_l1Count : Nat → Bool
  | _ => false
def vc_spec_l1Count (w0 : World) (a0 : Value) (σ : Vw) (R : Value → Vw → Prop) : Prop :=
  pVal true 5 a0 (pLen (cellOf a0 4) (fun v0 => pLoop (fun l1 K2 s3 => pLen (vget l1 6) (fun v4 => pBin Tryz.prog 3 BinOp.lss (vget l1 1) v4 (fun v5 => pIf v5 (pIndexAddr 5 (vget l1 6) (vget l1 1) (fun v6 => pLoad w0 5 v6 s3 (fun g7 => AC Tryz.prog w0 n_spec_l1Count ([Value.agg (⟨[g7 0, g7 1, g7 2, g7 3, g7 4]⟩)]) s3 (fun v8 s9 => pBin Tryz.prog 3 BinOp.add (vget l1 0) v8 (fun v10 => pBin Tryz.prog 3 BinOp.add (vget l1 1) (Value.int IntKind.i64 1) (fun v11 => K2 AX.normal [v10, v11, vget l1 2, vget l1 3, vget l1 4, vget l1 5, vget l1 6] s9)))))) (K2 (AX.exit 0) [vget l1 0, vget l1 1, vget l1 2, vget l1 3, vget l1 4, vget l1 5, vget l1 6] s3)))) [v0, Value.int IntKind.i64 0, cellOf a0 0, cellOf a0 1, cellOf a0 2, cellOf a0 3, cellOf a0 4] σ (fun x12 l13 s14 => match x12 with | .normal => R (vget l13 0) s14 | .ret => False | .exit i15 => (match Nat.beq i15 0 with | true => R (vget l13 0) s14 | false => False))))
theorem vc_spec_l1Count_eq (w0 : World) (a0 : Value) (σ : Vw) (R : Value → Vw → Prop) : vc_spec_l1Count w0 a0 σ R = den Tryz.prog w0 kp_spec_l1Count esc_spec_l1Count (Tryz.f104.body.getD .skip) (entry Tryz.f104.ntmps [a0]) σ (retK Tryz.prog Tryz.f104.results.toList R) := by kernel_rfl
theorem ac_spec_l1Count {w0 : World} {a0 : Value} {σ : Vw} {R : Value → Vw → Prop} (h : vc_spec_l1Count w0 a0 σ R) : AC Tryz.prog w0 n_spec_l1Count [a0] σ R := by
  refine ac_rule (fn := Tryz.f104) (c := Tryz.f104.body.getD .skip) kp_spec_l1Count esc_spec_l1Count Tryz.func104 (by kernel_rfl) (by kernel_rfl) ?_
  rw [← vc_spec_l1Count_eq]
  exact h

/-- spec.l3New -/
def kp_spec_l3New : Nat → Keep
  | 1 => ⟨[], [], [], .step 1 (.step 3 (.step 4 (.step 5 (.step 6 (.step 7 (.step 8 (.step 0 (.step 2 (.step 9 (.step 10 (.step 11 (.done)))))))))))), [(2, [0, 1]), (4, [3]), (6, [5]), (8, [7]), (9, [0, 1, 2, 3, 4, 5, 6, 7, 8]), (10, [0, 1, 2, 3, 4, 5, 6, 7, 8, 9]), (11, [0, 1, 2, 3, 4, 5, 6, 7, 8, 9, 10])]⟩
  | 3 => ⟨[0, 5, 6], [(3, 5)], [3], .done, []⟩
  | 5 => ⟨[], [], [], .step 0 (.step 1 (.step 2 (.step 3 (.step 4 (.step 5 (.step 6 (.step 8 (.step 9 (.step 10 (.step 11 (.step 12 (.step 7 (.step 13 (.step 14 (.step 15 (.done)))))))))))))))), [(3, [2]), (5, [2, 3, 4]), (6, [2, 3, 4, 5]), (7, [1, 2, 3, 4, 5, 6]), (9, [8]), (11, [8, 9, 10]), (12, [8, 9, 10, 11]), (13, [1, 2, 3, 4, 5, 6, 7, 8, 9, 10, 11, 12]), (14, [0, 1, 2, 3, 4, 5, 6, 7, 8, 9, 10, 11, 12, 13]), (15, [0, 1, 2, 3, 4, 5, 6, 7, 8, 9, 10, 11, 12, 13, 14])]⟩
  | _ => ⟨[], [], [], .done, []⟩
def esc_spec_l3New : Nat → Bool
  | 7 => true
  | 17 => true
  | _ => false
def vc_spec_l3New (w0 : World) (a0 a1 : Value) (σ : Vw) (R : Value → Vw → Prop) : Prop :=
  pVal true 5 a1 (pNew w0 9 [] σ (fun n0 s1 => pAppendS w0 9 1 16 (Value.slice (Option.some (Addr.mk n0 0 Option.none)) 0 0) a0 s1 (fun v2 s3 => pVal false 1 v2 (pVal false 1 (Value.int IntKind.i64 2) (pVal false 1 (cellOf a1 0) (pVal false 1 (cellOf a1 1) (pVal false 1 (cellOf a1 2) (pVal true 5 (Value.agg (⟨[v2, Value.int IntKind.i64 2, cellOf a1 0, cellOf a1 1, cellOf a1 2]⟩)) (pNew w0 80 [v2, Value.int IntKind.i64 2, cellOf a1 0, cellOf a1 1, cellOf a1 2] s3 (fun n4 s5 => pLoop (fun l6 K7 s8 => pLen (vget l6 6) (fun v9 => pBin Tryz.prog 3 BinOp.lss (vget l6 2) v9 (fun v10 => pIf v10 (pIndexAddr 1 (vget l6 6) (vget l6 2) (fun v11 => pLoad w0 1 v11 s8 (fun g12 => pIndexAddr 5 (vget l6 7) (vget l6 2) (fun v13 => pLoad w0 5 v13 s8 (fun g14 => AC Tryz.prog w0 n_spec_l3Path [vget l6 0, g12 0] s8 (fun v15 s16 => (Stay w0 s8 s16 v13 5) ∧ (AC Tryz.prog w0 n_spec_l3New ([v15, Value.agg (⟨[g14 0, g14 1, g14 2, g14 3, g14 4]⟩)]) s16 (fun v17 s18 => pAppendS w0 80 5 64 (vget l6 1) v17 s18 (fun v19 s20 => pBin Tryz.prog 3 BinOp.add (vget l6 2) (Value.int IntKind.i64 1) (fun v21 => K7 AX.normal [vget l6 0, v19, v21, vget l6 3, vget l6 4, vget l6 5, vget l6 6, vget l6 7] s20)))))))))) (K7 (AX.exit 0) [vget l6 0, vget l6 1, vget l6 2, vget l6 3, vget l6 4, vget l6 5, vget l6 6, vget l6 7] s8)))) [a0, Value.slice (Option.some (Addr.mk n4 0 Option.none)) 1 1, Value.int IntKind.i64 0, cellOf a1 0, cellOf a1 1, cellOf a1 2, cellOf a1 3, cellOf a1 4] s5 (fun x22 l23 s24 => match x22 with | .normal => R (vget l23 1) s24 | .ret => False | .exit i25 => (match Nat.beq i25 0 with | true => R (vget l23 1) s24 | false => False))))))))))))
theorem vc_spec_l3New_eq (w0 : World) (a0 a1 : Value) (σ : Vw) (R : Value → Vw → Prop) : vc_spec_l3New w0 a0 a1 σ R = den Tryz.prog w0 kp_spec_l3New esc_spec_l3New (Tryz.f105.body.getD .skip) (entry Tryz.f105.ntmps [a0, a1]) σ (retK Tryz.prog Tryz.f105.results.toList R) := by kernel_rfl
theorem ac_spec_l3New {w0 : World} {a0 a1 : Value} {σ : Vw} {R : Value → Vw → Prop} (h : vc_spec_l3New w0 a0 a1 σ R) : AC Tryz.prog w0 n_spec_l3New [a0, a1] σ R := by
  refine ac_rule (fn := Tryz.f105) (c := Tryz.f105.body.getD .skip) kp_spec_l3New esc_spec_l3New Tryz.func105 (by kernel_rfl) (by kernel_rfl) ?_
  rw [← vc_spec_l3New_eq]
  exact h

/-- spec.l3Gone -/
def kp_spec_l3Gone : Nat → Keep
  | _ => ⟨[], [], [], .done, []⟩
def esc_spec_l3Gone : Nat → Bool
  | 3 => true
  | 7 => true
  | _ => false
def vc_spec_l3Gone (w0 : World) (a0 : Value) (σ : Vw) (R : Value → Vw → Prop) : Prop :=
  pNew w0 9 [] σ (fun n0 s1 => pAppendS w0 9 1 16 (Value.slice (Option.some (Addr.mk n0 0 Option.none)) 0 0) a0 s1 (fun v2 s3 => pVal false 1 v2 (pVal false 1 (Value.int IntKind.i64 1) (pVal true 5 (Value.agg (⟨[v2, Value.int IntKind.i64 1, Value.bool false, Value.int IntKind.i64 0, Value.string ({ data := #[] })]⟩)) (pNew w0 80 ([v2, Value.int IntKind.i64 1, Value.bool false, Value.int IntKind.i64 0, Value.string ({ data := #[] })]) s3 (fun n4 s5 => R (Value.slice (Option.some (Addr.mk n4 0 Option.none)) 1 1) s5))))))
theorem vc_spec_l3Gone_eq (w0 : World) (a0 : Value) (σ : Vw) (R : Value → Vw → Prop) : vc_spec_l3Gone w0 a0 σ R = den Tryz.prog w0 kp_spec_l3Gone esc_spec_l3Gone (Tryz.f106.body.getD .skip) (entry Tryz.f106.ntmps [a0]) σ (retK Tryz.prog Tryz.f106.results.toList R) := by kernel_rfl
theorem ac_spec_l3Gone {w0 : World} {a0 : Value} {σ : Vw} {R : Value → Vw → Prop} (h : vc_spec_l3Gone w0 a0 σ R) : AC Tryz.prog w0 n_spec_l3Gone [a0] σ R := by
  refine ac_rule (fn := Tryz.f106) (c := Tryz.f106.body.getD .skip) kp_spec_l3Gone esc_spec_l3Gone Tryz.func106 (by kernel_rfl) (by kernel_rfl) ?_
  rw [← vc_spec_l3Gone_eq]
  exact h

/-- spec.l11Under -/
def kp_spec_l11Under : Nat → Keep
  | 2 => ⟨[0, 1, 4, 5], [], [], .done, []⟩
  | _ => ⟨[], [], [], .done, []⟩
def esc_spec_l11Under : Nat → Bool
  | _ => false
def vc_spec_l11Under (w0 : World) (a0 a1 : Value) (σ : Vw) (R : Value → Vw → Prop) : Prop :=
  pLoop (fun l0 K1 s2 => pLen (vget l0 0) (fun v3 => pBin Tryz.prog 3 BinOp.lss (vget l0 3) v3 (fun v4 => pIf v4 (pIndexAddr 2 (vget l0 0) (vget l0 3) (fun v5 => pField 1 v5 (fun v6 => pLoad w0 1 v6 s2 (fun g7 => pIf (g7 0) (pIndexAddr 2 (vget l0 0) (vget l0 3) (fun v8 => pField 0 v8 (fun v9 => pLoad w0 1 v9 s2 (fun g10 => AC Tryz.prog w0 n_spec_l2Within [vget l0 1, g10 0] s2 (fun v11 s12 => pIf v11 (K1 AX.ret [vget l0 0, vget l0 1, Value.bool true, vget l0 3] s12) (pBin Tryz.prog 3 BinOp.add (vget l0 3) (Value.int IntKind.i64 1) (fun v13 => K1 AX.normal [vget l0 0, vget l0 1, vget l0 2, v13] s12))))))) (pBin Tryz.prog 3 BinOp.add (vget l0 3) (Value.int IntKind.i64 1) (fun v14 => K1 AX.normal [vget l0 0, vget l0 1, vget l0 2, v14] s2)))))) (K1 (AX.exit 0) [vget l0 0, vget l0 1, vget l0 2, vget l0 3] s2)))) [a0, a1, Value.bool false, Value.int IntKind.i64 0] σ (fun x15 l16 s17 => match x15 with | .normal => R (Value.bool false) s17 | .ret => R (vget l16 2) s17 | .exit i18 => (match Nat.beq i18 0 with | true => R (Value.bool false) s17 | false => False))
theorem vc_spec_l11Under_eq (w0 : World) (a0 a1 : Value) (σ : Vw) (R : Value → Vw → Prop) : vc_spec_l11Under w0 a0 a1 σ R = den Tryz.prog w0 kp_spec_l11Under esc_spec_l11Under (Tryz.f107.body.getD .skip) (entry Tryz.f107.ntmps [a0, a1]) σ (retK Tryz.prog Tryz.f107.results.toList R) := by kernel_rfl
theorem ac_spec_l11Under {w0 : World} {a0 a1 : Value} {σ : Vw} {R : Value → Vw → Prop} (h : vc_spec_l11Under w0 a0 a1 σ R) : AC Tryz.prog w0 n_spec_l11Under [a0, a1] σ R := by
  refine ac_rule (fn := Tryz.f107) (c := Tryz.f107.body.getD .skip) kp_spec_l11Under esc_spec_l11Under Tryz.func107 (by kernel_rfl) (by kernel_rfl) ?_
  rw [← vc_spec_l11Under_eq]
  exact h

/-- spec.l3Walk -/
def kp_spec_l3Walk : Nat → Keep
  | 2 => ⟨[], [], [], .step 0 (.step 2 (.step 3 (.step 1 (.step 4 (.step 5 (.step 6 (.done))))))), [(1, [0]), (4, [0, 1, 2, 3]), (5, [0, 1, 2, 3, 4]), (6, [0, 1, 2, 3, 4, 5])]⟩
  | 6 => ⟨[0, 7, 8, 9], [(4, 5), (5, 5)], [4, 5], .done, []⟩
  | 7 => ⟨[], [], [], .step 0 (.step 1 (.step 2 (.step 3 (.step 4 (.step 5 (.step 6 (.step 8 (.step 9 (.step 10 (.step 11 (.step 12 (.step 13 (.step 14 (.step 15 (.step 16 (.step 17 (.step 7 (.step 18 (.step 19 (.step 20 (.done))))))))))))))))))))), [(3, [2]), (5, [2, 3, 4]), (6, [2, 3, 4, 5]), (7, [1, 2, 3, 4, 5, 6]), (9, [8]), (11, [8, 9, 10]), (12, [8, 9, 10, 11]), (14, [13]), (16, [13, 14, 15]), (17, [13, 14, 15, 16]), (18, [1, 2, 3, 4, 5, 6, 7, 8, 9, 10, 11, 12, 13, 14, 15, 16, 17]), (19, [0, 1, 2, 3, 4, 5, 6, 7, 8, 9, 10, 11, 12, 13, 14, 15, 16, 17, 18]), (20, [0, 1, 2, 3, 4, 5, 6, 7, 8, 9, 10, 11, 12, 13, 14, 15, 16, 17, 18, 19])]⟩
  | 10 => ⟨[], [], [], .step 0 (.step 1 (.step 2 (.step 3 (.step 4 (.step 5 (.step 6 (.step 7 (.step 8 (.step 9 (.step 10 (.step 11 (.step 12 (.step 13 (.step 14 (.step 15 (.step 16 (.step 17 (.step 18 (.step 19 (.step 20 (.step 21 (.step 22 (.step 23 (.step 24 (.step 25 (.done)))))))))))))))))))))))))), [(2, [1]), (3, [1, 2]), (4, [0, 1, 2, 3]), (5, [0, 1, 2, 3, 4]), (6, [0, 1, 2, 3, 4, 5]), (7, [0, 1, 2, 3, 4, 5]), (8, [0, 1, 2, 3, 4, 5, 7]), (9, [0, 1, 2, 3, 4, 5, 7, 8]), (10, [0, 1, 2, 3, 4, 5, 6, 7, 8, 9]), (11, [0, 1, 2, 3, 4, 5, 6, 7, 8, 9, 10]), (12, [0, 1, 2, 3, 4, 5, 6, 7, 8, 9, 10, 11]), (13, [0, 1, 2, 3, 4, 5, 6, 7, 8, 9, 10, 11, 12]), (14, [0, 1, 2, 3, 4, 5, 6, 7, 8, 9, 10, 11]), (15, [0, 1, 2, 3, 4, 5, 6, 7, 8, 9, 10, 11, 12, 13, 14]), (16, [0, 1, 2, 3, 4, 5, 6, 7, 8, 9, 10, 11, 12, 13, 14, 15]), (17, [0, 1, 2, 3, 4, 5, 6, 7, 8, 9, 10, 11]), (18, [0, 1, 2, 3, 4, 5, 6, 7, 8, 9, 10, 11, 17]), (19, [0, 1, 2, 3, 4, 5, 6, 7, 8, 9, 10, 11]), (20, [0, 1, 2, 3, 4, 5, 6, 7, 8, 9, 10, 11, 17, 18, 19]), (21, [0, 1, 2, 3, 4, 5, 6, 7, 8, 9, 10, 11, 17, 18, 19, 20]), (22, [0, 1, 2, 3, 4, 5, 6, 7, 8, 9, 10, 11, 12, 13, 14, 15, 16, 17, 18, 19, 20, 21]), (23, [0, 1, 2, 3, 4, 5, 6, 7, 8, 9, 10, 11, 12, 13, 14, 15, 16, 17, 18, 19, 20, 21, 22]), (24, [0, 1, 2, 3, 4, 5, 6, 7, 8, 9, 10, 11, 12, 13, 14, 15, 16, 17, 18, 19, 20, 21, 22, 23]), (25, [0, 1, 2, 3, 4, 5, 6, 7, 8, 9, 10, 11, 12, 13, 14, 15, 16, 17, 18, 19, 20, 21, 22, 23, 24])]⟩
  | 13 => ⟨[], [], [], .step 0 (.step 1 (.step 2 (.step 3 (.step 4 (.step 5 (.step 6 (.step 7 (.step 8 (.step 9 (.step 10 (.step 11 (.step 12 (.step 13 (.step 14 (.step 15 (.step 16 (.step 17 (.step 18 (.done))))))))))))))))))), [(2, [1]), (3, [1, 2]), (4, [0, 1, 2, 3]), (5, [0, 1, 2, 3, 4]), (6, [0, 1, 2, 3, 4, 5]), (7, [0, 1, 2, 3, 4, 5, 6]), (8, [0, 1, 2, 3, 4, 5]), (9, [0, 1, 2, 3, 4, 5, 6, 7, 8]), (10, [0, 1, 2, 3, 4, 5, 6, 7, 8, 9]), (11, [0, 1, 2, 3, 4, 5]), (12, [0, 1, 2, 3, 4, 5, 11]), (13, [0, 1, 2, 3, 4, 5]), (14, [0, 1, 2, 3, 4, 5, 11, 12, 13]), (15, [0, 1, 2, 3, 4, 5, 11, 12, 13, 14]), (16, [0, 1, 2, 3, 4, 5, 6, 7, 8, 9, 10, 11, 12, 13, 14, 15]), (17, [0, 1, 2, 3, 4, 5, 6, 7, 8, 9, 10, 11, 12, 13, 14, 15, 16]), (18, [0, 1, 2, 3, 4, 5, 6, 7, 8, 9, 10, 11, 12, 13, 14, 15, 16, 17])]⟩
  | 14 => ⟨[], [], [], .step 0 (.step 1 (.step 2 (.step 3 (.step 4 (.step 5 (.step 6 (.step 8 (.step 9 (.step 10 (.step 11 (.step 12 (.step 7 (.step 13 (.step 14 (.step 15 (.done)))))))))))))))), [(3, [2]), (5, [2, 3, 4]), (6, [2, 3, 4, 5]), (7, [1, 2, 3, 4, 5, 6]), (9, [8]), (11, [8, 9, 10]), (12, [8, 9, 10, 11]), (13, [1, 2, 3, 4, 5, 6, 7, 8, 9, 10, 11, 12]), (14, [0, 1, 2, 3, 4, 5, 6, 7, 8, 9, 10, 11, 12, 13]), (15, [0, 1, 2, 3, 4, 5, 6, 7, 8, 9, 10, 11, 12, 13, 14])]⟩
  | _ => ⟨[], [], [], .done, []⟩
def esc_spec_l3Walk : Nat → Bool
  | _ => false
def vc_spec_l3Walk (w0 : World) (a0 a1 a2 : Value) (σ : Vw) (R : Value → Vw → Prop) : Prop :=
  pVal true 5 a1 (pVal true 5 a2 (pBin Tryz.prog 4 BinOp.neq (cellOf a1 0) (cellOf a2 0) (fun v0 => pIf v0 (AC Tryz.prog w0 n_spec_l3Gone [a0] σ (fun v1 s2 => AC Tryz.prog w0 n_spec_l3New ([a0, Value.agg (⟨[cellOf a2 0, cellOf a2 1, cellOf a2 2, cellOf a2 3, cellOf a2 4]⟩)]) s2 (fun v3 s4 => pAppendS w0 80 5 64 v1 v3 s4 (fun v5 s6 => R v5 s6)))) (AC Tryz.prog w0 n_spec_l3Part ([a0, Value.agg (⟨[cellOf a1 0, cellOf a1 1, cellOf a1 2, cellOf a1 3, cellOf a1 4]⟩), Value.agg (⟨[cellOf a2 0, cellOf a2 1, cellOf a2 2, cellOf a2 3, cellOf a2 4]⟩)]) σ (fun v7 s8 => pLoop (fun l9 K10 s11 => pLen (vget l9 7) (fun v12 => pBin Tryz.prog 3 BinOp.lss (vget l9 2) v12 (fun v13 => pIf v13 (pLen (vget l9 12) (fun v14 => pBin Tryz.prog 3 BinOp.geq (vget l9 3) v14 (fun v15 => pIf v15 (pIndexAddr 1 (vget l9 7) (vget l9 2) (fun v16 => pLoad w0 1 v16 s11 (fun g17 => AC Tryz.prog w0 n_spec_l3Path [vget l9 0, g17 0] s11 (fun v18 s19 => AC Tryz.prog w0 n_spec_l3Gone [v18] s19 (fun v20 s21 => pAppendS w0 80 5 64 (vget l9 1) v20 s21 (fun v22 s23 => pBin Tryz.prog 3 BinOp.add (vget l9 2) (Value.int IntKind.i64 1) (fun v24 => K10 AX.normal [vget l9 0, v22, v24, vget l9 3, vget l9 4, vget l9 5, vget l9 6, vget l9 7, vget l9 8, vget l9 9, vget l9 10, vget l9 11, vget l9 12, vget l9 13] s23))))))) (pLen (vget l9 7) (fun v25 => pBin Tryz.prog 3 BinOp.lss (vget l9 2) v25 (fun v26 => pIf v26 (pIndexAddr 1 (vget l9 7) (vget l9 2) (fun v27 => pLoad w0 1 v27 s11 (fun g28 => pIndexAddr 1 (vget l9 12) (vget l9 3) (fun v29 => pLoad w0 1 v29 s11 (fun g30 => pBin Tryz.prog 9 BinOp.lss (g28 0) (g30 0) (fun v31 => pIf v31 (pIndexAddr 1 (vget l9 7) (vget l9 2) (fun v32 => pLoad w0 1 v32 s11 (fun g33 => AC Tryz.prog w0 n_spec_l3Path [vget l9 0, g33 0] s11 (fun v34 s35 => AC Tryz.prog w0 n_spec_l3Gone [v34] s35 (fun v36 s37 => pAppendS w0 80 5 64 (vget l9 1) v36 s37 (fun v38 s39 => pBin Tryz.prog 3 BinOp.add (vget l9 2) (Value.int IntKind.i64 1) (fun v40 => K10 AX.normal [vget l9 0, v38, v40, vget l9 3, vget l9 4, vget l9 5, vget l9 6, vget l9 7, vget l9 8, vget l9 9, vget l9 10, vget l9 11, vget l9 12, vget l9 13] s39))))))) (pLen (vget l9 7) (fun v41 => pBin Tryz.prog 3 BinOp.geq (vget l9 2) v41 (fun v42 => pIf v42 (pIndexAddr 1 (vget l9 12) (vget l9 3) (fun v43 => pLoad w0 1 v43 s11 (fun g44 => pIndexAddr 5 (vget l9 13) (vget l9 3) (fun v45 => pLoad w0 5 v45 s11 (fun g46 => AC Tryz.prog w0 n_spec_l3Path [vget l9 0, g44 0] s11 (fun v47 s48 => (Stay w0 s11 s48 v45 5) ∧ (AC Tryz.prog w0 n_spec_l3New ([v47, Value.agg (⟨[g46 0, g46 1, g46 2, g46 3, g46 4]⟩)]) s48 (fun v49 s50 => pAppendS w0 80 5 64 (vget l9 1) v49 s50 (fun v51 s52 => pBin Tryz.prog 3 BinOp.add (vget l9 3) (Value.int IntKind.i64 1) (fun v53 => K10 AX.normal [vget l9 0, v51, vget l9 2, v53, vget l9 4, vget l9 5, vget l9 6, vget l9 7, vget l9 8, vget l9 9, vget l9 10, vget l9 11, vget l9 12, vget l9 13] s52)))))))))) (pIndexAddr 1 (vget l9 12) (vget l9 3) (fun v54 => pLoad w0 1 v54 s11 (fun g55 => pIndexAddr 1 (vget l9 7) (vget l9 2) (fun v56 => pLoad w0 1 v56 s11 (fun g57 => pBin Tryz.prog 9 BinOp.lss (g55 0) (g57 0) (fun v58 => pIf v58 (pIndexAddr 1 (vget l9 12) (vget l9 3) (fun v59 => pLoad w0 1 v59 s11 (fun g60 => pIndexAddr 5 (vget l9 13) (vget l9 3) (fun v61 => pLoad w0 5 v61 s11 (fun g62 => AC Tryz.prog w0 n_spec_l3Path [vget l9 0, g60 0] s11 (fun v63 s64 => (Stay w0 s11 s64 v61 5) ∧ (AC Tryz.prog w0 n_spec_l3New ([v63, Value.agg (⟨[g62 0, g62 1, g62 2, g62 3, g62 4]⟩)]) s64 (fun v65 s66 => pAppendS w0 80 5 64 (vget l9 1) v65 s66 (fun v67 s68 => pBin Tryz.prog 3 BinOp.add (vget l9 3) (Value.int IntKind.i64 1) (fun v69 => K10 AX.normal [vget l9 0, v67, vget l9 2, v69, vget l9 4, vget l9 5, vget l9 6, vget l9 7, vget l9 8, vget l9 9, vget l9 10, vget l9 11, vget l9 12, vget l9 13] s68)))))))))) (pIndexAddr 1 (vget l9 7) (vget l9 2) (fun v70 => pLoad w0 1 v70 s11 (fun g71 => pIndexAddr 5 (vget l9 8) (vget l9 2) (fun v72 => pLoad w0 5 v72 s11 (fun g73 => pIndexAddr 5 (vget l9 13) (vget l9 3) (fun v74 => pLoad w0 5 v74 s11 (fun g75 => AC Tryz.prog w0 n_spec_l3Path [vget l9 0, g71 0] s11 (fun v76 s77 => (Stay w0 s11 s77 v74 5) ∧ ((Stay w0 s11 s77 v72 5) ∧ (AC Tryz.prog w0 n_spec_l3Walk ([v76, Value.agg (⟨[g73 0, g73 1, g73 2, g73 3, g73 4]⟩), Value.agg (⟨[g75 0, g75 1, g75 2, g75 3, g75 4]⟩)]) s77 (fun v78 s79 => pAppendS w0 80 5 64 (vget l9 1) v78 s79 (fun v80 s81 => pBin Tryz.prog 3 BinOp.add (vget l9 2) (Value.int IntKind.i64 1) (fun v82 => pBin Tryz.prog 3 BinOp.add (vget l9 3) (Value.int IntKind.i64 1) (fun v83 => K10 AX.normal [vget l9 0, v80, v82, v83, vget l9 4, vget l9 5, vget l9 6, vget l9 7, vget l9 8, vget l9 9, vget l9 10, vget l9 11, vget l9 12, vget l9 13] s81))))))))))))))))))))))))))))) (pLen (vget l9 7) (fun v84 => pBin Tryz.prog 3 BinOp.geq (vget l9 2) v84 (fun v85 => pIf v85 (pIndexAddr 1 (vget l9 12) (vget l9 3) (fun v86 => pLoad w0 1 v86 s11 (fun g87 => pIndexAddr 5 (vget l9 13) (vget l9 3) (fun v88 => pLoad w0 5 v88 s11 (fun g89 => AC Tryz.prog w0 n_spec_l3Path [vget l9 0, g87 0] s11 (fun v90 s91 => (Stay w0 s11 s91 v88 5) ∧ (AC Tryz.prog w0 n_spec_l3New ([v90, Value.agg (⟨[g89 0, g89 1, g89 2, g89 3, g89 4]⟩)]) s91 (fun v92 s93 => pAppendS w0 80 5 64 (vget l9 1) v92 s93 (fun v94 s95 => pBin Tryz.prog 3 BinOp.add (vget l9 3) (Value.int IntKind.i64 1) (fun v96 => K10 AX.normal [vget l9 0, v94, vget l9 2, v96, vget l9 4, vget l9 5, vget l9 6, vget l9 7, vget l9 8, vget l9 9, vget l9 10, vget l9 11, vget l9 12, vget l9 13] s95)))))))))) (pIndexAddr 1 (vget l9 12) (vget l9 3) (fun v97 => pLoad w0 1 v97 s11 (fun g98 => pIndexAddr 1 (vget l9 7) (vget l9 2) (fun v99 => pLoad w0 1 v99 s11 (fun g100 => pBin Tryz.prog 9 BinOp.lss (g98 0) (g100 0) (fun v101 => pIf v101 (pIndexAddr 1 (vget l9 12) (vget l9 3) (fun v102 => pLoad w0 1 v102 s11 (fun g103 => pIndexAddr 5 (vget l9 13) (vget l9 3) (fun v104 => pLoad w0 5 v104 s11 (fun g105 => AC Tryz.prog w0 n_spec_l3Path [vget l9 0, g103 0] s11 (fun v106 s107 => (Stay w0 s11 s107 v104 5) ∧ (AC Tryz.prog w0 n_spec_l3New ([v106, Value.agg (⟨[g105 0, g105 1, g105 2, g105 3, g105 4]⟩)]) s107 (fun v108 s109 => pAppendS w0 80 5 64 (vget l9 1) v108 s109 (fun v110 s111 => pBin Tryz.prog 3 BinOp.add (vget l9 3) (Value.int IntKind.i64 1) (fun v112 => K10 AX.normal [vget l9 0, v110, vget l9 2, v112, vget l9 4, vget l9 5, vget l9 6, vget l9 7, vget l9 8, vget l9 9, vget l9 10, vget l9 11, vget l9 12, vget l9 13] s111)))))))))) (pIndexAddr 1 (vget l9 7) (vget l9 2) (fun v113 => pLoad w0 1 v113 s11 (fun g114 => pIndexAddr 5 (vget l9 8) (vget l9 2) (fun v115 => pLoad w0 5 v115 s11 (fun g116 => pIndexAddr 5 (vget l9 13) (vget l9 3) (fun v117 => pLoad w0 5 v117 s11 (fun g118 => AC Tryz.prog w0 n_spec_l3Path [vget l9 0, g114 0] s11 (fun v119 s120 => (Stay w0 s11 s120 v117 5) ∧ ((Stay w0 s11 s120 v115 5) ∧ (AC Tryz.prog w0 n_spec_l3Walk ([v119, Value.agg (⟨[g116 0, g116 1, g116 2, g116 3, g116 4]⟩), Value.agg (⟨[g118 0, g118 1, g118 2, g118 3, g118 4]⟩)]) s120 (fun v121 s122 => pAppendS w0 80 5 64 (vget l9 1) v121 s122 (fun v123 s124 => pBin Tryz.prog 3 BinOp.add (vget l9 2) (Value.int IntKind.i64 1) (fun v125 => pBin Tryz.prog 3 BinOp.add (vget l9 3) (Value.int IntKind.i64 1) (fun v126 => K10 AX.normal [vget l9 0, v123, v125, v126, vget l9 4, vget l9 5, vget l9 6, vget l9 7, vget l9 8, vget l9 9, vget l9 10, vget l9 11, vget l9 12, vget l9 13] s124))))))))))))))))))))))))))))) (pLen (vget l9 12) (fun v127 => pBin Tryz.prog 3 BinOp.lss (vget l9 3) v127 (fun v128 => pIf v128 (pLen (vget l9 12) (fun v129 => pBin Tryz.prog 3 BinOp.geq (vget l9 3) v129 (fun v130 => pIf v130 (pIndexAddr 1 (vget l9 7) (vget l9 2) (fun v131 => pLoad w0 1 v131 s11 (fun g132 => AC Tryz.prog w0 n_spec_l3Path [vget l9 0, g132 0] s11 (fun v133 s134 => AC Tryz.prog w0 n_spec_l3Gone [v133] s134 (fun v135 s136 => pAppendS w0 80 5 64 (vget l9 1) v135 s136 (fun v137 s138 => pBin Tryz.prog 3 BinOp.add (vget l9 2) (Value.int IntKind.i64 1) (fun v139 => K10 AX.normal [vget l9 0, v137, v139, vget l9 3, vget l9 4, vget l9 5, vget l9 6, vget l9 7, vget l9 8, vget l9 9, vget l9 10, vget l9 11, vget l9 12, vget l9 13] s138))))))) (pLen (vget l9 7) (fun v140 => pBin Tryz.prog 3 BinOp.lss (vget l9 2) v140 (fun v141 => pIf v141 (pIndexAddr 1 (vget l9 7) (vget l9 2) (fun v142 => pLoad w0 1 v142 s11 (fun g143 => pIndexAddr 1 (vget l9 12) (vget l9 3) (fun v144 => pLoad w0 1 v144 s11 (fun g145 => pBin Tryz.prog 9 BinOp.lss (g143 0) (g145 0) (fun v146 => pIf v146 (pIndexAddr 1 (vget l9 7) (vget l9 2) (fun v147 => pLoad w0 1 v147 s11 (fun g148 => AC Tryz.prog w0 n_spec_l3Path [vget l9 0, g148 0] s11 (fun v149 s150 => AC Tryz.prog w0 n_spec_l3Gone [v149] s150 (fun v151 s152 => pAppendS w0 80 5 64 (vget l9 1) v151 s152 (fun v153 s154 => pBin Tryz.prog 3 BinOp.add (vget l9 2) (Value.int IntKind.i64 1) (fun v155 => K10 AX.normal [vget l9 0, v153, v155, vget l9 3, vget l9 4, vget l9 5, vget l9 6, vget l9 7, vget l9 8, vget l9 9, vget l9 10, vget l9 11, vget l9 12, vget l9 13] s154))))))) (pLen (vget l9 7) (fun v156 => pBin Tryz.prog 3 BinOp.geq (vget l9 2) v156 (fun v157 => pIf v157 (pIndexAddr 1 (vget l9 12) (vget l9 3) (fun v158 => pLoad w0 1 v158 s11 (fun g159 => pIndexAddr 5 (vget l9 13) (vget l9 3) (fun v160 => pLoad w0 5 v160 s11 (fun g161 => AC Tryz.prog w0 n_spec_l3Path [vget l9 0, g159 0] s11 (fun v162 s163 => (Stay w0 s11 s163 v160 5) ∧ (AC Tryz.prog w0 n_spec_l3New ([v162, Value.agg (⟨[g161 0, g161 1, g161 2, g161 3, g161 4]⟩)]) s163 (fun v164 s165 => pAppendS w0 80 5 64 (vget l9 1) v164 s165 (fun v166 s167 => pBin Tryz.prog 3 BinOp.add (vget l9 3) (Value.int IntKind.i64 1) (fun v168 => K10 AX.normal [vget l9 0, v166, vget l9 2, v168, vget l9 4, vget l9 5, vget l9 6, vget l9 7, vget l9 8, vget l9 9, vget l9 10, vget l9 11, vget l9 12, vget l9 13] s167)))))))))) (pIndexAddr 1 (vget l9 12) (vget l9 3) (fun v169 => pLoad w0 1 v169 s11 (fun g170 => pIndexAddr 1 (vget l9 7) (vget l9 2) (fun v171 => pLoad w0 1 v171 s11 (fun g172 => pBin Tryz.prog 9 BinOp.lss (g170 0) (g172 0) (fun v173 => pIf v173 (pIndexAddr 1 (vget l9 12) (vget l9 3) (fun v174 => pLoad w0 1 v174 s11 (fun g175 => pIndexAddr 5 (vget l9 13) (vget l9 3) (fun v176 => pLoad w0 5 v176 s11 (fun g177 => AC Tryz.prog w0 n_spec_l3Path [vget l9 0, g175 0] s11 (fun v178 s179 => (Stay w0 s11 s179 v176 5) ∧ (AC Tryz.prog w0 n_spec_l3New ([v178, Value.agg (⟨[g177 0, g177 1, g177 2, g177 3, g177 4]⟩)]) s179 (fun v180 s181 => pAppendS w0 80 5 64 (vget l9 1) v180 s181 (fun v182 s183 => pBin Tryz.prog 3 BinOp.add (vget l9 3) (Value.int IntKind.i64 1) (fun v184 => K10 AX.normal [vget l9 0, v182, vget l9 2, v184, vget l9 4, vget l9 5, vget l9 6, vget l9 7, vget l9 8, vget l9 9, vget l9 10, vget l9 11, vget l9 12, vget l9 13] s183)))))))))) (pIndexAddr 1 (vget l9 7) (vget l9 2) (fun v185 => pLoad w0 1 v185 s11 (fun g186 => pIndexAddr 5 (vget l9 8) (vget l9 2) (fun v187 => pLoad w0 5 v187 s11 (fun g188 => pIndexAddr 5 (vget l9 13) (vget l9 3) (fun v189 => pLoad w0 5 v189 s11 (fun g190 => AC Tryz.prog w0 n_spec_l3Path [vget l9 0, g186 0] s11 (fun v191 s192 => (Stay w0 s11 s192 v189 5) ∧ ((Stay w0 s11 s192 v187 5) ∧ (AC Tryz.prog w0 n_spec_l3Walk ([v191, Value.agg (⟨[g188 0, g188 1, g188 2, g188 3, g188 4]⟩), Value.agg (⟨[g190 0, g190 1, g190 2, g190 3, g190 4]⟩)]) s192 (fun v193 s194 => pAppendS w0 80 5 64 (vget l9 1) v193 s194 (fun v195 s196 => pBin Tryz.prog 3 BinOp.add (vget l9 2) (Value.int IntKind.i64 1) (fun v197 => pBin Tryz.prog 3 BinOp.add (vget l9 3) (Value.int IntKind.i64 1) (fun v198 => K10 AX.normal [vget l9 0, v195, v197, v198, vget l9 4, vget l9 5, vget l9 6, vget l9 7, vget l9 8, vget l9 9, vget l9 10, vget l9 11, vget l9 12, vget l9 13] s196))))))))))))))))))))))))))))) (pLen (vget l9 7) (fun v199 => pBin Tryz.prog 3 BinOp.geq (vget l9 2) v199 (fun v200 => pIf v200 (pIndexAddr 1 (vget l9 12) (vget l9 3) (fun v201 => pLoad w0 1 v201 s11 (fun g202 => pIndexAddr 5 (vget l9 13) (vget l9 3) (fun v203 => pLoad w0 5 v203 s11 (fun g204 => AC Tryz.prog w0 n_spec_l3Path [vget l9 0, g202 0] s11 (fun v205 s206 => (Stay w0 s11 s206 v203 5) ∧ (AC Tryz.prog w0 n_spec_l3New ([v205, Value.agg (⟨[g204 0, g204 1, g204 2, g204 3, g204 4]⟩)]) s206 (fun v207 s208 => pAppendS w0 80 5 64 (vget l9 1) v207 s208 (fun v209 s210 => pBin Tryz.prog 3 BinOp.add (vget l9 3) (Value.int IntKind.i64 1) (fun v211 => K10 AX.normal [vget l9 0, v209, vget l9 2, v211, vget l9 4, vget l9 5, vget l9 6, vget l9 7, vget l9 8, vget l9 9, vget l9 10, vget l9 11, vget l9 12, vget l9 13] s210)))))))))) (pIndexAddr 1 (vget l9 12) (vget l9 3) (fun v212 => pLoad w0 1 v212 s11 (fun g213 => pIndexAddr 1 (vget l9 7) (vget l9 2) (fun v214 => pLoad w0 1 v214 s11 (fun g215 => pBin Tryz.prog 9 BinOp.lss (g213 0) (g215 0) (fun v216 => pIf v216 (pIndexAddr 1 (vget l9 12) (vget l9 3) (fun v217 => pLoad w0 1 v217 s11 (fun g218 => pIndexAddr 5 (vget l9 13) (vget l9 3) (fun v219 => pLoad w0 5 v219 s11 (fun g220 => AC Tryz.prog w0 n_spec_l3Path [vget l9 0, g218 0] s11 (fun v221 s222 => (Stay w0 s11 s222 v219 5) ∧ (AC Tryz.prog w0 n_spec_l3New ([v221, Value.agg (⟨[g220 0, g220 1, g220 2, g220 3, g220 4]⟩)]) s222 (fun v223 s224 => pAppendS w0 80 5 64 (vget l9 1) v223 s224 (fun v225 s226 => pBin Tryz.prog 3 BinOp.add (vget l9 3) (Value.int IntKind.i64 1) (fun v227 => K10 AX.normal [vget l9 0, v225, vget l9 2, v227, vget l9 4, vget l9 5, vget l9 6, vget l9 7, vget l9 8, vget l9 9, vget l9 10, vget l9 11, vget l9 12, vget l9 13] s226)))))))))) (pIndexAddr 1 (vget l9 7) (vget l9 2) (fun v228 => pLoad w0 1 v228 s11 (fun g229 => pIndexAddr 5 (vget l9 8) (vget l9 2) (fun v230 => pLoad w0 5 v230 s11 (fun g231 => pIndexAddr 5 (vget l9 13) (vget l9 3) (fun v232 => pLoad w0 5 v232 s11 (fun g233 => AC Tryz.prog w0 n_spec_l3Path [vget l9 0, g229 0] s11 (fun v234 s235 => (Stay w0 s11 s235 v232 5) ∧ ((Stay w0 s11 s235 v230 5) ∧ (AC Tryz.prog w0 n_spec_l3Walk ([v234, Value.agg (⟨[g231 0, g231 1, g231 2, g231 3, g231 4]⟩), Value.agg (⟨[g233 0, g233 1, g233 2, g233 3, g233 4]⟩)]) s235 (fun v236 s237 => pAppendS w0 80 5 64 (vget l9 1) v236 s237 (fun v238 s239 => pBin Tryz.prog 3 BinOp.add (vget l9 2) (Value.int IntKind.i64 1) (fun v240 => pBin Tryz.prog 3 BinOp.add (vget l9 3) (Value.int IntKind.i64 1) (fun v241 => K10 AX.normal [vget l9 0, v238, v240, v241, vget l9 4, vget l9 5, vget l9 6, vget l9 7, vget l9 8, vget l9 9, vget l9 10, vget l9 11, vget l9 12, vget l9 13] s239))))))))))))))))))))))))))))) (K10 (AX.exit 0) [vget l9 0, vget l9 1, vget l9 2, vget l9 3, vget l9 4, vget l9 5, vget l9 6, vget l9 7, vget l9 8, vget l9 9, vget l9 10, vget l9 11, vget l9 12, vget l9 13] s11))))))) [a0, v7, Value.int IntKind.i64 0, Value.int IntKind.i64 0, cellOf a1 0, cellOf a1 1, cellOf a1 2, cellOf a1 3, cellOf a1 4, cellOf a2 0, cellOf a2 1, cellOf a2 2, cellOf a2 3, cellOf a2 4] s8 (fun x242 l243 s244 => match x242 with | .normal => R (vget l243 1) s244 | .ret => False | .exit i245 => (match Nat.beq i245 0 with | true => R (vget l243 1) s244 | false => False)))))))
theorem vc_spec_l3Walk_eq (w0 : World) (a0 a1 a2 : Value) (σ : Vw) (R : Value → Vw → Prop) : vc_spec_l3Walk w0 a0 a1 a2 σ R = den Tryz.prog w0 kp_spec_l3Walk esc_spec_l3Walk (Tryz.f108.body.getD .skip) (entry Tryz.f108.ntmps [a0, a1, a2]) σ (retK Tryz.prog Tryz.f108.results.toList R) := by kernel_rfl
theorem ac_spec_l3Walk {w0 : World} {a0 a1 a2 : Value} {σ : Vw} {R : Value → Vw → Prop} (h : vc_spec_l3Walk w0 a0 a1 a2 σ R) : AC Tryz.prog w0 n_spec_l3Walk [a0, a1, a2] σ R := by
  refine ac_rule (fn := Tryz.f108) (c := Tryz.f108.body.getD .skip) kp_spec_l3Walk esc_spec_l3Walk Tryz.func108 (by kernel_rfl) (by kernel_rfl) ?_
  rw [← vc_spec_l3Walk_eq]
  exact h

/-- spec.l11Marked -/
def kp_spec_l11Marked : Nat → Keep
  | 2 => ⟨[0, 1, 4, 5], [], [], .done, []⟩
  | _ => ⟨[], [], [], .done, []⟩
def esc_spec_l11Marked : Nat → Bool
  | _ => false
def vc_spec_l11Marked (w0 : World) (a0 a1 : Value) (σ : Vw) (R : Value → Vw → Prop) : Prop :=
  pLoop (fun l0 K1 s2 => pLen (vget l0 0) (fun v3 => pBin Tryz.prog 3 BinOp.lss (vget l0 3) v3 (fun v4 => pIf v4 (pIndexAddr 2 (vget l0 0) (vget l0 3) (fun v5 => pField 0 v5 (fun v6 => pLoad w0 1 v6 s2 (fun g7 => AC Tryz.prog w0 n_spec_l11Same [g7 0, vget l0 1] s2 (fun v8 s9 => pIf v8 (K1 AX.ret [vget l0 0, vget l0 1, Value.bool true, vget l0 3] s9) (pIndexAddr 2 (vget l0 0) (vget l0 3) (fun v10 => pField 1 v10 (fun v11 => pLoad w0 1 v11 s9 (fun g12 => pIf (g12 0) (pIndexAddr 2 (vget l0 0) (vget l0 3) (fun v13 => pField 0 v13 (fun v14 => pLoad w0 1 v14 s9 (fun g15 => AC Tryz.prog w0 n_spec_l2Within [vget l0 1, g15 0] s9 (fun v16 s17 => pIf v16 (K1 AX.ret [vget l0 0, vget l0 1, Value.bool true, vget l0 3] s17) (pBin Tryz.prog 3 BinOp.add (vget l0 3) (Value.int IntKind.i64 1) (fun v18 => K1 AX.normal [vget l0 0, vget l0 1, vget l0 2, v18] s17))))))) (pBin Tryz.prog 3 BinOp.add (vget l0 3) (Value.int IntKind.i64 1) (fun v19 => K1 AX.normal [vget l0 0, vget l0 1, vget l0 2, v19] s9))))))))))) (K1 (AX.exit 0) [vget l0 0, vget l0 1, vget l0 2, vget l0 3] s2)))) [a0, a1, Value.bool false, Value.int IntKind.i64 0] σ (fun x20 l21 s22 => match x20 with | .normal => R (Value.bool false) s22 | .ret => R (vget l21 2) s22 | .exit i23 => (match Nat.beq i23 0 with | true => R (Value.bool false) s22 | false => False))
theorem vc_spec_l11Marked_eq (w0 : World) (a0 a1 : Value) (σ : Vw) (R : Value → Vw → Prop) : vc_spec_l11Marked w0 a0 a1 σ R = den Tryz.prog w0 kp_spec_l11Marked esc_spec_l11Marked (Tryz.f109.body.getD .skip) (entry Tryz.f109.ntmps [a0, a1]) σ (retK Tryz.prog Tryz.f109.results.toList R) := by kernel_rfl
theorem ac_spec_l11Marked {w0 : World} {a0 a1 : Value} {σ : Vw} {R : Value → Vw → Prop} (h : vc_spec_l11Marked w0 a0 a1 σ R) : AC Tryz.prog w0 n_spec_l11Marked [a0, a1] σ R := by
  refine ac_rule (fn := Tryz.f109) (c := Tryz.f109.body.getD .skip) kp_spec_l11Marked esc_spec_l11Marked Tryz.func109 (by kernel_rfl) (by kernel_rfl) ?_
  rw [← vc_spec_l11Marked_eq]
  exact h

/-- spec.l3Part -/
def kp_spec_l3Part : Nat → Keep
  | 3 => ⟨[], [], [], .step 0 (.step 2 (.step 4 (.step 5 (.step 1 (.step 3 (.step 6 (.step 7 (.step 8 (.step 9 (.done)))))))))), [(3, [1, 2]), (5, [4]), (6, [1, 2, 3, 4, 5]), (7, [1, 2, 3, 4, 5, 6]), (8, [0, 1, 2, 3, 4, 5, 6, 7]), (9, [0, 1, 2, 3, 4, 5, 6, 7, 8])]⟩
  | 5 => ⟨[], [], [], .step 0 (.step 2 (.step 4 (.step 5 (.step 1 (.step 3 (.step 6 (.step 7 (.step 8 (.step 9 (.done)))))))))), [(3, [1, 2]), (5, [4]), (6, [1, 2, 3, 4, 5]), (7, [1, 2, 3, 4, 5, 6]), (8, [0, 1, 2, 3, 4, 5, 6, 7]), (9, [0, 1, 2, 3, 4, 5, 6, 7, 8])]⟩
  | _ => ⟨[], [], [], .done, []⟩
def esc_spec_l3Part : Nat → Bool
  | 8 => true
  | 15 => true
  | 29 => true
  | _ => false
def vc_spec_l3Part (w0 : World) (a0 a1 a2 : Value) (σ : Vw) (R : Value → Vw → Prop) : Prop :=
  pVal true 5 a1 (pVal true 5 a2 (pNew w0 80 [] σ (fun n0 s1 => pBin Tryz.prog 3 BinOp.neq (cellOf a1 1) (cellOf a2 1) (fun v2 => pIf v2 (pNew w0 9 [] s1 (fun n3 s4 => pAppendS w0 9 1 16 (Value.slice (Option.some (Addr.mk n3 0 Option.none)) 0 0) a0 s4 (fun v5 s6 => pVal false 1 v5 (pVal false 1 (Value.int IntKind.i64 3) (pVal false 1 (cellOf a2 1) (pVal true 5 (Value.agg (⟨[v5, Value.int IntKind.i64 3, Value.bool false, cellOf a2 1, Value.string ({ data := #[] })]⟩)) ((allOne ([v5, Value.int IntKind.i64 3, Value.bool false, cellOf a2 1, Value.string ({ data := #[] })])) ∧ (pAppend w0 80 5 64 (Value.slice (Option.some (Addr.mk n0 0 Option.none)) 0 0) 1 ([v5, Value.int IntKind.i64 3, Value.bool false, cellOf a2 1, Value.string ({ data := #[] })]) s6 (fun v7 s8 => pBin Tryz.prog 9 BinOp.neq (cellOf a1 2) (cellOf a2 2) (fun v9 => pIf v9 (pNew w0 9 [] s8 (fun n10 s11 => pAppendS w0 9 1 16 (Value.slice (Option.some (Addr.mk n10 0 Option.none)) 0 0) a0 s11 (fun v12 s13 => pVal false 1 v12 (pVal false 1 (Value.int IntKind.i64 4) (pVal false 1 (cellOf a2 2) (pVal true 5 (Value.agg (⟨[v12, Value.int IntKind.i64 4, Value.bool false, Value.int IntKind.i64 0, cellOf a2 2]⟩)) ((allOne [v12, Value.int IntKind.i64 4, Value.bool false, Value.int IntKind.i64 0, cellOf a2 2]) ∧ (pAppend w0 80 5 64 v7 1 [v12, Value.int IntKind.i64 4, Value.bool false, Value.int IntKind.i64 0, cellOf a2 2] s13 (fun v14 s15 => R v14 s15))))))))) (R v7 s8))))))))))) (pBin Tryz.prog 9 BinOp.neq (cellOf a1 2) (cellOf a2 2) (fun v16 => pIf v16 (pNew w0 9 [] s1 (fun n17 s18 => pAppendS w0 9 1 16 (Value.slice (Option.some (Addr.mk n17 0 Option.none)) 0 0) a0 s18 (fun v19 s20 => pVal false 1 v19 (pVal false 1 (Value.int IntKind.i64 4) (pVal false 1 (cellOf a2 2) (pVal true 5 (Value.agg (⟨[v19, Value.int IntKind.i64 4, Value.bool false, Value.int IntKind.i64 0, cellOf a2 2]⟩)) ((allOne [v19, Value.int IntKind.i64 4, Value.bool false, Value.int IntKind.i64 0, cellOf a2 2]) ∧ (pAppend w0 80 5 64 (Value.slice (Option.some (Addr.mk n0 0 Option.none)) 0 0) 1 [v19, Value.int IntKind.i64 4, Value.bool false, Value.int IntKind.i64 0, cellOf a2 2] s20 (fun v21 s22 => R v21 s22))))))))) (R (Value.slice (Option.some (Addr.mk n0 0 Option.none)) 0 0) s1)))))))
theorem vc_spec_l3Part_eq (w0 : World) (a0 a1 a2 : Value) (σ : Vw) (R : Value → Vw → Prop) : vc_spec_l3Part w0 a0 a1 a2 σ R = den Tryz.prog w0 kp_spec_l3Part esc_spec_l3Part (Tryz.f110.body.getD .skip) (entry Tryz.f110.ntmps [a0, a1, a2]) σ (retK Tryz.prog Tryz.f110.results.toList R) := by kernel_rfl
theorem ac_spec_l3Part {w0 : World} {a0 a1 a2 : Value} {σ : Vw} {R : Value → Vw → Prop} (h : vc_spec_l3Part w0 a0 a1 a2 σ R) : AC Tryz.prog w0 n_spec_l3Part [a0, a1, a2] σ R := by
  refine ac_rule (fn := Tryz.f110) (c := Tryz.f110.body.getD .skip) kp_spec_l3Part esc_spec_l3Part Tryz.func110 (by kernel_rfl) (by kernel_rfl) ?_
  rw [← vc_spec_l3Part_eq]
  exact h

/-- spec.l12Names -/
def kp_spec_l12Names : Nat → Keep
  | 3 => ⟨[5, 6], [(3, 5)], [3], .done, []⟩
  | 6 => ⟨[5, 6, 7], [(3, 5)], [3], .step 0 (.step 1 (.step 2 (.step 3 (.step 4 (.step 5 (.step 6 (.step 7 (.step 8 (.step 9 (.step 10 (.step 11 (.step 12 (.step 13 (.step 14 (.step 15 (.done)))))))))))))))), [(2, [1]), (3, [0, 1, 2]), (4, [0, 1, 2, 3]), (5, [0, 1, 2, 3, 4]), (6, [0, 1, 2, 3, 4]), (7, [0, 1, 2, 3, 4, 5, 6]), (8, [0, 1, 2, 3, 4, 5, 6, 7]), (9, [0, 1, 2, 3, 4]), (10, [0, 1, 2, 3, 4, 9]), (11, [0, 1, 2, 3, 4]), (12, [0, 1, 2, 3, 4, 9, 10, 11]), (13, [0, 1, 2, 3, 4, 9, 10, 11, 12]), (14, [0, 1, 2, 3, 4, 5, 6, 7, 8, 9, 10, 11, 12, 13]), (15, [0, 1, 2, 3, 4, 5, 6, 7, 8, 9, 10, 11, 12, 13, 14])]⟩
  | 8 => ⟨[], [], [], .step 0 (.step 1 (.step 2 (.step 3 (.step 4 (.step 5 (.step 6 (.step 7 (.step 8 (.step 9 (.step 10 (.step 11 (.step 12 (.step 13 (.step 14 (.step 15 (.done)))))))))))))))), [(2, [1]), (3, [0, 1, 2]), (4, [0, 1, 2, 3]), (5, [0, 1, 2, 3, 4]), (6, [0, 1, 2, 3, 4]), (7, [0, 1, 2, 3, 4, 5, 6]), (8, [0, 1, 2, 3, 4, 5, 6, 7]), (9, [0, 1, 2, 3, 4]), (10, [0, 1, 2, 3, 4, 9]), (11, [0, 1, 2, 3, 4]), (12, [0, 1, 2, 3, 4, 9, 10, 11]), (13, [0, 1, 2, 3, 4, 9, 10, 11, 12]), (14, [0, 1, 2, 3, 4, 5, 6, 7, 8, 9, 10, 11, 12, 13]), (15, [0, 1, 2, 3, 4, 5, 6, 7, 8, 9, 10, 11, 12, 13, 14])]⟩
  | 9 => ⟨[], [], [], .step 1 (.step 2 (.step 3 (.step 5 (.step 6 (.step 7 (.step 8 (.step 9 (.step 10 (.step 12 (.step 13 (.step 14 (.step 0 (.step 4 (.step 11 (.step 15 (.step 16 (.done))))))))))))))))), [(3, [1, 2]), (4, [0, 1, 2, 3]), (6, [5]), (8, [5, 6, 7]), (9, [5, 6, 7, 8]), (10, [5, 6, 7, 8, 9]), (11, [0, 1, 2, 3, 4, 5, 6, 7, 8, 9, 10]), (14, [12, 13]), (15, [0, 1, 2, 3, 4, 5, 6, 7, 8, 9, 10, 11, 12, 13, 14]), (16, [0, 1, 2, 3, 4, 5, 6, 7, 8, 9, 10, 11, 12, 13, 14, 15])]⟩
  | _ => ⟨[], [], [], .done, []⟩
def esc_spec_l12Names : Nat → Bool
  | 8 => true
  | 53 => true
  | _ => false
def vc_spec_l12Names (w0 : World) (a0 a1 : Value) (σ : Vw) (R : Value → Vw → Prop) : Prop :=
  pVal true 5 a0 (pVal true 5 a1 (pNew w0 9 [] σ (fun n0 s1 => pAppendS w0 9 1 16 (Value.slice (Option.some (Addr.mk n0 0 Option.none)) 0 0) (cellOf a0 3) s1 (fun v2 s3 => pLoop (fun l4 K5 s6 => pLen (vget l4 5) (fun v7 => pBin Tryz.prog 3 BinOp.lss (vget l4 1) v7 (fun v8 => pIf v8 (pLoop (fun l9 K10 s11 => pLen (vget l9 0) (fun v12 => pBin Tryz.prog 3 BinOp.lss (vget l9 2) v12 (fun v13 => pIf v13 (pIndexAddr 1 (vget l9 0) (vget l9 2) (fun v14 => pLoad w0 1 v14 s11 (fun g15 => pIndexAddr 1 (vget l9 6) (vget l9 1) (fun v16 => pLoad w0 1 v16 s11 (fun g17 => pBin Tryz.prog 9 BinOp.lss (g15 0) (g17 0) (fun v18 => pIf v18 (pBin Tryz.prog 3 BinOp.add (vget l9 2) (Value.int IntKind.i64 1) (fun v19 => K10 AX.normal [vget l9 0, vget l9 1, v19, vget l9 3, vget l9 4, vget l9 5, vget l9 6, vget l9 7] s11)) (K10 (AX.exit 2) [vget l9 0, vget l9 1, vget l9 2, vget l9 3, vget l9 4, vget l9 5, vget l9 6, vget l9 7] s11))))))) (K10 (AX.exit 2) [vget l9 0, vget l9 1, vget l9 2, vget l9 3, vget l9 4, vget l9 5, vget l9 6, vget l9 7] s11)))) [vget l4 0, vget l4 1, Value.int IntKind.i64 0, vget l4 2, vget l4 3, vget l4 4, vget l4 5, vget l4 6] s6 (fun x20 l21 s22 => match x20 with | .normal => pLen (vget l21 0) (fun v23 => pBin Tryz.prog 3 BinOp.eql (vget l21 2) v23 (fun v24 => pIf v24 (pSlice 1 (vget l21 0) Option.none (Option.some (vget l21 2)) (fun v25 => pIndexAddr 1 (vget l21 6) (vget l21 1) (fun v26 => pLoad w0 1 v26 s22 (fun g27 => pVal false 1 (g27 0) (pSlice 1 (vget l21 0) (Option.some (vget l21 2)) Option.none (fun v28 => pNew w0 9 [] s22 (fun n29 s30 => (Stay w0 s22 s30 v26 1) ∧ (pAppendS w0 9 1 16 (Value.slice (Option.some (Addr.mk n29 0 Option.none)) 0 0) v25 s30 (fun v31 s32 => (Stay w0 s30 s32 v26 1) ∧ ((allOne [g27 0]) ∧ (pAppend w0 9 1 16 v31 1 [g27 0] s32 (fun v33 s34 => pAppendS w0 9 1 16 v33 v28 s34 (fun v35 s36 => pBin Tryz.prog 3 BinOp.add (vget l21 1) (Value.int IntKind.i64 1) (fun v37 => K5 AX.normal [v35, v37, vget l21 3, vget l21 4, vget l21 5, vget l21 6, vget l21 7] s36)))))))))))))) (pIndexAddr 1 (vget l21 0) (vget l21 2) (fun v38 => pLoad w0 1 v38 s22 (fun g39 => pIndexAddr 1 (vget l21 6) (vget l21 1) (fun v40 => pLoad w0 1 v40 s22 (fun g41 => pBin Tryz.prog 9 BinOp.neq (g39 0) (g41 0) (fun v42 => pIf v42 (pSlice 1 (vget l21 0) Option.none (Option.some (vget l21 2)) (fun v43 => pIndexAddr 1 (vget l21 6) (vget l21 1) (fun v44 => pLoad w0 1 v44 s22 (fun g45 => pVal false 1 (g45 0) (pSlice 1 (vget l21 0) (Option.some (vget l21 2)) Option.none (fun v46 => pNew w0 9 [] s22 (fun n47 s48 => (Stay w0 s22 s48 v44 1) ∧ (pAppendS w0 9 1 16 (Value.slice (Option.some (Addr.mk n47 0 Option.none)) 0 0) v43 s48 (fun v49 s50 => (Stay w0 s48 s50 v44 1) ∧ ((allOne [g45 0]) ∧ (pAppend w0 9 1 16 v49 1 [g45 0] s50 (fun v51 s52 => pAppendS w0 9 1 16 v51 v46 s52 (fun v53 s54 => pBin Tryz.prog 3 BinOp.add (vget l21 1) (Value.int IntKind.i64 1) (fun v55 => K5 AX.normal [v53, v55, vget l21 3, vget l21 4, vget l21 5, vget l21 6, vget l21 7] s54)))))))))))))) (pBin Tryz.prog 3 BinOp.add (vget l21 1) (Value.int IntKind.i64 1) (fun v56 => K5 AX.normal [vget l21 0, v56, vget l21 3, vget l21 4, vget l21 5, vget l21 6, vget l21 7] s22)))))))))) | .ret => K5 AX.ret [vget l21 0, vget l21 1, vget l21 3, vget l21 4, vget l21 5, vget l21 6, vget l21 7] s22 | .exit i57 => (match Nat.beq i57 2 with | true => pLen (vget l21 0) (fun v58 => pBin Tryz.prog 3 BinOp.eql (vget l21 2) v58 (fun v59 => pIf v59 (pSlice 1 (vget l21 0) Option.none (Option.some (vget l21 2)) (fun v60 => pIndexAddr 1 (vget l21 6) (vget l21 1) (fun v61 => pLoad w0 1 v61 s22 (fun g62 => pVal false 1 (g62 0) (pSlice 1 (vget l21 0) (Option.some (vget l21 2)) Option.none (fun v63 => pNew w0 9 [] s22 (fun n64 s65 => (Stay w0 s22 s65 v61 1) ∧ (pAppendS w0 9 1 16 (Value.slice (Option.some (Addr.mk n64 0 Option.none)) 0 0) v60 s65 (fun v66 s67 => (Stay w0 s65 s67 v61 1) ∧ ((allOne [g62 0]) ∧ (pAppend w0 9 1 16 v66 1 [g62 0] s67 (fun v68 s69 => pAppendS w0 9 1 16 v68 v63 s69 (fun v70 s71 => pBin Tryz.prog 3 BinOp.add (vget l21 1) (Value.int IntKind.i64 1) (fun v72 => K5 AX.normal [v70, v72, vget l21 3, vget l21 4, vget l21 5, vget l21 6, vget l21 7] s71)))))))))))))) (pIndexAddr 1 (vget l21 0) (vget l21 2) (fun v73 => pLoad w0 1 v73 s22 (fun g74 => pIndexAddr 1 (vget l21 6) (vget l21 1) (fun v75 => pLoad w0 1 v75 s22 (fun g76 => pBin Tryz.prog 9 BinOp.neq (g74 0) (g76 0) (fun v77 => pIf v77 (pSlice 1 (vget l21 0) Option.none (Option.some (vget l21 2)) (fun v78 => pIndexAddr 1 (vget l21 6) (vget l21 1) (fun v79 => pLoad w0 1 v79 s22 (fun g80 => pVal false 1 (g80 0) (pSlice 1 (vget l21 0) (Option.some (vget l21 2)) Option.none (fun v81 => pNew w0 9 [] s22 (fun n82 s83 => (Stay w0 s22 s83 v79 1) ∧ (pAppendS w0 9 1 16 (Value.slice (Option.some (Addr.mk n82 0 Option.none)) 0 0) v78 s83 (fun v84 s85 => (Stay w0 s83 s85 v79 1) ∧ ((allOne [g80 0]) ∧ (pAppend w0 9 1 16 v84 1 [g80 0] s85 (fun v86 s87 => pAppendS w0 9 1 16 v86 v81 s87 (fun v88 s89 => pBin Tryz.prog 3 BinOp.add (vget l21 1) (Value.int IntKind.i64 1) (fun v90 => K5 AX.normal [v88, v90, vget l21 3, vget l21 4, vget l21 5, vget l21 6, vget l21 7] s89)))))))))))))) (pBin Tryz.prog 3 BinOp.add (vget l21 1) (Value.int IntKind.i64 1) (fun v91 => K5 AX.normal [vget l21 0, v91, vget l21 3, vget l21 4, vget l21 5, vget l21 6, vget l21 7] s22)))))))))) | false => (match Nat.beq i57 1 with | true => pBin Tryz.prog 3 BinOp.add (vget l21 1) (Value.int IntKind.i64 1) (fun v92 => K5 AX.normal [vget l21 0, v92, vget l21 3, vget l21 4, vget l21 5, vget l21 6, vget l21 7] s22) | false => K5 (AX.exit i57) [vget l21 0, vget l21 1, vget l21 3, vget l21 4, vget l21 5, vget l21 6, vget l21 7] s22)))) (K5 (AX.exit 0) [vget l4 0, vget l4 1, vget l4 2, vget l4 3, vget l4 4, vget l4 5, vget l4 6] s6)))) [v2, Value.int IntKind.i64 0, cellOf a1 0, cellOf a1 1, cellOf a1 2, cellOf a1 3, cellOf a1 4] s3 (fun x93 l94 s95 => match x93 with | .normal => R (vget l94 0) s95 | .ret => False | .exit i96 => (match Nat.beq i96 0 with | true => R (vget l94 0) s95 | false => False))))))
theorem vc_spec_l12Names_eq (w0 : World) (a0 a1 : Value) (σ : Vw) (R : Value → Vw → Prop) : vc_spec_l12Names w0 a0 a1 σ R = den Tryz.prog w0 kp_spec_l12Names esc_spec_l12Names (Tryz.f111.body.getD .skip) (entry Tryz.f111.ntmps [a0, a1]) σ (retK Tryz.prog Tryz.f111.results.toList R) := by kernel_rfl
theorem ac_spec_l12Names {w0 : World} {a0 a1 : Value} {σ : Vw} {R : Value → Vw → Prop} (h : vc_spec_l12Names w0 a0 a1 σ R) : AC Tryz.prog w0 n_spec_l12Names [a0, a1] σ R := by
  refine ac_rule (fn := Tryz.f111) (c := Tryz.f111.body.getD .skip) kp_spec_l12Names esc_spec_l12Names Tryz.func111 (by kernel_rfl) (by kernel_rfl) ?_
  rw [← vc_spec_l12Names_eq]
  exact h

/-- spec.l3Path -/
def kp_spec_l3Path : Nat → Keep
  | _ => ⟨[], [], [], .done, []⟩
def esc_spec_l3Path : Nat → Bool
  | 5 => true
  | _ => false
def vc_spec_l3Path (w0 : World) (a0 a1 : Value) (σ : Vw) (R : Value → Vw → Prop) : Prop :=
  pNew w0 9 [] σ (fun n0 s1 => pAppendS w0 9 1 16 (Value.slice (Option.some (Addr.mk n0 0 Option.none)) 0 0) a0 s1 (fun v2 s3 => pVal false 1 a1 ((allOne [a1]) ∧ (pAppend w0 9 1 16 v2 1 [a1] s3 (fun v4 s5 => R v4 s5)))))
theorem vc_spec_l3Path_eq (w0 : World) (a0 a1 : Value) (σ : Vw) (R : Value → Vw → Prop) : vc_spec_l3Path w0 a0 a1 σ R = den Tryz.prog w0 kp_spec_l3Path esc_spec_l3Path (Tryz.f112.body.getD .skip) (entry Tryz.f112.ntmps [a0, a1]) σ (retK Tryz.prog Tryz.f112.results.toList R) := by kernel_rfl
theorem ac_spec_l3Path {w0 : World} {a0 a1 : Value} {σ : Vw} {R : Value → Vw → Prop} (h : vc_spec_l3Path w0 a0 a1 σ R) : AC Tryz.prog w0 n_spec_l3Path [a0, a1] σ R := by
  refine ac_rule (fn := Tryz.f112) (c := Tryz.f112.body.getD .skip) kp_spec_l3Path esc_spec_l3Path Tryz.func112 (by kernel_rfl) (by kernel_rfl) ?_
  rw [← vc_spec_l3Path_eq]
  exact h

/-- (*spec.l12Look).leads -/
def kp_p_spec_l12Look_leads : Nat → Keep
  | 2 => ⟨[0, 1, 4, 5], [], [], .done, []⟩
  | _ => ⟨[], [], [], .done, []⟩
def esc_p_spec_l12Look_leads : Nat → Bool
  | _ => false
def vc_p_spec_l12Look_leads (w0 : World) (a0 a1 : Value) (σ : Vw) (R : Value → Vw → Prop) : Prop :=
  pLoop (fun l0 K1 s2 => pNil (vget l0 0) (pField 0 (vget l0 0) (fun v3 => pLoad w0 1 v3 s2 (fun g4 => pLen (g4 0) (fun v5 => pBin Tryz.prog 3 BinOp.lss (vget l0 3) v5 (fun v6 => pIf v6 (pNil (vget l0 0) (pField 0 (vget l0 0) (fun v7 => pLoad w0 1 v7 s2 (fun g8 => pIndexAddr 2 (g8 0) (vget l0 3) (fun v9 => pField 0 v9 (fun v10 => pLoad w0 1 v10 s2 (fun g11 => AC Tryz.prog w0 n_spec_l2Within [g11 0, vget l0 1] s2 (fun v12 s13 => pIf v12 (K1 AX.ret [vget l0 0, vget l0 1, Value.bool true, vget l0 3] s13) (pBin Tryz.prog 3 BinOp.add (vget l0 3) (Value.int IntKind.i64 1) (fun v14 => K1 AX.normal [vget l0 0, vget l0 1, vget l0 2, v14] s13)))))))))) (K1 (AX.exit 0) [vget l0 0, vget l0 1, vget l0 2, vget l0 3] s2))))))) [a0, a1, Value.bool false, Value.int IntKind.i64 0] σ (fun x15 l16 s17 => match x15 with | .normal => R (Value.bool false) s17 | .ret => R (vget l16 2) s17 | .exit i18 => (match Nat.beq i18 0 with | true => R (Value.bool false) s17 | false => False))
theorem vc_p_spec_l12Look_leads_eq (w0 : World) (a0 a1 : Value) (σ : Vw) (R : Value → Vw → Prop) : vc_p_spec_l12Look_leads w0 a0 a1 σ R = den Tryz.prog w0 kp_p_spec_l12Look_leads esc_p_spec_l12Look_leads (Tryz.f113.body.getD .skip) (entry Tryz.f113.ntmps [a0, a1]) σ (retK Tryz.prog Tryz.f113.results.toList R) := by kernel_rfl
theorem ac_p_spec_l12Look_leads {w0 : World} {a0 a1 : Value} {σ : Vw} {R : Value → Vw → Prop} (h : vc_p_spec_l12Look_leads w0 a0 a1 σ R) : AC Tryz.prog w0 n_p_spec_l12Look_leads [a0, a1] σ R := by
  refine ac_rule (fn := Tryz.f113) (c := Tryz.f113.body.getD .skip) kp_p_spec_l12Look_leads esc_p_spec_l12Look_leads Tryz.func113 (by kernel_rfl) (by kernel_rfl) ?_
  rw [← vc_p_spec_l12Look_leads_eq]
  exact h

/-- spec.l12Kid -/
def kp_spec_l12Kid : Nat → Keep
  | _ => ⟨[], [], [], .done, []⟩
def esc_spec_l12Kid : Nat → Bool
  | 8 => true
  | _ => false
def vc_spec_l12Kid (w0 : World) (a0 a1 : Value) (σ : Vw) (R : Value → Vw → Prop) : Prop :=
  pVal true 5 a0 (pVal false 1 a1 (pNew w0 9 [a1] σ (fun n0 s1 => AC Tryz.prog w0 n_spec_l1At ([Value.agg (⟨[cellOf a0 0, cellOf a0 1, cellOf a0 2, cellOf a0 3, cellOf a0 4]⟩), Value.slice (Option.some (Addr.mk n0 0 Option.none)) 1 1]) s1 (fun v2 s3 => pExtract v2 0 (fun v4 => pExtract v2 1 (fun v5 => pVal true 5 v4 (R (Value.tuple (⟨[Value.agg (⟨[cellOf v4 0, cellOf v4 1, cellOf v4 2, cellOf v4 3, cellOf v4 4]⟩), v5]⟩)) s3)))))))
theorem vc_spec_l12Kid_eq (w0 : World) (a0 a1 : Value) (σ : Vw) (R : Value → Vw → Prop) : vc_spec_l12Kid w0 a0 a1 σ R = den Tryz.prog w0 kp_spec_l12Kid esc_spec_l12Kid (Tryz.f114.body.getD .skip) (entry Tryz.f114.ntmps [a0, a1]) σ (retK Tryz.prog Tryz.f114.results.toList R) := by kernel_rfl
theorem ac_spec_l12Kid {w0 : World} {a0 a1 : Value} {σ : Vw} {R : Value → Vw → Prop} (h : vc_spec_l12Kid w0 a0 a1 σ R) : AC Tryz.prog w0 n_spec_l12Kid [a0, a1] σ R := by
  refine ac_rule (fn := Tryz.f114) (c := Tryz.f114.body.getD .skip) kp_spec_l12Kid esc_spec_l12Kid Tryz.func114 (by kernel_rfl) (by kernel_rfl) ?_
  rw [← vc_spec_l12Kid_eq]
  exact h

/-- impl.namesOk -/
def kp_impl_namesOk : Nat → Keep
  | 2 => ⟨[0, 1, 4, 7, 8, 9], [], [], .done, []⟩
  | _ => ⟨[], [], [], .done, []⟩
def esc_impl_namesOk : Nat → Bool
  | _ => false
def vc_impl_namesOk (w0 : World) (a0 a1 : Value) (σ : Vw) (R : Value → Vw → Prop) : Prop :=
  pLen a0 (fun v0 => pLoop (fun l1 K2 s3 => pBin Tryz.prog 3 BinOp.lss (vget l1 5) (vget l1 4) (fun v4 => pIf v4 (pIndexAddr 1 (vget l1 3) (vget l1 5) (fun v5 => pLoad w0 1 v5 s3 (fun g6 => AC Tryz.prog w0 n_impl_nameOk [g6 0] s3 (fun v7 s8 => pUn UnOp.not v7 (fun v9 => pIf v9 (K2 AX.ret [vget l1 0, vget l1 1, Value.bool false, vget l1 3, vget l1 4, vget l1 5] s8) (pBin Tryz.prog 3 BinOp.add (vget l1 5) (Value.int IntKind.i64 1) (fun v10 => K2 AX.normal [vget l1 0, vget l1 1, vget l1 2, vget l1 3, vget l1 4, v10] s8))))))) (K2 (AX.exit 0) [vget l1 0, vget l1 1, vget l1 2, vget l1 3, vget l1 4, vget l1 5] s3))) [a0, a1, Value.bool false, a0, v0, Value.int IntKind.i64 0] σ (fun x11 l12 s13 => match x11 with | .normal => pLen (vget l12 0) (fun v14 => AC Tryz.prog w0 n_impl_within [v14, vget l12 1, Value.int IntKind.i64 4] s13 (fun v15 s16 => R v15 s16)) | .ret => R (vget l12 2) s13 | .exit i17 => (match Nat.beq i17 0 with | true => pLen (vget l12 0) (fun v18 => AC Tryz.prog w0 n_impl_within [v18, vget l12 1, Value.int IntKind.i64 4] s13 (fun v19 s20 => R v19 s20)) | false => False)))
theorem vc_impl_namesOk_eq (w0 : World) (a0 a1 : Value) (σ : Vw) (R : Value → Vw → Prop) : vc_impl_namesOk w0 a0 a1 σ R = den Tryz.prog w0 kp_impl_namesOk esc_impl_namesOk (Tryz.f115.body.getD .skip) (entry Tryz.f115.ntmps [a0, a1]) σ (retK Tryz.prog Tryz.f115.results.toList R) := by kernel_rfl
theorem ac_impl_namesOk {w0 : World} {a0 a1 : Value} {σ : Vw} {R : Value → Vw → Prop} (h : vc_impl_namesOk w0 a0 a1 σ R) : AC Tryz.prog w0 n_impl_namesOk [a0, a1] σ R := by
  refine ac_rule (fn := Tryz.f115) (c := Tryz.f115.body.getD .skip) kp_impl_namesOk esc_impl_namesOk Tryz.func115 (by kernel_rfl) (by kernel_rfl) ?_
  rw [← vc_impl_namesOk_eq]
  exact h

/-- impl.begins -/
def kp_impl_begins : Nat → Keep
  | 4 => ⟨[0, 1, 4, 12, 13], [], [], .done, []⟩
  | 6 => ⟨[], [], [], .step 0 (.step 1 (.step 2 (.step 3 (.step 4 (.step 5 (.step 6 (.step 7 (.step 8 (.done))))))))), [(2, [0, 1]), (3, [0, 1, 2]), (6, [4, 5]), (7, [4, 5, 6]), (8, [0, 1, 2, 3, 4, 5, 6, 7])]⟩
  | _ => ⟨[], [], [], .done, []⟩
def esc_impl_begins : Nat → Bool
  | _ => false
def vc_impl_begins (w0 : World) (a0 a1 : Value) (σ : Vw) (R : Value → Vw → Prop) : Prop :=
  pLen a0 (fun v0 => pLen a1 (fun v1 => pBin Tryz.prog 3 BinOp.lss v0 v1 (fun v2 => pIf v2 (R (Value.bool false) σ) (pLen a1 (fun v3 => pLoop (fun l4 K5 s6 => pBin Tryz.prog 3 BinOp.lss (vget l4 4) (vget l4 3) (fun v7 => pIf v7 (pIndexAddr 1 (vget l4 0) (vget l4 4) (fun v8 => pLoad w0 1 v8 s6 (fun g9 => pIndexAddr 1 (vget l4 1) (vget l4 4) (fun v10 => pLoad w0 1 v10 s6 (fun g11 => pBin Tryz.prog 9 BinOp.neq (g9 0) (g11 0) (fun v12 => pIf v12 (K5 AX.ret [vget l4 0, vget l4 1, Value.bool false, vget l4 3, vget l4 4] s6) (pBin Tryz.prog 3 BinOp.add (vget l4 4) (Value.int IntKind.i64 1) (fun v13 => K5 AX.normal [vget l4 0, vget l4 1, vget l4 2, vget l4 3, v13] s6)))))))) (K5 (AX.exit 0) [vget l4 0, vget l4 1, vget l4 2, vget l4 3, vget l4 4] s6))) [a0, a1, Value.bool false, v3, Value.int IntKind.i64 0] σ (fun x14 l15 s16 => match x14 with | .normal => R (Value.bool true) s16 | .ret => R (vget l15 2) s16 | .exit i17 => (match Nat.beq i17 0 with | true => R (Value.bool true) s16 | false => False)))))))
theorem vc_impl_begins_eq (w0 : World) (a0 a1 : Value) (σ : Vw) (R : Value → Vw → Prop) : vc_impl_begins w0 a0 a1 σ R = den Tryz.prog w0 kp_impl_begins esc_impl_begins (Tryz.f116.body.getD .skip) (entry Tryz.f116.ntmps [a0, a1]) σ (retK Tryz.prog Tryz.f116.results.toList R) := by kernel_rfl
theorem ac_impl_begins {w0 : World} {a0 a1 : Value} {σ : Vw} {R : Value → Vw → Prop} (h : vc_impl_begins w0 a0 a1 σ R) : AC Tryz.prog w0 n_impl_begins [a0, a1] σ R := by
  refine ac_rule (fn := Tryz.f116) (c := Tryz.f116.body.getD .skip) kp_impl_begins esc_impl_begins Tryz.func116 (by kernel_rfl) (by kernel_rfl) ?_
  rw [← vc_impl_begins_eq]
  exact h

/-- spec.l2PathOk -/
def kp_spec_l2PathOk : Nat → Keep
  | 2 => ⟨[0, 2, 3], [], [], .done, []⟩
  | _ => ⟨[], [], [], .done, []⟩
def esc_spec_l2PathOk : Nat → Bool
  | _ => false
def vc_spec_l2PathOk (w0 : World) (a0 : Value) (σ : Vw) (R : Value → Vw → Prop) : Prop :=
  pLoop (fun l0 K1 s2 => pLen (vget l0 0) (fun v3 => pBin Tryz.prog 3 BinOp.lss (vget l0 2) v3 (fun v4 => pIf v4 (pIndexAddr 1 (vget l0 0) (vget l0 2) (fun v5 => pLoad w0 1 v5 s2 (fun g6 => AC Tryz.prog w0 n_spec_l1NameOk [g6 0] s2 (fun v7 s8 => pUn UnOp.not v7 (fun v9 => pIf v9 (K1 AX.ret [vget l0 0, Value.bool false, vget l0 2] s8) (pBin Tryz.prog 3 BinOp.add (vget l0 2) (Value.int IntKind.i64 1) (fun v10 => K1 AX.normal [vget l0 0, vget l0 1, v10] s8))))))) (K1 (AX.exit 0) [vget l0 0, vget l0 1, vget l0 2] s2)))) [a0, Value.bool false, Value.int IntKind.i64 0] σ (fun x11 l12 s13 => match x11 with | .normal => pLen (vget l12 0) (fun v14 => AC Tryz.prog w0 n_spec_l1In [v14, Value.int IntKind.i64 1, Value.int IntKind.i64 4] s13 (fun v15 s16 => R v15 s16)) | .ret => R (vget l12 1) s13 | .exit i17 => (match Nat.beq i17 0 with | true => pLen (vget l12 0) (fun v18 => AC Tryz.prog w0 n_spec_l1In [v18, Value.int IntKind.i64 1, Value.int IntKind.i64 4] s13 (fun v19 s20 => R v19 s20)) | false => False))
theorem vc_spec_l2PathOk_eq (w0 : World) (a0 : Value) (σ : Vw) (R : Value → Vw → Prop) : vc_spec_l2PathOk w0 a0 σ R = den Tryz.prog w0 kp_spec_l2PathOk esc_spec_l2PathOk (Tryz.f120.body.getD .skip) (entry Tryz.f120.ntmps [a0]) σ (retK Tryz.prog Tryz.f120.results.toList R) := by kernel_rfl
theorem ac_spec_l2PathOk {w0 : World} {a0 : Value} {σ : Vw} {R : Value → Vw → Prop} (h : vc_spec_l2PathOk w0 a0 σ R) : AC Tryz.prog w0 n_spec_l2PathOk [a0] σ R := by
  refine ac_rule (fn := Tryz.f120) (c := Tryz.f120.body.getD .skip) kp_spec_l2PathOk esc_spec_l2PathOk Tryz.func120 (by kernel_rfl) (by kernel_rfl) ?_
  rw [← vc_spec_l2PathOk_eq]
  exact h

/-- cmp.Compare[string] -/
def kp_cmp_Compare_string : Nat → Keep
  | _ => ⟨[], [], [], .done, []⟩
def esc_cmp_Compare_string : Nat → Bool
  | _ => false
def vc_cmp_Compare_string (w0 : World) (a0 a1 : Value) (σ : Vw) (R : Value → Vw → Prop) : Prop :=
  AC Tryz.prog w0 n_cmp_isNaN_string [a0] σ (fun v0 s1 => AC Tryz.prog w0 n_cmp_isNaN_string [a1] s1 (fun v2 s3 => pIf v0 (pIf v2 (R (Value.int IntKind.i64 0) s3) (R (Value.int IntKind.i64 (-1)) s3)) (pIf v2 (R (Value.int IntKind.i64 1) s3) (pBin Tryz.prog 9 BinOp.lss a0 a1 (fun v4 => pIf v4 (R (Value.int IntKind.i64 (-1)) s3) (pBin Tryz.prog 9 BinOp.gtr a0 a1 (fun v5 => pIf v5 (R (Value.int IntKind.i64 1) s3) (R (Value.int IntKind.i64 0) s3))))))))
theorem vc_cmp_Compare_string_eq (w0 : World) (a0 a1 : Value) (σ : Vw) (R : Value → Vw → Prop) : vc_cmp_Compare_string w0 a0 a1 σ R = den Tryz.prog w0 kp_cmp_Compare_string esc_cmp_Compare_string (Tryz.f121.body.getD .skip) (entry Tryz.f121.ntmps [a0, a1]) σ (retK Tryz.prog Tryz.f121.results.toList R) := by kernel_rfl
theorem ac_cmp_Compare_string {w0 : World} {a0 a1 : Value} {σ : Vw} {R : Value → Vw → Prop} (h : vc_cmp_Compare_string w0 a0 a1 σ R) : AC Tryz.prog w0 n_cmp_Compare_string [a0, a1] σ R := by
  refine ac_rule (fn := Tryz.f121) (c := Tryz.f121.body.getD .skip) kp_cmp_Compare_string esc_cmp_Compare_string Tryz.func121 (by kernel_rfl) (by kernel_rfl) ?_
  rw [← vc_cmp_Compare_string_eq]
  exact h

/-- spec.l1In -/
def kp_spec_l1In : Nat → Keep
  | _ => ⟨[], [], [], .done, []⟩
def esc_spec_l1In : Nat → Bool
  | _ => false
def vc_spec_l1In (w0 : World) (a0 a1 a2 : Value) (σ : Vw) (R : Value → Vw → Prop) : Prop :=
  pBin Tryz.prog 3 BinOp.geq a0 a1 (fun v0 => pIf v0 (pBin Tryz.prog 3 BinOp.leq a0 a2 (fun v1 => R v1 σ)) (R (Value.bool false) σ))
theorem vc_spec_l1In_eq (w0 : World) (a0 a1 a2 : Value) (σ : Vw) (R : Value → Vw → Prop) : vc_spec_l1In w0 a0 a1 a2 σ R = den Tryz.prog w0 kp_spec_l1In esc_spec_l1In (Tryz.f125.body.getD .skip) (entry Tryz.f125.ntmps [a0, a1, a2]) σ (retK Tryz.prog Tryz.f125.results.toList R) := by kernel_rfl
theorem ac_spec_l1In {w0 : World} {a0 a1 a2 : Value} {σ : Vw} {R : Value → Vw → Prop} (h : vc_spec_l1In w0 a0 a1 a2 σ R) : AC Tryz.prog w0 n_spec_l1In [a0, a1, a2] σ R := by
  refine ac_rule (fn := Tryz.f125) (c := Tryz.f125.body.getD .skip) kp_spec_l1In esc_spec_l1In Tryz.func125 (by kernel_rfl) (by kernel_rfl) ?_
  rw [← vc_spec_l1In_eq]
  exact h

/-- spec.l1Find -/
def kp_spec_l1Find : Nat → Keep
  | 2 => ⟨[1, 4, 5], [(2, 5)], [2], .done, []⟩
  | _ => ⟨[], [], [], .done, []⟩
def esc_spec_l1Find : Nat → Bool
  | _ => false
def vc_spec_l1Find (w0 : World) (a0 a1 : Value) (σ : Vw) (R : Value → Vw → Prop) : Prop :=
  pVal true 5 a0 (pLoop (fun l0 K1 s2 => pLen (vget l0 6) (fun v3 => pBin Tryz.prog 3 BinOp.lss (vget l0 2) v3 (fun v4 => pIf v4 (pIndexAddr 1 (vget l0 6) (vget l0 2) (fun v5 => pLoad w0 1 v5 s2 (fun g6 => pBin Tryz.prog 9 BinOp.eql (g6 0) (vget l0 0) (fun v7 => pIf v7 (K1 AX.ret [vget l0 0, vget l0 2, vget l0 2, vget l0 3, vget l0 4, vget l0 5, vget l0 6, vget l0 7] s2) (pBin Tryz.prog 3 BinOp.add (vget l0 2) (Value.int IntKind.i64 1) (fun v8 => K1 AX.normal [vget l0 0, vget l0 1, v8, vget l0 3, vget l0 4, vget l0 5, vget l0 6, vget l0 7] s2)))))) (K1 (AX.exit 0) [vget l0 0, vget l0 1, vget l0 2, vget l0 3, vget l0 4, vget l0 5, vget l0 6, vget l0 7] s2)))) [a1, Value.int IntKind.i64 0, Value.int IntKind.i64 0, cellOf a0 0, cellOf a0 1, cellOf a0 2, cellOf a0 3, cellOf a0 4] σ (fun x9 l10 s11 => match x9 with | .normal => R (Value.int IntKind.i64 (-1)) s11 | .ret => R (vget l10 1) s11 | .exit i12 => (match Nat.beq i12 0 with | true => R (Value.int IntKind.i64 (-1)) s11 | false => False)))
theorem vc_spec_l1Find_eq (w0 : World) (a0 a1 : Value) (σ : Vw) (R : Value → Vw → Prop) : vc_spec_l1Find w0 a0 a1 σ R = den Tryz.prog w0 kp_spec_l1Find esc_spec_l1Find (Tryz.f126.body.getD .skip) (entry Tryz.f126.ntmps [a0, a1]) σ (retK Tryz.prog Tryz.f126.results.toList R) := by kernel_rfl
theorem ac_spec_l1Find {w0 : World} {a0 a1 : Value} {σ : Vw} {R : Value → Vw → Prop} (h : vc_spec_l1Find w0 a0 a1 σ R) : AC Tryz.prog w0 n_spec_l1Find [a0, a1] σ R := by
  refine ac_rule (fn := Tryz.f126) (c := Tryz.f126.body.getD .skip) kp_spec_l1Find esc_spec_l1Find Tryz.func126 (by kernel_rfl) (by kernel_rfl) ?_
  rw [← vc_spec_l1Find_eq]
  exact h

/-- impl.modeOk -/
def kp_impl_modeOk : Nat → Keep
  | _ => ⟨[], [], [], .done, []⟩
def esc_impl_modeOk : Nat → Bool
  | _ => false
def vc_impl_modeOk (w0 : World) (a0 : Value) (σ : Vw) (R : Value → Vw → Prop) : Prop :=
  AC Tryz.prog w0 n_impl_within [a0, Value.int IntKind.i64 0, Value.int IntKind.i64 7] σ (fun v0 s1 => R v0 s1)
theorem vc_impl_modeOk_eq (w0 : World) (a0 : Value) (σ : Vw) (R : Value → Vw → Prop) : vc_impl_modeOk w0 a0 σ R = den Tryz.prog w0 kp_impl_modeOk esc_impl_modeOk (Tryz.f133.body.getD .skip) (entry Tryz.f133.ntmps [a0]) σ (retK Tryz.prog Tryz.f133.results.toList R) := by kernel_rfl
theorem ac_impl_modeOk {w0 : World} {a0 : Value} {σ : Vw} {R : Value → Vw → Prop} (h : vc_impl_modeOk w0 a0 σ R) : AC Tryz.prog w0 n_impl_modeOk [a0] σ R := by
  refine ac_rule (fn := Tryz.f133) (c := Tryz.f133.body.getD .skip) kp_impl_modeOk esc_impl_modeOk Tryz.func133 (by kernel_rfl) (by kernel_rfl) ?_
  rw [← vc_impl_modeOk_eq]
  exact h

/-- impl.nameOk -/
def kp_impl_nameOk : Nat → Keep
  | 2 => ⟨[0, 2, 5, 6], [], [], .done, []⟩
  | _ => ⟨[], [], [], .done, []⟩
def esc_impl_nameOk : Nat → Bool
  | _ => false
def vc_impl_nameOk (w0 : World) (a0 : Value) (σ : Vw) (R : Value → Vw → Prop) : Prop :=
  pLenS a0 (fun v0 => pLoop (fun l1 K2 s3 => pBin Tryz.prog 3 BinOp.lss (vget l1 3) (vget l1 2) (fun v4 => pIf v4 (pIndexStr (vget l1 0) (vget l1 3) (fun v5 => pBin Tryz.prog 5 BinOp.lss v5 (Value.int IntKind.u8 97) (fun v6 => pIf v6 (pIndexStr (vget l1 0) (vget l1 3) (fun v7 => pBin Tryz.prog 5 BinOp.lss v7 (Value.int IntKind.u8 48) (fun v8 => pIf v8 (K2 AX.ret [vget l1 0, Value.bool false, vget l1 2, vget l1 3] s3) (pIndexStr (vget l1 0) (vget l1 3) (fun v9 => pBin Tryz.prog 5 BinOp.gtr v9 (Value.int IntKind.u8 57) (fun v10 => pIf v10 (K2 AX.ret [vget l1 0, Value.bool false, vget l1 2, vget l1 3] s3) (pBin Tryz.prog 3 BinOp.add (vget l1 3) (Value.int IntKind.i64 1) (fun v11 => K2 AX.normal [vget l1 0, vget l1 1, vget l1 2, v11] s3)))))))) (pIndexStr (vget l1 0) (vget l1 3) (fun v12 => pBin Tryz.prog 5 BinOp.gtr v12 (Value.int IntKind.u8 122) (fun v13 => pIf v13 (pIndexStr (vget l1 0) (vget l1 3) (fun v14 => pBin Tryz.prog 5 BinOp.lss v14 (Value.int IntKind.u8 48) (fun v15 => pIf v15 (K2 AX.ret [vget l1 0, Value.bool false, vget l1 2, vget l1 3] s3) (pIndexStr (vget l1 0) (vget l1 3) (fun v16 => pBin Tryz.prog 5 BinOp.gtr v16 (Value.int IntKind.u8 57) (fun v17 => pIf v17 (K2 AX.ret [vget l1 0, Value.bool false, vget l1 2, vget l1 3] s3) (pBin Tryz.prog 3 BinOp.add (vget l1 3) (Value.int IntKind.i64 1) (fun v18 => K2 AX.normal [vget l1 0, vget l1 1, vget l1 2, v18] s3)))))))) (pBin Tryz.prog 3 BinOp.add (vget l1 3) (Value.int IntKind.i64 1) (fun v19 => K2 AX.normal [vget l1 0, vget l1 1, vget l1 2, v19] s3)))))))) (K2 (AX.exit 0) [vget l1 0, vget l1 1, vget l1 2, vget l1 3] s3))) [a0, Value.bool false, v0, Value.int IntKind.i64 0] σ (fun x20 l21 s22 => match x20 with | .normal => pLenS (vget l21 0) (fun v23 => AC Tryz.prog w0 n_impl_within [v23, Value.int IntKind.i64 1, Value.int IntKind.i64 5] s22 (fun v24 s25 => R v24 s25)) | .ret => R (vget l21 1) s22 | .exit i26 => (match Nat.beq i26 0 with | true => pLenS (vget l21 0) (fun v27 => AC Tryz.prog w0 n_impl_within [v27, Value.int IntKind.i64 1, Value.int IntKind.i64 5] s22 (fun v28 s29 => R v28 s29)) | false => False)))
theorem vc_impl_nameOk_eq (w0 : World) (a0 : Value) (σ : Vw) (R : Value → Vw → Prop) : vc_impl_nameOk w0 a0 σ R = den Tryz.prog w0 kp_impl_nameOk esc_impl_nameOk (Tryz.f134.body.getD .skip) (entry Tryz.f134.ntmps [a0]) σ (retK Tryz.prog Tryz.f134.results.toList R) := by kernel_rfl
theorem ac_impl_nameOk {w0 : World} {a0 : Value} {σ : Vw} {R : Value → Vw → Prop} (h : vc_impl_nameOk w0 a0 σ R) : AC Tryz.prog w0 n_impl_nameOk [a0] σ R := by
  refine ac_rule (fn := Tryz.f134) (c := Tryz.f134.body.getD .skip) kp_impl_nameOk esc_impl_nameOk Tryz.func134 (by kernel_rfl) (by kernel_rfl) ?_
  rw [← vc_impl_nameOk_eq]
  exact h

/-- (impl.Tree).each -/
def kp_impl_Tree_each : Nat → Keep
  | 3 => ⟨[1, 2, 13, 14, 15], [(3, 5)], [3], .done, []⟩
  | 5 => ⟨[], [], [], .step 0 (.step 1 (.step 2 (.step 3 (.step 4 (.step 5 (.step 6 (.step 8 (.step 7 (.step 9 (.done)))))))))), [(1, [0]), (3, [0, 1, 2]), (4, [0, 1, 2, 3]), (7, [5, 6]), (9, [0, 1, 2, 3, 4, 5, 6, 7, 8])]⟩
  | _ => ⟨[], [], [], .done, []⟩
def esc_impl_Tree_each : Nat → Bool
  | _ => false
def vc_impl_Tree_each (w0 : World) (a0 a1 a2 : Value) (σ : Vw) (R : Value → Vw → Prop) : Prop :=
  pVal true 5 a0 (pCallV (fun n0 l1 s2 K3 => AC Tryz.prog w0 n0 l1 s2 K3) a2 ([a1, Value.agg (⟨[cellOf a0 0, cellOf a0 1, cellOf a0 2, cellOf a0 3, cellOf a0 4]⟩)]) σ (fun v4 s5 => pLen (cellOf a0 3) (fun v6 => pLoop (fun l7 K8 s9 => pBin Tryz.prog 3 BinOp.lss (vget l7 4) (vget l7 3) (fun v10 => pIf v10 (pIndexAddr 1 (vget l7 2) (vget l7 4) (fun v11 => pLoad w0 1 v11 s9 (fun g12 => pIndexAddr 5 (vget l7 9) (vget l7 4) (fun v13 => pLoad w0 5 v13 s9 (fun g14 => AC Tryz.prog w0 n_impl_below [vget l7 0, g12 0] s9 (fun v15 s16 => (Stay w0 s9 s16 v13 5) ∧ (AC Tryz.prog w0 n_impl_Tree_each ([Value.agg (⟨[g14 0, g14 1, g14 2, g14 3, g14 4]⟩), v15, vget l7 1]) s16 (fun v17 s18 => pBin Tryz.prog 3 BinOp.add (vget l7 4) (Value.int IntKind.i64 1) (fun v19 => K8 AX.normal [vget l7 0, vget l7 1, vget l7 2, vget l7 3, v19, vget l7 5, vget l7 6, vget l7 7, vget l7 8, vget l7 9] s18))))))))) (K8 (AX.exit 0) [vget l7 0, vget l7 1, vget l7 2, vget l7 3, vget l7 4, vget l7 5, vget l7 6, vget l7 7, vget l7 8, vget l7 9] s9))) [a1, a2, cellOf a0 3, v6, Value.int IntKind.i64 0, cellOf a0 0, cellOf a0 1, cellOf a0 2, cellOf a0 3, cellOf a0 4] s5 (fun x20 l21 s22 => match x20 with | .normal => R (Value.tuple ⟨[]⟩) s22 | .ret => R (Value.tuple ⟨[]⟩) s22 | .exit i23 => (match Nat.beq i23 0 with | true => R (Value.tuple ⟨[]⟩) s22 | false => False)))))
theorem vc_impl_Tree_each_eq (w0 : World) (a0 a1 a2 : Value) (σ : Vw) (R : Value → Vw → Prop) : vc_impl_Tree_each w0 a0 a1 a2 σ R = den Tryz.prog w0 kp_impl_Tree_each esc_impl_Tree_each (Tryz.f135.body.getD .skip) (entry Tryz.f135.ntmps [a0, a1, a2]) σ (retK Tryz.prog Tryz.f135.results.toList R) := by kernel_rfl
theorem ac_impl_Tree_each {w0 : World} {a0 a1 a2 : Value} {σ : Vw} {R : Value → Vw → Prop} (h : vc_impl_Tree_each w0 a0 a1 a2 σ R) : AC Tryz.prog w0 n_impl_Tree_each [a0, a1, a2] σ R := by
  refine ac_rule (fn := Tryz.f135) (c := Tryz.f135.body.getD .skip) kp_impl_Tree_each esc_impl_Tree_each Tryz.func135 (by kernel_rfl) (by kernel_rfl) ?_
  rw [← vc_impl_Tree_each_eq]
  exact h

/-- impl.fresh$1 -/
def kp_impl_fresh_c1 : Nat → Keep
  | 1 => ⟨[], [], [], .step 0 (.step 2 (.step 4 (.step 5 (.step 6 (.step 7 (.step 8 (.step 9 (.step 1 (.step 3 (.step 10 (.step 11 (.step 12 (.step 13 (.done)))))))))))))), [(3, [1, 2]), (5, [4]), (7, [6]), (9, [8]), (10, [1, 2, 3, 4, 5, 6, 7, 8, 9]), (11, [1, 2, 3, 4, 5, 6, 7, 8, 9, 10]), (12, [0, 1, 2, 3, 4, 5, 6, 7, 8, 9, 10, 11]), (13, [0, 1, 2, 3, 4, 5, 6, 7, 8, 9, 10, 11, 12])]⟩
  | _ => ⟨[], [], [], .done, []⟩
def esc_impl_fresh_c1 : Nat → Bool
  | 6 => true
  | _ => false
def vc_impl_fresh_c1 (w0 : World) (a0 a1 a2 : Value) (σ : Vw) (R : Value → Vw → Prop) : Prop :=
  pVal true 5 a1 (pLoad w0 1 a2 σ (fun g0 => pNew w0 9 [] σ (fun n1 s2 => (Stay w0 σ s2 a2 1) ∧ (pAppendS w0 9 1 16 (Value.slice (Option.some (Addr.mk n1 0 Option.none)) 0 0) a0 s2 (fun v3 s4 => (Stay w0 s2 s4 a2 1) ∧ (pVal false 1 v3 (pVal false 1 (Value.int IntKind.i64 2) (pVal false 1 (cellOf a1 0) (pVal false 1 (cellOf a1 1) (pVal false 1 (cellOf a1 2) (pVal true 5 (Value.agg (⟨[v3, Value.int IntKind.i64 2, cellOf a1 0, cellOf a1 1, cellOf a1 2]⟩)) ((allOne [v3, Value.int IntKind.i64 2, cellOf a1 0, cellOf a1 1, cellOf a1 2]) ∧ (pAppend w0 80 5 64 (g0 0) 1 [v3, Value.int IntKind.i64 2, cellOf a1 0, cellOf a1 1, cellOf a1 2] s4 (fun v5 s6 => pVal false 1 v5 (pStore a2 [v5] s6 (fun s7 => R (Value.tuple ⟨[]⟩) s7))))))))))))))))
theorem vc_impl_fresh_c1_eq (w0 : World) (a0 a1 a2 : Value) (σ : Vw) (R : Value → Vw → Prop) : vc_impl_fresh_c1 w0 a0 a1 a2 σ R = den Tryz.prog w0 kp_impl_fresh_c1 esc_impl_fresh_c1 (Tryz.f136.body.getD .skip) (entry Tryz.f136.ntmps [a0, a1, a2]) σ (retK Tryz.prog Tryz.f136.results.toList R) := by kernel_rfl
theorem ac_impl_fresh_c1 {w0 : World} {a0 a1 a2 : Value} {σ : Vw} {R : Value → Vw → Prop} (h : vc_impl_fresh_c1 w0 a0 a1 a2 σ R) : AC Tryz.prog w0 n_impl_fresh_c1 [a0, a1, a2] σ R := by
  refine ac_rule (fn := Tryz.f136) (c := Tryz.f136.body.getD .skip) kp_impl_fresh_c1 esc_impl_fresh_c1 Tryz.func136 (by kernel_rfl) (by kernel_rfl) ?_
  rw [← vc_impl_fresh_c1_eq]
  exact h

/-- slices.ContainsFunc[[]impl.Mark,impl.Mark] -/
def kp_slices_ContainsFunc_impl_Mark_impl_Mark : Nat → Keep
  | _ => ⟨[], [], [], .done, []⟩
def esc_slices_ContainsFunc_impl_Mark_impl_Mark : Nat → Bool
  | _ => false
def vc_slices_ContainsFunc_impl_Mark_impl_Mark (w0 : World) (a0 a1 : Value) (σ : Vw) (R : Value → Vw → Prop) : Prop :=
  AC Tryz.prog w0 n_slices_IndexFunc_impl_Mark_impl_Mark [a0, a1] σ (fun v0 s1 => pBin Tryz.prog 3 BinOp.geq v0 (Value.int IntKind.i64 0) (fun v2 => R v2 s1))
theorem vc_slices_ContainsFunc_impl_Mark_impl_Mark_eq (w0 : World) (a0 a1 : Value) (σ : Vw) (R : Value → Vw → Prop) : vc_slices_ContainsFunc_impl_Mark_impl_Mark w0 a0 a1 σ R = den Tryz.prog w0 kp_slices_ContainsFunc_impl_Mark_impl_Mark esc_slices_ContainsFunc_impl_Mark_impl_Mark (Tryz.f137.body.getD .skip) (entry Tryz.f137.ntmps [a0, a1]) σ (retK Tryz.prog Tryz.f137.results.toList R) := by kernel_rfl
theorem ac_slices_ContainsFunc_impl_Mark_impl_Mark {w0 : World} {a0 a1 : Value} {σ : Vw} {R : Value → Vw → Prop} (h : vc_slices_ContainsFunc_impl_Mark_impl_Mark w0 a0 a1 σ R) : AC Tryz.prog w0 n_slices_ContainsFunc_impl_Mark_impl_Mark [a0, a1] σ R := by
  refine ac_rule (fn := Tryz.f137) (c := Tryz.f137.body.getD .skip) kp_slices_ContainsFunc_impl_Mark_impl_Mark esc_slices_ContainsFunc_impl_Mark_impl_Mark Tryz.func137 (by kernel_rfl) (by kernel_rfl) ?_
  rw [← vc_slices_ContainsFunc_impl_Mark_impl_Mark_eq]
  exact h

/-- impl.marked$1 -/
def kp_impl_marked_c1 : Nat → Keep
  | _ => ⟨[], [], [], .done, []⟩
def esc_impl_marked_c1 : Nat → Bool
  | _ => false
def vc_impl_marked_c1 (w0 : World) (a0 a1 : Value) (σ : Vw) (R : Value → Vw → Prop) : Prop :=
  pVal true 2 a0 (pLoad w0 1 a1 σ (fun g0 => AC Tryz.prog w0 n_slices_Equal_string_string [cellOf a0 0, g0 0] σ (fun v1 s2 => R v1 s2)))
theorem vc_impl_marked_c1_eq (w0 : World) (a0 a1 : Value) (σ : Vw) (R : Value → Vw → Prop) : vc_impl_marked_c1 w0 a0 a1 σ R = den Tryz.prog w0 kp_impl_marked_c1 esc_impl_marked_c1 (Tryz.f138.body.getD .skip) (entry Tryz.f138.ntmps [a0, a1]) σ (retK Tryz.prog Tryz.f138.results.toList R) := by kernel_rfl
theorem ac_impl_marked_c1 {w0 : World} {a0 a1 : Value} {σ : Vw} {R : Value → Vw → Prop} (h : vc_impl_marked_c1 w0 a0 a1 σ R) : AC Tryz.prog w0 n_impl_marked_c1 [a0, a1] σ R := by
  refine ac_rule (fn := Tryz.f138) (c := Tryz.f138.body.getD .skip) kp_impl_marked_c1 esc_impl_marked_c1 Tryz.func138 (by kernel_rfl) (by kernel_rfl) ?_
  rw [← vc_impl_marked_c1_eq]
  exact h

/-- slices.Equal[[]string,string] -/
def kp_slices_Equal_string_string : Nat → Keep
  | 4 => ⟨[0, 1, 4, 12, 13], [], [], .done, []⟩
  | 6 => ⟨[], [], [], .step 0 (.step 1 (.step 2 (.step 3 (.step 4 (.step 5 (.step 6 (.step 7 (.step 8 (.done))))))))), [(2, [0, 1]), (3, [0, 1, 2]), (6, [4, 5]), (7, [4, 5, 6]), (8, [0, 1, 2, 3, 4, 5, 6, 7])]⟩
  | _ => ⟨[], [], [], .done, []⟩
def esc_slices_Equal_string_string : Nat → Bool
  | _ => false
def vc_slices_Equal_string_string (w0 : World) (a0 a1 : Value) (σ : Vw) (R : Value → Vw → Prop) : Prop :=
  pLen a0 (fun v0 => pLen a1 (fun v1 => pBin Tryz.prog 3 BinOp.neq v0 v1 (fun v2 => pIf v2 (R (Value.bool false) σ) (pLen a0 (fun v3 => pLoop (fun l4 K5 s6 => pBin Tryz.prog 3 BinOp.lss (vget l4 4) (vget l4 3) (fun v7 => pIf v7 (pIndexAddr 1 (vget l4 0) (vget l4 4) (fun v8 => pLoad w0 1 v8 s6 (fun g9 => pIndexAddr 1 (vget l4 1) (vget l4 4) (fun v10 => pLoad w0 1 v10 s6 (fun g11 => pBin Tryz.prog 9 BinOp.neq (g9 0) (g11 0) (fun v12 => pIf v12 (K5 AX.ret [vget l4 0, vget l4 1, Value.bool false, vget l4 3, vget l4 4] s6) (pBin Tryz.prog 3 BinOp.add (vget l4 4) (Value.int IntKind.i64 1) (fun v13 => K5 AX.normal [vget l4 0, vget l4 1, vget l4 2, vget l4 3, v13] s6)))))))) (K5 (AX.exit 0) [vget l4 0, vget l4 1, vget l4 2, vget l4 3, vget l4 4] s6))) [a0, a1, Value.bool false, v3, Value.int IntKind.i64 0] σ (fun x14 l15 s16 => match x14 with | .normal => R (Value.bool true) s16 | .ret => R (vget l15 2) s16 | .exit i17 => (match Nat.beq i17 0 with | true => R (Value.bool true) s16 | false => False)))))))
theorem vc_slices_Equal_string_string_eq (w0 : World) (a0 a1 : Value) (σ : Vw) (R : Value → Vw → Prop) : vc_slices_Equal_string_string w0 a0 a1 σ R = den Tryz.prog w0 kp_slices_Equal_string_string esc_slices_Equal_string_string (Tryz.f139.body.getD .skip) (entry Tryz.f139.ntmps [a0, a1]) σ (retK Tryz.prog Tryz.f139.results.toList R) := by kernel_rfl
theorem ac_slices_Equal_string_string {w0 : World} {a0 a1 : Value} {σ : Vw} {R : Value → Vw → Prop} (h : vc_slices_Equal_string_string w0 a0 a1 σ R) : AC Tryz.prog w0 n_slices_Equal_string_string [a0, a1] σ R := by
  refine ac_rule (fn := Tryz.f139) (c := Tryz.f139.body.getD .skip) kp_slices_Equal_string_string esc_slices_Equal_string_string Tryz.func139 (by kernel_rfl) (by kernel_rfl) ?_
  rw [← vc_slices_Equal_string_string_eq]
  exact h

end Go.Proofs.YtkbhjejalkbogaaGreat
